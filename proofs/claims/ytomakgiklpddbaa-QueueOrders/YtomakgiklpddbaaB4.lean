/- The queue, plainly: Next; QueueStrata. The queue, plainly: QueueStrata, its second half. The queue, plainly: what drains in order. The queue, plainly: updates drained in order. netlablaw16.QueueStrata: its loops. netlablaw16.drain, of updates alone. The queue, plainly: updates put in. netlablaw16.QueueOrders: its first loop. netlablaw16.QueueOrders: its first loop. netlablaw16.QueueOrders: its second loop. netlablaw16.QueueStrata returns true. netlablaw16.QueueOrders returns true. netlablaw16.QueueOrders returns true: joined. The arguments of the queue's laws, opened. The arguments of QueueOrders and QueueChoices, opened. -/
import Derived.Test.YtomakgiklpddbaaB3
import Derived.Carry
set_option linter.unusedSimpArgs false
set_option linter.unusedVariables false
namespace Go.Ab.Q
open Go.Proofs
set_option linter.unusedSimpArgs false
set_option linter.unusedVariables false
set_option maxRecDepth 100000
set_option maxHeartbeats 4000000
attribute [local push_cast] wpA_skip wpA_ret wpA_exit wpA_seq wpA_block wpA_cond2 andK_true wpA_region wpA_draw wpA_loop thenQ_normal thenQ_ret thenQ_exit blockQ_normal blockQ_ret blockQ_exit condV_true condV_false opsM_nil opsM_cons2 okM_true wantM_true wantM_false stepM seqM_cons2 seqM_nil2 okS_true wantS_true wantS_false stepS skipS okB Keeps_nil contK_app List.zip_cons_cons List.zip_nil_left List.zip_nil_right Op.operands Call.operands Array.toList_append List.append_nil List.nil_append List.all_cons List.all_nil cOK plain put_n put_tm put_none put_df ev_tmp ev_const ev_func wanted_none wanted_some callR_func dop ex_some1 aBuiltin aBin intBin aUn Option.map_some Bool.and_true Bool.true_and Bool.and_self List.map_cons List.map_nil List.toList_toArray List.getElem?_toArray List.getElem?_cons_zero List.getElem?_cons_succ Option.getD_some Option.getD_none Bool.false_eq_true eq_self_iff_true decide_true decide_false List.cons_append aExtract resL resV List.getD_cons_zero List.getD_cons_succ List.getD_nil Nat.succ_ne_self g1 g2 yieldedA2 isB_bool isB_undef g3 Option.bind_some Option.bind_none bne_self_eq_false beq_self_eq_true Bool.not_true Bool.not_false Int.toNat_natCast List.length_map List.mem_cons List.not_mem_nil or_false not_false_eq_true decide_not Bool.not_not bodyR_ret2 bodyR_normal2 closeMarks_nil ex_some0 Nat.zero_add Nat.add_zero ieq ine List.map_toArray Option.toArray_none Option.toArray_some oev Keeps_cons Still_eq selL wpX_skip wpX_ret wpX_exit wpX_seq wpX_block wpX_cond wpX_region wpX_draw wpX_loop List.take_succ_cons List.take_zero List.drop_succ_cons List.drop_zero Int.zero_add Int.add_zero aNil if_true if_false true_and and_true

theorem listE_length (s : QS) : (listE s).length = s.drives.length + s.evals.length + s.threads.length + (heads s.ready).length := by
  unfold listE
  simp only [List.length_append, List.length_map, keysL_len]
  omega

theorem heads_nil {l : List (List Ev)} : heads l = [] ↔ ∀ j, l.getD j [] = [] := by
  constructor
  · intro h
    induction l with
    | nil => intro j; rfl
    | cons x l ih =>
      cases x with
      | nil =>
        intro j
        cases j with
        | zero => rfl
        | succ j => exact ih h j
      | cons y t => exact absurd h (by simp [heads])
  · intro h
    induction l with
    | nil => rfl
    | cons x l ih =>
      have h0 := h 0
      rw [List.getD_cons_zero] at h0
      subst h0
      exact ih (fun j => h (j + 1))
theorem heads_sum {l : List (List Ev)} : heads l = [] ↔ sumL List.length l = 0 := by
  induction l with
  | nil => exact ⟨fun _ => rfl, fun _ => rfl⟩
  | cons x l ih =>
    cases x with
    | nil => simp only [heads, sumL, List.length_nil, Nat.zero_add]; exact ih
    | cons y t => simp [heads, sumL]

theorem QOK.act1 {s : QS} (o : QOK s) : QOK (act1 s) := by
  unfold Go.Ab.Q.act1
  split
  · exact { o with kt := o.kq, kq := o.kt }
  · exact o
theorem QOK.act2 {s : QS} (o : QOK s) : QOK (act2 s) := by
  unfold Go.Ab.Q.act2
  split
  · have hfix : ∀ x ∈ s.waiting, x.index.toNat < s.ready.length := fun x hx => by have := o.wi x hx; have := o.rl; omega
    have hsum := pour_sum s.waiting s.ready hfix
    have hh := o.held
    have hh2 : s.held = ((([] : List Ev).length : Nat) : Int) + (sumL List.length (pour s.ready s.waiting) : Nat) + (sumL (fun p => p.2.updates.length) s.later : Nat) := by
      rw [hsum, hh]; simp; omega
    have hri : ∀ i, i < 64 → ∀ x ∈ (pour s.ready s.waiting).getD i [], x.index = i ∧ x.kind = 4 := by
      intro i hi x hx
      rcases pour_mem _ _ _ _ hx with hx | ⟨hx, e⟩
      · exact o.ri i hi x hx
      · have := o.wi x hx; exact ⟨by omega, this.2.2⟩
    exact { o with rl := by rw [pour_len]; exact o.rl, held := hh2, wi := fun x hx => (nomatch hx), ri := hri }
  · exact o
theorem QOK.act {s : QS} (o : QOK s) : QOK (actS s) := o.act1.act2

theorem next_some {s : QS} (o : QOK s) (h : listE (actS s) ≠ []) : ∃ x, x ∈ listE (actS s) ∧ Act (actS s) x ∧ nextS s = (x, true, remS { actS s with left := (actS s).left.tail } x) := by
  have hl : 0 < (listE (actS s)).length := by
    cases hE : listE (actS s) with
    | nil => exact absurd hE h
    | cons x l => simp
  have hp := pickS_lt o.act (n := (listE (actS s)).length) (by omega)
  have hlt : (pickS (actS s) (listE (actS s)).length).toNat < (listE (actS s)).length := by omega
  have hm : (listE (actS s)).getD (pickS (actS s) (listE (actS s)).length).toNat v0 ∈ listE (actS s) := by
    rw [List.getD_eq_getElem?_getD, List.getElem?_eq_getElem hlt]; exact List.getElem_mem hlt
  exact ⟨_, hm, act_of o.act hm, by unfold nextS; rw [if_neg h]⟩
theorem next_none {s : QS} (h : listE (actS s) = []) : nextS s = (v0, false, actS s) := by unfold nextS; rw [if_pos h]
theorem act_same {s : QS} (h : listE s ≠ []) : actS s = s := by
  have h1 : act1 s = s := by unfold act1; rw [if_neg h]
  unfold actS; rw [h1]; unfold act2; rw [if_neg h]

theorem adel_len {α : Type} {k : Int} : ∀ {l : List (Int × α)}, (∃ p ∈ l, p.1 = k) → (adel k l).length + 1 = l.length := by
  intro l
  induction l with
  | nil => rintro ⟨p, h, _⟩; cases h
  | cons q l ih =>
    rintro ⟨p, h, e⟩
    by_cases hq : q.1 = k
    · simp only [adel, if_pos hq, List.length_cons]
    · simp only [adel, if_neg hq, List.length_cons]
      have : (adel k l).length + 1 = l.length := ih ⟨p, by
        rcases List.mem_cons.1 h with rfl | h
        · exact absurd e hq
        · exact h, e⟩
      omega
theorem aput_len2 {α : Type} {k : Int} {x : α} {l : List (Int × α)} (h : ∀ p ∈ l, p.1 ≠ k) : (aput k x l).length = l.length + 1 := by
  have : aget k l = none := aget_none.2 (fun hm => by
    obtain ⟨p, hp, e⟩ := List.mem_map.1 hm
    exact h p hp e)
  rw [aput_new x this, List.length_append]; rfl

/-! ### QueueStrata -/

/-- Nothing but threads, evaluations, quiet and waiting ones. -/
structure SA (s : QS) : Prop where
  ok : QOK s
  d : s.drives = []
  l : s.later = []

def eU : Ev := ⟨4, 5, 99⟩

structure I0 (s : QS) (i : Nat) : Prop extends SA s where
  e : s.evals = []
  t : s.threads = []
  q : s.quiet = []
  r : heads s.ready = []
  w : s.waiting.length = i
structure I2 (s : QS) (c i : Nat) : Prop extends SA s where
  e : s.evals = []
  t : s.threads = []
  q : s.quiet.length = i
  qk : ∀ p ∈ s.quiet, 20 ≤ p.1 ∧ p.1 < 20 + i
  r : heads s.ready = []
  w : s.waiting.length = c
structure I4 (s : QS) (c b i : Nat) : Prop extends SA s where
  e : s.evals.length = i
  ek : ∀ p ∈ s.evals, 0 ≤ p.1 ∧ p.1 < i
  t : s.threads.length = i
  tk : ∀ p ∈ s.threads, 0 ≤ p.1 ∧ p.1 < i
  q : s.quiet.length = b
  qk : ∀ p ∈ s.quiet, 20 ≤ p.1
  r : heads s.ready = []
  w : s.waiting.length = c
structure I6 (s : QS) (c b n : Nat) : Prop extends SA s where
  e : s.evals.length + s.threads.length = n
  tk : ∀ p ∈ s.threads, p.1 < 20
  q : s.quiet.length = b
  qk : ∀ p ∈ s.quiet, 20 ≤ p.1
  r : heads s.ready = []
  w : s.waiting.length = c
/-- Of the quiet threads n are left. -/
structure I8 (s : QS) (c n : Nat) : Prop extends SA s where
  e : s.evals = []
  t : (s.threads = [] ∧ s.quiet.length = n ∧ ∀ p ∈ s.quiet, 20 ≤ p.1) ∨ (s.quiet = [] ∧ s.threads.length = n ∧ ∀ p ∈ s.threads, 20 ≤ p.1)
  r : heads s.ready = []
  w : s.waiting.length = c
/-- Of the updates n are left; i others wait. -/
structure I10 (s : QS) (n i : Nat) : Prop extends SA s where
  e : s.evals = []
  t : s.threads = []
  q : s.quiet = []
  r : (heads s.ready = [] ∧ s.waiting.length = n ∧ i = 0) ∨ (sumL List.length s.ready = n ∧ s.waiting = List.replicate i eU)
structure I12 (s : QS) (n : Nat) : Prop extends SA s where
  e : s.evals = []
  t : s.threads = []
  q : s.quiet = []
  r : (heads s.ready = [] ∧ s.waiting = List.replicate n eU) ∨ (s.waiting = [] ∧ s.ready.getD 5 [] = List.replicate n eU ∧ ∀ j, j ≠ 5 → s.ready.getD j [] = [])

theorem SA.held {s : QS} (a : SA s) : s.held = s.waiting.length + (sumL List.length s.ready : Nat) := by
  have := a.ok.held
  rw [a.l] at this
  simpa [sumL] using this

theorem upd_ok {s : QS} (a : SA s) {i tag : Int} (hi : 0 ≤ i ∧ i < 64) (hh : s.held < 20000) : atE s s.now ⟨4, i, tag⟩ = 0 ∧ atS s s.now ⟨4, i, tag⟩ = { s with held := s.held + 1, waiting := s.waiting ++ [⟨4, i, tag⟩] } := by
  have h0 := a.ok.now0
  have h1 := a.ok.now1
  have e : atE s s.now ⟨4, i, tag⟩ = 0 := by
    have k : kOK 4 = true := rfl
    have b : atBad s s.now ⟨4, i, tag⟩ = false := decide_eq_false (by show ¬ (¬ (0 ≤ i ∧ i < 64) ∨ s.now < s.now ∨ 1000000000000 < s.now); omega)
    have f : atFull s ⟨4, i, tag⟩ = false := decide_eq_false (by show ¬ ((4 : Int) = 4 ∧ 20000 ≤ s.held); omega)
    unfold atE
    rw [if_neg (by rw [k]; simp), if_neg (by rw [b]; simp), if_neg (by rw [f]; simp)]
  refine ⟨e, ?_⟩
  unfold atS
  rw [if_pos e]
  unfold at1
  rw [if_neg (by show ¬ ((4 : Int) = 1); decide), if_neg (by show ¬ ((4 : Int) = 3); decide), if_pos rfl]
theorem SA.wait {s : QS} (a : SA s) {i tag : Int} (hi : 0 ≤ i ∧ i < 64) (hh : s.held < 20000) : SA { s with held := s.held + 1, waiting := s.waiting ++ [⟨4, i, tag⟩] } :=
  ⟨a.ok.wait (x := ⟨4, i, tag⟩) ⟨hi.1, hi.2, rfl⟩ hh, a.d, a.l⟩

theorem I0.up {s : QS} {i : Nat} (x : I0 s i) (hi : i < 10) {k tag : Int} (hk : 0 ≤ k ∧ k < 64) : atE s s.now ⟨4, k, tag⟩ = 0 ∧ I0 (atS s s.now ⟨4, k, tag⟩) (i + 1) := by
  have hh : s.held < 20000 := by have := x.held; have := heads_sum.1 x.r; have := x.w; omega
  obtain ⟨h1, h2⟩ := upd_ok x.toSA (tag := tag) hk hh
  refine ⟨h1, ?_⟩
  rw [h2]
  exact ⟨x.wait hk hh, x.e, x.t, x.q, x.r, by simp [x.w]⟩
theorem I0.to {s : QS} {c : Nat} (x : I0 s c) : I2 s c 0 := ⟨x.toSA, x.e, x.t, by rw [x.q]; rfl, (fun p hp => by rw [x.q] at hp; cases hp), x.r, x.w⟩
theorem I2.up {s : QS} {c i : Nat} (x : I2 s c i) (hi : i < 10) : I2 { s with quiet := aput (20 + i) true s.quiet } c (i + 1) := by
  have hne : ∀ p ∈ s.quiet, p.1 ≠ 20 + (i : Int) := fun p hp => by have := x.qk p hp; omega
  refine ⟨⟨{ x.ok with kq := fun p hp => ?_ }, x.d, x.l⟩, x.e, x.t, ?_, fun p hp => ?_, x.r, x.w⟩
  · rcases mem_aput hp with rfl | hp
    · exact ⟨by show (0 : Int) ≤ 20 + i; omega, by show (20 + i : Int) < 64; omega⟩
    · exact x.ok.kq p hp
  · show (aput _ _ _).length = _; rw [aput_len2 hne, x.q]
  · rcases mem_aput hp with rfl | hp
    · exact ⟨by show (20 : Int) ≤ 20 + i; omega, by show (20 + i : Int) < 20 + (i + 1 : Nat); omega⟩
    · have := x.qk p hp; omega
theorem I2.to {s : QS} {c b : Nat} (x : I2 s c b) : I4 s c b 0 := ⟨x.toSA, by rw [x.e]; rfl, (fun p hp => by rw [x.e] at hp; cases hp), by rw [x.t]; rfl, (fun p hp => by rw [x.t] at hp; cases hp), x.q, fun p hp => (x.qk p hp).1, x.r, x.w⟩
theorem I4.up {s : QS} {c b i : Nat} (x : I4 s c b i) (hi : i < 10) : I4 { s with evals := aput i true s.evals, threads := aput i true s.threads } c b (i + 1) := by
  have hne1 : ∀ p ∈ s.evals, p.1 ≠ (i : Int) := fun p hp => by have := x.ek p hp; omega
  have hne2 : ∀ p ∈ s.threads, p.1 ≠ (i : Int) := fun p hp => by have := x.tk p hp; omega
  refine ⟨⟨{ x.ok with ke := fun p hp => ?_, kt := fun p hp => ?_ }, x.d, x.l⟩, ?_, fun p hp => ?_, ?_, fun p hp => ?_, x.q, x.qk, x.r, x.w⟩
  · rcases mem_aput hp with rfl | hp
    · exact ⟨by show (0 : Int) ≤ i; omega, by show (i : Int) < 64; omega⟩
    · exact x.ok.ke p hp
  · rcases mem_aput hp with rfl | hp
    · exact ⟨by show (0 : Int) ≤ i; omega, by show (i : Int) < 64; omega⟩
    · exact x.ok.kt p hp
  · show (aput _ _ _).length = _; rw [aput_len2 hne1, x.e]
  · rcases mem_aput hp with rfl | hp
    · exact ⟨by show (0 : Int) ≤ i; omega, by show (i : Int) < (i + 1 : Nat); omega⟩
    · have := x.ek p hp; omega
  · show (aput _ _ _).length = _; rw [aput_len2 hne2, x.t]
  · rcases mem_aput hp with rfl | hp
    · exact ⟨by show (0 : Int) ≤ i; omega, by show (i : Int) < (i + 1 : Nat); omega⟩
    · have := x.tk p hp; omega
theorem I4.to {s : QS} {c b a : Nat} (x : I4 s c b a) (ha : a < 10) : I6 s c b (2 * a) := ⟨x.toSA, by rw [x.e, x.t]; omega, fun p hp => by have := x.tk p hp; omega, x.q, x.qk, x.r, x.w⟩

theorem SA.rem {s : QS} (a : SA s) {x : Ev} (h : Act s x) : SA (remS { s with left := s.left.tail } x) := by
  have o : QOK { s with left := s.left.tail } := { a.ok with left := by have := a.ok.left; show s.left.tail.length ≤ _; rw [List.length_tail]; omega, uu := fun y hy => a.ok.uu y (List.mem_of_mem_tail hy) }
  have h' : Act { s with left := s.left.tail } x := by cases h with
    | drive a b => exact .drive a b
    | eval a b => exact .eval a b
    | thread a b => exact .thread a b
    | update a j t b c d => exact .update a j t b c d
  refine ⟨o.rem h', ?_, ?_⟩
  · have ed := a.d
    unfold remS
    split
    · show adel _ s.drives = []; rw [ed]; rfl
    split
    · exact ed
    split
    · exact ed
    · exact ed
  · have el := a.l
    unfold remS
    split
    · exact el
    split
    · exact el
    split
    · exact el
    · exact el

theorem I6.next {s : QS} {c b n : Nat} (x : I6 s c b (n + 1)) : ∃ y, nextS s = (y, true, remS { s with left := s.left.tail } y) ∧ y.kind ≠ 4 ∧ ¬ (y.kind = 3 ∧ y.index ≥ 20) ∧ I6 (remS { s with left := s.left.tail } y) c b n := by
  have hl : listE s ≠ [] := fun e => by
    have := listE_length s
    rw [e, x.d, x.r] at this
    have := x.e
    simp at *; omega
  have hs := act_same hl
  obtain ⟨y, hy, ha, hn⟩ := next_some x.ok (by rw [hs]; exact hl)
  rw [hs] at hn ha
  refine ⟨y, hn, ?_⟩
  have sa := x.rem ha
  cases ha with
  | drive hk hi => obtain ⟨p, hp, _⟩ := hi; rw [x.d] at hp; cases hp
  | eval hk hi =>
    have er : remS { s with left := s.left.tail } y = { s with left := s.left.tail, evals := adel y.index s.evals } := by unfold remS; rw [if_neg (by omega), if_pos hk]
    refine ⟨by omega, by omega, ?_⟩
    have hd := adel_len hi
    have := x.e
    refine ⟨sa, ?_, ?_, ?_, ?_, ?_, ?_⟩ <;> rw [er]
    · show (adel y.index s.evals).length + s.threads.length = n; omega
    · exact x.tk
    · exact x.q
    · exact x.qk
    · exact x.r
    · exact x.w
  | thread hk hi =>
    have er : remS { s with left := s.left.tail } y = { s with left := s.left.tail, threads := adel y.index s.threads } := by unfold remS; rw [if_neg (by omega), if_neg (by omega), if_pos hk]
    obtain ⟨p, hp, hpi⟩ := hi
    have h20 := x.tk p hp
    refine ⟨by omega, by omega, ?_⟩
    have hd := adel_len ⟨p, hp, hpi⟩
    have := x.e
    refine ⟨sa, ?_, ?_, ?_, ?_, ?_, ?_⟩ <;> rw [er]
    · show s.evals.length + (adel y.index s.threads).length = n; omega
    · exact fun p hp => x.tk p (mem_adel hp)
    · exact x.q
    · exact x.qk
    · exact x.r
    · exact x.w
  | update hk j t hj hi hr => rw [heads_nil.1 x.r j] at hr; cases hr

theorem I6.to {s : QS} {c b : Nat} (x : I6 s c b 0) : I8 s c b := by
  have := x.e
  exact ⟨x.toSA, List.eq_nil_of_length_eq_zero (by omega), .inl ⟨List.eq_nil_of_length_eq_zero (by omega), x.q, x.qk⟩, x.r, x.w⟩


theorem SA.swap {s : QS} (a : SA s) : SA (swapT s) := ⟨{ a.ok with kt := a.ok.kq, kq := a.ok.kt }, a.d, a.l⟩

theorem listE_nil {s : QS} (a : SA s) (he : s.evals = []) (ht : s.threads = []) (hr : heads s.ready = []) : listE s = [] := by
  have := listE_length s
  rw [a.d, he, ht, hr] at this
  exact List.eq_nil_of_length_eq_zero (by simpa using this)
theorem listE_ne {s : QS} (h : 0 < s.threads.length ∨ heads s.ready ≠ []) : listE s ≠ [] := fun e => by
  have := listE_length s
  rw [e] at this
  rcases h with h | h
  · rw [List.length_nil] at this; omega
  · have h2 : (heads s.ready).length ≠ 0 := fun e => h (List.eq_nil_of_length_eq_zero e)
    rw [List.length_nil] at this; omega

theorem I8.next {s : QS} {c n : Nat} (x : I8 s c (n + 1)) : ∃ y s', nextS s = (y, true, s') ∧ y.kind = 3 ∧ 20 ≤ y.index ∧ I8 s' c n ∧ (listE s').length = n ∧ s'.quiet = [] := by
  -- the state whose threads are the quiet ones
  have key : ∀ s1 : QS, actS s = s1 → SA s1 → s1.evals = [] → s1.quiet = [] → s1.threads.length = n + 1 → (∀ p ∈ s1.threads, 20 ≤ p.1) → heads s1.ready = [] → s1.waiting.length = c →
      ∃ y s', nextS s = (y, true, s') ∧ y.kind = 3 ∧ 20 ≤ y.index ∧ I8 s' c n ∧ (listE s').length = n ∧ s'.quiet = [] := by
    intro s1 hs sa he hq ht hk hr hw
    have hne : listE s1 ≠ [] := listE_ne (.inl (by omega))
    obtain ⟨y, hy, ha, hn⟩ := next_some x.ok (by rw [hs]; exact hne)
    rw [hs] at hn ha
    have sa' := sa.rem ha
    refine ⟨y, _, hn, ?_⟩
    cases ha with
    | drive hk hi => obtain ⟨p, hp, _⟩ := hi; rw [sa.d] at hp; cases hp
    | eval hk hi => obtain ⟨p, hp, _⟩ := hi; rw [he] at hp; cases hp
    | thread hky hi =>
      have er : remS { s1 with left := s1.left.tail } y = { s1 with left := s1.left.tail, threads := adel y.index s1.threads } := by unfold remS; rw [if_neg (by omega), if_neg (by omega), if_pos hky]
      have hd := adel_len hi
      obtain ⟨p, hp, hpi⟩ := hi
      have h20 := hk p hp
      have hI : I8 (remS { s1 with left := s1.left.tail } y) c n := by
        refine ⟨sa', ?_, .inr ⟨?_, ?_, ?_⟩, ?_, ?_⟩ <;> rw [er]
        · exact he
        · exact hq
        · show (adel y.index s1.threads).length = n; omega
        · exact fun p hp => hk p (mem_adel hp)
        · exact hr
        · exact hw
      refine ⟨hky, by omega, hI, ?_, ?_⟩
      · rw [listE_length, hI.d, hI.e, hI.r, er]
        show 0 + 0 + (adel y.index s1.threads).length + 0 = n; omega
      · rw [er]; exact hq
    | update hk j t hj hi hr' => rw [heads_nil.1 hr j] at hr'; cases hr'
  rcases x.t with ⟨ht, hq, hk⟩ | ⟨hq, ht, hk⟩
  · have h0 : listE s = [] := listE_nil x.toSA x.e ht x.r
    have h1 : act1 s = swapT s := by unfold act1; rw [if_pos h0]
    have hne : listE (swapT s) ≠ [] := listE_ne (.inl (by show 0 < s.quiet.length; omega))
    have h2 : actS s = swapT s := by unfold actS; rw [h1]; unfold act2; rw [if_neg hne]
    exact key _ h2 x.swap x.e ht hq hk x.r x.w
  · have hne : listE s ≠ [] := listE_ne (.inl (by omega))
    exact key s (act_same hne) x.toSA x.e hq ht hk x.r x.w

theorem I8.to {s : QS} {c : Nat} (x : I8 s c 0) : I10 s c 0 := by
  rcases x.t with ⟨ht, hq, hk⟩ | ⟨hq, ht, hk⟩
  · exact ⟨x.toSA, x.e, ht, List.eq_nil_of_length_eq_zero hq, .inl ⟨x.r, x.w, rfl⟩⟩
  · exact ⟨x.toSA, x.e, List.eq_nil_of_length_eq_zero ht, hq, .inl ⟨x.r, x.w, rfl⟩⟩

/-- Next, where only updates are there. -/
theorem upd_next {s s1 : QS} (hs : actS s = s1) (o : QOK s) (sa : SA s1) (he : s1.evals = []) (ht : s1.threads = []) (hr : heads s1.ready ≠ []) :
    ∃ y j t, nextS s = (y, true, { s1 with left := s1.left.tail, ready := s1.ready.set j t, held := s1.held - 1 }) ∧ y.kind = 4 ∧ y.index = (j : Int) ∧ j < 64 ∧ s1.ready.getD j [] = y :: t ∧ SA { s1 with left := s1.left.tail, ready := s1.ready.set j t, held := s1.held - 1 } := by
  have hne : listE s1 ≠ [] := listE_ne (.inr hr)
  obtain ⟨y, hy, ha, hn⟩ := next_some o (by rw [hs]; exact hne)
  rw [hs] at hn ha
  have sa' := sa.rem ha
  cases ha with
  | drive hk hi => obtain ⟨p, hp, _⟩ := hi; rw [sa.d] at hp; cases hp
  | eval hk hi => obtain ⟨p, hp, _⟩ := hi; rw [he] at hp; cases hp
  | thread hk hi => obtain ⟨p, hp, _⟩ := hi; rw [ht] at hp; cases hp
  | update hk j t hj hi hrj =>
    have hj' : y.index.toNat = j := by omega
    have er : remS { s1 with left := s1.left.tail } y = { s1 with left := s1.left.tail, ready := s1.ready.set j t, held := s1.held - 1 } := by
      unfold remS
      rw [if_neg (by omega), if_neg (by omega), if_neg (by omega), hj']
      show ({ s1 with left := s1.left.tail, ready := s1.ready.set j (s1.ready.getD j []).tail, held := s1.held - 1 } : QS) = _
      rw [hrj]; rfl
    rw [er] at hn sa'
    exact ⟨y, j, t, hn, hk, hi, hj, hrj, sa'⟩

theorem act_pour {s : QS} (a : SA s) (he : s.evals = []) (ht : s.threads = []) (hq : s.quiet = []) (hr : heads s.ready = []) : actS s = { s with ready := pour s.ready s.waiting, waiting := [] } := by
  have h0 : listE s = [] := listE_nil a he ht hr
  have h1 : act1 s = s := by
    unfold act1; rw [if_pos h0]
    cases s
    simp only [swapT] at ht hq ⊢
    rw [ht, hq]
  unfold actS; rw [h1]; unfold act2; rw [if_pos h0]
theorem SA.pour {s : QS} (a : SA s) (he : s.evals = []) (ht : s.threads = []) (hq : s.quiet = []) (hr : heads s.ready = []) : SA { s with ready := pour s.ready s.waiting, waiting := [] } := by
  have e := act_pour a he ht hq hr
  have o := a.ok.act
  rw [e] at o
  exact ⟨o, a.d, a.l⟩

theorem I10.next {s : QS} {n i : Nat} (x : I10 s (n + 1) i) : ∃ y s', nextS s = (y, true, s') ∧ y.kind = 4 ∧ I10 s' n i ∧ sumL List.length s'.ready = n := by
  have key : ∀ s1 : QS, actS s = s1 → SA s1 → s1.evals = [] → s1.threads = [] → s1.quiet = [] → sumL List.length s1.ready = n + 1 → s1.waiting = List.replicate i eU → ∃ y s', nextS s = (y, true, s') ∧ y.kind = 4 ∧ I10 s' n i ∧ sumL List.length s'.ready = n := by
    intro s1 hs sa he ht hq hr hw
    obtain ⟨y, j, t, hn, hk, hi, hj, hrj, sa'⟩ := upd_next hs x.ok sa he ht (fun e => by have := heads_sum.1 e; omega)
    have hsum : sumL List.length (s1.ready.set j t) = n := by
      have := sumL_set List.length [] s1.ready j t (by rw [sa.ok.rl]; exact hj)
      rw [hrj, List.length_cons] at this
      omega
    exact ⟨y, _, hn, hk, ⟨sa', he, ht, hq, .inr ⟨hsum, hw⟩⟩, hsum⟩
  rcases x.r with ⟨hr, hw, hi⟩ | ⟨hr, hw⟩
  · subst hi
    have e := act_pour x.toSA x.e x.t x.q hr
    refine key _ e (x.toSA.pour x.e x.t x.q hr) x.e x.t x.q ?_ rfl
    show sumL List.length (Go.Ab.Q.pour s.ready s.waiting) = n + 1
    rw [pour_sum _ _ (fun y hy => by have := x.ok.wi y hy; have := x.ok.rl; omega), heads_sum.1 hr, hw]; omega
  · have hne : listE s ≠ [] := listE_ne (.inr (fun e => by have := heads_sum.1 e; omega))
    exact key s (act_same hne) x.toSA x.e x.t x.q hr hw

theorem I10.up {s : QS} {n i : Nat} (x : I10 s n i) (hn : n + i < 100) (hp : sumL List.length s.ready = n) : atE s s.now ⟨4, 5, 99⟩ = 0 ∧ I10 (atS s s.now ⟨4, 5, 99⟩) n (i + 1) := by
  have hh : s.held < 20000 := by
    have := x.held
    rcases x.r with ⟨a, b, c⟩ | ⟨a, b⟩
    · have := heads_sum.1 a; omega
    · rw [b, List.length_replicate] at this; omega
  obtain ⟨h1, h2⟩ := upd_ok x.toSA (i := 5) (tag := 99) (by decide) hh
  refine ⟨h1, ?_⟩
  rw [h2]
  refine ⟨x.wait (by decide) hh, x.e, x.t, x.q, .inr ?_⟩
  rcases x.r with ⟨a, b, c⟩ | ⟨a, b⟩
  · have n0 : n = 0 := by have := heads_sum.1 a; omega
    subst c; subst n0
    have hw : s.waiting = [] := List.eq_nil_of_length_eq_zero b
    refine ⟨heads_sum.1 a, ?_⟩
    show s.waiting ++ [⟨4, 5, 99⟩] = _
    rw [hw]; rfl
  · refine ⟨a, ?_⟩
    show s.waiting ++ [⟨4, 5, 99⟩] = _
    rw [b, List.replicate_succ']; rfl

theorem I10.to {s : QS} {c : Nat} (x : I10 s 0 c) : I12 s c := by
  rcases x.r with ⟨a, b, hc⟩ | ⟨a, b⟩
  · subst hc
    exact ⟨x.toSA, x.e, x.t, x.q, .inl ⟨a, List.eq_nil_of_length_eq_zero b⟩⟩
  · exact ⟨x.toSA, x.e, x.t, x.q, .inl ⟨heads_sum.2 a, b⟩⟩

theorem pour_rep : ∀ (n : Nat) (r : List (List Ev)), r.length = 64 → (pour r (List.replicate n eU)).getD 5 [] = r.getD 5 [] ++ List.replicate n eU ∧ ∀ j, j ≠ 5 → (pour r (List.replicate n eU)).getD j [] = r.getD j [] := by
  intro n
  induction n with
  | zero => intro r _; exact ⟨by simp [pour], fun j _ => rfl⟩
  | succ n ih =>
    intro r hr
    rw [List.replicate_succ, pour]
    have h5 : eU.index.toNat = 5 := rfl
    rw [h5]
    obtain ⟨h1, h2⟩ := ih (r.set 5 (r.getD 5 [] ++ [eU])) (by rw [List.length_set]; exact hr)
    refine ⟨?_, fun j hj => ?_⟩
    · rw [h1]
      have : (r.set 5 (r.getD 5 [] ++ [eU])).getD 5 [] = r.getD 5 [] ++ [eU] := by rw [List.getD_eq_getElem?_getD, List.getElem?_set_self (by rw [hr]; decide)]; rfl
      rw [this, List.append_assoc]; rfl
    · rw [h2 j hj]
      rw [List.getD_eq_getElem?_getD, List.getElem?_set_ne (fun e => hj e.symm), ← List.getD_eq_getElem?_getD]

theorem I12.next {s : QS} {n : Nat} (x : I12 s (n + 1)) : ∃ s', nextS s = (eU, true, s') ∧ I12 s' n := by
  have key : ∀ s1 : QS, actS s = s1 → SA s1 → s1.evals = [] → s1.threads = [] → s1.quiet = [] → s1.waiting = [] → s1.ready.getD 5 [] = List.replicate (n + 1) eU → (∀ j, j ≠ 5 → s1.ready.getD j [] = []) → ∃ s', nextS s = (eU, true, s') ∧ I12 s' n := by
    intro s1 hs sa he ht hq hw h5 hj
    obtain ⟨y, j, t, hn, hk, hi, hj64, hrj, sa'⟩ := upd_next hs x.ok sa he ht (fun e => by have := heads_nil.1 e 5; rw [h5] at this; cases this)
    have j5 : j = 5 := Classical.byContradiction fun h => by rw [hj j h] at hrj; cases hrj
    subst j5
    rw [h5, List.replicate_succ, List.cons.injEq] at hrj
    obtain ⟨rfl, rfl⟩ := hrj
    refine ⟨_, hn, ⟨sa', he, ht, hq, .inr ⟨hw, ?_, fun j hj' => ?_⟩⟩⟩
    · show (s1.ready.set 5 _).getD 5 [] = _
      rw [List.getD_eq_getElem?_getD, List.getElem?_set_self (by rw [sa.ok.rl]; decide)]; rfl
    · show (s1.ready.set 5 _).getD j [] = _
      rw [List.getD_eq_getElem?_getD, List.getElem?_set_ne (fun e => hj' e.symm), ← List.getD_eq_getElem?_getD]; exact hj j hj'
  rcases x.r with ⟨hr, hw⟩ | ⟨hw, h5, hj⟩
  · have e := act_pour x.toSA x.e x.t x.q hr
    obtain ⟨p1, p2⟩ := pour_rep (n + 1) s.ready x.ok.rl
    refine key _ e (x.toSA.pour x.e x.t x.q hr) x.e x.t x.q rfl ?_ (fun j hj => ?_)
    · show (Go.Ab.Q.pour s.ready s.waiting).getD 5 [] = _
      rw [hw, p1, heads_nil.1 hr 5, List.nil_append]
    · show (Go.Ab.Q.pour s.ready s.waiting).getD j [] = _
      rw [hw, p2 j hj, heads_nil.1 hr j]
  · have hne : listE s ≠ [] := listE_ne (.inr (fun e => by have := heads_nil.1 e 5; rw [h5] at this; cases this))
    exact key s (act_same hne) x.toSA x.e x.t x.q hw h5 hj


def atT (ts : List Int) (x : Ev) : Int := ts.getD x.tag.toNat 0
/-- Good one behind the other. -/
def GG (ts : List Int) (a b : Ev) : Prop := atT ts a ≤ atT ts b ∧ a.tag ≠ b.tag ∧ (a.index = b.index → atT ts a = atT ts b → a.tag < b.tag)
def laterE (l : List (Int × Lat)) : List Ev := l.flatMap fun p => p.2.updates
def remE (s : QS) : List Ev := s.ready.flatten ++ (s.waiting ++ laterE s.later)

theorem mem_rows {l : List (List Ev)} {y : Ev} : y ∈ l.flatten ↔ ∃ j, j < l.length ∧ y ∈ l.getD j [] := by
  rw [List.mem_flatten]
  constructor
  · rintro ⟨r, hr, hy⟩
    obtain ⟨j, hj, rfl⟩ := List.mem_iff_getElem.1 hr
    exact ⟨j, hj, by rw [List.getD_eq_getElem?_getD, List.getElem?_eq_getElem hj]; exact hy⟩
  · rintro ⟨j, hj, hy⟩
    rw [List.getD_eq_getElem?_getD, List.getElem?_eq_getElem hj] at hy
    exact ⟨l[j], List.getElem_mem hj, hy⟩

theorem set_flat : ∀ (l : List (List Ev)) (j : Nat) (r : List Ev), j < l.length → ((l.set j r).flatten ++ l.getD j []).Perm (l.flatten ++ r) := by
  intro l
  induction l with
  | nil => intro j r h; exact absurd h (Nat.not_lt_zero _)
  | cons x l ih =>
    intro j r h
    cases j with
    | zero =>
      simp only [List.set_cons_zero, List.flatten_cons, List.getD_cons_zero]
      have e : (r ++ (l.flatten ++ x)).Perm ((x ++ l.flatten) ++ r) := List.perm_append_comm.trans (List.Perm.append_right r List.perm_append_comm)
      rw [← List.append_assoc] at e
      exact e
    | succ j =>
      have := ih j r (by simpa using h)
      simp only [List.set_cons_succ, List.flatten_cons, List.getD_cons_succ, List.append_assoc]
      exact List.Perm.append_left _ this

theorem pour_flat : ∀ (l : List Ev) (r : List (List Ev)), (∀ x ∈ l, x.index.toNat < r.length) → (pour r l).flatten.Perm (r.flatten ++ l) := by
  intro l
  induction l with
  | nil => intro r _; rw [List.append_nil]; exact List.Perm.refl _
  | cons y l ih =>
    intro r h
    have h0 := h y (List.mem_cons_self ..)
    rw [pour]
    refine (ih _ (fun x hx => by rw [List.length_set]; exact h x (List.mem_cons_of_mem _ hx))).trans ?_
    have e := set_flat r y.index.toNat (r.getD y.index.toNat [] ++ [y]) h0
    -- both have the row's old part
    have e2 : ((r.set y.index.toNat (r.getD y.index.toNat [] ++ [y])).flatten).Perm (r.flatten ++ [y]) := by
      have h3 : (r.flatten ++ (r.getD y.index.toNat [] ++ [y])).Perm ((r.flatten ++ [y]) ++ r.getD y.index.toNat []) := by
        rw [List.append_assoc]; exact List.Perm.append_left _ List.perm_append_comm
      exact (List.perm_append_right_iff _).1 (e.trans h3)
    have e3 := List.Perm.append_right l e2
    rw [List.append_assoc] at e3
    exact e3

theorem pour_row : ∀ (l : List Ev) (r : List (List Ev)) (j : Nat), j < r.length → (pour r l).getD j [] = r.getD j [] ++ l.filter (fun y => decide (y.index.toNat = j)) := by
  intro l
  induction l with
  | nil => intro r j _; simp [pour]
  | cons y l ih =>
    intro r j hj
    rw [pour, ih _ j (by rw [List.length_set]; exact hj)]
    by_cases e : y.index.toNat = j
    · subst e
      rw [List.getD_eq_getElem?_getD, List.getElem?_set_self hj, List.filter_cons_of_pos (by simp)]; simp
    · rw [List.getD_eq_getElem?_getD, List.getElem?_set_ne e, ← List.getD_eq_getElem?_getD, List.filter_cons_of_neg (by simpa using e)]

theorem adel_flat : ∀ (l : List (Int × Lat)) (k : Int) (x : Lat), aget k l = some x → (laterE l).Perm (x.updates ++ laterE (adel k l)) := by
  intro l
  induction l with
  | nil => intro k x h; cases h
  | cons p l ih =>
    intro k x h
    by_cases hp : p.1 = k
    · simp only [aget, if_pos hp, Option.some.injEq] at h
      simp only [adel, if_pos hp, laterE, List.flatMap_cons]
      rw [h]
    · simp only [aget, if_neg hp] at h
      have := ih k x h
      simp only [adel, if_neg hp, laterE, List.flatMap_cons] at this ⊢
      exact (List.Perm.append_left _ this).trans (by rw [← List.append_assoc, ← List.append_assoc]; exact List.Perm.append_right _ List.perm_append_comm)

theorem aput_flat : ∀ (l : List (Int × Lat)) (k : Int) (x : Lat) (e : Ev), aget k l = some x → (laterE (aput k { x with updates := x.updates ++ [e] } l)).Perm (laterE l ++ [e]) := by
  intro l
  induction l with
  | nil => intro k x e h; cases h
  | cons p l ih =>
    intro k x e h
    by_cases hp : p.1 = k
    · simp only [aget, if_pos hp, Option.some.injEq] at h
      simp only [aput, if_pos hp, laterE, List.flatMap_cons]
      rw [h, List.append_assoc, List.append_assoc]
      exact List.Perm.append_left _ List.perm_append_comm
    · simp only [aget, if_neg hp] at h
      have := ih k x e h
      simp only [aput, if_neg hp, laterE, List.flatMap_cons] at this ⊢
      rw [List.append_assoc]
      exact List.Perm.append_left _ this


/-- What is out, and what is left, of updates alone. -/
structure OD (ts : List Int) (s : QS) (out : List Ev) : Prop where
  d : s.drives = []
  e : s.evals = []
  t : s.threads = []
  q : s.quiet = []
  nd : (s.later.map (·.1)).Nodup
  rng : ∀ y ∈ remE s, 0 ≤ y.tag ∧ y.tag < ts.length
  ro : ∀ y ∈ out, 0 ≤ y.tag ∧ y.tag < ts.length
  nt : ((remE s).map (·.tag)).Nodup
  tr : ∀ j, ∀ y ∈ s.ready.getD j [], atT ts y = s.now
  tw : ∀ y ∈ s.waiting, atT ts y = s.now
  tl : ∀ p ∈ s.later, ∀ y ∈ p.2.updates, atT ts y = p.1
  pr : ∀ j, (s.ready.getD j []).Pairwise (fun a b => a.tag < b.tag)
  pw : s.waiting.Pairwise (fun a b => a.index = b.index → a.tag < b.tag)
  pl : ∀ p ∈ s.later, p.2.updates.Pairwise (fun a b => a.index = b.index → a.tag < b.tag)
  wr : s.waiting ≠ [] → heads s.ready = []
  go : out.Pairwise (GG ts)
  gx : ∀ x ∈ out, ∀ y ∈ remE s, GG ts x y
  cnt : out.length + (remE s).length = ts.length

theorem listE_nil2 {s : QS} (hd : s.drives = []) (he : s.evals = []) (ht : s.threads = []) (hr : heads s.ready = []) : listE s = [] := by
  have := listE_length s
  rw [hd, he, ht, hr] at this
  exact List.eq_nil_of_length_eq_zero (by simpa using this)
theorem act_pour2 {s : QS} (hd : s.drives = []) (he : s.evals = []) (ht : s.threads = []) (hq : s.quiet = []) (hr : heads s.ready = []) : actS s = { s with ready := pour s.ready s.waiting, waiting := [] } := by
  have h0 : listE s = [] := listE_nil2 hd he ht hr
  have h1 : act1 s = s := by
    unfold act1; rw [if_pos h0]
    cases s
    simp only [swapT] at ht hq ⊢
    rw [ht, hq]
  unfold actS; rw [h1]; unfold act2; rw [if_pos h0]
theorem upd_next2 {s s1 : QS} (hs : actS s = s1) (o : QOK s) (hd : s1.drives = []) (he : s1.evals = []) (ht : s1.threads = []) (hr : heads s1.ready ≠ []) :
    ∃ y j t, nextS s = (y, true, { s1 with left := s1.left.tail, ready := s1.ready.set j t, held := s1.held - 1 }) ∧ y.index = (j : Int) ∧ j < 64 ∧ s1.ready.getD j [] = y :: t := by
  have hne : listE s1 ≠ [] := listE_ne (.inr hr)
  obtain ⟨y, hy, ha, hn⟩ := next_some o (by rw [hs]; exact hne)
  rw [hs] at hn ha
  cases ha with
  | drive hk hi => obtain ⟨p, hp, _⟩ := hi; rw [hd] at hp; cases hp
  | eval hk hi => obtain ⟨p, hp, _⟩ := hi; rw [he] at hp; cases hp
  | thread hk hi => obtain ⟨p, hp, _⟩ := hi; rw [ht] at hp; cases hp
  | update hk j t hj hi hrj =>
    have hj' : y.index.toNat = j := by omega
    have er : remS { s1 with left := s1.left.tail } y = { s1 with left := s1.left.tail, ready := s1.ready.set j t, held := s1.held - 1 } := by
      unfold remS
      rw [if_neg (by omega), if_neg (by omega), if_neg (by omega), hj']
      show ({ s1 with left := s1.left.tail, ready := s1.ready.set j (s1.ready.getD j []).tail, held := s1.held - 1 } : QS) = _
      rw [hrj]; rfl
    rw [er] at hn
    exact ⟨y, j, t, hn, hi, hj, hrj⟩

theorem getD_out {l : List (List Ev)} {j : Nat} (h : l.length ≤ j) : l.getD j [] = [] := by rw [List.getD_eq_getElem?_getD, List.getElem?_eq_none h]; rfl

theorem OD.poured {ts : List Int} {s : QS} {out : List Ev} (o : QOK s) (x : OD ts s out) (hr : heads s.ready = []) : OD ts { s with ready := pour s.ready s.waiting, waiting := [] } out ∧ (remE { s with ready := pour s.ready s.waiting, waiting := [] }).Perm (remE s) := by
  have hfix : ∀ y ∈ s.waiting, y.index.toNat < s.ready.length := fun y hy => by have := o.wi y hy; have := o.rl; omega
  have hp : (remE { s with ready := pour s.ready s.waiting, waiting := [] }).Perm (remE s) := by
    have := List.Perm.append_right (laterE s.later) (pour_flat s.waiting s.ready hfix)
    show ((pour s.ready s.waiting).flatten ++ ([] ++ laterE s.later)).Perm (s.ready.flatten ++ (s.waiting ++ laterE s.later))
    rw [List.nil_append, ← List.append_assoc]; exact this
  have hrow := heads_nil.1 hr
  have hget : ∀ j, (pour s.ready s.waiting).getD j [] = s.waiting.filter (fun y => decide (y.index.toNat = j)) ∨ (pour s.ready s.waiting).getD j [] = [] := fun j => by
    by_cases hj : j < s.ready.length
    · left; rw [pour_row _ _ j hj, hrow j, List.nil_append]
    · right; exact getD_out (by rw [pour_len]; omega)
  refine ⟨⟨x.d, x.e, x.t, x.q, x.nd, fun y hy => x.rng y (hp.mem_iff.1 hy), x.ro, (hp.map _).nodup_iff.2 x.nt, fun j y hy => ?_, fun y hy => (nomatch hy), x.tl, fun j => ?_, List.Pairwise.nil, x.pl, fun h => absurd rfl h, x.go, fun a ha y hy => x.gx a ha y (hp.mem_iff.1 hy), by rw [hp.length_eq]; exact x.cnt⟩, hp⟩
  · rcases pour_mem _ _ _ _ hy with hy | ⟨hy, _⟩
    · rw [hrow j] at hy; cases hy
    · exact x.tw y hy
  · show ((pour s.ready s.waiting).getD j []).Pairwise _
    rcases hget j with e | e
    · rw [e]
      refine List.Pairwise.imp_of_mem (R := fun a b => a.index = b.index → a.tag < b.tag) (fun {a b} ha hb h => h ?_) (x.pw.sublist List.filter_sublist)
      have h1 := List.mem_filter.1 ha
      have h2 := List.mem_filter.1 hb
      have e1 := of_decide_eq_true h1.2
      have e2 := of_decide_eq_true h2.2
      have := o.wi a h1.1
      have := o.wi b h2.1
      omega
    · rw [e]; exact List.Pairwise.nil

theorem OD.pop {ts : List Int} {s : QS} {out : List Ev} (o : QOK s) (x : OD ts s out) {j : Nat} {y : Ev} {t : List Ev} (hj : j < 64) (hi : y.index = (j : Int)) (hr : s.ready.getD j [] = y :: t) (l : List Int) (n : Int) :
    OD ts { s with left := l, ready := s.ready.set j t, held := n } (out ++ [y]) ∧ (remE { s with left := l, ready := s.ready.set j t, held := n }).length + 1 = (remE s).length := by
  have hw : s.waiting = [] := Classical.byContradiction fun h => by
    have := heads_nil.1 (x.wr h) j
    rw [hr] at this; cases this
  have hjl : j < s.ready.length := by rw [o.rl]; exact hj
  have hp : (y :: remE { s with left := l, ready := s.ready.set j t, held := n }).Perm (remE s) := by
    have e := set_flat s.ready j t hjl
    rw [hr] at e
    have e2 : (((s.ready.set j t).flatten ++ [y]) ++ t).Perm (s.ready.flatten ++ t) := by rw [List.append_assoc]; exact e
    have e3 := (List.perm_append_right_iff _).1 e2
    have e4 : (y :: (s.ready.set j t).flatten).Perm s.ready.flatten := (List.perm_append_comm (l₁ := [y])).trans e3
    exact List.Perm.append_right (s.waiting ++ laterE s.later) e4
  have hsub : ∀ z ∈ remE { s with left := l, ready := s.ready.set j t, held := n }, z ∈ remE s := fun z hz => hp.mem_iff.1 (List.mem_cons_of_mem _ hz)
  have hy : y ∈ remE s := hp.mem_iff.1 (List.mem_cons_self ..)
  have hnd : ((y :: remE { s with left := l, ready := s.ready.set j t, held := n }).map (·.tag)).Nodup := (hp.map _).nodup_iff.2 x.nt
  rw [List.map_cons, List.nodup_cons] at hnd
  have hget : ∀ i, (s.ready.set j t).getD i [] = if i = j then t else s.ready.getD i [] := fun i => by
    by_cases e : i = j
    · subst e; rw [if_pos rfl, List.getD_eq_getElem?_getD, List.getElem?_set_self hjl]; rfl
    · rw [if_neg e, List.getD_eq_getElem?_getD, List.getElem?_set_ne (fun h => e h.symm), ← List.getD_eq_getElem?_getD]
  have hrowj := x.pr j
  rw [hr, List.pairwise_cons] at hrowj
  have hty : atT ts y = s.now := x.tr j y (by rw [hr]; exact List.mem_cons_self ..)
  have hg : ∀ z ∈ remE { s with left := l, ready := s.ready.set j t, held := n }, GG ts y z := by
    intro z hz
    have hne : y.tag ≠ z.tag := fun e => hnd.1 (List.mem_map.2 ⟨z, hz, e.symm⟩)
    rcases List.mem_append.1 hz with hz1 | hz1
    · obtain ⟨i, hil, hzi⟩ := mem_rows.1 hz1
      have hi64 : i < 64 := by
        have h0 : i < (s.ready.set j t).length := hil
        rw [List.length_set, o.rl] at h0; exact h0
      have hzi : z ∈ (s.ready.set j t).getD i [] := hzi
      rw [hget i] at hzi
      by_cases e : i = j
      · subst e
        rw [if_pos rfl] at hzi
        have hz0 : z ∈ s.ready.getD i [] := by rw [hr]; exact List.mem_cons_of_mem _ hzi
        exact ⟨by rw [hty, x.tr i z hz0]; exact Int.le_refl _, hne, fun _ _ => hrowj.1 z hzi⟩
      · rw [if_neg e] at hzi
        have hzk := o.ri i hi64 z hzi
        exact ⟨by rw [hty, x.tr i z hzi]; exact Int.le_refl _, hne, fun h => absurd h (by omega)⟩
    · have hz1 : z ∈ s.waiting ++ laterE s.later := hz1
      rw [hw, List.nil_append] at hz1
      obtain ⟨p, hpm, hzp⟩ := List.mem_flatMap.1 hz1
      have h1 := x.tl p hpm z hzp
      have h2 := o.kl p hpm
      exact ⟨by rw [hty, h1]; omega, hne, fun _ h => by rw [hty, h1] at h; omega⟩
  refine ⟨⟨x.d, x.e, x.t, x.q, x.nd, fun z hz => x.rng z (hsub z hz), fun z hz => ?_, hnd.2, fun i z hz => ?_, x.tw, x.tl, fun i => ?_, x.pw, x.pl, fun h => absurd hw h, ?_, fun a ha z hz => ?_, ?_⟩, ?_⟩
  · rcases List.mem_append.1 hz with hz | hz
    · exact x.ro z hz
    · simp only [List.mem_cons, List.not_mem_nil, or_false] at hz; subst hz; exact x.rng z hy
  · have hz2 : z ∈ (s.ready.set j t).getD i [] := hz
    rw [hget i] at hz2
    by_cases e : i = j
    · rw [if_pos e] at hz2; rw [← e] at hr; exact x.tr i z (by rw [hr]; exact List.mem_cons_of_mem _ hz2)
    · rw [if_neg e] at hz2; exact x.tr i z hz2
  · show ((s.ready.set j t).getD i []).Pairwise _
    rw [hget i]
    split
    · exact hrowj.2
    · exact x.pr i
  · rw [List.pairwise_append]
    refine ⟨x.go, List.pairwise_singleton _ _, fun a ha b hb => ?_⟩
    simp only [List.mem_cons, List.not_mem_nil, or_false] at hb
    subst hb
    exact x.gx a ha b hy
  · rcases List.mem_append.1 ha with ha | ha
    · exact x.gx a ha z (hsub z hz)
    · simp only [List.mem_cons, List.not_mem_nil, or_false] at ha; subst ha; exact hg z hz
  · have := x.cnt
    have h2 := hp.length_eq
    rw [List.length_cons] at h2
    rw [List.length_append, List.length_singleton]; omega
  · have h2 := hp.length_eq
    rw [List.length_cons] at h2
    exact h2

/-- Next, of updates alone. -/
theorem OD.next {ts : List Int} {s : QS} {out : List Ev} (o : QOK s) (x : OD ts s out) :
    (∃ s', nextS s = (v0, false, s') ∧ OD ts s' out ∧ s'.waiting = [] ∧ heads s'.ready = [] ∧ s'.now = s.now ∧ s'.later = s.later ∧ (remE s').length = (remE s).length) ∨
    ∃ y s', nextS s = (y, true, s') ∧ OD ts s' (out ++ [y]) ∧ (remE s').length + 1 = (remE s).length ∧ s'.later = s.later := by
  by_cases hr : heads s.ready = []
  · have e := act_pour2 x.d x.e x.t x.q hr
    obtain ⟨x1, hp⟩ := x.poured o hr
    have o1 := o.act
    rw [e] at o1
    by_cases hr1 : heads (Go.Ab.Q.pour s.ready s.waiting) = []
    · left
      exact ⟨_, next_none (by rw [e]; exact listE_nil2 (s := { s with ready := Go.Ab.Q.pour s.ready s.waiting, waiting := [] }) x.d x.e x.t hr1), by rw [e]; exact x1, by rw [e], by rw [e]; exact hr1, by rw [e], by rw [e], by rw [e]; exact hp.length_eq⟩
    · right
      obtain ⟨y, j, t, hn, hi, hj, hrj⟩ := upd_next2 e o x.d x.e x.t hr1
      obtain ⟨x2, hl⟩ := x1.pop o1 hj hi hrj s.left.tail (s.held - 1)
      exact ⟨y, _, hn, x2, by rw [hl, hp.length_eq], rfl⟩
  · right
    have e : actS s = s := act_same (listE_ne (.inr hr))
    obtain ⟨y, j, t, hn, hi, hj, hrj⟩ := upd_next2 e o x.d x.e x.t hr
    obtain ⟨x2, hl⟩ := x.pop o hj hi hrj s.left.tail (s.held - 1)
    exact ⟨y, _, hn, x2, hl, rfl⟩

theorem OD.busy {ts : List Int} {s : QS} {out : List Ev} (x : OD ts s out) (hw : s.waiting = []) (hr : heads s.ready = []) : busyS s = false := by
  unfold busyS
  rw [listE_nil2 x.d x.e x.t hr, x.q, hw]; rfl

theorem OD.adv {ts : List Int} {s : QS} {out : List Ev} (o : QOK s) (x : OD ts s out) (hw : s.waiting = []) (hr : heads s.ready = []) (hld : ∀ p ∈ s.later, p.2.drives = [] ∧ p.2.threads = []) (hl : s.later.length ≠ 0) :
    ∃ t s', advS s = (t, 0, s') ∧ s.now < t ∧ s'.now = t ∧ OD ts s' out ∧ (remE s').length = (remE s).length ∧ s'.later.length + 1 = s.later.length ∧ ∀ p ∈ s'.later, p ∈ s.later := by
  obtain ⟨⟨l, hl6⟩, hmin⟩ := firstS_mem hl
  have hm := aget_mem hl6
  obtain ⟨ld1, ld2⟩ := hld _ hm
  simp only at ld1 ld2
  have e : advS s = (firstS s, 0, adv1 s l) := by unfold advS; rw [if_neg (by rw [x.busy hw hr]; simp), if_neg hl, hl6]; rfl
  have hk := o.kl _ hm
  simp only at hk
  have hrow := heads_nil.1 hr
  have hp : (remE (adv1 s l)).Perm (remE s) := by
    show (s.ready.flatten ++ (l.updates ++ laterE (adel (firstS s) s.later))).Perm (s.ready.flatten ++ (s.waiting ++ laterE s.later))
    rw [hw, List.nil_append]
    exact List.Perm.append_left _ (adel_flat _ _ _ hl6).symm
  refine ⟨firstS s, adv1 s l, e, hk.1, rfl, ⟨ld1, x.e, ld2, x.q, x.nd.sublist ((adel_sub (firstS s) s.later).map _), fun y hy => x.rng y (hp.mem_iff.1 hy), x.ro, (hp.map _).nodup_iff.2 x.nt, fun j y hy => ?_, x.tl _ hm, fun p hp' => x.tl p (mem_adel hp'), x.pr, x.pl _ hm, fun p hp' => x.pl p (mem_adel hp'), fun _ => hr, x.go, fun a ha y hy => x.gx a ha y (hp.mem_iff.1 hy), by rw [hp.length_eq]; exact x.cnt⟩, hp.length_eq, ?_, fun p hp' => mem_adel hp'⟩
  · have hy : y ∈ s.ready.getD j [] := hy
    rw [hrow j] at hy; cases hy
  · exact adel_len ⟨_, hm, rfl⟩

theorem OD.done {ts : List Int} {s : QS} {out : List Ev} (x : OD ts s out) (hw : s.waiting = []) (hr : heads s.ready = []) (hl : s.later.length = 0) : out.length = ts.length ∧ advS s = (0, 8, s) ∧ listE s = [] ∧ leftS s = 0 := by
  have hl' : s.later = [] := List.eq_nil_of_length_eq_zero hl
  have hrow := heads_nil.1 hr
  have hfl : s.ready.flatten = [] := List.eq_nil_iff_forall_not_mem.2 (fun y hy => by
    obtain ⟨j, _, h⟩ := mem_rows.1 hy
    rw [hrow j] at h; cases h)
  refine ⟨?_, by unfold advS; rw [if_neg (by rw [x.busy hw hr]; simp), if_pos hl], listE_nil2 x.d x.e x.t hr, by unfold leftS; rw [hl']; rfl⟩
  have := x.cnt
  unfold remE at this
  rw [hfl, hw, hl'] at this
  simpa [laterE] using this


/-- What the law's loops lean on. -/
structure SL4 (a : AAct) (A na nb nc : Nat) : Prop where
  n : a.n = 167
  df : a.df = []
  t9 : a.tm 9 = vA A
  t10 : a.tm 10 = .int .i64 na
  t11 : a.tm 11 = .int .i64 nb
  t12 : a.tm 12 = .int .i64 nc
theorem SL4.to {a a' : AAct} {A na nb nc : Nat} (L : SL4 a A na nb nc) (hn : a'.n = a.n) (hd : a'.df = a.df) (ht : ∀ i, i < 13 → a'.tm i = a.tm i) : SL4 a' A na nb nc := ⟨hn.trans L.n, hd.trans L.df, (ht 9 (by decide)).trans L.t9, (ht 10 (by decide)).trans L.t10, (ht 11 (by decide)).trans L.t11, (ht 12 (by decide)).trans L.t12⟩
theorem SL4.kp {a a' : AAct} {A na nb nc lo : Nat} (L : SL4 a A na nb nc) (hl : 13 ≤ lo) (k : Kp lo [] a a') : SL4 a' A na nb nc := L.to k.1 k.2.1 (fun i hi => k.2.2 i (by omega) (by simp))

theorem newEv {h : AH} (w : WFH h) (x : Ev) : ∃ h', h' = h.new (.row (evC x) 33 true) ∧ aAlloc Try.prog 33 h = some (.pointer (some ⟨h.next, 0, none⟩), h.new (.row [.int .u8 0, .int .i64 0, .int .i64 0] 33 true)) ∧
    aStore Try.prog 33 (.pointer (some ⟨h.next, 0, none⟩)) (.agg (evC x).toArray) (h.new (.row [.int .u8 0, .int .i64 0, .int .i64 0] 33 true)) = some h' ∧ Gr h h' ∧
    aLoad Try.prog 5 (.pointer (some ⟨h.next, 0, none⟩)) h' = some (.int .u8 x.kind) ∧ aLoad Try.prog 3 (.pointer (some ⟨h.next, 1, none⟩)) h' = some (.int .i64 x.index) ∧ aLoad Try.prog 33 (.pointer (some ⟨h.next, 0, none⟩)) h' = some (.agg (evC x).toArray) := by
  have c := CsAt.new h (evC x) 33 true
  exact ⟨_, rfl, alL zrV h, stN agV (P := Try.prog) h [.int .u8 0, .int .i64 0, .int .i64 0] 33 (evC x) rfl rfl rfl, (Gr.refl w).new _, c.ld flK 0 (by show 0 < 3; decide), c.ld flI 1 (by show 1 < 3; decide), c.la agV rfl⟩


theorem appOwn {k : AH} (w : WFH k) {v : Value} {ob : Option AObj} {A : Nat} {l : List Ev} (hv : EvV v ob A l) (hg : ∀ o, ob = some o → k.get A = some o) (x : Ev) (hl : l.length ≤ 20000) :
    ∃ r k2, aAppend Try.prog #[34, 34] v (.slice (some ⟨k.next, 0, none⟩) 1 1) (k.new (.row (evC x) 33 true)) = some (r, k2) ∧ (∃ A' o', EvV r (some o') A' (l ++ [x]) ∧ k2.get A' = some o' ∧ k.next ≤ A') ∧ Tch (fun C => C = A ∧ ob ≠ none) k k2 := by
  obtain ⟨r, k2, e, h1, h2, h3, h4⟩ := appEv w hv hg x hl
  exact ⟨r, k2, e, h1, h3, h4, fun C o hn hC => h2 C o hC (fun e => Classical.byContradiction fun h => hn ⟨e, h⟩)⟩

theorem drainN {b h : AH} {s : QS} {nm : Nat → Nat} {ob : Nat → Option AObj} {ts : List Int} (w0 : WFH b) (r : QR b h s nm ob) (x : OD ts s []) (hld : ∀ p ∈ s.later, p.2.drives = [] ∧ p.2.threads = []) (hm : (remE s).length + s.later.length + 1 ≤ 300) :
    ACall Try.prog 9 [vA (nm 0), .int .i64 300] h (fun v h' => ∃ out ov oo AA, v = .tuple #[ov, .bool true] ∧ EvV ov oo AA out ∧ (∀ o, oo = some o → h'.get AA = some o) ∧ out.length = ts.length ∧ (∀ y ∈ out, 0 ≤ y.tag ∧ y.tag < ts.length) ∧ out.Pairwise (GG ts) ∧ ∃ nm' ob', Rest h h' nm nm' ob ob') := by
  have wf := r.own.gr.wf
  have hbn := r.own.gr.nx
  refine ACall.of_wp 61 [.tmp 4, .tmp 5] Try.func9 rfl (by kernel_rfl) rfl rfl fun a hn hd ha => ?_
  simp (disch := first | omega | decide) only [push_cast, ↓reduceIte, Nat.reduceLT, Nat.reduceEqDiff, reduceCtorEq, Nat.reduceAdd, hn, hd, ha]
  refine AW.loopN 6 [4, 5] (fun q a' k => ∃ (i : Nat) (s1 : QS) (nm1 : Nat → Nat) (ob1 : Nat → Option AObj) (out : List Ev) (ov : Value) (oo : Option AObj) (AA : Nat), a'.tm 7 = .int .i64 i ∧ a'.tm 6 = ov ∧ QR b k s1 nm1 ob1 ∧ nm1 0 = nm 0 ∧ Rest h k nm nm1 ob ob1 ∧ OD ts s1 out ∧ (∀ p ∈ s1.later, p.2.drives = [] ∧ p.2.threads = []) ∧ EvV ov oo AA out ∧ (∀ o, oo = some o → k.get AA = some o ∧ h.next ≤ AA ∧ Un nm1 ob1 AA) ∧ (remE s1).length + s1.later.length + 1 + i ≤ 300 ∧ i + q = 300) 300 ?_ ?_
  · exact ⟨0, s, nm, ob, [], .slice none 0 0, none, 0, by simp (disch := first | omega | decide) only [push_cast, ↓reduceIte, Nat.reduceLT, Nat.reduceEqDiff, reduceCtorEq, Nat.reduceAdd], by simp (disch := first | omega | decide) only [push_cast, ↓reduceIte, Nat.reduceLT, Nat.reduceEqDiff, reduceCtorEq, Nat.reduceAdd], r, rfl, Rest.refl wf _ _, x, hld, OffV.nil _ _ _, fun o ho => (nomatch ho), by omega, by omega⟩
  rintro a1 q a' k hk kn kd kt ⟨i, s1, nm1, ob1, out, ov, oo, AA, h7, h6, r1, q1, rs1, x1, ld1, hV, hA, hme, hiq⟩
  have t0 : a'.tm 0 = vA (nm 0) := by rw [kt 0 (by decide) (by decide)]; simp (disch := first | omega | decide) only [push_cast, ↓reduceIte, Nat.reduceLT, Nat.reduceEqDiff, reduceCtorEq, Nat.reduceAdd, ha]
  have t1 : a'.tm 1 = .int .i64 300 := by rw [kt 1 (by decide) (by decide)]; simp (disch := first | omega | decide) only [push_cast, ↓reduceIte, Nat.reduceLT, Nat.reduceEqDiff, reduceCtorEq, Nat.reduceAdd, ha]
  have an : a'.n = 61 := by rw [kn]; simp (disch := first | omega | decide) only [push_cast, ↓reduceIte, Nat.reduceLT, Nat.reduceEqDiff, reduceCtorEq, Nat.reduceAdd, hn]
  have ad : a'.df = [] := by rw [kd]; simp (disch := first | omega | decide) only [push_cast, ↓reduceIte, Nat.reduceLT, Nat.reduceEqDiff, reduceCtorEq, Nat.reduceAdd, hd]
  have hlt : decide ((i : Int) < 300) = true := decide_eq_true (by omega)
  have hw : IntKind.i64.wrap ((i : Int) + 1) = i + 1 := wrapI (by omega) (by omega)
  have hol : out.length ≤ 20000 := by
    have h1 := x1.cnt
    have h2 := x.cnt
    rw [List.length_nil] at h2
    omega
  simp (disch := first | omega | decide) only [push_cast, ↓reduceIte, Nat.reduceLT, Nat.reduceEqDiff, reduceCtorEq, Nat.reduceAdd, an, ad, t0, t1, h6, h7, hlt]
  have c := nextN w0 r1
  rw [q1] at c
  have wk := r1.own.gr.wf
  rcases x1.next r1.ok with ⟨s2, hnx, x2, hw2, hr2, hnow, hlat, hrem⟩ | ⟨y, s2, hnx, x2, hrem, hlat⟩
  · rw [hnx] at c
    refine ACall.mono ?_ c
    rintro _ k1 ⟨rfl, nm2, ob2, r2, rs2⟩
    have r2 : QR b k1 s2 nm2 ob2 := r2
    have rs12 := rs1.trans rs2
    have q2 : nm2 0 = nm 0 := rs2.n0.trans q1
    have ld2 : ∀ p ∈ s2.later, p.2.drives = [] ∧ p.2.threads = [] := by rw [hlat]; exact ld1
    have hA2 : ∀ o, oo = some o → k1.get AA = some o ∧ h.next ≤ AA ∧ Un nm2 ob2 AA := fun o ho => by
      obtain ⟨g1, g2, g3⟩ := hA o ho
      exact ⟨rs2.keep _ _ g1 g3, g2, rs2.un (AH.get_lt wk g1) g3⟩
    obtain ⟨k2, -, hal, hst, g3, -, -, -⟩ := newEv r2.own.gr.wf v0
    have r3 := r2.gr g3
    have rs3 := rs12.trans (Rest.gr r2.own.gr.wf g3 nm2 ob2)
    have hA3 : ∀ o, oo = some o → k2.get AA = some o ∧ h.next ≤ AA ∧ Un nm2 ob2 AA := fun o ho => let ⟨g1, g2, g4⟩ := hA2 o ho; ⟨g3.sub _ _ g1, g2, g4⟩
    have cN := nowN r3
    rw [q2] at cN
    simp (disch := first | omega | decide) only [push_cast, ↓reduceIte, Nat.reduceLT, Nat.reduceEqDiff, reduceCtorEq, Nat.reduceAdd, an, ad, t0, t1, h6, h7, hal, hst]
    refine ACall.mono ?_ cN
    rintro _ _ ⟨rfl, rfl⟩
    by_cases hl0 : s2.later.length = 0
    · obtain ⟨hcnt, hadv, hE, hL⟩ := x2.done hw2 hr2 hl0
      have cA := advN w0 r3
      rw [q2, hadv] at cA
      simp (disch := first | omega | decide) only [push_cast, ↓reduceIte, Nat.reduceLT, Nat.reduceEqDiff, reduceCtorEq, Nat.reduceAdd, an, ad, t0, t1, h6, h7]
      refine ACall.mono ?_ cA
      rintro _ k3 ⟨rfl, nm4, ob4, r4, rs4⟩
      have q4 : nm4 0 = nm 0 := rs4.n0.trans q2
      have hA4 : ∀ o, oo = some o → k3.get AA = some o ∧ h.next ≤ AA ∧ Un nm4 ob4 AA := fun o ho => by
        obtain ⟨g1, g2, g3⟩ := hA3 o ho
        exact ⟨rs4.keep _ _ g1 g3, g2, rs4.un (AH.get_lt r3.own.gr.wf g1) g3⟩
      have r4 : QR b k3 s2 nm4 ob4 := r4
      have cC := activeN' w0 r4
      have hz8 : decide ((8 : Int) = 0) = false := rfl
      have e0 : ((listE s2).length : Int) = 0 := by rw [hE]; rfl
      rw [q4, e0] at cC
      simp (disch := first | omega | decide) only [push_cast, ↓reduceIte, Nat.reduceLT, Nat.reduceEqDiff, reduceCtorEq, Nat.reduceAdd, an, ad, t0, t1, h6, h7, hz8]
      refine ACall.mono ?_ cC
      rintro _ k5 ⟨rfl, g5⟩
      have r5 := r4.gr g5
      have cL := leftN r5
      have e1 : ((leftS s2 : Nat) : Int) = 0 := by rw [hL]; rfl
      rw [q4, e1] at cL
      simp (disch := first | omega | decide) only [push_cast, ↓reduceIte, Nat.reduceLT, Nat.reduceEqDiff, reduceCtorEq, Nat.reduceAdd, an, ad, t0, t1, h6, h7]
      refine ACall.mono ?_ cL
      rintro _ k6 ⟨rfl, g6⟩
      simp (disch := first | omega | decide) only [push_cast, ↓reduceIte, Nat.reduceLT, Nat.reduceEqDiff, reduceCtorEq, Nat.reduceAdd, an, ad, t0, t1, h6, h7]
      exact ⟨out, ov, oo, AA, rfl, hV, fun o ho => g6.sub _ _ (g5.sub _ _ (hA4 o ho).1), hcnt, x2.ro, x2.go, nm4, ob4, ((rs3.trans rs4).trans (Rest.gr r4.own.gr.wf g5 nm4 ob4)).trans (Rest.gr r5.own.gr.wf g6 nm4 ob4)⟩
    · obtain ⟨t, s3, hadv, htn, hnow3, x3, hrem3, hlat3, hsub3⟩ := x2.adv r2.ok hw2 hr2 ld2 hl0
      have cA := advN w0 r3
      rw [q2, hadv] at cA
      simp (disch := first | omega | decide) only [push_cast, ↓reduceIte, Nat.reduceLT, Nat.reduceEqDiff, reduceCtorEq, Nat.reduceAdd, an, ad, t0, t1, h6, h7]
      refine ACall.mono ?_ cA
      rintro _ k3 ⟨rfl, nm4, ob4, r4, rs4⟩
      have q4 : nm4 0 = nm 0 := rs4.n0.trans q2
      have hA4 : ∀ o, oo = some o → k3.get AA = some o ∧ h.next ≤ AA ∧ Un nm4 ob4 AA := fun o ho => by
        obtain ⟨g1, g2, g3⟩ := hA3 o ho
        exact ⟨rs4.keep _ _ g1 g3, g2, rs4.un (AH.get_lt r3.own.gr.wf g1) g3⟩
      have r4 : QR b k3 s3 nm4 ob4 := r4
      have cM := nowN r4
      rw [q4, hnow3] at cM
      have hle : decide (t ≤ s2.now) = false := decide_eq_false (by omega)
      simp (disch := first | omega | decide) only [push_cast, ↓reduceIte, Nat.reduceLT, Nat.reduceEqDiff, reduceCtorEq, Nat.reduceAdd, an, ad, t0, t1, h6, h7, hle]
      refine ACall.mono ?_ cM
      rintro _ _ ⟨rfl, rfl⟩
      simp (disch := first | omega | decide) only [push_cast, ↓reduceIte, Nat.reduceLT, Nat.reduceEqDiff, reduceCtorEq, Nat.reduceAdd, an, ad, t0, t1, h6, h7, hw]
      exact ⟨q - 1, by omega, (by simp (disch := decide) only [Kp_put, put_none, hk]), i + 1, s3, nm4, ob4, out, ov, oo, AA, by simp (disch := first | omega | decide) only [push_cast, ↓reduceIte, Nat.reduceLT, Nat.reduceEqDiff, reduceCtorEq, Nat.reduceAdd], by simp (disch := first | omega | decide) only [push_cast, ↓reduceIte, Nat.reduceLT, Nat.reduceEqDiff, reduceCtorEq, Nat.reduceAdd, h6], r4, q4, rs3.trans rs4, x3, fun p hp => ld2 p (hsub3 p hp), hV, hA4, by rw [hlat] at hlat3; omega, by omega⟩
  · rw [hnx] at c
    refine ACall.mono ?_ c
    rintro _ k1 ⟨rfl, nm2, ob2, r2, rs2⟩
    have r2 : QR b k1 s2 nm2 ob2 := r2
    have rs12 := rs1.trans rs2
    have q2 : nm2 0 = nm 0 := rs2.n0.trans q1
    have ld2 : ∀ p ∈ s2.later, p.2.drives = [] ∧ p.2.threads = [] := by rw [hlat]; exact ld1
    have hA2 : ∀ o, oo = some o → k1.get AA = some o ∧ h.next ≤ AA ∧ Un nm2 ob2 AA := fun o ho => by
      obtain ⟨g1, g2, g3⟩ := hA o ho
      exact ⟨rs2.keep _ _ g1 g3, g2, rs2.un (AH.get_lt wk g1) g3⟩
    obtain ⟨k2, -, hal, hst, g3, -, -, hla⟩ := newEv r2.own.gr.wf y
    have r3 := r2.gr g3
    have rs3 := rs12.trans (Rest.gr r2.own.gr.wf g3 nm2 ob2)
    have hA3 : ∀ o, oo = some o → k2.get AA = some o ∧ h.next ≤ AA ∧ Un nm2 ob2 AA := fun o ho => let ⟨g1, g2, g4⟩ := hA2 o ho; ⟨g3.sub _ _ g1, g2, g4⟩
    have hbl := aBuildM sV (by decide) k2 (xs := evC y) rfl rfl
    obtain ⟨rv, k3, hap, ⟨A', o', hV', hg', hA'⟩, tc⟩ := appOwn r3.own.gr.wf hV (fun o ho => (hA3 o ho).1) y hol
    have hXb : ∀ C, (C = AA ∧ oo ≠ none) → h.next ≤ C := fun C hC => by
      obtain ⟨rfl, hne⟩ := hC
      cases ho : oo with
      | none => exact absurd ho hne
      | some o => exact (hA3 o ho).2.1
    have r4 : QR b k3 s2 nm2 ob2 := r3.tch w0 ⟨fun C hC => by have := hXb C hC; omega, fun j o hj hC => by
      obtain ⟨e, hne⟩ := hC
      cases ho : oo with
      | none => exact absurd ho hne
      | some o2 => exact (hA3 o2 ho).2.2 j o hj e⟩ tc
    have rs4 := rs3.then tc hXb
    have hnx3 := rs3.nx
    simp (disch := first | omega | decide) only [push_cast, ↓reduceIte, Nat.reduceLT, Nat.reduceEqDiff, reduceCtorEq, Nat.reduceAdd, an, ad, t0, t1, h6, h7, hal, hst, hla, hbl, hap, hw]
    exact ⟨q - 1, by omega, (by simp (disch := decide) only [Kp_put, put_none, hk]), i + 1, s2, nm2, ob2, out ++ [y], rv, some o', A', by simp (disch := first | omega | decide) only [push_cast, ↓reduceIte, Nat.reduceLT, Nat.reduceEqDiff, reduceCtorEq, Nat.reduceAdd], by simp (disch := first | omega | decide) only [push_cast, ↓reduceIte, Nat.reduceLT, Nat.reduceEqDiff, reduceCtorEq, Nat.reduceAdd], r4, q2, rs4, x2, ld2, hV', fun o ho => by cases ho; exact ⟨hg', by omega, r3.un hA'⟩, by rw [hlat]; omega, by omega⟩


theorem flat_len : ∀ l : List (List Ev), l.flatten.length = sumL List.length l := by
  intro l
  induction l with
  | nil => rfl
  | cons x l ih => rw [List.flatten_cons, List.length_append, ih]; rfl
theorem laterE_len : ∀ l : List (Int × Lat), (laterE l).length = sumL (fun p => p.2.updates.length) l := by
  intro l
  induction l with
  | nil => rfl
  | cons x l ih =>
    unfold laterE at ih ⊢
    rw [List.flatMap_cons, List.length_append, ih]; rfl
theorem rem_held {s : QS} (o : QOK s) : s.held = (remE s).length := by
  have := o.held
  unfold remE
  rw [List.length_append, List.length_append, flat_len, laterE_len]
  omega

theorem atT_old {ts : List Int} {t : Int} {y : Ev} (h : 0 ≤ y.tag ∧ y.tag < ts.length) : atT (ts ++ [t]) y = atT ts y := by
  unfold atT
  rw [List.getD_eq_getElem?_getD, List.getElem?_append_left (by omega), ← List.getD_eq_getElem?_getD]
theorem atT_new {ts : List Int} {t : Int} {y : Ev} (h : y.tag = ts.length) : atT (ts ++ [t]) y = t := by
  unfold atT
  rw [List.getD_eq_getElem?_getD, List.getElem?_append_right (by omega)]
  simp [h]

/-- Updates that are put in, at time 0. -/
structure OB (ts : List Int) (s : QS) : Prop where
  x : OD ts s []
  now : s.now = 0
  hr : heads s.ready = []
  ld : ∀ p ∈ s.later, p.2.drives = [] ∧ p.2.threads = []
  ll : s.later.length ≤ ts.length

theorem ob0 {l : List Int} : OB [] (newS l) := by
  have h0 : remE (newS l) = [] := by
    have : (List.replicate 64 ([] : List Ev)).flatten = [] := by decide
    show (List.replicate 64 ([] : List Ev)).flatten ++ ([] ++ laterE []) = []
    rw [this]; rfl
  have hrow : heads (newS l).ready = [] := (by decide : heads (List.replicate 64 ([] : List Ev)) = [])
  refine ⟨⟨rfl, rfl, rfl, rfl, List.nodup_nil, fun y hy => ?_, fun y hy => (nomatch hy), ?_, fun j y hy => ?_, fun y hy => (nomatch hy), fun p hp => (nomatch hp), fun j => ?_, List.Pairwise.nil, fun p hp => (nomatch hp), fun h => absurd rfl h, List.Pairwise.nil, fun a ha => (nomatch ha), ?_⟩, rfl, hrow, fun p hp => (nomatch hp), Nat.le_refl _⟩
  · rw [h0] at hy; cases hy
  · rw [h0]; exact List.nodup_nil
  · rw [heads_nil.1 hrow j] at hy; cases hy
  · rw [heads_nil.1 hrow j]; exact List.Pairwise.nil
  · rw [h0]; rfl

theorem OB.grow {ts : List Int} {s s' : QS} {e : Ev} {t : Int} (x : OB ts s) (he : e.tag = ts.length) (hp : (remE s').Perm (remE s ++ [e])) (hd : s'.drives = []) (h1 : s'.evals = []) (h2 : s'.threads = []) (h3 : s'.quiet = []) (nd : (s'.later.map (·.1)).Nodup) (hr : s'.ready = s.ready) (hn : s'.now = 0)
    (tw : ∀ y ∈ s'.waiting, atT (ts ++ [t]) y = 0) (tl : ∀ p ∈ s'.later, ∀ y ∈ p.2.updates, atT (ts ++ [t]) y = p.1) (pw : s'.waiting.Pairwise (fun a b => a.index = b.index → a.tag < b.tag)) (pl : ∀ p ∈ s'.later, p.2.updates.Pairwise (fun a b => a.index = b.index → a.tag < b.tag))
    (ld : ∀ p ∈ s'.later, p.2.drives = [] ∧ p.2.threads = []) (ll : s'.later.length ≤ s.later.length + 1) : OB (ts ++ [t]) s' := by
  have hrow : heads s'.ready = [] := by rw [hr]; exact x.hr
  refine ⟨⟨hd, h1, h2, h3, nd, fun y hy => ?_, fun y hy => (nomatch hy), ?_, fun j y hy => ?_, fun y hy => (tw y hy).trans hn.symm, tl, fun j => ?_, pw, pl, fun _ => hrow, List.Pairwise.nil, fun a ha => (nomatch ha), ?_⟩, hn, hrow, ld, by rw [List.length_append, List.length_singleton]; have := x.ll; omega⟩
  · rw [List.length_append, List.length_singleton]
    rcases List.mem_append.1 (hp.mem_iff.1 hy) with hy | hy
    · have := x.x.rng y hy; omega
    · simp only [List.mem_cons, List.not_mem_nil, or_false] at hy; subst hy; omega
  · rw [(hp.map (·.tag)).nodup_iff, List.map_append, List.nodup_append]
    refine ⟨x.x.nt, by simp, fun a ha b hb => ?_⟩
    obtain ⟨y, hy, rfl⟩ := List.mem_map.1 ha
    have := x.x.rng y hy
    simp only [List.map_cons, List.map_nil, List.mem_cons, List.not_mem_nil, or_false] at hb
    subst hb; omega
  · rw [heads_nil.1 hrow j] at hy; cases hy
  · rw [heads_nil.1 hrow j]; exact List.Pairwise.nil
  · have := x.x.cnt
    rw [hp.length_eq, List.length_append, List.length_append, List.length_singleton, List.length_singleton]
    rw [List.length_nil] at this ⊢
    omega

theorem pw_snoc {ts : List Int} {l : List Ev} {e : Ev} (he : e.tag = ts.length) (hl : l.Pairwise (fun a b => a.index = b.index → a.tag < b.tag)) (hr : ∀ y ∈ l, y.tag < ts.length) : (l ++ [e]).Pairwise (fun a b => a.index = b.index → a.tag < b.tag) := by
  rw [List.pairwise_append]
  refine ⟨hl, List.pairwise_singleton _ _, fun a ha b hb _ => ?_⟩
  simp only [List.mem_cons, List.not_mem_nil, or_false] at hb
  subst hb
  have := hr a ha; omega

theorem OB.put {ts : List Int} {s : QS} (o : QOK s) (x : OB ts s) (hts : ts.length < 100) {t i : Int} (ht0 : 0 ≤ t) (ht1 : t ≤ 1000000000000) (hi : 0 ≤ i ∧ i < 64) :
    atE s t ⟨4, i, ts.length⟩ = 0 ∧ OB (ts ++ [t]) (atS s t ⟨4, i, ts.length⟩) := by
  have hh : s.held < 20000 := by
    have h1 := rem_held o
    have h2 := x.x.cnt
    rw [List.length_nil] at h2
    omega
  have hn := x.now
  have e : atE s t ⟨4, i, ts.length⟩ = 0 := by
    have k : kOK 4 = true := rfl
    have b : atBad s t ⟨4, i, ts.length⟩ = false := decide_eq_false (by show ¬ (¬ (0 ≤ i ∧ i < 64) ∨ t < s.now ∨ 1000000000000 < t); omega)
    have f : atFull s ⟨4, i, ts.length⟩ = false := decide_eq_false (by show ¬ ((4 : Int) = 4 ∧ 20000 ≤ s.held); omega)
    unfold atE
    rw [if_neg (by rw [k]; simp), if_neg (by rw [b]; simp), if_neg (by rw [f]; simp)]
  refine ⟨e, ?_⟩
  have hrw : ∀ y ∈ s.waiting, 0 ≤ y.tag ∧ y.tag < ts.length := fun y hy => x.x.rng y (List.mem_append_right _ (List.mem_append_left _ hy))
  have hrl : ∀ p ∈ s.later, ∀ y ∈ p.2.updates, 0 ≤ y.tag ∧ y.tag < ts.length := fun p hp y hy => x.x.rng y (List.mem_append_right _ (List.mem_append_right _ (List.mem_flatMap.2 ⟨p, hp, hy⟩)))
  unfold atS
  rw [if_pos e]
  unfold at1
  rw [if_neg (by show ¬ ((4 : Int) = 1); decide), if_neg (by show ¬ ((4 : Int) = 3); decide)]
  by_cases h0 : t = s.now
  · rw [if_pos h0]
    have ht : t = 0 := h0.trans hn
    refine x.grow (e := ⟨4, i, ts.length⟩) rfl ?_ x.x.d x.x.e x.x.t x.x.q x.x.nd rfl hn (fun y hy => ?_) (fun p hp y hy => ?_) (pw_snoc rfl x.x.pw (fun y hy => (hrw y hy).2)) x.x.pl x.ld (Nat.le_succ _)
    · show (s.ready.flatten ++ ((s.waiting ++ [(⟨4, i, ts.length⟩ : Ev)]) ++ laterE s.later)).Perm ((s.ready.flatten ++ (s.waiting ++ laterE s.later)) ++ [(⟨4, i, ts.length⟩ : Ev)])
      rw [List.append_assoc (s.ready.flatten), List.append_assoc s.waiting, List.append_assoc s.waiting]
      exact List.Perm.append_left _ (List.Perm.append_left _ List.perm_append_comm)
    · rcases List.mem_append.1 hy with hy | hy
      · rw [atT_old (hrw y hy), x.x.tw y hy]; exact hn
      · simp only [List.mem_cons, List.not_mem_nil, or_false] at hy
        subst hy
        rw [atT_new rfl]; exact ht
    · rw [atT_old (hrl p hp y hy)]; exact x.x.tl p hp y hy
  · rw [if_neg h0, slotS_held]
    obtain ⟨l, hl⟩ := slotS_get t s
    show OB (ts ++ [t]) (putU t ⟨4, i, ts.length⟩ ((aget t (slotS t s).later).getD lat0) { slotS t s with held := s.held + 1 })
    rw [hl, Option.getD_some]
    -- the slots behind the new one
    have hmem : ∀ p ∈ (slotS t s).later, p ∈ s.later ∨ p = (t, lat0) := fun p hp => by
      unfold slotS at hp
      split at hp
      · exact .inl hp
      · rcases mem_aput hp with h | h
        · exact .inr h
        · exact .inl h
    have hfl : laterE (slotS t s).later = laterE s.later := by
      unfold slotS
      cases hg : aget t s.later with
      | some m => rfl
      | none =>
        show laterE (aput t lat0 s.later) = _
        rw [aput_new lat0 hg]
        unfold laterE
        rw [List.flatMap_append]
        show _ ++ ([] : List Ev) = _
        rw [List.append_nil]
    have hnd : ((slotS t s).later.map (·.1)).Nodup := by
      unfold slotS
      cases hg : aget t s.later with
      | some m => exact x.x.nd
      | none =>
        show ((aput t lat0 s.later).map (·.1)).Nodup
        rw [aput_keys, if_neg (aget_none.1 hg), List.nodup_append]
        exact ⟨x.x.nd, by simp, fun a ha b hb e9 => by
          simp only [List.mem_cons, List.not_mem_nil, or_false] at hb
          exact aget_none.1 hg (by rw [← hb, ← e9]; exact ha)⟩
    have hsame : (slotS t s).drives = s.drives ∧ (slotS t s).evals = s.evals ∧ (slotS t s).threads = s.threads ∧ (slotS t s).quiet = s.quiet ∧ (slotS t s).ready = s.ready ∧ (slotS t s).now = s.now ∧ (slotS t s).waiting = s.waiting := by
      unfold slotS
      split <;> exact ⟨rfl, rfl, rfl, rfl, rfl, rfl, rfl⟩
    have hlen : (slotS t s).later.length ≤ s.later.length + 1 := by
      unfold slotS
      cases hg : aget t s.later with
      | some m => exact Nat.le_succ _
      | none =>
        show (aput t lat0 s.later).length ≤ _
        rw [aput_new lat0 hg, List.length_append]; exact Nat.le_refl _
    obtain ⟨s1, s2, s3, s4, s5, s6, s7⟩ := hsame
    have hlm : ∀ y ∈ l.updates, (0 ≤ y.tag ∧ y.tag < ts.length) ∧ atT ts y = t := fun y hy => by
      rcases hmem _ (aget_mem hl) with h | h
      · exact ⟨hrl _ h y hy, x.x.tl _ h y hy⟩
      · cases h; cases hy
    have hlp : l.updates.Pairwise (fun a b => a.index = b.index → a.tag < b.tag) := by
      rcases hmem _ (aget_mem hl) with h | h
      · exact x.x.pl _ h
      · cases h; exact List.Pairwise.nil
    have hlld : l.drives = [] ∧ l.threads = [] := by
      rcases hmem _ (aget_mem hl) with h | h
      · exact x.ld _ h
      · cases h; exact ⟨rfl, rfl⟩
    refine x.grow (e := ⟨4, i, ts.length⟩) rfl ?_ (s1.trans x.x.d) (s2.trans x.x.e) (s3.trans x.x.t) (s4.trans x.x.q) ?_ s5 (s6.trans hn) (fun y hy => ?_) (fun p hp y hy => ?_) ?_ (fun p hp => ?_) (fun p hp => ?_) ?_
    · show ((slotS t s).ready.flatten ++ ((slotS t s).waiting ++ laterE (aput t { l with updates := l.updates ++ [(⟨4, i, ts.length⟩ : Ev)] } (slotS t s).later))).Perm ((s.ready.flatten ++ (s.waiting ++ laterE s.later)) ++ [(⟨4, i, ts.length⟩ : Ev)])
      rw [s5, s7]
      have := aput_flat (slotS t s).later t l ⟨4, i, ts.length⟩ hl
      rw [hfl] at this
      rw [List.append_assoc (s.ready.flatten), List.append_assoc s.waiting]
      exact List.Perm.append_left _ (List.Perm.append_left _ this)
    · show ((aput t _ (slotS t s).later).map (·.1)).Nodup
      rw [aput_keys, if_pos (List.mem_map.2 ⟨_, aget_mem hl, rfl⟩)]; exact hnd
    · have hy : y ∈ (slotS t s).waiting := hy
      rw [s7] at hy
      rw [atT_old (hrw y hy), x.x.tw y hy]; exact hn
    · rcases mem_aput2 hnd hp with rfl | ⟨hp, _⟩
      · have hy : y ∈ l.updates ++ [⟨4, i, ts.length⟩] := hy
        rcases List.mem_append.1 hy with hy | hy
        · rw [atT_old (hlm y hy).1]; exact (hlm y hy).2
        · simp only [List.mem_cons, List.not_mem_nil, or_false] at hy
          subst hy
          rw [atT_new rfl]
      · rcases hmem p hp with h | h
        · rw [atT_old (hrl p h y hy)]; exact x.x.tl p h y hy
        · subst h; cases hy
    · show (slotS t s).waiting.Pairwise _
      rw [s7]; exact x.x.pw
    · rcases mem_aput2 hnd hp with rfl | ⟨hp, _⟩
      · exact pw_snoc rfl hlp (fun y hy => (hlm y hy).1.2)
      · rcases hmem p hp with h | h
        · exact x.x.pl p h
        · subst h; exact List.Pairwise.nil
    · rcases mem_aput2 hnd hp with rfl | ⟨hp, _⟩
      · exact hlld
      · rcases hmem p hp with h | h
        · exact x.ld p h
        · subst h; exact ⟨rfl, rfl⟩
    · show (aput t _ (slotS t s).later).length ≤ _
      rw [aput_len hl]; exact hlen


structure DoR where
  kind : Int
  index : Int
  tag : Int
  kof : Int
  wait : Int
def doC (x : DoR) : List Value := [.int .i64 x.kind, .int .i64 x.index, .int .i64 x.tag, .int .u8 x.kof, .int .i64 x.wait]
def doL : Lay DoR where
  sz := 5
  pos := by decide
  rel h cs x := cs = doC x
  mono := by rintro h h' cs x hs rfl; rfl
  len := by rintro h cs x rfl; rfl
  one := by rintro h cs x rfl v hv; simp only [doC, List.mem_cons, List.not_mem_nil, or_false] at hv; rcases hv with rfl | rfl | rfl | rfl | rfl <;> rfl
instance : LayV doL := ⟨by rintro h cs x rfl; rfl⟩
theorem infDo : ∃ i, Try.prog.info? 29 = some i ∧ i.size = doL.sz := ⟨(Try.prog.info? 29).get (by kernel_rfl), by kernel_rfl, by kernel_rfl⟩
theorem foD1 : fOff Try.prog 29 1 = some 1 := by kernel_rfl
theorem foD4 : fOff Try.prog 29 4 = some 4 := by kernel_rfl

def bringS (i n : Int) : Int := (i.tmod n + n).tmod n
theorem bringS_in (i : Int) {n : Int} (hn : 0 < n) : 0 ≤ bringS i n ∧ bringS i n < n := by
  unfold bringS
  have h1 : -n < i.tmod n := Int.neg_lt_of_neg_lt (by
    have := Int.lt_tmod_of_pos i hn
    omega)
  have h0 : 0 ≤ i.tmod n + n := by omega
  rw [Int.tmod_eq_emod_of_nonneg h0]
  exact ⟨Int.emod_nonneg _ (by omega), Int.emod_lt_of_pos _ hn⟩

theorem bringN {h : AH} (i : Int) {n : Int} (hn : 0 < n) (hb : n ≤ 1000) : ACall Try.prog 7 [.int .i64 i, .int .i64 n] h (fun v h' => v = .int .i64 (bringS i n) ∧ h' = h) := by
  refine ACall.of_wp 12 [.tmp 4] Try.func7 rfl (by kernel_rfl) rfl rfl fun a hn' hd ha => ?_
  have h0 : (n = 0) = False := by simp; omega
  have h1 := Int.lt_tmod_of_pos i hn
  have h2 := Int.tmod_lt_of_pos i hn
  have hw : IntKind.i64.wrap (i.tmod n + n) = i.tmod n + n := wrapI (by omega) (by omega)
  simp (disch := first | omega | decide) only [push_cast, ↓reduceIte, Nat.reduceLT, Nat.reduceEqDiff, reduceCtorEq, Nat.reduceAdd, hn', hd, ha, h0, hw]
  rfl


def LtV (v : Value) (ob : Option AObj) (A : Nat) (l : List Int) : Prop := OffV 1 2 v ob A l.length (l.map (.int .i64))

/-- A number, appended. -/
theorem appLt {k : AH} (w : WFH k) {v : Value} {ob : Option AObj} {A : Nat} {l : List Int} (hv : LtV v ob A l) (hg : ∀ o, ob = some o → k.get A = some o) (x : Int) (hl : l.length ≤ 20000) :
    ∃ r k2, aAppend Try.prog #[26, 26] v (.slice (some ⟨k.next, 0, none⟩) 1 1) (k.new (.row [.int .i64 x] 2 true)) = some (r, k2) ∧ (∃ A' o', LtV r (some o') A' (l ++ [x]) ∧ k2.get A' = some o' ∧ k.next ≤ A') ∧ Tch (fun C => C = A ∧ ob ≠ none) k k2 := by
  have hs := Sub.new w (.row [.int .i64 x] 2 true)
  obtain ⟨r, k2, e1, ⟨A', o', h1, h2', h3⟩, h4, h5, h6⟩ := appendO smL ⟨_, Try.underlying26⟩ (w.new (.row [.int .i64 x] 2 true)) hv (fun o ho => hs _ _ (hg o ho)) (srcNew (h := k) (xs := [.int .i64 x]) (e := 2) (sz := 1) rfl) (by decide) rfl (by omega) (by omega)
  refine ⟨r, k2, e1, ⟨A', o', ?_, h2', by simp only [AH.new_next] at h3; omega⟩, h5, by simp only [AH.new_next] at h6; omega, fun C o hn hC => h4 C o (hs _ _ hC) (fun e => Classical.byContradiction fun h => hn ⟨e, h⟩)⟩
  have e : (l ++ [x]).length = l.length + 1 := by simp
  unfold LtV
  rw [e, List.map_append]
  simpa using h1

theorem LtV.sl {h : AH} {v : Value} {ob : Option AObj} {A : Nat} {l : List Int} (hv : LtV v ob A l) (hg : ∀ o, ob = some o → h.get A = some o) : SlOf h v (l.map (.int .i64)) := by
  obtain ⟨hl, ⟨h0, rfl, _⟩ | ⟨h0, rfl, rfl⟩ | ⟨off, cs, rfl, rfl, hle, hz⟩⟩ := hv
  · have : l = [] := List.eq_nil_of_length_eq_zero h0
    subst this
    exact ⟨none, 0, 0, rfl, rfl, fun q e => (nomatch e), .inl rfl⟩
  · have : l = [] := List.eq_nil_of_length_eq_zero h0
    subst this
    exact ⟨_, 0, 0, rfl, rfl, fun q e => by cases e; rfl, .inl rfl⟩
  · refine ⟨_, _, _, rfl, by rw [List.length_map], fun q e => by cases e; rfl, .inr ⟨A, off, _, cs, rfl, hg _ rfl, rfl, fun i x hx => ?_⟩⟩
    rw [← hz, Nat.mul_one] at hx
    have hi : i < l.length := by
      have := (List.getElem?_eq_some_iff.1 hx).1
      simp only [List.length_take, List.length_drop] at this; omega
    rw [List.getElem?_take, if_pos hi, List.getElem?_drop] at hx
    exact hx

/-- What the law's first loop keeps. -/
structure OrdI (b k : AH) (A N : Nat) (ts : List Int) (av : Value) : Prop where
  q : ∃ s nm ob ao AT, QR b k s nm ob ∧ nm 0 = A ∧ OB ts s ∧ LtV av ao AT ts ∧ (∀ o, ao = some o → k.get AT = some o ∧ b.next ≤ AT ∧ Un nm ob AT)

theorem ordL0 {b h : AH} {s : QS} {nm : Nat → Nat} {ob : Nat → Option AObj} {a : AAct} {A : Nat} {vd : Value} {ds : List DoR} (w0 : WFH b) (r : QR b h s nm ob) (q : nm 0 = A) (x : OB [] s) (hd : RowOf doL b vd ds)
    (hn : a.n = 157) (hdf : a.df = []) (h1 : a.tm 1 = vd) (h5 : a.tm 5 = vA A) (h6 : a.tm 6 = .slice none 0 0) (h7 : a.tm 7 = .int .i64 0) :
    AW Try.prog none (bodyBlk Try.f3 0) (fun e a' h' => e = .exit 0 ∧ a'.n = 157 ∧ a'.df = [] ∧ a'.tm 5 = vA A ∧ ∃ ts av, a'.tm 6 = av ∧ ts.length ≤ 60 ∧ OrdI b h' A 0 ts av) a h := by
  refine AW.at (rfl : bodyBlk Try.f3 0 = .loop _) ?_
  refine AW.loopN 6 [] (fun m a' k => ∃ (ts : List Int) (av : Value), a'.tm 6 = av ∧ a'.tm 7 = .int .i64 ts.length ∧ OrdI b k A 0 ts av ∧ ts.length + m = min ds.length 60) (min ds.length 60) ?_ ?_
  · exact ⟨[], .slice none 0 0, h6, by rw [h7]; rfl, ⟨s, nm, ob, none, 0, r, q, x, OffV.nil _ _ _, fun o ho => (nomatch ho)⟩, by simp⟩
  rintro a1 m a' k hk kn kd kt ⟨ts, av, t6, t7, ⟨s1, nm1, ob1, ao, AT, r1, q1, x1, hV, hA⟩, hm⟩
  have t5 : a'.tm 5 = vA A := (kt 5 (by decide) (by simp)).trans h5
  have t1 : a'.tm 1 = vd := (kt 1 (by decide) (by simp)).trans h1
  have an : a'.n = 157 := kn.trans hn
  have ad : a'.df = [] := kd.trans hdf
  have hdk := hd.sub r1.own.gr.sub
  have hlen : ∀ h', aLen Try.prog 23 vd h' = some (.int .i64 ds.length) := hdk.len Try.underlying23
  by_cases hc : ts.length < min ds.length 60
  · have hlt : decide ((ts.length : Int) < ds.length) = true := decide_eq_true (by omega)
    have hlt2 : decide ((ts.length : Int) < 60) = true := decide_eq_true (by omega)
    have hi : ts.length < ds.length := by omega
    have hw : IntKind.i64.wrap ((ts.length : Int) + 1) = ts.length + 1 := wrapI (by omega) (by omega)
    have hidx : aIndexAddr Try.prog 23 vd (.int .i64 ts.length) = some (slF 5 vd ts.length 0) := hdk.idx Try.underlying23 infDo .i64 ts.length (by omega) (by omega)
    obtain ⟨cs, hcs, -, hlf, hfa⟩ := hdk.get (P := Try.prog) hi ⟨0, 0, 0, 0, 0⟩
    have hcs : cs = doC (ds.getD ts.length ⟨0, 0, 0, 0, 0⟩) := hcs
    subst hcs
    generalize ds.getD ts.length ⟨0, 0, 0, 0, 0⟩ = D at hlf hfa
    have hf4 : aFieldAddr Try.prog 29 4 (slF 5 vd ts.length 0) = some (slF 5 vd ts.length 4) := hfa _ _ _ foD4
    have hf1 : aFieldAddr Try.prog 29 1 (slF 5 vd ts.length 0) = some (slF 5 vd ts.length 1) := hfa _ _ _ foD1
    have hl4 : aLoad Try.prog 2 (slF 5 vd ts.length 4) k = some (.int .i64 D.wait) := hlf 4 _ flL (by decide)
    have hl1 : aLoad Try.prog 3 (slF 5 vd ts.length 1) k = some (.int .i64 D.index) := hlf 1 _ flI (by decide)
    have h100 : ((100 : Int) = 0) = False := by decide
    obtain ⟨b1, b2⟩ := bringS_in (D.wait.tmod 100) (n := 4) (by decide)
    obtain ⟨b3, b4⟩ := bringS_in D.index (n := 3) (by decide)
    obtain ⟨he, x2⟩ := x1.put r1.ok (by omega) (t := bringS (D.wait.tmod 100) 4) (i := bringS D.index 3) b1 (by omega) ⟨b3, by omega⟩
    simp (disch := first | omega | decide) only [push_cast, ↓reduceIte, Nat.reduceLT, Nat.reduceEqDiff, reduceCtorEq, Nat.reduceAdd, an, ad, t1, t5, t6, t7, hlen, hlt, hlt2, hidx, hf4, hl4, h100]
    refine ACall.mono ?_ (bringN (D.wait.tmod 100) (by decide) (by decide))
    rintro _ _ ⟨rfl, rfl⟩
    simp (disch := first | omega | decide) only [push_cast, ↓reduceIte, Nat.reduceLT, Nat.reduceEqDiff, reduceCtorEq, Nat.reduceAdd, an, ad, t1, t5, t6, t7, hidx, hf1, hl1]
    refine ACall.mono ?_ (bringN D.index (by decide) (by decide))
    rintro _ _ ⟨rfl, rfl⟩
    have c := atN w0 r1 (bringS (D.wait.tmod 100) 4) ⟨4, bringS D.index 3, ts.length⟩ (by have := x1.ll; omega)
    rw [q1, he] at c
    generalize bringS (D.wait.tmod 100) 4 = T at *
    generalize bringS D.index 3 = I at *
    simp (disch := first | omega | decide) only [push_cast, ↓reduceIte, Nat.reduceLT, Nat.reduceEqDiff, reduceCtorEq, Nat.reduceAdd, an, ad, t1, t5, t6, t7, buildV3']
    refine ACall.mono ?_ c
    rintro _ k2 ⟨rfl, nm2, ob2, r2, rs2⟩
    have hA2 : ∀ o, ao = some o → k2.get AT = some o ∧ b.next ≤ AT ∧ Un nm2 ob2 AT := fun o ho => by
      obtain ⟨g1, g2, g3⟩ := hA o ho
      exact ⟨rs2.keep _ _ g1 g3, g2, rs2.un (AH.get_lt r1.own.gr.wf g1) g3⟩
    have hbl := aBuild1 tL k2 (x := .int .i64 T) rfl rfl
    obtain ⟨rv, k3, hap, ⟨A', o', hV', hg', hA'⟩, tc⟩ := appLt r2.own.gr.wf hV (fun o ho => (hA2 o ho).1) T (by omega)
    have hXb : ∀ C, (C = AT ∧ ao ≠ none) → b.next ≤ C := fun C hC => by
      obtain ⟨rfl, hne⟩ := hC
      cases ho : ao with
      | none => exact absurd ho hne
      | some o => exact (hA2 o ho).2.1
    have r3 := r2.tch w0 ⟨hXb, fun j o hj hC => by
      obtain ⟨e, hne⟩ := hC
      cases ho : ao with
      | none => exact absurd ho hne
      | some o2 => exact (hA2 o2 ho).2.2 j o hj e⟩ tc
    have hbn := r2.own.gr.nx
    have hz : decide ((0 : Int) = 0) = true := rfl
    simp (disch := first | omega | decide) only [push_cast, ↓reduceIte, Nat.reduceLT, Nat.reduceEqDiff, reduceCtorEq, Nat.reduceAdd, an, ad, t1, t5, t6, t7, hbl, hap, hw]
    exact ⟨m - 1, by omega, (by simp (disch := decide) only [Kp_put, put_none, hk]), ts ++ [T], rv, by simp (disch := first | omega | decide) only [push_cast, ↓reduceIte, Nat.reduceLT, Nat.reduceEqDiff, reduceCtorEq, Nat.reduceAdd], by rw [List.length_append, List.length_singleton]; simp (disch := first | omega | decide) only [push_cast, ↓reduceIte, Nat.reduceLT, Nat.reduceEqDiff, reduceCtorEq, Nat.reduceAdd], ⟨_, nm2, ob2, some o', A', r3, rs2.n0.trans q1, x2, hV', fun o ho => by cases ho; exact ⟨hg', by omega, r2.un hA'⟩⟩, by rw [List.length_append, List.length_singleton]; omega⟩
  · have hexit : decide ((ts.length : Int) < ds.length) = false ∨ (decide ((ts.length : Int) < ds.length) = true ∧ decide ((ts.length : Int) < 60) = false) := by
      by_cases h : ts.length < ds.length
      · exact .inr ⟨decide_eq_true (by omega), decide_eq_false (by omega)⟩
      · exact .inl (decide_eq_false (by omega))
    rcases hexit with h1 | ⟨h1, h2⟩
    · simp (disch := first | omega | decide) only [push_cast, ↓reduceIte, Nat.reduceLT, Nat.reduceEqDiff, reduceCtorEq, Nat.reduceAdd, an, ad, t1, t5, t6, t7, hlen, h1]
      exact ⟨ts, av, rfl, by omega, ⟨s1, nm1, ob1, ao, AT, r1, q1, x1, hV, hA⟩⟩
    · simp (disch := first | omega | decide) only [push_cast, ↓reduceIte, Nat.reduceLT, Nat.reduceEqDiff, reduceCtorEq, Nat.reduceAdd, an, ad, t1, t5, t6, t7, hlen, h1, h2]
      exact ⟨ts, av, rfl, by omega, ⟨s1, nm1, ob1, ao, AT, r1, q1, x1, hV, hA⟩⟩

attribute [local push_cast] treeM_nil treeM_step treeM_two okX_true wantX_true wantX_false stepX skipX

/-- Two events laid and filled. -/
theorem twoEv {k : AH} (w : WFH k) (x y : Ev) {A B : Nat} (hAB : (A = k.next ∧ B = k.next + 1) ∨ (A = k.next + 1 ∧ B = k.next)) :
    ∃ k3 k4, aStore Try.prog 33 (.pointer (some ⟨A, 0, none⟩)) (.agg (evC x).toArray) ((k.new (.row [.int .u8 0, .int .i64 0, .int .i64 0] 33 true)).new (.row [.int .u8 0, .int .i64 0, .int .i64 0] 33 true)) = some k3 ∧ aStore Try.prog 33 (.pointer (some ⟨B, 0, none⟩)) (.agg (evC y).toArray) k3 = some k4 ∧ Gr k k3 ∧ Gr k k4 ∧ CsAt k4 A (evC x) ∧ CsAt k4 B (evC y) := by
  have g2 := ((Gr.refl w).new (.row [.int .u8 0, .int .i64 0, .int .i64 0] 33 true)).new (.row [.int .u8 0, .int .i64 0, .int .i64 0] 33 true)
  have hA : ((k.new (.row [.int .u8 0, .int .i64 0, .int .i64 0] 33 true)).new (.row [.int .u8 0, .int .i64 0, .int .i64 0] 33 true)).get A = some (.row [.int .u8 0, .int .i64 0, .int .i64 0] 33 true) := by
    rcases hAB with ⟨rfl, _⟩ | ⟨rfl, _⟩
    · rw [AH.new_get, if_neg (by simp), AH.new_get, if_pos rfl]
    · rw [AH.new_get, if_pos (by simp)]
  have hB : ((k.new (.row [.int .u8 0, .int .i64 0, .int .i64 0] 33 true)).new (.row [.int .u8 0, .int .i64 0, .int .i64 0] 33 true)).get B = some (.row [.int .u8 0, .int .i64 0, .int .i64 0] 33 true) := by
    rcases hAB with ⟨_, rfl⟩ | ⟨_, rfl⟩
    · rw [AH.new_get, if_pos (by simp)]
    · rw [AH.new_get, if_neg (by simp), AH.new_get, if_pos rfl]
  have hne : B ≠ A := by rcases hAB with ⟨rfl, rfl⟩ | ⟨rfl, rfl⟩ <;> omega
  have e1 := stA agV (P := Try.prog) hA rfl (evC x) rfl rfl
  have hB2 : (((k.new (.row [.int .u8 0, .int .i64 0, .int .i64 0] 33 true)).new (.row [.int .u8 0, .int .i64 0, .int .i64 0] 33 true)).set A (.row (evC x) 33 true)).get B = some (.row [.int .u8 0, .int .i64 0, .int .i64 0] 33 true) := by rw [AH.set_get, if_neg hne]; exact hB
  have e2 := stA agV (P := Try.prog) hB2 rfl (evC y) rfl rfl
  have hlA : k.next ≤ A := by rcases hAB with ⟨rfl, rfl⟩ | ⟨rfl, rfl⟩ <;> omega
  have hlB : k.next ≤ B := by rcases hAB with ⟨rfl, rfl⟩ | ⟨rfl, rfl⟩ <;> omega
  have hxA := AH.get_lt g2.wf hA
  have g3 := g2.set w hlA hxA (.row (evC x) 33 true)
  have g4 := g3.set w hlB (AH.get_lt g3.wf hB2) (.row (evC y) 33 true)
  exact ⟨_, _, e1, e2, g3, g4, ⟨_, by rw [AH.set_get, if_neg (fun e => hne e.symm), AH.set_get, if_pos rfl], rfl⟩, ⟨_, by rw [AH.set_get, if_pos rfl], rfl⟩⟩

/-- The law's comparison of two events. -/
theorem ordCmp {k : AH} {a : AAct} {ts : List Int} {av : Value} {x y : Ev} {A B : Nat} {Q : Exit → AAct → AH → Prop} (hx : CsAt k A (evC x)) (hy : CsAt k B (evC y)) (hav : SlOf k av (ts.map (.int .i64))) (rx : 0 ≤ x.tag ∧ x.tag < ts.length) (ry : 0 ≤ y.tag ∧ y.tag < ts.length) (g : GG ts x y)
    (hn : a.n = 157) (h13 : a.tm 13 = vA A) (h14 : a.tm 14 = vA B) (h6 : a.tm 6 = av) (hQ : ∀ a', a'.n = 157 → a'.df = a.df → (∀ i, i < 13 → a'.tm i = a.tm i) → a'.tm 155 = .bool false → Q .normal a' k) :
    AW Try.prog none (.region 20 (opsOf Try.f3 20) true) Q a k := by
  refine AW.at (rfl : _ = Code.region 20 #[_, _, _, _, _, _, _, _, _, _, _, _, _, _, _, _, _, _, _, _, _, _, _, _, _, _, _, _, _, _, _, _, _, _, _, _, _, _, _, _, _, _, _, _, _, _, _, _, _, _, _, _, _, _, _, _, _, _, _, _, _, _, _, _, _, _, _, _, _] true) ?_
  refine AW.drawP (.take 0 [68, 67, 66, 65, 64, 63, 62, 61, 60, 59, 58, 57, 56, 55, 54, 53, 52, 51, 50, 49, 48, 47, 46, 45, 44, 43, 42, 41, 40, 39, 38, 37, 36, 35, 34, 33, 32, 31, 30, 29, 28, 27, 26, 25, 24, 23, 22, 21, 20, 19, 18, 17, 16, 15, 14, 13, 12, 11, 10, 9, 8, 7, 6, 5, 4, 3, 2, 1] (.take 1 [68, 67, 66, 65, 64, 63, 62, 61, 60, 59, 58, 57, 56, 55, 54, 53, 52, 51, 50, 49, 48, 47, 46, 45, 44, 43, 42, 41, 40, 39, 38, 37, 36, 35, 34, 33, 32, 31, 30, 29, 28, 27, 26, 25, 24, 23, 22, 21, 20, 19, 18, 17, 16, 15, 14, 13, 12, 11, 10, 9, 8, 7, 6, 5, 4, 3, 2] (.take 2 [68, 67, 66, 65, 64, 63, 62, 61, 60, 59, 58, 57, 56, 55, 54, 53, 52, 51, 50, 49, 48, 47, 46, 45, 44, 43, 42, 41, 40, 39, 38, 37, 36, 35, 34, 33, 32, 31, 30, 29, 28, 27, 26, 25, 24, 23, 22, 21, 20, 19, 18, 17, 16, 15, 14, 13, 12, 11, 10, 9, 8, 7, 6, 5, 4, 3] (.take 3 [68, 67, 66, 65, 64, 63, 62, 61, 60, 59, 58, 57, 56, 55, 54, 53, 52, 51, 50, 49, 48, 47, 46, 45, 44, 43, 42, 41, 40, 39, 38, 37, 36, 35, 34, 33, 32, 31, 30, 29, 28, 27, 26, 25, 24, 23, 22, 21, 20, 19, 18, 17, 16, 15, 14, 13, 12, 11, 10, 9, 8, 7, 6, 5, 4] (.take 4 [68, 67, 66, 65, 64, 63, 62, 61, 60, 59, 58, 57, 56, 55, 54, 53, 52, 51, 50, 49, 48, 47, 46, 45, 44, 43, 42, 41, 40, 39, 38, 37, 36, 35, 34, 33, 32, 31, 30, 29, 28, 27, 26, 25, 24, 23, 22, 21, 20, 19, 18, 17, 16, 15, 14, 13, 12, 11, 10, 9, 8, 5] (.take 5 [68, 67, 66, 65, 64, 63, 62, 61, 60, 59, 58, 57, 56, 55, 54, 53, 52, 51, 50, 49, 48, 47, 46, 45, 44, 43, 42, 41, 40, 39, 38, 37, 36, 35, 34, 33, 32, 31, 30, 29, 28, 27, 26, 25, 24, 23, 22, 21, 20, 19, 18, 17, 16, 15, 14, 13, 12, 11, 10, 9, 8] (.take 6 [68, 67, 66, 65, 64, 63, 62, 61, 60, 59, 58, 57, 56, 55, 54, 53, 52, 51, 50, 49, 48, 47, 46, 45, 44, 43, 42, 41, 40, 39, 38, 37, 36, 35, 34, 33, 32, 31, 30, 29, 28, 27, 26, 25, 24, 23, 22, 21, 20, 19, 18, 17, 16, 15, 14, 13, 12, 11, 10, 9, 8, 7] (.take 7 [68, 67, 66, 65, 64, 63, 62, 61, 60, 59, 58, 57, 56, 55, 54, 53, 52, 51, 50, 49, 48, 47, 46, 45, 44, 43, 42, 41, 40, 39, 38, 37, 36, 35, 34, 33, 32, 31, 30, 29, 28, 27, 26, 25, 24, 23, 22, 21, 20, 19, 18, 17, 16, 15, 14, 13, 12, 11, 10, 9, 8] (.take 8 [68, 67, 66, 65, 64, 63, 62, 61, 60, 59, 58, 57, 56, 55, 54, 53, 52, 51, 50, 49, 48, 47, 46, 45, 44, 43, 42, 41, 40, 39, 38, 37, 36, 35, 34, 33, 32, 31, 30, 29, 28, 27, 26, 25, 24, 23, 22, 21, 20, 19, 18, 17, 16, 15, 14, 13, 12, 11, 10, 9] (.take 9 [68, 67, 66, 65, 64, 63, 62, 61, 60, 59, 58, 57, 56, 55, 54, 53, 52, 51, 50, 49, 48, 47, 46, 45, 44, 43, 42, 41, 40, 39, 38, 37, 36, 35, 34, 33, 32, 31, 30, 29, 28, 27, 26, 25, 24, 23, 22, 21, 20, 19, 18, 17, 16, 15, 14, 13, 12, 11, 10] (.take 10 [68, 67, 66, 65, 64, 63, 62, 61, 60, 59, 58, 57, 56, 55, 54, 53, 52, 51, 50, 49, 48, 47, 46, 45, 44, 43, 42, 41, 40, 39, 38, 37, 36, 35, 34, 33, 32, 31, 30, 29, 28, 27, 26, 25, 24, 23, 22, 21, 20, 19, 18, 17, 16, 15, 14, 13, 12, 11] (.take 11 [68, 67, 66, 65, 64, 63, 62, 61, 60, 59, 58, 57, 56, 55, 54, 53, 52, 51, 50, 49, 48, 47, 46, 45, 44, 43, 42, 41, 40, 39, 38, 37, 36, 35, 34, 33, 32, 31, 30, 29, 28, 27, 26, 25, 24, 23, 22, 21, 20, 19, 18, 17, 16, 15, 14, 13, 12] (.take 12 [68, 67, 66, 65, 64, 63, 62, 61, 60, 59, 58, 57, 56, 55, 54, 53, 52, 51, 50, 49, 48, 47, 46, 45, 44, 43, 42, 41, 40, 39, 38, 37, 36, 35, 34, 33, 32, 31, 30, 29, 28, 27, 26, 25, 24, 23, 22, 21, 20, 19, 18, 17, 16, 15, 14, 13] (.take 13 [68, 67, 66, 65, 64, 63, 62, 61, 60, 59, 58, 57, 56, 55, 54, 53, 52, 51, 50, 49, 48, 47, 46, 45, 44, 43, 42, 41, 40, 39, 38, 37, 36, 35, 34, 33, 32, 31, 30, 29, 28, 27, 26, 25, 24, 23, 22, 21, 20, 19, 18, 17, 16, 15, 14] (.take 14 [68, 67, 66, 65, 64, 63, 62, 61, 60, 59, 58, 57, 56, 55, 54, 53, 52, 51, 50, 49, 48, 47, 46, 45, 44, 43, 42, 41, 40, 39, 38, 37, 36, 35, 34, 33, 32, 31, 30, 29, 28, 27, 26, 25, 24, 23, 22, 21, 20, 19, 18, 17, 16, 15] (.take 15 [68, 67, 66, 65, 64, 63, 62, 61, 60, 59, 58, 57, 56, 55, 54, 53, 52, 51, 50, 49, 48, 47, 46, 45, 44, 43, 42, 41, 40, 39, 38, 37, 36, 35, 34, 33, 32, 31, 30, 29, 28, 27, 26, 25, 24, 23, 22, 21, 20, 19, 18, 17, 16] (.take 16 [68, 67, 66, 65, 64, 63, 62, 61, 60, 59, 58, 57, 56, 55, 54, 53, 52, 51, 50, 49, 48, 47, 46, 45, 44, 43, 42, 41, 40, 39, 38, 37, 36, 35, 34, 33, 32, 31, 30, 29, 28, 27, 26, 25, 24, 23, 22, 21, 20, 17] (.take 17 [68, 67, 66, 65, 64, 63, 62, 61, 60, 59, 58, 57, 56, 55, 54, 53, 52, 51, 50, 49, 48, 47, 46, 45, 44, 43, 42, 41, 40, 39, 38, 37, 36, 35, 34, 33, 32, 31, 30, 29, 28, 27, 26, 25, 24, 23, 22, 21, 20] (.take 18 [68, 67, 66, 65, 64, 63, 62, 61, 60, 59, 58, 57, 56, 55, 54, 53, 52, 51, 50, 49, 48, 47, 46, 45, 44, 43, 42, 41, 40, 39, 38, 37, 36, 35, 34, 33, 32, 31, 30, 29, 28, 27, 26, 25, 24, 23, 22, 21, 20, 19] (.take 19 [68, 67, 66, 65, 64, 63, 62, 61, 60, 59, 58, 57, 56, 55, 54, 53, 52, 51, 50, 49, 48, 47, 46, 45, 44, 43, 42, 41, 40, 39, 38, 37, 36, 35, 34, 33, 32, 31, 30, 29, 28, 27, 26, 25, 24, 23, 22, 21, 20] (.take 20 [68, 67, 66, 65, 64, 63, 62, 61, 60, 59, 58, 57, 56, 55, 54, 53, 52, 51, 50, 49, 48, 47, 46, 45, 44, 43, 42, 41, 40, 39, 38, 37, 36, 35, 34, 33, 32, 31, 30, 29, 28, 27, 26, 25, 24, 23, 22, 21] (.take 21 [68, 67, 66, 65, 64, 63, 62, 61, 60, 59, 58, 57, 56, 55, 54, 53, 52, 51, 50, 49, 48, 47, 46, 45, 44, 43, 42, 41, 40, 39, 38, 37, 36, 35, 34, 33, 32, 31, 30, 29, 28, 27, 26, 25, 24, 23, 22] (.take 22 [68, 67, 66, 65, 64, 63, 62, 61, 60, 59, 58, 57, 56, 55, 54, 53, 52, 51, 50, 49, 48, 47, 46, 45, 44, 43, 42, 41, 40, 39, 38, 37, 36, 35, 34, 33, 32, 31, 30, 29, 28, 27, 26, 25, 24, 23] (.take 23 [68, 67, 66, 65, 64, 63, 62, 61, 60, 59, 58, 57, 56, 55, 54, 53, 52, 51, 50, 49, 48, 47, 46, 45, 44, 43, 42, 41, 40, 39, 38, 37, 36, 35, 34, 33, 32, 31, 30, 29, 28, 27, 24] (.take 24 [68, 67, 66, 65, 64, 63, 62, 61, 60, 59, 58, 57, 56, 55, 54, 53, 52, 51, 50, 49, 48, 47, 46, 45, 44, 43, 42, 41, 40, 39, 38, 37, 36, 35, 34, 33, 32, 31, 30, 29, 28, 27] (.take 25 [68, 67, 66, 65, 64, 63, 62, 61, 60, 59, 58, 57, 56, 55, 54, 53, 52, 51, 50, 49, 48, 47, 46, 45, 44, 43, 42, 41, 40, 39, 38, 37, 36, 35, 34, 33, 32, 31, 30, 29, 28, 27, 26] (.take 26 [68, 67, 66, 65, 64, 63, 62, 61, 60, 59, 58, 57, 56, 55, 54, 53, 52, 51, 50, 49, 48, 47, 46, 45, 44, 43, 42, 41, 40, 39, 38, 37, 36, 35, 34, 33, 32, 31, 30, 29, 28, 27] (.take 27 [68, 67, 66, 65, 64, 63, 62, 61, 60, 59, 58, 57, 56, 55, 54, 53, 52, 51, 50, 49, 48, 47, 46, 45, 44, 43, 42, 41, 40, 39, 38, 37, 36, 35, 34, 33, 32, 31, 30, 29, 28] (.take 28 [68, 67, 66, 65, 64, 63, 62, 61, 60, 59, 58, 57, 56, 55, 54, 53, 52, 51, 50, 49, 48, 47, 46, 45, 44, 43, 42, 41, 40, 39, 38, 37, 36, 35, 34, 33, 32, 31, 30, 29] (.take 29 [68, 67, 66, 65, 64, 63, 62, 61, 60, 59, 58, 57, 56, 55, 54, 53, 52, 51, 50, 49, 48, 47, 46, 45, 44, 43, 42, 41, 40, 39, 38, 37, 36, 35, 34, 33, 32, 31, 30] (.take 30 [68, 67, 66, 65, 64, 63, 62, 61, 60, 59, 58, 57, 56, 55, 54, 53, 52, 51, 50, 49, 48, 47, 46, 45, 44, 43, 42, 41, 40, 34, 33] (.take 31 [68, 67, 66, 65, 64, 63, 62, 61, 60, 59, 58, 57, 56, 55, 54, 53, 52, 51, 50, 49, 48, 47, 46, 45, 44, 43, 42, 41, 40, 34, 33, 32] (.take 32 [68, 67, 66, 65, 64, 63, 62, 61, 60, 59, 58, 57, 56, 55, 54, 53, 52, 51, 50, 49, 48, 47, 46, 45, 44, 43, 42, 41, 40, 34, 33] (.take 33 [68, 67, 66, 65, 64, 63, 62, 61, 60, 59, 58, 57, 56, 55, 54, 53, 52, 51, 50, 49, 48, 47, 46, 45, 44, 43, 42, 41, 40, 34] (.take 34 [68, 67, 66, 65, 64, 63, 62, 61, 60, 59, 58, 57, 56, 55, 54, 53, 52, 51, 50, 49, 48, 47, 46, 45, 44, 43, 42, 41, 40] (.take 35 [68, 67, 66, 65, 64, 63, 62, 61, 60, 59, 58, 57, 56, 55, 54, 53, 52, 51, 50, 49, 48, 47, 46, 45, 44, 43, 42, 41, 40, 39, 38] (.take 36 [68, 67, 66, 65, 64, 63, 62, 61, 60, 59, 58, 57, 56, 55, 54, 53, 52, 51, 50, 49, 48, 47, 46, 45, 44, 43, 42, 41, 40, 39, 38, 37] (.take 37 [68, 67, 66, 65, 64, 63, 62, 61, 60, 59, 58, 57, 56, 55, 54, 53, 52, 51, 50, 49, 48, 47, 46, 45, 44, 43, 42, 41, 40, 39, 38] (.take 38 [68, 67, 66, 65, 64, 63, 62, 61, 60, 59, 58, 57, 56, 55, 54, 53, 52, 51, 50, 49, 48, 47, 46, 45, 44, 43, 42, 41, 40, 39] (.take 39 [68, 67, 66, 65, 64, 63, 62, 61, 60, 59, 58, 57, 56, 55, 54, 53, 52, 51, 50, 49, 48, 47, 46, 45, 44, 43, 42, 41, 40] (.take 40 [68, 67, 66, 65, 64, 63, 62, 61, 60, 59, 58, 57, 56, 55, 54, 53, 52, 51, 50, 49, 48, 47, 46, 45, 44, 43, 42, 41] (.take 41 [68, 67, 66, 65, 64, 63, 62, 61, 60, 59, 58, 57, 56, 55, 54, 53, 52, 51, 50, 49, 48, 47, 46, 45, 44, 43, 42] (.take 42 [68, 67, 66, 65, 64, 63, 62, 61, 60, 59, 58, 57, 56, 55, 54, 53, 52, 51, 50, 49, 48, 47, 46, 45, 44, 43] (.take 43 [68, 67, 66, 65, 64, 63, 62, 61, 60, 59, 58, 57, 56, 55, 54, 53, 52, 51, 50, 49, 48, 47, 44] (.take 44 [68, 67, 66, 65, 64, 63, 62, 61, 60, 59, 58, 57, 56, 55, 54, 53, 52, 51, 50, 49, 48, 47] (.take 45 [68, 67, 66, 65, 64, 63, 62, 61, 60, 59, 58, 57, 56, 55, 54, 53, 52, 51, 50, 49, 48, 47, 46] (.take 46 [68, 67, 66, 65, 64, 63, 62, 61, 60, 59, 58, 57, 56, 55, 54, 53, 52, 51, 50, 49, 48, 47] (.take 47 [68, 67, 66, 65, 64, 63, 62, 61, 60, 59, 58, 57, 56, 55, 54, 53, 52, 51, 50, 49, 48] (.take 48 [68, 67, 66, 65, 64, 63, 62, 61, 60, 59, 58, 57, 56, 55, 54, 53, 52, 51, 50, 49] (.take 49 [68, 67, 66, 65, 64, 63, 62, 61, 60, 59, 53, 52] (.take 50 [68, 67, 66, 65, 64, 63, 62, 61, 60, 59, 53, 52, 51] (.take 51 [68, 67, 66, 65, 64, 63, 62, 61, 60, 59, 53, 52] (.take 52 [68, 67, 66, 65, 64, 63, 62, 61, 60, 59, 53] (.take 53 [68, 67, 66, 65, 64, 63, 62, 61, 60, 59] (.take 54 [68, 67, 66, 65, 64, 63, 62, 61, 60, 59, 58, 57] (.take 55 [68, 67, 66, 65, 64, 63, 62, 61, 60, 59, 58, 57, 56] (.take 56 [68, 67, 66, 65, 64, 63, 62, 61, 60, 59, 58, 57] (.take 57 [68, 67, 66, 65, 64, 63, 62, 61, 60, 59, 58] (.take 58 [68, 67, 66, 65, 64, 63, 62, 61, 60, 59] (.take 59 [68, 67, 66, 65, 64, 63, 62, 61, 60] (.take 60 [68, 67, 66, 65, 64, 63, 62, 61] (.take 61 [68, 67, 66, 65, 64, 63, 62] (.take 62 [68, 67, 66, 63] (.take 63 [68, 67, 66] (.take 64 [68, 67, 66, 65] (.take 65 [68, 67, 66] (.take 66 [68, 67] (.take 67 [68] (.take 68 [] .done))))))))))))))))))))))))))))))))))))))))))))))))))))))))))))))))))))) [(0, 0), (0, 1), (0, 2), (0, 3), (0, 4), (0, 5), (0, 6), (0, 7), (0, 8), (0, 9), (0, 10), (0, 11), (0, 12), (0, 13), (0, 14), (0, 15), (0, 16), (0, 17), (0, 18), (0, 19), (0, 20), (0, 21), (0, 22), (0, 23), (0, 24), (0, 25), (0, 26), (0, 27), (0, 28), (0, 29), (0, 30), (0, 31), (0, 32), (0, 33), (0, 34), (0, 35), (0, 36), (0, 37), (0, 38), (0, 39), (0, 40), (0, 41), (0, 42), (0, 43), (0, 44), (0, 45), (0, 46), (0, 47), (0, 48), (0, 49), (0, 50), (0, 51), (0, 52), (0, 53), (0, 54), (0, 55), (0, 56), (0, 57), (0, 58), (0, 59), (0, 60), (0, 61), (0, 62), (0, 63), (0, 64), (0, 65), (0, 66), (0, 67), (0, 68)] mixed (by kernel_rfl) (by kernel_rfl) ?_
  have x1 : aLoad Try.prog 3 (.pointer (some ⟨A, 1, none⟩)) k = some (.int .i64 x.index) := hx.ld flI 1 (by show 1 < 3; decide)
  have x2 : aLoad Try.prog 3 (.pointer (some ⟨A, 2, none⟩)) k = some (.int .i64 x.tag) := hx.ld flI 2 (by show 2 < 3; decide)
  have y1 : aLoad Try.prog 3 (.pointer (some ⟨B, 1, none⟩)) k = some (.int .i64 y.index) := hy.ld flI 1 (by show 1 < 3; decide)
  have y2 : aLoad Try.prog 3 (.pointer (some ⟨B, 2, none⟩)) k = some (.int .i64 y.tag) := hy.ld flI 2 (by show 2 < 3; decide)
  have hlen : ∀ h', aLen Try.prog 26 av h' = some (.int .i64 ts.length) := hav.lenA Try.underlying26
  have ix : aIndexAddr Try.prog 26 av (.int .i64 x.tag) = some (slAt 1 av x.tag.toNat) := hav.idxI sl1L .i64 x.tag rx.1 rx.2
  have iy : aIndexAddr Try.prog 26 av (.int .i64 y.tag) = some (slAt 1 av y.tag.toNat) := hav.idxI sl1L .i64 y.tag ry.1 ry.2
  have lx : aLoad Try.prog 2 (slAt 1 av x.tag.toNat) k = some (.int .i64 (atT ts x)) := hav.ldI sl1L _ (by omega)
  have ly : aLoad Try.prog 2 (slAt 1 av y.tag.toNat) k = some (.int .i64 (atT ts y)) := hav.ldI sl1L _ (by omega)
  have c1 : decide (x.tag < 0) = false := decide_eq_false (by omega)
  have c2 : decide (x.tag ≥ ts.length) = false := decide_eq_false (by omega)
  have c3 : decide (y.tag < 0) = false := decide_eq_false (by omega)
  have c4 : decide (y.tag ≥ ts.length) = false := decide_eq_false (by omega)
  have c5 : decide (x.tag = y.tag) = false := decide_eq_false g.2.1
  have c6 : decide (atT ts x > atT ts y) = false := decide_eq_false (by have := g.1; omega)
  by_cases e7 : x.index = y.index
  · have c7 : decide (x.index = y.index) = true := decide_eq_true e7
    by_cases e8 : atT ts x = atT ts y
    · have c8 : decide (atT ts x = atT ts y) = true := decide_eq_true e8
      have c9 : decide (x.tag > y.tag) = false := decide_eq_false (by have := g.2.2 e7 e8; omega)
      simp (disch := first | omega | decide) only [push_cast, ↓reduceIte, Nat.reduceLT, Nat.reduceEqDiff, reduceCtorEq, Nat.reduceAdd, hn, h13, h14, h6, vA, faL foV0, faL foV1, faL foV2, x1, x2, y1, y2, hlen, ix, iy, lx, ly, c1, c2, c3, c4, c5, c6, c7, c8, c9]
      exact hQ _ (by simp (disch := first | omega | decide) only [push_cast, ↓reduceIte, Nat.reduceLT, Nat.reduceEqDiff, reduceCtorEq, Nat.reduceAdd, hn]) (by simp (disch := first | omega | decide) only [push_cast, ↓reduceIte, Nat.reduceLT, Nat.reduceEqDiff, reduceCtorEq, Nat.reduceAdd]) (fun i hi => by simp only [put_tm, put_none]; repeat rw [if_neg (by omega)]) (by simp (disch := first | omega | decide) only [push_cast, ↓reduceIte, Nat.reduceLT, Nat.reduceEqDiff, reduceCtorEq, Nat.reduceAdd])
    · have c8 : decide (atT ts x = atT ts y) = false := decide_eq_false e8
      simp (disch := first | omega | decide) only [push_cast, ↓reduceIte, Nat.reduceLT, Nat.reduceEqDiff, reduceCtorEq, Nat.reduceAdd, hn, h13, h14, h6, vA, faL foV0, faL foV1, faL foV2, x1, x2, y1, y2, hlen, ix, iy, lx, ly, c1, c2, c3, c4, c5, c6, c7, c8]
      exact hQ _ (by simp (disch := first | omega | decide) only [push_cast, ↓reduceIte, Nat.reduceLT, Nat.reduceEqDiff, reduceCtorEq, Nat.reduceAdd, hn]) (by simp (disch := first | omega | decide) only [push_cast, ↓reduceIte, Nat.reduceLT, Nat.reduceEqDiff, reduceCtorEq, Nat.reduceAdd]) (fun i hi => by simp only [put_tm, put_none]; repeat rw [if_neg (by omega)]) (by simp (disch := first | omega | decide) only [push_cast, ↓reduceIte, Nat.reduceLT, Nat.reduceEqDiff, reduceCtorEq, Nat.reduceAdd])
  · have c7 : decide (x.index = y.index) = false := decide_eq_false e7
    simp (disch := first | omega | decide) only [push_cast, ↓reduceIte, Nat.reduceLT, Nat.reduceEqDiff, reduceCtorEq, Nat.reduceAdd, hn, h13, h14, h6, vA, faL foV0, faL foV1, faL foV2, x1, x2, y1, y2, hlen, ix, iy, lx, ly, c1, c2, c3, c4, c5, c6, c7]
    exact hQ _ (by simp (disch := first | omega | decide) only [push_cast, ↓reduceIte, Nat.reduceLT, Nat.reduceEqDiff, reduceCtorEq, Nat.reduceAdd, hn]) (by simp (disch := first | omega | decide) only [push_cast, ↓reduceIte, Nat.reduceLT, Nat.reduceEqDiff, reduceCtorEq, Nat.reduceAdd]) (fun i hi => by simp only [put_tm, put_none]; repeat rw [if_neg (by omega)]) (by simp (disch := first | omega | decide) only [push_cast, ↓reduceIte, Nat.reduceLT, Nat.reduceEqDiff, reduceCtorEq, Nat.reduceAdd])


theorem uRow {h : AH} {v : Value} {l : List Int} (hs : RowOf uL h v l) : SlOf h v (l.map (.int .u32)) := by
  obtain ⟨p, n, c, rfl, rfl, ⟨hsp, _, _⟩, hcs⟩ := hs
  refine ⟨p, _, c, rfl, by rw [List.length_map], hsp, ?_⟩
  rcases hcs with e | ⟨A, off, o, cs, rfl, hg, hc, hall⟩
  · exact .inl (by rw [e]; rfl)
  · refine .inr ⟨A, off, o, cs, rfl, hg, hc, fun i x hx => ?_⟩
    rw [List.getElem?_map] at hx
    simp only [Option.map_eq_some_iff] at hx
    obtain ⟨y, hy, rfl⟩ := hx
    have := hall i y hy
    have e : (cs.drop (off + i * 1)).take 1 = [.int .u32 y] := this
    rw [Nat.mul_one] at e
    have h2 := congrArg (·[0]?) e
    simp only [List.getElem?_take, List.getElem?_drop, Nat.add_zero] at h2
    simpa using h2


theorem evLd {h : AH} {v : Value} {l : List Ev} (hs : RowOf evL h v l) {i : Nat} (hi : i < l.length) : aLoad Try.prog 33 (slF 3 v i 0) h = some (.agg (evC (l.getD i ⟨0, 0, 0⟩)).toArray) := by
  obtain ⟨cs, hcs, hla, -⟩ := hs.get (P := Try.prog) hi ⟨0, 0, 0⟩
  have hcs : cs = evC (l.getD i ⟨0, 0, 0⟩) := hcs
  subst hcs
  exact hla _ agV

theorem ordL4 {h : AH} {a : AAct} {ts : List Int} {av gv : Value} {out : List Ev} {i : Nat} (wf : WFH h) (hg : RowOf evL h gv out) (hav : SlOf h av (ts.map (.int .i64))) (ro : ∀ y ∈ out, 0 ≤ y.tag ∧ y.tag < ts.length) (go : out.Pairwise (GG ts)) (hi : i < out.length) (hb : out.length ≤ 60)
    (hn : a.n = 157) (hd : a.df = []) (h6 : a.tm 6 = av) (h9 : a.tm 9 = gv) (h11 : a.tm 11 = .int .i64 i) (h12 : a.tm 12 = .int .i64 0) :
    AW Try.prog none (bodyBlk Try.f3 4) (fun e a' h' => e = .exit 4 ∧ Kp 12 [] a a' ∧ Gr h h') a h := by
  refine AW.at (rfl : bodyBlk Try.f3 4 = .loop _) ?_
  refine AW.loopN 12 [] (fun m a' k => Gr h k ∧ Kp 12 [] a a' ∧ ∃ j : Nat, a'.tm 12 = .int .i64 j ∧ j + m = i) i ?_ ?_
  · exact ⟨Gr.refl wf, Kp.refl _ _ _, 0, by rw [h12]; rfl, by omega⟩
  rintro a1 m a' k hk kn kd kt ⟨gk, kp, j, hj, hjm⟩
  have t6 : a'.tm 6 = av := (kt 6 (by decide) (by simp)).trans h6
  have t9 : a'.tm 9 = gv := (kt 9 (by decide) (by simp)).trans h9
  have t11 : a'.tm 11 = .int .i64 i := (kt 11 (by decide) (by simp)).trans h11
  have an : a'.n = 157 := kn.trans hn
  have ad : a'.df = [] := kd.trans hd
  simp (disch := first | omega | decide) only [push_cast, ↓reduceIte, Nat.reduceLT, Nat.reduceEqDiff, reduceCtorEq, Nat.reduceAdd, an, ad, t6, t9, t11, hj]
  refine condV_of (fun hlt => ?_) (fun hge => ?_)
  · have hji : j < i := by have := of_decide_eq_true hlt; omega
    have hw : IntKind.i64.wrap ((j : Int) + 1) = j + 1 := wrapI (by omega) (by omega)
    have hgk := hg.sub gk.sub
    have ixj : aIndexAddr Try.prog 34 gv (.int .i64 j) = some (slF 3 gv j 0) := hgk.idx Try.underlying34 infVs .i64 j (by omega) (by omega)
    have ixi : aIndexAddr Try.prog 34 gv (.int .i64 i) = some (slF 3 gv i 0) := hgk.idx Try.underlying34 infVs .i64 i (by omega) (by omega)
    have lj := evLd hgk (i := j) (by omega)
    have li := fun (k' : AH) (g : Gr k k') => evLd (hgk.sub g.sub) hi
    have ej : out.getD j ⟨0, 0, 0⟩ = out[j] := by rw [List.getD_eq_getElem?_getD, List.getElem?_eq_getElem (by omega)]; rfl
    have ei : out.getD i ⟨0, 0, 0⟩ = out[i] := by rw [List.getD_eq_getElem?_getD, List.getElem?_eq_getElem hi]; rfl
    have hGG : GG ts (out.getD j ⟨0, 0, 0⟩) (out.getD i ⟨0, 0, 0⟩) := by
      rw [ej, ei]; exact (List.pairwise_iff_getElem.1 go) j i (by omega) hi hji
    have rj : 0 ≤ (out.getD j ⟨0, 0, 0⟩).tag ∧ (out.getD j ⟨0, 0, 0⟩).tag < ts.length := by rw [ej]; exact ro _ (List.getElem_mem _)
    have ri : 0 ≤ (out.getD i ⟨0, 0, 0⟩).tag ∧ (out.getD i ⟨0, 0, 0⟩).tag < ts.length := by rw [ei]; exact ro _ (List.getElem_mem _)
    generalize out.getD j ⟨0, 0, 0⟩ = x at lj hGG rj
    generalize out.getD i ⟨0, 0, 0⟩ = y at li hGG ri
    have l0 := li k (Gr.refl gk.wf)
    have gz1 := (Gr.refl gk.wf).new (.row [.int .u8 0, .int .i64 0, .int .i64 0] 33 true)
    have gz2 := gz1.new (.row [.int .u8 0, .int .i64 0, .int .i64 0] 33 true)
    have l1 := li _ gz1
    have l2 := li _ gz2
    obtain ⟨p3, p4, ps1, ps2, pg3, pg4, pcx, pcy⟩ := twoEv gk.wf x y (A := k.next) (B := k.next + 1) (.inl ⟨rfl, rfl⟩)
    obtain ⟨q3, q4, qs1, qs2, qg3, qg4, qcx, qcy⟩ := twoEv gk.wf x y (A := k.next + 1) (B := k.next) (.inr ⟨rfl, rfl⟩)
    have pl3 := li _ pg3
    have pl4 := li _ pg4
    have ql3 := li _ qg3
    have ql4 := li _ qg4
    have n1 : (k.new (.row [.int .u8 0, .int .i64 0, .int .i64 0] 33 true)).next = k.next + 1 := rfl
    have hfin : ∀ (a2 : AAct) (k4 : AH) (A B : Nat), Gr k k4 → CsAt k4 A (evC x) → CsAt k4 B (evC y) → a2.n = 157 → a2.df = [] → a2.tm 6 = av → a2.tm 13 = vA A → a2.tm 14 = vA B → a2.tm 12 = .int .i64 j → Kp 12 [] a a2 → Kp 12 [] a1 a2 →
        AW Try.prog none (.region 20 (opsOf Try.f3 20) true) (fun e a3 h3 => e = .normal ∧ h3 = k4 ∧ a3.n = 157 ∧ a3.df = [] ∧ a3.tm 155 = .bool false ∧ a3.tm 12 = .int .i64 j ∧ Kp 12 [] a a3 ∧ Kp 12 [] a1 a3) a2 k4 := by
      intro a2 k4 A B g4 cx cy n2 d2 h26 h213 h214 h212 kpa kpa1
      exact ordCmp cx cy (hav.sub (gk.trans g4).sub) rj ri hGG n2 h213 h214 h26 (fun a3 n3 d3 t3 h155 => ⟨rfl, rfl, n3, d3.trans d2, h155, (t3 12 (by decide)).trans h212, ⟨n3.trans (n2.symm.trans kpa.1), d3.trans kpa.2.1, fun i hi hx => (t3 i (by omega)).trans (kpa.2.2 i hi hx)⟩, ⟨n3.trans (n2.symm.trans kpa1.1), d3.trans kpa1.2.1, fun i hi hx => (t3 i (by omega)).trans (kpa1.2.2 i hi hx)⟩⟩)
    refine AW.drawX (.take 0 [11, 10, 3, 2] (.take 1 [11, 10, 3, 2] (.take 2 [11, 10, 3] (.take 3 [11, 10] (.take 4 [11, 7, 6] (.take 5 [11, 7, 6] (.take 6 [11, 7] (.watch 7 [11] (.two 8 (.only 9 (.only 10 (.only 11 .done))) 9 (.only 8 (.only 10 (.only 11 .done)))))))))))) (.step 0 0 (.step 0 1 (.step 0 2 (.step 0 3 (.step 0 4 (.step 0 5 (.step 0 6 (.step 1 7 (.two 8 (.step 2 9 (.step 2 10 (.step 2 11 .nil))) 9 (.step 2 8 (.step 2 10 (.step 2 11 .nil)))))))))))) mixed (by kernel_rfl) rfl ?_
    simp (disch := first | omega | decide) only [push_cast, ↓reduceIte, Nat.reduceLT, Nat.reduceEqDiff, reduceCtorEq, Nat.reduceAdd, an, ad, t6, t9, t11, hj, ixj, ixi, lj, l0, alL zrV, l1, l2, n1, ps1, ps2, pl3, pl4, qs1, qs2, ql3, ql4]
    refine ⟨?_, ?_⟩
    · refine AW.at (rfl : _ = Code.region 20 (opsOf Try.f3 20) true) (AW.mono ?_ (hfin _ p4 k.next (k.next + 1) pg4 pcx pcy (by simp (disch := first | omega | decide) only [push_cast, ↓reduceIte, Nat.reduceLT, Nat.reduceEqDiff, reduceCtorEq, Nat.reduceAdd, an]) (by simp (disch := first | omega | decide) only [push_cast, ↓reduceIte, Nat.reduceLT, Nat.reduceEqDiff, reduceCtorEq, Nat.reduceAdd, ad]) (by simp (disch := first | omega | decide) only [push_cast, ↓reduceIte, Nat.reduceLT, Nat.reduceEqDiff, reduceCtorEq, Nat.reduceAdd, t6]) (by simp (disch := first | omega | decide) only [push_cast, ↓reduceIte, Nat.reduceLT, Nat.reduceEqDiff, reduceCtorEq, Nat.reduceAdd, vA]) (by simp (disch := first | omega | decide) only [push_cast, ↓reduceIte, Nat.reduceLT, Nat.reduceEqDiff, reduceCtorEq, Nat.reduceAdd, vA]) (by simp (disch := first | omega | decide) only [push_cast, ↓reduceIte, Nat.reduceLT, Nat.reduceEqDiff, reduceCtorEq, Nat.reduceAdd, hj]) (by simp (disch := decide) only [Kp_put, put_none, kp]) (by simp (disch := decide) only [Kp_put, put_none, hk])))
      rintro _ a3 h3 ⟨rfl, rfl, n3, d3, h155, hj3, kpa, kpa1⟩
      simp (disch := first | omega | decide) only [push_cast, ↓reduceIte, Nat.reduceLT, Nat.reduceEqDiff, reduceCtorEq, Nat.reduceAdd, n3, d3, h155, hj3, hw]
      exact ⟨m - 1, by omega, (by simp (disch := decide) only [Kp_put, put_none, kpa1]), gk.trans pg4, (by simp (disch := decide) only [Kp_put, put_none, kpa]), j + 1, by simp (disch := first | omega | decide) only [push_cast, ↓reduceIte, Nat.reduceLT, Nat.reduceEqDiff, reduceCtorEq, Nat.reduceAdd], by omega⟩
    · refine AW.at (rfl : _ = Code.region 20 (opsOf Try.f3 20) true) (AW.mono ?_ (hfin _ q4 (k.next + 1) k.next qg4 qcx qcy (by simp (disch := first | omega | decide) only [push_cast, ↓reduceIte, Nat.reduceLT, Nat.reduceEqDiff, reduceCtorEq, Nat.reduceAdd, an]) (by simp (disch := first | omega | decide) only [push_cast, ↓reduceIte, Nat.reduceLT, Nat.reduceEqDiff, reduceCtorEq, Nat.reduceAdd, ad]) (by simp (disch := first | omega | decide) only [push_cast, ↓reduceIte, Nat.reduceLT, Nat.reduceEqDiff, reduceCtorEq, Nat.reduceAdd, t6]) (by simp (disch := first | omega | decide) only [push_cast, ↓reduceIte, Nat.reduceLT, Nat.reduceEqDiff, reduceCtorEq, Nat.reduceAdd, vA]) (by simp (disch := first | omega | decide) only [push_cast, ↓reduceIte, Nat.reduceLT, Nat.reduceEqDiff, reduceCtorEq, Nat.reduceAdd, vA]) (by simp (disch := first | omega | decide) only [push_cast, ↓reduceIte, Nat.reduceLT, Nat.reduceEqDiff, reduceCtorEq, Nat.reduceAdd, hj]) (by simp (disch := decide) only [Kp_put, put_none, kp]) (by simp (disch := decide) only [Kp_put, put_none, hk])))
      rintro _ a3 h3 ⟨rfl, rfl, n3, d3, h155, hj3, kpa, kpa1⟩
      simp (disch := first | omega | decide) only [push_cast, ↓reduceIte, Nat.reduceLT, Nat.reduceEqDiff, reduceCtorEq, Nat.reduceAdd, n3, d3, h155, hj3, hw]
      exact ⟨m - 1, by omega, (by simp (disch := decide) only [Kp_put, put_none, kpa1]), gk.trans qg4, (by simp (disch := decide) only [Kp_put, put_none, kpa]), j + 1, by simp (disch := first | omega | decide) only [push_cast, ↓reduceIte, Nat.reduceLT, Nat.reduceEqDiff, reduceCtorEq, Nat.reduceAdd], by omega⟩
  · have hji : j = i := by have := of_decide_eq_false hge; omega
    simp (disch := first | omega | decide) only [push_cast, ↓reduceIte, Nat.reduceLT, Nat.reduceEqDiff, reduceCtorEq, Nat.reduceAdd, an, ad, t6, t9, t11, hj]
    exact ⟨(by simp (disch := decide) only [Kp_put, put_none, kp]), gk⟩


theorem ordL2 {h : AH} {a : AAct} {ts : List Int} {av gv : Value} {out : List Ev} (wf : WFH h) (hg : RowOf evL h gv out) (hav : SlOf h av (ts.map (.int .i64))) (ro : ∀ y ∈ out, 0 ≤ y.tag ∧ y.tag < ts.length) (go : out.Pairwise (GG ts)) (hb : out.length ≤ 60)
    (hn : a.n = 157) (hd : a.df = []) (h6 : a.tm 6 = av) (h9 : a.tm 9 = gv) (h11 : a.tm 11 = .int .i64 0) :
    AW Try.prog none (bodyBlk Try.f3 2) (fun e a' h' => e = .exit 2 ∧ a'.n = 157 ∧ a'.df = [] ∧ Gr h h') a h := by
  refine AW.at (rfl : bodyBlk Try.f3 2 = .loop _) ?_
  refine AW.loopN 11 [] (fun m a' k => Gr h k ∧ ∃ i : Nat, a'.tm 11 = .int .i64 i ∧ i + m = out.length) out.length ?_ ?_
  · exact ⟨Gr.refl wf, 0, by rw [h11]; rfl, by omega⟩
  rintro a1 m a' k hk kn kd kt ⟨gk, i, hi, him⟩
  have t6 : a'.tm 6 = av := (kt 6 (by decide) (by simp)).trans h6
  have t9 : a'.tm 9 = gv := (kt 9 (by decide) (by simp)).trans h9
  have an : a'.n = 157 := kn.trans hn
  have ad : a'.df = [] := kd.trans hd
  have hgk := hg.sub gk.sub
  have hlen : ∀ h', aLen Try.prog 34 gv h' = some (.int .i64 out.length) := hgk.len Try.underlying34
  simp (disch := first | omega | decide) only [push_cast, ↓reduceIte, Nat.reduceLT, Nat.reduceEqDiff, reduceCtorEq, Nat.reduceAdd, an, ad, t6, t9, hi, hlen]
  refine condV_of (fun hlt => ?_) (fun hge => ?_)
  · have hil : i < out.length := by have := of_decide_eq_true hlt; omega
    have hw : IntKind.i64.wrap ((i : Int) + 1) = i + 1 := wrapI (by omega) (by omega)
    simp (disch := first | omega | decide) only [push_cast, ↓reduceIte, Nat.reduceLT, Nat.reduceEqDiff, reduceCtorEq, Nat.reduceAdd, an, ad, t6, t9, hi]
    refine AW.mono ?_ (ordL4 gk.wf hgk (hav.sub gk.sub) ro go hil hb (by simp (disch := first | omega | decide) only [push_cast, ↓reduceIte, Nat.reduceLT, Nat.reduceEqDiff, reduceCtorEq, Nat.reduceAdd, an]) (by simp (disch := first | omega | decide) only [push_cast, ↓reduceIte, Nat.reduceLT, Nat.reduceEqDiff, reduceCtorEq, Nat.reduceAdd, ad]) (by simp (disch := first | omega | decide) only [push_cast, ↓reduceIte, Nat.reduceLT, Nat.reduceEqDiff, reduceCtorEq, Nat.reduceAdd, t6]) (by simp (disch := first | omega | decide) only [push_cast, ↓reduceIte, Nat.reduceLT, Nat.reduceEqDiff, reduceCtorEq, Nat.reduceAdd, t9]) (by simp (disch := first | omega | decide) only [push_cast, ↓reduceIte, Nat.reduceLT, Nat.reduceEqDiff, reduceCtorEq, Nat.reduceAdd, hi]) (by simp (disch := first | omega | decide) only [push_cast, ↓reduceIte, Nat.reduceLT, Nat.reduceEqDiff, reduceCtorEq, Nat.reduceAdd]))
    rintro _ a2 k2 ⟨rfl, kp, g2⟩
    have n2 := kp.1
    have d2 := kp.2.1
    have t11 := kp.2.2 11 (by decide) (by simp)
    simp (disch := first | omega | decide) only [push_cast, ↓reduceIte, Nat.reduceLT, Nat.reduceEqDiff, reduceCtorEq, Nat.reduceAdd, an, ad, hi] at n2 d2 t11
    have kp1 : Kp 11 [] a1 a2 := Kp.trans (lo' := 12) (X' := []) (by simp (disch := decide) only [Kp_put, put_none, hk]) kp (by decide) (fun i hi => (nomatch hi))
    simp (disch := first | omega | decide) only [push_cast, ↓reduceIte, Nat.reduceLT, Nat.reduceEqDiff, reduceCtorEq, Nat.reduceAdd, n2, d2, t11, hw]
    exact ⟨m - 1, by omega, (by simp (disch := decide) only [Kp_put, put_none, kp1]), gk.trans g2, i + 1, by simp (disch := first | omega | decide) only [push_cast, ↓reduceIte, Nat.reduceLT, Nat.reduceEqDiff, reduceCtorEq, Nat.reduceAdd], by omega⟩
  · simp (disch := first | omega | decide) only [push_cast, ↓reduceIte, Nat.reduceLT, Nat.reduceEqDiff, reduceCtorEq, Nat.reduceAdd, an, ad]
    exact gk

theorem ordersN {h : AH} {v vd : Value} {l : List Int} {ds : List DoR} (hs : RowOf uL h v l) (hu : ∀ x ∈ l, 0 ≤ x ∧ x < 4294967296) (hds : RowOf doL h vd ds) :
    ACall Try.prog 3 [v, vd] h (fun r _ => r = .bool true) := by
  refine ACall.wf ⟨_, Try.func3, rfl, by kernel_rfl⟩ fun wf0 => ?_
  refine ACall.of_wp (c := (.seq (.region 0 (opsOf Try.f3 0) false) (.seq (.region 1 (opsOf Try.f3 1) false) (.seq (.region 2 (opsOf Try.f3 2) false) (.seq (.seq (.region 3 (opsOf Try.f3 3) false) (.block 0 (bodyBlk Try.f3 0))) (.seq (.region 10 (opsOf Try.f3 10) false) (.seq (.seq (.region 11 (opsOf Try.f3 11) false) (.cond (.tmp 67) (.seq (.region 12 (opsOf Try.f3 12) false) .ret) .skip)) (.seq (.seq (.region 13 (opsOf Try.f3 13) false) (.block 2 (bodyBlk Try.f3 2))) (.seq (.region 22 (opsOf Try.f3 22) false) .ret))))))))) 157 [.tmp 4] Try.func3 (by kernel_rfl) rfl rfl (by kernel_rfl) fun a hn hd ha => ?_
  rw [wpA_seq, wpA_region]
  refine opsM.at (rfl : #[_] = _) (rfl : [_] = _) ?_
  simp (disch := first | omega | decide) only [push_cast, ↓reduceIte, Nat.reduceLT, Nat.reduceEqDiff, reduceCtorEq, Nat.reduceAdd, hn, hd]
  refine opsM.at (rfl : #[_, _, _, _, _, _, _] = _) (rfl : [_, _, _, _, _, _, _] = _) ?_
  have hlen : ∀ h', aLen Try.prog 22 v h' = some (.int .i64 l.length) := hs.len Try.underlying22
  obtain ⟨v', hsl, hs'⟩ := hs.pre (P := Try.prog) Try.underlying22 infUs (k := .i64) (n := min l.length 100) (by omega)
  have hmin : min (l.length : Int) 100 = ((min l.length 100 : Nat) : Int) := by omega
  have hN := newN wf0 (uRow hs') (by rw [List.length_take]; omega) (fun x hx => hu x (List.mem_of_mem_take hx))
  simp (disch := first | omega | decide) only [push_cast, ↓reduceIte, Nat.reduceLT, Nat.reduceEqDiff, reduceCtorEq, Nat.reduceAdd, hn, hd, ha, hlen, aFold, aMin2R, hmin, hsl]
  refine ACall.mono ?_ hN
  rintro _ h1 ⟨nm, ob, rfl, r⟩
  simp (disch := first | omega | decide) only [push_cast, ↓reduceIte, Nat.reduceLT, Nat.reduceEqDiff, reduceCtorEq, Nat.reduceAdd, hn, hd, ha]
  refine opsM.at (rfl : #[_] = _) (rfl : [_] = _) ?_
  simp (disch := first | omega | decide) only [push_cast, ↓reduceIte, Nat.reduceLT, Nat.reduceEqDiff, reduceCtorEq, Nat.reduceAdd, hn, hd, ha]
  refine opsM.at (rfl : #[_] = _) (rfl : [_] = _) ?_
  simp (disch := first | omega | decide) only [push_cast, ↓reduceIte, Nat.reduceLT, Nat.reduceEqDiff, reduceCtorEq, Nat.reduceAdd, hn, hd, ha]
  obtain ⟨A, q⟩ : ∃ A, nm 0 = A := ⟨_, rfl⟩
  rw [q]
  refine wpLoop (rfl : bodyBlk Try.f3 0 = .loop _) (AW.mono ?_ (ordL0 (vd := vd) (ds := ds) wf0 r q ob0 hds (by simp (disch := first | omega | decide) only [push_cast, ↓reduceIte, Nat.reduceLT, Nat.reduceEqDiff, reduceCtorEq, Nat.reduceAdd, hn]) (by simp (disch := first | omega | decide) only [push_cast, ↓reduceIte, Nat.reduceLT, Nat.reduceEqDiff, reduceCtorEq, Nat.reduceAdd, hd]) (by simp (disch := first | omega | decide) only [push_cast, ↓reduceIte, Nat.reduceLT, Nat.reduceEqDiff, reduceCtorEq, Nat.reduceAdd, ha]) (by simp (disch := first | omega | decide) only [push_cast, ↓reduceIte, Nat.reduceLT, Nat.reduceEqDiff, reduceCtorEq, Nat.reduceAdd]) (by simp (disch := first | omega | decide) only [push_cast, ↓reduceIte, Nat.reduceLT, Nat.reduceEqDiff, reduceCtorEq, Nat.reduceAdd]) (by simp (disch := first | omega | decide) only [push_cast, ↓reduceIte, Nat.reduceLT, Nat.reduceEqDiff, reduceCtorEq, Nat.reduceAdd])))
  rintro _ a2 h2 ⟨rfl, n2, d2, t5, ts, av, t6, hts, ⟨s2, nm2, ob2, ao, AT, r2, q2, x2, hV, hA⟩⟩
  rw [blockQ_exit, if_pos rfl, thenQ_normal, wpA_seq, wpA_region]
  refine opsM.at (rfl : #[_, _, _, _, _, _, _] = _) (rfl : [_, _, _, _, _, _, _] = _) ?_
  have hm : (remE s2).length + s2.later.length + 1 ≤ 300 := by
    have := x2.x.cnt
    have := x2.ll
    rw [List.length_nil] at *
    omega
  have c := (drainN wf0 r2 x2.x x2.ld hm).wfPost
  rw [q2] at c
  simp (disch := first | omega | decide) only [push_cast, ↓reduceIte, Nat.reduceLT, Nat.reduceEqDiff, reduceCtorEq, Nat.reduceAdd, n2, d2, t5, t6]
  refine ACall.mono ?_ c
  rintro _ h3 ⟨⟨out, ov, oo, AA, rfl, hO, hOA, hcnt, hro, hgo, nm3, ob3, rs3⟩, wf3⟩
  have hav : SlOf h3 av (ts.map (.int .i64)) := hV.sl (fun o ho => by
    obtain ⟨g1, g2, g3⟩ := hA o ho
    exact rs3.keep _ _ g1 g3)
  have hgv : RowOf evL h3 ov out := hO.row hOA (by omega)
  have hl1 : ∀ h', aLen Try.prog 34 ov h' = some (.int .i64 out.length) := hgv.len Try.underlying34
  have hl2 : ∀ h', aLen Try.prog 26 av h' = some (.int .i64 ts.length) := hav.lenA Try.underlying26
  have hne : decide ((out.length : Int) = ts.length) = true := decide_eq_true (by omega)
  simp (disch := first | omega | decide) only [push_cast, ↓reduceIte, Nat.reduceLT, Nat.reduceEqDiff, reduceCtorEq, Nat.reduceAdd, n2, d2, t5, t6]
  refine opsM.at (rfl : #[_, _, _, _, _, _, _, _, _] = _) (rfl : [_, _, _, _, _, _, _, _, _] = _) ?_
  simp (disch := first | omega | decide) only [push_cast, ↓reduceIte, Nat.reduceLT, Nat.reduceEqDiff, reduceCtorEq, Nat.reduceAdd, n2, d2, t5, t6, hl1, hl2, hne]
  refine opsM.at (rfl : #[_] = _) (rfl : [_] = _) ?_
  simp (disch := first | omega | decide) only [push_cast, ↓reduceIte, Nat.reduceLT, Nat.reduceEqDiff, reduceCtorEq, Nat.reduceAdd, n2, d2, t5, t6]
  refine wpLoop (rfl : bodyBlk Try.f3 2 = .loop _) (AW.mono ?_ (ordL2 wf3 hgv hav hro hgo (by omega) (by simp (disch := first | omega | decide) only [push_cast, ↓reduceIte, Nat.reduceLT, Nat.reduceEqDiff, reduceCtorEq, Nat.reduceAdd, n2]) (by simp (disch := first | omega | decide) only [push_cast, ↓reduceIte, Nat.reduceLT, Nat.reduceEqDiff, reduceCtorEq, Nat.reduceAdd, d2]) (by simp (disch := first | omega | decide) only [push_cast, ↓reduceIte, Nat.reduceLT, Nat.reduceEqDiff, reduceCtorEq, Nat.reduceAdd, t6]) (by simp (disch := first | omega | decide) only [push_cast, ↓reduceIte, Nat.reduceLT, Nat.reduceEqDiff, reduceCtorEq, Nat.reduceAdd]) (by simp (disch := first | omega | decide) only [push_cast, ↓reduceIte, Nat.reduceLT, Nat.reduceEqDiff, reduceCtorEq, Nat.reduceAdd])))
  rintro _ a4 h4 ⟨rfl, n4, d4, -⟩
  rw [blockQ_exit, if_pos rfl, thenQ_normal, wpA_seq, wpA_region]
  refine opsM.at (rfl : #[_, _] = _) (rfl : [_, _] = _) ?_
  simp (disch := first | omega | decide) only [push_cast, ↓reduceIte, Nat.reduceLT, Nat.reduceEqDiff, reduceCtorEq, Nat.reduceAdd, n4, d4]
  refine ACall.mono ?_ awakeN
  rintro _ h5 ⟨rfl, -⟩
  simp (disch := first | omega | decide) only [push_cast, ↓reduceIte, Nat.reduceLT, Nat.reduceEqDiff, reduceCtorEq, Nat.reduceAdd, n4, d4]

end Go.Ab.Q

namespace Go.Ab.Q
open Go.Proofs
open Go.ChangeShapes Go.WideShapes Go.ChangeAt Go.RowKit

theorem slWide {P : Program} {r : Reach} {base : Nat} {W : World} {t e : TypeId} {v : Value} (ht : P.underlying t = some (.slice e)) (h : Value.okWide P W r base t v) : v.cells.toList = [v] := by
  unfold Value.okWide at h
  rw [ht] at h
  simp only at h
  unfold Cell.okWide at h
  rw [ht] at h
  simp only [Cell.ok, ht] at h
  cases v <;> simp_all [Value.cells]

section
variable {H : Type} {enc : TypeId × Value → H} {W : World} {base : Nat} {held : Bool}

theorem coU : Try.prog.cellsOf 48 = 1 := by kernel_rfl
theorem openU32 : Opens enc Try.prog W base (fun _ => true) held 48 uL (fun x => 0 ≤ x ∧ x < 4294967296) := by
  intro fuel cs y hd _
  obtain ⟨n, rfl, rfl, hw⟩ := DataW.trod_int Try.underlying48 hd
  have h1 : IntKind.u32.min ≤ n ∧ n ≤ IntKind.u32.max := by simpa [Lit.wf] using hw
  have m0 : IntKind.u32.min = 0 := rfl
  have m1 : IntKind.u32.max = 4294967295 := rfl
  exact ⟨n, by rw [m0, m1] at h1; omega, fun ρ h hr hro => ⟨ρ, h, _, GrA.refl hr hro, LR.single (.int _ _), rfl⟩⟩

/-- A slice of elements, as an argument. -/
def RowW {α : Type} (W : World) (L : Lay α) (v : Value) (xs : List α) : Prop := ∀ ρ h, HR ρ h W → AllRO h → ∃ ρ' h' u, GrA W ρ h ρ' h' ∧ VR ρ' u v ∧ RowOf L h' u xs

theorem openU32s {v : Value} {d : DataW H} {ps : List MemPlace} (hone : v.cells.toList = [v]) (hd : DataW.Trod enc Try.prog W base (fun _ => true) held 22 v d ps) (hw : ∀ n ∈ DataW.weights Try.prog 22 d, n ≤ reachBytes) :
    ∃ l : List Int, (∀ x ∈ l, 0 ≤ x ∧ x < 4294967296) ∧ RowW W uL v l := by
  obtain ⟨fuel, hd⟩ := hd
  obtain ⟨v', l, hv, hgood, hb, br⟩ := openRow (L := uL) Try.underlying22 coU openU32 hd hw
  rw [hone] at hv
  cases hv
  exact ⟨l, hgood, br⟩
end

end Go.Ab.Q

namespace Go.Ab.Q
open Go.Proofs
open Go.ChangeShapes Go.WideShapes Go.ChangeAt Go.RowKit

section
variable {H : Type} {enc : TypeId × Value → H} {W : World} {base : Nat} {held : Bool}

theorem coI : Try.prog.cellsOf 3 = 1 := by kernel_rfl
theorem coK : Try.prog.cellsOf 5 = 1 := by kernel_rfl
theorem coL : Try.prog.cellsOf 2 = 1 := by kernel_rfl
theorem coD : Try.prog.cellsOf 29 = 5 := by kernel_rfl
theorem fiveL {α : Type} {cs : List α} (h : cs.length = 5) : ∃ a b c d e, cs = [a, b, c, d, e] := by
  match cs, h with
  | [a, b, c, d, e], _ => exact ⟨a, b, c, d, e, rfl⟩

theorem openDo : Opens enc Try.prog W base (fun _ => true) held 29 doL (fun _ => True) := by
  intro fuel cs y hd hw
  obtain ⟨xs, m, _, rfl, hlen, hxl, hf⟩ := DataW.trod_struct Try.underlying29 hd
  rw [coD] at hlen
  obtain ⟨a, b, c, d, e, rfl⟩ := fiveL hlen
  have hx : ∀ i, i < 5 → ∃ x, xs[i]? = some x := fun i hi => ⟨xs[i]'(by rw [hxl]; exact hi), List.getElem?_eq_getElem _⟩
  obtain ⟨x0, e0⟩ := hx 0 (by decide)
  obtain ⟨x1, e1⟩ := hx 1 (by decide)
  obtain ⟨x2, e2⟩ := hx 2 (by decide)
  obtain ⟨x3, e3⟩ := hx 3 (by decide)
  obtain ⟨x4, e4⟩ := hx 4 (by decide)
  have f0 := (hf 0 _ rfl).trans e0
  have f1 := (hf 1 _ rfl).trans e1
  have f2 := (hf 2 _ rfl).trans e2
  have f3 := (hf 3 _ rfl).trans e3
  have f4 := (hf 4 _ rfl).trans e4
  simp only [List.getElem_toArray, List.getElem_cons_zero, List.getElem_cons_succ] at f0 f1 f2 f3 f4
  simp only [coI, coK, coL, List.drop_zero, List.drop_succ_cons, List.take_succ_cons, List.take_zero] at f0 f1 f2 f3 f4
  obtain ⟨n0, h0, _⟩ := DataW.trod_int Try.underlying3 f0
  obtain ⟨n1, h1, _⟩ := DataW.trod_int Try.underlying3 f1
  obtain ⟨n2, h2, _⟩ := DataW.trod_int Try.underlying3 f2
  obtain ⟨n3, h3, _⟩ := DataW.trod_int Try.underlying5 f3
  obtain ⟨n4, h4, _⟩ := DataW.trod_int Try.underlying2 f4
  cases h0; cases h1; cases h2; cases h3; cases h4
  exact ⟨⟨n0, n1, n2, n3, n4⟩, trivial, fun ρ h hr hro => ⟨ρ, h, doC ⟨n0, n1, n2, n3, n4⟩, GrA.refl hr hro, (LR.single (.int _ _)).cons (.int _ _) |>.cons (.int _ _) |>.cons (.int _ _) |>.cons (.int _ _), rfl⟩⟩

theorem openDos {v : Value} {d : DataW H} {ps : List MemPlace} (hone : v.cells.toList = [v]) (hd : DataW.Trod enc Try.prog W base (fun _ => true) held 23 v d ps) (hw : ∀ n ∈ DataW.weights Try.prog 23 d, n ≤ reachBytes) :
    ∃ l : List DoR, RowW W doL v l := by
  obtain ⟨fuel, hd⟩ := hd
  obtain ⟨v', l, hv, _, hb, br⟩ := openRow (L := doL) Try.underlying23 coD openDo hd hw
  rw [hone] at hv
  cases hv
  exact ⟨l, br⟩

def iL : Lay Int where
  sz := 1
  pos := by decide
  rel h cs x := cs = [.int .i64 x]
  mono := by rintro h h' cs x hs rfl; rfl
  len := by rintro h cs x rfl; rfl
  one := by rintro h cs x rfl v hv; simp only [List.mem_cons, List.not_mem_nil, or_false] at hv; rcases hv with rfl; rfl
instance : LayV iL := ⟨by rintro h cs x rfl; rfl⟩

end

theorem lawU2 {g : FuncId} {W : World} {v1 v2 : Value} {l : List Int} {ds : List DoR} (h1 : RowW W uL v1 l) (h2 : RowW W doL v2 ds)
    (hc : ∀ h u1 u2, RowOf uL h u1 l → RowOf doL h u2 ds → ACall Try.prog g [u1, u2] h (fun r _ => r = .bool true)) :
    Calls Try.prog g #[v1, v2] W fun e W' => e = .returned (.bool true) ∧ Below W.heap.size W W' := by
  obtain ⟨ρ1, k1, u1, g1, vr1, s1⟩ := h1 _ _ (HR.empty W) (fun A o h => by cases h)
  obtain ⟨ρ2, k2, u2, g2, vr2, s2⟩ := h2 ρ1 k1 g1.hr g1.ro
  have hcall := (hc k2 u1 u2 (s1.sub g2.sub) s2).2 ρ2 #[v1, v2] W ((LR.single vr2).cons (vr1.mono g2.le)) g2.hr
  refine hcall.mono ?_
  rintro e W' ⟨ρ', v, v', h', rfl, rfl, hv, _, hf⟩
  have : v' = .bool true := plain_only 9 _ _ rfl hv
  subst this
  refine ⟨rfl, hf.side.os, hf.side.tape, hf.side.output, hf.size, fun b hb => hf.rest b hb ?_⟩
  rintro ⟨A, o, r, ha, hown, _⟩
  rw [g2.ro A o ha] at hown; cases hown

end Go.Ab.Q
