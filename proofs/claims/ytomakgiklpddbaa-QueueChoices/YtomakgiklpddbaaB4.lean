/- The queue, plainly: Next; QueueStrata. The queue, plainly: QueueStrata, its second half. The queue, plainly: what drains in order. The queue, plainly: updates drained in order. netlablaw16.QueueStrata: its loops. netlablaw16.drain, of updates alone. The queue, plainly: updates put in. netlablaw16.QueueOrders: its first loop. The queue, plainly: QueueChoices. The arguments of the queue's laws, opened. The arguments of QueueOrders and QueueChoices, opened. netlablaw16.QueueChoices: what is wanted. netlablaw16.QueueChoices: what is wanted, its outer loops. netlablaw16.QueueOrders: its first loop. netlablaw16.QueueOrders: its second loop. netlablaw16.QueueStrata returns true. netlablaw16.QueueOrders returns true. netlablaw16.QueueChoices: the wanted events, put in. netlablaw16.QueueChoices: the wanted events, taken in order. netlablaw16.QueueChoices: every choice. netlablaw16.QueueChoices returns true. -/
import Derived.Test.YtomakgiklpddbaaB3
import Derived.Carry
set_option linter.unusedSimpArgs false
set_option linter.unusedVariables false
namespace Go.Ab.Q
open Go.Proofs
set_option linter.unusedSimpArgs false
set_option linter.unusedVariables false
set_option maxRecDepth 100000
set_option maxHeartbeats 4000000
attribute [local push_cast] wpA_skip wpA_ret wpA_exit wpA_seq wpA_block wpA_cond2 andK_true wpA_region wpA_draw wpA_loop thenQ_normal thenQ_ret thenQ_exit blockQ_normal blockQ_ret blockQ_exit condV_true condV_false opsM_nil opsM_cons2 okM_true wantM_true wantM_false stepM seqM_cons2 seqM_nil2 okS_true wantS_true wantS_false stepS skipS okB Keeps_nil contK_app List.zip_cons_cons List.zip_nil_left List.zip_nil_right Op.operands Call.operands Array.toList_append List.append_nil List.nil_append List.all_cons List.all_nil cOK plain put_n put_tm put_none put_df ev_tmp ev_const ev_func wanted_none wanted_some callR_func dop ex_some1 aBuiltin aBin intBin aUn Option.map_some Bool.and_true Bool.true_and Bool.and_self List.map_cons List.map_nil List.toList_toArray List.getElem?_toArray List.getElem?_cons_zero List.getElem?_cons_succ Option.getD_some Option.getD_none Bool.false_eq_true eq_self_iff_true decide_true decide_false List.cons_append aExtract resL resV List.getD_cons_zero List.getD_cons_succ List.getD_nil Nat.succ_ne_self g1 g2 yieldedA2 isB_bool isB_undef g3 Option.bind_some Option.bind_none bne_self_eq_false beq_self_eq_true Bool.not_true Bool.not_false Int.toNat_natCast List.length_map List.mem_cons List.not_mem_nil or_false not_false_eq_true decide_not Bool.not_not bodyR_ret2 bodyR_normal2 closeMarks_nil ex_some0 Nat.zero_add Nat.add_zero ieq ine List.map_toArray Option.toArray_none Option.toArray_some oev Keeps_cons Still_eq selL wpX_skip wpX_ret wpX_exit wpX_seq wpX_block wpX_cond wpX_region wpX_draw wpX_loop List.take_succ_cons List.take_zero List.drop_succ_cons List.drop_zero Int.zero_add Int.add_zero aNil if_true if_false true_and and_true

theorem listE_length (s : QS) : (listE s).length = s.drives.length + s.evals.length + s.threads.length + (heads s.ready).length := by
  unfold listE
  simp only [List.length_append, List.length_map, keysL_len]
  omega

theorem heads_nil {l : List (List Ev)} : heads l = [] ↔ ∀ j, l.getD j [] = [] := by
  constructor
  · intro h
    induction l with
    | nil => intro j; rfl
    | cons x l ih =>
      cases x with
      | nil =>
        intro j
        cases j with
        | zero => rfl
        | succ j => exact ih h j
      | cons y t => exact absurd h (by simp [heads])
  · intro h
    induction l with
    | nil => rfl
    | cons x l ih =>
      have h0 := h 0
      rw [List.getD_cons_zero] at h0
      subst h0
      exact ih (fun j => h (j + 1))
theorem heads_sum {l : List (List Ev)} : heads l = [] ↔ sumL List.length l = 0 := by
  induction l with
  | nil => exact ⟨fun _ => rfl, fun _ => rfl⟩
  | cons x l ih =>
    cases x with
    | nil => simp only [heads, sumL, List.length_nil, Nat.zero_add]; exact ih
    | cons y t => simp [heads, sumL]

theorem QOK.act1 {s : QS} (o : QOK s) : QOK (act1 s) := by
  unfold Go.Ab.Q.act1
  split
  · exact { o with kt := o.kq, kq := o.kt }
  · exact o
theorem QOK.act2 {s : QS} (o : QOK s) : QOK (act2 s) := by
  unfold Go.Ab.Q.act2
  split
  · have hfix : ∀ x ∈ s.waiting, x.index.toNat < s.ready.length := fun x hx => by have := o.wi x hx; have := o.rl; omega
    have hsum := pour_sum s.waiting s.ready hfix
    have hh := o.held
    have hh2 : s.held = ((([] : List Ev).length : Nat) : Int) + (sumL List.length (pour s.ready s.waiting) : Nat) + (sumL (fun p => p.2.updates.length) s.later : Nat) := by
      rw [hsum, hh]; simp; omega
    have hri : ∀ i, i < 64 → ∀ x ∈ (pour s.ready s.waiting).getD i [], x.index = i ∧ x.kind = 4 := by
      intro i hi x hx
      rcases pour_mem _ _ _ _ hx with hx | ⟨hx, e⟩
      · exact o.ri i hi x hx
      · have := o.wi x hx; exact ⟨by omega, this.2.2⟩
    exact { o with rl := by rw [pour_len]; exact o.rl, held := hh2, wi := fun x hx => (nomatch hx), ri := hri }
  · exact o
theorem QOK.act {s : QS} (o : QOK s) : QOK (actS s) := o.act1.act2

theorem next_some {s : QS} (o : QOK s) (h : listE (actS s) ≠ []) : ∃ x, x ∈ listE (actS s) ∧ Act (actS s) x ∧ nextS s = (x, true, remS { actS s with left := (actS s).left.tail } x) := by
  have hl : 0 < (listE (actS s)).length := by
    cases hE : listE (actS s) with
    | nil => exact absurd hE h
    | cons x l => simp
  have hp := pickS_lt o.act (n := (listE (actS s)).length) (by omega)
  have hlt : (pickS (actS s) (listE (actS s)).length).toNat < (listE (actS s)).length := by omega
  have hm : (listE (actS s)).getD (pickS (actS s) (listE (actS s)).length).toNat v0 ∈ listE (actS s) := by
    rw [List.getD_eq_getElem?_getD, List.getElem?_eq_getElem hlt]; exact List.getElem_mem hlt
  exact ⟨_, hm, act_of o.act hm, by unfold nextS; rw [if_neg h]⟩
theorem next_none {s : QS} (h : listE (actS s) = []) : nextS s = (v0, false, actS s) := by unfold nextS; rw [if_pos h]
theorem act_same {s : QS} (h : listE s ≠ []) : actS s = s := by
  have h1 : act1 s = s := by unfold act1; rw [if_neg h]
  unfold actS; rw [h1]; unfold act2; rw [if_neg h]

theorem adel_len {α : Type} {k : Int} : ∀ {l : List (Int × α)}, (∃ p ∈ l, p.1 = k) → (adel k l).length + 1 = l.length := by
  intro l
  induction l with
  | nil => rintro ⟨p, h, _⟩; cases h
  | cons q l ih =>
    rintro ⟨p, h, e⟩
    by_cases hq : q.1 = k
    · simp only [adel, if_pos hq, List.length_cons]
    · simp only [adel, if_neg hq, List.length_cons]
      have : (adel k l).length + 1 = l.length := ih ⟨p, by
        rcases List.mem_cons.1 h with rfl | h
        · exact absurd e hq
        · exact h, e⟩
      omega
theorem aput_len2 {α : Type} {k : Int} {x : α} {l : List (Int × α)} (h : ∀ p ∈ l, p.1 ≠ k) : (aput k x l).length = l.length + 1 := by
  have : aget k l = none := aget_none.2 (fun hm => by
    obtain ⟨p, hp, e⟩ := List.mem_map.1 hm
    exact h p hp e)
  rw [aput_new x this, List.length_append]; rfl

/-! ### QueueStrata -/

/-- Nothing but threads, evaluations, quiet and waiting ones. -/
structure SA (s : QS) : Prop where
  ok : QOK s
  d : s.drives = []
  l : s.later = []

def eU : Ev := ⟨4, 5, 99⟩

structure I0 (s : QS) (i : Nat) : Prop extends SA s where
  e : s.evals = []
  t : s.threads = []
  q : s.quiet = []
  r : heads s.ready = []
  w : s.waiting.length = i
structure I2 (s : QS) (c i : Nat) : Prop extends SA s where
  e : s.evals = []
  t : s.threads = []
  q : s.quiet.length = i
  qk : ∀ p ∈ s.quiet, 20 ≤ p.1 ∧ p.1 < 20 + i
  r : heads s.ready = []
  w : s.waiting.length = c
structure I4 (s : QS) (c b i : Nat) : Prop extends SA s where
  e : s.evals.length = i
  ek : ∀ p ∈ s.evals, 0 ≤ p.1 ∧ p.1 < i
  t : s.threads.length = i
  tk : ∀ p ∈ s.threads, 0 ≤ p.1 ∧ p.1 < i
  q : s.quiet.length = b
  qk : ∀ p ∈ s.quiet, 20 ≤ p.1
  r : heads s.ready = []
  w : s.waiting.length = c
structure I6 (s : QS) (c b n : Nat) : Prop extends SA s where
  e : s.evals.length + s.threads.length = n
  tk : ∀ p ∈ s.threads, p.1 < 20
  q : s.quiet.length = b
  qk : ∀ p ∈ s.quiet, 20 ≤ p.1
  r : heads s.ready = []
  w : s.waiting.length = c
/-- Of the quiet threads n are left. -/
structure I8 (s : QS) (c n : Nat) : Prop extends SA s where
  e : s.evals = []
  t : (s.threads = [] ∧ s.quiet.length = n ∧ ∀ p ∈ s.quiet, 20 ≤ p.1) ∨ (s.quiet = [] ∧ s.threads.length = n ∧ ∀ p ∈ s.threads, 20 ≤ p.1)
  r : heads s.ready = []
  w : s.waiting.length = c
/-- Of the updates n are left; i others wait. -/
structure I10 (s : QS) (n i : Nat) : Prop extends SA s where
  e : s.evals = []
  t : s.threads = []
  q : s.quiet = []
  r : (heads s.ready = [] ∧ s.waiting.length = n ∧ i = 0) ∨ (sumL List.length s.ready = n ∧ s.waiting = List.replicate i eU)
structure I12 (s : QS) (n : Nat) : Prop extends SA s where
  e : s.evals = []
  t : s.threads = []
  q : s.quiet = []
  r : (heads s.ready = [] ∧ s.waiting = List.replicate n eU) ∨ (s.waiting = [] ∧ s.ready.getD 5 [] = List.replicate n eU ∧ ∀ j, j ≠ 5 → s.ready.getD j [] = [])

theorem SA.held {s : QS} (a : SA s) : s.held = s.waiting.length + (sumL List.length s.ready : Nat) := by
  have := a.ok.held
  rw [a.l] at this
  simpa [sumL] using this

theorem upd_ok {s : QS} (a : SA s) {i tag : Int} (hi : 0 ≤ i ∧ i < 64) (hh : s.held < 20000) : atE s s.now ⟨4, i, tag⟩ = 0 ∧ atS s s.now ⟨4, i, tag⟩ = { s with held := s.held + 1, waiting := s.waiting ++ [⟨4, i, tag⟩] } := by
  have h0 := a.ok.now0
  have h1 := a.ok.now1
  have e : atE s s.now ⟨4, i, tag⟩ = 0 := by
    have k : kOK 4 = true := rfl
    have b : atBad s s.now ⟨4, i, tag⟩ = false := decide_eq_false (by show ¬ (¬ (0 ≤ i ∧ i < 64) ∨ s.now < s.now ∨ 1000000000000 < s.now); omega)
    have f : atFull s ⟨4, i, tag⟩ = false := decide_eq_false (by show ¬ ((4 : Int) = 4 ∧ 20000 ≤ s.held); omega)
    unfold atE
    rw [if_neg (by rw [k]; simp), if_neg (by rw [b]; simp), if_neg (by rw [f]; simp)]
  refine ⟨e, ?_⟩
  unfold atS
  rw [if_pos e]
  unfold at1
  rw [if_neg (by show ¬ ((4 : Int) = 1); decide), if_neg (by show ¬ ((4 : Int) = 3); decide), if_pos rfl]
theorem SA.wait {s : QS} (a : SA s) {i tag : Int} (hi : 0 ≤ i ∧ i < 64) (hh : s.held < 20000) : SA { s with held := s.held + 1, waiting := s.waiting ++ [⟨4, i, tag⟩] } :=
  ⟨a.ok.wait (x := ⟨4, i, tag⟩) ⟨hi.1, hi.2, rfl⟩ hh, a.d, a.l⟩

theorem I0.up {s : QS} {i : Nat} (x : I0 s i) (hi : i < 10) {k tag : Int} (hk : 0 ≤ k ∧ k < 64) : atE s s.now ⟨4, k, tag⟩ = 0 ∧ I0 (atS s s.now ⟨4, k, tag⟩) (i + 1) := by
  have hh : s.held < 20000 := by have := x.held; have := heads_sum.1 x.r; have := x.w; omega
  obtain ⟨h1, h2⟩ := upd_ok x.toSA (tag := tag) hk hh
  refine ⟨h1, ?_⟩
  rw [h2]
  exact ⟨x.wait hk hh, x.e, x.t, x.q, x.r, by simp [x.w]⟩
theorem I0.to {s : QS} {c : Nat} (x : I0 s c) : I2 s c 0 := ⟨x.toSA, x.e, x.t, by rw [x.q]; rfl, (fun p hp => by rw [x.q] at hp; cases hp), x.r, x.w⟩
theorem I2.up {s : QS} {c i : Nat} (x : I2 s c i) (hi : i < 10) : I2 { s with quiet := aput (20 + i) true s.quiet } c (i + 1) := by
  have hne : ∀ p ∈ s.quiet, p.1 ≠ 20 + (i : Int) := fun p hp => by have := x.qk p hp; omega
  refine ⟨⟨{ x.ok with kq := fun p hp => ?_ }, x.d, x.l⟩, x.e, x.t, ?_, fun p hp => ?_, x.r, x.w⟩
  · rcases mem_aput hp with rfl | hp
    · exact ⟨by show (0 : Int) ≤ 20 + i; omega, by show (20 + i : Int) < 64; omega⟩
    · exact x.ok.kq p hp
  · show (aput _ _ _).length = _; rw [aput_len2 hne, x.q]
  · rcases mem_aput hp with rfl | hp
    · exact ⟨by show (20 : Int) ≤ 20 + i; omega, by show (20 + i : Int) < 20 + (i + 1 : Nat); omega⟩
    · have := x.qk p hp; omega
theorem I2.to {s : QS} {c b : Nat} (x : I2 s c b) : I4 s c b 0 := ⟨x.toSA, by rw [x.e]; rfl, (fun p hp => by rw [x.e] at hp; cases hp), by rw [x.t]; rfl, (fun p hp => by rw [x.t] at hp; cases hp), x.q, fun p hp => (x.qk p hp).1, x.r, x.w⟩
theorem I4.up {s : QS} {c b i : Nat} (x : I4 s c b i) (hi : i < 10) : I4 { s with evals := aput i true s.evals, threads := aput i true s.threads } c b (i + 1) := by
  have hne1 : ∀ p ∈ s.evals, p.1 ≠ (i : Int) := fun p hp => by have := x.ek p hp; omega
  have hne2 : ∀ p ∈ s.threads, p.1 ≠ (i : Int) := fun p hp => by have := x.tk p hp; omega
  refine ⟨⟨{ x.ok with ke := fun p hp => ?_, kt := fun p hp => ?_ }, x.d, x.l⟩, ?_, fun p hp => ?_, ?_, fun p hp => ?_, x.q, x.qk, x.r, x.w⟩
  · rcases mem_aput hp with rfl | hp
    · exact ⟨by show (0 : Int) ≤ i; omega, by show (i : Int) < 64; omega⟩
    · exact x.ok.ke p hp
  · rcases mem_aput hp with rfl | hp
    · exact ⟨by show (0 : Int) ≤ i; omega, by show (i : Int) < 64; omega⟩
    · exact x.ok.kt p hp
  · show (aput _ _ _).length = _; rw [aput_len2 hne1, x.e]
  · rcases mem_aput hp with rfl | hp
    · exact ⟨by show (0 : Int) ≤ i; omega, by show (i : Int) < (i + 1 : Nat); omega⟩
    · have := x.ek p hp; omega
  · show (aput _ _ _).length = _; rw [aput_len2 hne2, x.t]
  · rcases mem_aput hp with rfl | hp
    · exact ⟨by show (0 : Int) ≤ i; omega, by show (i : Int) < (i + 1 : Nat); omega⟩
    · have := x.tk p hp; omega
theorem I4.to {s : QS} {c b a : Nat} (x : I4 s c b a) (ha : a < 10) : I6 s c b (2 * a) := ⟨x.toSA, by rw [x.e, x.t]; omega, fun p hp => by have := x.tk p hp; omega, x.q, x.qk, x.r, x.w⟩

theorem SA.rem {s : QS} (a : SA s) {x : Ev} (h : Act s x) : SA (remS { s with left := s.left.tail } x) := by
  have o : QOK { s with left := s.left.tail } := { a.ok with left := by have := a.ok.left; show s.left.tail.length ≤ _; rw [List.length_tail]; omega, uu := fun y hy => a.ok.uu y (List.mem_of_mem_tail hy) }
  have h' : Act { s with left := s.left.tail } x := by cases h with
    | drive a b => exact .drive a b
    | eval a b => exact .eval a b
    | thread a b => exact .thread a b
    | update a j t b c d => exact .update a j t b c d
  refine ⟨o.rem h', ?_, ?_⟩
  · have ed := a.d
    unfold remS
    split
    · show adel _ s.drives = []; rw [ed]; rfl
    split
    · exact ed
    split
    · exact ed
    · exact ed
  · have el := a.l
    unfold remS
    split
    · exact el
    split
    · exact el
    split
    · exact el
    · exact el

theorem I6.next {s : QS} {c b n : Nat} (x : I6 s c b (n + 1)) : ∃ y, nextS s = (y, true, remS { s with left := s.left.tail } y) ∧ y.kind ≠ 4 ∧ ¬ (y.kind = 3 ∧ y.index ≥ 20) ∧ I6 (remS { s with left := s.left.tail } y) c b n := by
  have hl : listE s ≠ [] := fun e => by
    have := listE_length s
    rw [e, x.d, x.r] at this
    have := x.e
    simp at *; omega
  have hs := act_same hl
  obtain ⟨y, hy, ha, hn⟩ := next_some x.ok (by rw [hs]; exact hl)
  rw [hs] at hn ha
  refine ⟨y, hn, ?_⟩
  have sa := x.rem ha
  cases ha with
  | drive hk hi => obtain ⟨p, hp, _⟩ := hi; rw [x.d] at hp; cases hp
  | eval hk hi =>
    have er : remS { s with left := s.left.tail } y = { s with left := s.left.tail, evals := adel y.index s.evals } := by unfold remS; rw [if_neg (by omega), if_pos hk]
    refine ⟨by omega, by omega, ?_⟩
    have hd := adel_len hi
    have := x.e
    refine ⟨sa, ?_, ?_, ?_, ?_, ?_, ?_⟩ <;> rw [er]
    · show (adel y.index s.evals).length + s.threads.length = n; omega
    · exact x.tk
    · exact x.q
    · exact x.qk
    · exact x.r
    · exact x.w
  | thread hk hi =>
    have er : remS { s with left := s.left.tail } y = { s with left := s.left.tail, threads := adel y.index s.threads } := by unfold remS; rw [if_neg (by omega), if_neg (by omega), if_pos hk]
    obtain ⟨p, hp, hpi⟩ := hi
    have h20 := x.tk p hp
    refine ⟨by omega, by omega, ?_⟩
    have hd := adel_len ⟨p, hp, hpi⟩
    have := x.e
    refine ⟨sa, ?_, ?_, ?_, ?_, ?_, ?_⟩ <;> rw [er]
    · show s.evals.length + (adel y.index s.threads).length = n; omega
    · exact fun p hp => x.tk p (mem_adel hp)
    · exact x.q
    · exact x.qk
    · exact x.r
    · exact x.w
  | update hk j t hj hi hr => rw [heads_nil.1 x.r j] at hr; cases hr

theorem I6.to {s : QS} {c b : Nat} (x : I6 s c b 0) : I8 s c b := by
  have := x.e
  exact ⟨x.toSA, List.eq_nil_of_length_eq_zero (by omega), .inl ⟨List.eq_nil_of_length_eq_zero (by omega), x.q, x.qk⟩, x.r, x.w⟩


theorem SA.swap {s : QS} (a : SA s) : SA (swapT s) := ⟨{ a.ok with kt := a.ok.kq, kq := a.ok.kt }, a.d, a.l⟩

theorem listE_nil {s : QS} (a : SA s) (he : s.evals = []) (ht : s.threads = []) (hr : heads s.ready = []) : listE s = [] := by
  have := listE_length s
  rw [a.d, he, ht, hr] at this
  exact List.eq_nil_of_length_eq_zero (by simpa using this)
theorem listE_ne {s : QS} (h : 0 < s.threads.length ∨ heads s.ready ≠ []) : listE s ≠ [] := fun e => by
  have := listE_length s
  rw [e] at this
  rcases h with h | h
  · rw [List.length_nil] at this; omega
  · have h2 : (heads s.ready).length ≠ 0 := fun e => h (List.eq_nil_of_length_eq_zero e)
    rw [List.length_nil] at this; omega

theorem I8.next {s : QS} {c n : Nat} (x : I8 s c (n + 1)) : ∃ y s', nextS s = (y, true, s') ∧ y.kind = 3 ∧ 20 ≤ y.index ∧ I8 s' c n ∧ (listE s').length = n ∧ s'.quiet = [] := by
  -- the state whose threads are the quiet ones
  have key : ∀ s1 : QS, actS s = s1 → SA s1 → s1.evals = [] → s1.quiet = [] → s1.threads.length = n + 1 → (∀ p ∈ s1.threads, 20 ≤ p.1) → heads s1.ready = [] → s1.waiting.length = c →
      ∃ y s', nextS s = (y, true, s') ∧ y.kind = 3 ∧ 20 ≤ y.index ∧ I8 s' c n ∧ (listE s').length = n ∧ s'.quiet = [] := by
    intro s1 hs sa he hq ht hk hr hw
    have hne : listE s1 ≠ [] := listE_ne (.inl (by omega))
    obtain ⟨y, hy, ha, hn⟩ := next_some x.ok (by rw [hs]; exact hne)
    rw [hs] at hn ha
    have sa' := sa.rem ha
    refine ⟨y, _, hn, ?_⟩
    cases ha with
    | drive hk hi => obtain ⟨p, hp, _⟩ := hi; rw [sa.d] at hp; cases hp
    | eval hk hi => obtain ⟨p, hp, _⟩ := hi; rw [he] at hp; cases hp
    | thread hky hi =>
      have er : remS { s1 with left := s1.left.tail } y = { s1 with left := s1.left.tail, threads := adel y.index s1.threads } := by unfold remS; rw [if_neg (by omega), if_neg (by omega), if_pos hky]
      have hd := adel_len hi
      obtain ⟨p, hp, hpi⟩ := hi
      have h20 := hk p hp
      have hI : I8 (remS { s1 with left := s1.left.tail } y) c n := by
        refine ⟨sa', ?_, .inr ⟨?_, ?_, ?_⟩, ?_, ?_⟩ <;> rw [er]
        · exact he
        · exact hq
        · show (adel y.index s1.threads).length = n; omega
        · exact fun p hp => hk p (mem_adel hp)
        · exact hr
        · exact hw
      refine ⟨hky, by omega, hI, ?_, ?_⟩
      · rw [listE_length, hI.d, hI.e, hI.r, er]
        show 0 + 0 + (adel y.index s1.threads).length + 0 = n; omega
      · rw [er]; exact hq
    | update hk j t hj hi hr' => rw [heads_nil.1 hr j] at hr'; cases hr'
  rcases x.t with ⟨ht, hq, hk⟩ | ⟨hq, ht, hk⟩
  · have h0 : listE s = [] := listE_nil x.toSA x.e ht x.r
    have h1 : act1 s = swapT s := by unfold act1; rw [if_pos h0]
    have hne : listE (swapT s) ≠ [] := listE_ne (.inl (by show 0 < s.quiet.length; omega))
    have h2 : actS s = swapT s := by unfold actS; rw [h1]; unfold act2; rw [if_neg hne]
    exact key _ h2 x.swap x.e ht hq hk x.r x.w
  · have hne : listE s ≠ [] := listE_ne (.inl (by omega))
    exact key s (act_same hne) x.toSA x.e hq ht hk x.r x.w

theorem I8.to {s : QS} {c : Nat} (x : I8 s c 0) : I10 s c 0 := by
  rcases x.t with ⟨ht, hq, hk⟩ | ⟨hq, ht, hk⟩
  · exact ⟨x.toSA, x.e, ht, List.eq_nil_of_length_eq_zero hq, .inl ⟨x.r, x.w, rfl⟩⟩
  · exact ⟨x.toSA, x.e, List.eq_nil_of_length_eq_zero ht, hq, .inl ⟨x.r, x.w, rfl⟩⟩

/-- Next, where only updates are there. -/
theorem upd_next {s s1 : QS} (hs : actS s = s1) (o : QOK s) (sa : SA s1) (he : s1.evals = []) (ht : s1.threads = []) (hr : heads s1.ready ≠ []) :
    ∃ y j t, nextS s = (y, true, { s1 with left := s1.left.tail, ready := s1.ready.set j t, held := s1.held - 1 }) ∧ y.kind = 4 ∧ y.index = (j : Int) ∧ j < 64 ∧ s1.ready.getD j [] = y :: t ∧ SA { s1 with left := s1.left.tail, ready := s1.ready.set j t, held := s1.held - 1 } := by
  have hne : listE s1 ≠ [] := listE_ne (.inr hr)
  obtain ⟨y, hy, ha, hn⟩ := next_some o (by rw [hs]; exact hne)
  rw [hs] at hn ha
  have sa' := sa.rem ha
  cases ha with
  | drive hk hi => obtain ⟨p, hp, _⟩ := hi; rw [sa.d] at hp; cases hp
  | eval hk hi => obtain ⟨p, hp, _⟩ := hi; rw [he] at hp; cases hp
  | thread hk hi => obtain ⟨p, hp, _⟩ := hi; rw [ht] at hp; cases hp
  | update hk j t hj hi hrj =>
    have hj' : y.index.toNat = j := by omega
    have er : remS { s1 with left := s1.left.tail } y = { s1 with left := s1.left.tail, ready := s1.ready.set j t, held := s1.held - 1 } := by
      unfold remS
      rw [if_neg (by omega), if_neg (by omega), if_neg (by omega), hj']
      show ({ s1 with left := s1.left.tail, ready := s1.ready.set j (s1.ready.getD j []).tail, held := s1.held - 1 } : QS) = _
      rw [hrj]; rfl
    rw [er] at hn sa'
    exact ⟨y, j, t, hn, hk, hi, hj, hrj, sa'⟩

theorem act_pour {s : QS} (a : SA s) (he : s.evals = []) (ht : s.threads = []) (hq : s.quiet = []) (hr : heads s.ready = []) : actS s = { s with ready := pour s.ready s.waiting, waiting := [] } := by
  have h0 : listE s = [] := listE_nil a he ht hr
  have h1 : act1 s = s := by
    unfold act1; rw [if_pos h0]
    cases s
    simp only [swapT] at ht hq ⊢
    rw [ht, hq]
  unfold actS; rw [h1]; unfold act2; rw [if_pos h0]
theorem SA.pour {s : QS} (a : SA s) (he : s.evals = []) (ht : s.threads = []) (hq : s.quiet = []) (hr : heads s.ready = []) : SA { s with ready := pour s.ready s.waiting, waiting := [] } := by
  have e := act_pour a he ht hq hr
  have o := a.ok.act
  rw [e] at o
  exact ⟨o, a.d, a.l⟩

theorem I10.next {s : QS} {n i : Nat} (x : I10 s (n + 1) i) : ∃ y s', nextS s = (y, true, s') ∧ y.kind = 4 ∧ I10 s' n i ∧ sumL List.length s'.ready = n := by
  have key : ∀ s1 : QS, actS s = s1 → SA s1 → s1.evals = [] → s1.threads = [] → s1.quiet = [] → sumL List.length s1.ready = n + 1 → s1.waiting = List.replicate i eU → ∃ y s', nextS s = (y, true, s') ∧ y.kind = 4 ∧ I10 s' n i ∧ sumL List.length s'.ready = n := by
    intro s1 hs sa he ht hq hr hw
    obtain ⟨y, j, t, hn, hk, hi, hj, hrj, sa'⟩ := upd_next hs x.ok sa he ht (fun e => by have := heads_sum.1 e; omega)
    have hsum : sumL List.length (s1.ready.set j t) = n := by
      have := sumL_set List.length [] s1.ready j t (by rw [sa.ok.rl]; exact hj)
      rw [hrj, List.length_cons] at this
      omega
    exact ⟨y, _, hn, hk, ⟨sa', he, ht, hq, .inr ⟨hsum, hw⟩⟩, hsum⟩
  rcases x.r with ⟨hr, hw, hi⟩ | ⟨hr, hw⟩
  · subst hi
    have e := act_pour x.toSA x.e x.t x.q hr
    refine key _ e (x.toSA.pour x.e x.t x.q hr) x.e x.t x.q ?_ rfl
    show sumL List.length (Go.Ab.Q.pour s.ready s.waiting) = n + 1
    rw [pour_sum _ _ (fun y hy => by have := x.ok.wi y hy; have := x.ok.rl; omega), heads_sum.1 hr, hw]; omega
  · have hne : listE s ≠ [] := listE_ne (.inr (fun e => by have := heads_sum.1 e; omega))
    exact key s (act_same hne) x.toSA x.e x.t x.q hr hw

theorem I10.up {s : QS} {n i : Nat} (x : I10 s n i) (hn : n + i < 100) (hp : sumL List.length s.ready = n) : atE s s.now ⟨4, 5, 99⟩ = 0 ∧ I10 (atS s s.now ⟨4, 5, 99⟩) n (i + 1) := by
  have hh : s.held < 20000 := by
    have := x.held
    rcases x.r with ⟨a, b, c⟩ | ⟨a, b⟩
    · have := heads_sum.1 a; omega
    · rw [b, List.length_replicate] at this; omega
  obtain ⟨h1, h2⟩ := upd_ok x.toSA (i := 5) (tag := 99) (by decide) hh
  refine ⟨h1, ?_⟩
  rw [h2]
  refine ⟨x.wait (by decide) hh, x.e, x.t, x.q, .inr ?_⟩
  rcases x.r with ⟨a, b, c⟩ | ⟨a, b⟩
  · have n0 : n = 0 := by have := heads_sum.1 a; omega
    subst c; subst n0
    have hw : s.waiting = [] := List.eq_nil_of_length_eq_zero b
    refine ⟨heads_sum.1 a, ?_⟩
    show s.waiting ++ [⟨4, 5, 99⟩] = _
    rw [hw]; rfl
  · refine ⟨a, ?_⟩
    show s.waiting ++ [⟨4, 5, 99⟩] = _
    rw [b, List.replicate_succ']; rfl

theorem I10.to {s : QS} {c : Nat} (x : I10 s 0 c) : I12 s c := by
  rcases x.r with ⟨a, b, hc⟩ | ⟨a, b⟩
  · subst hc
    exact ⟨x.toSA, x.e, x.t, x.q, .inl ⟨a, List.eq_nil_of_length_eq_zero b⟩⟩
  · exact ⟨x.toSA, x.e, x.t, x.q, .inl ⟨heads_sum.2 a, b⟩⟩

theorem pour_rep : ∀ (n : Nat) (r : List (List Ev)), r.length = 64 → (pour r (List.replicate n eU)).getD 5 [] = r.getD 5 [] ++ List.replicate n eU ∧ ∀ j, j ≠ 5 → (pour r (List.replicate n eU)).getD j [] = r.getD j [] := by
  intro n
  induction n with
  | zero => intro r _; exact ⟨by simp [pour], fun j _ => rfl⟩
  | succ n ih =>
    intro r hr
    rw [List.replicate_succ, pour]
    have h5 : eU.index.toNat = 5 := rfl
    rw [h5]
    obtain ⟨h1, h2⟩ := ih (r.set 5 (r.getD 5 [] ++ [eU])) (by rw [List.length_set]; exact hr)
    refine ⟨?_, fun j hj => ?_⟩
    · rw [h1]
      have : (r.set 5 (r.getD 5 [] ++ [eU])).getD 5 [] = r.getD 5 [] ++ [eU] := by rw [List.getD_eq_getElem?_getD, List.getElem?_set_self (by rw [hr]; decide)]; rfl
      rw [this, List.append_assoc]; rfl
    · rw [h2 j hj]
      rw [List.getD_eq_getElem?_getD, List.getElem?_set_ne (fun e => hj e.symm), ← List.getD_eq_getElem?_getD]

theorem I12.next {s : QS} {n : Nat} (x : I12 s (n + 1)) : ∃ s', nextS s = (eU, true, s') ∧ I12 s' n := by
  have key : ∀ s1 : QS, actS s = s1 → SA s1 → s1.evals = [] → s1.threads = [] → s1.quiet = [] → s1.waiting = [] → s1.ready.getD 5 [] = List.replicate (n + 1) eU → (∀ j, j ≠ 5 → s1.ready.getD j [] = []) → ∃ s', nextS s = (eU, true, s') ∧ I12 s' n := by
    intro s1 hs sa he ht hq hw h5 hj
    obtain ⟨y, j, t, hn, hk, hi, hj64, hrj, sa'⟩ := upd_next hs x.ok sa he ht (fun e => by have := heads_nil.1 e 5; rw [h5] at this; cases this)
    have j5 : j = 5 := Classical.byContradiction fun h => by rw [hj j h] at hrj; cases hrj
    subst j5
    rw [h5, List.replicate_succ, List.cons.injEq] at hrj
    obtain ⟨rfl, rfl⟩ := hrj
    refine ⟨_, hn, ⟨sa', he, ht, hq, .inr ⟨hw, ?_, fun j hj' => ?_⟩⟩⟩
    · show (s1.ready.set 5 _).getD 5 [] = _
      rw [List.getD_eq_getElem?_getD, List.getElem?_set_self (by rw [sa.ok.rl]; decide)]; rfl
    · show (s1.ready.set 5 _).getD j [] = _
      rw [List.getD_eq_getElem?_getD, List.getElem?_set_ne (fun e => hj' e.symm), ← List.getD_eq_getElem?_getD]; exact hj j hj'
  rcases x.r with ⟨hr, hw⟩ | ⟨hw, h5, hj⟩
  · have e := act_pour x.toSA x.e x.t x.q hr
    obtain ⟨p1, p2⟩ := pour_rep (n + 1) s.ready x.ok.rl
    refine key _ e (x.toSA.pour x.e x.t x.q hr) x.e x.t x.q rfl ?_ (fun j hj => ?_)
    · show (Go.Ab.Q.pour s.ready s.waiting).getD 5 [] = _
      rw [hw, p1, heads_nil.1 hr 5, List.nil_append]
    · show (Go.Ab.Q.pour s.ready s.waiting).getD j [] = _
      rw [hw, p2 j hj, heads_nil.1 hr j]
  · have hne : listE s ≠ [] := listE_ne (.inr (fun e => by have := heads_nil.1 e 5; rw [h5] at this; cases this))
    exact key s (act_same hne) x.toSA x.e x.t x.q hw h5 hj

theorem I12.over {s : QS} (x : I12 s 0) : (!(nextS s).2.1 && decide ((nextS s).1 = v0)) = true := by
  have hr : heads s.ready = [] := by
    rcases x.r with ⟨a, _⟩ | ⟨_, a, b⟩
    · exact a
    · exact heads_nil.2 (fun j => by
        by_cases h : j = 5
        · subst h; exact a
        · exact b j h)
  have hw : s.waiting = [] := by
    rcases x.r with ⟨_, a⟩ | ⟨a, _⟩
    · exact a
    · exact a
  have e := act_pour x.toSA x.e x.t x.q hr
  have hn : listE (actS s) = [] := by
    rw [e, hw]
    exact listE_nil (s := { s with ready := Go.Ab.Q.pour s.ready [], waiting := [] }) (by have := x.toSA.pour x.e x.t x.q hr; rw [hw] at this; exact this) x.e x.t hr
  rw [next_none hn]
  show (!false && decide (v0 = v0)) = true
  decide


def atT (ts : List Int) (x : Ev) : Int := ts.getD x.tag.toNat 0
/-- Good one behind the other. -/
def GG (ts : List Int) (a b : Ev) : Prop := atT ts a ≤ atT ts b ∧ a.tag ≠ b.tag ∧ (a.index = b.index → atT ts a = atT ts b → a.tag < b.tag)
def laterE (l : List (Int × Lat)) : List Ev := l.flatMap fun p => p.2.updates
def remE (s : QS) : List Ev := s.ready.flatten ++ (s.waiting ++ laterE s.later)

theorem mem_rows {l : List (List Ev)} {y : Ev} : y ∈ l.flatten ↔ ∃ j, j < l.length ∧ y ∈ l.getD j [] := by
  rw [List.mem_flatten]
  constructor
  · rintro ⟨r, hr, hy⟩
    obtain ⟨j, hj, rfl⟩ := List.mem_iff_getElem.1 hr
    exact ⟨j, hj, by rw [List.getD_eq_getElem?_getD, List.getElem?_eq_getElem hj]; exact hy⟩
  · rintro ⟨j, hj, hy⟩
    rw [List.getD_eq_getElem?_getD, List.getElem?_eq_getElem hj] at hy
    exact ⟨l[j], List.getElem_mem hj, hy⟩

theorem set_flat : ∀ (l : List (List Ev)) (j : Nat) (r : List Ev), j < l.length → ((l.set j r).flatten ++ l.getD j []).Perm (l.flatten ++ r) := by
  intro l
  induction l with
  | nil => intro j r h; exact absurd h (Nat.not_lt_zero _)
  | cons x l ih =>
    intro j r h
    cases j with
    | zero =>
      simp only [List.set_cons_zero, List.flatten_cons, List.getD_cons_zero]
      have e : (r ++ (l.flatten ++ x)).Perm ((x ++ l.flatten) ++ r) := List.perm_append_comm.trans (List.Perm.append_right r List.perm_append_comm)
      rw [← List.append_assoc] at e
      exact e
    | succ j =>
      have := ih j r (by simpa using h)
      simp only [List.set_cons_succ, List.flatten_cons, List.getD_cons_succ, List.append_assoc]
      exact List.Perm.append_left _ this

theorem pour_flat : ∀ (l : List Ev) (r : List (List Ev)), (∀ x ∈ l, x.index.toNat < r.length) → (pour r l).flatten.Perm (r.flatten ++ l) := by
  intro l
  induction l with
  | nil => intro r _; rw [List.append_nil]; exact List.Perm.refl _
  | cons y l ih =>
    intro r h
    have h0 := h y (List.mem_cons_self ..)
    rw [pour]
    refine (ih _ (fun x hx => by rw [List.length_set]; exact h x (List.mem_cons_of_mem _ hx))).trans ?_
    have e := set_flat r y.index.toNat (r.getD y.index.toNat [] ++ [y]) h0
    -- both have the row's old part
    have e2 : ((r.set y.index.toNat (r.getD y.index.toNat [] ++ [y])).flatten).Perm (r.flatten ++ [y]) := by
      have h3 : (r.flatten ++ (r.getD y.index.toNat [] ++ [y])).Perm ((r.flatten ++ [y]) ++ r.getD y.index.toNat []) := by
        rw [List.append_assoc]; exact List.Perm.append_left _ List.perm_append_comm
      exact (List.perm_append_right_iff _).1 (e.trans h3)
    have e3 := List.Perm.append_right l e2
    rw [List.append_assoc] at e3
    exact e3

theorem pour_row : ∀ (l : List Ev) (r : List (List Ev)) (j : Nat), j < r.length → (pour r l).getD j [] = r.getD j [] ++ l.filter (fun y => decide (y.index.toNat = j)) := by
  intro l
  induction l with
  | nil => intro r j _; simp [pour]
  | cons y l ih =>
    intro r j hj
    rw [pour, ih _ j (by rw [List.length_set]; exact hj)]
    by_cases e : y.index.toNat = j
    · subst e
      rw [List.getD_eq_getElem?_getD, List.getElem?_set_self hj, List.filter_cons_of_pos (by simp)]; simp
    · rw [List.getD_eq_getElem?_getD, List.getElem?_set_ne e, ← List.getD_eq_getElem?_getD, List.filter_cons_of_neg (by simpa using e)]

theorem adel_flat : ∀ (l : List (Int × Lat)) (k : Int) (x : Lat), aget k l = some x → (laterE l).Perm (x.updates ++ laterE (adel k l)) := by
  intro l
  induction l with
  | nil => intro k x h; cases h
  | cons p l ih =>
    intro k x h
    by_cases hp : p.1 = k
    · simp only [aget, if_pos hp, Option.some.injEq] at h
      simp only [adel, if_pos hp, laterE, List.flatMap_cons]
      rw [h]
    · simp only [aget, if_neg hp] at h
      have := ih k x h
      simp only [adel, if_neg hp, laterE, List.flatMap_cons] at this ⊢
      exact (List.Perm.append_left _ this).trans (by rw [← List.append_assoc, ← List.append_assoc]; exact List.Perm.append_right _ List.perm_append_comm)

theorem aput_flat : ∀ (l : List (Int × Lat)) (k : Int) (x : Lat) (e : Ev), aget k l = some x → (laterE (aput k { x with updates := x.updates ++ [e] } l)).Perm (laterE l ++ [e]) := by
  intro l
  induction l with
  | nil => intro k x e h; cases h
  | cons p l ih =>
    intro k x e h
    by_cases hp : p.1 = k
    · simp only [aget, if_pos hp, Option.some.injEq] at h
      simp only [aput, if_pos hp, laterE, List.flatMap_cons]
      rw [h, List.append_assoc, List.append_assoc]
      exact List.Perm.append_left _ List.perm_append_comm
    · simp only [aget, if_neg hp] at h
      have := ih k x e h
      simp only [aput, if_neg hp, laterE, List.flatMap_cons] at this ⊢
      rw [List.append_assoc]
      exact List.Perm.append_left _ this


/-- What is out, and what is left, of updates alone. -/
structure OD (ts : List Int) (s : QS) (out : List Ev) : Prop where
  d : s.drives = []
  e : s.evals = []
  t : s.threads = []
  q : s.quiet = []
  nd : (s.later.map (·.1)).Nodup
  rng : ∀ y ∈ remE s, 0 ≤ y.tag ∧ y.tag < ts.length
  ro : ∀ y ∈ out, 0 ≤ y.tag ∧ y.tag < ts.length
  nt : ((remE s).map (·.tag)).Nodup
  tr : ∀ j, ∀ y ∈ s.ready.getD j [], atT ts y = s.now
  tw : ∀ y ∈ s.waiting, atT ts y = s.now
  tl : ∀ p ∈ s.later, ∀ y ∈ p.2.updates, atT ts y = p.1
  pr : ∀ j, (s.ready.getD j []).Pairwise (fun a b => a.tag < b.tag)
  pw : s.waiting.Pairwise (fun a b => a.index = b.index → a.tag < b.tag)
  pl : ∀ p ∈ s.later, p.2.updates.Pairwise (fun a b => a.index = b.index → a.tag < b.tag)
  wr : s.waiting ≠ [] → heads s.ready = []
  go : out.Pairwise (GG ts)
  gx : ∀ x ∈ out, ∀ y ∈ remE s, GG ts x y
  cnt : out.length + (remE s).length = ts.length

theorem listE_nil2 {s : QS} (hd : s.drives = []) (he : s.evals = []) (ht : s.threads = []) (hr : heads s.ready = []) : listE s = [] := by
  have := listE_length s
  rw [hd, he, ht, hr] at this
  exact List.eq_nil_of_length_eq_zero (by simpa using this)
theorem act_pour2 {s : QS} (hd : s.drives = []) (he : s.evals = []) (ht : s.threads = []) (hq : s.quiet = []) (hr : heads s.ready = []) : actS s = { s with ready := pour s.ready s.waiting, waiting := [] } := by
  have h0 : listE s = [] := listE_nil2 hd he ht hr
  have h1 : act1 s = s := by
    unfold act1; rw [if_pos h0]
    cases s
    simp only [swapT] at ht hq ⊢
    rw [ht, hq]
  unfold actS; rw [h1]; unfold act2; rw [if_pos h0]
theorem upd_next2 {s s1 : QS} (hs : actS s = s1) (o : QOK s) (hd : s1.drives = []) (he : s1.evals = []) (ht : s1.threads = []) (hr : heads s1.ready ≠ []) :
    ∃ y j t, nextS s = (y, true, { s1 with left := s1.left.tail, ready := s1.ready.set j t, held := s1.held - 1 }) ∧ y.index = (j : Int) ∧ j < 64 ∧ s1.ready.getD j [] = y :: t := by
  have hne : listE s1 ≠ [] := listE_ne (.inr hr)
  obtain ⟨y, hy, ha, hn⟩ := next_some o (by rw [hs]; exact hne)
  rw [hs] at hn ha
  cases ha with
  | drive hk hi => obtain ⟨p, hp, _⟩ := hi; rw [hd] at hp; cases hp
  | eval hk hi => obtain ⟨p, hp, _⟩ := hi; rw [he] at hp; cases hp
  | thread hk hi => obtain ⟨p, hp, _⟩ := hi; rw [ht] at hp; cases hp
  | update hk j t hj hi hrj =>
    have hj' : y.index.toNat = j := by omega
    have er : remS { s1 with left := s1.left.tail } y = { s1 with left := s1.left.tail, ready := s1.ready.set j t, held := s1.held - 1 } := by
      unfold remS
      rw [if_neg (by omega), if_neg (by omega), if_neg (by omega), hj']
      show ({ s1 with left := s1.left.tail, ready := s1.ready.set j (s1.ready.getD j []).tail, held := s1.held - 1 } : QS) = _
      rw [hrj]; rfl
    rw [er] at hn
    exact ⟨y, j, t, hn, hi, hj, hrj⟩

theorem getD_out {l : List (List Ev)} {j : Nat} (h : l.length ≤ j) : l.getD j [] = [] := by rw [List.getD_eq_getElem?_getD, List.getElem?_eq_none h]; rfl

theorem OD.poured {ts : List Int} {s : QS} {out : List Ev} (o : QOK s) (x : OD ts s out) (hr : heads s.ready = []) : OD ts { s with ready := pour s.ready s.waiting, waiting := [] } out ∧ (remE { s with ready := pour s.ready s.waiting, waiting := [] }).Perm (remE s) := by
  have hfix : ∀ y ∈ s.waiting, y.index.toNat < s.ready.length := fun y hy => by have := o.wi y hy; have := o.rl; omega
  have hp : (remE { s with ready := pour s.ready s.waiting, waiting := [] }).Perm (remE s) := by
    have := List.Perm.append_right (laterE s.later) (pour_flat s.waiting s.ready hfix)
    show ((pour s.ready s.waiting).flatten ++ ([] ++ laterE s.later)).Perm (s.ready.flatten ++ (s.waiting ++ laterE s.later))
    rw [List.nil_append, ← List.append_assoc]; exact this
  have hrow := heads_nil.1 hr
  have hget : ∀ j, (pour s.ready s.waiting).getD j [] = s.waiting.filter (fun y => decide (y.index.toNat = j)) ∨ (pour s.ready s.waiting).getD j [] = [] := fun j => by
    by_cases hj : j < s.ready.length
    · left; rw [pour_row _ _ j hj, hrow j, List.nil_append]
    · right; exact getD_out (by rw [pour_len]; omega)
  refine ⟨⟨x.d, x.e, x.t, x.q, x.nd, fun y hy => x.rng y (hp.mem_iff.1 hy), x.ro, (hp.map _).nodup_iff.2 x.nt, fun j y hy => ?_, fun y hy => (nomatch hy), x.tl, fun j => ?_, List.Pairwise.nil, x.pl, fun h => absurd rfl h, x.go, fun a ha y hy => x.gx a ha y (hp.mem_iff.1 hy), by rw [hp.length_eq]; exact x.cnt⟩, hp⟩
  · rcases pour_mem _ _ _ _ hy with hy | ⟨hy, _⟩
    · rw [hrow j] at hy; cases hy
    · exact x.tw y hy
  · show ((pour s.ready s.waiting).getD j []).Pairwise _
    rcases hget j with e | e
    · rw [e]
      refine List.Pairwise.imp_of_mem (R := fun a b => a.index = b.index → a.tag < b.tag) (fun {a b} ha hb h => h ?_) (x.pw.sublist List.filter_sublist)
      have h1 := List.mem_filter.1 ha
      have h2 := List.mem_filter.1 hb
      have e1 := of_decide_eq_true h1.2
      have e2 := of_decide_eq_true h2.2
      have := o.wi a h1.1
      have := o.wi b h2.1
      omega
    · rw [e]; exact List.Pairwise.nil

theorem OD.pop {ts : List Int} {s : QS} {out : List Ev} (o : QOK s) (x : OD ts s out) {j : Nat} {y : Ev} {t : List Ev} (hj : j < 64) (hi : y.index = (j : Int)) (hr : s.ready.getD j [] = y :: t) (l : List Int) (n : Int) :
    OD ts { s with left := l, ready := s.ready.set j t, held := n } (out ++ [y]) ∧ (remE { s with left := l, ready := s.ready.set j t, held := n }).length + 1 = (remE s).length := by
  have hw : s.waiting = [] := Classical.byContradiction fun h => by
    have := heads_nil.1 (x.wr h) j
    rw [hr] at this; cases this
  have hjl : j < s.ready.length := by rw [o.rl]; exact hj
  have hp : (y :: remE { s with left := l, ready := s.ready.set j t, held := n }).Perm (remE s) := by
    have e := set_flat s.ready j t hjl
    rw [hr] at e
    have e2 : (((s.ready.set j t).flatten ++ [y]) ++ t).Perm (s.ready.flatten ++ t) := by rw [List.append_assoc]; exact e
    have e3 := (List.perm_append_right_iff _).1 e2
    have e4 : (y :: (s.ready.set j t).flatten).Perm s.ready.flatten := (List.perm_append_comm (l₁ := [y])).trans e3
    exact List.Perm.append_right (s.waiting ++ laterE s.later) e4
  have hsub : ∀ z ∈ remE { s with left := l, ready := s.ready.set j t, held := n }, z ∈ remE s := fun z hz => hp.mem_iff.1 (List.mem_cons_of_mem _ hz)
  have hy : y ∈ remE s := hp.mem_iff.1 (List.mem_cons_self ..)
  have hnd : ((y :: remE { s with left := l, ready := s.ready.set j t, held := n }).map (·.tag)).Nodup := (hp.map _).nodup_iff.2 x.nt
  rw [List.map_cons, List.nodup_cons] at hnd
  have hget : ∀ i, (s.ready.set j t).getD i [] = if i = j then t else s.ready.getD i [] := fun i => by
    by_cases e : i = j
    · subst e; rw [if_pos rfl, List.getD_eq_getElem?_getD, List.getElem?_set_self hjl]; rfl
    · rw [if_neg e, List.getD_eq_getElem?_getD, List.getElem?_set_ne (fun h => e h.symm), ← List.getD_eq_getElem?_getD]
  have hrowj := x.pr j
  rw [hr, List.pairwise_cons] at hrowj
  have hty : atT ts y = s.now := x.tr j y (by rw [hr]; exact List.mem_cons_self ..)
  have hg : ∀ z ∈ remE { s with left := l, ready := s.ready.set j t, held := n }, GG ts y z := by
    intro z hz
    have hne : y.tag ≠ z.tag := fun e => hnd.1 (List.mem_map.2 ⟨z, hz, e.symm⟩)
    rcases List.mem_append.1 hz with hz1 | hz1
    · obtain ⟨i, hil, hzi⟩ := mem_rows.1 hz1
      have hi64 : i < 64 := by
        have h0 : i < (s.ready.set j t).length := hil
        rw [List.length_set, o.rl] at h0; exact h0
      have hzi : z ∈ (s.ready.set j t).getD i [] := hzi
      rw [hget i] at hzi
      by_cases e : i = j
      · subst e
        rw [if_pos rfl] at hzi
        have hz0 : z ∈ s.ready.getD i [] := by rw [hr]; exact List.mem_cons_of_mem _ hzi
        exact ⟨by rw [hty, x.tr i z hz0]; exact Int.le_refl _, hne, fun _ _ => hrowj.1 z hzi⟩
      · rw [if_neg e] at hzi
        have hzk := o.ri i hi64 z hzi
        exact ⟨by rw [hty, x.tr i z hzi]; exact Int.le_refl _, hne, fun h => absurd h (by omega)⟩
    · have hz1 : z ∈ s.waiting ++ laterE s.later := hz1
      rw [hw, List.nil_append] at hz1
      obtain ⟨p, hpm, hzp⟩ := List.mem_flatMap.1 hz1
      have h1 := x.tl p hpm z hzp
      have h2 := o.kl p hpm
      exact ⟨by rw [hty, h1]; omega, hne, fun _ h => by rw [hty, h1] at h; omega⟩
  refine ⟨⟨x.d, x.e, x.t, x.q, x.nd, fun z hz => x.rng z (hsub z hz), fun z hz => ?_, hnd.2, fun i z hz => ?_, x.tw, x.tl, fun i => ?_, x.pw, x.pl, fun h => absurd hw h, ?_, fun a ha z hz => ?_, ?_⟩, ?_⟩
  · rcases List.mem_append.1 hz with hz | hz
    · exact x.ro z hz
    · simp only [List.mem_cons, List.not_mem_nil, or_false] at hz; subst hz; exact x.rng z hy
  · have hz2 : z ∈ (s.ready.set j t).getD i [] := hz
    rw [hget i] at hz2
    by_cases e : i = j
    · rw [if_pos e] at hz2; rw [← e] at hr; exact x.tr i z (by rw [hr]; exact List.mem_cons_of_mem _ hz2)
    · rw [if_neg e] at hz2; exact x.tr i z hz2
  · show ((s.ready.set j t).getD i []).Pairwise _
    rw [hget i]
    split
    · exact hrowj.2
    · exact x.pr i
  · rw [List.pairwise_append]
    refine ⟨x.go, List.pairwise_singleton _ _, fun a ha b hb => ?_⟩
    simp only [List.mem_cons, List.not_mem_nil, or_false] at hb
    subst hb
    exact x.gx a ha b hy
  · rcases List.mem_append.1 ha with ha | ha
    · exact x.gx a ha z (hsub z hz)
    · simp only [List.mem_cons, List.not_mem_nil, or_false] at ha; subst ha; exact hg z hz
  · have := x.cnt
    have h2 := hp.length_eq
    rw [List.length_cons] at h2
    rw [List.length_append, List.length_singleton]; omega
  · have h2 := hp.length_eq
    rw [List.length_cons] at h2
    exact h2

/-- Next, of updates alone. -/
theorem OD.next {ts : List Int} {s : QS} {out : List Ev} (o : QOK s) (x : OD ts s out) :
    (∃ s', nextS s = (v0, false, s') ∧ OD ts s' out ∧ s'.waiting = [] ∧ heads s'.ready = [] ∧ s'.now = s.now ∧ s'.later = s.later ∧ (remE s').length = (remE s).length) ∨
    ∃ y s', nextS s = (y, true, s') ∧ OD ts s' (out ++ [y]) ∧ (remE s').length + 1 = (remE s).length ∧ s'.later = s.later := by
  by_cases hr : heads s.ready = []
  · have e := act_pour2 x.d x.e x.t x.q hr
    obtain ⟨x1, hp⟩ := x.poured o hr
    have o1 := o.act
    rw [e] at o1
    by_cases hr1 : heads (Go.Ab.Q.pour s.ready s.waiting) = []
    · left
      exact ⟨_, next_none (by rw [e]; exact listE_nil2 (s := { s with ready := Go.Ab.Q.pour s.ready s.waiting, waiting := [] }) x.d x.e x.t hr1), by rw [e]; exact x1, by rw [e], by rw [e]; exact hr1, by rw [e], by rw [e], by rw [e]; exact hp.length_eq⟩
    · right
      obtain ⟨y, j, t, hn, hi, hj, hrj⟩ := upd_next2 e o x.d x.e x.t hr1
      obtain ⟨x2, hl⟩ := x1.pop o1 hj hi hrj s.left.tail (s.held - 1)
      exact ⟨y, _, hn, x2, by rw [hl, hp.length_eq], rfl⟩
  · right
    have e : actS s = s := act_same (listE_ne (.inr hr))
    obtain ⟨y, j, t, hn, hi, hj, hrj⟩ := upd_next2 e o x.d x.e x.t hr
    obtain ⟨x2, hl⟩ := x.pop o hj hi hrj s.left.tail (s.held - 1)
    exact ⟨y, _, hn, x2, hl, rfl⟩

theorem OD.busy {ts : List Int} {s : QS} {out : List Ev} (x : OD ts s out) (hw : s.waiting = []) (hr : heads s.ready = []) : busyS s = false := by
  unfold busyS
  rw [listE_nil2 x.d x.e x.t hr, x.q, hw]; rfl

theorem OD.adv {ts : List Int} {s : QS} {out : List Ev} (o : QOK s) (x : OD ts s out) (hw : s.waiting = []) (hr : heads s.ready = []) (hld : ∀ p ∈ s.later, p.2.drives = [] ∧ p.2.threads = []) (hl : s.later.length ≠ 0) :
    ∃ t s', advS s = (t, 0, s') ∧ s.now < t ∧ s'.now = t ∧ OD ts s' out ∧ (remE s').length = (remE s).length ∧ s'.later.length + 1 = s.later.length ∧ ∀ p ∈ s'.later, p ∈ s.later := by
  obtain ⟨⟨l, hl6⟩, hmin⟩ := firstS_mem hl
  have hm := aget_mem hl6
  obtain ⟨ld1, ld2⟩ := hld _ hm
  simp only at ld1 ld2
  have e : advS s = (firstS s, 0, adv1 s l) := by unfold advS; rw [if_neg (by rw [x.busy hw hr]; simp), if_neg hl, hl6]; rfl
  have hk := o.kl _ hm
  simp only at hk
  have hrow := heads_nil.1 hr
  have hp : (remE (adv1 s l)).Perm (remE s) := by
    show (s.ready.flatten ++ (l.updates ++ laterE (adel (firstS s) s.later))).Perm (s.ready.flatten ++ (s.waiting ++ laterE s.later))
    rw [hw, List.nil_append]
    exact List.Perm.append_left _ (adel_flat _ _ _ hl6).symm
  refine ⟨firstS s, adv1 s l, e, hk.1, rfl, ⟨ld1, x.e, ld2, x.q, x.nd.sublist ((adel_sub (firstS s) s.later).map _), fun y hy => x.rng y (hp.mem_iff.1 hy), x.ro, (hp.map _).nodup_iff.2 x.nt, fun j y hy => ?_, x.tl _ hm, fun p hp' => x.tl p (mem_adel hp'), x.pr, x.pl _ hm, fun p hp' => x.pl p (mem_adel hp'), fun _ => hr, x.go, fun a ha y hy => x.gx a ha y (hp.mem_iff.1 hy), by rw [hp.length_eq]; exact x.cnt⟩, hp.length_eq, ?_, fun p hp' => mem_adel hp'⟩
  · have hy : y ∈ s.ready.getD j [] := hy
    rw [hrow j] at hy; cases hy
  · exact adel_len ⟨_, hm, rfl⟩

theorem OD.done {ts : List Int} {s : QS} {out : List Ev} (x : OD ts s out) (hw : s.waiting = []) (hr : heads s.ready = []) (hl : s.later.length = 0) : out.length = ts.length ∧ advS s = (0, 8, s) ∧ listE s = [] ∧ leftS s = 0 := by
  have hl' : s.later = [] := List.eq_nil_of_length_eq_zero hl
  have hrow := heads_nil.1 hr
  have hfl : s.ready.flatten = [] := List.eq_nil_iff_forall_not_mem.2 (fun y hy => by
    obtain ⟨j, _, h⟩ := mem_rows.1 hy
    rw [hrow j] at h; cases h)
  refine ⟨?_, by unfold advS; rw [if_neg (by rw [x.busy hw hr]; simp), if_pos hl], listE_nil2 x.d x.e x.t hr, by unfold leftS; rw [hl']; rfl⟩
  have := x.cnt
  unfold remE at this
  rw [hfl, hw, hl'] at this
  simpa [laterE] using this


/-- What the law's loops lean on. -/
structure SL4 (a : AAct) (A na nb nc : Nat) : Prop where
  n : a.n = 167
  df : a.df = []
  t9 : a.tm 9 = vA A
  t10 : a.tm 10 = .int .i64 na
  t11 : a.tm 11 = .int .i64 nb
  t12 : a.tm 12 = .int .i64 nc
theorem SL4.to {a a' : AAct} {A na nb nc : Nat} (L : SL4 a A na nb nc) (hn : a'.n = a.n) (hd : a'.df = a.df) (ht : ∀ i, i < 13 → a'.tm i = a.tm i) : SL4 a' A na nb nc := ⟨hn.trans L.n, hd.trans L.df, (ht 9 (by decide)).trans L.t9, (ht 10 (by decide)).trans L.t10, (ht 11 (by decide)).trans L.t11, (ht 12 (by decide)).trans L.t12⟩
theorem SL4.kp {a a' : AAct} {A na nb nc lo : Nat} (L : SL4 a A na nb nc) (hl : 13 ≤ lo) (k : Kp lo [] a a') : SL4 a' A na nb nc := L.to k.1 k.2.1 (fun i hi => k.2.2 i (by omega) (by simp))


theorem appOwn {k : AH} (w : WFH k) {v : Value} {ob : Option AObj} {A : Nat} {l : List Ev} (hv : EvV v ob A l) (hg : ∀ o, ob = some o → k.get A = some o) (x : Ev) (hl : l.length ≤ 20000) :
    ∃ r k2, aAppend Try.prog #[34, 34] v (.slice (some ⟨k.next, 0, none⟩) 1 1) (k.new (.row (evC x) 33 true)) = some (r, k2) ∧ (∃ A' o', EvV r (some o') A' (l ++ [x]) ∧ k2.get A' = some o' ∧ k.next ≤ A') ∧ Tch (fun C => C = A ∧ ob ≠ none) k k2 := by
  obtain ⟨r, k2, e, h1, h2, h3, h4⟩ := appEv w hv hg x hl
  exact ⟨r, k2, e, h1, h3, h4, fun C o hn hC => h2 C o hC (fun e => Classical.byContradiction fun h => hn ⟨e, h⟩)⟩


theorem flat_len : ∀ l : List (List Ev), l.flatten.length = sumL List.length l := by
  intro l
  induction l with
  | nil => rfl
  | cons x l ih => rw [List.flatten_cons, List.length_append, ih]; rfl
theorem laterE_len : ∀ l : List (Int × Lat), (laterE l).length = sumL (fun p => p.2.updates.length) l := by
  intro l
  induction l with
  | nil => rfl
  | cons x l ih =>
    unfold laterE at ih ⊢
    rw [List.flatMap_cons, List.length_append, ih]; rfl
theorem rem_held {s : QS} (o : QOK s) : s.held = (remE s).length := by
  have := o.held
  unfold remE
  rw [List.length_append, List.length_append, flat_len, laterE_len]
  omega

theorem atT_old {ts : List Int} {t : Int} {y : Ev} (h : 0 ≤ y.tag ∧ y.tag < ts.length) : atT (ts ++ [t]) y = atT ts y := by
  unfold atT
  rw [List.getD_eq_getElem?_getD, List.getElem?_append_left (by omega), ← List.getD_eq_getElem?_getD]
theorem atT_new {ts : List Int} {t : Int} {y : Ev} (h : y.tag = ts.length) : atT (ts ++ [t]) y = t := by
  unfold atT
  rw [List.getD_eq_getElem?_getD, List.getElem?_append_right (by omega)]
  simp [h]

/-- Updates that are put in, at time 0. -/
structure OB (ts : List Int) (s : QS) : Prop where
  x : OD ts s []
  now : s.now = 0
  hr : heads s.ready = []
  ld : ∀ p ∈ s.later, p.2.drives = [] ∧ p.2.threads = []
  ll : s.later.length ≤ ts.length

theorem OB.grow {ts : List Int} {s s' : QS} {e : Ev} {t : Int} (x : OB ts s) (he : e.tag = ts.length) (hp : (remE s').Perm (remE s ++ [e])) (hd : s'.drives = []) (h1 : s'.evals = []) (h2 : s'.threads = []) (h3 : s'.quiet = []) (nd : (s'.later.map (·.1)).Nodup) (hr : s'.ready = s.ready) (hn : s'.now = 0)
    (tw : ∀ y ∈ s'.waiting, atT (ts ++ [t]) y = 0) (tl : ∀ p ∈ s'.later, ∀ y ∈ p.2.updates, atT (ts ++ [t]) y = p.1) (pw : s'.waiting.Pairwise (fun a b => a.index = b.index → a.tag < b.tag)) (pl : ∀ p ∈ s'.later, p.2.updates.Pairwise (fun a b => a.index = b.index → a.tag < b.tag))
    (ld : ∀ p ∈ s'.later, p.2.drives = [] ∧ p.2.threads = []) (ll : s'.later.length ≤ s.later.length + 1) : OB (ts ++ [t]) s' := by
  have hrow : heads s'.ready = [] := by rw [hr]; exact x.hr
  refine ⟨⟨hd, h1, h2, h3, nd, fun y hy => ?_, fun y hy => (nomatch hy), ?_, fun j y hy => ?_, fun y hy => (tw y hy).trans hn.symm, tl, fun j => ?_, pw, pl, fun _ => hrow, List.Pairwise.nil, fun a ha => (nomatch ha), ?_⟩, hn, hrow, ld, by rw [List.length_append, List.length_singleton]; have := x.ll; omega⟩
  · rw [List.length_append, List.length_singleton]
    rcases List.mem_append.1 (hp.mem_iff.1 hy) with hy | hy
    · have := x.x.rng y hy; omega
    · simp only [List.mem_cons, List.not_mem_nil, or_false] at hy; subst hy; omega
  · rw [(hp.map (·.tag)).nodup_iff, List.map_append, List.nodup_append]
    refine ⟨x.x.nt, by simp, fun a ha b hb => ?_⟩
    obtain ⟨y, hy, rfl⟩ := List.mem_map.1 ha
    have := x.x.rng y hy
    simp only [List.map_cons, List.map_nil, List.mem_cons, List.not_mem_nil, or_false] at hb
    subst hb; omega
  · rw [heads_nil.1 hrow j] at hy; cases hy
  · rw [heads_nil.1 hrow j]; exact List.Pairwise.nil
  · have := x.x.cnt
    rw [hp.length_eq, List.length_append, List.length_append, List.length_singleton, List.length_singleton]
    rw [List.length_nil] at this ⊢
    omega

theorem pw_snoc {ts : List Int} {l : List Ev} {e : Ev} (he : e.tag = ts.length) (hl : l.Pairwise (fun a b => a.index = b.index → a.tag < b.tag)) (hr : ∀ y ∈ l, y.tag < ts.length) : (l ++ [e]).Pairwise (fun a b => a.index = b.index → a.tag < b.tag) := by
  rw [List.pairwise_append]
  refine ⟨hl, List.pairwise_singleton _ _, fun a ha b hb _ => ?_⟩
  simp only [List.mem_cons, List.not_mem_nil, or_false] at hb
  subst hb
  have := hr a ha; omega

theorem OB.put {ts : List Int} {s : QS} (o : QOK s) (x : OB ts s) (hts : ts.length < 100) {t i : Int} (ht0 : 0 ≤ t) (ht1 : t ≤ 1000000000000) (hi : 0 ≤ i ∧ i < 64) :
    atE s t ⟨4, i, ts.length⟩ = 0 ∧ OB (ts ++ [t]) (atS s t ⟨4, i, ts.length⟩) := by
  have hh : s.held < 20000 := by
    have h1 := rem_held o
    have h2 := x.x.cnt
    rw [List.length_nil] at h2
    omega
  have hn := x.now
  have e : atE s t ⟨4, i, ts.length⟩ = 0 := by
    have k : kOK 4 = true := rfl
    have b : atBad s t ⟨4, i, ts.length⟩ = false := decide_eq_false (by show ¬ (¬ (0 ≤ i ∧ i < 64) ∨ t < s.now ∨ 1000000000000 < t); omega)
    have f : atFull s ⟨4, i, ts.length⟩ = false := decide_eq_false (by show ¬ ((4 : Int) = 4 ∧ 20000 ≤ s.held); omega)
    unfold atE
    rw [if_neg (by rw [k]; simp), if_neg (by rw [b]; simp), if_neg (by rw [f]; simp)]
  refine ⟨e, ?_⟩
  have hrw : ∀ y ∈ s.waiting, 0 ≤ y.tag ∧ y.tag < ts.length := fun y hy => x.x.rng y (List.mem_append_right _ (List.mem_append_left _ hy))
  have hrl : ∀ p ∈ s.later, ∀ y ∈ p.2.updates, 0 ≤ y.tag ∧ y.tag < ts.length := fun p hp y hy => x.x.rng y (List.mem_append_right _ (List.mem_append_right _ (List.mem_flatMap.2 ⟨p, hp, hy⟩)))
  unfold atS
  rw [if_pos e]
  unfold at1
  rw [if_neg (by show ¬ ((4 : Int) = 1); decide), if_neg (by show ¬ ((4 : Int) = 3); decide)]
  by_cases h0 : t = s.now
  · rw [if_pos h0]
    have ht : t = 0 := h0.trans hn
    refine x.grow (e := ⟨4, i, ts.length⟩) rfl ?_ x.x.d x.x.e x.x.t x.x.q x.x.nd rfl hn (fun y hy => ?_) (fun p hp y hy => ?_) (pw_snoc rfl x.x.pw (fun y hy => (hrw y hy).2)) x.x.pl x.ld (Nat.le_succ _)
    · show (s.ready.flatten ++ ((s.waiting ++ [(⟨4, i, ts.length⟩ : Ev)]) ++ laterE s.later)).Perm ((s.ready.flatten ++ (s.waiting ++ laterE s.later)) ++ [(⟨4, i, ts.length⟩ : Ev)])
      rw [List.append_assoc (s.ready.flatten), List.append_assoc s.waiting, List.append_assoc s.waiting]
      exact List.Perm.append_left _ (List.Perm.append_left _ List.perm_append_comm)
    · rcases List.mem_append.1 hy with hy | hy
      · rw [atT_old (hrw y hy), x.x.tw y hy]; exact hn
      · simp only [List.mem_cons, List.not_mem_nil, or_false] at hy
        subst hy
        rw [atT_new rfl]; exact ht
    · rw [atT_old (hrl p hp y hy)]; exact x.x.tl p hp y hy
  · rw [if_neg h0, slotS_held]
    obtain ⟨l, hl⟩ := slotS_get t s
    show OB (ts ++ [t]) (putU t ⟨4, i, ts.length⟩ ((aget t (slotS t s).later).getD lat0) { slotS t s with held := s.held + 1 })
    rw [hl, Option.getD_some]
    -- the slots behind the new one
    have hmem : ∀ p ∈ (slotS t s).later, p ∈ s.later ∨ p = (t, lat0) := fun p hp => by
      unfold slotS at hp
      split at hp
      · exact .inl hp
      · rcases mem_aput hp with h | h
        · exact .inr h
        · exact .inl h
    have hfl : laterE (slotS t s).later = laterE s.later := by
      unfold slotS
      cases hg : aget t s.later with
      | some m => rfl
      | none =>
        show laterE (aput t lat0 s.later) = _
        rw [aput_new lat0 hg]
        unfold laterE
        rw [List.flatMap_append]
        show _ ++ ([] : List Ev) = _
        rw [List.append_nil]
    have hnd : ((slotS t s).later.map (·.1)).Nodup := by
      unfold slotS
      cases hg : aget t s.later with
      | some m => exact x.x.nd
      | none =>
        show ((aput t lat0 s.later).map (·.1)).Nodup
        rw [aput_keys, if_neg (aget_none.1 hg), List.nodup_append]
        exact ⟨x.x.nd, by simp, fun a ha b hb e9 => by
          simp only [List.mem_cons, List.not_mem_nil, or_false] at hb
          exact aget_none.1 hg (by rw [← hb, ← e9]; exact ha)⟩
    have hsame : (slotS t s).drives = s.drives ∧ (slotS t s).evals = s.evals ∧ (slotS t s).threads = s.threads ∧ (slotS t s).quiet = s.quiet ∧ (slotS t s).ready = s.ready ∧ (slotS t s).now = s.now ∧ (slotS t s).waiting = s.waiting := by
      unfold slotS
      split <;> exact ⟨rfl, rfl, rfl, rfl, rfl, rfl, rfl⟩
    have hlen : (slotS t s).later.length ≤ s.later.length + 1 := by
      unfold slotS
      cases hg : aget t s.later with
      | some m => exact Nat.le_succ _
      | none =>
        show (aput t lat0 s.later).length ≤ _
        rw [aput_new lat0 hg, List.length_append]; exact Nat.le_refl _
    obtain ⟨s1, s2, s3, s4, s5, s6, s7⟩ := hsame
    have hlm : ∀ y ∈ l.updates, (0 ≤ y.tag ∧ y.tag < ts.length) ∧ atT ts y = t := fun y hy => by
      rcases hmem _ (aget_mem hl) with h | h
      · exact ⟨hrl _ h y hy, x.x.tl _ h y hy⟩
      · cases h; cases hy
    have hlp : l.updates.Pairwise (fun a b => a.index = b.index → a.tag < b.tag) := by
      rcases hmem _ (aget_mem hl) with h | h
      · exact x.x.pl _ h
      · cases h; exact List.Pairwise.nil
    have hlld : l.drives = [] ∧ l.threads = [] := by
      rcases hmem _ (aget_mem hl) with h | h
      · exact x.ld _ h
      · cases h; exact ⟨rfl, rfl⟩
    refine x.grow (e := ⟨4, i, ts.length⟩) rfl ?_ (s1.trans x.x.d) (s2.trans x.x.e) (s3.trans x.x.t) (s4.trans x.x.q) ?_ s5 (s6.trans hn) (fun y hy => ?_) (fun p hp y hy => ?_) ?_ (fun p hp => ?_) (fun p hp => ?_) ?_
    · show ((slotS t s).ready.flatten ++ ((slotS t s).waiting ++ laterE (aput t { l with updates := l.updates ++ [(⟨4, i, ts.length⟩ : Ev)] } (slotS t s).later))).Perm ((s.ready.flatten ++ (s.waiting ++ laterE s.later)) ++ [(⟨4, i, ts.length⟩ : Ev)])
      rw [s5, s7]
      have := aput_flat (slotS t s).later t l ⟨4, i, ts.length⟩ hl
      rw [hfl] at this
      rw [List.append_assoc (s.ready.flatten), List.append_assoc s.waiting]
      exact List.Perm.append_left _ (List.Perm.append_left _ this)
    · show ((aput t _ (slotS t s).later).map (·.1)).Nodup
      rw [aput_keys, if_pos (List.mem_map.2 ⟨_, aget_mem hl, rfl⟩)]; exact hnd
    · have hy : y ∈ (slotS t s).waiting := hy
      rw [s7] at hy
      rw [atT_old (hrw y hy), x.x.tw y hy]; exact hn
    · rcases mem_aput2 hnd hp with rfl | ⟨hp, _⟩
      · have hy : y ∈ l.updates ++ [⟨4, i, ts.length⟩] := hy
        rcases List.mem_append.1 hy with hy | hy
        · rw [atT_old (hlm y hy).1]; exact (hlm y hy).2
        · simp only [List.mem_cons, List.not_mem_nil, or_false] at hy
          subst hy
          rw [atT_new rfl]
      · rcases hmem p hp with h | h
        · rw [atT_old (hrl p h y hy)]; exact x.x.tl p h y hy
        · subst h; cases hy
    · show (slotS t s).waiting.Pairwise _
      rw [s7]; exact x.x.pw
    · rcases mem_aput2 hnd hp with rfl | ⟨hp, _⟩
      · exact pw_snoc rfl hlp (fun y hy => (hlm y hy).1.2)
      · rcases hmem p hp with h | h
        · exact x.x.pl p h
        · subst h; exact List.Pairwise.nil
    · rcases mem_aput2 hnd hp with rfl | ⟨hp, _⟩
      · exact hlld
      · rcases hmem p hp with h | h
        · exact x.ld p h
        · subst h; exact ⟨rfl, rfl⟩
    · show (aput t _ (slotS t s).later).length ≤ _
      rw [aput_len hl]; exact hlen


structure DoR where
  kind : Int
  index : Int
  tag : Int
  kof : Int
  wait : Int
def doC (x : DoR) : List Value := [.int .i64 x.kind, .int .i64 x.index, .int .i64 x.tag, .int .u8 x.kof, .int .i64 x.wait]
def doL : Lay DoR where
  sz := 5
  pos := by decide
  rel h cs x := cs = doC x
  mono := by rintro h h' cs x hs rfl; rfl
  len := by rintro h cs x rfl; rfl
  one := by rintro h cs x rfl v hv; simp only [doC, List.mem_cons, List.not_mem_nil, or_false] at hv; rcases hv with rfl | rfl | rfl | rfl | rfl <;> rfl
instance : LayV doL := ⟨by rintro h cs x rfl; rfl⟩
def bringS (i n : Int) : Int := (i.tmod n + n).tmod n
theorem bringN {h : AH} (i : Int) {n : Int} (hn : 0 < n) (hb : n ≤ 1000) : ACall Try.prog 7 [.int .i64 i, .int .i64 n] h (fun v h' => v = .int .i64 (bringS i n) ∧ h' = h) := by
  refine ACall.of_wp 12 [.tmp 4] Try.func7 rfl (by kernel_rfl) rfl rfl fun a hn' hd ha => ?_
  have h0 : (n = 0) = False := by simp; omega
  have h1 := Int.lt_tmod_of_pos i hn
  have h2 := Int.tmod_lt_of_pos i hn
  have hw : IntKind.i64.wrap (i.tmod n + n) = i.tmod n + n := wrapI (by omega) (by omega)
  simp (disch := first | omega | decide) only [push_cast, ↓reduceIte, Nat.reduceLT, Nat.reduceEqDiff, reduceCtorEq, Nat.reduceAdd, hn', hd, ha, h0, hw]
  rfl


def evLt (a b : Ev) : Prop := a.kind < b.kind ∨ (a.kind = b.kind ∧ a.index < b.index)
def evOK (x : Ev) : Prop := (x.kind = 1 ∨ x.kind = 2 ∨ x.kind = 3) ∧ 0 ≤ x.index ∧ x.index < 12 ∧ x.tag = 0
def kIx (k : Int) (V : List Ev) : List Int := (V.filter (fun x => decide (x.kind = k))).map (·.index)

/-- Only active ones are there: V. -/
structure CI (s : QS) (V : List Ev) : Prop where
  d : (s.drives.map (·.1)).Perm (kIx 1 V)
  d0 : ∀ p ∈ s.drives, p.2 = 0
  e : (s.evals.map (·.1)).Perm (kIx 2 V)
  t : (s.threads.map (·.1)).Perm (kIx 3 V)
  q : s.quiet = []
  r : heads s.ready = []
  w : s.waiting = []
  l : s.later = []
  dr : s.drive = []
  now : s.now = 0

theorem sorted_split : ∀ V : List Ev, V.Pairwise evLt → (∀ x ∈ V, evOK x) → V = V.filter (fun x => decide (x.kind = 1)) ++ (V.filter (fun x => decide (x.kind = 2)) ++ V.filter (fun x => decide (x.kind = 3))) := by
  intro V
  induction V with
  | nil => intro _ _; rfl
  | cons x V ih =>
    intro hs hk
    rw [List.pairwise_cons] at hs
    have ih' := ih hs.2 (fun y hy => hk y (List.mem_cons_of_mem _ hy))
    have none_of : ∀ k, (∀ y ∈ V, y.kind ≠ k) → V.filter (fun x => decide (x.kind = k)) = [] := fun k h => List.filter_eq_nil_iff.2 (fun y hy => by simpa using h y hy)
    have hge : ∀ y ∈ V, x.kind ≤ y.kind := fun y hy => by rcases hs.1 y hy with h | h <;> omega
    rcases (hk x (List.mem_cons_self ..)).1 with h | h | h
    · rw [List.filter_cons_of_pos (by simpa using h), List.filter_cons_of_neg (by simp [h]), List.filter_cons_of_neg (by simp [h]), List.cons_append, ← ih']
    · have e1 := none_of 1 (fun y hy => by have := hge y hy; omega)
      rw [e1, List.nil_append] at ih'
      rw [List.filter_cons_of_neg (by simp [h]), e1, List.nil_append, List.filter_cons_of_pos (by simpa using h), List.filter_cons_of_neg (by simp [h]), List.cons_append, ← ih']
    · have e1 := none_of 1 (fun y hy => by have := hge y hy; omega)
      have e2 := none_of 2 (fun y hy => by have := hge y hy; omega)
      rw [e1, e2, List.nil_append, List.nil_append] at ih'
      rw [List.filter_cons_of_neg (by simp [h]), e1, List.nil_append, List.filter_cons_of_neg (by simp [h]), e2, List.nil_append, List.filter_cons_of_pos (by simpa using h), ← ih']

theorem kIx_sorted {V : List Ev} (hs : V.Pairwise evLt) (k : Int) : (kIx k V).Pairwise (fun x y => x ≤ y) := by
  unfold kIx
  rw [List.pairwise_map]
  refine (hs.sublist List.filter_sublist).imp_of_mem (fun {a b} ha hb h => ?_)
  have h1 := of_decide_eq_true (List.mem_filter.1 ha).2
  have h2 := of_decide_eq_true (List.mem_filter.1 hb).2
  rcases h with h | h <;> omega

theorem kIx_map {V : List Ev} (hk : ∀ x ∈ V, evOK x) (k : Int) : (kIx k V).map (fun i => (⟨k, i, 0⟩ : Ev)) = V.filter (fun x => decide (x.kind = k)) := by
  unfold kIx
  rw [List.map_map]
  conv => rhs; rw [← List.map_id (V.filter (fun x => decide (x.kind = k)))]
  refine List.map_congr_left (fun x hx => ?_)
  have h1 := List.mem_filter.1 hx
  have h2 := of_decide_eq_true h1.2
  have h3 := (hk x h1.1).2.2.2
  cases x
  simp only at h2 h3
  subst h2; subst h3; rfl

theorem CI.list {s : QS} {V : List Ev} (x : CI s V) (hs : V.Pairwise evLt) (hk : ∀ x ∈ V, evOK x) : listE s = V := by
  unfold listE keysL
  rw [sortL_uniq x.d.symm (kIx_sorted hs 1), sortL_uniq x.e.symm (kIx_sorted hs 2), sortL_uniq x.t.symm (kIx_sorted hs 3), x.r, List.append_nil]
  have e1 : (kIx 1 V).map (fun k => (⟨1, k, (aget k s.drives).getD 0⟩ : Ev)) = (kIx 1 V).map (fun k => (⟨1, k, 0⟩ : Ev)) := List.map_congr_left (fun k _ => by
    cases h : aget k s.drives with
    | none => rfl
    | some g =>
      have hg : g = 0 := x.d0 _ (aget_mem h)
      rw [Option.getD_some, hg])
  rw [e1, kIx_map hk 1, kIx_map hk 2, kIx_map hk 3]
  exact (sorted_split V hs hk).symm

theorem kIx_cons (k : Int) (x : Ev) (V : List Ev) : kIx k (x :: V) = if x.kind = k then x.index :: kIx k V else kIx k V := by
  unfold kIx
  by_cases h : x.kind = k
  · rw [if_pos h, List.filter_cons_of_pos (by simpa using h)]; rfl
  · rw [if_neg h, List.filter_cons_of_neg (by simpa using h)]
theorem kIx_mem {k i : Int} {V : List Ev} : i ∈ kIx k V ↔ ∃ x ∈ V, x.kind = k ∧ x.index = i := by
  unfold kIx
  rw [List.mem_map]
  constructor
  · rintro ⟨x, hx, rfl⟩
    have := List.mem_filter.1 hx
    exact ⟨x, this.1, of_decide_eq_true this.2, rfl⟩
  · rintro ⟨x, hx, h1, rfl⟩
    exact ⟨x, List.mem_filter.2 ⟨hx, decide_eq_true h1⟩, rfl⟩

theorem aput_perm {α : Type} {k : Int} {x : α} {l : List (Int × α)} {m : List Int} (hp : (l.map (·.1)).Perm m) (hn : k ∉ m) : ((aput k x l).map (·.1)).Perm (k :: m) := by
  have h : k ∉ l.map (·.1) := fun h => hn (hp.mem_iff.1 h)
  rw [aput_keys, if_neg h]
  exact List.perm_append_comm.trans (List.Perm.cons k hp)
theorem adel_perm {α : Type} {k : Int} : ∀ {l : List (Int × α)}, k ∈ l.map (·.1) → (l.map (·.1)).Perm (k :: (adel k l).map (·.1)) := by
  intro l
  induction l with
  | nil => intro h; cases h
  | cons p l ih =>
    intro h
    by_cases hp : p.1 = k
    · simp only [adel, if_pos hp, List.map_cons]; rw [hp]
    · simp only [adel, if_neg hp, List.map_cons]
      have hk : k ∈ l.map (·.1) := by
        rcases List.mem_cons.1 h with h | h
        · exact absurd h.symm hp
        · exact h
      exact (List.Perm.cons p.1 (ih hk)).trans (List.Perm.swap k p.1 _)

/-- Put in. -/
def insS (s : QS) (x : Ev) : QS := if x.kind = 1 then { s with drives := aput x.index 0 (adel x.index s.drives) } else if x.kind = 2 then { s with evals := aput x.index true s.evals } else { s with threads := aput x.index true s.threads }

theorem CI.ins {s : QS} {V : List Ev} (c : CI s V) {x : Ev} (hk : evOK x) (hn : ∀ y ∈ V, evLt x y) : CI (insS s x) (x :: V) := by
  have hne : x.index ∉ kIx x.kind V := fun h => by
    obtain ⟨y, hy, h1, h2⟩ := kIx_mem.1 h
    rcases hn y hy with h | h <;> omega
  unfold insS
  rcases hk.1 with h | h | h
  · rw [if_pos h]
    rw [h] at hne
    have hg : aget x.index s.drives = none := aget_none.2 (fun hm => hne (c.d.mem_iff.1 hm))
    rw [adel_none hg]
    refine ⟨?_, fun p hp => ?_, ?_, ?_, c.q, c.r, c.w, c.l, c.dr, c.now⟩
    · rw [kIx_cons, if_pos h]; exact aput_perm c.d hne
    · rcases mem_aput hp with rfl | hp
      · rfl
      · exact c.d0 p hp
    · rw [kIx_cons, if_neg (by omega)]; exact c.e
    · rw [kIx_cons, if_neg (by omega)]; exact c.t
  · rw [if_neg (by omega), if_pos h]
    rw [h] at hne
    refine ⟨?_, c.d0, ?_, ?_, c.q, c.r, c.w, c.l, c.dr, c.now⟩
    · rw [kIx_cons, if_neg (by omega)]; exact c.d
    · rw [kIx_cons, if_pos h]; exact aput_perm c.e hne
    · rw [kIx_cons, if_neg (by omega)]; exact c.t
  · rw [if_neg (by omega), if_neg (by omega)]
    rw [h] at hne
    refine ⟨?_, c.d0, ?_, ?_, c.q, c.r, c.w, c.l, c.dr, c.now⟩
    · rw [kIx_cons, if_neg (by omega)]; exact c.d
    · rw [kIx_cons, if_neg (by omega)]; exact c.e
    · rw [kIx_cons, if_pos h]; exact aput_perm c.t hne

theorem ins_at {s : QS} {V : List Ev} (c : CI s V) {x : Ev} (h1 : x.kind = 1) (hk : evOK x) : atE s 0 x = 0 ∧ atS s 0 x = insS s x := by
  have hn := c.now
  have e : atE s 0 x = 0 := by
    have k : kOK x.kind = true := decide_eq_true (.inl h1)
    have hx := hk.2
    have b : atBad s 0 x = false := decide_eq_false (by show ¬ (¬ (0 ≤ x.index ∧ x.index < 64) ∨ 0 < s.now ∨ 1000000000000 < 0); omega)
    have f : atFull s x = false := decide_eq_false (by omega)
    unfold atE
    rw [if_neg (by rw [k]; simp), if_neg (by rw [b]; simp), if_neg (by rw [f]; simp)]
  refine ⟨e, ?_⟩
  unfold atS
  rw [if_pos e]
  unfold at1 insS
  have hu : undriveS x.index s = { s with drives := adel x.index s.drives } := by
    unfold undriveS
    rw [c.dr]; rfl
  rw [if_pos h1, if_pos hn.symm, if_pos h1, hu, hk.2.2.2]

theorem kIx_perm {V U : List Ev} (h : V.Perm U) (k : Int) : (kIx k V).Perm (kIx k U) := (h.filter _).map _

theorem CI.rem {s : QS} {V U : List Ev} (c : CI s V) {x : Ev} (hk : evOK x) (hp : V.Perm (x :: U)) (l : List Int) : CI (remS { s with left := l } x) U := by
  have p1 := kIx_perm hp 1
  have p2 := kIx_perm hp 2
  have p3 := kIx_perm hp 3
  rw [kIx_cons] at p1 p2 p3
  unfold remS
  rcases hk.1 with h | h | h
  · rw [if_pos h]
    rw [if_pos h] at p1; rw [if_neg (by omega)] at p2 p3
    refine ⟨?_, fun p hp => c.d0 p (mem_adel hp), c.e.trans p2, c.t.trans p3, c.q, c.r, c.w, c.l, c.dr, c.now⟩
    have h0 := c.d.trans p1
    exact (List.Perm.cons_inv ((adel_perm (h0.mem_iff.2 (List.mem_cons_self ..))).symm.trans h0))
  · rw [if_neg (by omega), if_pos h]
    rw [if_pos h] at p2; rw [if_neg (by omega)] at p1 p3
    refine ⟨c.d.trans p1, c.d0, ?_, c.t.trans p3, c.q, c.r, c.w, c.l, c.dr, c.now⟩
    have h0 := c.e.trans p2
    exact (List.Perm.cons_inv ((adel_perm (h0.mem_iff.2 (List.mem_cons_self ..))).symm.trans h0))
  · rw [if_neg (by omega), if_neg (by omega), if_pos h]
    rw [if_pos h] at p3; rw [if_neg (by omega)] at p1 p2
    refine ⟨c.d.trans p1, c.d0, c.e.trans p2, ?_, c.q, c.r, c.w, c.l, c.dr, c.now⟩
    have h0 := c.t.trans p3
    exact (List.Perm.cons_inv ((adel_perm (h0.mem_iff.2 (List.mem_cons_self ..))).symm.trans h0))

/-- Next: the event that the choice selects. -/
theorem CI.next {s : QS} {V U : List Ev} (c : CI s V) (hs : V.Pairwise evLt) (hk : ∀ x ∈ V, evOK x) {x : Ev} {i : Nat} (hi : V[i]? = some x) (hp : V.Perm (x :: U)) (hpk : pickS s V.length = i) :
    ∃ s', nextS s = (x, true, s') ∧ CI s' U ∧ s'.left = s.left.tail := by
  have hl := c.list hs hk
  have hne : listE s ≠ [] := fun e => by rw [hl] at e; subst e; cases hi
  have ha := act_same hne
  have hx : evOK x := hk x (List.mem_of_getElem? hi)
  refine ⟨remS { s with left := s.left.tail } x, ?_, c.rem hx hp _, ?_⟩
  · unfold nextS
    rw [ha, if_neg hne, hl, hpk, Int.toNat_natCast]
    have : V.getD i v0 = x := by rw [List.getD_eq_getElem?_getD, hi]; rfl
    rw [this]
  · unfold remS
    split
    · rfl
    split
    · rfl
    split <;> rfl

theorem CI.over {s : QS} (c : CI s []) : (!(nextS s).2.1 && decide ((nextS s).1 = v0)) = true := by
  have hd : s.drives = [] := by have := c.d.length_eq; exact List.eq_nil_of_length_eq_zero (by simpa [kIx] using this)
  have he : s.evals = [] := by have := c.e.length_eq; exact List.eq_nil_of_length_eq_zero (by simpa [kIx] using this)
  have ht : s.threads = [] := by have := c.t.length_eq; exact List.eq_nil_of_length_eq_zero (by simpa [kIx] using this)
  have e := act_pour2 hd he ht c.q c.r
  have hn : listE (actS s) = [] := by
    rw [e, c.w]
    exact listE_nil2 (s := { s with ready := Go.Ab.Q.pour s.ready [], waiting := [] }) hd he ht c.r
  rw [next_none hn]
  show (!false && decide (v0 = v0)) = true
  decide

theorem ci0 (l : List Int) : CI (newS l) [] := ⟨List.Perm.refl _, fun p hp => (nomatch hp), List.Perm.refl _, List.Perm.refl _, rfl, (by decide : heads (List.replicate 64 ([] : List Ev)) = []), rfl, rfl, rfl, rfl⟩

end Go.Ab.Q

namespace Go.Ab.Q
open Go.Proofs
open Go.ChangeShapes Go.WideShapes Go.ChangeAt Go.RowKit

theorem slWide {P : Program} {r : Reach} {base : Nat} {W : World} {t e : TypeId} {v : Value} (ht : P.underlying t = some (.slice e)) (h : Value.okWide P W r base t v) : v.cells.toList = [v] := by
  unfold Value.okWide at h
  rw [ht] at h
  simp only at h
  unfold Cell.okWide at h
  rw [ht] at h
  simp only [Cell.ok, ht] at h
  cases v <;> simp_all [Value.cells]

theorem intWideR {P : Program} {r : Reach} {base : Nat} {W : World} {t : TypeId} {k : IntKind} {v : Value} (ht : P.underlying t = some (.int k)) (h : Value.okWide P W r base t v) : ∃ n, v = .int k n ∧ k.has n := by
  unfold Value.okWide at h
  rw [ht] at h
  simp only at h
  unfold Cell.okWide at h
  rw [ht] at h
  simp only [Cell.ok, ht] at h
  cases v <;> simp_all

section
variable {H : Type} {enc : TypeId × Value → H} {W : World} {base : Nat} {held : Bool}

/-- A slice of elements, as an argument. -/
def RowW {α : Type} (W : World) (L : Lay α) (v : Value) (xs : List α) : Prop := ∀ ρ h, HR ρ h W → AllRO h → ∃ ρ' h' u, GrA W ρ h ρ' h' ∧ VR ρ' u v ∧ RowOf L h' u xs

end

end Go.Ab.Q

namespace Go.Ab.Q
open Go.Proofs
open Go.ChangeShapes Go.WideShapes Go.ChangeAt Go.RowKit

section
variable {H : Type} {enc : TypeId × Value → H} {W : World} {base : Nat} {held : Bool}

theorem coI : Try.prog.cellsOf 3 = 1 := by kernel_rfl
def iL : Lay Int where
  sz := 1
  pos := by decide
  rel h cs x := cs = [.int .i64 x]
  mono := by rintro h h' cs x hs rfl; rfl
  len := by rintro h cs x rfl; rfl
  one := by rintro h cs x rfl v hv; simp only [List.mem_cons, List.not_mem_nil, or_false] at hv; rcases hv with rfl; rfl
instance : LayV iL := ⟨by rintro h cs x rfl; rfl⟩

theorem openInt : Opens enc Try.prog W base (fun _ => true) held 3 iL (fun _ => True) := by
  intro fuel cs y hd _
  obtain ⟨n, rfl, rfl, _⟩ := DataW.trod_int Try.underlying3 hd
  exact ⟨n, trivial, fun ρ h hr hro => ⟨ρ, h, _, GrA.refl hr hro, LR.single (.int _ _), rfl⟩⟩
theorem openInts {v : Value} {d : DataW H} {ps : List MemPlace} (hone : v.cells.toList = [v]) (hd : DataW.Trod enc Try.prog W base (fun _ => true) held 47 v d ps) (hw : ∀ n ∈ DataW.weights Try.prog 47 d, n ≤ reachBytes) :
    ∃ l : List Int, RowW W iL v l := by
  obtain ⟨fuel, hd⟩ := hd
  obtain ⟨v', l, hv, _, hb, br⟩ := openRow (L := iL) Try.underlying47 coI openInt hd hw
  rw [hone] at hv
  cases hv
  exact ⟨l, br⟩
end

theorem lawC4 {g : FuncId} {W : World} {v1 v2 v3 : Value} {l1 l2 l3 : List Int} {x : Int} (h1 : RowW W iL v1 l1) (h2 : RowW W iL v2 l2) (h3 : RowW W iL v3 l3)
    (hc : ∀ h u1 u2 u3, RowOf iL h u1 l1 → RowOf iL h u2 l2 → RowOf iL h u3 l3 → ACall Try.prog g [u1, u2, u3, .int .u32 x] h (fun r _ => r = .bool true)) :
    Calls Try.prog g #[v1, v2, v3, .int .u32 x] W fun e W' => e = .returned (.bool true) ∧ Below W.heap.size W W' := by
  obtain ⟨ρ1, k1, u1, g1, vr1, s1⟩ := h1 _ _ (HR.empty W) (fun A o h => by cases h)
  obtain ⟨ρ2, k2, u2, g2, vr2, s2⟩ := h2 ρ1 k1 g1.hr g1.ro
  obtain ⟨ρ3, k3, u3, g3, vr3, s3⟩ := h3 ρ2 k2 g2.hr g2.ro
  have a2 := g2.trans g3
  have hcall := (hc k3 u1 u2 u3 (s1.sub a2.sub) (s2.sub g3.sub) s3).2 ρ3 #[v1, v2, v3, .int .u32 x] W ((LR.single (.int .u32 x)).cons vr3 |>.cons (vr2.mono g3.le) |>.cons (vr1.mono a2.le)) g3.hr
  refine hcall.mono ?_
  rintro e W' ⟨ρ', v, v', h', rfl, rfl, hv, _, hf⟩
  have : v' = .bool true := plain_only 9 _ _ rfl hv
  subst this
  refine ⟨rfl, hf.side.os, hf.side.tape, hf.side.output, hf.size, fun b hb => hf.rest b hb ?_⟩
  rintro ⟨A, o, r, ha, hown, _⟩
  rw [g3.ro A o ha] at hown; cases hown

end Go.Ab.Q

namespace Go.Ab.Q
open Go.Proofs
set_option linter.unusedSimpArgs false
set_option linter.unusedVariables false
set_option maxRecDepth 100000
set_option maxHeartbeats 4000000
attribute [local push_cast] wpA_skip wpA_ret wpA_exit wpA_seq wpA_block wpA_cond2 andK_true wpA_region wpA_draw wpA_loop thenQ_normal thenQ_ret thenQ_exit blockQ_normal blockQ_ret blockQ_exit condV_true condV_false opsM_nil opsM_cons2 okM_true wantM_true wantM_false stepM seqM_cons2 seqM_nil2 okS_true wantS_true wantS_false stepS skipS okB Keeps_nil contK_app List.zip_cons_cons List.zip_nil_left List.zip_nil_right Op.operands Call.operands Array.toList_append List.append_nil List.nil_append List.all_cons List.all_nil cOK plain put_n put_tm put_none put_df ev_tmp ev_const ev_func wanted_none wanted_some callR_func dop ex_some1 aBuiltin aBin intBin aUn Option.map_some Bool.and_true Bool.true_and Bool.and_self List.map_cons List.map_nil List.toList_toArray List.getElem?_toArray List.getElem?_cons_zero List.getElem?_cons_succ Option.getD_some Option.getD_none Bool.false_eq_true eq_self_iff_true decide_true decide_false List.cons_append aExtract resL resV List.getD_cons_zero List.getD_cons_succ List.getD_nil Nat.succ_ne_self g1 g2 yieldedA2 isB_bool isB_undef g3 Option.bind_some Option.bind_none bne_self_eq_false beq_self_eq_true Bool.not_true Bool.not_false Int.toNat_natCast List.length_map List.mem_cons List.not_mem_nil or_false not_false_eq_true decide_not Bool.not_not bodyR_ret2 bodyR_normal2 closeMarks_nil ex_some0 Nat.zero_add Nat.add_zero ieq ine List.map_toArray Option.toArray_none Option.toArray_some oev Keeps_cons Still_eq selL wpX_skip wpX_ret wpX_exit wpX_seq wpX_block wpX_cond wpX_region wpX_draw wpX_loop List.take_succ_cons List.take_zero List.drop_succ_cons List.drop_zero Int.zero_add Int.add_zero aNil if_true if_false true_and and_true

def hit (l : List Int) (i : Int) : Bool := (l.take 12).any (fun z => decide (bringS z 12 = i))
def rowW (k : Int) (l : List Int) (n : Nat) : List Ev := ((List.range n).filter (fun (i : Nat) => hit l i)).map (fun (i : Nat) => ⟨k + 1, i, 0⟩)
theorem rowW_succ (k : Int) (l : List Int) (n : Nat) : rowW k l (n + 1) = rowW k l n ++ (if hit l n = true then [⟨k + 1, n, 0⟩] else []) := by
  unfold rowW
  rw [List.range_succ, List.filter_append, List.map_append]
  congr 1
  by_cases h : hit l n = true
  · rw [if_pos h]; simp [h]
  · rw [if_neg h]; simp [h]
def allW (Ls : List (List Int)) (n : Nat) : List Ev := (List.range n).flatMap fun (k : Nat) => rowW k (Ls.getD k []) 12
theorem allW_succ (Ls : List (List Int)) (n : Nat) : allW Ls (n + 1) = allW Ls n ++ rowW n (Ls.getD n []) 12 := by
  unfold allW
  rw [List.range_succ, List.flatMap_append]; simp

theorem rowW_mem {k : Int} {l : List Int} {n : Nat} {x : Ev} (h : x ∈ rowW k l n) : x.kind = k + 1 ∧ 0 ≤ x.index ∧ x.index < n ∧ x.tag = 0 := by
  unfold rowW at h
  obtain ⟨i, hi, rfl⟩ := List.mem_map.1 h
  have := List.mem_range.1 (List.mem_filter.1 hi).1
  exact ⟨rfl, by show (0 : Int) ≤ i; omega, by show (i : Int) < n; omega, rfl⟩
theorem rowW_sorted (k : Int) (l : List Int) : ∀ n, (rowW k l n).Pairwise evLt := by
  intro n
  induction n with
  | zero => exact List.Pairwise.nil
  | succ n ih =>
    rw [rowW_succ, List.pairwise_append]
    refine ⟨ih, ?_, fun a ha b hb => ?_⟩
    · split
      · exact List.pairwise_singleton _ _
      · exact List.Pairwise.nil
    · split at hb
      · simp only [List.mem_cons, List.not_mem_nil, or_false] at hb
        subst hb
        have := rowW_mem ha
        exact .inr ⟨this.1, by show a.index < (n : Int); omega⟩
      · cases hb
theorem allW_mem {Ls : List (List Int)} : ∀ {n : Nat} {x : Ev}, x ∈ allW Ls n → 1 ≤ x.kind ∧ x.kind ≤ n ∧ 0 ≤ x.index ∧ x.index < 12 ∧ x.tag = 0 := by
  intro n x h
  obtain ⟨k, hk, hx⟩ := List.mem_flatMap.1 h
  have h1 := List.mem_range.1 hk
  have h2 := rowW_mem hx
  omega
theorem allW_sorted (Ls : List (List Int)) : ∀ n, (allW Ls n).Pairwise evLt := by
  intro n
  induction n with
  | zero => exact List.Pairwise.nil
  | succ n ih =>
    rw [allW_succ, List.pairwise_append]
    refine ⟨ih, rowW_sorted _ _ _, fun a ha b hb => .inl ?_⟩
    have := allW_mem ha
    have := rowW_mem hb
    omega
theorem allW_len (Ls : List (List Int)) : ∀ n, (allW Ls n).length ≤ 12 * n := by
  intro n
  induction n with
  | zero => exact Nat.le_refl _
  | succ n ih =>
    rw [allW_succ, List.length_append]
    have : (rowW n (Ls.getD n []) 12).length ≤ 12 := by
      unfold rowW
      rw [List.length_map]
      exact Nat.le_trans (List.length_filter_le _ _) (by rw [List.length_range]; exact Nat.le_refl _)
    omega
theorem allW_ok {Ls : List (List Int)} : ∀ x ∈ allW Ls 3, evOK x := fun x hx => by
  have := allW_mem hx
  exact ⟨by omega, by omega, by omega, by omega⟩

theorem Gr.tch {h0 k k2 : AH} {X : Nat → Prop} (w0 : WFH h0) (g : Gr h0 k) (t : Tch X k k2) (hX : ∀ C, X C → h0.next ≤ C) : Gr h0 k2 :=
  ⟨t.wf, fun C o hC => t.keep C o (fun hx => by have := hX C hx; have := AH.get_lt w0 hC; omega) (g.sub C o hC), Nat.le_trans g.nx t.nx⟩

/-- The wanted events' row. -/
structure WV (h0 k : AH) (wv : Value) (want : List Ev) : Prop where
  g : Gr h0 k
  v : ∃ wo WA, EvV wv wo WA want ∧ ∀ o, wo = some o → k.get WA = some o ∧ h0.next ≤ WA
theorem WV.grow {h0 k k2 : AH} {wv : Value} {want : List Ev} (x : WV h0 k wv want) (g : Gr k k2) : WV h0 k2 wv want := by
  obtain ⟨wo, WA, a, b⟩ := x.v
  exact ⟨x.g.trans g, wo, WA, a, fun o ho => ⟨g.sub _ _ (b o ho).1, (b o ho).2⟩⟩
theorem WV.row {h0 k : AH} {wv : Value} {want : List Ev} (x : WV h0 k wv want) (hb : want.length ≤ 1000) : RowOf evL k wv want := by
  obtain ⟨wo, WA, a, b⟩ := x.v
  exact a.row (fun o ho => (b o ho).1) (by omega)

theorem rowInts {h : AH} {v : Value} {l : List Int} (hs : RowOf iL h v l) : SlOf h v (l.map (.int .i64)) := by
  obtain ⟨p, n, c, rfl, rfl, ⟨hsp, _, _⟩, hcs⟩ := hs
  refine ⟨p, _, c, rfl, by rw [List.length_map], hsp, ?_⟩
  rcases hcs with e | ⟨A, off, o, cs, rfl, hg, hc, hall⟩
  · exact .inl (by rw [e]; rfl)
  · refine .inr ⟨A, off, o, cs, rfl, hg, hc, fun i x hx => ?_⟩
    rw [List.getElem?_map] at hx
    simp only [Option.map_eq_some_iff] at hx
    obtain ⟨y, hy, rfl⟩ := hx
    have := hall i y hy
    have e : (cs.drop (off + i * 1)).take 1 = [.int .i64 y] := this
    rw [Nat.mul_one] at e
    have h2 := congrArg (·[0]?) e
    simp only [List.getElem?_take, List.getElem?_drop, Nat.add_zero] at h2
    simpa using h2

theorem sl1LL : Sl1 Try.prog 49 47 := ⟨Try.underlying49, ⟨(Try.prog.info? 47).get (by kernel_rfl), by kernel_rfl, by kernel_rfl⟩, ⟨_, Try.underlying47, rfl⟩⟩

theorem skKI : ∀ (x : Value) (h : AH), aBytes Try.prog 3 5 x h = none := aBytes_skip ⟨_, Try.underlying3⟩
theorem cvKI : ∀ (k : IntKind) (n : Int), aConv Try.prog 3 5 (.int k n) = some (.int .u8 (IntKind.u8.wrap n)) := aConvI Try.underlying3 Try.underlying5

/-- The innermost loop: whether an index is among a list's first twelve. -/
theorem chL4 {h0 h : AH} {a : AAct} {lv wv vq : Value} {vs : List Value} {l : List Int} {want : List Ev} {q i : Nat} (w0 : WFH h0) (x : WV h0 h wv want) (hwl : want.length ≤ 1000) (hlv : SlOf h0 lv vs) (hq : q < vs.length) (hq3 : q < 3) (hvq : vs.getD q undef = vq) (hl : RowOf iL h0 vq l)
    (hn : a.n = 182) (hd : a.df = []) (h9 : a.tm 9 = wv) (h10 : a.tm 10 = lv) (h11 : a.tm 11 = .int .i64 q) (h12 : a.tm 12 = .int .i64 i) (h13 : a.tm 13 = .int .i64 0) :
    AW Try.prog none (bodyBlk Try.f5 4) (fun e a' h' => e = .exit 4 ∧ Kp 13 [9] a a' ∧ ∃ wv', a'.tm 9 = wv' ∧ WV h0 h' wv' (want ++ if hit l i = true then [⟨q + 1, i, 0⟩] else [])) a h := by
  refine AW.at (rfl : bodyBlk Try.f5 4 = .loop _) ?_
  refine AW.loopN 13 [] (fun m a' k => k = h ∧ ∃ j : Nat, a'.tm 13 = .int .i64 j ∧ j + m = min l.length 12 ∧ (l.take j).any (fun z => decide (bringS z 12 = (i : Int))) = false) (min l.length 12) ?_ ?_
  · exact ⟨rfl, 0, by rw [h13]; rfl, by omega, rfl⟩
  rintro a1 m a' k hk kn kd kt ⟨rfl, j, hj, hjm, hno⟩
  have t9 : a'.tm 9 = wv := (kt 9 (by decide) (by simp)).trans h9
  have t10 : a'.tm 10 = lv := (kt 10 (by decide) (by simp)).trans h10
  have t11 : a'.tm 11 = .int .i64 q := (kt 11 (by decide) (by simp)).trans h11
  have t12 : a'.tm 12 = .int .i64 i := (kt 12 (by decide) (by simp)).trans h12
  have an : a'.n = 182 := kn.trans hn
  have ad : a'.df = [] := kd.trans hd
  have kpa : Kp 13 [9] a a' := ⟨kn, kd, fun i hi hx => kt i hi (by simp)⟩
  have hlk := hlv.sub x.g.sub
  have hlq := hl.sub x.g.sub
  have ixq : aIndexAddr Try.prog 49 lv (.int .i64 q) = some (slAt 1 lv q) := hlk.idx sl1LL .i64 q (by omega) (by omega)
  have ldq : aLoad Try.prog 47 (slAt 1 lv q) k = some vq := (hlk.ld sl1LL q hq).trans (by rw [hvq])
  have hlen : ∀ h', aLen Try.prog 47 vq h' = some (.int .i64 l.length) := hlq.len Try.underlying47
  have hsl := rowInts hlq
  by_cases hc : j < min l.length 12
  · have hlt : decide ((j : Int) < l.length) = true := decide_eq_true (by omega)
    have hlt2 : decide ((j : Int) < 12) = true := decide_eq_true (by omega)
    have hw : IntKind.i64.wrap ((j : Int) + 1) = j + 1 := wrapI (by omega) (by omega)
    have ixj : aIndexAddr Try.prog 47 vq (.int .i64 j) = some (slAt 1 vq j) := hsl.idxI sl1I .i64 j (by omega) (by omega)
    have ldj : aLoad Try.prog 3 (slAt 1 vq j) k = some (.int .i64 (l.getD j 0)) := hsl.ldI sl1I j (by omega)
    have htk := take_getD (l := l) (i := j) (by omega) 0
    simp (disch := first | omega | decide) only [push_cast, ↓reduceIte, Nat.reduceLT, Nat.reduceEqDiff, reduceCtorEq, Nat.reduceAdd, an, ad, t9, t10, t11, t12, hj, ixq, ldq, hlen, hlt, hlt2, ixj, ldj]
    refine ACall.mono ?_ (bringN (l.getD j 0) (by decide) (by decide))
    rintro _ k ⟨rfl, rfl⟩
    by_cases hh : bringS (l.getD j 0) 12 = i
    · have de : decide (bringS (l.getD j 0) 12 = i) = true := decide_eq_true hh
      have hhit : hit l i = true := by
        unfold hit
        rw [List.any_eq_true]
        refine ⟨l.getD j 0, ?_, de⟩
        rw [List.getD_eq_getElem?_getD, List.getElem?_eq_getElem (by omega), List.mem_take_iff_getElem]
        exact ⟨j, by omega, rfl⟩
      have hw1 : IntKind.i64.wrap ((q : Int) + 1) = q + 1 := wrapI (by omega) (by omega)
      have hw8 : IntKind.u8.wrap ((q : Int) + 1) = q + 1 := by rw [IntKind.wrap]; simp [IntKind.signed, IntKind.bits]; omega
      obtain ⟨wo, WA, hV, hA⟩ := x.v
      have wk := x.g.wf
      have hbl := aBuildM sV (by decide) k (xs := evC ⟨q + 1, i, 0⟩) rfl rfl
      obtain ⟨rv, k2, hap, ⟨A', o', hV', hg', hA'⟩, tc⟩ := appOwn wk hV (fun o ho => (hA o ho).1) ⟨q + 1, i, 0⟩ (by omega)
      have g2 := Gr.tch w0 x.g tc (fun C hC => by
        obtain ⟨rfl, hne⟩ := hC
        cases ho : wo with
        | none => exact absurd ho hne
        | some o => exact (hA o ho).2)
      have hnx := x.g.nx
      simp (disch := first | omega | decide) only [push_cast, ↓reduceIte, Nat.reduceLT, Nat.reduceEqDiff, reduceCtorEq, Nat.reduceAdd, an, ad, t9, t10, t11, t12, hj, de, hw1, hw8, skKI, cvKI, buildV2, hbl, hap]
      exact ⟨(by simp (disch := decide) only [Kp_put, put_none, kpa]), rv, rfl, by rw [if_pos hhit]; exact ⟨g2, some o', A', hV', fun o ho => by cases ho; exact ⟨hg', by omega⟩⟩⟩
    · have de : decide (bringS (l.getD j 0) 12 = i) = false := decide_eq_false hh
      simp (disch := first | omega | decide) only [push_cast, ↓reduceIte, Nat.reduceLT, Nat.reduceEqDiff, reduceCtorEq, Nat.reduceAdd, an, ad, t9, t10, t11, t12, hj, de, hw]
      exact ⟨m - 1, by omega, (by simp (disch := decide) only [Kp_put, put_none, hk]), rfl, j + 1, by simp (disch := first | omega | decide) only [push_cast, ↓reduceIte, Nat.reduceLT, Nat.reduceEqDiff, reduceCtorEq, Nat.reduceAdd], by omega, by rw [htk, List.any_append, hno]; simpa using hh⟩
  · have hhit : ¬ (hit l i = true) := by
      have e : l.take j = l.take 12 := by
        by_cases h12 : 12 ≤ l.length
        · rw [show j = 12 by omega]
        · rw [List.take_of_length_le (by omega : l.length ≤ j), List.take_of_length_le (by omega : l.length ≤ 12)]
      unfold hit
      rw [← e, hno]; simp
    have hfin : WV h0 k wv (want ++ if hit l i = true then [⟨q + 1, i, 0⟩] else []) := by rw [if_neg hhit, List.append_nil]; exact x
    have hexit : decide ((j : Int) < l.length) = false ∨ (decide ((j : Int) < l.length) = true ∧ decide ((j : Int) < 12) = false) := by
      by_cases h : j < l.length
      · exact .inr ⟨decide_eq_true (by omega), decide_eq_false (by omega)⟩
      · exact .inl (decide_eq_false (by omega))
    rcases hexit with h1 | ⟨h1, h2⟩
    · simp (disch := first | omega | decide) only [push_cast, ↓reduceIte, Nat.reduceLT, Nat.reduceEqDiff, reduceCtorEq, Nat.reduceAdd, an, ad, t9, t10, t11, t12, hj, ixq, ldq, hlen, h1]
      exact ⟨(by simp (disch := decide) only [Kp_put, put_none, kpa]), wv, rfl, hfin⟩
    · simp (disch := first | omega | decide) only [push_cast, ↓reduceIte, Nat.reduceLT, Nat.reduceEqDiff, reduceCtorEq, Nat.reduceAdd, an, ad, t9, t10, t11, t12, hj, ixq, ldq, hlen, h1, h2]
      exact ⟨(by simp (disch := decide) only [Kp_put, put_none, kpa]), wv, rfl, hfin⟩


theorem chL2 {h0 h : AH} {a : AAct} {lv wv vq : Value} {vs : List Value} {l : List Int} {want : List Ev} {q : Nat} (w0 : WFH h0) (x : WV h0 h wv want) (hwl : want.length ≤ 100) (hlv : SlOf h0 lv vs) (hq : q < vs.length) (hq3 : q < 3) (hvq : vs.getD q undef = vq) (hl : RowOf iL h0 vq l)
    (hn : a.n = 182) (hd : a.df = []) (h9 : a.tm 9 = wv) (h10 : a.tm 10 = lv) (h11 : a.tm 11 = .int .i64 q) (h12 : a.tm 12 = .int .i64 0) :
    AW Try.prog none (bodyBlk Try.f5 2) (fun e a' h' => e = .exit 2 ∧ Kp 12 [9] a a' ∧ ∃ wv', a'.tm 9 = wv' ∧ WV h0 h' wv' (want ++ rowW q l 12)) a h := by
  refine AW.at (rfl : bodyBlk Try.f5 2 = .loop _) ?_
  refine AW.loopN 12 [9] (fun m a' k => ∃ i : Nat, a'.tm 12 = .int .i64 i ∧ i + m = 12 ∧ ∃ wv', a'.tm 9 = wv' ∧ WV h0 k wv' (want ++ rowW q l i)) 12 ?_ ?_
  · exact ⟨0, by rw [h12]; rfl, by omega, wv, h9, by show WV h0 h wv (want ++ []); rw [List.append_nil]; exact x⟩
  rintro a1 m a' k hk kn kd kt ⟨i, hi, him, wv1, t9, x1⟩
  have t10 : a'.tm 10 = lv := (kt 10 (by decide) (by decide)).trans h10
  have t11 : a'.tm 11 = .int .i64 q := (kt 11 (by decide) (by decide)).trans h11
  have an : a'.n = 182 := kn.trans hn
  have ad : a'.df = [] := kd.trans hd
  have kpa : Kp 12 [9] a a' := ⟨kn, kd, kt⟩
  have hlen : (want ++ rowW q l i).length ≤ 1000 := by
    have : (rowW q l i).length ≤ i := by
      unfold rowW
      rw [List.length_map]
      exact Nat.le_trans (List.length_filter_le _ _) (by rw [List.length_range]; exact Nat.le_refl _)
    rw [List.length_append]; omega
  simp (disch := first | omega | decide) only [push_cast, ↓reduceIte, Nat.reduceLT, Nat.reduceEqDiff, reduceCtorEq, Nat.reduceAdd, an, ad, hi]
  refine condV_of (fun hlt => ?_) (fun hge => ?_)
  · have hi12 : i < 12 := by have := of_decide_eq_true hlt; omega
    have hw : IntKind.i64.wrap ((i : Int) + 1) = i + 1 := wrapI (by omega) (by omega)
    simp (disch := first | omega | decide) only [push_cast, ↓reduceIte, Nat.reduceLT, Nat.reduceEqDiff, reduceCtorEq, Nat.reduceAdd, an, ad, hi]
    refine AW.mono ?_ (chL4 w0 x1 hlen hlv hq hq3 hvq hl (i := i) (by simp (disch := first | omega | decide) only [push_cast, ↓reduceIte, Nat.reduceLT, Nat.reduceEqDiff, reduceCtorEq, Nat.reduceAdd, an]) (by simp (disch := first | omega | decide) only [push_cast, ↓reduceIte, Nat.reduceLT, Nat.reduceEqDiff, reduceCtorEq, Nat.reduceAdd, ad]) (by simp (disch := first | omega | decide) only [push_cast, ↓reduceIte, Nat.reduceLT, Nat.reduceEqDiff, reduceCtorEq, Nat.reduceAdd, t9]) (by simp (disch := first | omega | decide) only [push_cast, ↓reduceIte, Nat.reduceLT, Nat.reduceEqDiff, reduceCtorEq, Nat.reduceAdd, t10]) (by simp (disch := first | omega | decide) only [push_cast, ↓reduceIte, Nat.reduceLT, Nat.reduceEqDiff, reduceCtorEq, Nat.reduceAdd, t11]) (by simp (disch := first | omega | decide) only [push_cast, ↓reduceIte, Nat.reduceLT, Nat.reduceEqDiff, reduceCtorEq, Nat.reduceAdd, hi]) (by simp (disch := first | omega | decide) only [push_cast, ↓reduceIte, Nat.reduceLT, Nat.reduceEqDiff, reduceCtorEq, Nat.reduceAdd]))
    rintro _ a2 k2 ⟨rfl, kp, wv2, t29, x2⟩
    have n2 := kp.1
    have d2 := kp.2.1
    have t12 := kp.2.2 12 (by decide) (by decide)
    simp (disch := first | omega | decide) only [push_cast, ↓reduceIte, Nat.reduceLT, Nat.reduceEqDiff, reduceCtorEq, Nat.reduceAdd, an, ad, hi] at n2 d2 t12
    have kp1 : Kp 12 [9] a1 a2 := Kp.trans (lo' := 13) (X' := [9]) (by simp (disch := decide) only [Kp_put, put_none, hk]) kp (by decide) (fun i hi _ => hi)
    simp (disch := first | omega | decide) only [push_cast, ↓reduceIte, Nat.reduceLT, Nat.reduceEqDiff, reduceCtorEq, Nat.reduceAdd, n2, d2, t12, hw]
    exact ⟨m - 1, by omega, (by simp (disch := decide) only [Kp_put, put_none, kp1]), i + 1, by simp (disch := first | omega | decide) only [push_cast, ↓reduceIte, Nat.reduceLT, Nat.reduceEqDiff, reduceCtorEq, Nat.reduceAdd], by omega, wv2, by simp (disch := first | omega | decide) only [push_cast, ↓reduceIte, Nat.reduceLT, Nat.reduceEqDiff, reduceCtorEq, Nat.reduceAdd, t29], by rw [rowW_succ, ← List.append_assoc]; exact x2⟩
  · have hi12 : i = 12 := by have := of_decide_eq_false hge; omega
    subst hi12
    simp (disch := first | omega | decide) only [push_cast, ↓reduceIte, Nat.reduceLT, Nat.reduceEqDiff, reduceCtorEq, Nat.reduceAdd, an, ad]
    exact ⟨(by simp (disch := decide) only [Kp_put, put_none, kpa]), wv1, t9, x1⟩

theorem chL0 {h0 h : AH} {a : AAct} {lv wv : Value} {vs : List Value} {Ls : List (List Int)} (w0 : WFH h0) (x : WV h0 h wv []) (hlv : SlOf h0 lv vs) (h3 : vs.length = 3) (hl : ∀ q, q < 3 → RowOf iL h0 (vs.getD q undef) (Ls.getD q []))
    (hn : a.n = 182) (hd : a.df = []) (h9 : a.tm 9 = wv) (h10 : a.tm 10 = lv) (h11 : a.tm 11 = .int .i64 0) :
    AW Try.prog none (bodyBlk Try.f5 0) (fun e a' h' => e = .exit 0 ∧ Kp 11 [9] a a' ∧ ∃ wv', a'.tm 9 = wv' ∧ WV h0 h' wv' (allW Ls 3)) a h := by
  refine AW.at (rfl : bodyBlk Try.f5 0 = .loop _) ?_
  refine AW.loopN 11 [9] (fun m a' k => ∃ i : Nat, a'.tm 11 = .int .i64 i ∧ i + m = 3 ∧ ∃ wv', a'.tm 9 = wv' ∧ WV h0 k wv' (allW Ls i)) 3 ?_ ?_
  · exact ⟨0, by rw [h11]; rfl, by omega, wv, h9, x⟩
  rintro a1 m a' k hk kn kd kt ⟨i, hi, him, wv1, t9, x1⟩
  have t10 : a'.tm 10 = lv := (kt 10 (by decide) (by decide)).trans h10
  have an : a'.n = 182 := kn.trans hn
  have ad : a'.df = [] := kd.trans hd
  have kpa : Kp 11 [9] a a' := ⟨kn, kd, kt⟩
  have hlen := allW_len Ls i
  simp (disch := first | omega | decide) only [push_cast, ↓reduceIte, Nat.reduceLT, Nat.reduceEqDiff, reduceCtorEq, Nat.reduceAdd, an, ad, hi]
  refine condV_of (fun hlt => ?_) (fun hge => ?_)
  · have hi3 : i < 3 := by have := of_decide_eq_true hlt; omega
    have hw : IntKind.i64.wrap ((i : Int) + 1) = i + 1 := wrapI (by omega) (by omega)
    simp (disch := first | omega | decide) only [push_cast, ↓reduceIte, Nat.reduceLT, Nat.reduceEqDiff, reduceCtorEq, Nat.reduceAdd, an, ad, hi]
    refine AW.mono ?_ (chL2 w0 x1 (by omega) hlv (q := i) (by omega) hi3 rfl (hl i hi3) (by simp (disch := first | omega | decide) only [push_cast, ↓reduceIte, Nat.reduceLT, Nat.reduceEqDiff, reduceCtorEq, Nat.reduceAdd, an]) (by simp (disch := first | omega | decide) only [push_cast, ↓reduceIte, Nat.reduceLT, Nat.reduceEqDiff, reduceCtorEq, Nat.reduceAdd, ad]) (by simp (disch := first | omega | decide) only [push_cast, ↓reduceIte, Nat.reduceLT, Nat.reduceEqDiff, reduceCtorEq, Nat.reduceAdd, t9]) (by simp (disch := first | omega | decide) only [push_cast, ↓reduceIte, Nat.reduceLT, Nat.reduceEqDiff, reduceCtorEq, Nat.reduceAdd, t10]) (by simp (disch := first | omega | decide) only [push_cast, ↓reduceIte, Nat.reduceLT, Nat.reduceEqDiff, reduceCtorEq, Nat.reduceAdd, hi]) (by simp (disch := first | omega | decide) only [push_cast, ↓reduceIte, Nat.reduceLT, Nat.reduceEqDiff, reduceCtorEq, Nat.reduceAdd]))
    rintro _ a2 k2 ⟨rfl, kp, wv2, t29, x2⟩
    have n2 := kp.1
    have d2 := kp.2.1
    have t11 := kp.2.2 11 (by decide) (by decide)
    simp (disch := first | omega | decide) only [push_cast, ↓reduceIte, Nat.reduceLT, Nat.reduceEqDiff, reduceCtorEq, Nat.reduceAdd, an, ad, hi] at n2 d2 t11
    have kp1 : Kp 11 [9] a1 a2 := Kp.trans (lo' := 12) (X' := [9]) (by simp (disch := decide) only [Kp_put, put_none, hk]) kp (by decide) (fun i hi _ => hi)
    simp (disch := first | omega | decide) only [push_cast, ↓reduceIte, Nat.reduceLT, Nat.reduceEqDiff, reduceCtorEq, Nat.reduceAdd, n2, d2, t11, hw]
    exact ⟨m - 1, by omega, (by simp (disch := decide) only [Kp_put, put_none, kp1]), i + 1, by simp (disch := first | omega | decide) only [push_cast, ↓reduceIte, Nat.reduceLT, Nat.reduceEqDiff, reduceCtorEq, Nat.reduceAdd], by omega, wv2, by simp (disch := first | omega | decide) only [push_cast, ↓reduceIte, Nat.reduceLT, Nat.reduceEqDiff, reduceCtorEq, Nat.reduceAdd, t29], by rw [allW_succ]; exact x2⟩
  · have hi3 : i = 3 := by have := of_decide_eq_false hge; omega
    subst hi3
    simp (disch := first | omega | decide) only [push_cast, ↓reduceIte, Nat.reduceLT, Nat.reduceEqDiff, reduceCtorEq, Nat.reduceAdd, an, ad]
    exact ⟨(by simp (disch := decide) only [Kp_put, put_none, kpa]), wv1, t9, x1⟩


def LtV (v : Value) (ob : Option AObj) (A : Nat) (l : List Int) : Prop := OffV 1 2 v ob A l.length (l.map (.int .i64))

theorem LtV.sl {h : AH} {v : Value} {ob : Option AObj} {A : Nat} {l : List Int} (hv : LtV v ob A l) (hg : ∀ o, ob = some o → h.get A = some o) : SlOf h v (l.map (.int .i64)) := by
  obtain ⟨hl, ⟨h0, rfl, _⟩ | ⟨h0, rfl, rfl⟩ | ⟨off, cs, rfl, rfl, hle, hz⟩⟩ := hv
  · have : l = [] := List.eq_nil_of_length_eq_zero h0
    subst this
    exact ⟨none, 0, 0, rfl, rfl, fun q e => (nomatch e), .inl rfl⟩
  · have : l = [] := List.eq_nil_of_length_eq_zero h0
    subst this
    exact ⟨_, 0, 0, rfl, rfl, fun q e => by cases e; rfl, .inl rfl⟩
  · refine ⟨_, _, _, rfl, by rw [List.length_map], fun q e => by cases e; rfl, .inr ⟨A, off, _, cs, rfl, hg _ rfl, rfl, fun i x hx => ?_⟩⟩
    rw [← hz, Nat.mul_one] at hx
    have hi : i < l.length := by
      have := (List.getElem?_eq_some_iff.1 hx).1
      simp only [List.length_take, List.length_drop] at this; omega
    rw [List.getElem?_take, if_pos hi, List.getElem?_drop] at hx
    exact hx

/-- What the law's first loop keeps. -/
structure OrdI (b k : AH) (A N : Nat) (ts : List Int) (av : Value) : Prop where
  q : ∃ s nm ob ao AT, QR b k s nm ob ∧ nm 0 = A ∧ OB ts s ∧ LtV av ao AT ts ∧ (∀ o, ao = some o → k.get AT = some o ∧ b.next ≤ AT ∧ Un nm ob AT)

attribute [local push_cast] treeM_nil treeM_step treeM_two okX_true wantX_true wantX_false stepX skipX




theorem insS_left (s : QS) (x : Ev) : (insS s x).left = s.left := by
  unfold insS
  split
  · rfl
  split <;> rfl

/-- One of the wanted, read. -/
theorem wantLd {k : AH} {wv : Value} {W : List Ev} (hr : RowOf evL k wv W) {i : Nat} (hi : i < W.length) (hb : W.length ≤ 1000) :
    ∃ X, W[i]? = some X ∧ X ∈ W ∧ W.drop i = X :: W.drop (i + 1) ∧ aIndexAddr Try.prog 34 wv (.int .i64 i) = some (slF 3 wv i 0) ∧ aFieldAddr Try.prog 33 0 (slF 3 wv i 0) = some (slF 3 wv i 0) ∧ aFieldAddr Try.prog 33 1 (slF 3 wv i 0) = some (slF 3 wv i 1) ∧
      aLoad Try.prog 33 (slF 3 wv i 0) k = some (.agg (evC X).toArray) ∧ aLoad Try.prog 5 (slF 3 wv i 0) k = some (.int .u8 X.kind) ∧ aLoad Try.prog 3 (slF 3 wv i 1) k = some (.int .i64 X.index) := by
  have hidx : aIndexAddr Try.prog 34 wv (.int .i64 i) = some (slF 3 wv i 0) := hr.idx Try.underlying34 infVs .i64 i (by omega) (by omega)
  obtain ⟨cs, hcs, hla, hlf, hfa⟩ := hr.get (P := Try.prog) hi ⟨0, 0, 0⟩
  have hcs : cs = evC (W.getD i ⟨0, 0, 0⟩) := hcs
  subst hcs
  have e : W.getD i ⟨0, 0, 0⟩ = W[i] := by rw [List.getD_eq_getElem?_getD, List.getElem?_eq_getElem hi]; rfl
  rw [e] at hla hlf
  exact ⟨W[i], List.getElem?_eq_getElem hi, List.getElem_mem _, List.drop_eq_getElem_cons hi, hidx, hfa _ _ _ foV0, hfa _ _ _ foV1, hla _ agV, hlf 0 _ flK (by decide), hlf 1 _ flI (by decide)⟩

theorem chL8 {h0 b h : AH} {a : AAct} {wv : Value} {W : List Ev} {s : QS} {nm : Nat → Nat} {ob : Nat → Option AObj} {A : Nat} {l : List Int} (wb : WFH b) (x : WV h0 b wv W) (hW : W.length ≤ 1000) (hs : W.Pairwise evLt) (hok : ∀ x ∈ W, evOK x) (r : QR b h s nm ob) (q : nm 0 = A) (c : CI s []) (hl : s.left = l)
    (hn : a.n = 182) (hd : a.df = []) (h9 : a.tm 9 = wv) (h16 : a.tm 16 = vA A) (h17 : a.tm 17 = .int .i64 ((W.length : Int) - 1)) :
    AW Try.prog none (bodyBlk Try.f5 8) (fun e a' h' => e = .exit 8 ∧ Kp 17 [] a a' ∧ ∃ s' nm' ob', QR b h' s' nm' ob' ∧ nm' 0 = A ∧ CI s' W ∧ s'.left = l) a h := by
  refine AW.at (rfl : bodyBlk Try.f5 8 = .loop _) ?_
  refine AW.loopN 17 [] (fun m a' k => ∃ n : Nat, a'.tm 17 = .int .i64 ((n : Int) - 1) ∧ n = m ∧ n ≤ W.length ∧ ∃ s' nm' ob', QR b k s' nm' ob' ∧ nm' 0 = A ∧ CI s' (W.drop n) ∧ s'.left = l) W.length ?_ ?_
  · exact ⟨W.length, h17, rfl, Nat.le_refl _, s, nm, ob, r, q, by rw [List.drop_length]; exact c, hl⟩
  rintro a1 m a' k hk kn kd kt ⟨n, t17, rfl, hnW, s1, nm1, ob1, r1, q1, c1, hl1⟩
  have t9 : a'.tm 9 = wv := (kt 9 (by decide) (by simp)).trans h9
  have t16 : a'.tm 16 = vA A := (kt 16 (by decide) (by simp)).trans h16
  have an : a'.n = 182 := kn.trans hn
  have ad : a'.df = [] := kd.trans hd
  have kpa : Kp 17 [] a a' := ⟨kn, kd, kt⟩
  cases n with
  | zero =>
    have e0 : ((0 : Nat) : Int) - 1 = -1 := rfl
    rw [e0] at t17
    have hge : decide ((-1 : Int) ≥ 0) = false := by decide
    simp (disch := first | omega | decide) only [push_cast, ↓reduceIte, Nat.reduceLT, Nat.reduceEqDiff, reduceCtorEq, Nat.reduceAdd, an, ad, t17, hge]
    exact ⟨(by simp (disch := decide) only [Kp_put, put_none, kpa]), s1, nm1, ob1, r1, q1, c1, hl1⟩
  | succ i =>
    have e1 : (((i + 1 : Nat) : Int) - 1) = (i : Int) := by omega
    rw [e1] at t17
    have hge : decide ((i : Int) ≥ 0) = true := decide_eq_true (by omega)
    have hw : IntKind.i64.wrap ((i : Int) - 1) = (i : Int) - 1 := wrapI (by omega) (by omega)
    obtain ⟨X, -, hXm, hdr, hidx, f0, f1, lE, lK, lI⟩ := wantLd ((x.grow r1.own.gr).row hW) (i := i) (by omega) hW
    have ok := hok X hXm
    have hlt : ∀ y ∈ W.drop (i + 1), evLt X y := by
      have hp := hs.sublist (List.drop_sublist i W)
      rw [hdr, List.pairwise_cons] at hp
      exact hp.1
    have c2 := c1.ins ok hlt
    rw [← hdr] at c2
    have hl2 : (insS s1 X).left = l := (insS_left s1 X).trans hl1
    have h64 : 0 ≤ X.index ∧ X.index < 64 := ⟨ok.2.1, by have := ok.2.2.1; omega⟩
    rcases ok.1 with k1 | k1 | k1
    · have d1 : decide (X.kind = 1) = true := decide_eq_true k1
      obtain ⟨eE, eS⟩ := ins_at c1 k1 ok
      have con := atN wb r1 0 X (by rw [c1.l]; decide)
      rw [q1, eE, eS] at con
      simp (disch := first | omega | decide) only [push_cast, ↓reduceIte, Nat.reduceLT, Nat.reduceEqDiff, reduceCtorEq, Nat.reduceAdd, an, ad, t9, t16, t17, hge, hidx, f0, lK, lE, d1]
      refine ACall.mono ?_ con
      rintro _ k2 ⟨rfl, nm2, ob2, r2, rs2⟩
      simp (disch := first | omega | decide) only [push_cast, ↓reduceIte, Nat.reduceLT, Nat.reduceEqDiff, reduceCtorEq, Nat.reduceAdd, an, ad, t9, t16, t17, hw]
      exact ⟨i, by omega, (by simp (disch := decide) only [Kp_put, put_none, hk]), i, by simp (disch := first | omega | decide) only [push_cast, ↓reduceIte, Nat.reduceLT, Nat.reduceEqDiff, reduceCtorEq, Nat.reduceAdd], rfl, by omega, _, nm2, ob2, r2, rs2.n0.trans q1, c2, hl2⟩
    · have d1 : decide (X.kind = 1) = false := decide_eq_false (by omega)
      have d2 : decide (X.kind = 2) = true := decide_eq_true k1
      have eS : ({ s1 with evals := aput X.index true s1.evals } : QS) = insS s1 X := by unfold insS; rw [if_neg (by omega), if_pos k1]
      have con := evaluateN wb r1 (i := X.index)
      rw [q1, if_pos h64, if_pos h64, eS] at con
      simp (disch := first | omega | decide) only [push_cast, ↓reduceIte, Nat.reduceLT, Nat.reduceEqDiff, reduceCtorEq, Nat.reduceAdd, an, ad, t9, t16, t17, hge, hidx, f0, f1, lK, lI, d1, d2]
      refine ACall.mono ?_ con
      rintro _ k2 ⟨rfl, ob2, r2, rs2⟩
      simp (disch := first | omega | decide) only [push_cast, ↓reduceIte, Nat.reduceLT, Nat.reduceEqDiff, reduceCtorEq, Nat.reduceAdd, an, ad, t9, t16, t17, hw]
      exact ⟨i, by omega, (by simp (disch := decide) only [Kp_put, put_none, hk]), i, by simp (disch := first | omega | decide) only [push_cast, ↓reduceIte, Nat.reduceLT, Nat.reduceEqDiff, reduceCtorEq, Nat.reduceAdd], rfl, by omega, _, nm1, ob2, r2, q1, c2, hl2⟩
    · have d1 : decide (X.kind = 1) = false := decide_eq_false (by omega)
      have d2 : decide (X.kind = 2) = false := decide_eq_false (by omega)
      have eS : ({ s1 with threads := aput X.index true s1.threads } : QS) = insS s1 X := by unfold insS; rw [if_neg (by omega), if_neg (by omega)]
      have con := threadN wb r1 (i := X.index)
      rw [q1, if_pos h64, if_pos h64, eS] at con
      simp (disch := first | omega | decide) only [push_cast, ↓reduceIte, Nat.reduceLT, Nat.reduceEqDiff, reduceCtorEq, Nat.reduceAdd, an, ad, t9, t16, t17, hge, hidx, f0, f1, lK, lI, d1, d2]
      refine ACall.mono ?_ con
      rintro _ k2 ⟨rfl, ob2, r2, rs2⟩
      simp (disch := first | omega | decide) only [push_cast, ↓reduceIte, Nat.reduceLT, Nat.reduceEqDiff, reduceCtorEq, Nat.reduceAdd, an, ad, t9, t16, t17, hw]
      exact ⟨i, by omega, (by simp (disch := decide) only [Kp_put, put_none, hk]), i, by simp (disch := first | omega | decide) only [push_cast, ↓reduceIte, Nat.reduceLT, Nat.reduceEqDiff, reduceCtorEq, Nat.reduceAdd], rfl, by omega, _, nm1, ob2, r2, q1, c2, hl2⟩


theorem evLt_irr {x : Ev} (h : evLt x x) : False := by rcases h with h | h <;> omega
theorem sorted_nodup {W : List Ev} (hs : W.Pairwise evLt) : W.Nodup := hs.imp (fun h e => by subst e; exact evLt_irr h)
theorem filt_perm {W : List Ev} (hs : W.Pairwise evLt) {x : Ev} (hx : x ∈ W) : W.Perm (x :: W.filter (fun y => decide (y ≠ x))) := by
  have h := List.perm_cons_erase hx
  rw [List.Nodup.erase_eq_filter (sorted_nodup hs)] at h
  have e : W.filter (fun y => y != x) = W.filter (fun y => decide (y ≠ x)) := List.filter_congr (fun y _ => by
    by_cases hy : y = x
    · subst hy; simp
    · simp [hy])
  rw [e] at h
  exact h

/-- What is left from i on, but for one. -/
def rst (W : List Ev) (x : Ev) (i : Nat) : List Ev := (W.drop i).filter (fun y => decide (y ≠ x))
theorem rst_sorted {W : List Ev} (hs : W.Pairwise evLt) (x : Ev) (i : Nat) : (rst W x i).Pairwise evLt := hs.sublist (List.filter_sublist.trans (List.drop_sublist i W))
theorem rst_mem {W : List Ev} {x y : Ev} {i : Nat} (h : y ∈ rst W x i) : y ∈ W := (List.drop_sublist i W).subset (List.mem_filter.1 h).1

theorem chL11 {h0 b h : AH} {a : AAct} {wv : Value} {W : List Ev} {F : Ev} {f : Nat} {s : QS} {nm : Nat → Nat} {ob : Nat → Option AObj} {A : Nat} (wb : WFH b) (x : WV h0 b wv W) (hW : W.length ≤ 1000) (hs : W.Pairwise evLt) (hok : ∀ x ∈ W, evOK x) (hf : W[f]? = some F) (r : QR b h s nm ob) (q : nm 0 = A) (c : CI s (rst W F 0)) (hl : s.left = [])
    (hn : a.n = 182) (hd : a.df = []) (h9 : a.tm 9 = wv) (h16 : a.tm 16 = vA A) (h19 : a.tm 19 = .int .i64 f) (h20 : a.tm 20 = .int .i64 0) :
    AW Try.prog none (bodyBlk Try.f5 11) (fun e a' h' => e = .exit 11 ∧ Kp 20 [] a a' ∧ ∃ s' nm' ob', QR b h' s' nm' ob' ∧ nm' 0 = A ∧ CI s' []) a h := by
  refine AW.at (rfl : bodyBlk Try.f5 11 = .loop _) ?_
  refine AW.loopN 20 [] (fun m a' k => ∃ i : Nat, a'.tm 20 = .int .i64 i ∧ i + m = W.length ∧ ∃ s' nm' ob', QR b k s' nm' ob' ∧ nm' 0 = A ∧ CI s' (rst W F i) ∧ s'.left = []) W.length ?_ ?_
  · exact ⟨0, by rw [h20]; rfl, by omega, s, nm, ob, r, q, c, hl⟩
  rintro a1 m a' k hk kn kd kt ⟨i, t20, him, s1, nm1, ob1, r1, q1, c1, hl1⟩
  have t9 : a'.tm 9 = wv := (kt 9 (by decide) (by simp)).trans h9
  have t16 : a'.tm 16 = vA A := (kt 16 (by decide) (by simp)).trans h16
  have t19 : a'.tm 19 = .int .i64 f := (kt 19 (by decide) (by simp)).trans h19
  have an : a'.n = 182 := kn.trans hn
  have ad : a'.df = [] := kd.trans hd
  have kpa : Kp 20 [] a a' := ⟨kn, kd, kt⟩
  have hr := (x.grow r1.own.gr).row hW
  have hlen : ∀ h', aLen Try.prog 34 wv h' = some (.int .i64 W.length) := hr.len Try.underlying34
  by_cases hi : i < W.length
  · have hlt : decide ((i : Int) < W.length) = true := decide_eq_true (by omega)
    have hw : IntKind.i64.wrap ((i : Int) + 1) = i + 1 := wrapI (by omega) (by omega)
    obtain ⟨X, hX, hXm, hdr, hidx, f0, f1, -, lK, lI⟩ := wantLd hr hi hW
    by_cases hif : i = f
    · subst hif
      have eX : X = F := by rw [hX] at hf; injection hf
      subst eX
      have hV : rst W X i = rst W X (i + 1) := by
        unfold rst
        rw [hdr, List.filter_cons_of_neg (by simp)]
      rw [hV] at c1
      have hne : decide ((i : Int) = i) = true := decide_eq_true rfl
      simp (disch := first | omega | decide) only [push_cast, ↓reduceIte, Nat.reduceLT, Nat.reduceEqDiff, reduceCtorEq, Nat.reduceAdd, an, ad, t9, t20, hlen, hlt]
      refine AW.drawP (.take 0 [17, 16, 15, 14, 13, 12, 11, 10, 9, 8, 7, 6, 5, 4, 3, 2] (.take 1 [17, 16, 15, 14, 13, 12, 11, 10, 9, 8, 7, 6, 5, 4, 3, 2] (.take 2 [17, 16, 15, 14, 13, 12, 11, 10, 9, 8, 7, 6, 5, 4, 3] (.take 3 [17, 16, 15, 14, 13, 12, 11, 10, 9, 8, 7, 6, 5, 4] (.take 4 [17, 16, 15] (.take 5 [17, 16, 15, 9, 8, 7] (.take 6 [17, 16, 15, 9, 8, 7] (.take 7 [17, 16, 15, 9, 8] (.take 8 [17, 16, 15, 9] (.take 9 [17, 16, 15] (.take 10 [17, 16, 15, 14, 13, 12] (.take 11 [17, 16, 15, 14, 13, 12] (.take 12 [17, 16, 15, 14, 13] (.take 13 [17, 16, 15, 14] (.take 14 [17, 16, 15] (.only 15 (.take 16 [17] (.take 17 [] .done)))))))))))))))))) [(0, 0), (0, 1), (0, 2), (0, 3), (0, 4), (0, 5), (0, 6), (0, 7), (0, 8), (0, 9), (0, 10), (0, 11), (0, 12), (0, 13), (0, 14), (2, 15), (0, 16), (0, 17)] mixed (by kernel_rfl) (by kernel_rfl) ?_
      simp (disch := first | omega | decide) only [push_cast, ↓reduceIte, Nat.reduceLT, Nat.reduceEqDiff, reduceCtorEq, Nat.reduceAdd, an, ad, t9, t16, t19, t20, hlen, hlt, hne]
      exact ⟨m - 1, by omega, (by simp (disch := decide) only [Kp_put, put_none, hk]), i + 1, by simp (disch := first | omega | decide) only [push_cast, ↓reduceIte, Nat.reduceLT, Nat.reduceEqDiff, reduceCtorEq, Nat.reduceAdd, hw], by omega, s1, nm1, ob1, r1, q1, c1, hl1⟩
    · have hne : decide ((i : Int) = f) = false := decide_eq_false (by omega)
      have hXF : X ≠ F := fun e => by
        subst e
        have hnd := sorted_nodup hs
        exact hif ((List.getElem?_inj hi hnd).1 (hX.trans hf.symm))
      have hV : rst W F i = X :: rst W F (i + 1) := by
        unfold rst
        rw [hdr, List.filter_cons_of_pos (by simpa using hXF)]
      rw [hV] at c1
      have hss := rst_sorted hs F i
      rw [hV] at hss
      have hoo : ∀ y ∈ X :: rst W F (i + 1), evOK y := fun y hy => hok y (rst_mem (i := i) (by rw [hV]; exact hy))
      obtain ⟨s', e', c', hl'⟩ := c1.next hss hoo (i := 0) (x := X) rfl (List.Perm.refl _) (by unfold pickS; rw [hl1]; rfl)
      have ok := hok X hXm
      have con := givesN wb r1 X.kind X.index 0
      have eX : X = ⟨X.kind, X.index, 0⟩ := by have := ok.2.2.2; cases X; simp only at this; subst this; rfl
      have eB : (true && decide (X = (⟨X.kind, X.index, 0⟩ : Ev))) = true := by rw [decide_eq_true eX]; rfl
      rw [q1, e'] at con
      simp only [eB] at con
      simp (disch := first | omega | decide) only [push_cast, ↓reduceIte, Nat.reduceLT, Nat.reduceEqDiff, reduceCtorEq, Nat.reduceAdd, an, ad, t9, t20, hlen, hlt]
      refine AW.drawP (.take 0 [17, 16, 15, 14, 13, 12, 11, 10, 9, 8, 7, 6, 5, 4, 3, 2] (.take 1 [17, 16, 15, 14, 13, 12, 11, 10, 9, 8, 7, 6, 5, 4, 3, 2] (.take 2 [17, 16, 15, 14, 13, 12, 11, 10, 9, 8, 7, 6, 5, 4, 3] (.take 3 [17, 16, 15, 14, 13, 12, 11, 10, 9, 8, 7, 6, 5, 4] (.take 4 [17, 16, 15] (.take 5 [17, 16, 15, 9, 8, 7] (.take 6 [17, 16, 15, 9, 8, 7] (.take 7 [17, 16, 15, 9, 8] (.take 8 [17, 16, 15, 9] (.take 9 [17, 16, 15] (.take 10 [17, 16, 15, 14, 13, 12] (.take 11 [17, 16, 15, 14, 13, 12] (.take 12 [17, 16, 15, 14, 13] (.take 13 [17, 16, 15, 14] (.take 14 [17, 16, 15] (.only 15 (.take 16 [17] (.take 17 [] .done)))))))))))))))))) [(0, 0), (0, 1), (0, 2), (0, 3), (0, 4), (0, 5), (0, 6), (0, 7), (0, 8), (0, 9), (0, 10), (0, 11), (0, 12), (0, 13), (0, 14), (2, 15), (0, 16), (0, 17)] mixed (by kernel_rfl) (by kernel_rfl) ?_
      simp (disch := first | omega | decide) only [push_cast, ↓reduceIte, Nat.reduceLT, Nat.reduceEqDiff, reduceCtorEq, Nat.reduceAdd, an, ad, t9, t16, t19, t20, hlen, hlt, hne, hidx, f0, f1, lK, lI]
      refine ACall.mono ?_ con
      rintro _ k2 ⟨rfl, nm2, ob2, r2, rs2⟩
      simp (disch := first | omega | decide) only [push_cast, ↓reduceIte, Nat.reduceLT, Nat.reduceEqDiff, reduceCtorEq, Nat.reduceAdd, an, ad, t9, t16, t19, t20, hw]
      exact ⟨m - 1, by omega, (by simp (disch := decide) only [Kp_put, put_none, hk]), i + 1, by simp (disch := first | omega | decide) only [push_cast, ↓reduceIte, Nat.reduceLT, Nat.reduceEqDiff, reduceCtorEq, Nat.reduceAdd], by omega, s', nm2, ob2, r2, rs2.n0.trans q1, c', by rw [hl', hl1]; rfl⟩
  · have hlt : decide ((i : Int) < W.length) = false := decide_eq_false (by omega)
    have hV : rst W F i = [] := by unfold rst; rw [List.drop_of_length_le (by omega)]; rfl
    rw [hV] at c1
    simp (disch := first | omega | decide) only [push_cast, ↓reduceIte, Nat.reduceLT, Nat.reduceEqDiff, reduceCtorEq, Nat.reduceAdd, an, ad, t9, t20, hlen, hlt]
    exact ⟨(by simp (disch := decide) only [Kp_put, put_none, kpa]), s1, nm1, ob1, r1, q1, c1⟩


theorem u32W {x : Int} (h0 : 0 ≤ x) (h1 : x < 4294967296) : IntKind.u32.wrap x = x := by rw [IntKind.wrap]; simp [IntKind.signed, IntKind.bits]; omega

theorem chL6 {h0 h : AH} {a : AAct} {wv : Value} {W : List Ev} {T : Int} (w0 : WFH h) (x : WV h0 h wv W) (hW : W.length ≤ 36) (hs : W.Pairwise evLt) (hok : ∀ x ∈ W, evOK x) (hT : 0 ≤ T ∧ T < 4294967296)
    (hn : a.n = 182) (hd : a.df = []) (h3 : a.tm 3 = .int .u32 T) (h9 : a.tm 9 = wv) (h14 : a.tm 14 = .int .i64 0) :
    AW Try.prog none (bodyBlk Try.f5 6) (fun e a' h' => (e = .exit 6 ∧ a'.n = 182 ∧ a'.df = []) ∨ (e = .ret ∧ a'.n = 182 ∧ a'.df = [] ∧ a'.tm 8 = .bool true)) a h := by
  refine AW.at (rfl : bodyBlk Try.f5 6 = .loop _) ?_
  refine AW.loopN 14 [] (fun m a' k => ∃ c : Nat, a'.tm 14 = .int .i64 c ∧ c + m = W.length + 1 ∧ Gr h k) (W.length + 1) ?_ ?_
  · exact ⟨0, by rw [h14]; rfl, by omega, Gr.refl w0⟩
  rintro a1 m a' k hk kn kd kt ⟨c, t14, hcm, gk⟩
  have t9 : a'.tm 9 = wv := (kt 9 (by decide) (by simp)).trans h9
  have t3 : a'.tm 3 = .int .u32 T := (kt 3 (by decide) (by simp)).trans h3
  have an : a'.n = 182 := kn.trans hn
  have ad : a'.df = [] := kd.trans hd
  have hrk := (x.grow gk).row (by omega)
  have hlen : ∀ h', aLen Try.prog 34 wv h' = some (.int .i64 W.length) := hrk.len Try.underlying34
  by_cases hc : c ≤ W.length
  · have hle : decide ((c : Int) ≤ W.length) = true := decide_eq_true (by omega)
    have hwc : IntKind.u32.wrap (c : Int) = c := u32W (by omega) (by omega)
    have hw : IntKind.i64.wrap ((c : Int) + 1) = c + 1 := wrapI (by omega) (by omega)
    have hwl : IntKind.i64.wrap ((W.length : Int) - 1) = (W.length : Int) - 1 := wrapI (by omega) (by omega)
    by_cases hz : W.length = 0
    · have hWn : W = [] := List.eq_nil_of_length_eq_zero hz
      have hgt : decide ((W.length : Int) > 0) = false := decide_eq_false (by omega)
      have hz0 : decide ((W.length : Int) = 0) = true := decide_eq_true (by omega)
      have g1 := gk.new (.row [.int .u32 c] 48 true)
      have hsl : SlOf (k.new (.row [.int .u32 c] 48 true)) (.slice (some ⟨k.next, 0, none⟩) 1 1) (([(c : Int)] : List Int).map (.int .u32)) := SlOf.lit (A := k.next) (by rw [AH.new_get, if_pos rfl]) rfl rfl
      have hN := newN g1.wf hsl (by simp) (fun y hy => by simp only [List.mem_cons, List.not_mem_nil, or_false] at hy; omega)
      have hbu := aBuildU1 k c
      simp (disch := first | omega | decide) only [push_cast, ↓reduceIte, Nat.reduceLT, Nat.reduceEqDiff, reduceCtorEq, Nat.reduceAdd, an, ad, t3, t9, t14, hlen, hle, skI, cvI, hwc, hgt, hbu]
      generalize k.new (.row [.int .u32 c] 48 true) = b at g1 hN ⊢
      have wb := g1.wf
      refine ACall.mono ?_ hN
      rintro _ hA ⟨nm, ob, rfl, r⟩
      have r : QR b hA (newS [(c : Int)]) nm ob := r
      obtain ⟨A, q⟩ : ∃ A, nm 0 = A := ⟨_, rfl⟩
      rw [q]
      simp (disch := first | omega | decide) only [push_cast, ↓reduceIte, Nat.reduceLT, Nat.reduceEqDiff, reduceCtorEq, Nat.reduceAdd, an, ad, t3, t9, t14, hlen, hwl]
      refine AW.mono ?_ (chL8 wb (x.grow g1) (by omega) hs hok r q (ci0 _) rfl (by simp (disch := first | omega | decide) only [push_cast, ↓reduceIte, Nat.reduceLT, Nat.reduceEqDiff, reduceCtorEq, Nat.reduceAdd, an]) (by simp (disch := first | omega | decide) only [push_cast, ↓reduceIte, Nat.reduceLT, Nat.reduceEqDiff, reduceCtorEq, Nat.reduceAdd, ad]) (by simp (disch := first | omega | decide) only [push_cast, ↓reduceIte, Nat.reduceLT, Nat.reduceEqDiff, reduceCtorEq, Nat.reduceAdd, t9]) (by simp (disch := first | omega | decide) only [push_cast, ↓reduceIte, Nat.reduceLT, Nat.reduceEqDiff, reduceCtorEq, Nat.reduceAdd]) (by simp (disch := first | omega | decide) only [push_cast, ↓reduceIte, Nat.reduceLT, Nat.reduceEqDiff, reduceCtorEq, Nat.reduceAdd]))
      rintro _ a2 k2 ⟨rfl, kp, s2, nm2, ob2, r2, q2, c2, -⟩
      have n2 := kp.1
      have d2 := kp.2.1
      have t29 := kp.2.2 9 (by decide) (by decide)
      have t216 := kp.2.2 16 (by decide) (by decide)
      simp (disch := first | omega | decide) only [push_cast, ↓reduceIte, Nat.reduceLT, Nat.reduceEqDiff, reduceCtorEq, Nat.reduceAdd, an, ad, t9] at n2 d2 t29 t216
      rw [hWn] at c2
      have con := overN wb r2
      rw [q2, c2.over] at con
      simp (disch := first | omega | decide) only [push_cast, ↓reduceIte, Nat.reduceLT, Nat.reduceEqDiff, reduceCtorEq, Nat.reduceAdd, n2, d2, t29, t216, hlen, hz0]
      refine ACall.mono ?_ con
      rintro _ k3 ⟨rfl, nm3, ob3, r3, rs3⟩
      simp (disch := first | omega | decide) only [push_cast, ↓reduceIte, Nat.reduceLT, Nat.reduceEqDiff, reduceCtorEq, Nat.reduceAdd, n2, d2, t29, t216]
      refine ACall.mono ?_ awakeN
      rintro _ k4 ⟨rfl, -⟩
      simp (disch := first | omega | decide) only [push_cast, ↓reduceIte, Nat.reduceLT, Nat.reduceEqDiff, reduceCtorEq, Nat.reduceAdd, n2, d2]
      simp
    · have hgt : decide ((W.length : Int) > 0) = true := decide_eq_true (by omega)
      have hz0 : decide ((W.length : Int) = 0) = false := decide_eq_false (by omega)
      have hzz : ((W.length : Int) = 0) = False := eq_false (by omega)
      have h1000 : ((1000 : Int) = 0) = False := by decide
      have hwW : IntKind.u32.wrap (W.length : Int) = W.length := u32W (by omega) (by omega)
      have hq0 : 0 ≤ T.tmod 1000 ∧ T.tmod 1000 < 1000 := by rw [Int.tmod_eq_emod_of_nonneg hT.1]; omega
      generalize hqq : T.tmod 1000 = tq at hq0
      have hp0 : 0 ≤ (W.length : Int) * tq := Int.mul_nonneg (by omega) hq0.1
      have hp1 : (W.length : Int) * tq ≤ 36 * 999 := Int.mul_le_mul (by omega) (by omega) hq0.1 (by omega)
      have hmod : ((c : Int) + (W.length : Int) * tq) % (W.length : Int) = ((c % W.length : Nat) : Int) := by
        rw [Int.add_mul_emod_self_left]; exact (Int.natCast_emod _ _).symm
      have htm : (c : Int).tmod (W.length : Int) = ((c % W.length : Nat) : Int) := by
        rw [Int.tmod_eq_emod_of_nonneg (by omega)]; exact (Int.natCast_emod _ _).symm
      generalize hP : (W.length : Int) * tq = P at hp0 hp1 hmod
      have hwP : IntKind.u32.wrap P = P := u32W (by omega) (by omega)
      have hwp : IntKind.u32.wrap ((c : Int) + P) = c + P := u32W (by omega) (by omega)
      have hpk0 : 0 ≤ (c : Int) + P ∧ (c : Int) + P < 4294967296 := ⟨by omega, by omega⟩
      generalize hpick : (c : Int) + P = pick at hmod hwp hpk0
      have hf : c % W.length < W.length := Nat.mod_lt _ (by omega)
      generalize hff : c % W.length = f at hmod htm hf
      have g1 := gk.new (.row [.int .u32 pick] 48 true)
      have hsl : SlOf (k.new (.row [.int .u32 pick] 48 true)) (.slice (some ⟨k.next, 0, none⟩) 1 1) (([pick] : List Int).map (.int .u32)) := SlOf.lit (A := k.next) (by rw [AH.new_get, if_pos rfl]) rfl rfl
      have hN := newN g1.wf hsl (by simp) (fun y hy => by simp only [List.mem_cons, List.not_mem_nil, or_false] at hy; omega)
      have hbu := aBuildU1 k pick
      simp (disch := first | omega | decide) only [push_cast, ↓reduceIte, Nat.reduceLT, Nat.reduceEqDiff, reduceCtorEq, Nat.reduceAdd, an, ad, t3, t9, t14, hlen, hle, skI, cvI, hwc, hgt, hwW, h1000, hqq, hP, hwP, hpick, hwp, hbu]
      generalize k.new (.row [.int .u32 pick] 48 true) = b at g1 hN ⊢
      have wb := g1.wf
      refine ACall.mono ?_ hN
      rintro _ hA ⟨nm, ob, rfl, r⟩
      have r : QR b hA (newS [pick]) nm ob := r
      obtain ⟨A, q⟩ : ∃ A, nm 0 = A := ⟨_, rfl⟩
      rw [q]
      simp (disch := first | omega | decide) only [push_cast, ↓reduceIte, Nat.reduceLT, Nat.reduceEqDiff, reduceCtorEq, Nat.reduceAdd, an, ad, t3, t9, t14, hlen, hwl]
      refine AW.mono ?_ (chL8 wb (x.grow g1) (by omega) hs hok r q (ci0 _) rfl (by simp (disch := first | omega | decide) only [push_cast, ↓reduceIte, Nat.reduceLT, Nat.reduceEqDiff, reduceCtorEq, Nat.reduceAdd, an]) (by simp (disch := first | omega | decide) only [push_cast, ↓reduceIte, Nat.reduceLT, Nat.reduceEqDiff, reduceCtorEq, Nat.reduceAdd, ad]) (by simp (disch := first | omega | decide) only [push_cast, ↓reduceIte, Nat.reduceLT, Nat.reduceEqDiff, reduceCtorEq, Nat.reduceAdd, t9]) (by simp (disch := first | omega | decide) only [push_cast, ↓reduceIte, Nat.reduceLT, Nat.reduceEqDiff, reduceCtorEq, Nat.reduceAdd]) (by simp (disch := first | omega | decide) only [push_cast, ↓reduceIte, Nat.reduceLT, Nat.reduceEqDiff, reduceCtorEq, Nat.reduceAdd]))
      rintro _ a2 k2 ⟨rfl, kp, s2, nm2, ob2, r2, q2, c2, l2⟩
      have kp2 : Kp 14 [] a1 a2 := Kp.trans (lo' := 17) (X' := []) (by simp (disch := decide) only [Kp_put, put_none, hk]) kp (by decide) (fun i hi _ => hi)
      have n2 := kp.1
      have d2 := kp.2.1
      have t29 := kp.2.2 9 (by decide) (by decide)
      have t216 := kp.2.2 16 (by decide) (by decide)
      have t214 := kp.2.2 14 (by decide) (by decide)
      simp (disch := first | omega | decide) only [push_cast, ↓reduceIte, Nat.reduceLT, Nat.reduceEqDiff, reduceCtorEq, Nat.reduceAdd, an, ad, t9, t14] at n2 d2 t29 t216 t214
      have l2 : s2.left = [pick] := l2
      have hlist := c2.list hs hok
      have con := choicesN wb r2 (by rw [hlist]; intro e; rw [e] at hz; exact hz rfl)
      rw [q2, hlist] at con
      have hne : decide ((W.length : Int) = W.length) = true := decide_eq_true rfl
      simp (disch := first | omega | decide) only [push_cast, ↓reduceIte, Nat.reduceLT, Nat.reduceEqDiff, reduceCtorEq, Nat.reduceAdd, n2, d2, t29, t216, hlen, hz0]
      refine ACall.mono ?_ con
      rintro _ k3 ⟨rfl, g3⟩
      have r3 := r2.gr g3
      obtain ⟨F, hF, hFm, -, hidx, f0, f1, -, lK, lI⟩ := wantLd (((x.grow g1).grow r3.own.gr).row (by omega)) hf (by omega)
      simp (disch := first | omega | decide) only [push_cast, ↓reduceIte, Nat.reduceLT, Nat.reduceEqDiff, reduceCtorEq, Nat.reduceAdd, n2, d2, t29, t214, t216, hlen, hne, hzz, htm]
      refine AW.drawP (.take 0 [12, 11] (.take 1 [12, 11, 5, 4, 3] (.take 2 [12, 11, 5, 4, 3] (.take 3 [12, 11, 5, 4] (.take 4 [12, 11, 5] (.take 5 [12, 11] (.take 6 [12, 11, 10, 9, 8] (.take 7 [12, 11, 10, 9, 8] (.take 8 [12, 11, 10, 9] (.take 9 [12, 11, 10] (.take 10 [12, 11] (.only 11 (.take 12 [] .done))))))))))))) [(0, 0), (0, 1), (0, 2), (0, 3), (0, 4), (0, 5), (0, 6), (0, 7), (0, 8), (0, 9), (0, 10), (2, 11), (0, 12)] mixed (by kernel_rfl) (by kernel_rfl) ?_
      obtain ⟨s4, e4, c4, l4⟩ := c2.next hs hok (i := f) hF (U := rst W F 0) (filt_perm hs hFm) (by unfold pickS; rw [l2]; exact hmod)
      have ok := hok F hFm
      have con := givesN wb r3 F.kind F.index 0
      have eF : F = ⟨F.kind, F.index, 0⟩ := by have := ok.2.2.2; cases F; simp only at this; subst this; rfl
      have eB : (true && decide (F = (⟨F.kind, F.index, 0⟩ : Ev))) = true := by rw [decide_eq_true eF]; rfl
      rw [q2, e4] at con
      simp only [eB] at con
      simp (disch := first | omega | decide) only [push_cast, ↓reduceIte, Nat.reduceLT, Nat.reduceEqDiff, reduceCtorEq, Nat.reduceAdd, n2, d2, t29, t214, t216, hidx, f0, f1, lK, lI]
      refine ACall.mono ?_ con
      rintro _ k5 ⟨rfl, nm5, ob5, r5, rs5⟩
      simp (disch := first | omega | decide) only [push_cast, ↓reduceIte, Nat.reduceLT, Nat.reduceEqDiff, reduceCtorEq, Nat.reduceAdd, n2, d2, t29, t214, t216]
      refine AW.mono ?_ (chL11 wb (x.grow g1) (by omega) hs hok hF r5 (rs5.n0.trans q2) c4 (by rw [l4, l2]; rfl) (by simp (disch := first | omega | decide) only [push_cast, ↓reduceIte, Nat.reduceLT, Nat.reduceEqDiff, reduceCtorEq, Nat.reduceAdd, n2]) (by simp (disch := first | omega | decide) only [push_cast, ↓reduceIte, Nat.reduceLT, Nat.reduceEqDiff, reduceCtorEq, Nat.reduceAdd, d2]) (by simp (disch := first | omega | decide) only [push_cast, ↓reduceIte, Nat.reduceLT, Nat.reduceEqDiff, reduceCtorEq, Nat.reduceAdd, t29]) (by simp (disch := first | omega | decide) only [push_cast, ↓reduceIte, Nat.reduceLT, Nat.reduceEqDiff, reduceCtorEq, Nat.reduceAdd, t216]) (by simp (disch := first | omega | decide) only [push_cast, ↓reduceIte, Nat.reduceLT, Nat.reduceEqDiff, reduceCtorEq, Nat.reduceAdd]) (by simp (disch := first | omega | decide) only [push_cast, ↓reduceIte, Nat.reduceLT, Nat.reduceEqDiff, reduceCtorEq, Nat.reduceAdd]))
      rintro _ a6 k6 ⟨rfl, kp6, s6, nm6, ob6, r6, q6, c6⟩
      have kp7 : Kp 14 [] a1 a6 := Kp.trans (lo' := 20) (X' := []) (by simp (disch := decide) only [Kp_put, put_none, kp2]) kp6 (by decide) (fun i hi _ => hi)
      have n6 := kp6.1
      have d6 := kp6.2.1
      have t616 := kp6.2.2 16 (by decide) (by decide)
      have t614 := kp6.2.2 14 (by decide) (by decide)
      simp (disch := first | omega | decide) only [push_cast, ↓reduceIte, Nat.reduceLT, Nat.reduceEqDiff, reduceCtorEq, Nat.reduceAdd, n2, d2, t214, t216] at n6 d6 t616 t614
      have con := overN wb r6
      rw [q6, c6.over] at con
      simp (disch := first | omega | decide) only [push_cast, ↓reduceIte, Nat.reduceLT, Nat.reduceEqDiff, reduceCtorEq, Nat.reduceAdd, n6, d6, t614, t616]
      refine ACall.mono ?_ con
      rintro _ k8 ⟨rfl, nm8, ob8, r8, rs8⟩
      simp (disch := first | omega | decide) only [push_cast, ↓reduceIte, Nat.reduceLT, Nat.reduceEqDiff, reduceCtorEq, Nat.reduceAdd, n6, d6, t614, t616, hw]
      exact ⟨m - 1, by omega, (by simp (disch := decide) only [Kp_put, put_none, kp7]), c + 1, by simp (disch := first | omega | decide) only [push_cast, ↓reduceIte, Nat.reduceLT, Nat.reduceEqDiff, reduceCtorEq, Nat.reduceAdd], by omega, g1.trans r8.own.gr⟩
  · have hle : decide ((c : Int) ≤ W.length) = false := decide_eq_false (by omega)
    simp (disch := first | omega | decide) only [push_cast, ↓reduceIte, Nat.reduceLT, Nat.reduceEqDiff, reduceCtorEq, Nat.reduceAdd, an, ad, t9, t14, hlen, hle]
    simp


theorem infLI : ∃ i, Try.prog.info? 47 = some i ∧ i.size = 1 ∧ i.bytes = 24 ∧ i.zero = some (.slice none 0 0) := ⟨(Try.prog.info? 47).get (by kernel_rfl), by kernel_rfl, by kernel_rfl, by kernel_rfl, by kernel_rfl⟩
theorem tLI : SlT Try.prog 49 47 24 (.slice none 0 0) := ⟨Try.underlying49, infLI, ⟨_, Try.underlying47, rfl⟩, rfl, rfl, rfl⟩

theorem aBuildLI3 (h : AH) {x y z : Value} (hx : ∃ p n c, x = .slice p n c) (hy : ∃ p n c, y = .slice p n c) (hz : ∃ p n c, z = .slice p n c) : aBuildSlice Try.prog 49 3 [(0, x), (1, y), (2, z)] h = some (.slice (some ⟨h.next, 0, none⟩) 3 3, h.new (.row [x, y, z] 47 true)) := by
  obtain ⟨p, n, c, rfl⟩ := hx
  obtain ⟨p2, n2, c2, rfl⟩ := hy
  obtain ⟨p3, n3, c3, rfl⟩ := hz
  obtain ⟨i, hi, h1, hb, hz⟩ := tLI.info
  have hp : plain 9 (.slice none 0 0) = true := rfl
  have hc : (Value.slice none 0 0).cells.size = 1 := rfl
  have hl : (Value.slice none 0 0).cells.toList = [.slice none 0 0] := rfl
  have hx1 : ∀ p n c, (Value.slice p n c).cells.size = 1 := fun _ _ _ => rfl
  have hx2 : ∀ p n c, (Value.slice p n c).cells.toList = [.slice p n c] := fun _ _ _ => rfl
  simp only [aBuildSlice, tLI.sl, hi, hz, h1, hp, hc, fillL, hl, zeros_one]
  simp [SL, hx1, hx2, setL, oneC, List.replicate]

theorem rowSl {α : Type} {L : Lay α} {h : AH} {v : Value} {l : List α} (r : RowOf L h v l) : ∃ p n c, v = .slice p n c := by
  obtain ⟨p, n, c, rfl, -⟩ := r
  exact ⟨_, _, _, rfl⟩

theorem qchN {h : AH} {v0 v1 v2 : Value} {l0 l1 l2 : List Int} {T : Int} (r0 : RowOf iL h v0 l0) (r1 : RowOf iL h v1 l1) (r2 : RowOf iL h v2 l2) (hT : 0 ≤ T ∧ T < 4294967296) :
    ACall Try.prog 5 [v0, v1, v2, .int .u32 T] h (fun r _ => r = .bool true) := by
  refine ACall.wf ⟨_, Try.func5, rfl, by kernel_rfl⟩ fun wf0 => ?_
  refine ACall.of_wp (c := (.seq (.region 0 (opsOf Try.f5 0) false) (.seq (.region 1 (opsOf Try.f5 1) false) (.seq (.region 2 (opsOf Try.f5 2) false) (.seq (.seq (.region 3 (opsOf Try.f5 3) false) (.block 0 (bodyBlk Try.f5 0))) (.seq (.seq (.region 14 (opsOf Try.f5 14) false) (.block 6 (bodyBlk Try.f5 6))) (.seq (.region 47 (opsOf Try.f5 47) false) .ret))))))) 182 [.tmp 8] Try.func5 (by kernel_rfl) rfl rfl (by kernel_rfl) fun a hn hd ha => ?_
  rw [wpA_seq, wpA_region]
  refine opsM.at (rfl : #[_] = _) (rfl : [_] = _) ?_
  simp (disch := first | omega | decide) only [push_cast, ↓reduceIte, Nat.reduceLT, Nat.reduceEqDiff, reduceCtorEq, Nat.reduceAdd, hn, hd]
  refine opsM.at (rfl : #[_] = _) (rfl : [_] = _) ?_
  simp (disch := first | omega | decide) only [push_cast, ↓reduceIte, Nat.reduceLT, Nat.reduceEqDiff, reduceCtorEq, Nat.reduceAdd, hn, hd]
  refine opsM.at (rfl : #[_, _, _, _, _] = _) (rfl : [_, _, _, _, _] = _) ?_
  have hb := aBuildLI3 h (rowSl r0) (rowSl r1) (rowSl r2)
  have g1 := (Gr.refl wf0).new (.row [v0, v1, v2] 47 true)
  have hsl : SlOf (h.new (.row [v0, v1, v2] 47 true)) (.slice (some ⟨h.next, 0, none⟩) 3 3) [v0, v1, v2] := SlOf.lit (A := h.next) (by rw [AH.new_get, if_pos rfl]) rfl rfl
  simp (disch := first | omega | decide) only [push_cast, ↓reduceIte, Nat.reduceLT, Nat.reduceEqDiff, reduceCtorEq, Nat.reduceAdd, hn, hd, ha, hb]
  generalize h.new (.row [v0, v1, v2] 47 true) = h1 at g1 hsl ⊢
  refine opsM.at (rfl : #[_] = _) (rfl : [_] = _) ?_
  simp (disch := first | omega | decide) only [push_cast, ↓reduceIte, Nat.reduceLT, Nat.reduceEqDiff, reduceCtorEq, Nat.reduceAdd, hn, hd, ha]
  have x0 : WV h1 h1 (.slice none 0 0) [] := ⟨Gr.refl g1.wf, none, 0, OffV.nil _ _ _, fun o ho => (nomatch ho)⟩
  have hl : ∀ q, q < 3 → RowOf iL h1 ([v0, v1, v2].getD q undef) ([l0, l1, l2].getD q []) := fun q hq => by
    have : q = 0 ∨ q = 1 ∨ q = 2 := by omega
    rcases this with rfl | rfl | rfl
    · exact r0.sub g1.sub
    · exact r1.sub g1.sub
    · exact r2.sub g1.sub
  refine wpLoop (rfl : bodyBlk Try.f5 0 = .loop _) (AW.mono ?_ (chL0 g1.wf x0 hsl rfl hl (by simp (disch := first | omega | decide) only [push_cast, ↓reduceIte, Nat.reduceLT, Nat.reduceEqDiff, reduceCtorEq, Nat.reduceAdd, hn]) (by simp (disch := first | omega | decide) only [push_cast, ↓reduceIte, Nat.reduceLT, Nat.reduceEqDiff, reduceCtorEq, Nat.reduceAdd, hd]) (by simp (disch := first | omega | decide) only [push_cast, ↓reduceIte, Nat.reduceLT, Nat.reduceEqDiff, reduceCtorEq, Nat.reduceAdd]) (by simp (disch := first | omega | decide) only [push_cast, ↓reduceIte, Nat.reduceLT, Nat.reduceEqDiff, reduceCtorEq, Nat.reduceAdd]) (by simp (disch := first | omega | decide) only [push_cast, ↓reduceIte, Nat.reduceLT, Nat.reduceEqDiff, reduceCtorEq, Nat.reduceAdd])))
  rintro _ a2 h2 ⟨rfl, kp, wv, t9, x2⟩
  rw [blockQ_exit, if_pos rfl, thenQ_normal, wpA_seq, wpA_seq, wpA_region]
  have n2 := kp.1
  have d2 := kp.2.1
  have t3 := kp.2.2 3 (by decide) (by decide)
  simp (disch := first | omega | decide) only [push_cast, ↓reduceIte, Nat.reduceLT, Nat.reduceEqDiff, reduceCtorEq, Nat.reduceAdd, hn, hd, ha] at n2 d2 t3
  refine opsM.at (rfl : #[_] = _) (rfl : [_] = _) ?_
  simp (disch := first | omega | decide) only [push_cast, ↓reduceIte, Nat.reduceLT, Nat.reduceEqDiff, reduceCtorEq, Nat.reduceAdd, n2, d2]
  have hlen := allW_len [l0, l1, l2] 3
  refine stepL (R := fun a' _ => a'.n = 182 ∧ a'.df = []) (S := fun a' _ => a'.n = 182 ∧ a'.df = [] ∧ a'.tm 8 = .bool true) (rfl : bodyBlk Try.f5 6 = .loop _) (chL6 x2.g.wf x2 (by omega) (allW_sorted _ 3) allW_ok hT (by simp (disch := first | omega | decide) only [push_cast, ↓reduceIte, Nat.reduceLT, Nat.reduceEqDiff, reduceCtorEq, Nat.reduceAdd, n2]) (by simp (disch := first | omega | decide) only [push_cast, ↓reduceIte, Nat.reduceLT, Nat.reduceEqDiff, reduceCtorEq, Nat.reduceAdd, d2]) (by simp (disch := first | omega | decide) only [push_cast, ↓reduceIte, Nat.reduceLT, Nat.reduceEqDiff, reduceCtorEq, Nat.reduceAdd, t3]) (by simp (disch := first | omega | decide) only [push_cast, ↓reduceIte, Nat.reduceLT, Nat.reduceEqDiff, reduceCtorEq, Nat.reduceAdd, t9]) (by simp (disch := first | omega | decide) only [push_cast, ↓reduceIte, Nat.reduceLT, Nat.reduceEqDiff, reduceCtorEq, Nat.reduceAdd])) (fun a3 h3 hR => ?_) (fun a3 h3 hS => ?_)
  · obtain ⟨n3, d3⟩ := hR
    rw [thenQ_normal, wpA_seq, wpA_region]
    refine opsM.at (rfl : #[_, _] = _) (rfl : [_, _] = _) ?_
    simp (disch := first | omega | decide) only [push_cast, ↓reduceIte, Nat.reduceLT, Nat.reduceEqDiff, reduceCtorEq, Nat.reduceAdd, n3, d3]
    refine ACall.mono ?_ awakeN
    rintro _ h5 ⟨rfl, -⟩
    simp (disch := first | omega | decide) only [push_cast, ↓reduceIte, Nat.reduceLT, Nat.reduceEqDiff, reduceCtorEq, Nat.reduceAdd, n3, d3]
  · obtain ⟨n3, d3, t8⟩ := hS
    simp (disch := first | omega | decide) only [push_cast, ↓reduceIte, Nat.reduceLT, Nat.reduceEqDiff, reduceCtorEq, Nat.reduceAdd, n3, d3, t8]

end Go.Ab.Q
