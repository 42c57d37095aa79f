/- The queue: its types. maps.Keys: its closures. slices.AppendSeq and Collect over a map's keys. DERIVED: THE SHELF's CONTRACTS AT THIS DUMP, IN PLAIN WORDS (tools/lay-plain.mjs out of 'TrySortShelf.lean', which tools/lay-shelf.mjs wrote): THE SAME DECLARATIONS UNDER THE SAME NAMES: 'import', 'namespace', 'open', 'def', 'theorem' AND NOTHING ELSE: no command of the shelf's: FOR A HAND-IN. Each laying: the table of numbers ('.._ren') and one theorem, a field a fact of the dump's own or the kernel's comparison; each contract: ONE APPLICATION. Own layer 'Ab': the library's sort of a slice of integers. slices.Collect, slices.Sorted, maps.Keys: the sorted keys of a map. Own layer 'Ab': slices of one's own that may begin within their block. Own layer 'Ab': parts of a function's code, by their numbers. The queue's relation; its simplest methods. The queue: Evaluate, Thread, Inactive, Now. The list of active events: plainly; what its rounds may touch. The list's closure: its loops. The list's closure: its loop over the waiting threads' heads. The list's closure: the sorted keys of its maps. The list's closure, joined. The queue's list, and how many events are active. The queue: pick. Own layer 'Ab': blocks of one's own under other roles; sums over lists. The queue: activate. The queue: the waiting updates, poured. The queue: activate, walked. The queue: activate, joined. The queue: Next's range over the list. The queue: an event taken out. The queue: Next's switch. The queue: Next. -/
import Derived.Test.YtomakgiklpddbaaB1
import Derived.Test.YtomakgiklpddbaaProg
import Derived.KernelRfl
import Derived.Shelf.SortM.Plain
import Derived.Shelf.SortM.SortNone
import Derived.Ground.SlgmProg
import Derived.Sort.Row
import Derived.Sort.Grow
set_option linter.unusedSimpArgs false
set_option linter.unusedVariables false
namespace Go.Ab.Q
open Go.Proofs
set_option linter.unusedSimpArgs false
set_option linter.unusedVariables false
set_option maxRecDepth 100000
set_option maxHeartbeats 4000000
attribute [local push_cast] wpA_skip wpA_ret wpA_exit wpA_seq wpA_block wpA_cond2 andK_true wpA_region wpA_draw wpA_loop thenQ_normal thenQ_ret thenQ_exit blockQ_normal blockQ_ret blockQ_exit condV_true condV_false opsM_nil opsM_cons2 okM_true wantM_true wantM_false stepM seqM_cons2 seqM_nil2 okS_true wantS_true wantS_false stepS skipS okB Keeps_nil contK_app List.zip_cons_cons List.zip_nil_left List.zip_nil_right Op.operands Call.operands Array.toList_append List.append_nil List.nil_append List.all_cons List.all_nil cOK plain put_n put_tm put_none put_df ev_tmp ev_const ev_func wanted_none wanted_some callR_func dop ex_some1 aBuiltin aBin intBin aUn Option.map_some Bool.and_true Bool.true_and Bool.and_self List.map_cons List.map_nil List.toList_toArray List.getElem?_toArray List.getElem?_cons_zero List.getElem?_cons_succ Option.getD_some Option.getD_none Bool.false_eq_true eq_self_iff_true decide_true decide_false List.cons_append aExtract resL resV List.getD_cons_zero List.getD_cons_succ List.getD_nil Nat.succ_ne_self g1 g2 yieldedA2 isB_bool isB_undef g3 Option.bind_some Option.bind_none bne_self_eq_false beq_self_eq_true Bool.not_true Bool.not_false Int.toNat_natCast List.length_map List.mem_cons List.not_mem_nil or_false not_false_eq_true decide_not Bool.not_not bodyR_ret2 bodyR_normal2 closeMarks_nil ex_some0 Nat.zero_add Nat.add_zero ieq ine List.map_toArray Option.toArray_none Option.toArray_some oev Keeps_cons Still_eq selL wpX_skip wpX_ret wpX_exit wpX_seq wpX_block wpX_cond wpX_region wpX_draw wpX_loop List.take_succ_cons List.take_zero List.drop_succ_cons List.drop_zero Int.zero_add Int.add_zero aNil if_true if_false true_and and_true

theorem mixed : Try.prog.follows .mixedOrders = true := by kernel_rfl
theorem infI : ∃ i, Try.prog.info? 3 = some i ∧ i.size = 1 ∧ i.bytes = 8 ∧ i.zero = some (.int .i64 0) := ⟨(Try.prog.info? 3).get (by kernel_rfl), by kernel_rfl, by kernel_rfl, by kernel_rfl, by kernel_rfl⟩
theorem infL : ∃ i, Try.prog.info? 2 = some i ∧ i.size = 1 ∧ i.bytes = 8 ∧ i.zero = some (.int .i64 0) := ⟨(Try.prog.info? 2).get (by kernel_rfl), by kernel_rfl, by kernel_rfl, by kernel_rfl, by kernel_rfl⟩
theorem infU : ∃ i, Try.prog.info? 48 = some i ∧ i.size = 1 ∧ i.bytes = 4 ∧ i.zero = some (.int .u32 0) := ⟨(Try.prog.info? 48).get (by kernel_rfl), by kernel_rfl, by kernel_rfl, by kernel_rfl, by kernel_rfl⟩
theorem tI : SlT Try.prog 47 3 8 (.int .i64 0) := ⟨Try.underlying47, infI, ⟨_, Try.underlying3, rfl⟩, rfl, rfl, rfl⟩
theorem tL : SlT Try.prog 26 2 8 (.int .i64 0) := ⟨Try.underlying26, infL, ⟨_, Try.underlying2, rfl⟩, rfl, rfl, rfl⟩
theorem tU : SlT Try.prog 22 48 4 (.int .u32 0) := ⟨Try.underlying22, infU, ⟨_, Try.underlying48, rfl⟩, rfl, rfl, rfl⟩
theorem sV : SlM Try.prog 34 33 3 24 := ⟨Try.underlying34, ⟨(Try.prog.info? 33).get (by kernel_rfl), .agg #[.int .u8 0, .int .i64 0, .int .i64 0], by kernel_rfl, by kernel_rfl, by kernel_rfl, by kernel_rfl, rfl, rfl, rfl⟩, by decide⟩
theorem agV : Ag Try.prog 33 3 := ⟨⟨_, Try.underlying33, rfl⟩, ⟨(Try.prog.info? 33).get (by kernel_rfl), by kernel_rfl, by kernel_rfl⟩⟩
theorem agA : Ag Try.prog 58 64 := ⟨⟨_, Try.underlying58, rfl⟩, ⟨(Try.prog.info? 58).get (by kernel_rfl), by kernel_rfl, by kernel_rfl⟩⟩
theorem flI : Fl Try.prog 3 := ⟨_, Try.underlying3, rfl⟩
theorem flL : Fl Try.prog 2 := ⟨_, Try.underlying2, rfl⟩
theorem flB : Fl Try.prog 4 := ⟨_, Try.underlying4, rfl⟩
theorem flK : Fl Try.prog 5 := ⟨_, Try.underlying5, rfl⟩
theorem flU : Fl Try.prog 22 := ⟨_, Try.underlying22, rfl⟩
theorem flE : Fl Try.prog 34 := ⟨_, Try.underlying34, rfl⟩
theorem flMD : Fl Try.prog 54 := ⟨_, Try.underlying54, rfl⟩
theorem flMB : Fl Try.prog 55 := ⟨_, Try.underlying55, rfl⟩
theorem flMA : Fl Try.prog 56 := ⟨_, Try.underlying56, rfl⟩
theorem flMT : Fl Try.prog 57 := ⟨_, Try.underlying57, rfl⟩
theorem foV0 : fOff Try.prog 33 0 = some 0 := by kernel_rfl
theorem foV1 : fOff Try.prog 33 1 = some 1 := by kernel_rfl
theorem foV2 : fOff Try.prog 33 2 = some 2 := by kernel_rfl
theorem foC : fOff Try.prog 53 0 = some 0 := by kernel_rfl
theorem foR0 : fOff Try.prog 64 0 = some 0 := by kernel_rfl
theorem foR1 : fOff Try.prog 64 1 = some 1 := by kernel_rfl
theorem foR2 : fOff Try.prog 64 2 = some 2 := by kernel_rfl
theorem foQ0 : fOff Try.prog 60 0 = some 0 := by kernel_rfl
theorem foQ1 : fOff Try.prog 60 1 = some 1 := by kernel_rfl
theorem foQ2 : fOff Try.prog 60 2 = some 2 := by kernel_rfl
theorem foQ3 : fOff Try.prog 60 3 = some 3 := by kernel_rfl
theorem foQ4 : fOff Try.prog 60 4 = some 4 := by kernel_rfl
theorem foQ5 : fOff Try.prog 60 5 = some 5 := by kernel_rfl
theorem foQ6 : fOff Try.prog 60 6 = some 6 := by kernel_rfl
theorem foQ7 : fOff Try.prog 60 7 = some 7 := by kernel_rfl
theorem foQ8 : fOff Try.prog 60 8 = some 8 := by kernel_rfl
theorem foQ9 : fOff Try.prog 60 9 = some 72 := by kernel_rfl
theorem foQ10 : fOff Try.prog 60 10 = some 73 := by kernel_rfl
theorem foQ11 : fOff Try.prog 60 11 = some 74 := by kernel_rfl
theorem foQ12 : fOff Try.prog 60 12 = some 75 := by kernel_rfl
theorem mtD : MapT Try.prog 54 (.int .i64 0) := ⟨⟨_, _, _, Try.underlying54, Try.underlying3, (Try.prog.info? 3).get (by kernel_rfl), by kernel_rfl, by kernel_rfl⟩, rfl⟩
theorem mtB : MapT Try.prog 55 (.bool false) := ⟨⟨_, _, _, Try.underlying55, Try.underlying3, (Try.prog.info? 4).get (by kernel_rfl), by kernel_rfl, by kernel_rfl⟩, rfl⟩
theorem mtA : MapT Try.prog 56 (.pointer none) := ⟨⟨_, _, _, Try.underlying56, Try.underlying2, (Try.prog.info? 65).get (by kernel_rfl), by kernel_rfl, by kernel_rfl⟩, rfl⟩
theorem mtT : MapT Try.prog 57 (.int .i64 0) := ⟨⟨_, _, _, Try.underlying57, Try.underlying3, (Try.prog.info? 2).get (by kernel_rfl), by kernel_rfl, by kernel_rfl⟩, rfl⟩

/-! ### The data -/

structure Ev where
  kind : Int
  index : Int
  tag : Int
deriving DecidableEq
def evC (x : Ev) : List Value := [.int .u8 x.kind, .int .i64 x.index, .int .i64 x.tag]
def evL : Lay Ev where
  sz := 3
  pos := by decide
  rel h cs x := cs = evC x
  mono := by rintro h h' cs x hs rfl; rfl
  len := by rintro h cs x rfl; rfl
  one := by rintro h cs x rfl v hv; simp only [evC, List.mem_cons, List.not_mem_nil, or_false] at hv; rcases hv with rfl | rfl | rfl <;> rfl
instance : LayV evL := ⟨by rintro h cs x rfl; rfl⟩

/-- The events of a later time. -/
structure Lat where
  drives : List (Int × Int)
  threads : List (Int × Bool)
  updates : List Ev

/-- A queue. -/
structure QS where
  left : List Int
  now : Int
  held : Int
  drives : List (Int × Int)
  evals : List (Int × Bool)
  threads : List (Int × Bool)
  quiet : List (Int × Bool)
  ready : List (List Ev)
  waiting : List Ev
  later : List (Int × Lat)
  drive : List (Int × Int)
  wake : List (Int × Int)

def vI : Int → Value := .int .i64
def vB : Bool → Value := .bool

theorem perm_all {n : Nat} {ix : List Nat} (hn : ix.Nodup) (hl : ∀ i ∈ ix, i < n) (ha : ∀ i, i < n → i ∈ ix) : ix.Perm (List.range n) :=
  (List.perm_ext_iff_of_nodup hn List.nodup_range).2 fun i => ⟨fun h => List.mem_range.2 (hl i h), fun h => ha i (List.mem_range.1 h)⟩
theorem range_map {α : Type} (l : List α) (d : α) : (List.range l.length).map (fun i => l.getD i d) = l := by
  apply List.ext_getElem?
  intro i
  rw [List.getElem?_map]
  by_cases hi : i < l.length
  · rw [List.getElem?_range hi]; simp [List.getD_eq_getElem?_getD, hi]
  · rw [List.getElem?_eq_none (by simp; omega), List.getElem?_eq_none (by omega)]; rfl
theorem nodup_le {n : Nat} {ix : List Nat} (hn : ix.Nodup) (hl : ∀ i ∈ ix, i < n) : ix.length ≤ n := by
  induction n generalizing ix with
  | zero =>
    cases ix with
    | nil => exact Nat.le_refl _
    | cons x l => exact absurd (hl x (List.mem_cons_self ..)) (by omega)
  | succ n ih =>
    by_cases hm : n ∈ ix
    · have h1 := ih (ix := ix.erase n) (hn.erase n) (fun i hi => by
        have := hl i (List.mem_of_mem_erase hi)
        have : i ≠ n := fun e => by subst e; exact (hn.not_mem_erase) hi
        omega)
      rw [List.length_erase_of_mem hm] at h1
      omega
    · have := ih (ix := ix) hn (fun i hi => by
        have := hl i hi
        have : i ≠ n := fun e => hm (e ▸ hi)
        omega)
      omega
theorem keepS {α : Type} {vf : α → Value} {h h' : AH} {I M : Nat} {l : List (Int × α)} {ix : List Nat} (it : IterAt vf h I M l ix) (h1 : ∀ o, h.get I = some o → h'.get I = some o) (h2 : ∀ o, h.get M = some o → h'.get M = some o) : IterAt vf h' I M l ix := let ⟨es, clk, a, b, c⟩ := it; ⟨es, clk, h1 _ a, h2 _ b, c⟩

theorem keysD {yv : Value} {B M : Nat} {h : AH} {l : List (Int × Int)} {J : List Int → AH → Prop} (w : WFH h) (hB : CsAt h B [.map (some M)]) (m : MapL vI h M l) (h0 : J [] h)
    (hs : ∀ acc h1 h2, J acc h1 → WFH h2 → h1.next ≤ h2.next → (∀ C, C ≠ h.next → h2.get C = h1.get C) → J acc h2)
    (hy : ∀ acc k h1, J acc h1 → WFH h1 → acc.length < l.length → callR Try.prog yv [.int .i64 k] h1 (fun r h2 => r = .bool true ∧ J (acc ++ [k]) h2 ∧ WFH h2 ∧ h1.next ≤ h2.next ∧ ∀ C o, C = h.next ∨ C = M → h1.get C = some o → h2.get C = some o)) :
    ACall Try.prog 47 [yv, .pointer (some ⟨B, 0, none⟩)] h (fun _ h' => WFH h' ∧ ∃ ks, ks.Perm (l.map (·.1)) ∧ J ks h') := by
  refine ACall.of_wp 14 [] Try.func47 rfl (by kernel_rfl) rfl rfl fun a hn hd ha => ?_
  obtain ⟨o, hr, it⟩ := m.range w mtD
  have hld : aLoad Try.prog 54 (.pointer (some ⟨B, 0, none⟩)) h = some (.map (some M)) := hB.ld flMD 0 (by show 0 < 1; decide)
  simp (disch := first | omega | decide) only [push_cast, ↓reduceIte, Nat.reduceLT, Nat.reduceEqDiff, reduceCtorEq, Nat.reduceAdd, hn, hd, ha, hld, hr]
  have w1 := w.new o
  have j1 : J [] (h.new o) := hs _ _ _ h0 w1 (Nat.le_succ _) (fun C hC => by rw [AH.new_get, if_neg hC])
  refine AW.loopN 6 [3] (fun q a' h' => ∃ ix, IterAt vI h' h.next M l ix ∧ J (ix.map fun i => (l.getD i (0, 0)).1) h' ∧ WFH h' ∧ ix.length + q = l.length) l.length ?_ ?_
  · exact ⟨[], it, j1, w1, by simp⟩
  rintro a1 q a' k hk kn kd kt ⟨ix, it, j, wk, hq⟩
  simp (disch := first | omega | decide) only [push_cast, ↓reduceIte, Nat.reduceLT, Nat.reduceEqDiff, reduceCtorEq, Nat.reduceAdd, kn, kd, kt, hn, hd, ha]
  refine it.next (fun hall => ?_) (fun i p o hp hni it' => ?_)
  · simp (disch := first | omega | decide) only [push_cast, ↓reduceIte, Nat.reduceLT, Nat.reduceEqDiff, reduceCtorEq, Nat.reduceAdd, kn, kd, kt, hn, hd, ha]
    obtain ⟨es, clk, _, _, e, hnd, hlt⟩ := it
    refine ⟨wk, _, ?_, j⟩
    have := (perm_all hnd hlt hall).map (fun i => (l.getD i (0, 0)).1)
    have h2 : (List.range l.length).map (fun i => (l.getD i (0, 0)).1) = l.map (·.1) := by
      have := congrArg (List.map (·.1)) (range_map l (0, 0))
      rw [List.map_map] at this
      exact this
    rw [h2] at this
    exact this
  · have hI : ∃ oi, k.get h.next = some oi := by obtain ⟨es, clk, x, _⟩ := it; exact ⟨_, x⟩
    obtain ⟨oi, hI⟩ := hI
    have ws := wk.set (AH.get_lt wk hI) o
    have js := hs _ _ _ j ws (Nat.le_refl _) (fun C hC => by rw [AH.set_get, if_neg hC])
    have hil : i < l.length := (List.getElem?_eq_some_iff.1 hp).1
    have hnd' : (ix ++ [i]).length ≤ l.length := by
      obtain ⟨es, clk, _, _, e, hnd, hlt⟩ := it'
      exact nodup_le hnd hlt
    rw [List.length_append, List.length_cons, List.length_nil] at hnd'
    have hen := it'.entry hp
    generalize k.set h.next o = k2 at ws js it' hen ⊢
    simp (disch := first | omega | decide) only [push_cast, ↓reduceIte, Nat.reduceLT, Nat.reduceEqDiff, reduceCtorEq, Nat.reduceAdd, kn, kd, kt, hn, hd, ha, hen]
    refine callR.mono ?_ (hy _ p.1 k2 js ws (by rw [List.length_map]; omega))
    rintro _ k3 ⟨rfl, j3, w3, n3, g1⟩
    simp (disch := first | omega | decide) only [push_cast, ↓reduceIte, Nat.reduceLT, Nat.reduceEqDiff, reduceCtorEq, Nat.reduceAdd, kn, kd, kt, hn, hd, ha]
    refine ⟨q - 1, by omega, (by simp (disch := decide) only [Kp_put, put_none, hk]), ix ++ [i], keepS it' (fun o => g1 _ o (.inl rfl)) (fun o => g1 _ o (.inr rfl)), ?_, w3, by rw [List.length_append, List.length_cons, List.length_nil]; omega⟩
    rw [List.map_append]
    have : (l.getD i (0, 0)).1 = p.1 := by rw [List.getD_eq_getElem?_getD, hp]; rfl
    simp only [List.map_cons, List.map_nil, this]
    exact j3

theorem keysB {yv : Value} {B M : Nat} {h : AH} {l : List (Int × Bool)} {J : List Int → AH → Prop} (w : WFH h) (hB : CsAt h B [.map (some M)]) (m : MapL vB h M l) (h0 : J [] h)
    (hs : ∀ acc h1 h2, J acc h1 → WFH h2 → h1.next ≤ h2.next → (∀ C, C ≠ h.next → h2.get C = h1.get C) → J acc h2)
    (hy : ∀ acc k h1, J acc h1 → WFH h1 → acc.length < l.length → callR Try.prog yv [.int .i64 k] h1 (fun r h2 => r = .bool true ∧ J (acc ++ [k]) h2 ∧ WFH h2 ∧ h1.next ≤ h2.next ∧ ∀ C o, C = h.next ∨ C = M → h1.get C = some o → h2.get C = some o)) :
    ACall Try.prog 48 [yv, .pointer (some ⟨B, 0, none⟩)] h (fun _ h' => WFH h' ∧ ∃ ks, ks.Perm (l.map (·.1)) ∧ J ks h') := by
  refine ACall.of_wp 14 [] Try.func48 rfl (by kernel_rfl) rfl rfl fun a hn hd ha => ?_
  obtain ⟨o, hr, it⟩ := m.range w mtB
  have hld : aLoad Try.prog 55 (.pointer (some ⟨B, 0, none⟩)) h = some (.map (some M)) := hB.ld flMB 0 (by show 0 < 1; decide)
  simp (disch := first | omega | decide) only [push_cast, ↓reduceIte, Nat.reduceLT, Nat.reduceEqDiff, reduceCtorEq, Nat.reduceAdd, hn, hd, ha, hld, hr]
  have w1 := w.new o
  have j1 : J [] (h.new o) := hs _ _ _ h0 w1 (Nat.le_succ _) (fun C hC => by rw [AH.new_get, if_neg hC])
  refine AW.loopN 6 [3] (fun q a' h' => ∃ ix, IterAt vB h' h.next M l ix ∧ J (ix.map fun i => (l.getD i (0, false)).1) h' ∧ WFH h' ∧ ix.length + q = l.length) l.length ?_ ?_
  · exact ⟨[], it, j1, w1, by simp⟩
  rintro a1 q a' k hk kn kd kt ⟨ix, it, j, wk, hq⟩
  simp (disch := first | omega | decide) only [push_cast, ↓reduceIte, Nat.reduceLT, Nat.reduceEqDiff, reduceCtorEq, Nat.reduceAdd, kn, kd, kt, hn, hd, ha]
  refine it.next (fun hall => ?_) (fun i p o hp hni it' => ?_)
  · simp (disch := first | omega | decide) only [push_cast, ↓reduceIte, Nat.reduceLT, Nat.reduceEqDiff, reduceCtorEq, Nat.reduceAdd, kn, kd, kt, hn, hd, ha]
    obtain ⟨es, clk, _, _, e, hnd, hlt⟩ := it
    refine ⟨wk, _, ?_, j⟩
    have := (perm_all hnd hlt hall).map (fun i => (l.getD i (0, false)).1)
    have h2 : (List.range l.length).map (fun i => (l.getD i (0, false)).1) = l.map (·.1) := by
      have := congrArg (List.map (·.1)) (range_map l (0, false))
      rw [List.map_map] at this
      exact this
    rw [h2] at this
    exact this
  · have hI : ∃ oi, k.get h.next = some oi := by obtain ⟨es, clk, x, _⟩ := it; exact ⟨_, x⟩
    obtain ⟨oi, hI⟩ := hI
    have ws := wk.set (AH.get_lt wk hI) o
    have js := hs _ _ _ j ws (Nat.le_refl _) (fun C hC => by rw [AH.set_get, if_neg hC])
    have hil : i < l.length := (List.getElem?_eq_some_iff.1 hp).1
    have hnd' : (ix ++ [i]).length ≤ l.length := by
      obtain ⟨es, clk, _, _, e, hnd, hlt⟩ := it'
      exact nodup_le hnd hlt
    rw [List.length_append, List.length_cons, List.length_nil] at hnd'
    have hen := it'.entry hp
    generalize k.set h.next o = k2 at ws js it' hen ⊢
    simp (disch := first | omega | decide) only [push_cast, ↓reduceIte, Nat.reduceLT, Nat.reduceEqDiff, reduceCtorEq, Nat.reduceAdd, kn, kd, kt, hn, hd, ha, hen]
    refine callR.mono ?_ (hy _ p.1 k2 js ws (by rw [List.length_map]; omega))
    rintro _ k3 ⟨rfl, j3, w3, n3, g1⟩
    simp (disch := first | omega | decide) only [push_cast, ↓reduceIte, Nat.reduceLT, Nat.reduceEqDiff, reduceCtorEq, Nat.reduceAdd, kn, kd, kt, hn, hd, ha]
    refine ⟨q - 1, by omega, (by simp (disch := decide) only [Kp_put, put_none, hk]), ix ++ [i], keepS it' (fun o => g1 _ o (.inl rfl)) (fun o => g1 _ o (.inr rfl)), ?_, w3, by rw [List.length_append, List.length_cons, List.length_nil]; omega⟩
    rw [List.map_append]
    have : (l.getD i (0, false)).1 = p.1 := by rw [List.getD_eq_getElem?_getD, hp]; rfl
    simp only [List.map_cons, List.map_nil, this]
    exact j3

theorem keysA {α : Type} [Inhabited α] {vf : α → Value} {yv : Value} {B M : Nat} {h : AH} {l : List (Int × α)} {J : List Int → AH → Prop} (w : WFH h) (hB : CsAt h B [.map (some M)]) (m : MapL vf h M l) (h0 : J [] h)
    (hs : ∀ acc h1 h2, J acc h1 → WFH h2 → h1.next ≤ h2.next → (∀ C, C ≠ h.next → h2.get C = h1.get C) → J acc h2)
    (hy : ∀ acc k h1, J acc h1 → WFH h1 → acc.length < l.length → callR Try.prog yv [.int .i64 k] h1 (fun r h2 => r = .bool true ∧ J (acc ++ [k]) h2 ∧ WFH h2 ∧ h1.next ≤ h2.next ∧ ∀ C o, C = h.next ∨ C = M → h1.get C = some o → h2.get C = some o)) :
    ACall Try.prog 50 [yv, .pointer (some ⟨B, 0, none⟩)] h (fun _ h' => WFH h' ∧ ∃ ks, ks.Perm (l.map (·.1)) ∧ J ks h') := by
  refine ACall.of_wp 14 [] Try.func50 rfl (by kernel_rfl) rfl rfl fun a hn hd ha => ?_
  obtain ⟨o, hr, it⟩ := m.range w mtA
  have hld : aLoad Try.prog 56 (.pointer (some ⟨B, 0, none⟩)) h = some (.map (some M)) := hB.ld flMA 0 (by show 0 < 1; decide)
  simp (disch := first | omega | decide) only [push_cast, ↓reduceIte, Nat.reduceLT, Nat.reduceEqDiff, reduceCtorEq, Nat.reduceAdd, hn, hd, ha, hld, hr]
  have w1 := w.new o
  have j1 : J [] (h.new o) := hs _ _ _ h0 w1 (Nat.le_succ _) (fun C hC => by rw [AH.new_get, if_neg hC])
  refine AW.loopN 6 [3] (fun q a' h' => ∃ ix, IterAt vf h' h.next M l ix ∧ J (ix.map fun i => (l.getD i default).1) h' ∧ WFH h' ∧ ix.length + q = l.length) l.length ?_ ?_
  · exact ⟨[], it, j1, w1, by simp⟩
  rintro a1 q a' k hk kn kd kt ⟨ix, it, j, wk, hq⟩
  simp (disch := first | omega | decide) only [push_cast, ↓reduceIte, Nat.reduceLT, Nat.reduceEqDiff, reduceCtorEq, Nat.reduceAdd, kn, kd, kt, hn, hd, ha]
  refine it.next (fun hall => ?_) (fun i p o hp hni it' => ?_)
  · simp (disch := first | omega | decide) only [push_cast, ↓reduceIte, Nat.reduceLT, Nat.reduceEqDiff, reduceCtorEq, Nat.reduceAdd, kn, kd, kt, hn, hd, ha]
    obtain ⟨es, clk, _, _, e, hnd, hlt⟩ := it
    refine ⟨wk, _, ?_, j⟩
    have := (perm_all hnd hlt hall).map (fun i => (l.getD i default).1)
    have h2 : (List.range l.length).map (fun i => (l.getD i default).1) = l.map (·.1) := by
      have := congrArg (List.map (·.1)) (range_map l default)
      rw [List.map_map] at this
      exact this
    rw [h2] at this
    exact this
  · have hI : ∃ oi, k.get h.next = some oi := by obtain ⟨es, clk, x, _⟩ := it; exact ⟨_, x⟩
    obtain ⟨oi, hI⟩ := hI
    have ws := wk.set (AH.get_lt wk hI) o
    have js := hs _ _ _ j ws (Nat.le_refl _) (fun C hC => by rw [AH.set_get, if_neg hC])
    have hil : i < l.length := (List.getElem?_eq_some_iff.1 hp).1
    have hnd' : (ix ++ [i]).length ≤ l.length := by
      obtain ⟨es, clk, _, _, e, hnd, hlt⟩ := it'
      exact nodup_le hnd hlt
    rw [List.length_append, List.length_cons, List.length_nil] at hnd'
    have hen := it'.entry hp
    generalize k.set h.next o = k2 at ws js it' hen ⊢
    simp (disch := first | omega | decide) only [push_cast, ↓reduceIte, Nat.reduceLT, Nat.reduceEqDiff, reduceCtorEq, Nat.reduceAdd, kn, kd, kt, hn, hd, ha, hen]
    refine callR.mono ?_ (hy _ p.1 k2 js ws (by rw [List.length_map]; omega))
    rintro _ k3 ⟨rfl, j3, w3, n3, g1⟩
    simp (disch := first | omega | decide) only [push_cast, ↓reduceIte, Nat.reduceLT, Nat.reduceEqDiff, reduceCtorEq, Nat.reduceAdd, kn, kd, kt, hn, hd, ha]
    refine ⟨q - 1, by omega, (by simp (disch := decide) only [Kp_put, put_none, hk]), ix ++ [i], keepS it' (fun o => g1 _ o (.inl rfl)) (fun o => g1 _ o (.inr rfl)), ?_, w3, by rw [List.length_append, List.length_cons, List.length_nil]; omega⟩
    rw [List.map_append]
    have : (l.getD i default).1 = p.1 := by rw [List.getD_eq_getElem?_getD, hp]; rfl
    simp only [List.map_cons, List.map_nil, this]
    exact j3

theorem wpA_rangeFuncQ {P : Program} {rd : Option Nat} {g : Operand} {ps : Array Tmp} {x y : Code} {Q : Exit → AAct → AH → Prop} {a : AAct} {h : AH} : wpA P rd (.rangeFunc g ps x y) Q a h = AW P rd (.rangeFunc g ps x y) Q a h := rfl
attribute [local push_cast] wpA_rangeFuncQ

theorem rangeN {P : Program} {g : Operand} {ps : Array Tmp} {assign body : Code} {Q : Exit → AAct → AH → Prop} {a : AAct} {h : AH} {gf : FuncId} {first cap : Array Value} (hc : cOK g = true) (hev : a.ev g = .func (.func gf) first cap)
    (hk : ∀ l0 : ALoop, l0.state = .ready → l0.pending = none → l0.n = a.n → l0.tm = a.tm → l0.params = ps → l0.assign = assign → l0.body = body →
      ACall P gf (first.toList ++ [.func (.yield (h.next + 1)) #[] #[]] ++ cap.toList) ((h.new (.dfr true)).new (.loop l0)) (rangeQ P none (h.next + 1) { a with df := h.next :: a.df } Q)) : AW P none (.rangeFunc g ps assign body) Q a h :=
  AW.rangeFunc ⟨gf, first, cap, hc, hev, hk _ rfl rfl rfl rfl rfl rfl rfl⟩

/-- A closure that walks over a map's keys. -/
def Walks (g : FuncId) (B M : Nat) (ks0 : List Int) (b : AH) : Prop := ∀ (yv : Value) (h : AH) (J : List Int → AH → Prop), WFH h → Sub b h → J [] h →
    (∀ acc h1 h2, J acc h1 → WFH h2 → h1.next ≤ h2.next → (∀ C, C ≠ h.next → h2.get C = h1.get C) → J acc h2) →
    (∀ acc k h1, J acc h1 → WFH h1 → acc.length < ks0.length → callR Try.prog yv [.int .i64 k] h1 (fun r h2 => r = .bool true ∧ J (acc ++ [k]) h2 ∧ WFH h2 ∧ h1.next ≤ h2.next ∧ ∀ C o, C = h.next ∨ C = M → h1.get C = some o → h2.get C = some o)) →
    ACall Try.prog g [yv, .pointer (some ⟨B, 0, none⟩)] h (fun _ h' => WFH h' ∧ ∃ ks, ks.Perm ks0 ∧ J ks h')

theorem walksD {b : AH} {B M : Nat} {l : List (Int × Int)} (hB : CsAt b B [.map (some M)]) (m : MapL vI b M l) : Walks 47 B M (l.map (·.1)) b :=
  fun yv h J w s h0 hs hy => keysD w (hB.sub s) (m.sub s) h0 hs (fun acc k h1 j w hl => hy acc k h1 j w (by rw [List.length_map]; exact hl))
theorem walksB {b : AH} {B M : Nat} {l : List (Int × Bool)} (hB : CsAt b B [.map (some M)]) (m : MapL vB b M l) : Walks 48 B M (l.map (·.1)) b :=
  fun yv h J w s h0 hs hy => keysB w (hB.sub s) (m.sub s) h0 hs (fun acc k h1 j w hl => hy acc k h1 j w (by rw [List.length_map]; exact hl))
theorem walksA {α : Type} [Inhabited α] {vf : α → Value} {b : AH} {B M : Nat} {l : List (Int × α)} (hB : CsAt b B [.map (some M)]) (m : MapL vf b M l) : Walks 50 B M (l.map (·.1)) b :=
  fun yv h J w s h0 hs hy => keysA w (hB.sub s) (m.sub s) h0 hs (fun acc k h1 j w hl => hy acc k h1 j w (by rw [List.length_map]; exact hl))

theorem smI : SlM Try.prog 47 3 1 8 := ⟨Try.underlying47, ⟨(Try.prog.info? 3).get (by kernel_rfl), .int .i64 0, by kernel_rfl, by kernel_rfl, by kernel_rfl, by kernel_rfl, rfl, rfl, rfl⟩, by decide⟩
theorem smL : SlM Try.prog 26 2 1 8 := ⟨Try.underlying26, ⟨(Try.prog.info? 2).get (by kernel_rfl), .int .i64 0, by kernel_rfl, by kernel_rfl, by kernel_rfl, by kernel_rfl, rfl, rfl, rfl⟩, by decide⟩
theorem flSI : Fl Try.prog 47 := ⟨_, Try.underlying47, rfl⟩
theorem flSL : Fl Try.prog 26 := ⟨_, Try.underlying26, rfl⟩
theorem szSI : ∃ i, Try.prog.info? 47 = some i ∧ i.size = 1 := ⟨(Try.prog.info? 47).get (by kernel_rfl), by kernel_rfl, by kernel_rfl⟩
theorem szSL : ∃ i, Try.prog.info? 26 = some i ∧ i.size = 1 := ⟨(Try.prog.info? 26).get (by kernel_rfl), by kernel_rfl, by kernel_rfl⟩

/-- What stands between AppendSeq's rounds. -/
structure SeqJ (b : AH) (l0 : ALoop) (t e : TypeId) (acc : List Int) (h : AH) : Prop where
  wf : WFH h
  sub : Sub b h
  nx : b.next + 2 < h.next
  lp : h.get (b.next + 2) = some (.loop l0)
  df : h.get (b.next + 1) = some (.dfr true)
  bx : ∃ rv ob A, h.get b.next = some (.row [rv] t true) ∧ VecM 1 e rv ob A acc.length (acc.map (.int .i64)) ∧ (∀ o, ob = some o → h.get A = some o ∧ b.next + 3 < A)

theorem SeqJ.keep {b : AH} {l0 : ALoop} {t e : TypeId} {acc : List Int} {h h' : AH} (wb : WFH b) (j : SeqJ b l0 t e acc h) (w : WFH h') (n : h.next ≤ h'.next) (k : ∀ C, C ≠ b.next + 3 → h'.get C = h.get C) : SeqJ b l0 t e acc h' := by
  obtain ⟨rv, ob, A, h1, h2, h3⟩ := j.bx
  exact ⟨w, fun C o hC => by have := AH.get_lt wb hC; rw [k C (by omega)]; exact j.sub C o hC, Nat.lt_of_lt_of_le j.nx n, by rw [k _ (by omega)]; exact j.lp, by rw [k _ (by omega)]; exact j.df, rv, ob, A, by rw [k _ (by omega)]; exact h1, h2, fun o ho => ⟨by rw [k _ (by have := (h3 o ho).2; omega)]; exact (h3 o ho).1, (h3 o ho).2⟩⟩

theorem appendSeqI {g : FuncId} {B M : Nat} {ks0 : List Int} {b : AH} (W : Walks g B M ks0 b) (hM : ∃ o, b.get M = some o) (hl : ks0.length ≤ 4294967296) :
    ACall Try.prog 51 [.slice none 0 0, .func (.func g) #[] #[.pointer (some ⟨B, 0, none⟩)]] b (fun r h' => Gr b h' ∧ ∃ (ks : List Int) (ob : Option AObj) (A : Nat), ks.Perm ks0 ∧ VecM 1 3 r ob A ks.length (ks.map (.int .i64)) ∧ (∀ o, ob = some o → h'.get A = some o ∧ b.next ≤ A)) := by
  refine ACall.wf ⟨_, Try.func51, rfl, by kernel_rfl⟩ fun wb => ?_
  refine ACall.of_wp 13 [.tmp 4] Try.func51 rfl (by kernel_rfl) rfl rfl fun a hn hd ha => ?_
  have hbox : aBox 47 (.slice none 0 0) b = some (.pointer (some ⟨b.next, 0, none⟩), b.new (.row [.slice none 0 0] 47 true)) := rfl
  have g1 := (Gr.refl wb).new (.row [.slice none 0 0] 47 true)
  have hX : (b.new (.row [.slice none 0 0] 47 true)).get b.next = some (.row [.slice none 0 0] 47 true) := by rw [AH.new_get, if_pos rfl]
  have n1 : (b.new (.row [.slice none 0 0] 47 true)).next = b.next + 1 := rfl
  simp (disch := first | omega | decide) only [push_cast, ↓reduceIte, Nat.reduceLT, Nat.reduceEqDiff, reduceCtorEq, Nat.reduceAdd, hn, hd, ha, hbox]
  generalize b.new (.row [.slice none 0 0] 47 true) = k1 at g1 hX n1 ⊢
  refine rangeN (gf := g) (first := #[]) (cap := #[.pointer (some ⟨B, 0, none⟩)]) rfl (by simp (disch := first | omega | decide) only [push_cast, ↓reduceIte, Nat.reduceLT, Nat.reduceEqDiff, reduceCtorEq, Nat.reduceAdd]) ?_
  intro l0 q1 q2 q3 q4 q5 q6 q7
  have g2 := (g1.new (.dfr true)).new (.loop l0)
  have nL : k1.next + 1 = b.next + 2 := by omega
  have j0 : SeqJ b l0 47 3 [] ((k1.new (.dfr true)).new (.loop l0)) := ⟨g2.wf, g2.sub, by simp; omega, by rw [AH.new_get, if_pos (by simp; omega)], by rw [AH.new_get, if_neg (by simp; omega), AH.new_get, if_pos (by omega)],
    _, none, 0, by rw [AH.new_get, if_neg (by simp; omega), AH.new_get, if_neg (by omega)]; exact hX, ⟨rfl, .inl ⟨rfl, rfl, rfl⟩⟩, fun o ho => (nomatch ho)⟩
  have n2 : ((k1.new (.dfr true)).new (.loop l0)).next = b.next + 3 := by simp; omega
  rw [nL]
  refine ACall.mono ?_ (W (.func (.yield (b.next + 2)) #[] #[]) ((k1.new (.dfr true)).new (.loop l0)) (SeqJ b l0 47 3) g2.wf g2.sub j0 (fun acc h1 h2 j w n k => j.keep wb w n (by rw [n2] at k; exact k)) ?_)
  · rintro r h' ⟨wf, ks, hp, j⟩
    obtain ⟨rv, ob, A, h1, h2, h3'⟩ := j.bx
    refine ⟨l0, j.lp, by rw [q1]; decide, ?_⟩
    have hld : aLoad Try.prog 47 (.pointer (some ⟨b.next, 0, none⟩)) (h'.set (b.next + 2) (.loop { l0 with state := .exhausted })) = some rv := ldL (P := Try.prog) (A := b.next) (o := .row [rv] 47 true) (by rw [AH.set_get, if_neg (by omega)]; exact h1) rfl flSI 0 (by show 0 < 1; decide)
    have w2 := wf.set (A := b.next + 2) j.nx (.loop { l0 with state := .exhausted })
    have hdf : (h'.set (b.next + 2) (.loop { l0 with state := .exhausted })).get k1.next = some (.dfr true) := by rw [AH.set_get, if_neg (by omega), n1]; exact j.df
    have k3 : ∀ C, C ≠ b.next + 2 → (h'.set (b.next + 2) (.loop { l0 with state := .exhausted })).get C = h'.get C := fun C hC => by rw [AH.set_get, if_neg hC]
    have n3 : (h'.set (b.next + 2) (.loop { l0 with state := .exhausted })).next = h'.next := rfl
    have nx := j.nx
    generalize h'.set (b.next + 2) (.loop { l0 with state := .exhausted }) = h3 at hld w2 hdf k3 n3 ⊢
    rw [q2]
    have hec : closeMarks [k1.next] h3 = some (h3.set k1.next (.dfr false)) := by simp [closeMarks, hdf]
    simp (disch := first | omega | decide) only [push_cast, ↓reduceIte, Nat.reduceLT, Nat.reduceEqDiff, reduceCtorEq, Nat.reduceAdd, hn, hd, ha, hld, hec]
    refine ⟨⟨w2.set (by omega) _, fun C o hC => ?_, by simp only [AH.set_next]; omega⟩, ks, ob, A, hp, h2, fun o ho => ⟨?_, by have := (h3' o ho).2; omega⟩⟩
    · have := AH.get_lt wb hC
      rw [AH.set_get, if_neg (by omega), k3 _ (by omega)]; exact j.sub C o hC
    · have := (h3' o ho).2
      rw [AH.set_get, if_neg (by omega), k3 _ (by omega)]; exact (h3' o ho).1
  · intro acc k h1 j w1 hacc
    rw [n2]
    refine ⟨l0, j.lp, by rw [q5]; rfl, by rw [q5, q3]; simp [put_n, hn], ?_⟩
    have t7 : (l0.act [.int .i64 k]).tm 7 = .int .i64 k := by simp [ALoop.act, q5]
    have t2 : (l0.act [.int .i64 k]).tm 2 = l0.tm 2 := by simp [ALoop.act, q5]
    rw [q4] at t2
    simp (disch := first | omega | decide) only [push_cast, ↓reduceIte, Nat.reduceLT, Nat.reduceEqDiff, reduceCtorEq, Nat.reduceAdd] at t2
    have hna : (l0.act [.int .i64 k]).n = 13 := by simp [ALoop.act, q3, put_n, hn]
    have hda : (l0.act [.int .i64 k]).df = [] := rfl
    show AW _ _ _ _ (l0.act [.int .i64 k]) h1
    generalize l0.act [.int .i64 k] = a9 at t7 t2 hna hda ⊢
    rw [q6]
    refine wpA_sound _ _ _ _ ?_
    simp (disch := first | omega | decide) only [push_cast, ↓reduceIte, Nat.reduceLT, Nat.reduceEqDiff, reduceCtorEq, Nat.reduceAdd, hna, hda, t7, t2]
    refine ⟨l0, j.lp, q1, ?_⟩
    obtain ⟨rv, ob, A, b1, b2, b3⟩ := j.bx
    have nx := j.nx
    have w10 := w1.set j.nx (.loop { l0 with state := .busy })
    have g10 : (h1.set (b.next + 2) (.loop { l0 with state := .busy })).get (b.next + 2) = some (.loop { l0 with state := .busy }) := by rw [AH.set_get, if_pos rfl]
    have k10 : ∀ C, C ≠ b.next + 2 → (h1.set (b.next + 2) (.loop { l0 with state := .busy })).get C = h1.get C := fun C hC => by rw [AH.set_get, if_neg hC]
    have n10 : (h1.set (b.next + 2) (.loop { l0 with state := .busy })).next = h1.next := rfl
    generalize h1.set (b.next + 2) (.loop { l0 with state := .busy }) = h10 at w10 g10 k10 n10 ⊢
    have hX10 : h10.get b.next = some (.row [rv] 47 true) := by rw [k10 _ (by omega)]; exact b1
    have hld : aLoad Try.prog 47 (.pointer (some ⟨b.next, 0, none⟩)) h10 = some rv := ldL (P := Try.prog) hX10 rfl flSI 0 (by show 0 < 1; decide)
    have hbld := aBuild1 tI h10 (x := .int .i64 k) rfl rfl
    have gD := (Gr.refl w10).new (.row [.int .i64 k] 3 true)
    have hsrc := srcNew (h := h10) (xs := [.int .i64 k]) (e := 3) (sz := 1) rfl
    obtain ⟨r', h12, happ, ⟨A2, o2, hV2, hA2, hlo2⟩, frx, w12, n12⟩ := appendM (t := 47) (t2 := 47) smI ⟨_, Try.underlying47⟩ gD.wf b2 (fun o ho => gD.sub _ _ (by rw [k10 _ (by have := (b3 o ho).2; omega)]; exact (b3 o ho).1)) hsrc (by decide) rfl (by omega) (by omega)
    rw [q7]
    refine wpA_sound _ _ _ _ ?_
    have hfr : ∀ C o, h10.get C = some o → C ≤ b.next + 3 → h12.get C = some o := fun C o hC hle => frx _ _ (gD.sub _ _ hC) (fun hx => by
      cases hob : ob with
      | none => rfl
      | some o => have := (b3 o hob).2; omega)
    have hX12 := hfr _ _ hX10 (by omega)
    have hst := stC szSI hX12 0 r' (by show 0 < 1; decide) hV2.one.2 hV2.one.1
    simp (disch := first | omega | decide) only [push_cast, ↓reduceIte, Nat.reduceLT, Nat.reduceEqDiff, reduceCtorEq, Nat.reduceAdd, hna, hda, t7, t2, hld, hbld, happ, hst]
    have hb2 : ({ ({ l0 with state := .busy } : ALoop) with state := .ready, pending := none } : ALoop) = l0 := by
      cases l0; simp only at q1 q2; subst q1; subst q2; rfl
    have hL12 := hfr _ _ g10 (by omega)
    have hn12 : h1.next + 1 ≤ A2 := by simpa [n10] using hlo2
    have hnn : h1.next + 1 ≤ h12.next := by simpa [n10] using n12
    refine ⟨_, by rw [AH.set_get, if_neg (by omega)]; exact hL12, ?_⟩
    rw [hb2]
    have hk : ∀ C o, h1.get C = some o → C ≤ b.next + 3 → C ≠ b.next → C ≠ b.next + 2 → ((h12.set b.next (.row ([rv].set 0 r') 47 true)).set (b.next + 2) (.loop l0)).get C = some o := fun C o hC h1 h2 h3 => by
      rw [AH.set_get, if_neg h3, AH.set_get, if_neg h2]
      exact hfr _ _ (by rw [k10 _ h3]; exact hC) h1
    have wE : WFH ((h12.set b.next (.row ([rv].set 0 r') 47 true)).set (b.next + 2) (.loop l0)) := (w12.set (by omega) _).set (by show b.next + 2 < h12.next; omega) _
    refine ⟨rfl, ⟨wE, fun C o hC => by have := AH.get_lt wb hC; exact hk C o (j.sub C o hC) (by omega) (by omega) (by omega), by simp only [AH.set_next]; omega, by rw [AH.set_get, if_pos rfl], hk _ _ j.df (by omega) (by omega) (by omega), r', some o2, A2, by rw [AH.set_get, if_neg (by omega), AH.set_get, if_pos rfl]; rfl, ?_, fun o ho => by
      cases ho
      exact ⟨by rw [AH.set_get, if_neg (by omega), AH.set_get, if_neg (by omega)]; exact hA2, by omega⟩⟩, wE, by simp only [AH.set_next]; omega, fun C o hC hg => ?_⟩
    · rw [List.map_append, List.length_append]; exact hV2
    · rcases hC with rfl | rfl
      · exact hk _ o hg (by omega) (by omega) (by omega)
      · obtain ⟨o, hM⟩ := hM
        have := AH.get_lt wb hM
        exact hk _ _ hg (by omega) (by omega) (by omega)

theorem appendSeqL {g : FuncId} {B M : Nat} {ks0 : List Int} {b : AH} (W : Walks g B M ks0 b) (hM : ∃ o, b.get M = some o) (hl : ks0.length ≤ 4294967296) :
    ACall Try.prog 49 [.slice none 0 0, .func (.func g) #[] #[.pointer (some ⟨B, 0, none⟩)]] b (fun r h' => Gr b h' ∧ ∃ (ks : List Int) (ob : Option AObj) (A : Nat), ks.Perm ks0 ∧ VecM 1 2 r ob A ks.length (ks.map (.int .i64)) ∧ (∀ o, ob = some o → h'.get A = some o ∧ b.next ≤ A)) := by
  refine ACall.wf ⟨_, Try.func49, rfl, by kernel_rfl⟩ fun wb => ?_
  refine ACall.of_wp 13 [.tmp 4] Try.func49 rfl (by kernel_rfl) rfl rfl fun a hn hd ha => ?_
  have hbox : aBox 26 (.slice none 0 0) b = some (.pointer (some ⟨b.next, 0, none⟩), b.new (.row [.slice none 0 0] 26 true)) := rfl
  have g1 := (Gr.refl wb).new (.row [.slice none 0 0] 26 true)
  have hX : (b.new (.row [.slice none 0 0] 26 true)).get b.next = some (.row [.slice none 0 0] 26 true) := by rw [AH.new_get, if_pos rfl]
  have n1 : (b.new (.row [.slice none 0 0] 26 true)).next = b.next + 1 := rfl
  simp (disch := first | omega | decide) only [push_cast, ↓reduceIte, Nat.reduceLT, Nat.reduceEqDiff, reduceCtorEq, Nat.reduceAdd, hn, hd, ha, hbox]
  generalize b.new (.row [.slice none 0 0] 26 true) = k1 at g1 hX n1 ⊢
  refine rangeN (gf := g) (first := #[]) (cap := #[.pointer (some ⟨B, 0, none⟩)]) rfl (by simp (disch := first | omega | decide) only [push_cast, ↓reduceIte, Nat.reduceLT, Nat.reduceEqDiff, reduceCtorEq, Nat.reduceAdd]) ?_
  intro l0 q1 q2 q3 q4 q5 q6 q7
  have g2 := (g1.new (.dfr true)).new (.loop l0)
  have nL : k1.next + 1 = b.next + 2 := by omega
  have j0 : SeqJ b l0 26 2 [] ((k1.new (.dfr true)).new (.loop l0)) := ⟨g2.wf, g2.sub, by simp; omega, by rw [AH.new_get, if_pos (by simp; omega)], by rw [AH.new_get, if_neg (by simp; omega), AH.new_get, if_pos (by omega)],
    _, none, 0, by rw [AH.new_get, if_neg (by simp; omega), AH.new_get, if_neg (by omega)]; exact hX, ⟨rfl, .inl ⟨rfl, rfl, rfl⟩⟩, fun o ho => (nomatch ho)⟩
  have n2 : ((k1.new (.dfr true)).new (.loop l0)).next = b.next + 3 := by simp; omega
  rw [nL]
  refine ACall.mono ?_ (W (.func (.yield (b.next + 2)) #[] #[]) ((k1.new (.dfr true)).new (.loop l0)) (SeqJ b l0 26 2) g2.wf g2.sub j0 (fun acc h1 h2 j w n k => j.keep wb w n (by rw [n2] at k; exact k)) ?_)
  · rintro r h' ⟨wf, ks, hp, j⟩
    obtain ⟨rv, ob, A, h1, h2, h3'⟩ := j.bx
    refine ⟨l0, j.lp, by rw [q1]; decide, ?_⟩
    have hld : aLoad Try.prog 26 (.pointer (some ⟨b.next, 0, none⟩)) (h'.set (b.next + 2) (.loop { l0 with state := .exhausted })) = some rv := ldL (P := Try.prog) (A := b.next) (o := .row [rv] 26 true) (by rw [AH.set_get, if_neg (by omega)]; exact h1) rfl flSL 0 (by show 0 < 1; decide)
    have w2 := wf.set (A := b.next + 2) j.nx (.loop { l0 with state := .exhausted })
    have hdf : (h'.set (b.next + 2) (.loop { l0 with state := .exhausted })).get k1.next = some (.dfr true) := by rw [AH.set_get, if_neg (by omega), n1]; exact j.df
    have k3 : ∀ C, C ≠ b.next + 2 → (h'.set (b.next + 2) (.loop { l0 with state := .exhausted })).get C = h'.get C := fun C hC => by rw [AH.set_get, if_neg hC]
    have n3 : (h'.set (b.next + 2) (.loop { l0 with state := .exhausted })).next = h'.next := rfl
    have nx := j.nx
    generalize h'.set (b.next + 2) (.loop { l0 with state := .exhausted }) = h3 at hld w2 hdf k3 n3 ⊢
    rw [q2]
    have hec : closeMarks [k1.next] h3 = some (h3.set k1.next (.dfr false)) := by simp [closeMarks, hdf]
    simp (disch := first | omega | decide) only [push_cast, ↓reduceIte, Nat.reduceLT, Nat.reduceEqDiff, reduceCtorEq, Nat.reduceAdd, hn, hd, ha, hld, hec]
    refine ⟨⟨w2.set (by omega) _, fun C o hC => ?_, by simp only [AH.set_next]; omega⟩, ks, ob, A, hp, h2, fun o ho => ⟨?_, by have := (h3' o ho).2; omega⟩⟩
    · have := AH.get_lt wb hC
      rw [AH.set_get, if_neg (by omega), k3 _ (by omega)]; exact j.sub C o hC
    · have := (h3' o ho).2
      rw [AH.set_get, if_neg (by omega), k3 _ (by omega)]; exact (h3' o ho).1
  · intro acc k h1 j w1 hacc
    rw [n2]
    refine ⟨l0, j.lp, by rw [q5]; rfl, by rw [q5, q3]; simp [put_n, hn], ?_⟩
    have t7 : (l0.act [.int .i64 k]).tm 7 = .int .i64 k := by simp [ALoop.act, q5]
    have t2 : (l0.act [.int .i64 k]).tm 2 = l0.tm 2 := by simp [ALoop.act, q5]
    rw [q4] at t2
    simp (disch := first | omega | decide) only [push_cast, ↓reduceIte, Nat.reduceLT, Nat.reduceEqDiff, reduceCtorEq, Nat.reduceAdd] at t2
    have hna : (l0.act [.int .i64 k]).n = 13 := by simp [ALoop.act, q3, put_n, hn]
    have hda : (l0.act [.int .i64 k]).df = [] := rfl
    show AW _ _ _ _ (l0.act [.int .i64 k]) h1
    generalize l0.act [.int .i64 k] = a9 at t7 t2 hna hda ⊢
    rw [q6]
    refine wpA_sound _ _ _ _ ?_
    simp (disch := first | omega | decide) only [push_cast, ↓reduceIte, Nat.reduceLT, Nat.reduceEqDiff, reduceCtorEq, Nat.reduceAdd, hna, hda, t7, t2]
    refine ⟨l0, j.lp, q1, ?_⟩
    obtain ⟨rv, ob, A, b1, b2, b3⟩ := j.bx
    have nx := j.nx
    have w10 := w1.set j.nx (.loop { l0 with state := .busy })
    have g10 : (h1.set (b.next + 2) (.loop { l0 with state := .busy })).get (b.next + 2) = some (.loop { l0 with state := .busy }) := by rw [AH.set_get, if_pos rfl]
    have k10 : ∀ C, C ≠ b.next + 2 → (h1.set (b.next + 2) (.loop { l0 with state := .busy })).get C = h1.get C := fun C hC => by rw [AH.set_get, if_neg hC]
    have n10 : (h1.set (b.next + 2) (.loop { l0 with state := .busy })).next = h1.next := rfl
    generalize h1.set (b.next + 2) (.loop { l0 with state := .busy }) = h10 at w10 g10 k10 n10 ⊢
    have hX10 : h10.get b.next = some (.row [rv] 26 true) := by rw [k10 _ (by omega)]; exact b1
    have hld : aLoad Try.prog 26 (.pointer (some ⟨b.next, 0, none⟩)) h10 = some rv := ldL (P := Try.prog) hX10 rfl flSL 0 (by show 0 < 1; decide)
    have hbld := aBuild1 tL h10 (x := .int .i64 k) rfl rfl
    have gD := (Gr.refl w10).new (.row [.int .i64 k] 2 true)
    have hsrc := srcNew (h := h10) (xs := [.int .i64 k]) (e := 2) (sz := 1) rfl
    obtain ⟨r', h12, happ, ⟨A2, o2, hV2, hA2, hlo2⟩, frx, w12, n12⟩ := appendM (t := 26) (t2 := 26) smL ⟨_, Try.underlying26⟩ gD.wf b2 (fun o ho => gD.sub _ _ (by rw [k10 _ (by have := (b3 o ho).2; omega)]; exact (b3 o ho).1)) hsrc (by decide) rfl (by omega) (by omega)
    rw [q7]
    refine wpA_sound _ _ _ _ ?_
    have hfr : ∀ C o, h10.get C = some o → C ≤ b.next + 3 → h12.get C = some o := fun C o hC hle => frx _ _ (gD.sub _ _ hC) (fun hx => by
      cases hob : ob with
      | none => rfl
      | some o => have := (b3 o hob).2; omega)
    have hX12 := hfr _ _ hX10 (by omega)
    have hst := stC szSL hX12 0 r' (by show 0 < 1; decide) hV2.one.2 hV2.one.1
    simp (disch := first | omega | decide) only [push_cast, ↓reduceIte, Nat.reduceLT, Nat.reduceEqDiff, reduceCtorEq, Nat.reduceAdd, hna, hda, t7, t2, hld, hbld, happ, hst]
    have hb2 : ({ ({ l0 with state := .busy } : ALoop) with state := .ready, pending := none } : ALoop) = l0 := by
      cases l0; simp only at q1 q2; subst q1; subst q2; rfl
    have hL12 := hfr _ _ g10 (by omega)
    have hn12 : h1.next + 1 ≤ A2 := by simpa [n10] using hlo2
    have hnn : h1.next + 1 ≤ h12.next := by simpa [n10] using n12
    refine ⟨_, by rw [AH.set_get, if_neg (by omega)]; exact hL12, ?_⟩
    rw [hb2]
    have hk : ∀ C o, h1.get C = some o → C ≤ b.next + 3 → C ≠ b.next → C ≠ b.next + 2 → ((h12.set b.next (.row ([rv].set 0 r') 26 true)).set (b.next + 2) (.loop l0)).get C = some o := fun C o hC h1 h2 h3 => by
      rw [AH.set_get, if_neg h3, AH.set_get, if_neg h2]
      exact hfr _ _ (by rw [k10 _ h3]; exact hC) h1
    have wE : WFH ((h12.set b.next (.row ([rv].set 0 r') 26 true)).set (b.next + 2) (.loop l0)) := (w12.set (by omega) _).set (by show b.next + 2 < h12.next; omega) _
    refine ⟨rfl, ⟨wE, fun C o hC => by have := AH.get_lt wb hC; exact hk C o (j.sub C o hC) (by omega) (by omega) (by omega), by simp only [AH.set_next]; omega, by rw [AH.set_get, if_pos rfl], hk _ _ j.df (by omega) (by omega) (by omega), r', some o2, A2, by rw [AH.set_get, if_neg (by omega), AH.set_get, if_pos rfl]; rfl, ?_, fun o ho => by
      cases ho
      exact ⟨by rw [AH.set_get, if_neg (by omega), AH.set_get, if_neg (by omega)]; exact hA2, by omega⟩⟩, wE, by simp only [AH.set_next]; omega, fun C o hC hg => ?_⟩
    · rw [List.map_append, List.length_append]; exact hV2
    · rcases hC with rfl | rfl
      · exact hk _ o hg (by omega) (by omega) (by omega)
      · obtain ⟨o, hM⟩ := hM
        have := AH.get_lt wb hM
        exact hk _ _ hg (by omega) (by omega) (by omega)

end Go.Ab.Q

namespace Go.Proofs
open Go.Shelf
def Try.sortA_ren : Go.Shelf.Ren := ⟨fun | 5 => 46 | 8 => 53 | 7 => 52 | 19 => 63 | 20 => 64 | 10 => 54 | 11 => 55 | 12 => 56 | 13 => 57 | 14 => 58 | 15 => 59 | 16 => 60 | 17 => 61 | 18 => 62 | 30 => 65 | 31 => 66 | 32 => 67 | 33 => 68 | 34 => 69 | 35 => 70 | 40 => 71 | n => n, fun | 23 => 47 | 25 => 3 | 3 => 3 | 32 => 99 | 22 => 47 | 0 => 0 | 44 => 48 | 46 => 110 | 4 => 4 | 36 => 102 | 35 => 101 | 41 => 80 | 5 => 5 | 9 => 9 | 53 => 111 | 57 => 115 | 63 => 117 | 64 => 118 | n => n, fun | n => n⟩
theorem Try.sortA : Go.Proofs.SlLaysM.n5 Try.prog Try.sortA_ren := {
  mixed := by kernel_rfl
  f5 := ⟨Try.f46.name, by decide, Try.func46.trans (congrArg some (by kernel_rfl))⟩
  f7 := ⟨Try.f52.name, by decide, Try.func52.trans (congrArg some (by kernel_rfl))⟩
  f8 := Try.func53.trans (congrArg some (by kernel_rfl))
  f10 := ⟨Try.f54.name, by decide, Try.func54.trans (congrArg some (by kernel_rfl))⟩
  f11 := ⟨Try.f55.name, by decide, Try.func55.trans (congrArg some (by kernel_rfl))⟩
  f12 := ⟨Try.f56.name, by decide, Try.func56.trans (congrArg some (by kernel_rfl))⟩
  f13 := ⟨Try.f57.name, by decide, Try.func57.trans (congrArg some (by kernel_rfl))⟩
  f14 := ⟨Try.f58.name, by decide, Try.func58.trans (congrArg some (by kernel_rfl))⟩
  f15 := ⟨Try.f59.name, by decide, Try.func59.trans (congrArg some (by kernel_rfl))⟩
  f16 := ⟨Try.f60.name, by decide, Try.func60.trans (congrArg some (by kernel_rfl))⟩
  f17 := ⟨Try.f61.name, by decide, Try.func61.trans (congrArg some (by kernel_rfl))⟩
  f18 := ⟨Try.f62.name, by decide, Try.func62.trans (congrArg some (by kernel_rfl))⟩
  f19 := Try.func63.trans (congrArg some (by kernel_rfl))
  f20 := Try.func64.trans (congrArg some (by kernel_rfl))
  f30 := ⟨Try.f65.name, by decide, Try.func65.trans (congrArg some (by kernel_rfl))⟩
  f31 := Try.func66.trans (congrArg some (by kernel_rfl))
  f32 := Try.func67.trans (congrArg some (by kernel_rfl))
  f33 := ⟨Try.f68.name, by decide, Try.func68.trans (congrArg some (by kernel_rfl))⟩
  f34 := ⟨Try.f69.name, by decide, Try.func69.trans (congrArg some (by kernel_rfl))⟩
  f35 := ⟨Try.f70.name, by decide, Try.func70.trans (congrArg some (by kernel_rfl))⟩
  f40 := ⟨Try.f71.name, by decide, Try.func71.trans (congrArg some (by kernel_rfl))⟩
  t0 := Try.underlying0
  a0 := Try.isAgg0
  z0 := Try.sizeOf0
  v0 := Try.zeroValue0
  t3 := Try.underlying3
  a3 := Try.isAgg3
  z3 := Try.sizeOf3
  v3 := Try.zeroValue3
  t4 := Try.underlying4
  a4 := Try.isAgg4
  z4 := Try.sizeOf4
  v4 := Try.zeroValue4
  t5 := Try.underlying5
  a5 := Try.isAgg5
  z5 := Try.sizeOf5
  v5 := Try.zeroValue5
  t9 := Try.underlying9
  a9 := Try.isAgg9
  z9 := Try.sizeOf9
  v9 := Try.zeroValue9
  t22 := Try.underlying47
  a22 := Try.isAgg47
  z22 := Try.sizeOf47
  v22 := Try.zeroValue47
  t23 := Try.underlying47
  a23 := Try.isAgg47
  z23 := Try.sizeOf47
  v23 := Try.zeroValue47
  t25 := Try.underlying3
  a25 := Try.isAgg3
  z25 := Try.sizeOf3
  v25 := Try.zeroValue3
  t32 := Try.underlying99
  a32 := Try.isAgg99
  z32 := Try.sizeOf99
  v32 := Try.zeroValue99
  t35 := Try.underlying101
  a35 := Try.isAgg101
  z35 := Try.sizeOf101
  v35 := Try.zeroValue101
  t36 := Try.underlying102
  a36 := Try.isAgg102
  z36 := Try.sizeOf102
  v36 := Try.zeroValue102
  t41 := Try.underlying80
  a41 := Try.isAgg80
  z41 := Try.sizeOf80
  v41 := Try.zeroValue80
  t44 := Try.underlying48
  a44 := Try.isAgg48
  z44 := Try.sizeOf48
  v44 := Try.zeroValue48
  t46 := Try.underlying110
  a46 := Try.isAgg110
  z46 := Try.sizeOf110
  v46 := Try.zeroValue110
  t53 := Try.underlying111
  a53 := Try.isAgg111
  z53 := Try.sizeOf111
  v53 := Try.zeroValue111
  t57 := Try.underlying115
  a57 := Try.isAgg115
  z57 := Try.sizeOf115
  v57 := Try.zeroValue115
  t63 := Try.underlying117
  a63 := Try.isAgg117
  z63 := Try.sizeOf117
  v63 := Try.zeroValue117
  t64 := Try.underlying118
  a64 := Try.isAgg118
  z64 := Try.sizeOf118
  v64 := Try.zeroValue118 }
end Go.Proofs

namespace Go.Ab
open Go.Sort

theorem HR.grown {ρ : Ren} {h : AH} {w : World} (hr : HR ρ h w) (os : Array Obj) : HR ρ h (grow w os) ∧ Frm ρ h w ρ h (grow w os) := by
  have hb : ∀ b, b < w.heap.size → (grow w os).heap[b]? = w.heap[b]? := fun b hb => by simp [grow, Array.getElem?_append, hb]
  refine ⟨⟨fun A o ha => let ⟨r, q, hor⟩ := hr.obj A o ha; ⟨r, q, hor.move (Ren.le_refl _) (hb _ hor.lt)⟩, hr.inj, hr.dom⟩, Ren.le_refl _, by simp [grow], fun b hlt _ => hb b hlt, fun b hb => .inl hb, ⟨rfl, rfl, rfl⟩⟩

/-- A sort of integers, as the library's: of a row that may be written, and of none. -/
structure SortsInts (P : Program) (g : FuncId) : Prop where
  enters : Enters P g
  some : ∀ (blk off cap : Nat) (zs : List Int) (w : World), Holds (Value.int .i64) w blk off zs.toArray → blk < w.heap.size → zs.length < 4611686018427387904 →
    Calls P g #[.slice (some ⟨blk, off, none⟩) zs.length cap] w fun e w' =>
      e = .returned (.tuple #[]) ∧ ∃ n os, w' = grow (putRow (Value.int .i64) (Sort.ahead w n) blk off (zs.mergeSort fun x y => decide (x ≤ y)).toArray) os
  none : ∀ (p : Option Addr) (cap : Nat) (w : World), Calls P g #[.slice p 0 cap] w fun e w' => e = .returned (.tuple #[]) ∧ w' = w

theorem sortInts {P : Program} {g : FuncId} (hs : SortsInts P g) {h : AH} {A cap : Nat} {e : TypeId} {zs : List Int} (hg : h.get A = some (.grow (zs.map (Value.int .i64)) e)) (hz : zs ≠ []) (hbig : zs.length < 4611686018427387904) :
    ACall P g [.slice (some ⟨A, 0, none⟩) zs.length cap] h (fun v h' => v = .tuple #[] ∧ h' = h.set A (.grow ((zs.mergeSort fun x y => decide (x ≤ y)).map (Value.int .i64)) e)) := by
  refine ⟨hs.enters, fun ρ cargs w hl hr => ?_⟩
  obtain ⟨r, hq, cc, fr, hrow, hlim, hallr⟩ := hr.obj A _ hg
  have hcarg : ∃ c, cargs = #[.slice (some ⟨r.blk, r.base, none⟩) zs.length c] := by
    obtain ⟨l⟩ := cargs
    match l, hl with
    | [x], hl =>
      have hx := hl.2 0 _ x rfl rfl
      have hlen : zs.length ≠ 0 := by simpa using hz
      generalize zs.length = m at hx hlen ⊢
      generalize hv : Value.slice (some ⟨A, 0, none⟩) m cap = v at hx
      cases hx <;> cases hv
      · rename_i r' hq' hc; rw [hq] at hq'; cases hq'; exact ⟨_, rfl⟩
      · rename_i s' r' hq' h1' h2' h3'; rw [hq] at hq'; cases hq'; exact ⟨_, rfl⟩
      · exact absurd rfl hlen
      · exact absurd rfl hlen
    | [], hl => have := hl.1; simp at this
    | _ :: _ :: _, hl => have := hl.1; simp at this
  obtain ⟨c, rfl⟩ := hcarg
  have hcell : ∀ j, j < zs.length → cc[r.base + j]? = some (.int .i64 (zs[j]!)) := by
    intro j hj
    obtain ⟨v', h1, h2⟩ := hrow.cell j (.int .i64 zs[j]) (by simp [hj])
    cases h2
    rw [h1]; simp [hj]
  have hfit : r.base + zs.length ≤ cc.size := by simpa using hrow.fits
  have hlt : r.blk < w.heap.size := (Array.getElem?_eq_some_iff.1 hrow.heap).1
  have hH : Holds (Value.int .i64) w r.blk r.base zs.toArray := by
    intro j hj
    have hj' : j < zs.length := by simpa using hj
    refine ⟨?_, ?_⟩
    · simp only [World.cell?, hrow.heap, Option.isSome_none, Bool.false_eq_true, if_false, hcell j hj']
      simp [hj']
    · have := hrow.free rfl (r.base + j) (by omega)
      obtain ⟨lo, hi⟩ := fr
      simp only [World.frozen?, hrow.heap]
      simp only [Bool.and_eq_false_iff, decide_eq_false_iff_not]
      by_cases hlo : lo ≤ r.base + j
      · right; intro hh; exact this ⟨hlo, hh⟩
      · left; exact hlo
  refine (hs.some r.blk r.base c zs w hH hlt hbig).mono ?_
  rintro e' w' ⟨rfl, n, os, rfl⟩
  generalize hd : (zs.mergeSort fun x y => decide (x ≤ y)) = d
  have hdl : d.length = zs.length := by rw [← hd]; exact List.length_mergeSort _
  have hr1 : HR ρ h (Sort.ahead w n) := HR.same (w := w) rfl hr
  have hf1 : Frm ρ h w ρ h (Sort.ahead w n) := Frm.same rfl
  have hheap : (putRow (Value.int .i64) (Sort.ahead w n) r.blk r.base d.toArray).heap[r.blk]? = some (.cells (putCells (Value.int .i64) r.base d.toArray cc) e fr) := by
    show (w.heap.modify r.blk (onCells _))[r.blk]? = _
    rw [Array.getElem?_modify, if_pos rfl, hrow.heap]; rfl
  obtain ⟨hr2, hf2⟩ := hr1.store (o' := .grow (d.map (Value.int .i64)) e) (w' := putRow (Value.int .i64) (Sort.ahead w n) r.blk r.base d.toArray) hg rfl hq
    (by show (w.heap.modify _ _).size = w.heap.size; simp) (fun b hb => by show (w.heap.modify _ _)[b]? = w.heap[b]?; rw [Array.getElem?_modify, if_neg (Ne.symm hb)])
    ⟨_, fr, ⟨hheap, by simp [putCells, hdl]; exact hfit, fun i v hi => by
      rw [List.getElem?_map] at hi
      simp only [Option.map_eq_some_iff] at hi
      obtain ⟨z, hz', rfl⟩ := hi
      have hi' : i < d.length := (List.getElem?_eq_some_iff.1 hz').1
      refine ⟨.int .i64 z, ?_, .int _ _⟩
      simp only [putCells, Array.getElem?_mapIdx]
      rw [hcell i (by omega)]
      simp only [Option.map_some]
      rw [if_pos ⟨by omega, by simp; omega⟩]
      have : r.base + i - r.base = i := by omega
      rw [this]
      have : d.toArray[i]! = z := by
        rw [getElem!_pos _ i (by simpa using hi')]
        simpa using (List.getElem?_eq_some_iff.1 hz').2
      rw [this], fun hw i hi => hrow.free rfl i (by simpa [putCells] using hi), fun v hm => by
        obtain ⟨z, _, rfl⟩ := List.mem_map.1 hm; rfl⟩, by simp [putCells, hlim], fun i v' hi => by
      simp only [putCells, Array.getElem?_mapIdx, Option.map_eq_some_iff] at hi
      obtain ⟨u, hu, rfl⟩ := hi
      split
      · exact ⟨rfl, _, .int _ _⟩
      · exact hallr i u hu⟩
  obtain ⟨hr3, hf3⟩ := hr2.grown os
  exact ⟨ρ, _, _, _, rfl, ⟨rfl, rfl⟩, VR.undef ρ, hr3, (hf1.trans hf2).trans hf3⟩

theorem sortNone {P : Program} {g : FuncId} (hs : SortsInts P g) {h : AH} {p : Option Addr} {cap : Nat} :
    ACall P g [.slice p 0 cap] h (fun v h' => v = .tuple #[] ∧ h' = h) := by
  refine ⟨hs.enters, fun ρ cargs w hl hr => ?_⟩
  have hcarg : ∃ p' c, cargs = #[.slice p' 0 c] := by
    obtain ⟨l⟩ := cargs
    match l, hl with
    | [x], hl =>
      have hx := hl.2 0 _ x rfl rfl
      generalize hv : Value.slice p 0 cap = v at hx
      cases hx <;> cases hv <;> exact ⟨_, _, rfl⟩
    | [], hl => have := hl.1; simp at this
    | _ :: _ :: _, hl => have := hl.1; simp at this
  obtain ⟨p', c, rfl⟩ := hcarg
  refine (hs.none p' c w).mono ?_
  rintro e w' ⟨rfl, rfl⟩
  exact ⟨ρ, _, _, h, rfl, ⟨rfl, rfl⟩, VR.undef ρ, hr, Frm.refl _ _ _⟩

end Go.Ab

namespace Go.Ab.Q
open Go.Proofs
set_option linter.unusedSimpArgs false
set_option linter.unusedVariables false
set_option maxRecDepth 100000
set_option maxHeartbeats 4000000
attribute [local push_cast] wpA_skip wpA_ret wpA_exit wpA_seq wpA_block wpA_cond2 andK_true wpA_region wpA_draw wpA_loop thenQ_normal thenQ_ret thenQ_exit blockQ_normal blockQ_ret blockQ_exit condV_true condV_false opsM_nil opsM_cons2 okM_true wantM_true wantM_false stepM seqM_cons2 seqM_nil2 okS_true wantS_true wantS_false stepS skipS okB Keeps_nil contK_app List.zip_cons_cons List.zip_nil_left List.zip_nil_right Op.operands Call.operands Array.toList_append List.append_nil List.nil_append List.all_cons List.all_nil cOK plain put_n put_tm put_none put_df ev_tmp ev_const ev_func wanted_none wanted_some callR_func dop ex_some1 aBuiltin aBin intBin aUn Option.map_some Bool.and_true Bool.true_and Bool.and_self List.map_cons List.map_nil List.toList_toArray List.getElem?_toArray List.getElem?_cons_zero List.getElem?_cons_succ Option.getD_some Option.getD_none Bool.false_eq_true eq_self_iff_true decide_true decide_false List.cons_append aExtract resL resV List.getD_cons_zero List.getD_cons_succ List.getD_nil Nat.succ_ne_self g1 g2 yieldedA2 isB_bool isB_undef g3 Option.bind_some Option.bind_none bne_self_eq_false beq_self_eq_true Bool.not_true Bool.not_false Int.toNat_natCast List.length_map List.mem_cons List.not_mem_nil or_false not_false_eq_true decide_not Bool.not_not bodyR_ret2 bodyR_normal2 closeMarks_nil ex_some0 Nat.zero_add Nat.add_zero ieq ine List.map_toArray Option.toArray_none Option.toArray_some oev Keeps_cons Still_eq selL wpX_skip wpX_ret wpX_exit wpX_seq wpX_block wpX_cond wpX_region wpX_draw wpX_loop List.take_succ_cons List.take_zero List.drop_succ_cons List.drop_zero Int.zero_add Int.add_zero aNil if_true if_false true_and and_true

theorem sorts : SortsInts Try.prog 46 := ⟨⟨_, Try.func46, rfl, by kernel_rfl⟩, fun blk off cap zs w h1 h2 h3 => AnyM.slices_Sort_int Try.sortA blk off cap zs w h1 h2 h3, fun p cap w => AnyM.slices_Sort_int_none Try.sortA p cap w⟩

def sortL (zs : List Int) : List Int := zs.mergeSort fun x y => decide (x ≤ y)
theorem sortL_perm (zs : List Int) : (sortL zs).Perm zs := List.mergeSort_perm zs _
theorem sortL_sorted (zs : List Int) : (sortL zs).Pairwise (fun x y => x ≤ y) := by
  have := List.pairwise_mergeSort (le := fun (x y : Int) => decide (x ≤ y)) (fun a b c h1 h2 => by simp only [decide_eq_true_eq] at *; omega) (fun a b => by simp only [Bool.or_eq_true, decide_eq_true_eq]; omega) zs
  exact this.imp (fun h => by simpa using h)
theorem sortL_eq {xs ys : List Int} (h : xs.Perm ys) : sortL xs = sortL ys :=
  List.Perm.eq_of_pairwise (le := fun x y => x ≤ y) (fun a b _ _ h1 h2 => by omega) (sortL_sorted xs) (sortL_sorted ys) ((sortL_perm xs).trans (h.trans (sortL_perm ys).symm))
theorem sortL_uniq {xs ys : List Int} (h : xs.Perm ys) (hs : xs.Pairwise (fun x y => x ≤ y)) : sortL ys = xs :=
  List.Perm.eq_of_pairwise (le := fun x y => x ≤ y) (fun a b _ _ h1 h2 => by omega) (sortL_sorted ys) hs ((sortL_perm ys).trans h.symm)

theorem collectI {g : FuncId} {B M : Nat} {ks0 : List Int} {b : AH} (W : Walks g B M ks0 b) (hM : ∃ o, b.get M = some o) (hl : ks0.length ≤ 4294967296) :
    ACall Try.prog 45 [.func (.func g) #[] #[.pointer (some ⟨B, 0, none⟩)]] b (fun r h' => Gr b h' ∧ ∃ (ks : List Int) (ob : Option AObj) (A : Nat), ks.Perm ks0 ∧ VecM 1 3 r ob A ks.length (ks.map (.int .i64)) ∧ (∀ o, ob = some o → h'.get A = some o ∧ b.next ≤ A)) := by
  refine ACall.of_wp 5 [.tmp 2] Try.func45 rfl (by kernel_rfl) rfl rfl fun a hn hd ha => ?_
  simp (disch := first | omega | decide) only [push_cast, ↓reduceIte, Nat.reduceLT, Nat.reduceEqDiff, reduceCtorEq, Nat.reduceAdd, hn, hd, ha]
  refine ACall.mono ?_ (appendSeqI W hM hl)
  intro r h' hq
  simp (disch := first | omega | decide) only [push_cast, ↓reduceIte, Nat.reduceLT, Nat.reduceEqDiff, reduceCtorEq, Nat.reduceAdd, hn, hd, ha]
  exact hq

theorem collectL {g : FuncId} {B M : Nat} {ks0 : List Int} {b : AH} (W : Walks g B M ks0 b) (hM : ∃ o, b.get M = some o) (hl : ks0.length ≤ 4294967296) :
    ACall Try.prog 43 [.func (.func g) #[] #[.pointer (some ⟨B, 0, none⟩)]] b (fun r h' => Gr b h' ∧ ∃ (ks : List Int) (ob : Option AObj) (A : Nat), ks.Perm ks0 ∧ VecM 1 2 r ob A ks.length (ks.map (.int .i64)) ∧ (∀ o, ob = some o → h'.get A = some o ∧ b.next ≤ A)) := by
  refine ACall.of_wp 5 [.tmp 2] Try.func43 rfl (by kernel_rfl) rfl rfl fun a hn hd ha => ?_
  simp (disch := first | omega | decide) only [push_cast, ↓reduceIte, Nat.reduceLT, Nat.reduceEqDiff, reduceCtorEq, Nat.reduceAdd, hn, hd, ha]
  refine ACall.mono ?_ (appendSeqL W hM hl)
  intro r h' hq
  simp (disch := first | omega | decide) only [push_cast, ↓reduceIte, Nat.reduceLT, Nat.reduceEqDiff, reduceCtorEq, Nat.reduceAdd, hn, hd, ha]
  exact hq

theorem VecM.sl {e : TypeId} {v : Value} {ob : Option AObj} {A : Nat} {h : AH} {vs : List Value} (hv : VecM 1 e v ob A vs.length vs) (hg : ∀ o, ob = some o → h.get A = some o) : SlOf h v vs := by
  obtain ⟨_, ⟨h0, rfl, _⟩ | ⟨h0, rfl, _⟩ | ⟨rfl, rfl⟩⟩ := hv
  · exact ⟨none, 0, 0, rfl, h0.symm, fun q e => (nomatch e), .inl (List.eq_nil_of_length_eq_zero h0)⟩
  · exact ⟨_, 0, 0, rfl, h0.symm, fun q e => by cases e; rfl, .inl (List.eq_nil_of_length_eq_zero h0)⟩
  · exact SlOf.lit (hg _ rfl) rfl rfl

/-- slices.Sorted, of a map's keys. -/
theorem sortedI {g : FuncId} {B M : Nat} {ks0 : List Int} {b : AH} (W : Walks g B M ks0 b) (hM : ∃ o, b.get M = some o) (hl : ks0.length ≤ 4294967296) :
    ACall Try.prog 39 [.func (.func g) #[] #[.pointer (some ⟨B, 0, none⟩)]] b (fun r h' => Gr b h' ∧ SlOf h' r ((sortL ks0).map (.int .i64)) ∧ ∀ C off l c, r = .slice (some ⟨C, off, none⟩) l c → b.next ≤ C) := by
  refine ACall.wf ⟨_, Try.func39, rfl, by kernel_rfl⟩ fun wb => ?_
  refine ACall.of_wp 9 [.tmp 2] Try.func39 rfl (by kernel_rfl) rfl rfl fun a hn hd ha => ?_
  simp (disch := first | omega | decide) only [push_cast, ↓reduceIte, Nat.reduceLT, Nat.reduceEqDiff, reduceCtorEq, Nat.reduceAdd, hn, hd, ha]
  refine ACall.mono ?_ (collectI W hM hl)
  rintro r h' ⟨g1, ks, ob, A, hp, hV, hob⟩
  have hlen : ks.length ≤ 4294967296 := by rw [hp.length_eq]; exact hl
  rw [← sortL_eq hp]
  simp (disch := first | omega | decide) only [push_cast, ↓reduceIte, Nat.reduceLT, Nat.reduceEqDiff, reduceCtorEq, Nat.reduceAdd, hn, hd, ha]
  have hs0 : ks = [] → sortL ks = [] := fun e => by subst e; simp [sortL]
  obtain ⟨hl1, ⟨h0, rfl, rfl⟩ | ⟨h0, rfl, rfl⟩ | ⟨rfl, rfl⟩⟩ := hV
  · have hk : ks = [] := List.eq_nil_of_length_eq_zero h0
    refine ACall.mono ?_ (sortNone sorts)
    rintro v h3 ⟨rfl, rfl⟩
    simp (disch := first | omega | decide) only [push_cast, ↓reduceIte, Nat.reduceLT, Nat.reduceEqDiff, reduceCtorEq, Nat.reduceAdd, hn, hd, ha]
    rw [hs0 hk]
    exact ⟨g1, ⟨none, 0, 0, rfl, rfl, fun q e => (nomatch e), .inl rfl⟩, fun C off l c e => (nomatch e)⟩
  · have hk : ks = [] := List.eq_nil_of_length_eq_zero h0
    refine ACall.mono ?_ (sortNone sorts)
    rintro v h3 ⟨rfl, rfl⟩
    simp (disch := first | omega | decide) only [push_cast, ↓reduceIte, Nat.reduceLT, Nat.reduceEqDiff, reduceCtorEq, Nat.reduceAdd, hn, hd, ha]
    rw [hs0 hk]
    exact ⟨g1, ⟨_, 0, 0, rfl, rfl, fun q e => by cases e; rfl, .inl rfl⟩, fun C off l c e => by cases e; exact (hob _ rfl).2⟩
  · obtain ⟨hg, hA⟩ := hob _ rfl
    by_cases hk : ks = []
    · subst hk
      refine ACall.mono ?_ (sortNone sorts)
      rintro v h3 ⟨rfl, rfl⟩
      simp (disch := first | omega | decide) only [push_cast, ↓reduceIte, Nat.reduceLT, Nat.reduceEqDiff, reduceCtorEq, Nat.reduceAdd, hn, hd, ha]
      rw [hs0 rfl]
      exact ⟨g1, ⟨_, 0, _, rfl, rfl, fun q e => by cases e; rfl, .inl rfl⟩, fun C off l c e => by cases e; exact hA⟩
    · refine ACall.mono ?_ (sortInts sorts hg hk (by omega))
      rintro v h3 ⟨rfl, rfl⟩
      simp (disch := first | omega | decide) only [push_cast, ↓reduceIte, Nat.reduceLT, Nat.reduceEqDiff, reduceCtorEq, Nat.reduceAdd, hn, hd, ha]
      refine ⟨g1.set wb hA (AH.get_lt g1.wf hg) _, ?_⟩
      have hsl : (sortL ks).length = ks.length := (sortL_perm ks).length_eq
      exact ⟨SlOf.lit (by rw [AH.set_get, if_pos rfl]) rfl (by rw [List.length_map, hsl]), fun C off l c e => by cases e; exact hA⟩

theorem keyFD {h : AH} {M : Nat} : ACall Try.prog 40 [.map (some M)] h (fun r h' => r = .func (.func 47) #[] #[.pointer (some ⟨h.next, 0, none⟩)] ∧ h' = h.new (.row [.map (some M)] 54 true)) := by
  refine ACall.of_wp 4 [.tmp 2] Try.func40 rfl (by kernel_rfl) rfl rfl fun a hn hd ha => ?_
  have hbox : aBox 54 (.map (some M)) h = some (.pointer (some ⟨h.next, 0, none⟩), h.new (.row [.map (some M)] 54 true)) := rfl
  simp (disch := first | omega | decide) only [push_cast, ↓reduceIte, Nat.reduceLT, Nat.reduceEqDiff, reduceCtorEq, Nat.reduceAdd, hn, hd, ha, hbox]

theorem keyFB {h : AH} {M : Nat} : ACall Try.prog 41 [.map (some M)] h (fun r h' => r = .func (.func 48) #[] #[.pointer (some ⟨h.next, 0, none⟩)] ∧ h' = h.new (.row [.map (some M)] 55 true)) := by
  refine ACall.of_wp 4 [.tmp 2] Try.func41 rfl (by kernel_rfl) rfl rfl fun a hn hd ha => ?_
  have hbox : aBox 55 (.map (some M)) h = some (.pointer (some ⟨h.next, 0, none⟩), h.new (.row [.map (some M)] 55 true)) := rfl
  simp (disch := first | omega | decide) only [push_cast, ↓reduceIte, Nat.reduceLT, Nat.reduceEqDiff, reduceCtorEq, Nat.reduceAdd, hn, hd, ha, hbox]

theorem keyFA {h : AH} {M : Nat} : ACall Try.prog 44 [.map (some M)] h (fun r h' => r = .func (.func 50) #[] #[.pointer (some ⟨h.next, 0, none⟩)] ∧ h' = h.new (.row [.map (some M)] 56 true)) := by
  refine ACall.of_wp 4 [.tmp 2] Try.func44 rfl (by kernel_rfl) rfl rfl fun a hn hd ha => ?_
  have hbox : aBox 56 (.map (some M)) h = some (.pointer (some ⟨h.next, 0, none⟩), h.new (.row [.map (some M)] 56 true)) := rfl
  simp (disch := first | omega | decide) only [push_cast, ↓reduceIte, Nat.reduceLT, Nat.reduceEqDiff, reduceCtorEq, Nat.reduceAdd, hn, hd, ha, hbox]

end Go.Ab.Q

namespace Go.Ab

section
variable {P : Program}

/-- A slice of one's own, of n elements: nil, or empty, or a part of a growing row up to its end. -/
def OffV (sz : Nat) (e : TypeId) (v : Value) (ob : Option AObj) (A n : Nat) (zs : List Value) : Prop :=
  zs.length = n * sz ∧
  ((n = 0 ∧ v = .slice none 0 0 ∧ ob = none) ∨
   (n = 0 ∧ v = .slice (some ⟨A, 0, none⟩) 0 0 ∧ ob = some (.row [] e true)) ∨
   (∃ off cs, v = .slice (some ⟨A, off, none⟩) n (SL + sz) ∧ ob = some (.grow cs e) ∧ off + n * sz ≤ cs.length ∧ (cs.drop off).take (n * sz) = zs))

theorem VecM.off {sz : Nat} {e : TypeId} {v : Value} {ob : Option AObj} {A n : Nat} {zs : List Value} (hv : VecM sz e v ob A n zs) : OffV sz e v ob A n zs := by
  obtain ⟨hl, h | h | ⟨h1, h2⟩⟩ := hv
  · exact ⟨hl, .inl h⟩
  · exact ⟨hl, .inr (.inl h)⟩
  · exact ⟨hl, .inr (.inr ⟨0, zs, h1, h2, by omega, by rw [List.drop_zero, ← hl, List.take_length]⟩)⟩

theorem OffV.nil (sz : Nat) (e : TypeId) (A : Nat) : OffV sz e (.slice none 0 0) none A 0 [] := ⟨by simp, .inl ⟨rfl, rfl, rfl⟩⟩

theorem OffV.one {sz : Nat} {e : TypeId} {v : Value} {ob : Option AObj} {A n : Nat} {zs : List Value} (hv : OffV sz e v ob A n zs) : oneC v = true ∧ v.cells.toList = [v] := by
  obtain ⟨_, ⟨_, rfl, _⟩ | ⟨_, rfl, _⟩ | ⟨_, _, rfl, _⟩⟩ := hv <;> exact ⟨rfl, rfl⟩

theorem OffV.row {α : Type} {L : Lay α} {h : AH} {e : TypeId} {v : Value} {ob : Option AObj} {A : Nat} {zs : List Value} {xs : List α} (hv : OffV L.sz e v ob A xs.length zs) (hg : ∀ o, ob = some o → h.get A = some o) (hb : xs.length ≤ 4294967296)
    (hx : ∀ (i : Nat) (x : α), xs[i]? = some x → L.rel h ((zs.drop (i * L.sz)).take L.sz) x) : RowOf L h v xs := by
  obtain ⟨hl, ⟨h0, rfl, _⟩ | ⟨h0, rfl, rfl⟩ | ⟨off, cs, rfl, rfl, hle, hz⟩⟩ := hv
  · exact ⟨none, 0, 0, rfl, h0.symm, ⟨fun q e => (nomatch e), Nat.le_refl _, .inl (by unfold SL; omega)⟩, .inl (List.eq_nil_of_length_eq_zero h0)⟩
  · exact ⟨_, 0, 0, rfl, h0.symm, ⟨fun q e => by cases e; rfl, Nat.le_refl _, .inl (by unfold SL; omega)⟩, .inl (List.eq_nil_of_length_eq_zero h0)⟩
  · refine ⟨_, _, _, rfl, rfl, ⟨fun q e => by cases e; rfl, by unfold SL; omega, .inr rfl⟩, .inr ⟨A, off, _, cs, rfl, hg _ rfl, rfl, fun i x hi => ?_⟩⟩
    have := hx i x hi
    have hil := (List.getElem?_eq_some_iff.1 hi).1
    have hle2 : i * L.sz + L.sz ≤ xs.length * L.sz := by
      rw [← Nat.succ_mul]; exact Nat.mul_le_mul_right _ hil
    rw [← hz, List.drop_take, List.drop_drop, List.take_take, Nat.min_eq_left (by omega)] at this
    exact this

theorem OffV.post {t e : TypeId} {sz B : Nat} (ht : SlM P t e sz B) {v : Value} {ob : Option AObj} {A n : Nat} {zs : List Value} (hv : OffV sz e v ob A n zs) {k : IntKind} {m : Nat} (hm : m ≤ n) :
    ∃ v', aSlice P t v (some (.int k m)) none = some v' ∧ OffV sz e v' ob A (n - m) (zs.drop (m * sz)) := by
  obtain ⟨i, z, hi, h1, _⟩ := ht.info
  have hb : bnd (some (.int k (m : Int))) 0 = some m := by simp [bnd]
  have hb0 : ∀ m, bnd none m = some m := fun _ => rfl
  obtain ⟨hl, ⟨h0, rfl, rfl⟩ | ⟨h0, rfl, rfl⟩ | ⟨off, cs, rfl, rfl, hle, hz⟩⟩ := hv
  · subst h0
    have : m = 0 := by omega
    subst this
    refine ⟨.slice none 0 0, ?_, by simpa using hl, .inl ⟨by omega, rfl, rfl⟩⟩
    simp only [aSlice, ht.sl, hb, hb0, hi]; simp
  · subst h0
    have : m = 0 := by omega
    subst this
    refine ⟨.slice (some ⟨A, 0, none⟩) 0 0, ?_, by simpa using hl, .inr (.inl ⟨by omega, rfl, rfl⟩)⟩
    have h0 : 0 < SL := by unfold SL; omega
    simp only [aSlice, ht.sl, hb, hb0, hi, h0]; simp
  · have hmul : (n - m) * sz + m * sz = n * sz := by rw [← Nat.add_mul]; congr 1; omega
    refine ⟨.slice (some ⟨A, off + m * sz, none⟩) (n - m) (SL + sz), ?_, by rw [List.length_drop, hl]; omega, .inr (.inr ⟨_, cs, rfl, rfl, by omega, ?_⟩)⟩
    · have hns : ¬ (SL + sz < SL) := by omega
      simp only [aSlice, ht.sl, hb, hb0, hi, hns, if_false, h1]
      rw [if_pos ⟨trivial, hm, Nat.le_refl _⟩]
    · rw [← hz, List.drop_take, List.drop_drop]
      congr 1
      omega

theorem appendO {t t2 e : TypeId} {sz B : Nat} (ht : SlM P t e sz B) (ht2 : ∃ e2, P.underlying t2 = some (.slice e2)) {h : AH} (hw : WFH h) {v : Value} {ob : Option AObj} {A n : Nat} {zs : List Value} (hv : OffV sz e v ob A n zs) (hg : ∀ o, ob = some o → h.get A = some o)
    {x : Value} {k : Nat} {ys : List Value} (hsrc : srcCells sz x h = some (k, ys)) (hk : k ≠ 0) (hys : ys.length = k * sz) (hb : (2 * (n + k) + 192) * B ≤ 281474976710656) (hm : n + k < 4611686018427387904) :
    ∃ r h', aAppend P #[t, t2] v x h = some (r, h') ∧ (∃ A' o', OffV sz e r (some o') A' (n + k) (zs ++ ys) ∧ h'.get A' = some o' ∧ h.next ≤ A') ∧ (∀ C o, h.get C = some o → (C = A → ob = none) → h'.get C = some o) ∧ WFH h' ∧ h.next ≤ h'.next := by
  obtain ⟨hl, h0 | h0 | ⟨off, cs, rfl, rfl, hle, hz⟩⟩ := hv
  · obtain ⟨r, h', e1, ⟨A', o', h1, h2, h3⟩, h4⟩ := appendM ht ht2 hw (v := v) (ob := ob) (A := A) (n := n) (zs := zs) ⟨hl, .inl h0⟩ hg hsrc hk hys hb hm
    exact ⟨r, h', e1, ⟨A', o', h1.off, h2, h3⟩, h4⟩
  · obtain ⟨r, h', e1, ⟨A', o', h1, h2, h3⟩, h4⟩ := appendM ht ht2 hw (v := v) (ob := ob) (A := A) (n := n) (zs := zs) ⟨hl, .inr (.inl h0)⟩ hg hsrc hk hys hb hm
    exact ⟨r, h', e1, ⟨A', o', h1.off, h2, h3⟩, h4⟩
  · obtain ⟨i, z, hi, h1, hbb, hzz, hc, hzk, _⟩ := ht.info
    obtain ⟨e2, ht2⟩ := ht2
    have hm' : n + k < ML := by unfold ML; omega
    have hA := hg _ rfl
    have hAn := AH.get_lt hw hA
    have hlen : (zs ++ ys).length = (n + k) * sz := by rw [List.length_append, hl, hys, Nat.add_mul]
    refine ⟨.slice (some ⟨h.next, 0, none⟩) (n + k) (SL + sz), (h.del A).new (.grow (zs ++ ys) e), ?_, ⟨h.next, .grow (zs ++ ys) e, ⟨hlen, .inr (.inr ⟨0, zs ++ ys, rfl, rfl, by rw [hlen]; omega, by rw [List.drop_zero, ← hlen, List.take_length]⟩)⟩, by simp [AH.new_get], Nat.le_refl _⟩, fun C o hC hCA => ?_, (hw.del A).new _, by simp⟩
    · have hcap : ¬ (SL + sz < SL) := by omega
      simp [aAppend, ht.sl, ht2, hi, hzz, h1, hc, isIntT, hsrc, hbb, hA, hcap, hb, hm', hzk, hk, hle, hz]
    · have hne : C ≠ A := fun e => by have := hCA e; cases this
      have hCn := AH.get_lt hw hC
      rw [AH.new_get, AH.del_next, if_neg (by omega), AH.del_get, if_neg hne]; exact hC
end
end Go.Ab

namespace Go.Ab

def blkC (i : Nat) : Code → Option Code
  | .block j c => if i = j then some c else blkC i c
  | .seq x y => match blkC i x with
    | some c => some c
    | none => blkC i y
  | .cond _ x y => match blkC i x with
    | some c => some c
    | none => blkC i y
  | .loop c => blkC i c
  | .rangeFunc _ _ _ y => blkC i y
  | _ => none
def bodyBlk (f : Func) (i : Nat) : Code := match f.body with
  | some c => (blkC i c).getD .skip
  | none => .skip
theorem AW.at {P : Program} {rd : Option Nat} {Q : Exit → AAct → AH → Prop} {a : AAct} {h : AH} {c c' : Code} (e : c = c') (hx : AW P rd c' Q a h) : AW P rd c Q a h := e ▸ hx

def opsAt : Nat → Code → Option (Array Oper)
  | i, .region j ops _ => if i = j then some ops else none
  | i, .seq x y => match opsAt i x with
    | some c => some c
    | none => opsAt i y
  | i, .cond _ x y => match opsAt i x with
    | some c => some c
    | none => opsAt i y
  | i, .loop c => opsAt i c
  | i, .block _ c => opsAt i c
  | i, .rangeFunc _ _ x y => match opsAt i x with
    | some c => some c
    | none => opsAt i y
  | _, _ => none
def opsOf (f : Func) (i : Nat) : Array Oper := match f.body with
  | some c => (opsAt i c).getD #[]
  | none => #[]
theorem opsM.at {P : Program} {ops ops' : Array Oper} {N : AAct → AH → Prop} {l l' : List Oper} {a : AAct} {h : AH} (e : ops' = ops) (e2 : l' = l) (hx : opsM P ops' N l' a h) : opsM P ops N l a h := e ▸ e2 ▸ hx
end Go.Ab

namespace Go.Ab.Q
open Go.Proofs
set_option linter.unusedSimpArgs false
set_option linter.unusedVariables false
set_option maxRecDepth 100000
set_option maxHeartbeats 4000000
attribute [local push_cast] wpA_skip wpA_ret wpA_exit wpA_seq wpA_block wpA_cond2 andK_true wpA_region wpA_draw wpA_loop thenQ_normal thenQ_ret thenQ_exit blockQ_normal blockQ_ret blockQ_exit condV_true condV_false opsM_nil opsM_cons2 okM_true wantM_true wantM_false stepM seqM_cons2 seqM_nil2 okS_true wantS_true wantS_false stepS skipS okB Keeps_nil contK_app List.zip_cons_cons List.zip_nil_left List.zip_nil_right Op.operands Call.operands Array.toList_append List.append_nil List.nil_append List.all_cons List.all_nil cOK plain put_n put_tm put_none put_df ev_tmp ev_const ev_func wanted_none wanted_some callR_func dop ex_some1 aBuiltin aBin intBin aUn Option.map_some Bool.and_true Bool.true_and Bool.and_self List.map_cons List.map_nil List.toList_toArray List.getElem?_toArray List.getElem?_cons_zero List.getElem?_cons_succ Option.getD_some Option.getD_none Bool.false_eq_true eq_self_iff_true decide_true decide_false List.cons_append aExtract resL resV List.getD_cons_zero List.getD_cons_succ List.getD_nil Nat.succ_ne_self g1 g2 yieldedA2 isB_bool isB_undef g3 Option.bind_some Option.bind_none bne_self_eq_false beq_self_eq_true Bool.not_true Bool.not_false Int.toNat_natCast List.length_map List.mem_cons List.not_mem_nil or_false not_false_eq_true decide_not Bool.not_not bodyR_ret2 bodyR_normal2 closeMarks_nil ex_some0 Nat.zero_add Nat.add_zero ieq ine List.map_toArray Option.toArray_none Option.toArray_some oev Keeps_cons Still_eq selL wpX_skip wpX_ret wpX_exit wpX_seq wpX_block wpX_cond wpX_region wpX_draw wpX_loop List.take_succ_cons List.take_zero List.drop_succ_cons List.drop_zero Int.zero_add Int.add_zero aNil if_true if_false true_and and_true

def vA (B : Nat) : Value := .pointer (some ⟨B, 0, none⟩)

def EvV (v : Value) (ob : Option AObj) (A : Nat) (l : List Ev) : Prop := OffV 3 33 v ob A l.length (l.flatMap evC)

/-- The queue's cells. -/
def qC (nm : Nat → Nat) (s : QS) (lv : Value) (rv : List Value) (wv : Value) : List Value :=
  [lv, .bool true, .int .i64 s.now, .int .i64 s.held, .map (some (nm 2)), .map (some (nm 3)), .map (some (nm 4)), .map (some (nm 5))] ++ (rv ++ [wv, .map (some (nm 6)), .map (some (nm 7)), .map (some (nm 8))])

/-- The events of a later time, laid. -/
structure LatR (nm : Nat → Nat) (ob : Nat → Option AObj) (t : Nat) (l : Lat) : Prop where
  st : ∃ uv, ob (100 + 4 * t) = some (.row [.map (some (nm (101 + 4 * t))), .map (some (nm (102 + 4 * t))), uv] 64 true) ∧ EvV uv (ob (103 + 4 * t)) (nm (103 + 4 * t)) l.updates
  d : ∃ o, ob (101 + 4 * t) = some o ∧ MapO vI o l.drives
  th : ∃ o, ob (102 + 4 * t) = some o ∧ MapO vB o l.threads

def sumL {α : Type} (f : α → Nat) : List α → Nat
  | [] => 0
  | x :: l => f x + sumL f l

/-- What holds of every queue. -/
structure QOK (s : QS) : Prop where
  rl : s.ready.length = 64
  held : s.held = s.waiting.length + sumL List.length s.ready + sumL (fun p => p.2.updates.length) s.later
  hb : s.held ≤ 20000
  now0 : 0 ≤ s.now
  now1 : s.now ≤ 1000000000000
  left : s.left.length ≤ 4294967296
  uu : ∀ x ∈ s.left, 0 ≤ x ∧ x < 4294967296
  kd : ∀ p ∈ s.drives, 0 ≤ p.1 ∧ p.1 < 64
  ke : ∀ p ∈ s.evals, 0 ≤ p.1 ∧ p.1 < 64
  kt : ∀ p ∈ s.threads, 0 ≤ p.1 ∧ p.1 < 64
  kq : ∀ p ∈ s.quiet, 0 ≤ p.1 ∧ p.1 < 64
  kl : ∀ p ∈ s.later, s.now < p.1 ∧ p.1 ≤ 1000000000000
  ll : s.later.length ≤ 100000
  kld : ∀ p ∈ s.later, ∀ q ∈ p.2.drives, 0 ≤ q.1 ∧ q.1 < 64
  klt : ∀ p ∈ s.later, ∀ q ∈ p.2.threads, 0 ≤ q.1 ∧ q.1 < 64
  kr : ∀ p ∈ s.drive, ∃ l, aget p.2 s.later = some l ∧ (aget p.1 l.drives).isSome
  kw : ∀ p ∈ s.wake, ∃ l, aget p.2 s.later = some l ∧ (aget p.1 l.threads).isSome
  wi : ∀ x ∈ s.waiting, 0 ≤ x.index ∧ x.index < 64 ∧ x.kind = 4
  ui : ∀ p ∈ s.later, ∀ x ∈ p.2.updates, 0 ≤ x.index ∧ x.index < 64 ∧ x.kind = 4
  ri : ∀ i, i < 64 → ∀ x ∈ s.ready.getD i [], x.index = i ∧ x.kind = 4

/-- The queue, laid: its blocks by their roles. -/
structure QRl (b h : AH) (s : QS) (nm : Nat → Nat) (ob : Nat → Option AObj) : Prop where
  own : Owns b h nm ob
  q : ∃ lv rv wv, ob 0 = some (.row (qC nm s lv rv wv) 60 true) ∧ OffV 1 48 lv (ob 1) (nm 1) s.left.length (s.left.map (.int .u32)) ∧ rv.length = 64 ∧
    (∀ i, i < 64 → EvV (rv.getD i undef) (ob (10 + i)) (nm (10 + i)) (s.ready.getD i [])) ∧ EvV wv (ob 9) (nm 9) s.waiting
  m2 : ∃ o, ob 2 = some o ∧ MapO vI o s.drives
  m3 : ∃ o, ob 3 = some o ∧ MapO vB o s.evals
  m4 : ∃ o, ob 4 = some o ∧ MapO vB o s.threads
  m5 : ∃ o, ob 5 = some o ∧ MapO vB o s.quiet
  m6 : ∃ o, ob 6 = some o ∧ MapO vA o (s.later.map fun p => (p.1, nm (100 + 4 * p.1.toNat)))
  m7 : ∃ o, ob 7 = some o ∧ MapO vI o s.drive
  m8 : ∃ o, ob 8 = some o ∧ MapO vI o s.wake
  lat : ∀ p ∈ s.later, LatR nm ob p.1.toNat p.2
structure QR (b h : AH) (s : QS) (nm : Nat → Nat) (ob : Nat → Option AObj) : Prop extends QRl b h s nm ob where
  ok : QOK s

/-- A step that touches one's own blocks alone, and lays others. -/
structure Rest (h h' : AH) (nm nm' : Nat → Nat) (ob ob' : Nat → Option AObj) : Prop where
  w : WFH h
  keep : ∀ C o, h.get C = some o → (∀ r p, ob r = some p → nm r ≠ C) → h'.get C = some o
  own : ∀ r p, ob' r = some p → (∃ r' p', ob r' = some p' ∧ nm r' = nm' r) ∨ h.next ≤ nm' r
  nx : h.next ≤ h'.next
  n0 : nm' 0 = nm 0
theorem Rest.gr {h h' : AH} (w : WFH h) (g : Gr h h') (nm : Nat → Nat) (ob : Nat → Option AObj) : Rest h h' nm nm ob ob := ⟨w, fun C o h1 _ => g.sub C o h1, fun r p hp => .inl ⟨r, p, hp, rfl⟩, g.nx, rfl⟩
theorem Rest.refl {h : AH} (w : WFH h) (nm : Nat → Nat) (ob : Nat → Option AObj) : Rest h h nm nm ob ob := Rest.gr w (Gr.refl w) nm ob
theorem Rest.trans {h1 h2 h3 : AH} {n1 n2 n3 : Nat → Nat} {o1 o2 o3 : Nat → Option AObj} (x : Rest h1 h2 n1 n2 o1 o2) (y : Rest h2 h3 n2 n3 o2 o3) : Rest h1 h3 n1 n3 o1 o3 where
  w := x.w
  keep := fun C o hC hn => y.keep C o (x.keep C o hC hn) (fun r p hp e => by
    rcases x.own r p hp with ⟨r', p', h1, h2⟩ | h1
    · exact hn r' p' h1 (h2.trans e)
    · have := AH.get_lt x.w hC; omega)
  own := fun r p hp => by
    rcases y.own r p hp with ⟨r', p', h1, h2⟩ | h1
    · rcases x.own r' p' h1 with ⟨r2, p2, h3, h4⟩ | h3
      · exact .inl ⟨r2, p2, h3, h4.trans h2⟩
      · exact .inr (by omega)
    · exact .inr (Nat.le_trans x.nx h1)
  nx := Nat.le_trans x.nx y.nx
  n0 := y.n0.trans x.n0
theorem Rest.set {h : AH} {nm : Nat → Nat} {ob : Nat → Option AObj} (w : WFH h) {r : Nat} {o : AObj} (o' : AObj) (hr : ob r = some o) : Rest h (h.set (nm r) o') nm nm ob (upd ob r (some o')) where
  w := w
  keep := fun C p hC hn => by
    rw [AH.set_get, if_neg (fun e => hn r o hr e.symm)]; exact hC
  own := fun s p hs => by
    by_cases e : s = r
    · subst e; exact .inl ⟨s, o, hr, rfl⟩
    · rw [upd_ne _ _ e] at hs; exact .inl ⟨s, p, hs, rfl⟩
  nx := Nat.le_refl _
  n0 := rfl
theorem Rest.up {h h' : AH} {nm : Nat → Nat} {ob : Nat → Option AObj} (w : WFH h) {r A' : Nat} {o' : AObj} (h0 : r ≠ 0) (hA : (A' = nm r ∧ ob r ≠ none) ∨ h.next ≤ A') (frx : ∀ B o, h.get B = some o → (B = nm r → ob r = none) → h'.get B = some o) (nx : h.next ≤ h'.next) :
    Rest h h' nm (upd nm r A') ob (upd ob r (some o')) where
  w := w
  keep := fun C p hC hn => frx C p hC (fun e => by
    cases ho : ob r with
    | none => rfl
    | some q => exact absurd e.symm (hn r q ho))
  own := fun s p hs => by
    by_cases e : s = r
    · subst e
      rw [upd_same]
      rcases hA with ⟨rfl, hr⟩ | hA
      · cases ho : ob s with
        | none => exact absurd ho hr
        | some q => exact .inl ⟨s, q, ho, rfl⟩
      · exact .inr hA
    · rw [upd_ne _ _ e] at hs ⊢; exact .inl ⟨s, p, hs, rfl⟩
  nx := nx
  n0 := upd_ne _ _ (fun e => h0 e.symm)
theorem Rest.via {h : AH} (w : WFH h) (nm : Nat → Nat) (ob : Nat → Option AObj) (σ : Nat → Nat) (h0 : σ 0 = 0) : Rest h h nm (fun r => nm (σ r)) ob (fun r => ob (σ r)) where
  w := w
  keep := fun C p hC _ => hC
  own := fun s p hs => .inl ⟨σ s, p, hs, rfl⟩
  nx := Nat.le_refl _
  n0 := by rw [h0]
theorem Rest.drop {h : AH} (w : WFH h) (nm : Nat → Nat) (ob : Nat → Option AObj) (r : Nat) : Rest h h nm nm ob (upd ob r none) where
  w := w
  keep := fun C p hC _ => hC
  own := fun s p hs => by
    by_cases e : s = r
    · subst e; rw [upd_same] at hs; cases hs
    · rw [upd_ne _ _ e] at hs; exact .inl ⟨s, p, hs, rfl⟩
  nx := Nat.le_refl _
  n0 := rfl

theorem QR.gr {b h h' : AH} {s : QS} {nm : Nat → Nat} {ob : Nat → Option AObj} (r : QR b h s nm ob) (g : Gr h h') : QR b h' s nm ob := { r with own := r.own.grown g }

/-- What the queue's fields hold. -/
structure QL (h : AH) (nm : Nat → Nat) (s : QS) (lv : Value) (rv : List Value) (wv : Value) : Prop where
  l0 : aLoad Try.prog 22 (.pointer (some ⟨nm 0, 0, none⟩)) h = some lv
  l1 : aLoad Try.prog 4 (.pointer (some ⟨nm 0, 1, none⟩)) h = some (.bool true)
  l2 : aLoad Try.prog 2 (.pointer (some ⟨nm 0, 2, none⟩)) h = some (.int .i64 s.now)
  l3 : aLoad Try.prog 3 (.pointer (some ⟨nm 0, 3, none⟩)) h = some (.int .i64 s.held)
  l4 : aLoad Try.prog 54 (.pointer (some ⟨nm 0, 4, none⟩)) h = some (.map (some (nm 2)))
  l5 : aLoad Try.prog 55 (.pointer (some ⟨nm 0, 5, none⟩)) h = some (.map (some (nm 3)))
  l6 : aLoad Try.prog 55 (.pointer (some ⟨nm 0, 6, none⟩)) h = some (.map (some (nm 4)))
  l7 : aLoad Try.prog 55 (.pointer (some ⟨nm 0, 7, none⟩)) h = some (.map (some (nm 5)))
  l9 : aLoad Try.prog 34 (.pointer (some ⟨nm 0, 72, none⟩)) h = some wv
  l10 : aLoad Try.prog 56 (.pointer (some ⟨nm 0, 73, none⟩)) h = some (.map (some (nm 6)))
  l11 : aLoad Try.prog 57 (.pointer (some ⟨nm 0, 74, none⟩)) h = some (.map (some (nm 7)))
  l12 : aLoad Try.prog 57 (.pointer (some ⟨nm 0, 75, none⟩)) h = some (.map (some (nm 8)))

theorem qC_len {nm : Nat → Nat} {s : QS} {lv : Value} {rv : List Value} {wv : Value} (h : rv.length = 64) : (qC nm s lv rv wv).length = 76 := by
  simp [qC, h]
theorem qC_hi {nm : Nat → Nat} {s : QS} {lv : Value} {rv : List Value} {wv : Value} (h : rv.length = 64) (j : Nat) : (qC nm s lv rv wv).getD (72 + j) undef = ([wv, .map (some (nm 6)), .map (some (nm 7)), .map (some (nm 8))] : List Value).getD j undef := by
  unfold qC
  rw [List.getD_eq_getElem?_getD, List.getElem?_append_right (by simp; omega), List.getElem?_append_right (by simp [h]; omega), List.getD_eq_getElem?_getD]
  congr 2
  simp [h]; omega

theorem qlAt {h : AH} {nm : Nat → Nat} {s : QS} {lv : Value} {rv : List Value} {wv : Value} (hg : h.get (nm 0) = some (.row (qC nm s lv rv wv) 60 true)) (hl : rv.length = 64) : QL h nm s lv rv wv := by
  have hlen := qC_len (nm := nm) (s := s) (lv := lv) (wv := wv) hl
  have ld : ∀ {e : TypeId}, Fl Try.prog e → ∀ k, k < 76 → aLoad Try.prog e (.pointer (some ⟨nm 0, k, none⟩)) h = some ((qC nm s lv rv wv).getD k undef) := fun he k hk => ldL hg rfl he k (by rw [hlen]; exact hk)
  exact ⟨ld flU 0 (by decide), ld flB 1 (by decide), ld flL 2 (by decide), ld flI 3 (by decide), ld flMD 4 (by decide), ld flMB 5 (by decide), ld flMB 6 (by decide), ld flMB 7 (by decide),
    (ld flE 72 (by decide)).trans (by rw [qC_hi hl 0]; rfl), (ld flMA 73 (by decide)).trans (by rw [qC_hi hl 1]; rfl), (ld flMT 74 (by decide)).trans (by rw [qC_hi hl 2]; rfl), (ld flMT 75 (by decide)).trans (by rw [qC_hi hl 3]; rfl)⟩

theorem QRl.ql {b h : AH} {s : QS} {nm : Nat → Nat} {ob : Nat → Option AObj} (r : QRl b h s nm ob) : ∃ lv rv wv, QL h nm s lv rv wv ∧ h.get (nm 0) = some (.row (qC nm s lv rv wv) 60 true) ∧ rv.length = 64 ∧ ob 0 = some (.row (qC nm s lv rv wv) 60 true) ∧ OffV 1 48 lv (ob 1) (nm 1) s.left.length (s.left.map (.int .u32)) ∧
    (∀ i, i < 64 → EvV (rv.getD i undef) (ob (10 + i)) (nm (10 + i)) (s.ready.getD i [])) ∧ EvV wv (ob 9) (nm 9) s.waiting := by
  obtain ⟨lv, rv, wv, h0, h1, h2, h3, h4⟩ := r.q
  exact ⟨lv, rv, wv, qlAt (r.own.get _ _ h0) h2, r.own.get _ _ h0, h2, h0, h1, h3, h4⟩

theorem eqQn (A : Nat) : eqBin Try.prog .eql 24 (.pointer (some ⟨A, 0, none⟩)) (.pointer none) = some (.bool false) := by
  have hg : Try.prog.eqGuardType Try.prog.depth 24 = false := by kernel_rfl
  simp [eqBin, guardOn, hg, aEq, Try.underlying24]

theorem noneN {b h : AH} {s : QS} {nm : Nat → Nat} {ob : Nat → Option AObj} (r : QR b h s nm ob) : ACall Try.prog 21 [vA (nm 0)] h (fun v h' => v = .bool false ∧ h' = h) := by
  obtain ⟨lv, rv, wv, ql, -⟩ := r.ql
  refine ACall.of_wp 12 [.tmp 2] Try.func21 rfl (by kernel_rfl) rfl rfl fun a hn hd ha => ?_
  simp (disch := first | omega | decide) only [push_cast, ↓reduceIte, Nat.reduceLT, Nat.reduceEqDiff, reduceCtorEq, Nat.reduceAdd, hn, hd, ha, vA, eqQn, faL foQ0, faL foQ1, faL foQ2, faL foQ3, faL foQ4, faL foQ5, faL foQ6, faL foQ7, faL foQ8, faL foQ9, faL foQ10, faL foQ11, faL foQ12, ql.l0, ql.l1, ql.l2, ql.l3, ql.l4, ql.l5, ql.l6, ql.l7, ql.l9, ql.l10, ql.l11, ql.l12]

theorem existsN {h : AH} {i : Int} : ACall Try.prog 22 [.int .i64 i] h (fun v h' => v = .bool (decide (0 ≤ i ∧ i < 64)) ∧ h' = h) := by
  refine ACall.of_wp 9 [.tmp 2] Try.func22 rfl (by kernel_rfl) rfl rfl fun a hn hd ha => ?_
  by_cases e : 0 ≤ i
  · have e1 : decide (i ≥ 0) = true := by simpa using e
    simp (disch := first | omega | decide) only [push_cast, ↓reduceIte, Nat.reduceLT, Nat.reduceEqDiff, reduceCtorEq, Nat.reduceAdd, hn, hd, ha, e1]
    simp [e]
  · have e1 : decide (i ≥ 0) = false := by simpa using e
    simp (disch := first | omega | decide) only [push_cast, ↓reduceIte, Nat.reduceLT, Nat.reduceEqDiff, reduceCtorEq, Nat.reduceAdd, hn, hd, ha, e1]
    simp [e]

theorem checkN {b h : AH} {s : QS} {nm : Nat → Nat} {ob : Nat → Option AObj} (r : QR b h s nm ob) {i : Int} : ACall Try.prog 32 [vA (nm 0), .int .i64 i] h (fun v h' => v = .int .i64 (if 0 ≤ i ∧ i < 64 then 0 else 1) ∧ h' = h) := by
  refine ACall.of_wp 12 [.tmp 4] Try.func32 rfl (by kernel_rfl) rfl rfl fun a hn hd ha => ?_
  simp (disch := first | omega | decide) only [push_cast, ↓reduceIte, Nat.reduceLT, Nat.reduceEqDiff, reduceCtorEq, Nat.reduceAdd, hn, hd, ha]
  refine ACall.mono ?_ (noneN r)
  rintro _ _ ⟨rfl, rfl⟩
  simp (disch := first | omega | decide) only [push_cast, ↓reduceIte, Nat.reduceLT, Nat.reduceEqDiff, reduceCtorEq, Nat.reduceAdd, hn, hd, ha]
  refine ACall.mono ?_ existsN
  rintro _ _ ⟨rfl, rfl⟩
  by_cases e : 0 ≤ i ∧ i < 64
  · have e1 : decide (0 ≤ i ∧ i < 64) = true := by simpa using e
    simp (disch := first | omega | decide) only [push_cast, ↓reduceIte, Nat.reduceLT, Nat.reduceEqDiff, reduceCtorEq, Nat.reduceAdd, hn, hd, ha, e1]
    rw [if_pos e]
  · have e1 : decide (0 ≤ i ∧ i < 64) = false := by simpa using e
    simp (disch := first | omega | decide) only [push_cast, ↓reduceIte, Nat.reduceLT, Nat.reduceEqDiff, reduceCtorEq, Nat.reduceAdd, hn, hd, ha, e1]
    rw [if_neg e]

theorem mem_aput {α : Type} {k : Int} {x : α} {p : Int × α} : ∀ {l : List (Int × α)}, p ∈ aput k x l → p = (k, x) ∨ p ∈ l := by
  intro l
  induction l with
  | nil => intro h; simp only [aput, List.mem_cons, List.not_mem_nil, or_false] at h; exact .inl h
  | cons q l ih =>
    intro h
    by_cases hq : q.1 = k
    · simp only [aput, if_pos hq, List.mem_cons] at h
      rcases h with h | h
      · exact .inl h
      · exact .inr (List.mem_cons_of_mem _ h)
    · simp only [aput, if_neg hq, List.mem_cons] at h
      rcases h with h | h
      · exact .inr (h ▸ List.mem_cons_self ..)
      · rcases ih h with h | h
        · exact .inl h
        · exact .inr (List.mem_cons_of_mem _ h)
theorem mem_adel {α : Type} {k : Int} {p : Int × α} {l : List (Int × α)} (h : p ∈ adel k l) : p ∈ l := (adel_sub k l).subset h

theorem LatR.ob {nm : Nat → Nat} {ob ob' : Nat → Option AObj} {t : Nat} {l : Lat} (r : LatR nm ob t l) (h : ∀ r, 100 ≤ r → ob' r = ob r) : LatR nm ob' t l := by
  obtain ⟨⟨uv, a, b⟩, d, th⟩ := r
  exact ⟨⟨uv, by rw [h _ (by omega)]; exact a, by rw [h _ (by omega)]; exact b⟩, by rw [h _ (by omega)]; exact d, by rw [h _ (by omega)]; exact th⟩

theorem QR.set3 {b h : AH} {s : QS} {nm : Nat → Nat} {ob : Nat → Option AObj} (w0 : WFH b) (r : QR b h s nm ob) {l : List (Int × Bool)} {o' : AObj} (m : MapO vB o' l) (hl : ∀ p ∈ l, 0 ≤ p.1 ∧ p.1 < 64) : QR b (h.set (nm 3) o') { s with evals := l } nm (upd ob 3 (some o')) where
  own := by
    obtain ⟨o, ho, _⟩ := r.m3
    exact r.own.set w0 ho
  q := by
    obtain ⟨lv, rv, wv, h0, h1, h2, h3, h4⟩ := r.q
    exact ⟨lv, rv, wv, by rw [upd_ne _ _ (by decide)]; exact h0, by rw [upd_ne _ _ (by decide)]; exact h1, h2, fun i hi => by rw [upd_ne _ _ (by omega)]; exact h3 i hi, by rw [upd_ne _ _ (by decide)]; exact h4⟩
  m2 := by rw [upd_ne _ _ (by decide)]; exact r.m2
  m4 := by rw [upd_ne _ _ (by decide)]; exact r.m4
  m5 := by rw [upd_ne _ _ (by decide)]; exact r.m5
  m6 := by rw [upd_ne _ _ (by decide)]; exact r.m6
  m7 := by rw [upd_ne _ _ (by decide)]; exact r.m7
  m8 := by rw [upd_ne _ _ (by decide)]; exact r.m8
  m3 := ⟨o', by rw [upd_same], m⟩
  lat := fun p hp => (r.lat p hp).ob (fun i hi => upd_ne _ _ (by omega))
  ok := { r.ok with ke := hl }

theorem QR.set4 {b h : AH} {s : QS} {nm : Nat → Nat} {ob : Nat → Option AObj} (w0 : WFH b) (r : QR b h s nm ob) {l : List (Int × Bool)} {o' : AObj} (m : MapO vB o' l) (hl : ∀ p ∈ l, 0 ≤ p.1 ∧ p.1 < 64) : QR b (h.set (nm 4) o') { s with threads := l } nm (upd ob 4 (some o')) where
  own := by
    obtain ⟨o, ho, _⟩ := r.m4
    exact r.own.set w0 ho
  q := by
    obtain ⟨lv, rv, wv, h0, h1, h2, h3, h4⟩ := r.q
    exact ⟨lv, rv, wv, by rw [upd_ne _ _ (by decide)]; exact h0, by rw [upd_ne _ _ (by decide)]; exact h1, h2, fun i hi => by rw [upd_ne _ _ (by omega)]; exact h3 i hi, by rw [upd_ne _ _ (by decide)]; exact h4⟩
  m2 := by rw [upd_ne _ _ (by decide)]; exact r.m2
  m3 := by rw [upd_ne _ _ (by decide)]; exact r.m3
  m5 := by rw [upd_ne _ _ (by decide)]; exact r.m5
  m6 := by rw [upd_ne _ _ (by decide)]; exact r.m6
  m7 := by rw [upd_ne _ _ (by decide)]; exact r.m7
  m8 := by rw [upd_ne _ _ (by decide)]; exact r.m8
  m4 := ⟨o', by rw [upd_same], m⟩
  lat := fun p hp => (r.lat p hp).ob (fun i hi => upd_ne _ _ (by omega))
  ok := { r.ok with kt := hl }

theorem QR.set5 {b h : AH} {s : QS} {nm : Nat → Nat} {ob : Nat → Option AObj} (w0 : WFH b) (r : QR b h s nm ob) {l : List (Int × Bool)} {o' : AObj} (m : MapO vB o' l) (hl : ∀ p ∈ l, 0 ≤ p.1 ∧ p.1 < 64) : QR b (h.set (nm 5) o') { s with quiet := l } nm (upd ob 5 (some o')) where
  own := by
    obtain ⟨o, ho, _⟩ := r.m5
    exact r.own.set w0 ho
  q := by
    obtain ⟨lv, rv, wv, h0, h1, h2, h3, h4⟩ := r.q
    exact ⟨lv, rv, wv, by rw [upd_ne _ _ (by decide)]; exact h0, by rw [upd_ne _ _ (by decide)]; exact h1, h2, fun i hi => by rw [upd_ne _ _ (by omega)]; exact h3 i hi, by rw [upd_ne _ _ (by decide)]; exact h4⟩
  m2 := by rw [upd_ne _ _ (by decide)]; exact r.m2
  m3 := by rw [upd_ne _ _ (by decide)]; exact r.m3
  m4 := by rw [upd_ne _ _ (by decide)]; exact r.m4
  m6 := by rw [upd_ne _ _ (by decide)]; exact r.m6
  m7 := by rw [upd_ne _ _ (by decide)]; exact r.m7
  m8 := by rw [upd_ne _ _ (by decide)]; exact r.m8
  m5 := ⟨o', by rw [upd_same], m⟩
  lat := fun p hp => (r.lat p hp).ob (fun i hi => upd_ne _ _ (by omega))
  ok := { r.ok with kq := hl }


theorem nowN {b h : AH} {s : QS} {nm : Nat → Nat} {ob : Nat → Option AObj} (r : QR b h s nm ob) : ACall Try.prog 26 [vA (nm 0)] h (fun v h' => v = .int .i64 s.now ∧ h' = h) := by
  obtain ⟨lv, rv, wv, ql, -⟩ := r.ql
  refine ACall.of_wp 9 [.tmp 2] Try.func26 rfl (by kernel_rfl) rfl rfl fun a hn hd ha => ?_
  simp (disch := first | omega | decide) only [push_cast, ↓reduceIte, Nat.reduceLT, Nat.reduceEqDiff, reduceCtorEq, Nat.reduceAdd, hn, hd, ha]
  refine ACall.mono ?_ (noneN r)
  rintro _ _ ⟨rfl, rfl⟩
  simp (disch := first | omega | decide) only [push_cast, ↓reduceIte, Nat.reduceLT, Nat.reduceEqDiff, reduceCtorEq, Nat.reduceAdd, hn, hd, ha, vA, faL foQ0, faL foQ1, faL foQ2, faL foQ3, faL foQ4, faL foQ5, faL foQ6, faL foQ7, faL foQ8, faL foQ9, faL foQ10, faL foQ11, faL foQ12, ql.l0, ql.l1, ql.l2, ql.l3, ql.l4, ql.l5, ql.l6, ql.l7, ql.l9, ql.l10, ql.l11, ql.l12]

theorem evaluateN {b h : AH} {s : QS} {nm : Nat → Nat} {ob : Nat → Option AObj} (w0 : WFH b) (r : QR b h s nm ob) {i : Int} : ACall Try.prog 13 [vA (nm 0), .int .i64 i] h (fun v h' => v = .int .i64 (if 0 ≤ i ∧ i < 64 then 0 else 1) ∧ ∃ ob', QR b h' (if 0 ≤ i ∧ i < 64 then { s with evals := aput i true s.evals } else s) nm ob' ∧ Rest h h' nm nm ob ob') := by
  refine ACall.of_wp 17 [.tmp 4] Try.func13 rfl (by kernel_rfl) rfl rfl fun a hn hd ha => ?_
  simp (disch := first | omega | decide) only [push_cast, ↓reduceIte, Nat.reduceLT, Nat.reduceEqDiff, reduceCtorEq, Nat.reduceAdd, hn, hd, ha]
  refine ACall.mono ?_ (checkN r)
  rintro _ h ⟨rfl, rfl⟩
  obtain ⟨lv, rv, wv, ql, -⟩ := r.ql
  by_cases e : 0 ≤ i ∧ i < 64
  · rw [if_pos e]
    obtain ⟨o, ho, m⟩ := r.m3
    have mp : MapL vB h (nm 3) s.evals := ⟨o, r.own.get _ _ ho, m⟩
    obtain ⟨o', hup, m'⟩ := mp.put mtB i true
    have hup : aUpdate Try.prog 55 (.map (some (nm 3))) (.int .i64 i) (.bool true) h = some (h.set (nm 3) o') := hup
    simp (disch := first | omega | decide) only [push_cast, ↓reduceIte, Nat.reduceLT, Nat.reduceEqDiff, reduceCtorEq, Nat.reduceAdd, hn, hd, ha, vA, faL foQ0, faL foQ1, faL foQ2, faL foQ3, faL foQ4, faL foQ5, faL foQ6, faL foQ7, faL foQ8, faL foQ9, faL foQ10, faL foQ11, faL foQ12, ql.l0, ql.l1, ql.l2, ql.l3, ql.l4, ql.l5, ql.l6, ql.l7, ql.l9, ql.l10, ql.l11, ql.l12, hup]
    rw [if_pos e]
    exact ⟨_, r.set3 w0 m' (fun p hp => by
      rcases mem_aput hp with rfl | hp
      · exact e
      · exact r.ok.ke p hp), Rest.set r.own.gr.wf _ ho⟩
  · rw [if_neg e]
    have hz : decide ((1 : Int) = 0) = false := rfl
    simp (disch := first | omega | decide) only [push_cast, ↓reduceIte, Nat.reduceLT, Nat.reduceEqDiff, reduceCtorEq, Nat.reduceAdd, hn, hd, ha, hz]
    rw [if_neg e]
    exact ⟨_, r, Rest.refl r.own.gr.wf _ _⟩

theorem threadN {b h : AH} {s : QS} {nm : Nat → Nat} {ob : Nat → Option AObj} (w0 : WFH b) (r : QR b h s nm ob) {i : Int} : ACall Try.prog 14 [vA (nm 0), .int .i64 i] h (fun v h' => v = .int .i64 (if 0 ≤ i ∧ i < 64 then 0 else 1) ∧ ∃ ob', QR b h' (if 0 ≤ i ∧ i < 64 then { s with threads := aput i true s.threads } else s) nm ob' ∧ Rest h h' nm nm ob ob') := by
  refine ACall.of_wp 17 [.tmp 4] Try.func14 rfl (by kernel_rfl) rfl rfl fun a hn hd ha => ?_
  simp (disch := first | omega | decide) only [push_cast, ↓reduceIte, Nat.reduceLT, Nat.reduceEqDiff, reduceCtorEq, Nat.reduceAdd, hn, hd, ha]
  refine ACall.mono ?_ (checkN r)
  rintro _ h ⟨rfl, rfl⟩
  obtain ⟨lv, rv, wv, ql, -⟩ := r.ql
  by_cases e : 0 ≤ i ∧ i < 64
  · rw [if_pos e]
    obtain ⟨o, ho, m⟩ := r.m4
    have mp : MapL vB h (nm 4) s.threads := ⟨o, r.own.get _ _ ho, m⟩
    obtain ⟨o', hup, m'⟩ := mp.put mtB i true
    have hup : aUpdate Try.prog 55 (.map (some (nm 4))) (.int .i64 i) (.bool true) h = some (h.set (nm 4) o') := hup
    simp (disch := first | omega | decide) only [push_cast, ↓reduceIte, Nat.reduceLT, Nat.reduceEqDiff, reduceCtorEq, Nat.reduceAdd, hn, hd, ha, vA, faL foQ0, faL foQ1, faL foQ2, faL foQ3, faL foQ4, faL foQ5, faL foQ6, faL foQ7, faL foQ8, faL foQ9, faL foQ10, faL foQ11, faL foQ12, ql.l0, ql.l1, ql.l2, ql.l3, ql.l4, ql.l5, ql.l6, ql.l7, ql.l9, ql.l10, ql.l11, ql.l12, hup]
    rw [if_pos e]
    exact ⟨_, r.set4 w0 m' (fun p hp => by
      rcases mem_aput hp with rfl | hp
      · exact e
      · exact r.ok.kt p hp), Rest.set r.own.gr.wf _ ho⟩
  · rw [if_neg e]
    have hz : decide ((1 : Int) = 0) = false := rfl
    simp (disch := first | omega | decide) only [push_cast, ↓reduceIte, Nat.reduceLT, Nat.reduceEqDiff, reduceCtorEq, Nat.reduceAdd, hn, hd, ha, hz]
    rw [if_neg e]
    exact ⟨_, r, Rest.refl r.own.gr.wf _ _⟩

theorem inactiveN {b h : AH} {s : QS} {nm : Nat → Nat} {ob : Nat → Option AObj} (w0 : WFH b) (r : QR b h s nm ob) {i : Int} : ACall Try.prog 12 [vA (nm 0), .int .i64 i] h (fun v h' => v = .int .i64 (if 0 ≤ i ∧ i < 64 then 0 else 1) ∧ ∃ ob', QR b h' (if 0 ≤ i ∧ i < 64 then { s with quiet := aput i true s.quiet } else s) nm ob' ∧ Rest h h' nm nm ob ob') := by
  refine ACall.of_wp 17 [.tmp 4] Try.func12 rfl (by kernel_rfl) rfl rfl fun a hn hd ha => ?_
  simp (disch := first | omega | decide) only [push_cast, ↓reduceIte, Nat.reduceLT, Nat.reduceEqDiff, reduceCtorEq, Nat.reduceAdd, hn, hd, ha]
  refine ACall.mono ?_ (checkN r)
  rintro _ h ⟨rfl, rfl⟩
  obtain ⟨lv, rv, wv, ql, -⟩ := r.ql
  by_cases e : 0 ≤ i ∧ i < 64
  · rw [if_pos e]
    obtain ⟨o, ho, m⟩ := r.m5
    have mp : MapL vB h (nm 5) s.quiet := ⟨o, r.own.get _ _ ho, m⟩
    obtain ⟨o', hup, m'⟩ := mp.put mtB i true
    have hup : aUpdate Try.prog 55 (.map (some (nm 5))) (.int .i64 i) (.bool true) h = some (h.set (nm 5) o') := hup
    simp (disch := first | omega | decide) only [push_cast, ↓reduceIte, Nat.reduceLT, Nat.reduceEqDiff, reduceCtorEq, Nat.reduceAdd, hn, hd, ha, vA, faL foQ0, faL foQ1, faL foQ2, faL foQ3, faL foQ4, faL foQ5, faL foQ6, faL foQ7, faL foQ8, faL foQ9, faL foQ10, faL foQ11, faL foQ12, ql.l0, ql.l1, ql.l2, ql.l3, ql.l4, ql.l5, ql.l6, ql.l7, ql.l9, ql.l10, ql.l11, ql.l12, hup]
    rw [if_pos e]
    exact ⟨_, r.set5 w0 m' (fun p hp => by
      rcases mem_aput hp with rfl | hp
      · exact e
      · exact r.ok.kq p hp), Rest.set r.own.gr.wf _ ho⟩
  · rw [if_neg e]
    have hz : decide ((1 : Int) = 0) = false := rfl
    simp (disch := first | omega | decide) only [push_cast, ↓reduceIte, Nat.reduceLT, Nat.reduceEqDiff, reduceCtorEq, Nat.reduceAdd, hn, hd, ha, hz]
    rw [if_neg e]
    exact ⟨_, r, Rest.refl r.own.gr.wf _ _⟩


def keysL {α : Type} (l : List (Int × α)) : List Int := sortL (l.map (·.1))
def heads : List (List Ev) → List Ev
  | [] => []
  | [] :: l => heads l
  | (x :: _) :: l => x :: heads l
def listE (s : QS) : List Ev :=
  (keysL s.drives).map (fun k => ⟨1, k, (aget k s.drives).getD 0⟩) ++ ((keysL s.evals).map (fun k => ⟨2, k, 0⟩) ++ ((keysL s.threads).map (fun k => ⟨3, k, 0⟩) ++ heads s.ready))

theorem infV : ∃ i, Try.prog.info? 33 = some i ∧ i.zero = some (.agg #[.int .u8 0, .int .i64 0, .int .i64 0]) := ⟨(Try.prog.info? 33).get (by kernel_rfl), by kernel_rfl, by kernel_rfl⟩

theorem buildS {t : TypeId} {zs : List Value} {pl : List (Nat × Nat)} (hz : ∃ i, Try.prog.info? t = some i ∧ i.zero = some (.agg zs.toArray)) (hp : plain 9 (.agg zs.toArray) = true) (hs : ∃ fs, Try.prog.underlying t = some (.struct fs) ∧ sizesOf Try.prog fs.toList = some pl)
    (ps : List (Nat × Value)) : aBuild Try.prog t ps = (fillL (fun k => pl[k]?) zs ps).map fun c => .agg c.toArray := by
  obtain ⟨ib, hb1, hb2⟩ := hz
  obtain ⟨fs, hf1, hf2⟩ := hs
  have hcz : (Value.agg zs.toArray).cells = zs.toArray := rfl
  simp only [aBuild, hb1, hb2, hf1, hf2, hp, hcz]
  simp
theorem buildV3 (x y z : Int) : aBuild Try.prog 33 [(0, .int .u8 x), (1, .int .i64 y), (2, .int .i64 z)] = some (.agg (evC ⟨x, y, z⟩).toArray) := by
  have h1 : ∀ k x, (Value.int k x).cells = #[.int k x] := fun _ _ => rfl
  rw [buildS (zs := [.int .u8 0, .int .i64 0, .int .i64 0]) (pl := [(0, 1), (1, 1), (2, 1)]) infV rfl ⟨_, Try.underlying33, by kernel_rfl⟩]
  simp [fillL, h1, setL, evC]
theorem buildV2 (x y : Int) : aBuild Try.prog 33 [(0, .int .u8 x), (1, .int .i64 y)] = some (.agg (evC ⟨x, y, 0⟩).toArray) := by
  have h1 : ∀ k x, (Value.int k x).cells = #[.int k x] := fun _ _ => rfl
  rw [buildS (zs := [.int .u8 0, .int .i64 0, .int .i64 0]) (pl := [(0, 1), (1, 1), (2, 1)]) infV rfl ⟨_, Try.underlying33, by kernel_rfl⟩]
  simp [fillL, h1, setL, evC]
theorem buildV0 : aBuild Try.prog 33 [] = some (.agg (evC ⟨0, 0, 0⟩).toArray) := by
  rw [buildS (zs := [.int .u8 0, .int .i64 0, .int .i64 0]) (pl := [(0, 1), (1, 1), (2, 1)]) infV rfl ⟨_, Try.underlying33, by kernel_rfl⟩]
  simp [fillL, evC]

/-- A step that touches X alone, of the old blocks. -/
structure Tch (X : Nat → Prop) (h h' : AH) : Prop where
  wf : WFH h'
  nx : h.next ≤ h'.next
  keep : ∀ C o, ¬ X C → h.get C = some o → h'.get C = some o

theorem Tch.of {X : Nat → Prop} {h h' : AH} (g : Gr h h') : Tch X h h' := ⟨g.wf, g.nx, fun C o _ hC => g.sub C o hC⟩
theorem Tch.trans {X : Nat → Prop} {a b c : AH} (x : Tch X a b) (y : Tch X b c) : Tch X a c := ⟨y.wf, Nat.le_trans x.nx y.nx, fun C o n h => y.keep C o n (x.keep C o n h)⟩
theorem Tch.refl {X : Nat → Prop} {h : AH} (w : WFH h) : Tch X h h := ⟨w, Nat.le_refl _, fun _ _ _ h => h⟩

/-- X are blocks that are neither of the base nor of the queue. -/
def Off (X : Nat → Prop) (b : AH) (nm : Nat → Nat) (ob : Nat → Option AObj) : Prop := (∀ C, X C → b.next ≤ C) ∧ ∀ r o, ob r = some o → ¬ X (nm r)

theorem QR.tch {b h h' : AH} {s : QS} {nm : Nat → Nat} {ob : Nat → Option AObj} {X : Nat → Prop} (w0 : WFH b) (r : QR b h s nm ob) (f : Off X b nm ob) (t : Tch X h h') : QR b h' s nm ob :=
  { r with own := ⟨fun j o hj => t.keep _ _ (f.2 j o hj) (r.own.get j o hj), r.own.dis, r.own.lo, ⟨t.wf, fun C o hC => t.keep C o (fun hX => by
      have := f.1 C hX
      have := AH.get_lt w0 hC
      omega) (r.own.gr.sub C o hC), Nat.le_trans r.own.gr.nx t.nx⟩⟩ }


theorem sl1I : Sl1 Try.prog 47 3 := tI.sl1
theorem flP : Fl Try.prog 24 := ⟨_, Try.underlying24, rfl⟩

/-- What the closure's loops lean on. -/
structure LC (b h : AH) (s : QS) (nm : Nat → Nat) (ob : Nat → Option AObj) (X : Nat → Prop) (B : Nat) : Prop where
  w0 : WFH b
  r : QR b h s nm ob
  f : Off X b nm ob
  hB : CsAt h B [vA (nm 0)]
  hX : ¬ X B
theorem LC.tch {b h h' : AH} {s : QS} {nm : Nat → Nat} {ob : Nat → Option AObj} {X : Nat → Prop} {B : Nat} (c : LC b h s nm ob X B) (t : Tch X h h') : LC b h' s nm ob X B := ⟨c.w0, c.r.tch c.w0 c.f t, c.f, let ⟨o, x, y⟩ := c.hB; ⟨o, t.keep _ _ c.hX x, y⟩, c.hX⟩

/-- A yield of the closure. -/
def Yl (yv : Value) (h : AH) (X : Nat → Prop) (L : List Ev) (J D : List Ev → AH → Prop) : Prop :=
  (∀ acc h1 h2, J acc h1 → Gr h1 h2 → J acc h2) ∧
  ∀ acc x rest h1, L = acc ++ x :: rest → J acc h1 → Tch X h h1 → callR Try.prog yv [.agg (evC x).toArray] h1 (fun v h2 => Tch X h1 h2 ∧ ((v = .bool true ∧ J (acc ++ [x]) h2) ∨ (v = .bool false ∧ D (acc ++ [x]) h2)))
def Stop (L : List Ev) (D : List Ev → AH → Prop) (h' : AH) : Prop := ∃ acc x rest, L = acc ++ x :: rest ∧ D (acc ++ [x]) h'

theorem take_getD {α : Type} {l : List α} {i : Nat} (hi : i < l.length) (d : α) : l.take (i + 1) = l.take i ++ [l.getD i d] := by
  rw [List.take_add_one, List.getElem?_eq_getElem hi, List.getD_eq_getElem?_getD, List.getElem?_eq_getElem hi]; rfl
theorem drop_getD {α : Type} {l : List α} {i : Nat} (hi : i < l.length) (d : α) : l.drop i = l.getD i d :: l.drop (i + 1) := by
  rw [List.drop_eq_getElem_cons hi, List.getD_eq_getElem?_getD, List.getElem?_eq_getElem hi]; rfl

theorem listL0 {b h0 h : AH} {s : QS} {nm : Nat → Nat} {ob : Nat → Option AObj} {X : Nat → Prop} {B : Nat} {yv : Value} {L acc0 rest : List Ev} {J D : List Ev → AH → Prop} {a : AAct} {v : Value} {ks : List Int} (c : LC b h s nm ob X B) (t0 : Tch X h0 h) (y : Yl yv h0 X L J D)
    (hn : a.n = 87) (hd : a.df = []) (h0' : a.tm 0 = yv) (h1' : a.tm 1 = .pointer (some ⟨B, 0, none⟩)) (hsl : a.tm 16 = v) (hln : a.tm 17 = .int .i64 ks.length) (hix : a.tm 18 = .int .i64 0) (hv : SlOf h v (ks.map (.int .i64))) (hvX : ∀ C off l c, v = .slice (some ⟨C, off, none⟩) l c → ¬ X C) (hb : ks.length ≤ 4611686018427387904)
    (hL : L = acc0 ++ (ks.map (fun k => ⟨1, k, (aget k s.drives).getD 0⟩ : Int → Ev) ++ rest)) (j : J acc0 h) :
    AW Try.prog none (bodyBlk Try.f38 0) (fun e a' h' => Tch X h0 h' ∧ ((e = .exit 0 ∧ a'.n = 87 ∧ a'.df = [] ∧ a'.tm 0 = yv ∧ a'.tm 1 = .pointer (some ⟨B, 0, none⟩) ∧ J (acc0 ++ ks.map (fun k => ⟨1, k, (aget k s.drives).getD 0⟩ : Int → Ev)) h') ∨ (e = .ret ∧ a'.n = 87 ∧ a'.df = [] ∧ Stop L D h'))) a h := by
  refine AW.at (rfl : bodyBlk Try.f38 0 = .loop _) ?_
  refine AW.loopN 18 [4] (fun q a' h' => ∃ (i : Nat), a'.tm 18 = .int .i64 i ∧ i + q = ks.length ∧ Tch X h h' ∧ J (acc0 ++ (ks.take i).map (fun k => ⟨1, k, (aget k s.drives).getD 0⟩ : Int → Ev)) h') ks.length ?_ ?_
  · exact ⟨0, by rw [hix]; rfl, by omega, Tch.refl c.r.own.gr.wf, by simpa using j⟩
  rintro a1 q a' k hk kn kd kt ⟨i, hi', hiq, t, j⟩
  have hvk : SlOf k v (ks.map (.int .i64)) := by
    obtain ⟨p, l, cc, rfl, hl, hsp, hcs⟩ := hv
    refine ⟨p, l, cc, rfl, hl, hsp, ?_⟩
    rcases hcs with e | ⟨A, off, o, cs, rfl, hg, hc, hall⟩
    · exact .inl e
    · exact .inr ⟨A, off, o, cs, rfl, t.keep _ _ (hvX _ _ _ _ rfl) hg, hc, hall⟩
  have c' := c.tch t
  obtain ⟨lv, rv, wv, ql, -⟩ := c'.r.ql
  have hBk : aLoad Try.prog 24 (.pointer (some ⟨B, 0, none⟩)) k = some (.pointer (some ⟨nm 0, 0, none⟩)) := c'.hB.ld flP 0 (by show 0 < 1; decide)
  simp (disch := first | omega | decide) only [push_cast, ↓reduceIte, Nat.reduceLT, Nat.reduceEqDiff, reduceCtorEq, Nat.reduceAdd, kn, kd, kt, hn, hd, h0', h1', hsl, hln, hi']
  refine condV_of (fun hlt => ?_) (fun hge => ?_)
  · have hi : i < ks.length := by have := hlt; simp at this; omega
    have hw : IntKind.i64.wrap ((i : Int) + 1) = i + 1 := wrapI (by omega) (by omega)
    have hLe : L = (acc0 ++ (ks.take i).map (fun k => ⟨1, k, (aget k s.drives).getD 0⟩ : Int → Ev)) ++ (fun k => ⟨1, k, (aget k s.drives).getD 0⟩ : Int → Ev) (ks.getD i 0) :: ((ks.drop (i + 1)).map (fun k => ⟨1, k, (aget k s.drives).getD 0⟩ : Int → Ev) ++ rest) := by
      rw [hL, List.append_assoc, ← List.cons_append, ← List.map_cons (f := (fun k => ⟨1, k, (aget k s.drives).getD 0⟩ : Int → Ev)), ← drop_getD hi 0, ← List.append_assoc (List.map _ _), ← List.map_append, List.take_append_drop]
    have hy := y.2 _ _ _ k hLe j (t0.trans t)
    have hlk : aLookup Try.prog 54 (.map (some (nm 2))) (.int .i64 (ks.getD i 0)) false k = some (.int .i64 ((aget (ks.getD i 0) s.drives).getD 0)) := by
      obtain ⟨o, ho, m⟩ := c'.r.m2
      have mp : MapL vI k (nm 2) s.drives := ⟨o, c'.r.own.get _ _ ho, m⟩
      rw [mp.look mtD]
      cases aget (ks.getD i 0) s.drives <;> rfl
    simp (disch := first | omega | decide) only [push_cast, ↓reduceIte, Nat.reduceLT, Nat.reduceEqDiff, reduceCtorEq, Nat.reduceAdd, kn, kd, kt, hn, hd, h0', h1', hsl, hln, hi', hvk.idxI sl1I, hvk.ldI sl1I, hBk, faL foQ0, faL foQ1, faL foQ2, faL foQ3, faL foQ4, faL foQ5, faL foQ6, faL foQ7, faL foQ8, faL foQ9, faL foQ10, faL foQ11, faL foQ12, ql.l0, ql.l1, ql.l2, ql.l3, ql.l4, ql.l5, ql.l6, ql.l7, ql.l9, ql.l10, ql.l11, ql.l12, hlk, buildV3]
    refine callR.mono ?_ hy
    rintro _ k2 ⟨t2, ⟨rfl, j2⟩ | ⟨rfl, d2⟩⟩
    · simp (disch := first | omega | decide) only [push_cast, ↓reduceIte, Nat.reduceLT, Nat.reduceEqDiff, reduceCtorEq, Nat.reduceAdd, kn, kd, kt, hn, hd, h0', h1', hsl, hln, hi', hw]
      exact ⟨q - 1, by omega, (by simp (disch := decide) only [Kp_put, put_none, hk]), i + 1, by simp (disch := first | omega | decide) only [push_cast, ↓reduceIte, Nat.reduceLT, Nat.reduceEqDiff, reduceCtorEq, Nat.reduceAdd], by omega, t.trans t2, by rw [take_getD hi 0, List.map_append, ← List.append_assoc]; exact j2⟩
    · simp (disch := first | omega | decide) only [push_cast, ↓reduceIte, Nat.reduceLT, Nat.reduceEqDiff, reduceCtorEq, Nat.reduceAdd, kn, kd, kt, hn, hd, h0', h1', hsl, hln, hi', hw]
      exact ⟨(t0.trans t).trans t2, .inr ⟨_, _, _, hLe, d2⟩⟩
  · have hi : i = ks.length := by have := hge; simp at this; omega
    subst hi
    simp (disch := first | omega | decide) only [push_cast, ↓reduceIte, Nat.reduceLT, Nat.reduceEqDiff, reduceCtorEq, Nat.reduceAdd, kn, kd, kt, hn, hd, h0', h1', hsl, hln, hi']
    rw [List.take_length] at j
    exact ⟨t0.trans t, .inl j⟩

theorem listL2 {b h0 h : AH} {s : QS} {nm : Nat → Nat} {ob : Nat → Option AObj} {X : Nat → Prop} {B : Nat} {yv : Value} {L acc0 rest : List Ev} {J D : List Ev → AH → Prop} {a : AAct} {v : Value} {ks : List Int} (c : LC b h s nm ob X B) (t0 : Tch X h0 h) (y : Yl yv h0 X L J D)
    (hn : a.n = 87) (hd : a.df = []) (h0' : a.tm 0 = yv) (h1' : a.tm 1 = .pointer (some ⟨B, 0, none⟩)) (hsl : a.tm 39 = v) (hln : a.tm 40 = .int .i64 ks.length) (hix : a.tm 41 = .int .i64 0) (hv : SlOf h v (ks.map (.int .i64))) (hvX : ∀ C off l c, v = .slice (some ⟨C, off, none⟩) l c → ¬ X C) (hb : ks.length ≤ 4611686018427387904)
    (hL : L = acc0 ++ (ks.map (fun k => ⟨2, k, 0⟩ : Int → Ev) ++ rest)) (j : J acc0 h) :
    AW Try.prog none (bodyBlk Try.f38 2) (fun e a' h' => Tch X h0 h' ∧ ((e = .exit 2 ∧ a'.n = 87 ∧ a'.df = [] ∧ a'.tm 0 = yv ∧ a'.tm 1 = .pointer (some ⟨B, 0, none⟩) ∧ J (acc0 ++ ks.map (fun k => ⟨2, k, 0⟩ : Int → Ev)) h') ∨ (e = .ret ∧ a'.n = 87 ∧ a'.df = [] ∧ Stop L D h'))) a h := by
  refine AW.at (rfl : bodyBlk Try.f38 2 = .loop _) ?_
  refine AW.loopN 41 [6] (fun q a' h' => ∃ (i : Nat), a'.tm 41 = .int .i64 i ∧ i + q = ks.length ∧ Tch X h h' ∧ J (acc0 ++ (ks.take i).map (fun k => ⟨2, k, 0⟩ : Int → Ev)) h') ks.length ?_ ?_
  · exact ⟨0, by rw [hix]; rfl, by omega, Tch.refl c.r.own.gr.wf, by simpa using j⟩
  rintro a1 q a' k hk kn kd kt ⟨i, hi', hiq, t, j⟩
  have hvk : SlOf k v (ks.map (.int .i64)) := by
    obtain ⟨p, l, cc, rfl, hl, hsp, hcs⟩ := hv
    refine ⟨p, l, cc, rfl, hl, hsp, ?_⟩
    rcases hcs with e | ⟨A, off, o, cs, rfl, hg, hc, hall⟩
    · exact .inl e
    · exact .inr ⟨A, off, o, cs, rfl, t.keep _ _ (hvX _ _ _ _ rfl) hg, hc, hall⟩
  have c' := c.tch t
  obtain ⟨lv, rv, wv, ql, -⟩ := c'.r.ql
  have hBk : aLoad Try.prog 24 (.pointer (some ⟨B, 0, none⟩)) k = some (.pointer (some ⟨nm 0, 0, none⟩)) := c'.hB.ld flP 0 (by show 0 < 1; decide)
  simp (disch := first | omega | decide) only [push_cast, ↓reduceIte, Nat.reduceLT, Nat.reduceEqDiff, reduceCtorEq, Nat.reduceAdd, kn, kd, kt, hn, hd, h0', h1', hsl, hln, hi']
  refine condV_of (fun hlt => ?_) (fun hge => ?_)
  · have hi : i < ks.length := by have := hlt; simp at this; omega
    have hw : IntKind.i64.wrap ((i : Int) + 1) = i + 1 := wrapI (by omega) (by omega)
    have hLe : L = (acc0 ++ (ks.take i).map (fun k => ⟨2, k, 0⟩ : Int → Ev)) ++ (fun k => ⟨2, k, 0⟩ : Int → Ev) (ks.getD i 0) :: ((ks.drop (i + 1)).map (fun k => ⟨2, k, 0⟩ : Int → Ev) ++ rest) := by
      rw [hL, List.append_assoc, ← List.cons_append, ← List.map_cons (f := (fun k => ⟨2, k, 0⟩ : Int → Ev)), ← drop_getD hi 0, ← List.append_assoc (List.map _ _), ← List.map_append, List.take_append_drop]
    have hy := y.2 _ _ _ k hLe j (t0.trans t)
    simp (disch := first | omega | decide) only [push_cast, ↓reduceIte, Nat.reduceLT, Nat.reduceEqDiff, reduceCtorEq, Nat.reduceAdd, kn, kd, kt, hn, hd, h0', h1', hsl, hln, hi', hvk.idxI sl1I, hvk.ldI sl1I, hBk, faL foQ0, faL foQ1, faL foQ2, faL foQ3, faL foQ4, faL foQ5, faL foQ6, faL foQ7, faL foQ8, faL foQ9, faL foQ10, faL foQ11, faL foQ12, ql.l0, ql.l1, ql.l2, ql.l3, ql.l4, ql.l5, ql.l6, ql.l7, ql.l9, ql.l10, ql.l11, ql.l12, buildV2]
    refine callR.mono ?_ hy
    rintro _ k2 ⟨t2, ⟨rfl, j2⟩ | ⟨rfl, d2⟩⟩
    · simp (disch := first | omega | decide) only [push_cast, ↓reduceIte, Nat.reduceLT, Nat.reduceEqDiff, reduceCtorEq, Nat.reduceAdd, kn, kd, kt, hn, hd, h0', h1', hsl, hln, hi', hw]
      exact ⟨q - 1, by omega, (by simp (disch := decide) only [Kp_put, put_none, hk]), i + 1, by simp (disch := first | omega | decide) only [push_cast, ↓reduceIte, Nat.reduceLT, Nat.reduceEqDiff, reduceCtorEq, Nat.reduceAdd], by omega, t.trans t2, by rw [take_getD hi 0, List.map_append, ← List.append_assoc]; exact j2⟩
    · simp (disch := first | omega | decide) only [push_cast, ↓reduceIte, Nat.reduceLT, Nat.reduceEqDiff, reduceCtorEq, Nat.reduceAdd, kn, kd, kt, hn, hd, h0', h1', hsl, hln, hi', hw]
      exact ⟨(t0.trans t).trans t2, .inr ⟨_, _, _, hLe, d2⟩⟩
  · have hi : i = ks.length := by have := hge; simp at this; omega
    subst hi
    simp (disch := first | omega | decide) only [push_cast, ↓reduceIte, Nat.reduceLT, Nat.reduceEqDiff, reduceCtorEq, Nat.reduceAdd, kn, kd, kt, hn, hd, h0', h1', hsl, hln, hi']
    rw [List.take_length] at j
    exact ⟨t0.trans t, .inl j⟩

theorem listL4 {b h0 h : AH} {s : QS} {nm : Nat → Nat} {ob : Nat → Option AObj} {X : Nat → Prop} {B : Nat} {yv : Value} {L acc0 rest : List Ev} {J D : List Ev → AH → Prop} {a : AAct} {v : Value} {ks : List Int} (c : LC b h s nm ob X B) (t0 : Tch X h0 h) (y : Yl yv h0 X L J D)
    (hn : a.n = 87) (hd : a.df = []) (h0' : a.tm 0 = yv) (h1' : a.tm 1 = .pointer (some ⟨B, 0, none⟩)) (hsl : a.tm 56 = v) (hln : a.tm 57 = .int .i64 ks.length) (hix : a.tm 58 = .int .i64 0) (hv : SlOf h v (ks.map (.int .i64))) (hvX : ∀ C off l c, v = .slice (some ⟨C, off, none⟩) l c → ¬ X C) (hb : ks.length ≤ 4611686018427387904)
    (hL : L = acc0 ++ (ks.map (fun k => ⟨3, k, 0⟩ : Int → Ev) ++ rest)) (j : J acc0 h) :
    AW Try.prog none (bodyBlk Try.f38 4) (fun e a' h' => Tch X h0 h' ∧ ((e = .exit 4 ∧ a'.n = 87 ∧ a'.df = [] ∧ a'.tm 0 = yv ∧ a'.tm 1 = .pointer (some ⟨B, 0, none⟩) ∧ J (acc0 ++ ks.map (fun k => ⟨3, k, 0⟩ : Int → Ev)) h') ∨ (e = .ret ∧ a'.n = 87 ∧ a'.df = [] ∧ Stop L D h'))) a h := by
  refine AW.at (rfl : bodyBlk Try.f38 4 = .loop _) ?_
  refine AW.loopN 58 [8] (fun q a' h' => ∃ (i : Nat), a'.tm 58 = .int .i64 i ∧ i + q = ks.length ∧ Tch X h h' ∧ J (acc0 ++ (ks.take i).map (fun k => ⟨3, k, 0⟩ : Int → Ev)) h') ks.length ?_ ?_
  · exact ⟨0, by rw [hix]; rfl, by omega, Tch.refl c.r.own.gr.wf, by simpa using j⟩
  rintro a1 q a' k hk kn kd kt ⟨i, hi', hiq, t, j⟩
  have hvk : SlOf k v (ks.map (.int .i64)) := by
    obtain ⟨p, l, cc, rfl, hl, hsp, hcs⟩ := hv
    refine ⟨p, l, cc, rfl, hl, hsp, ?_⟩
    rcases hcs with e | ⟨A, off, o, cs, rfl, hg, hc, hall⟩
    · exact .inl e
    · exact .inr ⟨A, off, o, cs, rfl, t.keep _ _ (hvX _ _ _ _ rfl) hg, hc, hall⟩
  have c' := c.tch t
  obtain ⟨lv, rv, wv, ql, -⟩ := c'.r.ql
  have hBk : aLoad Try.prog 24 (.pointer (some ⟨B, 0, none⟩)) k = some (.pointer (some ⟨nm 0, 0, none⟩)) := c'.hB.ld flP 0 (by show 0 < 1; decide)
  simp (disch := first | omega | decide) only [push_cast, ↓reduceIte, Nat.reduceLT, Nat.reduceEqDiff, reduceCtorEq, Nat.reduceAdd, kn, kd, kt, hn, hd, h0', h1', hsl, hln, hi']
  refine condV_of (fun hlt => ?_) (fun hge => ?_)
  · have hi : i < ks.length := by have := hlt; simp at this; omega
    have hw : IntKind.i64.wrap ((i : Int) + 1) = i + 1 := wrapI (by omega) (by omega)
    have hLe : L = (acc0 ++ (ks.take i).map (fun k => ⟨3, k, 0⟩ : Int → Ev)) ++ (fun k => ⟨3, k, 0⟩ : Int → Ev) (ks.getD i 0) :: ((ks.drop (i + 1)).map (fun k => ⟨3, k, 0⟩ : Int → Ev) ++ rest) := by
      rw [hL, List.append_assoc, ← List.cons_append, ← List.map_cons (f := (fun k => ⟨3, k, 0⟩ : Int → Ev)), ← drop_getD hi 0, ← List.append_assoc (List.map _ _), ← List.map_append, List.take_append_drop]
    have hy := y.2 _ _ _ k hLe j (t0.trans t)
    simp (disch := first | omega | decide) only [push_cast, ↓reduceIte, Nat.reduceLT, Nat.reduceEqDiff, reduceCtorEq, Nat.reduceAdd, kn, kd, kt, hn, hd, h0', h1', hsl, hln, hi', hvk.idxI sl1I, hvk.ldI sl1I, hBk, faL foQ0, faL foQ1, faL foQ2, faL foQ3, faL foQ4, faL foQ5, faL foQ6, faL foQ7, faL foQ8, faL foQ9, faL foQ10, faL foQ11, faL foQ12, ql.l0, ql.l1, ql.l2, ql.l3, ql.l4, ql.l5, ql.l6, ql.l7, ql.l9, ql.l10, ql.l11, ql.l12, buildV2]
    refine callR.mono ?_ hy
    rintro _ k2 ⟨t2, ⟨rfl, j2⟩ | ⟨rfl, d2⟩⟩
    · simp (disch := first | omega | decide) only [push_cast, ↓reduceIte, Nat.reduceLT, Nat.reduceEqDiff, reduceCtorEq, Nat.reduceAdd, kn, kd, kt, hn, hd, h0', h1', hsl, hln, hi', hw]
      exact ⟨q - 1, by omega, (by simp (disch := decide) only [Kp_put, put_none, hk]), i + 1, by simp (disch := first | omega | decide) only [push_cast, ↓reduceIte, Nat.reduceLT, Nat.reduceEqDiff, reduceCtorEq, Nat.reduceAdd], by omega, t.trans t2, by rw [take_getD hi 0, List.map_append, ← List.append_assoc]; exact j2⟩
    · simp (disch := first | omega | decide) only [push_cast, ↓reduceIte, Nat.reduceLT, Nat.reduceEqDiff, reduceCtorEq, Nat.reduceAdd, kn, kd, kt, hn, hd, h0', h1', hsl, hln, hi', hw]
      exact ⟨(t0.trans t).trans t2, .inr ⟨_, _, _, hLe, d2⟩⟩
  · have hi : i = ks.length := by have := hge; simp at this; omega
    subst hi
    simp (disch := first | omega | decide) only [push_cast, ↓reduceIte, Nat.reduceLT, Nat.reduceEqDiff, reduceCtorEq, Nat.reduceAdd, kn, kd, kt, hn, hd, h0', h1', hsl, hln, hi']
    rw [List.take_length] at j
    exact ⟨t0.trans t, .inl j⟩


theorem arrLd {h : AH} {nm : Nat → Nat} {s : QS} {lv : Value} {rv : List Value} {wv : Value} (hg : h.get (nm 0) = some (.row (qC nm s lv rv wv) 60 true)) (hl : rv.length = 64) : aLoad Try.prog 58 (.pointer (some ⟨nm 0, 8, none⟩)) h = some (.agg rv.toArray) := by
  obtain ⟨D, hD, hagg⟩ := agA.agg
  obtain ⟨ie, hie, hsz⟩ := agA.size
  have hlen := qC_len (nm := nm) (s := s) (lv := lv) (wv := wv) hl
  have hle : 8 + 64 ≤ (qC nm s lv rv wv).length := by rw [hlen]; decide
  have hdt : ((qC nm s lv rv wv).drop 8).take 64 = rv := by
    have : (qC nm s lv rv wv).drop 8 = rv ++ [wv, .map (some (nm 6)), .map (some (nm 7)), .map (some (nm 8))] := rfl
    rw [this, ← hl, List.take_left']
    rfl
  have hc : (AObj.row (qC nm s lv rv wv) 60 true).cells? = some (qC nm s lv rv wv) := rfl
  simp only [aLoad, hg, Option.bind_some, hc, hD, hagg, if_true, hie, hsz, hle, hdt]

theorem arrIx {rv : List Value} (hl : rv.length = 64) {i : Nat} (hi : i < 64) : aIndex Try.prog 58 (.agg rv.toArray) (.int .i64 i) = some (rv.getD i undef) := by
  obtain ⟨ie, h1, h2⟩ : ∃ i, Try.prog.info? 34 = some i ∧ i.size = 1 := ⟨(Try.prog.info? 34).get (by kernel_rfl), by kernel_rfl, by kernel_rfl⟩
  have hu : Try.prog.underlying 34 = some (.slice 33) := Try.underlying34
  simp only [aIndex, Try.underlying58, h1, h2]
  rw [if_pos ⟨by omega, by omega⟩]
  simp [aPart, hu, aggT, List.getD_eq_getElem?_getD, hl, hi]
  done

theorem heads_append : ∀ (a b : List (List Ev)), heads (a ++ b) = heads a ++ heads b := by
  intro a
  induction a with
  | nil => intro b; rfl
  | cons x a ih => intro b; cases x with
    | nil => exact ih b
    | cons y l => simp only [List.cons_append, heads, ih b]

theorem evsAt : ∀ (l : List Ev) (i : Nat) (x : Ev), l[i]? = some x → ((l.flatMap evC).drop (i * 3)).take 3 = evC x := by
  intro l
  induction l with
  | nil => intro i x h; simp at h
  | cons y l ih =>
    intro i x h
    cases i with
    | zero =>
      simp only [List.getElem?_cons_zero, Option.some.injEq] at h
      subst h; rfl
    | succ i =>
      have := ih i x (by simpa using h)
      have e : ((y :: l).flatMap evC).drop ((i + 1) * 3) = (l.flatMap evC).drop (i * 3) := by
        rw [List.flatMap_cons, Nat.add_mul, Nat.one_mul, Nat.add_comm, ← List.drop_drop]; rfl
      rw [e]; exact this

theorem EvV.row {h : AH} {v : Value} {ob : Option AObj} {A : Nat} {l : List Ev} (e : EvV v ob A l) (hg : ∀ o, ob = some o → h.get A = some o) (hb : l.length ≤ 4294967296) : RowOf evL h v l := OffV.row (L := evL) e hg hb (fun i x hx => evsAt l i x hx)

theorem sumL_mem {α : Type} (f : α → Nat) : ∀ (l : List α) (x : α), x ∈ l → f x ≤ sumL f l := by
  intro l
  induction l with
  | nil => intro x h; cases h
  | cons y l ih =>
    intro x h
    simp only [sumL]
    rcases List.mem_cons.1 h with rfl | h
    · omega
    · have := ih x h; omega

theorem QOK.rlen {s : QS} (o : QOK s) (i : Nat) : (s.ready.getD i []).length ≤ 20000 := by
  by_cases hi : i < s.ready.length
  · have hm : s.ready.getD i [] ∈ s.ready := by rw [List.getD_eq_getElem?_getD, List.getElem?_eq_getElem hi]; exact List.getElem_mem hi
    have := sumL_mem List.length s.ready _ hm
    have h1 := o.held
    have h2 := o.hb
    omega
  · rw [List.getD_eq_getElem?_getD, List.getElem?_eq_none (by omega)]; simp

theorem infVs : ∃ i, Try.prog.info? 33 = some i ∧ i.size = evL.sz := ⟨(Try.prog.info? 33).get (by kernel_rfl), by kernel_rfl, by kernel_rfl⟩

theorem listL6 {b h0 h : AH} {s : QS} {nm : Nat → Nat} {ob : Nat → Option AObj} {X : Nat → Prop} {B : Nat} {yv : Value} {L acc0 : List Ev} {J D : List Ev → AH → Prop} {a : AAct} {rv : List Value} (c : LC b h s nm ob X B) (t0 : Tch X h0 h) (y : Yl yv h0 X L J D)
    (hn : a.n = 87) (hd : a.df = []) (h0' : a.tm 0 = yv) (h71 : a.tm 71 = .agg rv.toArray) (hix : a.tm 72 = .int .i64 0) (rl : rv.length = 64) (hrv : ∀ i, i < 64 → EvV (rv.getD i undef) (ob (10 + i)) (nm (10 + i)) (s.ready.getD i []))
    (hL : L = acc0 ++ heads s.ready) (j : J acc0 h) :
    AW Try.prog none (bodyBlk Try.f38 6) (fun e a' h' => Tch X h0 h' ∧ ((e = .exit 6 ∧ a'.n = 87 ∧ a'.df = [] ∧ J L h') ∨ (e = .ret ∧ a'.n = 87 ∧ a'.df = [] ∧ Stop L D h'))) a h := by
  refine AW.at (rfl : bodyBlk Try.f38 6 = .loop _) ?_
  have hr64 := c.r.ok.rl
  refine AW.loopN 72 [10] (fun q a' h' => ∃ (i : Nat), a'.tm 72 = .int .i64 i ∧ i + q = 64 ∧ Tch X h h' ∧ J (acc0 ++ heads (s.ready.take i)) h') 64 ?_ ?_
  · exact ⟨0, by rw [hix]; rfl, by omega, Tch.refl c.r.own.gr.wf, by simpa [heads] using j⟩
  rintro a1 q a' k hk kn kd kt ⟨i, hi', hiq, t, j⟩
  have c' := c.tch t
  simp (disch := first | omega | decide) only [push_cast, ↓reduceIte, Nat.reduceLT, Nat.reduceEqDiff, reduceCtorEq, Nat.reduceAdd, kn, kd, kt, hn, hd, h0', h71, hi']
  refine condV_of (fun hlt => ?_) (fun hge => ?_)
  · have hi : i < 64 := by have := hlt; simp at this; omega
    have hw : IntKind.i64.wrap ((i : Int) + 1) = i + 1 := wrapI (by omega) (by omega)
    have hrow : RowOf evL k (rv.getD i undef) (s.ready.getD i []) := (hrv i hi).row (fun o ho => c'.r.own.get _ _ ho) (by have := c.r.ok.rlen i; omega)
    have htk := take_getD (l := s.ready) (i := i) (by omega) []
    have hdr := drop_getD (l := s.ready) (i := i) (by omega) []
    have hax := arrIx rl hi
    have hsp : heads s.ready = heads (s.ready.take i) ++ heads (s.ready.getD i [] :: s.ready.drop (i + 1)) := by rw [← heads_append, ← hdr, List.take_append_drop]
    generalize rv.getD i undef = w at hrow hax
    cases hc : s.ready.getD i [] with
    | nil =>
      rw [hc] at hrow htk
      have hlen : ∀ h', aLen Try.prog 34 w h' = some (.int .i64 0) := hrow.len Try.underlying34
      have hz : decide ((0 : Int) > 0) = false := rfl
      simp (disch := first | omega | decide) only [push_cast, ↓reduceIte, Nat.reduceLT, Nat.reduceEqDiff, reduceCtorEq, Nat.reduceAdd, kn, kd, kt, hn, hd, h0', h71, hi', hax, hlen, hz, hw]
      refine ⟨q - 1, by omega, (by simp (disch := decide) only [Kp_put, put_none, hk]), i + 1, by simp (disch := first | omega | decide) only [push_cast, ↓reduceIte, Nat.reduceLT, Nat.reduceEqDiff, reduceCtorEq, Nat.reduceAdd], by omega, t, ?_⟩
      rw [htk, heads_append]
      simpa [heads] using j
    | cons x r =>
      rw [hc] at hrow htk hsp
      have hlen : ∀ h', aLen Try.prog 34 w h' = some (.int .i64 (r.length + 1)) := fun h' => by
        have := hrow.len Try.underlying34 h'
        simpa using this
      have hz : decide (((r.length : Int) + 1) > 0) = true := by simp
      have hidx : aIndexAddr Try.prog 34 w (.int .i64 0) = some (slF 3 w 0 0) := hrow.idx Try.underlying34 infVs .i64 0 (by omega) (by simp)
      obtain ⟨cs, hcs, hla, -⟩ := hrow.get (P := Try.prog) (i := 0) (by simp) x
      have hcs : cs = evC x := hcs
      subst hcs
      have hla : aLoad Try.prog 33 (slF 3 w 0 0) k = some (.agg (evC x).toArray) := hla _ agV
      have hLe : L = (acc0 ++ heads (s.ready.take i)) ++ x :: heads (s.ready.drop (i + 1)) := by
        rw [hL, hsp, ← List.append_assoc]; rfl
      have hy := y.2 _ _ _ k hLe j (t0.trans t)
      simp (disch := first | omega | decide) only [push_cast, ↓reduceIte, Nat.reduceLT, Nat.reduceEqDiff, reduceCtorEq, Nat.reduceAdd, kn, kd, kt, hn, hd, h0', h71, hi', hax, hlen, hz, hidx, hla]
      refine callR.mono ?_ hy
      rintro _ k2 ⟨t2, ⟨rfl, j2⟩ | ⟨rfl, d2⟩⟩
      · simp (disch := first | omega | decide) only [push_cast, ↓reduceIte, Nat.reduceLT, Nat.reduceEqDiff, reduceCtorEq, Nat.reduceAdd, kn, kd, kt, hn, hd, h0', h71, hi', hw]
        refine ⟨q - 1, by omega, (by simp (disch := decide) only [Kp_put, put_none, hk]), i + 1, by simp (disch := first | omega | decide) only [push_cast, ↓reduceIte, Nat.reduceLT, Nat.reduceEqDiff, reduceCtorEq, Nat.reduceAdd], by omega, t.trans t2, ?_⟩
        rw [htk, heads_append, ← List.append_assoc]
        exact j2
      · simp (disch := first | omega | decide) only [push_cast, ↓reduceIte, Nat.reduceLT, Nat.reduceEqDiff, reduceCtorEq, Nat.reduceAdd, kn, kd, kt, hn, hd, h0', h71, hi', hw]
        exact ⟨(t0.trans t).trans t2, .inr ⟨_, _, _, hLe, d2⟩⟩
  · have hi : i = 64 := by have := hge; simp at this; omega
    subst hi
    simp (disch := first | omega | decide) only [push_cast, ↓reduceIte, Nat.reduceLT, Nat.reduceEqDiff, reduceCtorEq, Nat.reduceAdd, kn, kd, kt, hn, hd, h0', h71, hi']
    rw [← hr64, List.take_length, ← hL] at j
    exact ⟨t0.trans t, .inl j⟩


theorem listR0 {b h : AH} {s : QS} {nm : Nat → Nat} {ob : Nat → Option AObj} {X : Nat → Prop} {B : Nat} {yv : Value} {a : AAct} {N : AAct → AH → Prop} (c : LC b h s nm ob X B) (hb : s.drives.length ≤ 4294967296)
    (hn : a.n = 87) (hd : a.df = []) (h0' : a.tm 0 = yv) (h1' : a.tm 1 = .pointer (some ⟨B, 0, none⟩))
    (hN : ∀ a' h' v, a'.n = 87 → a'.df = [] → a'.tm 0 = yv → a'.tm 1 = .pointer (some ⟨B, 0, none⟩) → a'.tm 16 = v → a'.tm 17 = .int .i64 (keysL s.drives).length → a'.tm 18 = .int .i64 0 → Gr h h' → SlOf h' v ((keysL s.drives).map (.int .i64)) → (∀ C off l c, v = .slice (some ⟨C, off, none⟩) l c → h.next ≤ C) → N a' h') :
    opsM Try.prog (opsOf Try.f38 0) N (opsOf Try.f38 0).toList a h := by
  refine opsM.at (rfl : #[_, _, _, _, _, _, _, _] = _) (rfl : [_, _, _, _, _, _, _, _] = _) ?_
  have w := c.r.own.gr.wf
  obtain ⟨lv, rv, wv, ql, -⟩ := c.r.ql
  obtain ⟨o, ho, m⟩ := c.r.m2
  have mp : MapL vI h (nm 2) s.drives := ⟨o, c.r.own.get _ _ ho, m⟩
  have hBk : aLoad Try.prog 24 (.pointer (some ⟨B, 0, none⟩)) h = some (.pointer (some ⟨nm 0, 0, none⟩)) := c.hB.ld flP 0 (by show 0 < 1; decide)
  simp (disch := first | omega | decide) only [push_cast, ↓reduceIte, Nat.reduceLT, Nat.reduceEqDiff, reduceCtorEq, Nat.reduceAdd, hn, hd, h0', h1', hBk, faL foQ0, faL foQ1, faL foQ2, faL foQ3, faL foQ4, faL foQ5, faL foQ6, faL foQ7, faL foQ8, faL foQ9, faL foQ10, faL foQ11, faL foQ12, ql.l0, ql.l1, ql.l2, ql.l3, ql.l4, ql.l5, ql.l6, ql.l7, ql.l9, ql.l10, ql.l11, ql.l12]
  refine ACall.mono ?_ keyFD
  rintro _ _ ⟨rfl, rfl⟩
  have g1 := (Gr.refl w).new (.row [.map (some (nm 2))] 54 true)
  have hP := CsAt.new h [.map (some (nm 2))] 54 true
  have mp1 := mp.sub g1.sub
  simp (disch := first | omega | decide) only [push_cast, ↓reduceIte, Nat.reduceLT, Nat.reduceEqDiff, reduceCtorEq, Nat.reduceAdd, hn, hd, h0', h1']
  refine ACall.mono ?_ (sortedI (walksD hP mp1) (let ⟨o, x, _⟩ := mp1; ⟨o, x⟩) (by rw [List.length_map]; exact hb))
  rintro v h2 ⟨g2, hs, hC⟩
  have hlen : aLen Try.prog 47 v h2 = some (.int .i64 (keysL s.drives).length) := hs.lenA Try.underlying47 h2
  simp (disch := first | omega | decide) only [push_cast, ↓reduceIte, Nat.reduceLT, Nat.reduceEqDiff, reduceCtorEq, Nat.reduceAdd, hn, hd, h0', h1', hlen]
  exact hN _ _ v (by simp (disch := first | omega | decide) only [push_cast, ↓reduceIte, Nat.reduceLT, Nat.reduceEqDiff, reduceCtorEq, Nat.reduceAdd, hn]) (by simp (disch := first | omega | decide) only [push_cast, ↓reduceIte, Nat.reduceLT, Nat.reduceEqDiff, reduceCtorEq, Nat.reduceAdd, hd]) (by simp (disch := first | omega | decide) only [push_cast, ↓reduceIte, Nat.reduceLT, Nat.reduceEqDiff, reduceCtorEq, Nat.reduceAdd, h0']) (by simp (disch := first | omega | decide) only [push_cast, ↓reduceIte, Nat.reduceLT, Nat.reduceEqDiff, reduceCtorEq, Nat.reduceAdd, h1']) (by simp (disch := first | omega | decide) only [push_cast, ↓reduceIte, Nat.reduceLT, Nat.reduceEqDiff, reduceCtorEq, Nat.reduceAdd]) (by simp (disch := first | omega | decide) only [push_cast, ↓reduceIte, Nat.reduceLT, Nat.reduceEqDiff, reduceCtorEq, Nat.reduceAdd]) (by simp (disch := first | omega | decide) only [push_cast, ↓reduceIte, Nat.reduceLT, Nat.reduceEqDiff, reduceCtorEq, Nat.reduceAdd]) (g1.trans g2) hs (fun C off l c e => by have := hC C off l c e; simp only [AH.new_next] at this; omega)

theorem listR5 {b h : AH} {s : QS} {nm : Nat → Nat} {ob : Nat → Option AObj} {X : Nat → Prop} {B : Nat} {yv : Value} {a : AAct} {N : AAct → AH → Prop} (c : LC b h s nm ob X B) (hb : s.evals.length ≤ 4294967296)
    (hn : a.n = 87) (hd : a.df = []) (h0' : a.tm 0 = yv) (h1' : a.tm 1 = .pointer (some ⟨B, 0, none⟩))
    (hN : ∀ a' h' v, a'.n = 87 → a'.df = [] → a'.tm 0 = yv → a'.tm 1 = .pointer (some ⟨B, 0, none⟩) → a'.tm 39 = v → a'.tm 40 = .int .i64 (keysL s.evals).length → a'.tm 41 = .int .i64 0 → Gr h h' → SlOf h' v ((keysL s.evals).map (.int .i64)) → (∀ C off l c, v = .slice (some ⟨C, off, none⟩) l c → h.next ≤ C) → N a' h') :
    opsM Try.prog (opsOf Try.f38 5) N (opsOf Try.f38 5).toList a h := by
  refine opsM.at (rfl : #[_, _, _, _, _, _, _, _] = _) (rfl : [_, _, _, _, _, _, _, _] = _) ?_
  have w := c.r.own.gr.wf
  obtain ⟨lv, rv, wv, ql, -⟩ := c.r.ql
  obtain ⟨o, ho, m⟩ := c.r.m3
  have mp : MapL vB h (nm 3) s.evals := ⟨o, c.r.own.get _ _ ho, m⟩
  have hBk : aLoad Try.prog 24 (.pointer (some ⟨B, 0, none⟩)) h = some (.pointer (some ⟨nm 0, 0, none⟩)) := c.hB.ld flP 0 (by show 0 < 1; decide)
  simp (disch := first | omega | decide) only [push_cast, ↓reduceIte, Nat.reduceLT, Nat.reduceEqDiff, reduceCtorEq, Nat.reduceAdd, hn, hd, h0', h1', hBk, faL foQ0, faL foQ1, faL foQ2, faL foQ3, faL foQ4, faL foQ5, faL foQ6, faL foQ7, faL foQ8, faL foQ9, faL foQ10, faL foQ11, faL foQ12, ql.l0, ql.l1, ql.l2, ql.l3, ql.l4, ql.l5, ql.l6, ql.l7, ql.l9, ql.l10, ql.l11, ql.l12]
  refine ACall.mono ?_ keyFB
  rintro _ _ ⟨rfl, rfl⟩
  have g1 := (Gr.refl w).new (.row [.map (some (nm 3))] 55 true)
  have hP := CsAt.new h [.map (some (nm 3))] 55 true
  have mp1 := mp.sub g1.sub
  simp (disch := first | omega | decide) only [push_cast, ↓reduceIte, Nat.reduceLT, Nat.reduceEqDiff, reduceCtorEq, Nat.reduceAdd, hn, hd, h0', h1']
  refine ACall.mono ?_ (sortedI (walksB hP mp1) (let ⟨o, x, _⟩ := mp1; ⟨o, x⟩) (by rw [List.length_map]; exact hb))
  rintro v h2 ⟨g2, hs, hC⟩
  have hlen : aLen Try.prog 47 v h2 = some (.int .i64 (keysL s.evals).length) := hs.lenA Try.underlying47 h2
  simp (disch := first | omega | decide) only [push_cast, ↓reduceIte, Nat.reduceLT, Nat.reduceEqDiff, reduceCtorEq, Nat.reduceAdd, hn, hd, h0', h1', hlen]
  exact hN _ _ v (by simp (disch := first | omega | decide) only [push_cast, ↓reduceIte, Nat.reduceLT, Nat.reduceEqDiff, reduceCtorEq, Nat.reduceAdd, hn]) (by simp (disch := first | omega | decide) only [push_cast, ↓reduceIte, Nat.reduceLT, Nat.reduceEqDiff, reduceCtorEq, Nat.reduceAdd, hd]) (by simp (disch := first | omega | decide) only [push_cast, ↓reduceIte, Nat.reduceLT, Nat.reduceEqDiff, reduceCtorEq, Nat.reduceAdd, h0']) (by simp (disch := first | omega | decide) only [push_cast, ↓reduceIte, Nat.reduceLT, Nat.reduceEqDiff, reduceCtorEq, Nat.reduceAdd, h1']) (by simp (disch := first | omega | decide) only [push_cast, ↓reduceIte, Nat.reduceLT, Nat.reduceEqDiff, reduceCtorEq, Nat.reduceAdd]) (by simp (disch := first | omega | decide) only [push_cast, ↓reduceIte, Nat.reduceLT, Nat.reduceEqDiff, reduceCtorEq, Nat.reduceAdd]) (by simp (disch := first | omega | decide) only [push_cast, ↓reduceIte, Nat.reduceLT, Nat.reduceEqDiff, reduceCtorEq, Nat.reduceAdd]) (g1.trans g2) hs (fun C off l c e => by have := hC C off l c e; simp only [AH.new_next] at this; omega)

theorem listR10 {b h : AH} {s : QS} {nm : Nat → Nat} {ob : Nat → Option AObj} {X : Nat → Prop} {B : Nat} {yv : Value} {a : AAct} {N : AAct → AH → Prop} (c : LC b h s nm ob X B) (hb : s.threads.length ≤ 4294967296)
    (hn : a.n = 87) (hd : a.df = []) (h0' : a.tm 0 = yv) (h1' : a.tm 1 = .pointer (some ⟨B, 0, none⟩))
    (hN : ∀ a' h' v, a'.n = 87 → a'.df = [] → a'.tm 0 = yv → a'.tm 1 = .pointer (some ⟨B, 0, none⟩) → a'.tm 56 = v → a'.tm 57 = .int .i64 (keysL s.threads).length → a'.tm 58 = .int .i64 0 → Gr h h' → SlOf h' v ((keysL s.threads).map (.int .i64)) → (∀ C off l c, v = .slice (some ⟨C, off, none⟩) l c → h.next ≤ C) → N a' h') :
    opsM Try.prog (opsOf Try.f38 10) N (opsOf Try.f38 10).toList a h := by
  refine opsM.at (rfl : #[_, _, _, _, _, _, _, _] = _) (rfl : [_, _, _, _, _, _, _, _] = _) ?_
  have w := c.r.own.gr.wf
  obtain ⟨lv, rv, wv, ql, -⟩ := c.r.ql
  obtain ⟨o, ho, m⟩ := c.r.m4
  have mp : MapL vB h (nm 4) s.threads := ⟨o, c.r.own.get _ _ ho, m⟩
  have hBk : aLoad Try.prog 24 (.pointer (some ⟨B, 0, none⟩)) h = some (.pointer (some ⟨nm 0, 0, none⟩)) := c.hB.ld flP 0 (by show 0 < 1; decide)
  simp (disch := first | omega | decide) only [push_cast, ↓reduceIte, Nat.reduceLT, Nat.reduceEqDiff, reduceCtorEq, Nat.reduceAdd, hn, hd, h0', h1', hBk, faL foQ0, faL foQ1, faL foQ2, faL foQ3, faL foQ4, faL foQ5, faL foQ6, faL foQ7, faL foQ8, faL foQ9, faL foQ10, faL foQ11, faL foQ12, ql.l0, ql.l1, ql.l2, ql.l3, ql.l4, ql.l5, ql.l6, ql.l7, ql.l9, ql.l10, ql.l11, ql.l12]
  refine ACall.mono ?_ keyFB
  rintro _ _ ⟨rfl, rfl⟩
  have g1 := (Gr.refl w).new (.row [.map (some (nm 4))] 55 true)
  have hP := CsAt.new h [.map (some (nm 4))] 55 true
  have mp1 := mp.sub g1.sub
  simp (disch := first | omega | decide) only [push_cast, ↓reduceIte, Nat.reduceLT, Nat.reduceEqDiff, reduceCtorEq, Nat.reduceAdd, hn, hd, h0', h1']
  refine ACall.mono ?_ (sortedI (walksB hP mp1) (let ⟨o, x, _⟩ := mp1; ⟨o, x⟩) (by rw [List.length_map]; exact hb))
  rintro v h2 ⟨g2, hs, hC⟩
  have hlen : aLen Try.prog 47 v h2 = some (.int .i64 (keysL s.threads).length) := hs.lenA Try.underlying47 h2
  simp (disch := first | omega | decide) only [push_cast, ↓reduceIte, Nat.reduceLT, Nat.reduceEqDiff, reduceCtorEq, Nat.reduceAdd, hn, hd, h0', h1', hlen]
  exact hN _ _ v (by simp (disch := first | omega | decide) only [push_cast, ↓reduceIte, Nat.reduceLT, Nat.reduceEqDiff, reduceCtorEq, Nat.reduceAdd, hn]) (by simp (disch := first | omega | decide) only [push_cast, ↓reduceIte, Nat.reduceLT, Nat.reduceEqDiff, reduceCtorEq, Nat.reduceAdd, hd]) (by simp (disch := first | omega | decide) only [push_cast, ↓reduceIte, Nat.reduceLT, Nat.reduceEqDiff, reduceCtorEq, Nat.reduceAdd, h0']) (by simp (disch := first | omega | decide) only [push_cast, ↓reduceIte, Nat.reduceLT, Nat.reduceEqDiff, reduceCtorEq, Nat.reduceAdd, h1']) (by simp (disch := first | omega | decide) only [push_cast, ↓reduceIte, Nat.reduceLT, Nat.reduceEqDiff, reduceCtorEq, Nat.reduceAdd]) (by simp (disch := first | omega | decide) only [push_cast, ↓reduceIte, Nat.reduceLT, Nat.reduceEqDiff, reduceCtorEq, Nat.reduceAdd]) (by simp (disch := first | omega | decide) only [push_cast, ↓reduceIte, Nat.reduceLT, Nat.reduceEqDiff, reduceCtorEq, Nat.reduceAdd]) (g1.trans g2) hs (fun C off l c e => by have := hC C off l c e; simp only [AH.new_next] at this; omega)


theorem stepL {i : Nat} {b l : Code} {Q : Exit → AAct → AH → Prop} {R S : AAct → AH → Prop} {a : AAct} {h : AH} (hb : b = .loop l) (hx : AW Try.prog none b (fun e a' h' => (e = .exit i ∧ R a' h') ∨ (e = .ret ∧ S a' h')) a h) (hR : ∀ a' h', R a' h' → Q .normal a' h') (hS : ∀ a' h', S a' h' → Q .ret a' h') : wpA Try.prog none (.block i b) Q a h := by
  subst hb
  rw [wpA_block, wpA_loop]
  refine AW.mono ?_ hx
  rintro _ a' h' (⟨rfl, r⟩ | ⟨rfl, s⟩)
  · rw [blockQ_exit, if_pos rfl]; exact hR _ _ r
  · rw [blockQ_ret]; exact hS _ _ s

theorem listR15 {b h : AH} {s : QS} {nm : Nat → Nat} {ob : Nat → Option AObj} {X : Nat → Prop} {B : Nat} {yv : Value} {a : AAct} {N : AAct → AH → Prop} (c : LC b h s nm ob X B)
    (hn : a.n = 87) (hd : a.df = []) (h0' : a.tm 0 = yv) (h1' : a.tm 1 = .pointer (some ⟨B, 0, none⟩))
    (hN : ∀ (a' : AAct) (rv : List Value), a'.n = 87 → a'.df = [] → a'.tm 0 = yv → a'.tm 71 = .agg rv.toArray → a'.tm 72 = .int .i64 0 → rv.length = 64 → (∀ i, i < 64 → EvV (rv.getD i undef) (ob (10 + i)) (nm (10 + i)) (s.ready.getD i [])) → N a' h) :
    opsM Try.prog (opsOf Try.f38 15) N (opsOf Try.f38 15).toList a h := by
  refine opsM.at (rfl : #[_, _, _, _, _] = _) (rfl : [_, _, _, _, _] = _) ?_
  obtain ⟨lv, rv, wv, ql, hg, hl, -, -, hrv, -⟩ := c.r.ql
  have hBk : aLoad Try.prog 24 (.pointer (some ⟨B, 0, none⟩)) h = some (.pointer (some ⟨nm 0, 0, none⟩)) := c.hB.ld flP 0 (by show 0 < 1; decide)
  have har := arrLd hg hl
  simp (disch := first | omega | decide) only [push_cast, ↓reduceIte, Nat.reduceLT, Nat.reduceEqDiff, reduceCtorEq, Nat.reduceAdd, hn, hd, h0', h1', hBk, faL foQ0, faL foQ1, faL foQ2, faL foQ3, faL foQ4, faL foQ5, faL foQ6, faL foQ7, faL foQ8, faL foQ9, faL foQ10, faL foQ11, faL foQ12, har]
  exact hN _ rv (by simp (disch := first | omega | decide) only [push_cast, ↓reduceIte, Nat.reduceLT, Nat.reduceEqDiff, reduceCtorEq, Nat.reduceAdd, hn]) (by simp (disch := first | omega | decide) only [push_cast, ↓reduceIte, Nat.reduceLT, Nat.reduceEqDiff, reduceCtorEq, Nat.reduceAdd, hd]) (by simp (disch := first | omega | decide) only [push_cast, ↓reduceIte, Nat.reduceLT, Nat.reduceEqDiff, reduceCtorEq, Nat.reduceAdd, h0']) (by simp (disch := first | omega | decide) only [push_cast, ↓reduceIte, Nat.reduceLT, Nat.reduceEqDiff, reduceCtorEq, Nat.reduceAdd]) (by simp (disch := first | omega | decide) only [push_cast, ↓reduceIte, Nat.reduceLT, Nat.reduceEqDiff, reduceCtorEq, Nat.reduceAdd]) hl hrv

theorem listN {b h : AH} {s : QS} {nm : Nat → Nat} {ob : Nat → Option AObj} {X : Nat → Prop} {B : Nat} {yv : Value} {J D : List Ev → AH → Prop} (c : LC b h s nm ob X B) (hXlt : ∀ C, X C → C < h.next) (hb1 : s.drives.length ≤ 4294967296) (hb2 : s.evals.length ≤ 4294967296) (hb3 : s.threads.length ≤ 4294967296) (y : Yl yv h X (listE s) J D) (j : J [] h) :
    ACall Try.prog 38 [yv, .pointer (some ⟨B, 0, none⟩)] h (fun _ h' => Tch X h h' ∧ (J (listE s) h' ∨ Stop (listE s) D h')) := by
  have klen : ∀ {α : Type} (l : List (Int × α)), (keysL l).length = l.length := fun l => by unfold keysL; rw [(sortL_perm _).length_eq, List.length_map]
  have w := c.r.own.gr.wf
  refine ACall.of_wp (c := .seq (.seq (.region 0 (opsOf Try.f38 0) false) (.block 0 (bodyBlk Try.f38 0))) (.seq (.seq (.region 5 (opsOf Try.f38 5) false) (.block 2 (bodyBlk Try.f38 2))) (.seq (.seq (.region 10 (opsOf Try.f38 10) false) (.block 4 (bodyBlk Try.f38 4))) (.seq (.region 15 (opsOf Try.f38 15) false) (.block 6 (bodyBlk Try.f38 6)))))) 87 [] Try.func38 (by kernel_rfl) rfl rfl (by kernel_rfl) fun a hn hd ha => ?_
  have h0' : a.tm 0 = yv := ha 0
  have h1' : a.tm 1 = .pointer (some ⟨B, 0, none⟩) := ha 1
  rw [wpA_seq, wpA_seq, wpA_region]
  refine listR0 c hb1 hn hd h0' h1' fun a h1 v hn hd h0' h1' q1 q2 q3 g1 hv hC => ?_
  have t1 : Tch X h h1 := Tch.of g1
  have c1 := c.tch t1
  rw [thenQ_normal]
  refine stepL rfl (AW.mono ?_ (listL0 c1 t1 y hn hd h0' h1' q1 q2 q3 hv (fun C off l c e hX => by have := hC C off l c e; have := hXlt C hX; have := (Nat.le_refl h.next); omega) (by rw [klen]; omega) (rfl : listE s = [] ++ _) (y.1 _ _ _ j g1)))
    (R := fun a' h' => Tch X h h' ∧ a'.n = 87 ∧ a'.df = [] ∧ a'.tm 0 = yv ∧ a'.tm 1 = .pointer (some ⟨B, 0, none⟩) ∧ J ([] ++ (keysL s.drives).map (fun k => ⟨1, k, (aget k s.drives).getD 0⟩ : Int → Ev)) h') (S := fun a' h' => Tch X h h' ∧ a'.n = 87 ∧ a'.df = [] ∧ Stop (listE s) D h') ?_ ?_
  · rintro e a' h' ⟨t, ⟨rfl, r⟩ | ⟨rfl, r⟩⟩
    · exact .inl ⟨rfl, t, r⟩
    · exact .inr ⟨rfl, t, r⟩
  rotate_left
  · rintro a' h' ⟨t, hn, hd, st⟩
    simp (disch := first | omega | decide) only [push_cast, ↓reduceIte, Nat.reduceLT, Nat.reduceEqDiff, reduceCtorEq, Nat.reduceAdd, hn, hd]
    exact ⟨t, .inr st⟩
  rintro a h2 ⟨t, hn, hd, h0', h1', j2⟩
  rw [thenQ_normal, wpA_seq, wpA_seq, wpA_region]
  refine listR5 (c.tch t) hb2 hn hd h0' h1' fun a h3 v hn hd h0' h1' q1 q2 q3 g1 hv hC => ?_
  have t1 : Tch X h h3 := t.trans (Tch.of g1)
  have c1 := c.tch t1
  rw [thenQ_normal]
  refine stepL rfl (AW.mono ?_ (listL2 (rest := (keysL s.threads).map (fun k => ⟨3, k, 0⟩ : Int → Ev) ++ heads s.ready) c1 t1 y hn hd h0' h1' q1 q2 q3 hv (fun C off l c e hX => by have := hC C off l c e; have := hXlt C hX; have := t.nx; omega) (by rw [klen]; omega) (by unfold listE; simp only [List.append_assoc, List.nil_append]) (y.1 _ _ _ j2 g1)))
    (R := fun a' h' => Tch X h h' ∧ a'.n = 87 ∧ a'.df = [] ∧ a'.tm 0 = yv ∧ a'.tm 1 = .pointer (some ⟨B, 0, none⟩) ∧ J (([] ++ (keysL s.drives).map (fun k => ⟨1, k, (aget k s.drives).getD 0⟩ : Int → Ev)) ++ (keysL s.evals).map (fun k => ⟨2, k, 0⟩ : Int → Ev)) h') (S := fun a' h' => Tch X h h' ∧ a'.n = 87 ∧ a'.df = [] ∧ Stop (listE s) D h') ?_ ?_
  · rintro e a' h' ⟨t, ⟨rfl, r⟩ | ⟨rfl, r⟩⟩
    · exact .inl ⟨rfl, t, r⟩
    · exact .inr ⟨rfl, t, r⟩
  rotate_left
  · rintro a' h' ⟨t, hn, hd, st⟩
    simp (disch := first | omega | decide) only [push_cast, ↓reduceIte, Nat.reduceLT, Nat.reduceEqDiff, reduceCtorEq, Nat.reduceAdd, hn, hd]
    exact ⟨t, .inr st⟩
  rintro a h2 ⟨t, hn, hd, h0', h1', j2⟩
  rw [thenQ_normal, wpA_seq, wpA_seq, wpA_region]
  refine listR10 (c.tch t) hb3 hn hd h0' h1' fun a h3 v hn hd h0' h1' q1 q2 q3 g1 hv hC => ?_
  have t1 : Tch X h h3 := t.trans (Tch.of g1)
  have c1 := c.tch t1
  rw [thenQ_normal]
  refine stepL rfl (AW.mono ?_ (listL4 (rest := heads s.ready) c1 t1 y hn hd h0' h1' q1 q2 q3 hv (fun C off l c e hX => by have := hC C off l c e; have := hXlt C hX; have := t.nx; omega) (by rw [klen]; omega) (by unfold listE; simp only [List.append_assoc, List.nil_append]) (y.1 _ _ _ j2 g1)))
    (R := fun a' h' => Tch X h h' ∧ a'.n = 87 ∧ a'.df = [] ∧ a'.tm 0 = yv ∧ a'.tm 1 = .pointer (some ⟨B, 0, none⟩) ∧ J ((([] ++ (keysL s.drives).map (fun k => ⟨1, k, (aget k s.drives).getD 0⟩ : Int → Ev)) ++ (keysL s.evals).map (fun k => ⟨2, k, 0⟩ : Int → Ev)) ++ (keysL s.threads).map (fun k => ⟨3, k, 0⟩ : Int → Ev)) h') (S := fun a' h' => Tch X h h' ∧ a'.n = 87 ∧ a'.df = [] ∧ Stop (listE s) D h') ?_ ?_
  · rintro e a' h' ⟨t, ⟨rfl, r⟩ | ⟨rfl, r⟩⟩
    · exact .inl ⟨rfl, t, r⟩
    · exact .inr ⟨rfl, t, r⟩
  rotate_left
  · rintro a' h' ⟨t, hn, hd, st⟩
    simp (disch := first | omega | decide) only [push_cast, ↓reduceIte, Nat.reduceLT, Nat.reduceEqDiff, reduceCtorEq, Nat.reduceAdd, hn, hd]
    exact ⟨t, .inr st⟩
  rintro a h2 ⟨t, hn, hd, h0', h1', j2⟩
  rw [thenQ_normal, wpA_seq, wpA_region]
  refine listR15 (c.tch t) hn hd h0' h1' fun a rv hn hd h0' q1 q2 hl hrv => ?_
  rw [thenQ_normal]
  refine stepL rfl (AW.mono ?_ (listL6 (c.tch t) t y hn hd h0' q1 q2 hl hrv (by unfold listE; simp only [List.append_assoc, List.nil_append]) j2))
    (R := fun a' h' => Tch X h h' ∧ a'.n = 87 ∧ a'.df = [] ∧ J (listE s) h') (S := fun a' h' => Tch X h h' ∧ a'.n = 87 ∧ a'.df = [] ∧ Stop (listE s) D h') ?_ ?_
  · rintro e a' h' ⟨t, ⟨rfl, r⟩ | ⟨rfl, r⟩⟩
    · exact .inl ⟨rfl, t, r⟩
    · exact .inr ⟨rfl, t, r⟩
  · rintro a' h' ⟨t, hn, hd, jl⟩
    simp (disch := first | omega | decide) only [push_cast, ↓reduceIte, Nat.reduceLT, Nat.reduceEqDiff, reduceCtorEq, Nat.reduceAdd, hn, hd]
    exact ⟨t, .inl jl⟩
  · rintro a' h' ⟨t, hn, hd, st⟩
    simp (disch := first | omega | decide) only [push_cast, ↓reduceIte, Nat.reduceLT, Nat.reduceEqDiff, reduceCtorEq, Nat.reduceAdd, hn, hd]
    exact ⟨t, .inr st⟩

attribute [local push_cast] wpA_rangeFuncQ

theorem listF {h : AH} {A : Nat} : ACall Try.prog 35 [vA A] h (fun r h' => r = .func (.func 38) #[] #[.pointer (some ⟨h.next, 0, none⟩)] ∧ h' = h.new (.row [vA A] 24 true)) := by
  refine ACall.of_wp 4 [.tmp 2] Try.func35 rfl (by kernel_rfl) rfl rfl fun a hn hd ha => ?_
  have hbox : aBox 24 (vA A) h = some (.pointer (some ⟨h.next, 0, none⟩), h.new (.row [vA A] 24 true)) := rfl
  simp (disch := first | omega | decide) only [push_cast, ↓reduceIte, Nat.reduceLT, Nat.reduceEqDiff, reduceCtorEq, Nat.reduceAdd, hn, hd, ha, hbox]

theorem zrI : Zr Try.prog 3 [.int .i64 0] := ⟨(Try.prog.info? 3).get (by kernel_rfl), .int .i64 0, by kernel_rfl, by kernel_rfl, rfl, rfl, rfl⟩

theorem heads_len : ∀ l : List (List Ev), (heads l).length ≤ l.length := by
  intro l
  induction l with
  | nil => exact Nat.le_refl _
  | cons x l ih => cases x with
    | nil => exact Nat.le_succ_of_le ih
    | cons y r => simp only [heads, List.length_cons]; omega
theorem keysL_len {α : Type} (l : List (Int × α)) : (keysL l).length = l.length := by unfold keysL; rw [(sortL_perm _).length_eq, List.length_map]

theorem activeN {b h : AH} {s : QS} {nm : Nat → Nat} {ob : Nat → Option AObj} (w0 : WFH b) (r : QR b h s nm ob) (hb1 : s.drives.length ≤ 4294967296) (hb2 : s.evals.length ≤ 4294967296) (hb3 : s.threads.length ≤ 4294967296) :
    ACall Try.prog 16 [vA (nm 0)] h (fun v h' => v = .int .i64 (listE s).length ∧ Gr h h') := by
  have w := r.own.gr.wf
  refine ACall.of_wp 11 [.cell 2 3] Try.func16 rfl (by kernel_rfl) rfl rfl fun a hn hd ha => ?_
  have g1 := (Gr.refl w).new (.row [.int .i64 0] 3 true)
  simp (disch := first | omega | decide) only [push_cast, ↓reduceIte, Nat.reduceLT, Nat.reduceEqDiff, reduceCtorEq, Nat.reduceAdd, hn, hd, ha, alL zrI]
  refine ACall.mono ?_ (noneN (r.gr g1))
  rintro _ _ ⟨rfl, rfl⟩
  simp (disch := first | omega | decide) only [push_cast, ↓reduceIte, Nat.reduceLT, Nat.reduceEqDiff, reduceCtorEq, Nat.reduceAdd, hn, hd, ha]
  refine ACall.mono ?_ listF
  rintro _ _ ⟨rfl, rfl⟩
  simp (disch := first | omega | decide) only [push_cast, ↓reduceIte, Nat.reduceLT, Nat.reduceEqDiff, reduceCtorEq, Nat.reduceAdd, hn, hd, ha]
  have g2 := g1.new (.row [vA (nm 0)] 24 true)
  have x0 : ((h.new (.row [.int .i64 0] 3 true)).new (.row [vA (nm 0)] 24 true)).get h.next = some (.row [.int .i64 0] 3 true) := by rw [AH.new_get, if_neg (by simp), AH.new_get, if_pos rfl]
  have x1 : ((h.new (.row [.int .i64 0] 3 true)).new (.row [vA (nm 0)] 24 true)).get (h.next + 1) = some (.row [vA (nm 0)] 24 true) := by rw [AH.new_get]; exact if_pos rfl
  have n2 : ((h.new (.row [.int .i64 0] 3 true)).new (.row [vA (nm 0)] 24 true)).next = h.next + 2 := rfl
  generalize (h.new (.row [.int .i64 0] 3 true)).new (.row [vA (nm 0)] 24 true) = k2 at g2 x0 x1 n2 ⊢
  refine rangeN (gf := 38) (first := #[]) (cap := #[.pointer (some ⟨h.next + 1, 0, none⟩)]) rfl (by simp (disch := first | omega | decide) only [push_cast, ↓reduceIte, Nat.reduceLT, Nat.reduceEqDiff, reduceCtorEq, Nat.reduceAdd]; rfl) ?_
  intro l0 q1 q2 q3 q4 q5 q6 q7
  have g4 := (g2.new (.dfr true)).new (.loop l0)
  have nL : k2.next + 1 = h.next + 3 := by omega
  have n4 : ((k2.new (.dfr true)).new (.loop l0)).next = h.next + 4 := by simp; omega
  have y0 : ((k2.new (.dfr true)).new (.loop l0)).get h.next = some (.row [.int .i64 0] 3 true) := by rw [AH.new_get, if_neg (by simp; omega), AH.new_get, if_neg (by omega)]; exact x0
  have y1 : ((k2.new (.dfr true)).new (.loop l0)).get (h.next + 1) = some (.row [vA (nm 0)] 24 true) := by rw [AH.new_get, if_neg (by simp; omega), AH.new_get, if_neg (by omega)]; exact x1
  have y2 : ((k2.new (.dfr true)).new (.loop l0)).get (h.next + 2) = some (.dfr true) := by rw [AH.new_get, if_neg (by simp; omega), AH.new_get, if_pos (by omega)]
  have y3 : ((k2.new (.dfr true)).new (.loop l0)).get (h.next + 3) = some (.loop l0) := by rw [AH.new_get, if_pos (by simp; omega)]
  rw [nL]
  have nk : k2.next = h.next + 2 := n2
  generalize (k2.new (.dfr true)).new (.loop l0) = k4 at g4 n4 y0 y1 y2 y3 ⊢
  have hlo := r.own.gr.nx
  have lc : LC b k4 s nm ob (fun C => C = h.next ∨ C = h.next + 3) (h.next + 1) := ⟨w0, r.gr g4, ⟨fun C hC => by omega, fun j o hj hC => by have := AH.get_lt w (r.own.get j o hj); omega⟩, ⟨_, y1, rfl⟩, by omega⟩
  refine ACall.mono ?_ (listN (J := fun acc h1 => WFH h1 ∧ h1.get (h.next + 3) = some (.loop l0) ∧ h1.get h.next = some (.row [.int .i64 acc.length] 3 true)) (D := fun _ _ => False) (yv := .func (.yield (h.next + 3)) #[] #[]) lc (fun C hC => by omega) hb1 hb2 hb3 ⟨fun acc h1 h2 j g => ⟨g.wf, g.sub _ _ j.2.1, g.sub _ _ j.2.2⟩, ?_⟩ ⟨g4.wf, y3, y0⟩)
  · rintro v h' ⟨t, ⟨wf, z3, z0⟩ | ⟨_, _, _, _, d⟩⟩
    · have hX := AH.get_lt wf z0
      have hL := AH.get_lt wf z3
      refine ⟨l0, z3, by rw [q1]; decide, ?_⟩
      have z2 := t.keep _ _ (show ¬ (h.next + 2 = h.next ∨ h.next + 2 = h.next + 3) by omega) y2
      have w2 := wf.set hL (.loop { l0 with state := .exhausted })
      have e0 : (h'.set (h.next + 3) (.loop { l0 with state := .exhausted })).get h.next = some (.row [.int .i64 (listE s).length] 3 true) := by rw [AH.set_get, if_neg (by omega)]; exact z0
      have e2 : (h'.set (h.next + 3) (.loop { l0 with state := .exhausted })).get (h.next + 2) = some (.dfr true) := by rw [AH.set_get, if_neg (by omega)]; exact z2
      have k3 : ∀ C, C ≠ h.next + 3 → (h'.set (h.next + 3) (.loop { l0 with state := .exhausted })).get C = h'.get C := fun C hC => by rw [AH.set_get, if_neg hC]
      have n3 : (h'.set (h.next + 3) (.loop { l0 with state := .exhausted })).next = h'.next := rfl
      generalize h'.set (h.next + 3) (.loop { l0 with state := .exhausted }) = h3 at w2 e0 e2 k3 n3 ⊢
      rw [q2]
      have hld : aLoad Try.prog 3 (.pointer (some ⟨h.next, 0, none⟩)) h3 = some (.int .i64 (listE s).length) := ldL (P := Try.prog) e0 rfl flI 0 (by show 0 < 1; decide)
      have hst := stC (P := Try.prog) (let ⟨i, a, b, _⟩ := infI; ⟨i, a, b⟩) e0 0 (.int .i64 (listE s).length) (by show 0 < 1; decide) rfl rfl
      simp (disch := first | omega | decide) only [push_cast, ↓reduceIte, Nat.reduceLT, Nat.reduceEqDiff, reduceCtorEq, Nat.reduceAdd, hn, hd, ha, hld, hst, nk]
      have hlf : aLoad Try.prog 3 (.pointer (some ⟨h.next, 0, none⟩)) ((h3.set h.next (.row [.int .i64 (listE s).length] 3 true)).set (h.next + 2) (.dfr false)) = some (.int .i64 (listE s).length) := ldL (P := Try.prog) (o := .row [.int .i64 (listE s).length] 3 true) (by rw [AH.set_get, if_neg (by omega), AH.set_get, if_pos rfl]) rfl flI 0 (by show 0 < 1; decide)
      refine ⟨(h3.set h.next (.row [.int .i64 (listE s).length] 3 true)).set (h.next + 2) (.dfr false), ?_, [.int .i64 (listE s).length], by rw [hlf], rfl, ⟨(w2.set (by omega) _).set (by show h.next + 2 < h3.next; omega) _, fun C o hC => ?_, by simp only [AH.set_next]; have := t.nx; omega⟩⟩
      · have : (h3.set h.next (.row [.int .i64 (listE s).length] 3 true)).get (h.next + 2) = some (.dfr true) := by rw [AH.set_get, if_neg (by omega)]; exact e2
        simp [closeMarks, this]
      · have := AH.get_lt w hC
        rw [AH.set_get, if_neg (by omega), AH.set_get, if_neg (by omega), k3 _ (by omega)]
        exact t.keep C o (show ¬ (C = h.next ∨ C = h.next + 3) by omega) (g4.sub C o hC)
    · exact d.elim
  · intro acc x rest h1 hL j t
    obtain ⟨w1, z3, z0⟩ := j
    have hX := AH.get_lt w1 z0
    have hL1 := AH.get_lt w1 z3
    have hacc : acc.length ≤ 20000000000 := by
      have e := congrArg List.length hL
      have e2 := heads_len s.ready
      have e3 := r.ok.rl
      simp only [listE, List.length_append, List.length_map, keysL_len, List.length_cons] at e
      omega
    have hw : IntKind.i64.wrap ((acc.length : Int) + 1) = acc.length + 1 := wrapI (by omega) (by omega)
    refine ⟨l0, z3, by rw [q5]; rfl, by rw [q5, q3]; simp [put_n, hn], ?_⟩
    have t2 : (l0.act [.agg (evC x).toArray]).tm 2 = l0.tm 2 := by simp [ALoop.act, q5]
    rw [q4] at t2
    simp (disch := first | omega | decide) only [push_cast, ↓reduceIte, Nat.reduceLT, Nat.reduceEqDiff, reduceCtorEq, Nat.reduceAdd] at t2
    have hna : (l0.act [.agg (evC x).toArray]).n = 11 := by simp [ALoop.act, q3, put_n, hn]
    have hda : (l0.act [.agg (evC x).toArray]).df = [] := rfl
    show AW _ _ _ _ (l0.act [.agg (evC x).toArray]) h1
    generalize l0.act [.agg (evC x).toArray] = a9 at t2 hna hda ⊢
    rw [q6]
    refine wpA_sound _ _ _ _ ?_
    simp (disch := first | omega | decide) only [push_cast, ↓reduceIte, Nat.reduceLT, Nat.reduceEqDiff, reduceCtorEq, Nat.reduceAdd, hna, hda, t2]
    refine ⟨l0, z3, q1, ?_⟩
    have w10 := w1.set hL1 (.loop { l0 with state := .busy })
    have e3 : (h1.set (h.next + 3) (.loop { l0 with state := .busy })).get (h.next + 3) = some (.loop { l0 with state := .busy }) := by rw [AH.set_get, if_pos rfl]
    have e0 : (h1.set (h.next + 3) (.loop { l0 with state := .busy })).get h.next = some (.row [.int .i64 acc.length] 3 true) := by rw [AH.set_get, if_neg (by omega)]; exact z0
    have k3 : ∀ C, C ≠ h.next + 3 → (h1.set (h.next + 3) (.loop { l0 with state := .busy })).get C = h1.get C := fun C hC => by rw [AH.set_get, if_neg hC]
    have n3 : (h1.set (h.next + 3) (.loop { l0 with state := .busy })).next = h1.next := rfl
    generalize h1.set (h.next + 3) (.loop { l0 with state := .busy }) = h3 at w10 e0 e3 k3 n3 ⊢
    rw [q7]
    refine wpA_sound _ _ _ _ ?_
    have hld : aLoad Try.prog 3 (.pointer (some ⟨h.next, 0, none⟩)) h3 = some (.int .i64 acc.length) := ldL (P := Try.prog) e0 rfl flI 0 (by show 0 < 1; decide)
    have hst := stC (P := Try.prog) (let ⟨i, a, b, _⟩ := infI; ⟨i, a, b⟩) e0 0 (.int .i64 (acc.length + 1)) (by show 0 < 1; decide) rfl rfl
    simp (disch := first | omega | decide) only [push_cast, ↓reduceIte, Nat.reduceLT, Nat.reduceEqDiff, reduceCtorEq, Nat.reduceAdd, hna, hda, t2, hld, hw, hst]
    have hb2 : ({ ({ l0 with state := .busy } : ALoop) with state := .ready, pending := none } : ALoop) = l0 := by
      cases l0; simp only at q1 q2; subst q1; subst q2; rfl
    refine ⟨_, by rw [AH.set_get, if_neg (by omega)]; exact e3, ?_⟩
    rw [hb2]
    have wE : WFH ((h3.set h.next (.row ([Value.int .i64 acc.length].set 0 (.int .i64 (acc.length + 1))) 3 true)).set (h.next + 3) (.loop l0)) := (w10.set (by omega) _).set (by show h.next + 3 < h3.next; omega) _
    refine ⟨⟨wE, by simp only [AH.set_next]; omega, fun C o hC hg => ?_⟩, .inl ⟨rfl, wE, by rw [AH.set_get, if_pos rfl], ?_⟩⟩
    · rw [AH.set_get, if_neg (fun e => hC (.inr e)), AH.set_get, if_neg (fun e => hC (.inl e)), k3 _ (fun e => hC (.inr e))]; exact hg
    · rw [AH.set_get, if_neg (by omega), AH.set_get, if_pos rfl, List.length_append]; rfl


def pickS (s : QS) (n : Int) : Int := match s.left with
  | [] => 0
  | x :: _ => x % n

def uL : Lay Int where
  sz := 1
  pos := by decide
  rel h cs x := cs = [.int .u32 x]
  mono := by rintro h h' cs x hs rfl; rfl
  len := by rintro h cs x rfl; rfl
  one := by rintro h cs x rfl v hv; simp only [List.mem_cons, List.not_mem_nil, or_false] at hv; rcases hv with rfl; rfl
instance : LayV uL := ⟨by rintro h cs x rfl; rfl⟩

theorem infUs : ∃ i, Try.prog.info? 48 = some i ∧ i.size = uL.sz := ⟨(Try.prog.info? 48).get (by kernel_rfl), by kernel_rfl, by kernel_rfl⟩
theorem fl32 : Fl Try.prog 48 := ⟨_, Try.underlying48, rfl⟩
theorem sU : SlM Try.prog 22 48 1 4 := ⟨Try.underlying22, ⟨(Try.prog.info? 48).get (by kernel_rfl), .int .u32 0, by kernel_rfl, by kernel_rfl, by kernel_rfl, by kernel_rfl, rfl, rfl, rfl⟩, by decide⟩
theorem one1U : ∃ i, Try.prog.info? 22 = some i ∧ i.size = 1 := ⟨(Try.prog.info? 22).get (by kernel_rfl), by kernel_rfl, by kernel_rfl⟩

theorem skI : ∀ (x : Value) (h : AH), aBytes Try.prog 3 48 x h = none := aBytes_skip ⟨_, Try.underlying3⟩
theorem skU : ∀ (x : Value) (h : AH), aBytes Try.prog 48 3 x h = none := aBytes_skip ⟨_, Try.underlying48⟩
theorem cvI : ∀ (k : IntKind) (n : Int), aConv Try.prog 3 48 (.int k n) = some (.int .u32 (IntKind.u32.wrap n)) := aConvI Try.underlying3 Try.underlying48
theorem cvU : ∀ (k : IntKind) (n : Int), aConv Try.prog 48 3 (.int k n) = some (.int .i64 (IntKind.i64.wrap n)) := aConvI Try.underlying48 Try.underlying3

theorem leftRow {h : AH} {v : Value} {ob : Option AObj} {A : Nat} {l : List Int} (hv : OffV 1 48 v ob A l.length (l.map (.int .u32))) (hg : ∀ o, ob = some o → h.get A = some o) (hb : l.length ≤ 4294967296) : RowOf uL h v l :=
  OffV.row (L := uL) hv hg hb (fun i x hi => by
    show ((l.map (Value.int .u32)).drop (i * 1)).take 1 = [.int .u32 x]
    obtain ⟨hl, rfl⟩ := List.getElem?_eq_some_iff.1 hi
    rw [Nat.mul_one, List.drop_eq_getElem_cons (by simpa using hl)]; simp)

theorem QR.setLeft {b h : AH} {s : QS} {nm : Nat → Nat} {ob : Nat → Option AObj} (w0 : WFH b) (r : QR b h s nm ob) {lv lv' : Value} {rv : List Value} {wv : Value} (h0 : ob 0 = some (.row (qC nm s lv rv wv) 60 true)) (hl : rv.length = 64)
    (hrv : ∀ i, i < 64 → EvV (rv.getD i undef) (ob (10 + i)) (nm (10 + i)) (s.ready.getD i [])) (hw : EvV wv (ob 9) (nm 9) s.waiting) {l : List Int} (hv : OffV 1 48 lv' (ob 1) (nm 1) l.length (l.map (.int .u32))) (hb : l.length ≤ 4294967296) (hu : ∀ x ∈ l, 0 ≤ x ∧ x < 4294967296) :
    QR b (h.set (nm 0) (.row (qC nm s lv' rv wv) 60 true)) { s with left := l } nm (upd ob 0 (some (.row (qC nm s lv' rv wv) 60 true))) where
  own := r.own.set w0 h0
  q := ⟨lv', rv, wv, by rw [upd_same]; rfl, by rw [upd_ne _ _ (by decide)]; exact hv, hl, fun i hi => by rw [upd_ne _ _ (by omega)]; exact hrv i hi, by rw [upd_ne _ _ (by decide)]; exact hw⟩
  m2 := by rw [upd_ne _ _ (by decide)]; exact r.m2
  m3 := by rw [upd_ne _ _ (by decide)]; exact r.m3
  m4 := by rw [upd_ne _ _ (by decide)]; exact r.m4
  m5 := by rw [upd_ne _ _ (by decide)]; exact r.m5
  m6 := by rw [upd_ne _ _ (by decide)]; exact r.m6
  m7 := by rw [upd_ne _ _ (by decide)]; exact r.m7
  m8 := by rw [upd_ne _ _ (by decide)]; exact r.m8
  lat := fun p hp => (r.lat p hp).ob (fun i hi => upd_ne _ _ (by omega))
  ok := { r.ok with left := hb, uu := hu }

theorem pickN {b h : AH} {s : QS} {nm : Nat → Nat} {ob : Nat → Option AObj} (w0 : WFH b) (r : QR b h s nm ob) {n : Int} (hn0 : 0 < n) (hn1 : n < 4294967296) :
    ACall Try.prog 34 [vA (nm 0), .int .i64 n] h (fun v h' => v = .int .i64 (pickS s n) ∧ ∃ ob', QR b h' { s with left := s.left.tail } nm ob' ∧ Rest h h' nm nm ob ob') := by
  obtain ⟨lv, rv, wv, ql, hg, hl, h0, hlv, hrv, hw⟩ := r.ql
  have hrow := leftRow hlv (fun o ho => r.own.get _ _ ho) r.ok.left
  refine ACall.of_wp 31 [.tmp 4] Try.func34 rfl (by kernel_rfl) rfl rfl fun a hn hd ha => ?_
  have hlen : ∀ h', aLen Try.prog 22 lv h' = some (.int .i64 s.left.length) := hrow.len Try.underlying22
  cases hL : s.left with
  | nil =>
    have hlen0 : ∀ h', aLen Try.prog 22 lv h' = some (.int .i64 0) := by rw [hL] at hlen; exact hlen
    simp (disch := first | omega | decide) only [push_cast, ↓reduceIte, Nat.reduceLT, Nat.reduceEqDiff, reduceCtorEq, Nat.reduceAdd, hn, hd, ha, vA, faL foC, ql.l0, hlen0]
    refine ⟨by simp [pickS, hL], ob, ?_, Rest.refl r.own.gr.wf _ _⟩
    have e : ({ s with left := [] } : QS) = s := by cases s; simp only at hL; subst hL; rfl
    rw [show ([] : List Int).tail = [] from rfl, e]
    exact r
  | cons x l =>
    have hlen1 : ∀ h', aLen Try.prog 22 lv h' = some (.int .i64 (l.length + 1)) := fun h' => by
      have := hlen h'; rw [hL] at this; simpa using this
    have hz : decide ((l.length : Int) + 1 = 0) = false := by simp; omega
    have hx := r.ok.uu x (by rw [hL]; exact List.mem_cons_self ..)
    rw [hL] at hrow
    have hidx : aIndexAddr Try.prog 22 lv (.int .i64 0) = some (slF 1 lv 0 0) := hrow.idx Try.underlying22 infUs .i64 0 (by omega) (by simp)
    obtain ⟨cs, hcs, -, hlf, -⟩ := hrow.get (P := Try.prog) (i := 0) (by simp) x
    have hcs : cs = [.int .u32 x] := hcs
    subst hcs
    have hla : aLoad Try.prog 48 (slF 1 lv 0 0) h = some (.int .u32 x) := hlf 0 _ fl32 (by decide)
    rw [hL] at hlv
    obtain ⟨lv', hsl, hlv'⟩ := hlv.post sU (k := .i64) (m := 1) (by simp)
    have hsl : aSlice Try.prog 22 lv (some (.int .i64 1)) none = some lv' := hsl
    have hlv2 : OffV 1 48 lv' (ob 1) (nm 1) l.length (l.map (.int .u32)) := by simpa using hlv'
    have hst := stC (P := Try.prog) one1U hg 0 lv' (by rw [qC_len hl]; decide) hlv2.one.2 hlv2.one.1
    have hst : aStore Try.prog 22 (.pointer (some ⟨nm 0, 0, none⟩)) lv' h = some (h.set (nm 0) (.row (qC nm s lv' rv wv) 60 true)) := hst
    have hwn : IntKind.u32.wrap n = n := by rw [IntKind.wrap]; simp [IntKind.signed, IntKind.bits]; omega
    have hn2 : (n = 0) = False := by simp; omega
    have htm : x.tmod n = x % n := Int.tmod_eq_emod_of_nonneg hx.1
    have hm0 := Int.emod_nonneg x (b := n) (by omega)
    have hm1 := Int.emod_lt_of_pos x hn0
    have hwm : IntKind.i64.wrap (x % n) = x % n := wrapI (by omega) (by omega)
    simp (disch := first | omega | decide) only [push_cast, ↓reduceIte, Nat.reduceLT, Nat.reduceEqDiff, reduceCtorEq, Nat.reduceAdd, hn, hd, ha, vA, faL foC, ql.l0, hlen1, hz, hidx, hla, hsl, hst, skI, skU, cvI, cvU, hwn, hn2, htm, hwm]
    refine ⟨by simp [pickS, hL], _, r.setLeft (l := l) w0 h0 hl hrv hw hlv2 (by have := r.ok.left; rw [hL, List.length_cons] at this; omega) (fun y hy => r.ok.uu y (by rw [hL]; exact List.mem_cons_of_mem _ hy)), Rest.set r.own.gr.wf _ h0⟩
end Go.Ab.Q

namespace Go.Ab

theorem Owns.via {b h : AH} {nm : Nat → Nat} {ob : Nat → Option AObj} (ho : Owns b h nm ob) (σ : Nat → Nat) (hi : ∀ r s, σ r = σ s → r = s) : Owns b h (fun r => nm (σ r)) (fun r => ob (σ r)) :=
  ⟨fun r o hr => ho.get _ o hr, fun r s o p hr hs hne => ho.dis _ _ o p hr hs (fun e => hne (hi r s e)), fun r o hr => ho.lo _ o hr, ho.gr⟩

theorem Owns.drop {b h : AH} {nm : Nat → Nat} {ob : Nat → Option AObj} (ho : Owns b h nm ob) (r : Nat) : Owns b h nm (upd ob r none) := by
  have e : ∀ s o, upd ob r none s = some o → ob s = some o := by
    intro s o hs
    by_cases h : s = r
    · subst h; rw [upd_same] at hs; cases hs
    · rwa [upd_ne _ _ h] at hs
  exact ⟨fun s o hs => ho.get _ o (e s o hs), fun s u o p hs hu hne => ho.dis _ _ o p (e s o hs) (e u p hu) hne, fun s o hs => ho.lo _ o (e s o hs), ho.gr⟩

def sw2 (i j : Nat) (r : Nat) : Nat := if r = i then j else if r = j then i else r
theorem sw2_inj (i j : Nat) : ∀ r s, sw2 i j r = sw2 i j s → r = s := by
  intro r s h
  unfold sw2 at h
  split at h <;> split at h <;> (try split at h) <;> (try split at h) <;> omega
theorem sw2_ne {i j r : Nat} (h1 : r ≠ i) (h2 : r ≠ j) : sw2 i j r = r := by unfold sw2; rw [if_neg h1, if_neg h2]
theorem sw2_l (i j : Nat) : sw2 i j i = j := by unfold sw2; rw [if_pos rfl]
theorem sw2_r (i j : Nat) : sw2 i j j = i := by unfold sw2; by_cases h : j = i <;> simp [h]

theorem MapO.nd {α : Type} {vf : α → Value} {o : AObj} {l : List (Int × α)} (m : MapO vf o l) : (l.map (·.1)).Nodup := let ⟨_, _, _, e⟩ := m; e.keys

end Go.Ab

namespace Go.Ab.Q
open Go.Proofs
set_option linter.unusedSimpArgs false
set_option linter.unusedVariables false
set_option maxRecDepth 100000
set_option maxHeartbeats 4000000
attribute [local push_cast] wpA_skip wpA_ret wpA_exit wpA_seq wpA_block wpA_cond2 andK_true wpA_region wpA_draw wpA_loop thenQ_normal thenQ_ret thenQ_exit blockQ_normal blockQ_ret blockQ_exit condV_true condV_false opsM_nil opsM_cons2 okM_true wantM_true wantM_false stepM seqM_cons2 seqM_nil2 okS_true wantS_true wantS_false stepS skipS okB Keeps_nil contK_app List.zip_cons_cons List.zip_nil_left List.zip_nil_right Op.operands Call.operands Array.toList_append List.append_nil List.nil_append List.all_cons List.all_nil cOK plain put_n put_tm put_none put_df ev_tmp ev_const ev_func wanted_none wanted_some callR_func dop ex_some1 aBuiltin aBin intBin aUn Option.map_some Bool.and_true Bool.true_and Bool.and_self List.map_cons List.map_nil List.toList_toArray List.getElem?_toArray List.getElem?_cons_zero List.getElem?_cons_succ Option.getD_some Option.getD_none Bool.false_eq_true eq_self_iff_true decide_true decide_false List.cons_append aExtract resL resV List.getD_cons_zero List.getD_cons_succ List.getD_nil Nat.succ_ne_self g1 g2 yieldedA2 isB_bool isB_undef g3 Option.bind_some Option.bind_none bne_self_eq_false beq_self_eq_true Bool.not_true Bool.not_false Int.toNat_natCast List.length_map List.mem_cons List.not_mem_nil or_false not_false_eq_true decide_not Bool.not_not bodyR_ret2 bodyR_normal2 closeMarks_nil ex_some0 Nat.zero_add Nat.add_zero ieq ine List.map_toArray Option.toArray_none Option.toArray_some oev Keeps_cons Still_eq selL wpX_skip wpX_ret wpX_exit wpX_seq wpX_block wpX_cond wpX_region wpX_draw wpX_loop List.take_succ_cons List.take_zero List.drop_succ_cons List.drop_zero Int.zero_add Int.add_zero aNil if_true if_false true_and and_true

/-! ### Maps of few keys -/

theorem nodupI_le {N : Nat} {l : List Int} (hn : l.Nodup) (hr : ∀ x ∈ l, 0 ≤ x ∧ x < N) : l.length ≤ N := by
  have h1 : (l.map Int.toNat).Nodup := by
    rw [List.nodup_iff_pairwise_ne, List.pairwise_map]
    rw [List.nodup_iff_pairwise_ne] at hn
    refine hn.imp_of_mem (fun {a b} ha hb hne => ?_)
    have := hr a ha; have := hr b hb
    intro e; exact hne (by omega)
  have := nodup_le (n := N) h1 (fun i hi => by
    obtain ⟨x, hx, rfl⟩ := List.mem_map.1 hi
    have := hr x hx; omega)
  simpa using this

theorem keys64 {α : Type} {l : List (Int × α)} (hn : (l.map (·.1)).Nodup) (hr : ∀ p ∈ l, 0 ≤ p.1 ∧ p.1 < 64) : l.length ≤ 64 := by
  have := nodupI_le (N := 64) hn (fun x hx => by
    obtain ⟨p, hp, rfl⟩ := List.mem_map.1 hx
    have := hr p hp; exact ⟨this.1, by have := this.2; omega⟩)
  simpa using this

theorem QR.l64 {b h : AH} {s : QS} {nm : Nat → Nat} {ob : Nat → Option AObj} (r : QR b h s nm ob) : s.drives.length ≤ 64 ∧ s.evals.length ≤ 64 ∧ s.threads.length ≤ 64 ∧ s.quiet.length ≤ 64 := by
  obtain ⟨o2, _, m2⟩ := r.m2; obtain ⟨o3, _, m3⟩ := r.m3; obtain ⟨o4, _, m4⟩ := r.m4; obtain ⟨o5, _, m5⟩ := r.m5
  exact ⟨keys64 m2.nd r.ok.kd, keys64 m3.nd r.ok.ke, keys64 m4.nd r.ok.kt, keys64 m5.nd r.ok.kq⟩

theorem activeN' {b h : AH} {s : QS} {nm : Nat → Nat} {ob : Nat → Option AObj} (w0 : WFH b) (r : QR b h s nm ob) :
    ACall Try.prog 16 [vA (nm 0)] h (fun v h' => v = .int .i64 (listE s).length ∧ Gr h h') := by
  obtain ⟨a, b, c, d⟩ := r.l64
  exact activeN w0 r (by omega) (by omega) (by omega)

theorem listE_len {b h : AH} {s : QS} {nm : Nat → Nat} {ob : Nat → Option AObj} (r : QR b h s nm ob) : (listE s).length ≤ 256 := by
  obtain ⟨a, b, c, d⟩ := r.l64
  have e2 := heads_len s.ready
  have e3 := r.ok.rl
  simp only [listE, List.length_append, List.length_map, keysL_len]
  omega

/-! ### Plainly -/

def swapT (s : QS) : QS := { s with threads := s.quiet, quiet := s.threads }
def act1 (s : QS) : QS := if listE s = [] then swapT s else s
def pour : List (List Ev) → List Ev → List (List Ev)
  | r, [] => r
  | r, x :: l => pour (r.set x.index.toNat (r.getD x.index.toNat [] ++ [x])) l
def act2 (s : QS) : QS := if listE s = [] then { s with ready := pour s.ready s.waiting, waiting := [] } else s
def actS (s : QS) : QS := act2 (act1 s)

theorem pour_snoc : ∀ (l : List Ev) (r : List (List Ev)) (x : Ev), pour r (l ++ [x]) = (pour r l).set x.index.toNat ((pour r l).getD x.index.toNat [] ++ [x]) := by
  intro l
  induction l with
  | nil => intro r x; rfl
  | cons y l ih => intro r x; exact ih _ x
theorem pour_len : ∀ (l : List Ev) (r : List (List Ev)), (pour r l).length = r.length := by
  intro l
  induction l with
  | nil => intro r; rfl
  | cons y l ih => intro r; rw [pour, ih, List.length_set]

theorem sumL_set {α : Type} (f : α → Nat) (d : α) : ∀ (l : List α) (i : Nat) (x : α), i < l.length → sumL f (l.set i x) + f (l.getD i d) = sumL f l + f x := by
  intro l
  induction l with
  | nil => intro i x h; exact absurd h (Nat.not_lt_zero _)
  | cons y l ih =>
    intro i x h
    cases i with
    | zero => simp only [List.set_cons_zero, sumL, List.getD_cons_zero]; omega
    | succ i =>
      have := ih i x (by simpa using h)
      simp only [List.set_cons_succ, sumL, List.getD_cons_succ]
      omega
theorem sumL_get {α : Type} (f : α → Nat) (d : α) (hd : f d = 0) (l : List α) (i : Nat) : f (l.getD i d) ≤ sumL f l := by
  by_cases hi : i < l.length
  · rw [List.getD_eq_getElem?_getD, List.getElem?_eq_getElem hi]; exact sumL_mem f l _ (List.getElem_mem hi)
  · rw [List.getD_eq_getElem?_getD, List.getElem?_eq_none (by omega)]; show f d ≤ _; omega
theorem pour_sum : ∀ (l : List Ev) (r : List (List Ev)), (∀ x ∈ l, x.index.toNat < r.length) → sumL List.length (pour r l) = sumL List.length r + l.length := by
  intro l
  induction l with
  | nil => intro r _; rfl
  | cons y l ih =>
    intro r h
    have h0 := h y (List.mem_cons_self ..)
    rw [pour, ih _ (fun x hx => by rw [List.length_set]; exact h x (List.mem_cons_of_mem _ hx))]
    have := sumL_set List.length [] r y.index.toNat (r.getD y.index.toNat [] ++ [y]) h0
    rw [List.length_append, List.length_singleton] at this
    rw [List.length_cons]; omega

theorem pour_mem : ∀ (l : List Ev) (r : List (List Ev)) (i : Nat) (x : Ev), x ∈ (pour r l).getD i [] → x ∈ r.getD i [] ∨ (x ∈ l ∧ x.index.toNat = i) := by
  intro l
  induction l with
  | nil => intro r i x h; exact .inl h
  | cons y l ih =>
    intro r i x h
    rw [pour] at h
    rcases ih _ _ _ h with h | ⟨h, e⟩
    · by_cases hy : y.index.toNat = i
      · by_cases hl : y.index.toNat < r.length
        · have : (r.set y.index.toNat (r.getD y.index.toNat [] ++ [y])).getD i [] = r.getD i [] ++ [y] := by
            rw [hy] at hl ⊢
            simp [List.getD_eq_getElem?_getD, hl]
          rw [this] at h
          rcases List.mem_append.1 h with h | h
          · exact .inl h
          · simp only [List.mem_cons, List.not_mem_nil, or_false] at h
            subst h
            exact .inr ⟨List.mem_cons_self .., hy⟩
        · rw [List.set_eq_of_length_le (by omega)] at h; exact .inl h
      · have : (r.set y.index.toNat (r.getD y.index.toNat [] ++ [y])).getD i [] = r.getD i [] := by
          simp [List.getD_eq_getElem?_getD, List.getElem?_set_ne hy]
        rw [this] at h; exact .inl h
    · exact .inr ⟨List.mem_cons_of_mem _ h, e⟩

/-! ### Threads and quiet exchanged -/

theorem QR.swap {b h : AH} {s : QS} {nm : Nat → Nat} {ob : Nat → Option AObj} (w0 : WFH b) (r : QR b h s nm ob) {lv : Value} {rv : List Value} {wv : Value} (h0 : ob 0 = some (.row (qC nm s lv rv wv) 60 true)) (hl : rv.length = 64) (hlv : OffV 1 48 lv (ob 1) (nm 1) s.left.length (s.left.map (.int .u32)))
    (hrv : ∀ i, i < 64 → EvV (rv.getD i undef) (ob (10 + i)) (nm (10 + i)) (s.ready.getD i [])) (hw : EvV wv (ob 9) (nm 9) s.waiting) :
    ∃ ob', QR b (h.set (nm 0) (.row (qC (fun r => nm (sw2 4 5 r)) (swapT s) lv rv wv) 60 true)) (swapT s) (fun r => nm (sw2 4 5 r)) ob' ∧ Rest h (h.set (nm 0) (.row (qC (fun r => nm (sw2 4 5 r)) (swapT s) lv rv wv) 60 true)) nm (fun r => nm (sw2 4 5 r)) ob ob' := by
  have own := (r.own.set w0 h0 (o' := .row (qC (fun r => nm (sw2 4 5 r)) (swapT s) lv rv wv) 60 true)).via (sw2 4 5) (sw2_inj 4 5)
  have en : ∀ i, i ≠ 4 → i ≠ 5 → nm (sw2 4 5 i) = nm i := fun i h1 h2 => by rw [sw2_ne h1 h2]
  have eo : ∀ i, i ≠ 0 → i ≠ 4 → i ≠ 5 → upd ob 0 (some (.row (qC (fun r => nm (sw2 4 5 r)) (swapT s) lv rv wv) 60 true)) (sw2 4 5 i) = ob i := fun i h0 h1 h2 => by rw [sw2_ne h1 h2, upd_ne _ _ h0]
  refine ⟨fun r => upd ob 0 (some (.row (qC (fun r => nm (sw2 4 5 r)) (swapT s) lv rv wv) 60 true)) (sw2 4 5 r), ⟨⟨own, ?_, ?_, ?_, ?_, ?_, ?_, ?_, ?_, fun p hp => ?_⟩, { r.ok with kt := r.ok.kq, kq := r.ok.kt }⟩, (Rest.set r.own.gr.wf _ h0).trans (Rest.via (r.own.gr.wf.set (AH.get_lt r.own.gr.wf (r.own.get _ _ h0)) _) nm _ (sw2 4 5) rfl)⟩
  · exact ⟨lv, rv, wv, by rw [sw2_ne (by decide) (by decide), upd_same], by rw [eo 1 (by decide) (by decide) (by decide), en 1 (by decide) (by decide)]; exact hlv, hl, fun i hi => by rw [eo _ (by omega) (by omega) (by omega), en _ (by omega) (by omega)]; exact hrv i hi, by rw [eo 9 (by decide) (by decide) (by decide), en 9 (by decide) (by decide)]; exact hw⟩
  · rw [eo 2 (by decide) (by decide) (by decide)]; exact r.m2
  · rw [eo 3 (by decide) (by decide) (by decide)]; exact r.m3
  · rw [sw2_l, upd_ne _ _ (by decide)]; exact r.m5
  · rw [sw2_r, upd_ne _ _ (by decide)]; exact r.m4
  · rw [eo 6 (by decide) (by decide) (by decide)]
    have e : (swapT s).later.map (fun p => (p.1, nm (sw2 4 5 (100 + 4 * p.1.toNat)))) = s.later.map (fun p => (p.1, nm (100 + 4 * p.1.toNat))) := List.map_congr_left (fun p _ => by rw [en _ (by omega) (by omega)])
    rw [e]; exact r.m6
  · rw [eo 7 (by decide) (by decide) (by decide)]; exact r.m7
  · rw [eo 8 (by decide) (by decide) (by decide)]; exact r.m8
  · obtain ⟨⟨uv, a, c⟩, d, th⟩ := r.lat p hp
    exact ⟨⟨uv, by rw [eo _ (by omega) (by omega) (by omega), en _ (by omega) (by omega), en _ (by omega) (by omega)]; exact a, by rw [eo _ (by omega) (by omega) (by omega), en _ (by omega) (by omega)]; exact c⟩, by rw [eo _ (by omega) (by omega) (by omega)]; exact d, by rw [eo _ (by omega) (by omega) (by omega)]; exact th⟩


theorem zrV : Zr Try.prog 33 [.int .u8 0, .int .i64 0, .int .i64 0] := ⟨(Try.prog.info? 33).get (by kernel_rfl), .agg #[.int .u8 0, .int .i64 0, .int .i64 0], by kernel_rfl, by kernel_rfl, rfl, rfl, rfl⟩
theorem oneEs : ∃ i, Try.prog.info? 34 = some i ∧ i.size = 1 := ⟨(Try.prog.info? 34).get (by kernel_rfl), by kernel_rfl, by kernel_rfl⟩
/-- An event, appended. -/
theorem appEv {h : AH} (hw : WFH h) {v : Value} {ob : Option AObj} {A : Nat} {l : List Ev} (hv : EvV v ob A l) (hg : ∀ o, ob = some o → h.get A = some o) (x : Ev) (hl : l.length ≤ 20000) :
    ∃ r h2, aAppend Try.prog #[34, 34] v (.slice (some ⟨h.next, 0, none⟩) 1 1) (h.new (.row (evC x) 33 true)) = some (r, h2) ∧ (∃ A' o', EvV r (some o') A' (l ++ [x]) ∧ h2.get A' = some o' ∧ h.next ≤ A') ∧
      (∀ C o, h.get C = some o → (C = A → ob = none) → h2.get C = some o) ∧ WFH h2 ∧ h.next ≤ h2.next := by
  have hs := Sub.new hw (.row (evC x) 33 true)
  obtain ⟨r, h2, e1, ⟨A', o', h1, h2', h3⟩, h4, h5, h6⟩ := appendO sV ⟨_, Try.underlying34⟩ (hw.new (.row (evC x) 33 true)) hv (fun o ho => hs _ _ (hg o ho)) (srcNew (h := h) (xs := evC x) (e := 33) (sz := 3) rfl) (by decide) rfl (by omega) (by omega)
  refine ⟨r, h2, e1, ⟨A', o', ?_, h2', by simp only [AH.new_next] at h3; omega⟩, fun C o hC hn => h4 C o (hs _ _ hC) hn, h5, by simp only [AH.new_next] at h6; omega⟩
  have : (l ++ [x]).length = l.length + 1 := by simp
  unfold EvV
  rw [this, List.flatMap_append]
  simpa using h1

theorem qC_mid {nm : Nat → Nat} {s : QS} {lv : Value} {rv : List Value} {wv : Value} (h : rv.length = 64) {j : Nat} (hj : j < 64) : (qC nm s lv rv wv).getD (8 + j) undef = rv.getD j undef := by
  unfold qC
  rw [List.getD_eq_getElem?_getD, List.getElem?_append_right (by simp), List.getElem?_append_left (by simp [h]; omega), List.getD_eq_getElem?_getD]
  congr 2
  simp
theorem qC_setR {nm : Nat → Nat} {s : QS} {lv : Value} {rv : List Value} {wv : Value} (h : rv.length = 64) {j : Nat} (hj : j < 64) (v : Value) : (qC nm s lv rv wv).set (8 + j) v = qC nm s lv (rv.set j v) wv := by
  unfold qC
  rw [List.set_append_right _ _ (by simp), List.set_append_left _ _ (by simp [h]; omega)]
  congr 3
  simp
theorem qC_setW {nm : Nat → Nat} {s : QS} {lv : Value} {rv : List Value} {wv : Value} (h : rv.length = 64) (v : Value) : (qC nm s lv rv wv).set 72 v = qC nm s lv rv v := by
  unfold qC
  rw [List.set_append_right _ _ (by simp), List.set_append_right _ _ (by simp [h])]
  simp [h]

theorem arrAd (A off : Nat) {j : Nat} (hj : j < 64) : aIndexAddr Try.prog 58 (.pointer (some ⟨A, off, none⟩)) (.int .i64 j) = some (.pointer (some ⟨A, off + j, none⟩)) := by
  obtain ⟨ie, h1, h2⟩ := oneEs
  simp only [aIndexAddr, Try.underlying58, h1, h2]
  rw [if_pos ⟨by omega, by omega⟩]; simp

/-- A ready thread's row, another one. -/
theorem QRl.putReady {b h h2 : AH} {s : QS} {nm nm2 : Nat → Nat} {ob ob2 : Nat → Option AObj} (w0 : WFH b) (r : QRl b h s nm ob) (own2 : Owns b h2 nm2 ob2) {j : Nat} (hj : j < 64) (e : ∀ i, i ≠ 10 + j → nm2 i = nm i ∧ ob2 i = ob i) {lv : Value} {rv : List Value} {wv : Value} (h0 : ob 0 = some (.row (qC nm s lv rv wv) 60 true)) (hl : rv.length = 64) (hlv : OffV 1 48 lv (ob 1) (nm 1) s.left.length (s.left.map (.int .u32)))
    (hrv : ∀ i, i < 64 → EvV (rv.getD i undef) (ob (10 + i)) (nm (10 + i)) (s.ready.getD i [])) (hw : EvV wv (ob 9) (nm 9) s.waiting) (hr : s.ready.length = 64) {v : Value} {l' : List Ev} (hv : EvV v (ob2 (10 + j)) (nm2 (10 + j)) l') :
    QRl b (h2.set (nm 0) (.row (qC nm s lv (rv.set j v) wv) 60 true)) { s with ready := s.ready.set j l' } nm2 (upd ob2 0 (some (.row (qC nm s lv (rv.set j v) wv) 60 true))) := by
  have e0 := e 0 (by omega)
  have h02 : ob2 0 = some (.row (qC nm s lv rv wv) 60 true) := e0.2.trans h0
  have eo : ∀ i, i ≠ 0 → i ≠ 10 + j → upd ob2 0 (some (.row (qC nm s lv (rv.set j v) wv) 60 true)) i = ob i := fun i h1 h2 => by rw [upd_ne _ _ h1]; exact (e i h2).2
  have own3 := own2.set w0 h02 (o' := .row (qC nm s lv (rv.set j v) wv) 60 true)
  rw [e0.1] at own3
  refine ⟨own3, ?_, ?_, ?_, ?_, ?_, ?_, ?_, ?_, fun p hp => ?_⟩
  · refine ⟨lv, rv.set j v, wv, ?_, ?_, by rw [List.length_set]; exact hl, fun i hi => ?_, ?_⟩
    · rw [upd_same]
      have : qC nm2 { s with ready := s.ready.set j l' } lv (rv.set j v) wv = qC nm s lv (rv.set j v) wv := by
        unfold qC
        rw [(e 2 (by omega)).1, (e 3 (by omega)).1, (e 4 (by omega)).1, (e 5 (by omega)).1, (e 6 (by omega)).1, (e 7 (by omega)).1, (e 8 (by omega)).1]
      rw [this]
    · rw [eo 1 (by decide) (by omega), (e 1 (by omega)).1]; exact hlv
    · by_cases hij : i = j
      · subst hij
        rw [upd_ne _ _ (by omega)]
        have e1 : (rv.set i v).getD i undef = v := by simp [List.getD_eq_getElem?_getD, hl, hi]
        have e2 : (s.ready.set i l').getD i [] = l' := by simp [List.getD_eq_getElem?_getD, hr, hi]
        rw [e1, e2]; exact hv
      · rw [eo _ (by omega) (by omega), (e _ (by omega)).1]
        have e1 : (rv.set j v).getD i undef = rv.getD i undef := by simp [List.getD_eq_getElem?_getD, List.getElem?_set_ne (fun e => hij e.symm)]
        have e2 : (s.ready.set j l').getD i [] = s.ready.getD i [] := by simp [List.getD_eq_getElem?_getD, List.getElem?_set_ne (fun e => hij e.symm)]
        rw [e1, e2]; exact hrv i hi
    · rw [eo 9 (by decide) (by omega), (e 9 (by omega)).1]; exact hw
  · rw [eo 2 (by decide) (by omega)]; exact r.m2
  · rw [eo 3 (by decide) (by omega)]; exact r.m3
  · rw [eo 4 (by decide) (by omega)]; exact r.m4
  · rw [eo 5 (by decide) (by omega)]; exact r.m5
  · rw [eo 6 (by decide) (by omega)]
    have e' : s.later.map (fun p => (p.1, nm2 (100 + 4 * p.1.toNat))) = s.later.map (fun p => (p.1, nm (100 + 4 * p.1.toNat))) := List.map_congr_left (fun p _ => by rw [(e _ (by omega)).1])
    show ∃ o, ob 6 = some o ∧ MapO vA o (s.later.map fun p => (p.1, nm2 (100 + 4 * p.1.toNat)))
    rw [e']; exact r.m6
  · rw [eo 7 (by decide) (by omega)]; exact r.m7
  · rw [eo 8 (by decide) (by omega)]; exact r.m8
  · obtain ⟨⟨uv, a, c⟩, d, th⟩ := r.lat p hp
    exact ⟨⟨uv, by rw [eo _ (by omega) (by omega), (e _ (by omega)).1, (e _ (by omega)).1]; exact a, by rw [eo _ (by omega) (by omega), (e _ (by omega)).1]; exact c⟩, by rw [eo _ (by omega) (by omega)]; exact d, by rw [eo _ (by omega) (by omega)]; exact th⟩


/-- The state amid the pouring. -/
def midS (s : QS) (i : Nat) : QS := { s with ready := pour s.ready (s.waiting.take i) }

theorem pourL {b h : AH} {s : QS} {nm : Nat → Nat} {ob : Nat → Option AObj} {a : AAct} {wv : Value} (w0 : WFH b) (r : QR b h s nm ob) (hwv : EvV wv (ob 9) (nm 9) s.waiting)
    (hn : a.n = 53) (hd : a.df = []) (h0' : a.tm 0 = vA (nm 0)) (h27 : a.tm 27 = wv) (h28 : a.tm 28 = .int .i64 s.waiting.length) (h29 : a.tm 29 = .int .i64 0) :
    AW Try.prog none (bodyBlk Try.f33 0) (fun e a' h' => e = .exit 0 ∧ a'.n = 53 ∧ a'.df = [] ∧ a'.tm 0 = vA (nm 0) ∧ ∃ nm' ob', QRl b h' (midS s s.waiting.length) nm' ob' ∧ Rest h h' nm nm' ob ob') a h := by
  refine AW.at (rfl : bodyBlk Try.f33 0 = .loop _) ?_
  have hwl : s.waiting.length ≤ 20000 := by have := r.ok.held; have := r.ok.hb; omega
  have hfix : ∀ x ∈ s.waiting, x.index.toNat < s.ready.length := fun x hx => by have := r.ok.wi x hx; have := r.ok.rl; omega
  refine AW.loopN 29 [3] (fun q a' k => ∃ (i : Nat) (nm' : Nat → Nat) (ob' : Nat → Option AObj), a'.tm 29 = .int .i64 i ∧ i + q = s.waiting.length ∧ QRl b k (midS s i) nm' ob' ∧ Rest h k nm nm' ob ob' ∧ nm' 9 = nm 9 ∧ ob' 9 = ob 9) s.waiting.length ?_ ?_
  · exact ⟨0, nm, ob, by rw [h29]; rfl, by omega, r.toQRl, Rest.refl r.own.gr.wf _ _, rfl, rfl⟩
  rintro a1 q a' k hk kn kd kt ⟨i, nm1, ob1, hi', hiq, rk, rest, e9, o9⟩
  simp (disch := first | omega | decide) only [push_cast, ↓reduceIte, Nat.reduceLT, Nat.reduceEqDiff, reduceCtorEq, Nat.reduceAdd, kn, kd, kt, hn, hd, h0', h27, h28, hi']
  refine condV_of (fun hlt => ?_) (fun hge => ?_)
  · have hi : i < s.waiting.length := by have := hlt; simp at this; omega
    have hw : IntKind.i64.wrap ((i : Int) + 1) = i + 1 := wrapI (by omega) (by omega)
    have hrow : RowOf evL k wv s.waiting := hwv.row (fun o ho => by rw [← e9]; exact rk.own.get 9 _ (o9.trans ho)) (by omega)
    have hidx : aIndexAddr Try.prog 34 wv (.int .i64 i) = some (slF 3 wv i 0) := hrow.idx Try.underlying34 infVs .i64 i (by omega) (by omega)
    obtain ⟨cs, hcs, hla, -⟩ := hrow.get (P := Try.prog) hi ⟨0, 0, 0⟩
    have hcs : cs = evC (s.waiting.getD i ⟨0, 0, 0⟩) := hcs
    subst hcs
    have hla : aLoad Try.prog 33 (slF 3 wv i 0) k = some (.agg (evC (s.waiting.getD i ⟨0, 0, 0⟩)).toArray) := hla _ agV
    have hsn := take_getD (l := s.waiting) hi ⟨0, 0, 0⟩
    have hmem : s.waiting.getD i ⟨0, 0, 0⟩ ∈ s.waiting := by rw [List.getD_eq_getElem?_getD, List.getElem?_eq_getElem hi]; exact List.getElem_mem hi
    have hix := r.ok.wi _ hmem
    generalize s.waiting.getD i ⟨0, 0, 0⟩ = x at hla hsn hix
    obtain ⟨j, hj⟩ : ∃ j : Nat, x.index = j := ⟨x.index.toNat, by omega⟩
    have hj64 : j < 64 := by omega
    have wk := rk.own.gr.wf
    obtain ⟨lv1, rv1, wv1, ql, hg, hl, h0, hlv, hrv, hwv1⟩ := rk.ql
    -- the event's own block
    have hal := alL zrV k
    have hstn := stN agV k [.int .u8 0, .int .i64 0, .int .i64 0] 33 (evC x) rfl rfl rfl
    have g1 := (Gr.refl wk).new (.row (evC x) 33 true)
    have cx := CsAt.new k (evC x) 33 true
    have rk1 : Owns b (k.new (.row (evC x) 33 true)) nm1 ob1 := rk.own.grown g1
    have hg1 := g1.sub _ _ hg
    have nk : (k.new (.row (evC x) 33 true)).next = k.next + 1 := rfl
    have hlx : aLoad Try.prog 3 (.pointer (some ⟨k.next, 1, none⟩)) (k.new (.row (evC x) 33 true)) = some (.int .i64 j) := (cx.ld flI 1 (by show 1 < 3; decide)).trans (by rw [← hj]; rfl)
    have hlx0 : aLoad Try.prog 33 (.pointer (some ⟨k.next, 0, none⟩)) (k.new (.row (evC x) 33 true)) = some (.agg (evC x).toArray) := cx.la agV rfl
    generalize hk1 : k.new (.row (evC x) 33 true) = k1 at hstn g1 cx rk1 hg1 nk hlx hlx0
    have hrl : aLoad Try.prog 34 (.pointer (some ⟨nm1 0, 8 + j, none⟩)) k1 = some (rv1.getD j undef) := (ldL (P := Try.prog) hg1 rfl flE (8 + j) (by rw [qC_len hl]; omega)).trans (by rw [qC_mid hl hj64])
    have hbl := aBuildM sV (by decide) k1 (xs := evC x) rfl rfl
    have hrlen : ((midS s i).ready.getD j []).length ≤ 20000 := by
      have e1 := sumL_get List.length [] rfl (midS s i).ready j
      have e2 : sumL List.length (midS s i).ready = sumL List.length s.ready + (s.waiting.take i).length := pour_sum _ _ (fun y hy => hfix y (List.mem_of_mem_take hy))
      have e3 := r.ok.held
      have e4 := r.ok.hb
      rw [List.length_take] at e2
      omega
    obtain ⟨v', k2, hap, ⟨A', o', hv', hgA, hA'⟩, hfr, w2, n2⟩ := appEv rk1.gr.wf (hrv j hj64) (fun o ho => rk1.get _ _ ho) x hrlen
    have hlx2 : aLoad Try.prog 3 (.pointer (some ⟨k.next, 1, none⟩)) (k1.new (.row (evC x) 33 true)) = some (.int .i64 j) := ((cx.sub (Sub.new g1.wf _)).ld flI 1 (by show 1 < 3; decide)).trans (by rw [← hj]; rfl)
    have cx2 : CsAt k2 k.next (evC x) := by
      obtain ⟨o, ho, hc⟩ := cx
      refine ⟨o, hfr _ _ ho (fun e => ?_), hc⟩
      cases hob : ob1 (10 + j) with
      | none => rfl
      | some p => have := AH.get_lt wk (rk.own.get _ _ hob); omega
    have hlx3 : aLoad Try.prog 3 (.pointer (some ⟨k.next, 1, none⟩)) k2 = some (.int .i64 j) := (cx2.ld flI 1 (by show 1 < 3; decide)).trans (by rw [← hj]; rfl)
    have own2 := rk1.up w0 (r := 10 + j) hgA (.inr hA') (fun C o hC hn => hfr C o hC (fun e => hn e)) w2 n2
    have hne2 : ∀ i', i' ≠ 10 + j → upd nm1 (10 + j) A' i' = nm1 i' ∧ upd ob1 (10 + j) (some o') i' = ob1 i' := fun i' h => ⟨upd_ne _ _ h, upd_ne _ _ h⟩
    have hr64 : (midS s i).ready.length = 64 := by show (pour _ _).length = 64; rw [pour_len]; exact r.ok.rl
    have r3 := rk.putReady w0 own2 hj64 hne2 h0 hl hlv hrv hwv1 hr64 (v := v') (l' := (midS s i).ready.getD j [] ++ [x]) (by rw [upd_same, upd_same]; exact hv')
    have hg2 : k2.get (nm1 0) = some (.row (qC nm1 (midS s i) lv1 rv1 wv1) 60 true) := by
      have := own2.get 0 _ ((hne2 0 (by omega)).2.trans h0)
      rwa [(hne2 0 (by omega)).1] at this
    have hst := stC (P := Try.prog) oneEs hg2 (8 + j) v' (by rw [qC_len hl]; omega) hv'.one.2 hv'.one.1
    rw [qC_setR hl hj64] at hst
    have hmid : { (midS s i) with ready := (midS s i).ready.set j ((midS s i).ready.getD j [] ++ [x]) } = midS s (i + 1) := by
      unfold midS
      rw [hsn, pour_snoc, hj]; rfl
    rw [hmid] at r3
    have h0q : nm1 0 = nm 0 := rest.n0
    have hlx4 : aLoad Try.prog 3 (.pointer (some ⟨k.next, 1, none⟩)) (k2.set (nm1 0) (.row (qC nm1 (midS s i) lv1 (rv1.set j v') wv1) 60 true)) = some (.int .i64 j) := by
      obtain ⟨o, ho, hc⟩ := cx2
      have hlt := AH.get_lt wk hg
      have c4 : CsAt (k2.set (nm1 0) (.row (qC nm1 (midS s i) lv1 (rv1.set j v') wv1) 60 true)) k.next (evC x) := ⟨o, by rw [AH.set_get, if_neg (by omega)]; exact ho, hc⟩
      exact (c4.ld flI 1 (by show 1 < 3; decide)).trans (by rw [← hj]; rfl)
    have rest4 := ((rest.trans (Rest.gr wk g1 nm1 ob1)).trans (Rest.up (o' := o') g1.wf (r := 10 + j) (by omega) (.inr hA') (fun C o hC hn => hfr C o hC hn) n2)).trans (Rest.set w2 (.row (qC nm1 (midS s i) lv1 (rv1.set j v') wv1) 60 true) ((hne2 0 (by omega)).2.trans h0))
    rw [(hne2 0 (by omega)).1] at rest4
    rw [h0q] at hrl hst r3 hlx4 rest4
    simp (disch := first | omega | decide) only [push_cast, ↓reduceIte, Nat.reduceLT, Nat.reduceEqDiff, reduceCtorEq, Nat.reduceAdd, kn, kd, kt, hn, hd, h0', h27, h28, hi', hidx, hla, hal, hstn]
    refine AW.drawP (.take 0 [16, 15, 14, 13] (.take 1 [16, 15, 2] (.take 3 [16, 15, 12, 9, 8, 7, 6] (.take 4 [16, 15, 12, 9, 8, 5] (.take 5 [16, 15, 12, 9, 8] (.take 6 [16, 15, 12, 9, 8, 7] (.take 7 [16, 15, 12, 9, 8] (.take 8 [16, 15, 12, 9] (.take 9 [16, 15, 12] (.take 10 [16, 15, 12, 11] (.take 13 [16, 15, 14] (.take 14 [16, 15] (.watch 2 [16, 15] (.only 11 (.only 12 (.take 15 [16] (.only 16 .done))))))))))))))))) [(0, 0), (0, 1), (0, 3), (0, 4), (0, 5), (0, 6), (0, 7), (0, 8), (0, 9), (0, 10), (0, 13), (0, 14), (1, 2), (2, 11), (2, 12), (0, 15), (2, 16)] mixed (by kernel_rfl) (by kernel_rfl) ?_
    simp (disch := first | omega | decide) only [push_cast, ↓reduceIte, Nat.reduceLT, Nat.reduceEqDiff, reduceCtorEq, Nat.reduceAdd, kn, kd, kt, hn, hd, h0', h27, h28, hi', faL foV0, faL foV1, faL foV2, faL foQ0, faL foQ1, faL foQ2, faL foQ3, faL foQ4, faL foQ5, faL foQ6, faL foQ7, faL foQ8, faL foQ9, faL foQ10, faL foQ11, faL foQ12, hlx, hlx0, hlx2, hlx3, hlx4, vA, arrAd _ _ hj64, hrl, hbl, hap, hst, hw]
    refine ⟨q - 1, by omega, (by simp (disch := decide) only [Kp_put, put_none, hk]), i + 1, _, _, by simp (disch := first | omega | decide) only [push_cast, ↓reduceIte, Nat.reduceLT, Nat.reduceEqDiff, reduceCtorEq, Nat.reduceAdd], by omega, r3, rest4, (hne2 9 (by omega)).1.trans e9, ?_⟩
    rw [upd_ne _ _ (by omega)]; exact (hne2 9 (by omega)).2.trans o9
  · have hi : i = s.waiting.length := by have := hge; simp at this; omega
    subst hi
    simp (disch := first | omega | decide) only [push_cast, ↓reduceIte, Nat.reduceLT, Nat.reduceEqDiff, reduceCtorEq, Nat.reduceAdd, kn, kd, kt, hn, hd, h0', h27, h28, hi']
    exact ⟨nm1, ob1, rk, rest⟩


theorem AH.set_set (h : AH) (A : Nat) (o o' : AObj) : (h.set A o).set A o' = h.set A o' := by
  unfold AH.set
  simp only [AH.mk.injEq, true_and]
  funext i
  by_cases e : i = A <;> simp [e]

theorem oneMB : ∃ i, Try.prog.info? 55 = some i ∧ i.size = 1 := ⟨(Try.prog.info? 55).get (by kernel_rfl), by kernel_rfl, by kernel_rfl⟩
theorem oneMD : ∃ i, Try.prog.info? 54 = some i ∧ i.size = 1 := ⟨(Try.prog.info? 54).get (by kernel_rfl), by kernel_rfl, by kernel_rfl⟩
theorem one1I : ∃ i, Try.prog.info? 3 = some i ∧ i.size = 1 := ⟨(Try.prog.info? 3).get (by kernel_rfl), by kernel_rfl, by kernel_rfl⟩
theorem one1L : ∃ i, Try.prog.info? 2 = some i ∧ i.size = 1 := ⟨(Try.prog.info? 2).get (by kernel_rfl), by kernel_rfl, by kernel_rfl⟩

theorem act1C {b h : AH} {s : QS} {nm : Nat → Nat} {ob : Nat → Option AObj} {a : AAct} {Q : Exit → AAct → AH → Prop} (w0 : WFH b) (r : QR b h s nm ob) (hn : a.n = 53) (hd : a.df = []) (ha : a.tm 0 = vA (nm 0))
    (hQ : ∀ a' h' nm' ob', a'.n = 53 → a'.df = [] → a'.tm 0 = vA (nm 0) → QR b h' (act1 s) nm' ob' → Rest h h' nm nm' ob ob' → Q .normal a' h') :
    wpA Try.prog none (.seq (.region 0 (opsOf Try.f33 0) false) (.cond (.tmp 6) (.region 1 (opsOf Try.f33 1) true) .skip)) Q a h := by
  rw [wpA_seq, wpA_region]
  refine opsM.at (rfl : #[_, _, _] = _) (rfl : [_, _, _] = _) ?_
  simp (disch := first | omega | decide) only [push_cast, ↓reduceIte, Nat.reduceLT, Nat.reduceEqDiff, reduceCtorEq, Nat.reduceAdd, hn, hd, ha]
  refine ACall.mono ?_ (activeN' w0 r)
  rintro _ h1 ⟨rfl, g1⟩
  have r1 := r.gr g1
  by_cases e : listE s = []
  · have hz : decide (((listE s).length : Int) = 0) = true := by rw [e]; rfl
    simp (disch := first | omega | decide) only [push_cast, ↓reduceIte, Nat.reduceLT, Nat.reduceEqDiff, reduceCtorEq, Nat.reduceAdd, hn, hd, ha, hz]
    refine AW.at (rfl : _ = Code.region 1 #[_, _, _, _, _, _, _, _, _, _, _, _, _, _, _, _] true) ?_
    refine AW.drawP (.take 0 [15, 14, 13, 12, 11, 10] (.take 1 [15, 14, 13] (.take 2 [15, 14, 13, 12, 11, 10, 5, 4, 3] (.take 3 [15, 14, 13, 12, 11, 10, 5, 4] (.take 4 [15, 14, 13, 12, 11, 10, 5] (.take 5 [15, 14, 13, 12, 11, 10] (.take 6 [15, 14, 13, 12, 11, 10, 9, 8, 7] (.take 7 [15, 14, 13, 12, 11, 10, 9, 8] (.take 8 [15, 14, 13, 12, 11, 10, 9] (.take 9 [15, 14, 13, 12, 11, 10] (.take 10 [15, 14, 13, 12, 11] (.take 11 [15, 14, 13, 12] (.only 12 (.take 13 [15, 14] (.take 14 [15] (.only 15 .done)))))))))))))))) [(0, 0), (0, 1), (0, 2), (0, 3), (0, 4), (0, 5), (0, 6), (0, 7), (0, 8), (0, 9), (0, 10), (0, 11), (2, 12), (0, 13), (0, 14), (2, 15)] mixed (by kernel_rfl) (by kernel_rfl) ?_
    obtain ⟨lv, rv, wv, ql, hg, hl, h0, hlv, hrv, hw⟩ := r1.ql
    have hst1 := stC (P := Try.prog) oneMB hg 6 (.map (some (nm 5))) (by rw [qC_len hl]; decide) rfl rfl
    have hg2 : (h1.set (nm 0) (.row ((qC nm s lv rv wv).set 6 (.map (some (nm 5)))) 60 true)).get (nm 0) = some (.row ((qC nm s lv rv wv).set 6 (.map (some (nm 5)))) 60 true) := by rw [AH.set_get, if_pos rfl]
    have hst2 := stC (P := Try.prog) oneMB hg2 7 (.map (some (nm 4))) (by rw [List.length_set, qC_len hl]; decide) rfl rfl
    rw [AH.set_set] at hst2
    obtain ⟨ob', r', rest⟩ := r1.swap w0 h0 hl hlv hrv hw
    have eqc : ((qC nm s lv rv wv).set 6 (.map (some (nm 5)))).set 7 (.map (some (nm 4))) = qC (fun r => nm (sw2 4 5 r)) (swapT s) lv rv wv := rfl
    rw [eqc] at hst2
    have e1 : act1 s = swapT s := by unfold act1; rw [if_pos e]
    simp (disch := first | omega | decide) only [push_cast, ↓reduceIte, Nat.reduceLT, Nat.reduceEqDiff, reduceCtorEq, Nat.reduceAdd, hn, hd, ha, vA, faL foQ0, faL foQ1, faL foQ2, faL foQ3, faL foQ4, faL foQ5, faL foQ6, faL foQ7, faL foQ8, faL foQ9, faL foQ10, faL foQ11, faL foQ12, ql.l0, ql.l1, ql.l2, ql.l3, ql.l4, ql.l5, ql.l6, ql.l7, ql.l9, ql.l10, ql.l11, ql.l12, hst1, hst2]
    exact hQ _ _ _ _ (by simp (disch := first | omega | decide) only [push_cast, ↓reduceIte, Nat.reduceLT, Nat.reduceEqDiff, reduceCtorEq, Nat.reduceAdd, hn]) (by simp (disch := first | omega | decide) only [push_cast, ↓reduceIte, Nat.reduceLT, Nat.reduceEqDiff, reduceCtorEq, Nat.reduceAdd, hd]) (by simp (disch := first | omega | decide) only [push_cast, ↓reduceIte, Nat.reduceLT, Nat.reduceEqDiff, reduceCtorEq, Nat.reduceAdd, ha]) (e1 ▸ r') ((Rest.gr r.own.gr.wf g1 nm ob).trans rest)
  · have hz : decide (((listE s).length : Int) = 0) = false := by
      cases hE : listE s with
      | nil => exact absurd hE e
      | cons x l => simp; omega
    have e1 : act1 s = s := by unfold act1; rw [if_neg e]
    have r1' := r1
    rw [← e1] at r1'
    simp (disch := first | omega | decide) only [push_cast, ↓reduceIte, Nat.reduceLT, Nat.reduceEqDiff, reduceCtorEq, Nat.reduceAdd, hn, hd, ha, hz]
    exact hQ _ _ _ _ (by simp (disch := first | omega | decide) only [push_cast, ↓reduceIte, Nat.reduceLT, Nat.reduceEqDiff, reduceCtorEq, Nat.reduceAdd, hn]) (by simp (disch := first | omega | decide) only [push_cast, ↓reduceIte, Nat.reduceLT, Nat.reduceEqDiff, reduceCtorEq, Nat.reduceAdd, hd]) (by simp (disch := first | omega | decide) only [push_cast, ↓reduceIte, Nat.reduceLT, Nat.reduceEqDiff, reduceCtorEq, Nat.reduceAdd, ha]) r1' (Rest.gr r.own.gr.wf g1 nm ob)

theorem act2C {b h : AH} {s : QS} {nm : Nat → Nat} {ob : Nat → Option AObj} {a : AAct} {Q : Exit → AAct → AH → Prop} (w0 : WFH b) (r : QR b h s nm ob) (hn : a.n = 53) (hd : a.df = []) (ha : a.tm 0 = vA (nm 0))
    (hQ : ∀ a' h' nm' ob', a'.n = 53 → a'.df = [] → a'.tm 0 = vA (nm 0) → QR b h' (act2 s) nm' ob' → Rest h h' nm nm' ob ob' → Q .normal a' h') :
    wpA Try.prog none (.seq (.region 2 (opsOf Try.f33 2) false) (.cond (.tmp 23) (.seq (.seq (.region 3 (opsOf Try.f33 3) false) (.block 0 (bodyBlk Try.f33 0))) (.region 8 (opsOf Try.f33 8) false)) .skip)) Q a h := by
  rw [wpA_seq, wpA_region]
  refine opsM.at (rfl : #[_, _, _] = _) (rfl : [_, _, _] = _) ?_
  simp (disch := first | omega | decide) only [push_cast, ↓reduceIte, Nat.reduceLT, Nat.reduceEqDiff, reduceCtorEq, Nat.reduceAdd, hn, hd, ha]
  refine ACall.mono ?_ (activeN' w0 r)
  rintro _ h1 ⟨rfl, g1⟩
  have r1 := r.gr g1
  by_cases e : listE s = []
  · have hz : decide (((listE s).length : Int) = 0) = true := by rw [e]; rfl
    have e1 : act2 s = { s with ready := pour s.ready s.waiting, waiting := [] } := by unfold act2; rw [if_pos e]
    simp (disch := first | omega | decide) only [push_cast, ↓reduceIte, Nat.reduceLT, Nat.reduceEqDiff, reduceCtorEq, Nat.reduceAdd, hn, hd, ha, hz]
    refine opsM.at (rfl : #[_, _, _, _, _, _] = _) (rfl : [_, _, _, _, _, _] = _) ?_
    obtain ⟨lv, rv, wv, ql, hg, hl, h0, hlv, hrv, hw⟩ := r1.ql
    have hwl : s.waiting.length ≤ 20000 := by have := r.ok.held; have := r.ok.hb; omega
    have hrow : RowOf evL h1 wv s.waiting := hw.row (fun o ho => r1.own.get 9 _ ho) (by omega)
    have hlen : ∀ h', aLen Try.prog 34 wv h' = some (.int .i64 s.waiting.length) := hrow.len Try.underlying34
    simp (disch := first | omega | decide) only [push_cast, ↓reduceIte, Nat.reduceLT, Nat.reduceEqDiff, reduceCtorEq, Nat.reduceAdd, hn, hd, ha, vA, faL foQ0, faL foQ1, faL foQ2, faL foQ3, faL foQ4, faL foQ5, faL foQ6, faL foQ7, faL foQ8, faL foQ9, faL foQ10, faL foQ11, faL foQ12, ql.l0, ql.l1, ql.l2, ql.l3, ql.l4, ql.l5, ql.l6, ql.l7, ql.l9, ql.l10, ql.l11, ql.l12, hlen]
    refine AW.mono ?_ (pourL w0 r1 hw (by simp (disch := first | omega | decide) only [push_cast, ↓reduceIte, Nat.reduceLT, Nat.reduceEqDiff, reduceCtorEq, Nat.reduceAdd, hn]) (by simp (disch := first | omega | decide) only [push_cast, ↓reduceIte, Nat.reduceLT, Nat.reduceEqDiff, reduceCtorEq, Nat.reduceAdd, hd]) (by simp (disch := first | omega | decide) only [push_cast, ↓reduceIte, Nat.reduceLT, Nat.reduceEqDiff, reduceCtorEq, Nat.reduceAdd, ha]) (by simp (disch := first | omega | decide) only [push_cast, ↓reduceIte, Nat.reduceLT, Nat.reduceEqDiff, reduceCtorEq, Nat.reduceAdd]) (by simp (disch := first | omega | decide) only [push_cast, ↓reduceIte, Nat.reduceLT, Nat.reduceEqDiff, reduceCtorEq, Nat.reduceAdd]) (by simp (disch := first | omega | decide) only [push_cast, ↓reduceIte, Nat.reduceLT, Nat.reduceEqDiff, reduceCtorEq, Nat.reduceAdd]))
    rintro _ a2 h2 ⟨rfl, hn2, hd2, ha2, nm2, ob2, r2, rest2⟩
    rw [blockQ_exit, if_pos rfl]
    rw [thenQ_normal, wpA_region]
    refine opsM.at (rfl : #[_, _, _, _] = _) (rfl : [_, _, _, _] = _) ?_
    obtain ⟨lv2, rv2, wv2, ql2, hg2, hl2, h02, hlv2, hrv2, hw2⟩ := r2.ql
    have hst := stC (P := Try.prog) oneEs hg2 72 (.slice none 0 0) (by rw [qC_len hl2]; decide) rfl rfl
    rw [qC_setW hl2] at hst
    rw [rest2.n0] at hst
    simp (disch := first | omega | decide) only [push_cast, ↓reduceIte, Nat.reduceLT, Nat.reduceEqDiff, reduceCtorEq, Nat.reduceAdd, hn2, hd2, ha2, vA, faL foQ0, faL foQ1, faL foQ2, faL foQ3, faL foQ4, faL foQ5, faL foQ6, faL foQ7, faL foQ8, faL foQ9, faL foQ10, faL foQ11, faL foQ12, hst]
    have own3 := ((r2.own.set w0 h02 (o' := .row (qC nm2 (midS s s.waiting.length) lv2 rv2 (.slice none 0 0)) 60 true)).drop 9)
    rw [rest2.n0] at own3
    have rest3 := (((Rest.gr r.own.gr.wf g1 nm ob).trans rest2).trans (Rest.set r2.own.gr.wf (.row (qC nm2 (midS s s.waiting.length) lv2 rv2 (.slice none 0 0)) 60 true) h02)).trans (Rest.drop (r2.own.gr.wf.set (AH.get_lt r2.own.gr.wf (r2.own.get _ _ h02)) _) nm2 _ 9)
    rw [rest2.n0] at rest3
    have eo : ∀ i, i ≠ 0 → i ≠ 9 → upd (upd ob2 0 (some (.row (qC nm2 (midS s s.waiting.length) lv2 rv2 (.slice none 0 0)) 60 true))) 9 none i = ob2 i := fun i h1 h2 => by rw [upd_ne _ _ h2, upd_ne _ _ h1]
    have r3 : QR b (h2.set (nm 0) (.row (qC nm2 (midS s s.waiting.length) lv2 rv2 (.slice none 0 0)) 60 true)) (act2 s) nm2 (upd (upd ob2 0 (some (.row (qC nm2 (midS s s.waiting.length) lv2 rv2 (.slice none 0 0)) 60 true))) 9 none) := by
      rw [e1]
      have ew : pour s.ready (s.waiting.take s.waiting.length) = pour s.ready s.waiting := by rw [List.take_length]
      have er : (midS s s.waiting.length).ready = pour s.ready s.waiting := ew
      rw [er] at hrv2
      refine ⟨⟨own3, ?_, ?_, ?_, ?_, ?_, ?_, ?_, ?_, fun p hp => ?_⟩, ?_⟩
      · exact ⟨lv2, rv2, .slice none 0 0, by rw [upd_ne _ _ (by decide), upd_same]; rfl, by rw [eo 1 (by decide) (by decide)]; exact hlv2, hl2, fun i hi => by rw [eo _ (by omega) (by omega)]; exact hrv2 i hi, by rw [upd_same]; exact OffV.nil _ _ _⟩
      · rw [eo 2 (by decide) (by decide)]; exact r2.m2
      · rw [eo 3 (by decide) (by decide)]; exact r2.m3
      · rw [eo 4 (by decide) (by decide)]; exact r2.m4
      · rw [eo 5 (by decide) (by decide)]; exact r2.m5
      · rw [eo 6 (by decide) (by decide)]; exact r2.m6
      · rw [eo 7 (by decide) (by decide)]; exact r2.m7
      · rw [eo 8 (by decide) (by decide)]; exact r2.m8
      · exact (r2.lat p hp).ob (fun i hi => eo i (by omega) (by omega))
      · have hfix : ∀ x ∈ s.waiting, x.index.toNat < s.ready.length := fun x hx => by have := r.ok.wi x hx; have := r.ok.rl; omega
        have hsum := pour_sum s.waiting s.ready hfix
        have hh := r.ok.held
        have hh2 : s.held = ((([] : List Ev).length : Nat) : Int) + (sumL List.length (pour s.ready s.waiting) : Nat) + (sumL (fun p => p.2.updates.length) s.later : Nat) := by
          rw [hsum, hh]; simp; omega
        have hri : ∀ i, i < 64 → ∀ x ∈ (pour s.ready s.waiting).getD i [], x.index = i ∧ x.kind = 4 := by
          intro i hi x hx
          rcases pour_mem _ _ _ _ hx with hx | ⟨hx, e⟩
          · exact r.ok.ri i hi x hx
          · have := r.ok.wi x hx; exact ⟨by omega, this.2.2⟩
        exact { r.ok with rl := by rw [pour_len]; exact r.ok.rl, held := hh2, wi := fun x hx => (nomatch hx), ri := hri }
    exact hQ _ _ _ _ (by simp (disch := first | omega | decide) only [push_cast, ↓reduceIte, Nat.reduceLT, Nat.reduceEqDiff, reduceCtorEq, Nat.reduceAdd, hn2]) (by simp (disch := first | omega | decide) only [push_cast, ↓reduceIte, Nat.reduceLT, Nat.reduceEqDiff, reduceCtorEq, Nat.reduceAdd, hd2]) (by simp (disch := first | omega | decide) only [push_cast, ↓reduceIte, Nat.reduceLT, Nat.reduceEqDiff, reduceCtorEq, Nat.reduceAdd, ha2]) r3 rest3
  · have hz : decide (((listE s).length : Int) = 0) = false := by
      cases hE : listE s with
      | nil => exact absurd hE e
      | cons x l => simp; omega
    have e1 : act2 s = s := by unfold act2; rw [if_neg e]
    have r1' := r1
    rw [← e1] at r1'
    simp (disch := first | omega | decide) only [push_cast, ↓reduceIte, Nat.reduceLT, Nat.reduceEqDiff, reduceCtorEq, Nat.reduceAdd, hn, hd, ha, hz]
    exact hQ _ _ _ _ (by simp (disch := first | omega | decide) only [push_cast, ↓reduceIte, Nat.reduceLT, Nat.reduceEqDiff, reduceCtorEq, Nat.reduceAdd, hn]) (by simp (disch := first | omega | decide) only [push_cast, ↓reduceIte, Nat.reduceLT, Nat.reduceEqDiff, reduceCtorEq, Nat.reduceAdd, hd]) (by simp (disch := first | omega | decide) only [push_cast, ↓reduceIte, Nat.reduceLT, Nat.reduceEqDiff, reduceCtorEq, Nat.reduceAdd, ha]) r1' (Rest.gr r.own.gr.wf g1 nm ob)

theorem activateN {b h : AH} {s : QS} {nm : Nat → Nat} {ob : Nat → Option AObj} (w0 : WFH b) (r : QR b h s nm ob) :
    ACall Try.prog 33 [vA (nm 0)] h (fun _ h' => ∃ nm' ob', QR b h' (actS s) nm' ob' ∧ Rest h h' nm nm' ob ob') := by
  refine ACall.of_wp (c := (.seq (.seq (.region 0 (opsOf Try.f33 0) false) (.cond (.tmp 6) (.region 1 (opsOf Try.f33 1) true) .skip)) (.seq (.region 2 (opsOf Try.f33 2) false) (.cond (.tmp 23) (.seq (.seq (.region 3 (opsOf Try.f33 3) false) (.block 0 (bodyBlk Try.f33 0))) (.region 8 (opsOf Try.f33 8) false)) .skip)))) 53 [] Try.func33 (by kernel_rfl) rfl rfl (by kernel_rfl) fun a hn hd ha => ?_
  rw [wpA_seq]
  refine act1C w0 r hn hd (ha 0) fun a1 h1 nm1 ob1 hn1 hd1 ha1 r1 rest1 => ?_
  rw [thenQ_normal]
  refine act2C w0 r1 hn1 hd1 (by rw [rest1.n0]; exact ha1) fun a2 h2 nm2 ob2 hn2 hd2 ha2 r2 rest2 => ?_
  simp (disch := first | omega | decide) only [push_cast, ↓reduceIte, Nat.reduceLT, Nat.reduceEqDiff, reduceCtorEq, Nat.reduceAdd, hn2, hd2]
  exact ⟨nm2, ob2, r2, rest1.trans rest2⟩

attribute [local push_cast] wpA_rangeFuncQ

theorem nextB0 {b h : AH} {s : QS} {nm : Nat → Nat} {ob : Nat → Option AObj} {a : AAct} {A5 A6 B k : Nat} {z : Ev} (w0 : WFH b) (r : QR b h s nm ob) (hn : a.n = 77) (hd : a.df = []) (h5 : a.tm 5 = vA A5) (h6 : a.tm 6 = vA A6)
    (h23 : a.tm 23 = .func (.func 38) #[] #[.pointer (some ⟨B, 0, none⟩)]) (g5 : h.get A5 = some (.row (evC z) 33 true)) (g6 : h.get A6 = some (.row [.int .i64 k] 3 true)) (gB : CsAt h B [vA (nm 0)])
    (h56 : A5 ≠ A6) (hB5 : B ≠ A5) (hB6 : B ≠ A6) (hb5 : b.next ≤ A5) (hb6 : b.next ≤ A6) (ho : ∀ r o, ob r = some o → nm r ≠ A5 ∧ nm r ≠ A6) (hk : k < (listE s).length) :
    AW Try.prog none (bodyBlk Try.f15 0) (fun e a' h' => e = .exit 0 ∧ a' = { a with df := [h.next] } ∧ Tch (fun C => C = A5 ∨ C = A6) h h' ∧ h'.get A5 = some (.row (evC ((listE s).getD k ⟨0, 0, 0⟩)) 33 true) ∧ h'.get h.next = some (.dfr true)) a h := by
  refine AW.at (rfl : bodyBlk Try.f15 0 = .rangeFunc _ _ _ _) ?_
  have w := r.own.gr.wf
  have l5 := AH.get_lt w g5
  have l6 := AH.get_lt w g6
  have lB : B < h.next := by obtain ⟨o, x, _⟩ := gB; exact AH.get_lt w x
  refine rangeN (gf := 38) (first := #[]) (cap := #[.pointer (some ⟨B, 0, none⟩)]) rfl (by simp (disch := first | omega | decide) only [push_cast, ↓reduceIte, Nat.reduceLT, Nat.reduceEqDiff, reduceCtorEq, Nat.reduceAdd, h23]) ?_
  intro l0 q1 q2 q3 q4 q5 q6 q7
  have g2 := ((Gr.refl w).new (.dfr true)).new (.loop l0)
  have n4 : ((h.new (.dfr true)).new (.loop l0)).next = h.next + 2 := rfl
  have y5 := g2.sub _ _ g5
  have y6 := g2.sub _ _ g6
  have yB := gB.sub g2.sub
  have y2 : ((h.new (.dfr true)).new (.loop l0)).get h.next = some (.dfr true) := by rw [AH.new_get, if_neg (by simp), AH.new_get, if_pos rfl]
  have y3 : ((h.new (.dfr true)).new (.loop l0)).get (h.next + 1) = some (.loop l0) := by rw [AH.new_get]; exact if_pos rfl
  generalize (h.new (.dfr true)).new (.loop l0) = k4 at g2 n4 y5 y6 yB y2 y3 ⊢
  have lc : LC b k4 s nm ob (fun C => C = A5 ∨ C = A6 ∨ C = h.next + 1) B := ⟨w0, r.gr g2, ⟨fun C hC => by have := r.own.gr.nx; omega, fun j o hj hC => by have := AH.get_lt w (r.own.get j o hj); have := ho j o hj; omega⟩, yB, by omega⟩
  have hl256 := listE_len r
  refine ACall.mono ?_ (listN (J := fun acc h1 => WFH h1 ∧ h1.get (h.next + 1) = some (.loop l0) ∧ (∃ z, h1.get A5 = some (.row (evC z) 33 true)) ∧ h1.get A6 = some (.row [.int .i64 ((k : Int) - acc.length)] 3 true) ∧ acc.length ≤ k)
    (D := fun acc h1 => WFH h1 ∧ h1.get (h.next + 1) = some (.loop { l0 with state := .done, pending := some (.exit 0) }) ∧ acc.length = k + 1 ∧ h1.get A5 = some (.row (evC (acc.getD k ⟨0, 0, 0⟩)) 33 true)) (yv := .func (.yield (h.next + 1)) #[] #[]) lc (fun C hC => by omega) (by have := r.l64; omega) (by have := r.l64; omega) (by have := r.l64; omega) ⟨fun acc h1 h2 j g => ⟨g.wf, g.sub _ _ j.2.1, (let ⟨z, hz⟩ := j.2.2.1; ⟨z, g.sub _ _ hz⟩), g.sub _ _ j.2.2.2.1, j.2.2.2.2⟩, ?_⟩ ⟨g2.wf, y3, ⟨z, y5⟩, by simpa using y6, by simp⟩)
  · rintro v h' ⟨t, ⟨wf, _, _, _, hle⟩ | ⟨acc, x, rest, hL, wf, z3, hlen, z5⟩⟩
    · omega
    · have hL1 := AH.get_lt wf z3
      refine ⟨_, z3, (fun e => nomatch e), ?_⟩
      refine AW.exit ?_
      have hacc : acc.length = k := by rw [List.length_append, List.length_singleton] at hlen; omega
      have hx : (acc ++ [x]).getD k ⟨0, 0, 0⟩ = (listE s).getD k ⟨0, 0, 0⟩ := by
        rw [hL, List.getD_eq_getElem?_getD, List.getD_eq_getElem?_getD, List.getElem?_append_right (by omega), List.getElem?_append_right (by omega)]
        simp [hacc]
      rw [hx] at z5
      refine ⟨rfl, by rw [hd], ⟨wf.set hL1 _, by simp only [AH.set_next]; have := t.nx; omega, fun C o hC hg => ?_⟩, by rw [AH.set_get, if_neg (by omega)]; exact z5, by rw [AH.set_get, if_neg (by omega)]; exact t.keep _ _ (by omega) y2⟩
      have := AH.get_lt w hg
      rw [AH.set_get, if_neg (by omega)]
      exact t.keep C o (by omega) (g2.sub _ _ hg)
  · intro acc x rest h1 hL j t
    obtain ⟨w1, z3, ⟨z, z5⟩, z6, hle⟩ := j
    have x5 := AH.get_lt w1 z5
    have x6 := AH.get_lt w1 z6
    have x3 := AH.get_lt w1 z3
    have hw : IntKind.i64.wrap ((k : Int) - acc.length - 1) = (k : Int) - acc.length - 1 := by
      have : k < 256 := by omega
      exact wrapI (by omega) (by omega)
    refine ⟨l0, z3, by rw [q5]; rfl, by rw [q5, q3]; simp [hn], ?_⟩
    have t24 : (l0.act [.agg (evC x).toArray]).tm 24 = .agg (evC x).toArray := by simp [ALoop.act, q5]
    have t5 : (l0.act [.agg (evC x).toArray]).tm 5 = vA A5 := by simp [ALoop.act, q5, q4, h5]
    have t6 : (l0.act [.agg (evC x).toArray]).tm 6 = vA A6 := by simp [ALoop.act, q5, q4, h6]
    have hna : (l0.act [.agg (evC x).toArray]).n = 77 := by simp [ALoop.act, q3, hn]
    have hda : (l0.act [.agg (evC x).toArray]).df = [] := rfl
    show AW _ _ _ _ (l0.act [.agg (evC x).toArray]) h1
    generalize l0.act [.agg (evC x).toArray] = a9 at t24 t5 t6 hna hda ⊢
    rw [q6]
    refine wpA_sound _ _ _ _ ?_
    have hst := stA agV (P := Try.prog) z5 (rfl : (evC z).length = 3) (evC x) rfl rfl
    simp (disch := first | omega | decide) only [push_cast, ↓reduceIte, Nat.reduceLT, Nat.reduceEqDiff, reduceCtorEq, Nat.reduceAdd, hna, hda, t24, t5, t6, vA, hst]
    have w2 := w1.set x5 (.row (evC x) 33 true)
    have e3 : (h1.set A5 (.row (evC x) 33 true)).get (h.next + 1) = some (.loop l0) := by rw [AH.set_get, if_neg (by omega)]; exact z3
    have e5 : (h1.set A5 (.row (evC x) 33 true)).get A5 = some (.row (evC x) 33 true) := by rw [AH.set_get, if_pos rfl]
    have e6 : (h1.set A5 (.row (evC x) 33 true)).get A6 = some (.row [.int .i64 ((k : Int) - acc.length)] 3 true) := by rw [AH.set_get, if_neg (by omega)]; exact z6
    have ek : ∀ C, C ≠ A5 → (h1.set A5 (.row (evC x) 33 true)).get C = h1.get C := fun C hC => by rw [AH.set_get, if_neg hC]
    have en : (h1.set A5 (.row (evC x) 33 true)).next = h1.next := rfl
    generalize h1.set A5 (.row (evC x) 33 true) = h2 at w2 e3 e5 e6 ek en ⊢
    refine ⟨l0, e3, q1, ?_⟩
    have w3 := w2.set (show h.next + 1 < h2.next by omega) (.loop { l0 with state := .busy })
    have f3 : (h2.set (h.next + 1) (.loop { l0 with state := .busy })).get (h.next + 1) = some (.loop { l0 with state := .busy }) := by rw [AH.set_get, if_pos rfl]
    have f5 : (h2.set (h.next + 1) (.loop { l0 with state := .busy })).get A5 = some (.row (evC x) 33 true) := by rw [AH.set_get, if_neg (by omega)]; exact e5
    have f6 : (h2.set (h.next + 1) (.loop { l0 with state := .busy })).get A6 = some (.row [.int .i64 ((k : Int) - acc.length)] 3 true) := by rw [AH.set_get, if_neg (by omega)]; exact e6
    have fk : ∀ C, C ≠ h.next + 1 → (h2.set (h.next + 1) (.loop { l0 with state := .busy })).get C = h2.get C := fun C hC => by rw [AH.set_get, if_neg hC]
    have fn : (h2.set (h.next + 1) (.loop { l0 with state := .busy })).next = h2.next := rfl
    generalize h2.set (h.next + 1) (.loop { l0 with state := .busy }) = h3 at w3 f3 f5 f6 fk fn ⊢
    rw [q7]
    refine wpA_sound _ _ _ _ ?_
    have hld : aLoad Try.prog 3 (.pointer (some ⟨A6, 0, none⟩)) h3 = some (.int .i64 ((k : Int) - acc.length)) := ldL (P := Try.prog) f6 rfl flI 0 (by show 0 < 1; decide)
    by_cases hz0 : acc.length = k
    · have hz : decide ((k : Int) - acc.length = 0) = true := by simp; omega
      simp (disch := first | omega | decide) only [push_cast, ↓reduceIte, Nat.reduceLT, Nat.reduceEqDiff, reduceCtorEq, Nat.reduceAdd, hna, hda, t24, t5, t6, vA, hld, hz]
      refine ⟨_, f3, ⟨w3.set (by omega) _, by simp only [AH.set_next]; omega, fun C o hC hg => ?_⟩, .inr ⟨rfl, w3.set (by omega) _, by rw [AH.set_get, if_pos rfl]; simp only [q6, q7], by rw [List.length_append, List.length_singleton]; omega, ?_⟩⟩
      · rw [AH.set_get, if_neg (fun e => hC (.inr (.inr e))), fk _ (fun e => hC (.inr (.inr e))), ek _ (fun e => hC (.inl e))]; exact hg
      · rw [AH.set_get, if_neg (by omega), f5]
        have : (acc ++ [x]).getD k ⟨0, 0, 0⟩ = x := by rw [List.getD_eq_getElem?_getD, List.getElem?_append_right (by omega)]; simp [hz0]
        rw [this]
    · have hz : decide ((k : Int) - acc.length = 0) = false := by simp; omega
      have hst := stC (P := Try.prog) one1I f6 0 (.int .i64 ((k : Int) - acc.length - 1)) (by show 0 < 1; decide) rfl rfl
      simp (disch := first | omega | decide) only [push_cast, ↓reduceIte, Nat.reduceLT, Nat.reduceEqDiff, reduceCtorEq, Nat.reduceAdd, hna, hda, t24, t5, t6, vA, hld, hz, hw, hst]
      refine ⟨_, by rw [AH.set_get, if_neg (by omega)]; exact f3, ?_⟩
      have hb2 : ({ ({ l0 with state := .busy } : ALoop) with state := .ready, pending := none } : ALoop) = l0 := by
        cases l0; simp only at q1 q2; subst q1; subst q2; rfl
      rw [hb2]
      have wE : WFH ((h3.set A6 (.row ([Value.int .i64 ((k : Int) - acc.length)].set 0 (.int .i64 ((k : Int) - acc.length - 1))) 3 true)).set (h.next + 1) (.loop l0)) := (w3.set (by omega) _).set (by show h.next + 1 < h3.next; omega) _
      refine ⟨⟨wE, by simp only [AH.set_next]; omega, fun C o hC hg => ?_⟩, .inl ⟨rfl, wE, by rw [AH.set_get, if_pos rfl], ⟨x, ?_⟩, ?_, by rw [List.length_append, List.length_singleton]; omega⟩⟩
      · rw [AH.set_get, if_neg (fun e => hC (.inr (.inr e))), AH.set_get, if_neg (fun e => hC (.inr (.inl e))), fk _ (fun e => hC (.inr (.inr e))), ek _ (fun e => hC (.inl e))]; exact hg
      · rw [AH.set_get, if_neg (by omega), AH.set_get, if_neg (by omega)]; exact f5
      · rw [AH.set_get, if_neg (by omega), AH.set_get, if_pos rfl, List.length_append, List.length_singleton]
        have : (k : Int) - acc.length - 1 = (k : Int) - ((acc.length + 1 : Nat) : Int) := by omega
        rw [← this]; rfl


def remS (s : QS) (x : Ev) : QS :=
  if x.kind = 1 then { s with drives := adel x.index s.drives }
  else if x.kind = 2 then { s with evals := adel x.index s.evals }
  else if x.kind = 3 then { s with threads := adel x.index s.threads }
  else { s with ready := s.ready.set x.index.toNat (s.ready.getD x.index.toNat []).tail, held := s.held - 1 }

theorem QRl.setNum {b h : AH} {s : QS} {nm : Nat → Nat} {ob : Nat → Option AObj} (w0 : WFH b) (r : QRl b h s nm ob) {lv : Value} {rv : List Value} {wv : Value} (h0 : ob 0 = some (.row (qC nm s lv rv wv) 60 true)) (hl : rv.length = 64) (hlv : OffV 1 48 lv (ob 1) (nm 1) s.left.length (s.left.map (.int .u32)))
    (hrv : ∀ i, i < 64 → EvV (rv.getD i undef) (ob (10 + i)) (nm (10 + i)) (s.ready.getD i [])) (hw : EvV wv (ob 9) (nm 9) s.waiting) (now held : Int) :
    QRl b (h.set (nm 0) (.row (qC nm { s with now := now, held := held } lv rv wv) 60 true)) { s with now := now, held := held } nm (upd ob 0 (some (.row (qC nm { s with now := now, held := held } lv rv wv) 60 true))) where
  own := r.own.set w0 h0
  q := ⟨lv, rv, wv, by rw [upd_same], by rw [upd_ne _ _ (by decide)]; exact hlv, hl, fun i hi => by rw [upd_ne _ _ (by omega)]; exact hrv i hi, by rw [upd_ne _ _ (by decide)]; exact hw⟩
  m2 := by rw [upd_ne _ _ (by decide)]; exact r.m2
  m3 := by rw [upd_ne _ _ (by decide)]; exact r.m3
  m4 := by rw [upd_ne _ _ (by decide)]; exact r.m4
  m5 := by rw [upd_ne _ _ (by decide)]; exact r.m5
  m6 := by rw [upd_ne _ _ (by decide)]; exact r.m6
  m7 := by rw [upd_ne _ _ (by decide)]; exact r.m7
  m8 := by rw [upd_ne _ _ (by decide)]; exact r.m8
  lat := fun p hp => (r.lat p hp).ob (fun i hi => upd_ne _ _ (by omega))

theorem QR.set2 {b h : AH} {s : QS} {nm : Nat → Nat} {ob : Nat → Option AObj} (w0 : WFH b) (r : QR b h s nm ob) {l : List (Int × Int)} {o' : AObj} (m : MapO vI o' l) (hl : ∀ p ∈ l, 0 ≤ p.1 ∧ p.1 < 64) : QR b (h.set (nm 2) o') { s with drives := l } nm (upd ob 2 (some o')) where
  own := by
    obtain ⟨o, ho, _⟩ := r.m2
    exact r.own.set w0 ho
  q := by
    obtain ⟨lv, rv, wv, h0, h1, h2, h3, h4⟩ := r.q
    exact ⟨lv, rv, wv, by rw [upd_ne _ _ (by decide)]; exact h0, by rw [upd_ne _ _ (by decide)]; exact h1, h2, fun i hi => by rw [upd_ne _ _ (by omega)]; exact h3 i hi, by rw [upd_ne _ _ (by decide)]; exact h4⟩
  m3 := by rw [upd_ne _ _ (by decide)]; exact r.m3
  m4 := by rw [upd_ne _ _ (by decide)]; exact r.m4
  m5 := by rw [upd_ne _ _ (by decide)]; exact r.m5
  m6 := by rw [upd_ne _ _ (by decide)]; exact r.m6
  m7 := by rw [upd_ne _ _ (by decide)]; exact r.m7
  m8 := by rw [upd_ne _ _ (by decide)]; exact r.m8
  m2 := ⟨o', by rw [upd_same], m⟩
  lat := fun p hp => (r.lat p hp).ob (fun i hi => upd_ne _ _ (by omega))
  ok := { r.ok with kd := hl }

/-! ### The list's elements -/

theorem heads_mem : ∀ (l : List (List Ev)) (x : Ev), x ∈ heads l → ∃ i r, i < l.length ∧ l.getD i [] = x :: r := by
  intro l
  induction l with
  | nil => intro x h; cases h
  | cons y l ih =>
    intro x h
    cases y with
    | nil =>
      obtain ⟨i, r, hi, hr⟩ := ih x h
      exact ⟨i + 1, r, by simpa using hi, by simpa using hr⟩
    | cons z t =>
      rcases List.mem_cons.1 h with rfl | h
      · exact ⟨0, t, by simp, rfl⟩
      · obtain ⟨i, r, hi, hr⟩ := ih x h
        exact ⟨i + 1, r, by simpa using hi, by simpa using hr⟩

theorem keysL_mem {α : Type} {l : List (Int × α)} {k : Int} : k ∈ keysL l ↔ ∃ p ∈ l, p.1 = k := by
  unfold keysL
  rw [(sortL_perm _).mem_iff, List.mem_map]

/-- What an active event is. -/
inductive Act (s : QS) (x : Ev) : Prop
  | drive (hk : x.kind = 1) (hi : ∃ p ∈ s.drives, p.1 = x.index)
  | eval (hk : x.kind = 2) (hi : ∃ p ∈ s.evals, p.1 = x.index)
  | thread (hk : x.kind = 3) (hi : ∃ p ∈ s.threads, p.1 = x.index)
  | update (hk : x.kind = 4) (j : Nat) (t : List Ev) (hj : j < 64) (hi : x.index = j) (hr : s.ready.getD j [] = x :: t)

theorem act_of {s : QS} (o : QOK s) {x : Ev} (h : x ∈ listE s) : Act s x := by
  unfold listE at h
  rcases List.mem_append.1 h with h | h
  · obtain ⟨k, hk, rfl⟩ := List.mem_map.1 h
    exact .drive rfl (keysL_mem.1 hk)
  rcases List.mem_append.1 h with h | h
  · obtain ⟨k, hk, rfl⟩ := List.mem_map.1 h
    exact .eval rfl (keysL_mem.1 hk)
  rcases List.mem_append.1 h with h | h
  · obtain ⟨k, hk, rfl⟩ := List.mem_map.1 h
    exact .thread rfl (keysL_mem.1 hk)
  · obtain ⟨i, t, hi, hr⟩ := heads_mem _ _ h
    have hi64 : i < 64 := by have := o.rl; omega
    have hx := o.ri i hi64 x (by rw [hr]; exact List.mem_cons_self ..)
    exact .update hx.2 i t hi64 hx.1 hr

theorem QOK.rem {s : QS} (o : QOK s) {x : Ev} (h : Act s x) : QOK (remS s x) := by
  cases h with
  | drive hk hi =>
    unfold remS; rw [if_pos hk]
    exact { o with kd := fun p hp => o.kd p (mem_adel hp) }
  | eval hk hi =>
    unfold remS; rw [if_neg (by omega), if_pos hk]
    exact { o with ke := fun p hp => o.ke p (mem_adel hp) }
  | thread hk hi =>
    unfold remS; rw [if_neg (by omega), if_neg (by omega), if_pos hk]
    exact { o with kt := fun p hp => o.kt p (mem_adel hp) }
  | update hk j t hj hi hr =>
    unfold remS; rw [if_neg (by omega), if_neg (by omega), if_neg (by omega)]
    have hj' : x.index.toNat = j := by omega
    rw [hj', hr]
    have hs := sumL_set List.length [] s.ready j t (by have := o.rl; omega)
    rw [hr, List.length_cons] at hs
    have hh := o.held
    have hb := o.hb
    have hheld : s.held - 1 = s.waiting.length + (sumL List.length (s.ready.set j t) : Nat) + (sumL (fun p => p.2.updates.length) s.later : Nat) := by omega
    have hri : ∀ i, i < 64 → ∀ y ∈ (s.ready.set j t).getD i [], y.index = i ∧ y.kind = 4 := by
      intro i hi2 y hy
      by_cases e : i = j
      · subst e
        have : (s.ready.set i t).getD i [] = t := by
          rw [List.getD_eq_getElem?_getD, List.getElem?_set_self (by rw [o.rl]; exact hi2)]; rfl
        rw [this] at hy
        exact o.ri i hi2 y (by rw [hr]; exact List.mem_cons_of_mem _ hy)
      · have : (s.ready.set j t).getD i [] = s.ready.getD i [] := by simp [List.getD_eq_getElem?_getD, List.getElem?_set_ne (fun h => e h.symm)]
        rw [this] at hy
        exact o.ri i hi2 y hy
    exact { o with rl := by rw [List.length_set]; exact o.rl, held := hheld, hb := by show s.held - 1 ≤ _; omega, ri := hri }


theorem nextB2 {b h : AH} {s : QS} {nm : Nat → Nat} {ob : Nat → Option AObj} {a : AAct} {A5 : Nat} {x : Ev} {Q : Exit → AAct → AH → Prop} (w0 : WFH b) (r : QR b h s nm ob) (act : Act s x) (hn : a.n = 77) (h0' : a.tm 0 = vA (nm 0)) (h5 : a.tm 5 = vA A5) (h30 : a.tm 30 = .int .u8 x.kind)
    (g5 : h.get A5 = some (.row (evC x) 33 true)) (hA5 : ∀ r o, ob r = some o → nm r ≠ A5)
    (hQ : ∀ a' h' ob', a'.n = 77 → a'.df = a.df → (∀ t, t < 31 → a'.tm t = a.tm t) → QR b h' (remS s x) nm ob' → Rest h h' nm nm ob ob' → Q .normal a' h') :
    wpA Try.prog none (.seq (.region 16 (opsOf Try.f15 16) false) (.cond (.tmp 52) (.region 17 (opsOf Try.f15 17) true) (.seq (.region 18 (opsOf Try.f15 18) false) (.cond (.tmp 60) (.region 19 (opsOf Try.f15 19) true) (.seq (.region 20 (opsOf Try.f15 20) false) (.cond (.tmp 68) (.region 21 (opsOf Try.f15 21) true) (.seq (.region 14 (opsOf Try.f15 14) true) (.region 15 (opsOf Try.f15 15) false)))))))) Q a h := by
  obtain ⟨lv, rv, wv, ql, hg, hl, h0, hlv, hrv, hw⟩ := r.ql
  have rok := r.ok.rem act
  have c5 : CsAt h A5 (evC x) := ⟨_, g5, rfl⟩
  have hix : aLoad Try.prog 3 (.pointer (some ⟨A5, 1, none⟩)) h = some (.int .i64 x.index) := c5.ld flI 1 (by show 1 < 3; decide)
  have wf := r.own.gr.wf
  rw [wpA_seq, wpA_region]
  refine opsM.at (rfl : #[_, _] = _) (rfl : [_, _] = _) ?_
  cases act with
  | drive hk hi =>
    have e1 : decide (x.kind = 1) = true := by simp [hk]
    have er : remS s x = { s with drives := adel x.index s.drives } := by unfold remS; rw [if_pos hk]
    simp (disch := first | omega | decide) only [push_cast, ↓reduceIte, Nat.reduceLT, Nat.reduceEqDiff, reduceCtorEq, Nat.reduceAdd, hn, h0', h5, h30, e1]
    refine AW.at (rfl : _ = Code.region 17 #[_, _, _, _, _, _, _] true) ?_
    refine AW.drawP (.take 0 [6, 3, 2, 1] (.take 1 [6, 3, 2] (.take 2 [6, 3] (.take 3 [6] (.take 4 [6, 5] (.take 5 [6] (.only 6 .done))))))) [(0, 0), (0, 1), (0, 2), (0, 3), (0, 4), (0, 5), (2, 6)] mixed (by kernel_rfl) (by kernel_rfl) ?_
    obtain ⟨o, ho, m⟩ := r.m2
    have mp : MapL vI h (nm 2) s.drives := ⟨o, r.own.get _ _ ho, m⟩
    obtain ⟨o', hup, m'⟩ := mp.del mtD x.index
    simp (disch := first | omega | decide) only [push_cast, ↓reduceIte, Nat.reduceLT, Nat.reduceEqDiff, reduceCtorEq, Nat.reduceAdd, hn, h0', h5, h30, vA, faL foQ0, faL foQ1, faL foQ2, faL foQ3, faL foQ4, faL foQ5, faL foQ6, faL foQ7, faL foQ8, faL foQ9, faL foQ10, faL foQ11, faL foQ12, faL foV0, faL foV1, faL foV2, ql.l0, ql.l1, ql.l2, ql.l3, ql.l4, ql.l5, ql.l6, ql.l7, ql.l9, ql.l10, ql.l11, ql.l12, hix, hup]
    exact hQ _ _ _ (by simp (disch := first | omega | decide) only [push_cast, ↓reduceIte, Nat.reduceLT, Nat.reduceEqDiff, reduceCtorEq, Nat.reduceAdd, hn]) (by simp (disch := first | omega | decide) only [push_cast, ↓reduceIte, Nat.reduceLT, Nat.reduceEqDiff, reduceCtorEq, Nat.reduceAdd]) (fun t ht => by simp only [put_tm, put_none]; repeat rw [if_neg (by omega)]) (er ▸ r.set2 w0 m' (fun p hp => r.ok.kd p (mem_adel hp))) (Rest.set wf _ ho)
  | eval hk hi =>
    have e1 : decide (x.kind = 1) = false := by simp [hk]
    have e2 : decide (x.kind = 2) = true := by simp [hk]
    have er : remS s x = { s with evals := adel x.index s.evals } := by unfold remS; rw [if_neg (by omega), if_pos hk]
    simp (disch := first | omega | decide) only [push_cast, ↓reduceIte, Nat.reduceLT, Nat.reduceEqDiff, reduceCtorEq, Nat.reduceAdd, hn, h0', h5, h30, e1]
    refine opsM.at (rfl : #[_, _] = _) (rfl : [_, _] = _) ?_
    simp (disch := first | omega | decide) only [push_cast, ↓reduceIte, Nat.reduceLT, Nat.reduceEqDiff, reduceCtorEq, Nat.reduceAdd, hn, h0', h5, h30, e2]
    refine AW.at (rfl : _ = Code.region 19 #[_, _, _, _, _, _, _] true) ?_
    refine AW.drawP (.take 0 [6, 3, 2, 1] (.take 1 [6, 3, 2] (.take 2 [6, 3] (.take 3 [6] (.take 4 [6, 5] (.take 5 [6] (.only 6 .done))))))) [(0, 0), (0, 1), (0, 2), (0, 3), (0, 4), (0, 5), (2, 6)] mixed (by kernel_rfl) (by kernel_rfl) ?_
    obtain ⟨o, ho, m⟩ := r.m3
    have mp : MapL vB h (nm 3) s.evals := ⟨o, r.own.get _ _ ho, m⟩
    obtain ⟨o', hup, m'⟩ := mp.del mtB x.index
    simp (disch := first | omega | decide) only [push_cast, ↓reduceIte, Nat.reduceLT, Nat.reduceEqDiff, reduceCtorEq, Nat.reduceAdd, hn, h0', h5, h30, vA, faL foQ0, faL foQ1, faL foQ2, faL foQ3, faL foQ4, faL foQ5, faL foQ6, faL foQ7, faL foQ8, faL foQ9, faL foQ10, faL foQ11, faL foQ12, faL foV0, faL foV1, faL foV2, ql.l0, ql.l1, ql.l2, ql.l3, ql.l4, ql.l5, ql.l6, ql.l7, ql.l9, ql.l10, ql.l11, ql.l12, hix, hup]
    exact hQ _ _ _ (by simp (disch := first | omega | decide) only [push_cast, ↓reduceIte, Nat.reduceLT, Nat.reduceEqDiff, reduceCtorEq, Nat.reduceAdd, hn]) (by simp (disch := first | omega | decide) only [push_cast, ↓reduceIte, Nat.reduceLT, Nat.reduceEqDiff, reduceCtorEq, Nat.reduceAdd]) (fun t ht => by simp only [put_tm, put_none]; repeat rw [if_neg (by omega)]) (er ▸ r.set3 w0 m' (fun p hp => r.ok.ke p (mem_adel hp))) (Rest.set wf _ ho)
  | thread hk hi =>
    have e1 : decide (x.kind = 1) = false := by simp [hk]
    have e2 : decide (x.kind = 2) = false := by simp [hk]
    have e3 : decide (x.kind = 3) = true := by simp [hk]
    have er : remS s x = { s with threads := adel x.index s.threads } := by unfold remS; rw [if_neg (by omega), if_neg (by omega), if_pos hk]
    simp (disch := first | omega | decide) only [push_cast, ↓reduceIte, Nat.reduceLT, Nat.reduceEqDiff, reduceCtorEq, Nat.reduceAdd, hn, h0', h5, h30, e1]
    refine opsM.at (rfl : #[_, _] = _) (rfl : [_, _] = _) ?_
    simp (disch := first | omega | decide) only [push_cast, ↓reduceIte, Nat.reduceLT, Nat.reduceEqDiff, reduceCtorEq, Nat.reduceAdd, hn, h0', h5, h30, e2]
    refine opsM.at (rfl : #[_, _] = _) (rfl : [_, _] = _) ?_
    simp (disch := first | omega | decide) only [push_cast, ↓reduceIte, Nat.reduceLT, Nat.reduceEqDiff, reduceCtorEq, Nat.reduceAdd, hn, h0', h5, h30, e3]
    refine AW.at (rfl : _ = Code.region 21 #[_, _, _, _, _, _, _] true) ?_
    refine AW.drawP (.take 0 [6, 3, 2, 1] (.take 1 [6, 3, 2] (.take 2 [6, 3] (.take 3 [6] (.take 4 [6, 5] (.take 5 [6] (.only 6 .done))))))) [(0, 0), (0, 1), (0, 2), (0, 3), (0, 4), (0, 5), (2, 6)] mixed (by kernel_rfl) (by kernel_rfl) ?_
    obtain ⟨o, ho, m⟩ := r.m4
    have mp : MapL vB h (nm 4) s.threads := ⟨o, r.own.get _ _ ho, m⟩
    obtain ⟨o', hup, m'⟩ := mp.del mtB x.index
    simp (disch := first | omega | decide) only [push_cast, ↓reduceIte, Nat.reduceLT, Nat.reduceEqDiff, reduceCtorEq, Nat.reduceAdd, hn, h0', h5, h30, vA, faL foQ0, faL foQ1, faL foQ2, faL foQ3, faL foQ4, faL foQ5, faL foQ6, faL foQ7, faL foQ8, faL foQ9, faL foQ10, faL foQ11, faL foQ12, faL foV0, faL foV1, faL foV2, ql.l0, ql.l1, ql.l2, ql.l3, ql.l4, ql.l5, ql.l6, ql.l7, ql.l9, ql.l10, ql.l11, ql.l12, hix, hup]
    exact hQ _ _ _ (by simp (disch := first | omega | decide) only [push_cast, ↓reduceIte, Nat.reduceLT, Nat.reduceEqDiff, reduceCtorEq, Nat.reduceAdd, hn]) (by simp (disch := first | omega | decide) only [push_cast, ↓reduceIte, Nat.reduceLT, Nat.reduceEqDiff, reduceCtorEq, Nat.reduceAdd]) (fun t ht => by simp only [put_tm, put_none]; repeat rw [if_neg (by omega)]) (er ▸ r.set4 w0 m' (fun p hp => r.ok.kt p (mem_adel hp))) (Rest.set wf _ ho)
  | update hk j t hj hi hr =>
    have e1 : decide (x.kind = 1) = false := by simp [hk]
    have e2 : decide (x.kind = 2) = false := by simp [hk]
    have e3 : decide (x.kind = 3) = false := by simp [hk]
    have hj' : x.index.toNat = j := by omega
    have er : remS s x = { s with ready := s.ready.set j t, held := s.held - 1 } := by unfold remS; rw [if_neg (by omega), if_neg (by omega), if_neg (by omega), hj', hr]; rfl
    rw [hi] at hix
    simp (disch := first | omega | decide) only [push_cast, ↓reduceIte, Nat.reduceLT, Nat.reduceEqDiff, reduceCtorEq, Nat.reduceAdd, hn, h0', h5, h30, e1]
    refine opsM.at (rfl : #[_, _] = _) (rfl : [_, _] = _) ?_
    simp (disch := first | omega | decide) only [push_cast, ↓reduceIte, Nat.reduceLT, Nat.reduceEqDiff, reduceCtorEq, Nat.reduceAdd, hn, h0', h5, h30, e2]
    refine opsM.at (rfl : #[_, _] = _) (rfl : [_, _] = _) ?_
    simp (disch := first | omega | decide) only [push_cast, ↓reduceIte, Nat.reduceLT, Nat.reduceEqDiff, reduceCtorEq, Nat.reduceAdd, hn, h0', h5, h30, e3]
    refine AW.at (rfl : _ = Code.region 14 #[_, _, _, _, _, _, _, _, _, _, _, _, _, _, _] true) ?_
    refine AW.drawP (.take 0 [14, 13, 12, 11] (.take 1 [14, 13, 2] (.take 2 [14, 13] (.take 3 [14, 13, 10, 9, 8, 7, 6] (.take 4 [14, 13, 10, 9, 8, 5] (.take 5 [14, 13, 10, 9, 8] (.take 6 [14, 13, 10, 9, 8, 7] (.take 7 [14, 13, 10, 9, 8] (.take 8 [14, 13, 10, 9] (.take 9 [14, 13, 10] (.take 10 [14, 13] (.take 11 [14, 13, 12] (.take 12 [14, 13] (.take 13 [14] (.only 14 .done))))))))))))))) [(0, 0), (0, 1), (0, 2), (0, 3), (0, 4), (0, 5), (0, 6), (0, 7), (0, 8), (0, 9), (0, 10), (0, 11), (0, 12), (0, 13), (2, 14)] mixed (by kernel_rfl) (by kernel_rfl) ?_
    have hrl : aLoad Try.prog 34 (.pointer (some ⟨nm 0, 8 + j, none⟩)) h = some (rv.getD j undef) := (ldL (P := Try.prog) hg rfl flE (8 + j) (by rw [qC_len hl]; omega)).trans (by rw [qC_mid hl hj])
    have hv := hrv j hj
    rw [hr] at hv
    obtain ⟨v', hsl, hv'⟩ := OffV.post sV hv (k := .i64) (m := 1) (by simp)
    have hsl : aSlice Try.prog 34 (rv.getD j undef) (some (.int .i64 1)) none = some v' := hsl
    have hv2 : EvV v' (ob (10 + j)) (nm (10 + j)) t := by
      have e0 : (x :: t).length - 1 = t.length := by simp
      rw [e0] at hv'
      exact hv'
    have hst := stC (P := Try.prog) oneEs hg (8 + j) v' (by rw [qC_len hl]; omega) hv2.one.2 hv2.one.1
    rw [qC_setR hl hj] at hst
    have r1 := r.toQRl.putReady w0 r.own hj (fun i _ => ⟨rfl, rfl⟩) h0 hl hlv hrv hw r.ok.rl hv2
    have re1 := Rest.set (nm := nm) wf (.row (qC nm s lv (rv.set j v') wv) 60 true) h0
    have wf1 := r1.own.gr.wf
    generalize h.set (nm 0) (.row (qC nm s lv (rv.set j v') wv) 60 true) = h1 at r1 re1 hst wf1
    generalize upd ob 0 (some (.row (qC nm s lv (rv.set j v') wv) 60 true)) = ob1 at r1 re1
    have c5' : CsAt h1 A5 (evC x) := ⟨_, re1.keep _ _ g5 hA5, rfl⟩
    have hix1 : aLoad Try.prog 3 (.pointer (some ⟨A5, 1, none⟩)) h1 = some (.int .i64 j) := (c5'.ld flI 1 (by show 1 < 3; decide)).trans (by rw [← hi]; rfl)
    simp (disch := first | omega | decide) only [push_cast, ↓reduceIte, Nat.reduceLT, Nat.reduceEqDiff, reduceCtorEq, Nat.reduceAdd, hn, h0', h5, h30, vA, faL foQ0, faL foQ1, faL foQ2, faL foQ3, faL foQ4, faL foQ5, faL foQ6, faL foQ7, faL foQ8, faL foQ9, faL foQ10, faL foQ11, faL foQ12, faL foV0, faL foV1, faL foV2, ql.l0, ql.l1, ql.l2, ql.l3, ql.l4, ql.l5, ql.l6, ql.l7, ql.l9, ql.l10, ql.l11, ql.l12, hix, hix1, arrAd _ _ hj, hrl, hsl, hst]
    refine opsM.at (rfl : #[_, _, _, _, _, _, _, _] = _) (rfl : [_, _, _, _, _, _, _, _] = _) ?_
    obtain ⟨lv1, rv1, wv1, ql1, hg1, hl1, h01, hlv1, hrv1, hw1⟩ := r1.ql
    have hwr : IntKind.i64.wrap (s.held - 1) = s.held - 1 := by
      have := r.ok.held; have := r.ok.hb
      exact wrapI (by omega) (by omega)
    have hld : aLoad Try.prog 3 (.pointer (some ⟨nm 0, 3, none⟩)) h1 = some (.int .i64 s.held) := ql1.l3
    have hst2 := stC (P := Try.prog) one1I hg1 3 (.int .i64 (s.held - 1)) (by rw [qC_len hl1]; decide) rfl rfl
    have r2 := r1.setNum w0 h01 hl1 hlv1 hrv1 hw1 s.now (s.held - 1)
    have re2 := re1.trans (Rest.set wf1 (.row (qC nm { ({ s with ready := s.ready.set j t } : QS) with now := s.now, held := s.held - 1 } lv1 rv1 wv1) 60 true) h01)
    have hst2 : aStore Try.prog 3 (.pointer (some ⟨nm 0, 3, none⟩)) (.int .i64 (s.held - 1)) h1 = some (h1.set (nm 0) (.row (qC nm { ({ s with ready := s.ready.set j t } : QS) with now := s.now, held := s.held - 1 } lv1 rv1 wv1) 60 true)) := hst2
    simp (disch := first | omega | decide) only [push_cast, ↓reduceIte, Nat.reduceLT, Nat.reduceEqDiff, reduceCtorEq, Nat.reduceAdd, hn, h0', h5, h30, vA, faL foQ0, faL foQ1, faL foQ2, faL foQ3, faL foQ4, faL foQ5, faL foQ6, faL foQ7, faL foQ8, faL foQ9, faL foQ10, faL foQ11, faL foQ12, hld, hwr, hst2]
    rw [er] at rok
    exact hQ _ _ _ (by simp (disch := first | omega | decide) only [push_cast, ↓reduceIte, Nat.reduceLT, Nat.reduceEqDiff, reduceCtorEq, Nat.reduceAdd, hn]) (by simp (disch := first | omega | decide) only [push_cast, ↓reduceIte, Nat.reduceLT, Nat.reduceEqDiff, reduceCtorEq, Nat.reduceAdd]) (fun t ht => by simp only [put_tm, put_none]; repeat rw [if_neg (by omega)]) (by rw [er]; exact ⟨r2, rok⟩) re2


/-- Not one of one's own blocks. -/
def Un (nm : Nat → Nat) (ob : Nat → Option AObj) (A : Nat) : Prop := ∀ r p, ob r = some p → nm r ≠ A
theorem Rest.un {h h' : AH} {nm nm' : Nat → Nat} {ob ob' : Nat → Option AObj} (x : Rest h h' nm nm' ob ob') {A : Nat} (hA : A < h.next) (u : Un nm ob A) : Un nm' ob' A := fun r p hp e => by
  rcases x.own r p hp with ⟨r', p', h1, h2⟩ | h1
  · exact u r' p' h1 (h2.trans e)
  · omega
theorem QR.un {b h : AH} {s : QS} {nm : Nat → Nat} {ob : Nat → Option AObj} (r : QR b h s nm ob) {A : Nat} (hA : h.next ≤ A) : Un nm ob A := fun i p hp e => by
  have := AH.get_lt r.own.gr.wf (r.own.get _ _ hp); omega
/-- A step that keeps the blocks of the begin. -/
theorem Rest.then {h0 h1 h2 : AH} {n0 n1 : Nat → Nat} {o0 o1 : Nat → Option AObj} (x : Rest h0 h1 n0 n1 o0 o1) {X : Nat → Prop} (t : Tch X h1 h2) (hX : ∀ C, X C → h0.next ≤ C) : Rest h0 h2 n0 n1 o0 o1 where
  w := x.w
  keep := fun C o hC hn => t.keep C o (fun hx => by have := hX C hx; have := AH.get_lt x.w hC; omega) (x.keep C o hC hn)
  own := x.own
  nx := Nat.le_trans x.nx t.nx
  n0 := x.n0
theorem Tch.set {h : AH} (w : WFH h) {A : Nat} (hA : A < h.next) (o : AObj) : Tch (fun C => C = A) h (h.set A o) := ⟨w.set hA o, Nat.le_refl _, fun C p hn hC => by rw [AH.set_get, if_neg hn]; exact hC⟩
theorem QR.t1 {b h h' : AH} {s : QS} {nm : Nat → Nat} {ob : Nat → Option AObj} {A : Nat} (w0 : WFH b) (r : QR b h s nm ob) (u : Un nm ob A) (hb : b.next ≤ A) (t : Tch (fun C => C = A) h h') : QR b h' s nm ob :=
  r.tch w0 ⟨fun C hC => by subst hC; exact hb, fun i o hi hC => u i o hi hC⟩ t

def v0 : Ev := ⟨0, 0, 0⟩
def nextS (s : QS) : Ev × Bool × QS :=
  if listE (actS s) = [] then (v0, false, actS s) else
    ((listE (actS s)).getD (pickS (actS s) (listE (actS s)).length).toNat v0, true, remS { actS s with left := (actS s).left.tail } ((listE (actS s)).getD (pickS (actS s) (listE (actS s)).length).toNat v0))

theorem pickS_lt {s : QS} (o : QOK s) {n : Int} (h0 : 0 < n) : 0 ≤ pickS s n ∧ pickS s n < n := by
  unfold pickS
  split
  · omega
  · rename_i x l hl
    exact ⟨Int.emod_nonneg x (by omega), Int.emod_lt_of_pos x h0⟩

theorem wpRange {g : Operand} {ps : Array Tmp} {x y c : Code} {Q : Exit → AAct → AH → Prop} {a : AAct} {h : AH} (e : c = .rangeFunc g ps x y) (hx : AW Try.prog none c Q a h) : wpA Try.prog none c Q a h := by subst e; exact hx

theorem nextN {b h : AH} {s : QS} {nm : Nat → Nat} {ob : Nat → Option AObj} (w0 : WFH b) (r : QR b h s nm ob) :
    ACall Try.prog 15 [vA (nm 0)] h (fun v h' => v = .tuple #[.agg (evC (nextS s).1).toArray, .bool (nextS s).2.1] ∧ ∃ nm' ob', QR b h' (nextS s).2.2 nm' ob' ∧ Rest h h' nm nm' ob ob') := by
  refine ACall.of_wp (c := (.seq (.region 0 (opsOf Try.f15 0) false) (.seq (.seq (.region 1 (opsOf Try.f15 1) false) (.cond (.tmp 8) (.seq (.region 2 (opsOf Try.f15 2) false) .ret) .skip)) (.seq (.region 3 (opsOf Try.f15 3) false) (.seq (.region 4 (opsOf Try.f15 4) false) (.seq (.seq (.region 5 (opsOf Try.f15 5) false) (.cond (.tmp 15) (.seq (.region 6 (opsOf Try.f15 6) false) .ret) .skip)) (.seq (.region 7 (opsOf Try.f15 7) false) (.seq (.region 8 (opsOf Try.f15 8) false) (.seq (.seq (.region 9 (opsOf Try.f15 9) false) (.block 0 (bodyBlk Try.f15 0))) (.seq (.seq (.region 13 (opsOf Try.f15 13) false) (.block 2 (bodyBlk Try.f15 2))) (.seq (.region 22 (opsOf Try.f15 22) false) .ret))))))))))) 77 [.cell 2 33, .tmp 3] Try.func15 (by kernel_rfl) rfl rfl (by kernel_rfl) fun a hn hd ha => ?_
  have wf := r.own.gr.wf
  have hbn := r.own.gr.nx
  rw [wpA_seq, wpA_region]
  refine opsM.at (rfl : #[_, _] = _) (rfl : [_, _] = _) ?_
  have g1 := (Gr.refl wf).new (.row [.int .u8 0, .int .i64 0, .int .i64 0] 33 true)
  have r1 := r.gr g1
  have u2 : Un nm ob h.next := r.un (Nat.le_refl _)
  have e2 : (h.new (.row [.int .u8 0, .int .i64 0, .int .i64 0] 33 true)).get h.next = some (.row (evC v0) 33 true) := by rw [AH.new_get, if_pos rfl]; rfl
  have n1 : (h.new (.row [.int .u8 0, .int .i64 0, .int .i64 0] 33 true)).next = h.next + 1 := rfl
  have rs1 := Rest.gr wf g1 nm ob
  simp (disch := first | omega | decide) only [push_cast, ↓reduceIte, Nat.reduceLT, Nat.reduceEqDiff, reduceCtorEq, Nat.reduceAdd, hn, hd, ha, alL zrV]
  generalize h.new (.row [.int .u8 0, .int .i64 0, .int .i64 0] 33 true) = h1 at g1 r1 e2 n1 rs1 ⊢
  -- none
  refine opsM.at (rfl : #[_, _] = _) (rfl : [_, _] = _) ?_
  simp (disch := first | omega | decide) only [push_cast, ↓reduceIte, Nat.reduceLT, Nat.reduceEqDiff, reduceCtorEq, Nat.reduceAdd, hn, hd, ha]
  refine ACall.mono ?_ (noneN r1)
  rintro _ _ ⟨rfl, rfl⟩
  simp (disch := first | omega | decide) only [push_cast, ↓reduceIte, Nat.reduceLT, Nat.reduceEqDiff, reduceCtorEq, Nat.reduceAdd, hn, hd, ha]
  -- activate
  refine opsM.at (rfl : #[_, _] = _) (rfl : [_, _] = _) ?_
  simp (disch := first | omega | decide) only [push_cast, ↓reduceIte, Nat.reduceLT, Nat.reduceEqDiff, reduceCtorEq, Nat.reduceAdd, hn, hd, ha]
  refine ACall.mono ?_ (activateN w0 r1)
  rintro _ h2 ⟨nm2, ob2, r2, rs⟩
  have e2 := rs.keep _ _ e2 u2
  have u2 := rs.un (by omega) u2
  have q0 : nm2 0 = nm 0 := rs.n0
  have rs2 := rs1.trans rs
  clear r1 rs1 rs g1
  -- Active
  have hAc := activeN' w0 r2
  rw [q0] at hAc
  simp (disch := first | omega | decide) only [push_cast, ↓reduceIte, Nat.reduceLT, Nat.reduceEqDiff, reduceCtorEq, Nat.reduceAdd, hn, hd, ha]
  refine opsM.at (rfl : #[_, _, _] = _) (rfl : [_, _, _] = _) ?_
  simp (disch := first | omega | decide) only [push_cast, ↓reduceIte, Nat.reduceLT, Nat.reduceEqDiff, reduceCtorEq, Nat.reduceAdd, hn, hd, ha]
  refine ACall.mono ?_ hAc
  rintro _ h3 ⟨rfl, g3⟩
  have r3 := r2.gr g3
  have e3 := g3.sub _ _ e2
  have rs3 := rs2.trans (Rest.gr r2.own.gr.wf g3 nm2 ob2)
  have hnx3 := g3.nx
  have hnx2 := rs2.nx
  simp (disch := first | omega | decide) only [push_cast, ↓reduceIte, Nat.reduceLT, Nat.reduceEqDiff, reduceCtorEq, Nat.reduceAdd, hn, hd, ha]
  refine opsM.at (rfl : #[_, _] = _) (rfl : [_, _] = _) ?_
  have hl256 := listE_len r2
  have hbh : b.next ≤ h.next := hbn
  have l2 : h.next < h3.next := AH.get_lt r3.own.gr.wf e3
  by_cases e : listE (actS s) = []
  · have hz : decide (((listE (actS s)).length : Int) = 0) = true := by rw [e]; rfl
    have en : nextS s = (v0, false, actS s) := by unfold nextS; rw [if_pos e]
    have hst := stA agV (P := Try.prog) e3 (rfl : (evC v0).length = 3) (evC v0) rfl rfl
    have hst : aStore Try.prog 33 (.pointer (some ⟨h.next, 0, none⟩)) (.agg (evC ⟨0, 0, 0⟩).toArray) h3 = some (h3.set h.next (.row (evC v0) 33 true)) := hst
    have t4 := Tch.set r3.own.gr.wf l2 (.row (evC v0) 33 true)
    have hla : aLoad Try.prog 33 (.pointer (some ⟨h.next, 0, none⟩)) (h3.set h.next (.row (evC v0) 33 true)) = some (.agg (evC v0).toArray) := ldLA (P := Try.prog) (o := .row (evC v0) 33 true) (by rw [AH.set_get, if_pos rfl]) rfl agV rfl
    simp (disch := first | omega | decide) only [push_cast, ↓reduceIte, Nat.reduceLT, Nat.reduceEqDiff, reduceCtorEq, Nat.reduceAdd, hn, hd, ha, hz]
    refine opsM.at (rfl : #[_, _, _] = _) (rfl : [_, _, _] = _) ?_
    simp (disch := first | omega | decide) only [push_cast, ↓reduceIte, Nat.reduceLT, Nat.reduceEqDiff, reduceCtorEq, Nat.reduceAdd, hn, hd, ha, buildV0, hst, hla]
    rw [en]
    exact ⟨rfl, nm2, ob2, r3.t1 w0 u2 hbh t4, rs3.then t4 (fun C hC => by subst hC; exact Nat.le_refl _)⟩
  have hL0 : 0 < (listE (actS s)).length := by
    cases hE : listE (actS s) with
    | nil => exact absurd hE e
    | cons x l => simp
  have hz : decide (((listE (actS s)).length : Int) = 0) = false := by simp; omega
  simp (disch := first | omega | decide) only [push_cast, ↓reduceIte, Nat.reduceLT, Nat.reduceEqDiff, reduceCtorEq, Nat.reduceAdd, hn, hd, ha, hz]
  refine opsM.at (rfl : #[_] = _) (rfl : [_] = _) ?_
  -- x
  have g4 := (Gr.refl r3.own.gr.wf).new (.row (evC v0) 33 true)
  have al4 := alL zrV h3
  have al4 : aAlloc Try.prog 33 h3 = some (.pointer (some ⟨h3.next, 0, none⟩), h3.new (.row (evC v0) 33 true)) := al4
  have r4 := r3.gr g4
  have u5 : Un nm2 ob2 h3.next := r3.un (Nat.le_refl _)
  have rs4 := rs3.trans (Rest.gr r3.own.gr.wf g4 nm2 ob2)
  have e4 := g4.sub _ _ e3
  have f4 : (h3.new (.row (evC v0) 33 true)).get h3.next = some (.row (evC v0) 33 true) := by rw [AH.new_get, if_pos rfl]
  have n4 : (h3.new (.row (evC v0) 33 true)).next = h3.next + 1 := rfl
  simp (disch := first | omega | decide) only [push_cast, ↓reduceIte, Nat.reduceLT, Nat.reduceEqDiff, reduceCtorEq, Nat.reduceAdd, hn, hd, ha, al4]
  generalize h3.new (.row (evC v0) 33 true) = h4 at g4 al4 r4 rs4 e4 f4 n4 ⊢
  -- pick
  refine opsM.at (rfl : #[_, _, _, _, _, _, _] = _) (rfl : [_, _, _, _, _, _, _] = _) ?_
  have hpk := pickN w0 r4 (n := (listE (actS s)).length) (by omega) (by omega)
  rw [q0] at hpk
  have hpk : ACall Try.prog 34 [.pointer (some ⟨nm 0, 0, none⟩), .int .i64 (listE (actS s)).length] h4 _ := hpk
  simp (disch := first | omega | decide) only [push_cast, ↓reduceIte, Nat.reduceLT, Nat.reduceEqDiff, reduceCtorEq, Nat.reduceAdd, hn, hd, ha, vA, faL foQ0, faL foQ1, faL foQ2, faL foQ3, faL foQ4, faL foQ5, faL foQ6, faL foQ7, faL foQ8, faL foQ9, faL foQ10, faL foQ11, faL foQ12]
  refine ACall.mono ?_ hpk
  rintro _ h5 ⟨rfl, ob5, r5, rs⟩
  have hp := pickS_lt r4.ok (n := (listE (actS s)).length) (by omega)
  obtain ⟨k, hk⟩ : ∃ k : Nat, pickS (actS s) (listE (actS s)).length = k := ⟨(pickS (actS s) (listE (actS s)).length).toNat, by omega⟩
  rw [hk] at hp ⊢
  have e5 := rs.keep _ _ e4 u2
  have f5 := rs.keep _ _ f4 u5
  have u2 := rs.un (by omega) u2
  have u5 := rs.un (by omega) u5
  have rs5 := rs4.trans rs
  have nx5 := rs.nx
  -- skip
  have al6 := alL zrI h5
  have g6 := (Gr.refl r5.own.gr.wf).new (.row [.int .i64 k] 3 true)
  have st6 := stC (P := Try.prog) one1I (h := h5.new (.row [.int .i64 0] 3 true)) (A := h5.next) (cs := [.int .i64 0]) (e' := 3) (by rw [AH.new_get, if_pos rfl]) 0 (.int .i64 k) (by decide) rfl rfl
  rw [AH.set_new] at st6
  have st6 : aStore Try.prog 3 (.pointer (some ⟨h5.next, 0, none⟩)) (.int .i64 k) (h5.new (.row [.int .i64 0] 3 true)) = some (h5.new (.row [.int .i64 k] 3 true)) := st6
  have r6 := r5.gr g6
  have u6 : Un nm2 ob5 h5.next := r5.un (Nat.le_refl _)
  have rs6 := rs5.trans (Rest.gr r5.own.gr.wf g6 nm2 ob5)
  have e6 := g6.sub _ _ e5
  have f6 := g6.sub _ _ f5
  have k6 : (h5.new (.row [.int .i64 k] 3 true)).get h5.next = some (.row [.int .i64 k] 3 true) := by rw [AH.new_get, if_pos rfl]
  have n6 : (h5.new (.row [.int .i64 k] 3 true)).next = h5.next + 1 := rfl
  simp (disch := first | omega | decide) only [push_cast, ↓reduceIte, Nat.reduceLT, Nat.reduceEqDiff, reduceCtorEq, Nat.reduceAdd, hn, hd, ha, al6, st6]
  generalize h5.new (.row [.int .i64 k] 3 true) = h6 at g6 st6 r6 rs6 e6 f6 k6 n6 ⊢
  -- the list
  refine opsM.at (rfl : #[_, _] = _) (rfl : [_, _] = _) ?_
  simp (disch := first | omega | decide) only [push_cast, ↓reduceIte, Nat.reduceLT, Nat.reduceEqDiff, reduceCtorEq, Nat.reduceAdd, hn, hd, ha]
  have hli : ACall Try.prog 35 [vA (nm 0)] h6 _ := listF
  refine ACall.mono ?_ hli
  rintro _ _ ⟨rfl, rfl⟩
  have g7 := (Gr.refl r6.own.gr.wf).new (.row [vA (nm 0)] 24 true)
  have r7 := r6.gr g7
  have rs7 := rs6.trans (Rest.gr r6.own.gr.wf g7 nm2 ob5)
  have e7 := g7.sub _ _ e6
  have f7 := g7.sub _ _ f6
  have k7 := g7.sub _ _ k6
  have b7 := CsAt.new h6 [vA (nm 0)] 24 true
  have n7 : (h6.new (.row [vA (nm 0)] 24 true)).next = h6.next + 1 := rfl
  simp (disch := first | omega | decide) only [push_cast, ↓reduceIte, Nat.reduceLT, Nat.reduceEqDiff, reduceCtorEq, Nat.reduceAdd, hn, hd, ha]
  generalize h6.new (.row [vA (nm 0)] 24 true) = h7 at g7 r7 rs7 e7 f7 k7 b7 n7 ⊢
  have hsl : listE { actS s with left := (actS s).left.tail } = listE (actS s) := rfl
  have u7 : Un nm2 ob5 h6.next := r6.un (Nat.le_refl _)
  have x65 : h5.next ≤ h6.next := by omega
  refine wpRange (rfl : bodyBlk Try.f15 0 = .rangeFunc _ _ _ _) (AW.mono ?_ (nextB0 (A5 := h3.next) (A6 := h5.next) (B := h6.next) (k := k) (z := v0) w0 r7 (by simp (disch := first | omega | decide) only [push_cast, ↓reduceIte, Nat.reduceLT, Nat.reduceEqDiff, reduceCtorEq, Nat.reduceAdd, hn]) (by simp (disch := first | omega | decide) only [push_cast, ↓reduceIte, Nat.reduceLT, Nat.reduceEqDiff, reduceCtorEq, Nat.reduceAdd, hd]) (by simp (disch := first | omega | decide) only [push_cast, ↓reduceIte, Nat.reduceLT, Nat.reduceEqDiff, reduceCtorEq, Nat.reduceAdd, vA]) (by simp (disch := first | omega | decide) only [push_cast, ↓reduceIte, Nat.reduceLT, Nat.reduceEqDiff, reduceCtorEq, Nat.reduceAdd, vA]) (by simp (disch := first | omega | decide) only [push_cast, ↓reduceIte, Nat.reduceLT, Nat.reduceEqDiff, reduceCtorEq, Nat.reduceAdd]) f7 k7 (by rw [q0]; exact b7) (by omega) (by omega) (by omega) (by omega) (by omega) (fun i o hi => ⟨u5 i o hi, u6 i o hi⟩) (by rw [hsl]; omega)))
  rintro _ _ h8 ⟨rfl, rfl, t8, f8, d8⟩
  rw [blockQ_exit, if_pos rfl, thenQ_normal]
  rw [hsl] at f8
  have hxm : (listE (actS s)).getD k ⟨0, 0, 0⟩ ∈ listE (actS s) := by rw [List.getD_eq_getElem?_getD, List.getElem?_eq_getElem (by omega)]; exact List.getElem_mem (by omega)
  have hact := act_of r5.ok (x := (listE (actS s)).getD k ⟨0, 0, 0⟩) hxm
  have en : nextS s = ((listE (actS s)).getD k ⟨0, 0, 0⟩, true, remS { actS s with left := (actS s).left.tail } ((listE (actS s)).getD k ⟨0, 0, 0⟩)) := by
    unfold nextS
    rw [if_neg e, hk, Int.toNat_natCast]; rfl
  rw [en]
  generalize (listE (actS s)).getD k ⟨0, 0, 0⟩ = x at f8 hact
  have r8 : QR b h8 { actS s with left := (actS s).left.tail } nm2 ob5 := r7.tch w0 ⟨fun C hC => by omega, fun i o hi hC => by have h1 := u5 i o hi; have h2 := u6 i o hi; omega⟩ t8
  have rs8 := rs7.then t8 (fun C hC => by omega)
  have e8 := t8.keep _ _ (by omega) e7
  have n8 := t8.nx
  rw [wpA_seq, wpA_seq, wpA_region]
  refine opsM.at (rfl : #[_, _] = _) (rfl : [_, _] = _) ?_
  have c8 : CsAt h8 h3.next (evC x) := ⟨_, f8, rfl⟩
  have hl0 : aLoad Try.prog 5 (.pointer (some ⟨h3.next, 0, none⟩)) h8 = some (.int .u8 x.kind) := c8.ld flK 0 (by show 0 < 3; decide)
  simp (disch := first | omega | decide) only [push_cast, ↓reduceIte, Nat.reduceLT, Nat.reduceEqDiff, reduceCtorEq, Nat.reduceAdd, hn, hd, ha, faL foV0, faL foV1, faL foV2, hl0]
  refine nextB2 (x := x) (A5 := h3.next) w0 r8 hact (by simp (disch := first | omega | decide) only [push_cast, ↓reduceIte, Nat.reduceLT, Nat.reduceEqDiff, reduceCtorEq, Nat.reduceAdd, hn]) (by simp (disch := first | omega | decide) only [push_cast, ↓reduceIte, Nat.reduceLT, Nat.reduceEqDiff, reduceCtorEq, Nat.reduceAdd, ha, q0, vA]) (by simp (disch := first | omega | decide) only [push_cast, ↓reduceIte, Nat.reduceLT, Nat.reduceEqDiff, reduceCtorEq, Nat.reduceAdd, vA]) (by simp (disch := first | omega | decide) only [push_cast, ↓reduceIte, Nat.reduceLT, Nat.reduceEqDiff, reduceCtorEq, Nat.reduceAdd]) f8 u5 fun a9 h9 ob9 hn9 hd9 ht9 r9 rs => ?_
  have u5' := u5
  have f9 := rs.keep _ _ f8 u5
  have e9 := rs.keep _ _ e8 u2
  have d9 := rs.keep _ _ d8 (r7.un (A := h7.next) (Nat.le_refl _))
  have u2 := rs.un (by omega) u2
  have u8 := rs.un (A := h7.next) (AH.get_lt r8.own.gr.wf d8) (r7.un (Nat.le_refl _))
  have rs9 := rs8.trans rs
  have n9 := rs.nx
  have t2 := ht9 2 (by decide)
  have t5 := ht9 5 (by decide)
  simp (disch := first | omega | decide) only [push_cast, ↓reduceIte, Nat.reduceLT, Nat.reduceEqDiff, reduceCtorEq, Nat.reduceAdd] at t2 t5 hd9
  rw [blockQ_normal, thenQ_normal, wpA_seq, wpA_region]
  refine opsM.at (rfl : #[_, _, _] = _) (rfl : [_, _, _] = _) ?_
  have c9 : CsAt h9 h3.next (evC x) := ⟨_, f9, rfl⟩
  have hla : aLoad Try.prog 33 (.pointer (some ⟨h3.next, 0, none⟩)) h9 = some (.agg (evC x).toArray) := c9.la agV rfl
  have hst := stA agV (P := Try.prog) e9 (rfl : (evC v0).length = 3) (evC x) rfl rfl
  have l9 := AH.get_lt r9.own.gr.wf e9
  have t9' := Tch.set r9.own.gr.wf l9 (.row (evC x) 33 true)
  have r10 := r9.t1 w0 u2 hbh t9'
  have rs10 := rs9.then t9' (fun C hC => by subst hC; exact Nat.le_refl _)
  have e10 : (h9.set h.next (.row (evC x) 33 true)).get h.next = some (.row (evC x) 33 true) := by rw [AH.set_get, if_pos rfl]
  have d10 : (h9.set h.next (.row (evC x) 33 true)).get h7.next = some (.dfr true) := by rw [AH.set_get, if_neg (by omega)]; exact d9
  simp (disch := first | omega | decide) only [push_cast, ↓reduceIte, Nat.reduceLT, Nat.reduceEqDiff, reduceCtorEq, Nat.reduceAdd, hn9, hd9, t2, t5, hla, hst]
  generalize h9.set h.next (.row (evC x) 33 true) = h10 at t9' r10 rs10 e10 d10 ⊢
  have ld10 := AH.get_lt r10.own.gr.wf d10
  have t11 := Tch.set r10.own.gr.wf ld10 (.dfr false)
  refine ⟨h10.set h7.next (.dfr false), by simp [closeMarks, d10], ?_⟩
  have hle : aLoad Try.prog 33 (.pointer (some ⟨h.next, 0, none⟩)) (h10.set h7.next (.dfr false)) = some (.agg (evC x).toArray) := ldLA (P := Try.prog) (o := .row (evC x) 33 true) (by rw [AH.set_get, if_neg (by omega)]; exact e10) rfl agV rfl
  rw [hle]
  refine ⟨_, rfl, rfl, nm2, ob9, r10.t1 w0 u8 (by omega) t11, rs10.then t11 (fun C hC => by omega)⟩
end Go.Ab.Q
