/- Own layer 'Ab': a range over a function. -/
import Derived.Test.YtnejoceplinjpaaAb12
namespace Go.Ab

/-- Behind the function that was ranged over. -/
def rangeQ (P : Program) (rd : Option Nat) (L : Nat) (a : AAct) (Q : Exit → AAct → AH → Prop) (_ : Value) (h : AH) : Prop :=
  ∃ l, h.get L = some (.loop l) ∧ l.state ≠ .busy ∧
    match l.pending with
    | none => Q .normal a (h.set L (.loop { l with state := .exhausted }))
    | some c => AW P rd c Q a (h.set L (.loop { l with state := .exhausted }))

/-- A range over a function, entered. -/
def rangeW (P : Program) (rd : Option Nat) (g : Operand) (ps : Array Tmp) (assign body : Code) (Q : Exit → AAct → AH → Prop) (a : AAct) (h : AH) : Prop :=
  ∃ gf first cap, cOK g = true ∧ a.ev g = .func (.func gf) first cap ∧
    match rd with
    | none =>
      ACall P gf (first.toList ++ [.func (.yield (h.next + 1)) #[] #[]] ++ cap.toList)
        ((h.new (.dfr true)).new (.loop { state := .ready, pending := none, fn := 0, n := a.n, tm := a.tm, params := ps, assign := assign, body := body, defers := h.next }))
        (rangeQ P rd (h.next + 1) { a with df := h.next :: a.df } Q)
    | some L0 => ∃ l0, h.get L0 = some (.loop l0) ∧
      ACall P gf (first.toList ++ [.func (.yield h.next) #[] #[]] ++ cap.toList)
        (h.new (.loop { state := .ready, pending := none, fn := 0, n := a.n, tm := a.tm, params := ps, assign := assign, body := body, defers := l0.defers }))
        (rangeQ P rd h.next a Q)

theorem rangeQ.sound {P : Program} {rd : Option Nat} {L : Nat} {a : AAct} {Q : Exit → AAct → AH → Prop} {n : Nat} {ρ ρ0 : Ren} {h h0 : AH} {w w0 : World} {crd : Option Nat} {ca : Act} {v : Value} {r : RE}
    (hq : rangeQ P rd L a Q v h) (hL : ρ L = some r) (hrd : RD ρ rd crd) (ha : AR ρ a ca) (hr : HR ρ h w) (hf : Frm ρ0 h0 w0 ρ h w) (v' : Value) :
    rangePost (fence crd) n P r.blk (PostE ρ0 h0 w0 Q) ca (.returned v') w := by
  obtain ⟨l, hg, hst, hk⟩ := hq
  obtain ⟨r2, l', q, hq2, hh, hlt, h1, h2, h3, h4, h5, h6, h7, h8, h9, h10⟩ := loopAt hr hg
  rw [hL] at hq2; cases hq2
  obtain ⟨hr1, hf1⟩ := hr.turnLoop hg hL hh .exhausted l.pending
  refine ⟨l'.pending, { w with heap := w.heap.setIfInBounds r.blk (.loop { l' with state := .exhausted, pending := l.pending }) }, ?_, ?_⟩
  · rw [run_endLoop hh (by rw [h1]; exact hst)]
    have : ({ l' with state := .exhausted, pending := l.pending } : Loop) = { l' with state := .exhausted } := by rw [← h2]
    rw [this]; rfl
  · rw [h2]
    clear h2
    generalize l.pending = pd at hk hr1 hf1 ⊢
    cases pd with
    | none =>
      exact ⟨ρ, a, _, hk, ha, hr1, hf.trans hf1⟩
    | some c =>
      refine wpIn_mono (hk n ρ crd ca _ hrd ha hr1) ?_
      rintro e ca2 w2 ⟨ρ2, a2, h2, hq2, ha2, hr2, hf2⟩
      exact ⟨ρ2, a2, h2, hq2, ha2, hr2, (hf.trans hf1).trans hf2⟩

theorem AW.rangeFunc {P : Program} {rd : Option Nat} {g : Operand} {ps : Array Tmp} {assign body : Code} {Q : Exit → AAct → AH → Prop} {a : AAct} {h : AH} (hw : rangeW P rd g ps assign body Q a h) :
    AW P rd (.rangeFunc g ps assign body) Q a h := by
  intro n ρ crd ca w hrd ha hr
  refine wpIn_rangeFunc fun fn _ => ?_
  obtain ⟨gf, first, cap, hck, hev, hk⟩ := hw
  have hg := ha.ev hck
  rw [hev] at hg
  generalize hcc : ca.eval g = y at hg
  cases hg with
  | @func _ _ _ first' _ cap' hfn h1 h2 h3 h4 =>
  cases hfn
  have hres : ∀ (l : Nat) (w : World), (resolve ca.eval (rangeCall g l) 0).run P w = .ok { target := .fn (.func gf) cap', args := first' ++ #[.func (.yield l) #[] #[]] } w := by
    intro l w
    simp only [resolve, hcc, Deferred.ofValue, Sem.run_pure]; simp [Act.eval]
  have hla : ∀ {ρ' : Ren} (L : Nat) (r : RE), ρ.le ρ' → ρ' L = some r → LR ρ' (first.toList ++ [Value.func (.yield L) #[] #[]] ++ cap.toList) (first' ++ #[Value.func (.yield r.blk) #[] #[]] ++ cap').toList := by
    intro ρ' L r hle hL
    rw [Array.toList_append, Array.toList_append]
    refine LR.append (LR.append ⟨by simpa using h1, fun i v v' x y => (h2 i v v' (by simpa using x) (by simpa using y)).mono hle⟩ (LR.single (VR.func (.yield hL) rfl (fun i v v' x _ => by simp at x) rfl (fun i v v' x _ => by simp at x))))
      ⟨by simpa using h3, fun i v v' x y => (h4 i v v' (by simpa using x) (by simpa using y)).mono hle⟩
  have hinv : ∀ (hE : Enters P gf) (l : Nat) (w : World), (invoke (.fn (.func gf) cap') (first' ++ #[.func (.yield l) #[] #[]])).run P w = .ok (.enter gf (first' ++ #[.func (.yield l) #[] #[]] ++ cap')) w := by
    rintro ⟨f, hf, hb, hn⟩ l w
    have hnone : f.body.isNone = false := by cases hb' : f.body <;> simp_all
    simp only [invoke, callFunc, run_program, Sem.run_bind, Result.andThen_ok, hf, hn, Bool.false_eq_true, if_false, hnone, Sem.run_pure]
  cases rd with
  | none =>
    cases crd with
    | some _ => exact hrd.elim
    | none =>
    simp only at hk
    obtain ⟨hr1, hf1⟩ := hr.alloc (x := .deferred (some [])) (o := .dfr true) (w' := w.alloc (.deferred (some []))) (base := 0) (lim := 0) rfl (fun ρ' _ _ => by show (w.heap.push _)[_]? = _; simp)
    obtain ⟨hr2, hf2⟩ := hr1.alloc (x := .loop { state := .ready, pending := none, fn, tmps := ca.tmps, params := ps, assign, body, defers := w.heap.size })
      (o := .loop { state := .ready, pending := none, fn := 0, n := a.n, tm := a.tm, params := ps, assign := assign, body := body, defers := h.next })
      (w' := (w.alloc (.deferred (some []))).alloc (.loop { state := .ready, pending := none, fn, tmps := ca.tmps, params := ps, assign, body, defers := w.heap.size })) (base := 0) (lim := 0) rfl
      (fun ρ' hle hL => ⟨{ state := .ready, pending := none, fn, tmps := ca.tmps, params := ps, assign, body, defers := w.heap.size }, ⟨w.heap.size, 0, 0⟩, by show ((w.heap.push _).push _)[(w.heap.push _).size]? = _; exact Array.getElem?_push_size, rfl, rfl, trivial, rfl, rfl, rfl, hle _ _ (Ren.put_same _ _ _), rfl, ha.size, fun i => (ha.tmp i).mono (Ren.le_trans hf1.le hle)⟩)
    have hle := Ren.le_trans hf1.le hf2.le
    have hL := Ren.put_same (ρ.put h.next ⟨w.heap.size, 0, 0⟩) (h.next + 1) ⟨(w.alloc (.deferred (some []))).heap.size, 0, 0⟩
    have hsz : (w.alloc (.deferred (some []))).heap.size = w.heap.size + 1 := by show (w.heap.push _).size = _; simp
    refine ⟨w.heap.size + 1, [{ target := .collected w.heap.size, args := #[] }], _, _, _, gf, _, _, run_enterLoop_outer fn ca.tmps ps assign body, hres _ _, fun _ _ => trivial, hinv hk.1 _ _, fun h => by simp [fence, Fence.wide] at h, ?_⟩
    have hcall := callsIn_wide (n := n - 1).2 (hk.2 _ _ _ (hla (h.next + 1) _ hle hL) hr2)
    rw [hsz] at hcall hL
    rw [hsz] at hf2 hle
    refine (show CallsIn (fence none) (n - 1) P gf _ _ _ from hcall).mono ?_
    rintro e w' ⟨ρ', v, v', h', rfl, hq, hv, hr', hf'⟩
    have hle' := Ren.le_trans hle hf'.le
    have hrd' : RD ρ' none none := trivial
    refine hq.sound (r := ⟨w.heap.size + 1, 0, 0⟩) (hf'.le _ _ hL) hrd' ?_ hr' ((hf1.trans hf2).trans hf') v'
    refine ⟨ha.size, fun i => (ha.tmp i).mono hle', ⟨⟨_, hf'.le _ _ (hf2.le _ _ (Ren.put_same _ _ _)), rfl⟩, ha.df.mono hle'⟩⟩
  | some L0 =>
    cases crd with
    | none => exact hrd.elim
    | some cL0 =>
    simp only at hk
    obtain ⟨l0, hg0, hk⟩ := hk
    obtain ⟨r0, hq0, rfl⟩ := hrd
    obtain ⟨r0', l0', q0, hq0', hh0, hlt0, g1, g2, g3, g4, g5, g6, g7, g8, g9, g10⟩ := loopAt hr hg0
    rw [hq0] at hq0'; cases hq0'
    obtain ⟨hr2, hf2⟩ := hr.alloc (x := .loop { state := .ready, pending := none, fn, tmps := ca.tmps, params := ps, assign, body, defers := l0'.defers })
      (o := .loop { state := .ready, pending := none, fn := 0, n := a.n, tm := a.tm, params := ps, assign := assign, body := body, defers := l0.defers })
      (w' := w.alloc (.loop { state := .ready, pending := none, fn, tmps := ca.tmps, params := ps, assign, body, defers := l0'.defers })) (base := 0) (lim := 0) rfl
      (fun ρ' hle hL => ⟨{ state := .ready, pending := none, fn, tmps := ca.tmps, params := ps, assign, body, defers := l0'.defers }, q0, by show (w.heap.push _)[_]? = _; simp, rfl, rfl, trivial, rfl, rfl, rfl, hle _ _ g7, g8, ha.size, fun i => (ha.tmp i).mono hle⟩)
    have hL := Ren.put_same ρ h.next ⟨w.heap.size, 0, 0⟩
    have hent : (Instr.enterLoop fn ca.tmps ps assign body (some r0.blk)).run P w = .ok (w.heap.size, []) (w.alloc (.loop { state := .ready, pending := none, fn, tmps := ca.tmps, params := ps, assign, body, defers := l0'.defers })) := by
      unfold Instr.enterLoop
      simp only [Sem.run_bind, run_getLoop hh0, run_newObj_alloc, Result.andThen, Sem.run_pure]
    refine ⟨w.heap.size, [], _, _, _, gf, _, _, hent, hres _ _, fun _ _ => trivial, hinv hk.1 _ _, fun h => by simp [fence, Fence.wide] at h, ?_⟩
    have hcall := callsIn_wide (n := n - 1).2 (hk.2 _ _ _ (hla h.next _ hf2.le hL) hr2)
    refine (show CallsIn (fence (some r0.blk)) (n - 1) P gf _ _ _ from hcall).mono ?_
    rintro e w' ⟨ρ', v, v', h', rfl, hq, hv, hr', hf'⟩
    have hle' := Ren.le_trans hf2.le hf'.le
    have hrd' : RD ρ' (some L0) (some r0.blk) := ⟨r0, hle' _ _ hq0, rfl⟩
    exact hq.sound (r := ⟨w.heap.size, 0, 0⟩) (hf'.le _ _ hL) hrd' (ha.mono hle') hr' (hf2.trans hf') v'

end Go.Ab
