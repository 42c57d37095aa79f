/- Own layer 'Ab': slices of one-cell elements, read. -/
import Derived.Test.YtnejoceplinjpaaAb19
namespace Go.Ab

def SlOf (h : AH) (v : Value) (vs : List Value) : Prop :=
  ∃ p l c, v = .slice p l c ∧ l = vs.length ∧ (∀ q, p = some q → q.spot = none) ∧ (vs = [] ∨ ∃ A off o cs, p = some ⟨A, off, none⟩ ∧ h.get A = some o ∧ o.cells? = some cs ∧ ∀ (i : Nat) (x : Value), vs[i]? = some x → cs[off + i]? = some x)

theorem SlOf.len {P : Program} {h : AH} {v : Value} {vs : List Value} (hs : SlOf h v vs) {t e : TypeId} (ht : P.underlying t = some (.slice e)) : aLen P t v h = some (.int .i64 vs.length) := by
  obtain ⟨p, l, c, rfl, rfl, _, _⟩ := hs
  simp only [aLen, ht]

/-- Types: a slice of elements of one cell each. -/
structure Sl1 (P : Program) (t e : TypeId) : Prop where
  sl : P.underlying t = some (.slice e)
  one : ∃ i, P.info? e = some i ∧ i.size = 1
  flat : ∃ d, P.underlying e = some d ∧ aggT d = false

theorem SlOf.at {P : Program} {h : AH} {v : Value} {vs : List Value} (hs : SlOf h v vs) {t e : TypeId} (ht : Sl1 P t e) {i : Nat} {x : Value} {k : IntKind} (hx : vs[i]? = some x) :
    ∃ q, aIndexAddr P t v (.int k i) = some q ∧ aLoad P e q h = some x := by
  obtain ⟨p, l, c, rfl, rfl, hsp, hcs⟩ := hs
  have hlt : i < vs.length := (List.getElem?_eq_some_iff.1 hx).1
  rcases hcs with rfl | ⟨A, off, o, cs, rfl, hg, hc, hall⟩
  · simp at hx
  · obtain ⟨ie, hi, h1⟩ := ht.one
    obtain ⟨d, hd, hagg⟩ := ht.flat
    refine ⟨.pointer (some ⟨A, off + i, none⟩), ?_, ?_⟩
    · simp only [aIndexAddr, ht.sl, hi]
      rw [if_pos ⟨by omega, by omega⟩, h1]; simp
    · simp only [aLoad, hg, Option.bind_some, hc, hd, hagg, Bool.false_eq_true, if_false]
      exact hall i x hx

theorem SlOf.sub {h h' : AH} {v : Value} {vs : List Value} (hs : SlOf h v vs) (hh : Sub h h') : SlOf h' v vs := by
  obtain ⟨p, l, c, rfl, rfl, hsp, hcs⟩ := hs
  refine ⟨p, _, c, rfl, rfl, hsp, ?_⟩
  rcases hcs with e | ⟨A, off, o, cs, rfl, hg, hc, hall⟩
  · exact .inl e
  · exact .inr ⟨A, off, o, cs, rfl, hh _ _ hg, hc, hall⟩

end Go.Ab
