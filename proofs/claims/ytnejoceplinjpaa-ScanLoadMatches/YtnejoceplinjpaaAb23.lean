/- Own layer 'Ab': slices of one-cell elements, made, appended to, written. -/
import Derived.Test.YtnejoceplinjpaaAb21
namespace Go.Ab

structure SlT (P : Program) (t e : TypeId) (B : Nat) (z : Value) : Prop where
  sl : P.underlying t = some (.slice e)
  info : ∃ i, P.info? e = some i ∧ i.size = 1 ∧ i.bytes = B ∧ i.zero = some z
  flat : ∃ d, P.underlying e = some d ∧ aggT d = false
  zp : plain 9 z = true
  zc : z.cells.toList = [z]
  zo : oneC z = true

theorem SlT.sl1 {P : Program} {t e : TypeId} {B : Nat} {z : Value} (h : SlT P t e B z) : Sl1 P t e :=
  ⟨h.sl, let ⟨i, a, b, _⟩ := h.info; ⟨i, a, b⟩, h.flat⟩

theorem eqBin_nil {P : Program} {t e : TypeId} (ht : P.underlying t = some (.slice e)) (p : Option Addr) (l c : Nat) : eqBin P .eql t (.slice p l c) (.slice none 0 0) = some (.bool p.isNone) := by
  unfold eqBin
  cases p <;> simp [guardOn, aEq, ht]

theorem SlOf.src {h : AH} {v : Value} {vs : List Value} (hs : SlOf h v vs) : srcCells 1 v h = some (vs.length, vs) := by
  obtain ⟨p, l, c, rfl, rfl, hsp, hcs⟩ := hs
  by_cases hz : vs = []
  · subst hz
    cases p with
    | none => rfl
    | some a =>
      obtain ⟨B, o, s⟩ := a
      have : s = none := hsp _ rfl
      subst this; rfl
  · rcases hcs with rfl | ⟨A, off, o, cs, rfl, hg, hc, hall⟩
    · exact absurd rfl hz
    · have hn : vs.length ≠ 0 := by simpa using hz
      have hlast : off + vs.length ≤ cs.length := by
        have hi : vs.length - 1 < vs.length := by omega
        have := hall (vs.length - 1) vs[vs.length - 1] (List.getElem?_eq_getElem hi)
        have := (List.getElem?_eq_some_iff.1 this).1
        omega
      have hval : (cs.drop off).take vs.length = vs := by
        apply List.ext_getElem?
        intro i
        rw [List.getElem?_take]
        split
        · rename_i hi
          rw [List.getElem?_drop, hall i vs[i] (List.getElem?_eq_getElem hi), List.getElem?_eq_getElem hi]
        · rename_i hi; rw [List.getElem?_eq_none (by omega)]
      simp only [srcCells, if_neg hn, hg, Option.bind_some, hc, Nat.mul_one, if_pos hlast, hval]

theorem aBuildSlice_empty {P : Program} {t e : TypeId} {B : Nat} {z : Value} (ht : SlT P t e B z) (h : AH) : aBuildSlice P t 0 [] h = some (.slice (some ⟨h.next, 0, none⟩) 0 0, h.new (.row [] e true)) := by
  obtain ⟨i, hi, h1, hb, hz⟩ := ht.info
  have hc : z.cells.size = 1 := by
    have := congrArg List.length ht.zc
    simpa using this
  simp only [aBuildSlice, ht.sl, hi, hz, h1, ht.zp, hc, fillL, zeros]
  simp [SL]

theorem aMakeSlice_at {P : Program} {t e : TypeId} {B : Nat} {z : Value} (ht : SlT P t e B z) (h : AH) (n : Nat) (hn : n * B ≤ 281474976710656) (hm : n ≤ 9223372036854775807) : aMakeSlice P t (.int .i64 n) (.int .i64 n) h = some (.slice (some ⟨h.next, 0, none⟩) n n, h.new (.row (List.replicate n z) e true)) := by
  obtain ⟨i, hi, h1, hb, hz⟩ := ht.info
  have hc : z.cells.size = 1 := by
    have := congrArg List.length ht.zc
    simpa using this
  simp only [aMakeSlice, ht.sl, hi, hz]
  rw [if_pos]
  · simp only [Int.toNat_natCast, ht.zc, zeros_one]
  · refine ⟨by omega, by omega, by simp only [Int.toNat_natCast, hb]; exact hn, by omega, ht.zp, by rw [hc, h1], by simp [ht.zc, ht.zo]⟩

/-- An append to a slice that has no room: all is moved to a new row. -/
theorem aAppend_first {P : Program} {t e : TypeId} {B : Nat} {z : Value} (ht : SlT P t e B z) {h : AH} {A : Nat} {x : Value} {vs : List Value} (hg : h.get A = some (.row [] e true)) (hx : srcCells 1 x h = some (vs.length, vs)) (hz : vs ≠ [])
    (hb : (2 * vs.length + 192) * B ≤ 281474976710656) (hm : vs.length < ML) : aAppend P #[t, t] (.slice (some ⟨A, 0, none⟩) 0 0) x h = some (.slice (some ⟨h.next, 0, none⟩) vs.length (SL + 1), h.new (.grow vs e)) := by
  obtain ⟨i, hi, h1, hbb, hzz⟩ := ht.info
  have hc : z.cells.size = 1 := by
    have := congrArg List.length ht.zc
    simpa using this
  have hn : vs.length ≠ 0 := by simpa using hz
  have hn' : ¬ vs.length ≤ 0 := by omega
  simp [aAppend, ht.sl, hi, hzz, h1, hc, isIntT, hx, hn, hg, AObj.cells?, hbb, hb, hm, SL, hn']

theorem aAppend_none {P : Program} {t e : TypeId} {B : Nat} {z : Value} (ht : SlT P t e B z) {h : AH} {A : Nat} {x : Value} (hx : srcCells 1 x h = some (0, [])) :
    aAppend P #[t, t] (.slice (some ⟨A, 0, none⟩) 0 0) x h = some (.slice (some ⟨A, 0, none⟩) 0 0, h) := by
  obtain ⟨i, hi, h1, hbb, hzz⟩ := ht.info
  have hc : z.cells.size = 1 := by
    have := congrArg List.length ht.zc
    simpa using this
  simp [aAppend, ht.sl, hi, hzz, h1, hc, isIntT, hx]

theorem aIndexAddr_in {P : Program} {t e : TypeId} {B : Nat} {z : Value} (ht : SlT P t e B z) {A off len cap : Nat} {k : IntKind} {n : Int} {i : Nat} (hn : n = i) (hi : i < len) : aIndexAddr P t (.slice (some ⟨A, off, none⟩) len cap) (.int k n) = some (.pointer (some ⟨A, off + i, none⟩)) := by
  obtain ⟨ie, hie, h1, _⟩ := ht.info
  subst hn
  simp only [aIndexAddr, ht.sl, hie]
  rw [if_pos ⟨by omega, by omega⟩, h1]; simp

theorem aStore_row {P : Program} {t e : TypeId} {B : Nat} {z : Value} (ht : SlT P t e B z) {h : AH} {A off : Nat} {cs : List Value} {x : Value} (hg : h.get A = some (.row cs e true)) (ho : off < cs.length) (hx : x.cells.toList = [x]) (ho1 : oneC x = true) :
    aStore P e (.pointer (some ⟨A, off, none⟩)) x h = some (h.set A (.row (cs.set off x) e true)) := by
  obtain ⟨ie, hie, h1, _⟩ := ht.info
  have hc : x.cells.size = 1 := by
    have := congrArg List.length hx
    simpa using this
  have hle : off + 1 ≤ cs.length := ho
  simp only [aStore, hie, hc, h1, hx, List.all_cons, List.all_nil, ho1, Bool.and_self, and_self, if_true, hg, AObj.setCells]
  simp [setL, hle]

end Go.Ab
