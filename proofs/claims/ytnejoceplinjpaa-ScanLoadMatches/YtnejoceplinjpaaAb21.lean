/- Own layer 'Ab': calls: what a contract may be weakened to, closed runs, the sort of a slice of integers. -/
import Derived.Test.YtnejoceplinjpaaAb20
import Derived.Test.YtnejoceplinjpaaAb18
namespace Go.Ab

theorem ACall.wf {P : Program} {g : FuncId} {args : List Value} {h : AH} {K : Value → AH → Prop} (hE : Enters P g) (hc : WFH h → ACall P g args h K) : ACall P g args h K :=
  ⟨hE, fun ρ cargs w hl hr => (hc hr.wf).2 ρ cargs w hl hr⟩

theorem AW.wf {P : Program} {rd : Option Nat} {c : Code} {Q : Exit → AAct → AH → Prop} {a : AAct} {h : AH} (hc : WFH h → AW P rd c Q a h) : AW P rd c Q a h :=
  fun n ρ crd ca w hrd ha hr => hc hr.wf n ρ crd ca w hrd ha hr

theorem ACall.wfPost {P : Program} {g : FuncId} {args : List Value} {h : AH} {K : Value → AH → Prop} (hc : ACall P g args h K) : ACall P g args h (fun v h' => K v h' ∧ WFH h') :=
  ⟨hc.1, fun ρ cargs w hl hr => (hc.2 ρ cargs w hl hr).mono fun _ _ ⟨ρ', v, v', h', e, hk, hv, hr', hf⟩ => ⟨ρ', v, v', h', e, ⟨hk, hr'.wf⟩, hv, hr', hf⟩⟩

def emptyH : AH := { next := 0, get := fun _ => none }

theorem HR.empty (w : World) : HR (fun _ => none) emptyH w := ⟨(fun A o h => by cases h), (fun A B o p r q h => by cases h), (fun A r h => by cases h)⟩

/-- A run from the empty heap, with arguments and a result that hold no address: it leaves every heap as it is. -/
theorem ACall.closed {P : Program} {g : FuncId} {args : List Value} {V : Value} (hargs : args.all (plain 9) = true) (hV : plain 9 V = true) (hc : ACall P g args emptyH (fun v _ => v = V)) (h : AH) :
    ACall P g args h (fun v h' => v = V ∧ h' = h) := by
  refine ⟨hc.1, fun ρ cargs w hl hr => ?_⟩
  have hl0 : LR (fun _ => none) args cargs.toList := by
    refine ⟨hl.1, fun i v v' a b => ?_⟩
    have hp : plain 9 v = true := List.all_eq_true.1 hargs v (List.mem_of_getElem? a)
    have h1 := plain_VR (fun _ => none) 9 v hp
    have h2 := hl.2 i v v' a b
    have : v' = v := plain_only 9 v v' hp h2
    rw [this]; exact h1
  refine (hc.2 _ cargs w hl0 (HR.empty w)).mono ?_
  rintro e w' ⟨ρ', v, v', h', rfl, rfl, hv, hr', hf⟩
  have hrest : ∀ b, b < w.heap.size → w'.heap[b]? = w.heap[b]? := fun b hb => hf.rest b hb (by rintro ⟨A, o, r, x, _⟩; cases x)
  have hv' : v' = v := plain_only 9 v v' hV hv
  refine ⟨ρ, v, v', h, rfl, ⟨rfl, rfl⟩, by rw [hv']; exact plain_VR ρ 9 v hV, ?_, ?_⟩
  · exact ⟨fun A o ha => let ⟨r, q, hor⟩ := hr.obj A o ha; ⟨r, q, hor.move (Ren.le_refl _) (hrest _ hor.lt)⟩, hr.inj, hr.dom⟩
  · exact ⟨Ren.le_refl _, hf.size, fun b hb _ => hrest b hb, fun b hb => .inl hb, hf.side⟩

end Go.Ab
