/- Own layer 'Ab': a region that draws its order. -/
import Derived.Test.YtnejoceplinjpaaAb13
namespace Go.Ab

def WFH (h : AH) : Prop := ∀ A, h.next ≤ A → h.get A = none

theorem HR.wf {ρ : Ren} {h : AH} {w : World} (hr : HR ρ h w) : WFH h := by
  intro A hA
  cases e : h.get A with
  | none => rfl
  | some o =>
    obtain ⟨r, hq, _⟩ := hr.obj A o e
    have := hr.dom A r hq
    omega

def pureK : Op → Bool
  | .move _ | .assign _ | .pick .. | .build .. | .nilCheck _ | .binOp .. | .unOp .. | .convert .. | .makeInterface .. | .makeFunc .. | .slice .. | .fieldAddr .. | .field .. | .indexAddr .. | .index .. | .extract .. => true
  | .call { callee := .builtin .min, .. } | .call { callee := .builtin .max, .. } => true
  | _ => false

def readK : Op → Bool
  | .load .. | .lookup .. | .entry _ => true
  | .call { callee := .builtin .len, .. } => true
  | _ => false

def allocK : Op → Bool
  | .alloc _ | .box .. | .buildSlice .. | .makeMap .. | .makeSlice .. => true
  | _ => false

section
variable {P : Program} {ev ev' : Operand → Value}

theorem mapH {x : Option Value} {v : Value} {h h1 : AH} (hd : (x.map fun v => (v, h)) = some (v, h1)) : h1 = h ∧ ∀ h' : AH, (x.map fun v => (v, h')) = some (v, h') := by
  cases x with
  | none => cases hd
  | some u => cases hd; exact ⟨rfl, fun _ => rfl⟩

theorem aBytes_next {s d : TypeId} {x : Value} {h h1 : AH} {v : Value} (hb : aBytes P s d x h = some (v, h1)) : ∃ ob, h1 = h.new ob := by
  unfold aBytes at hb
  repeat' split at hb
  all_goals first | (cases hb; done) | (cases hb; exact ⟨_, rfl⟩)

theorem aBytes_any {s d : TypeId} {x : Value} {h : AH} (h' : AH) (hb : aBytes P s d x h = none) : aBytes P s d x h' = none := by
  unfold aBytes at hb ⊢
  repeat' split at hb
  all_goals first | (cases hb; done) | rfl | simp_all

theorem new_ne {h : AH} {ob : AObj} : h ≠ h.new ob := by
  intro e
  have := congrArg AH.next e
  simp at this

theorem dop_pure' {op : Op} {h h1 : AH} {v : Value} (hk : pureK op = true) (hd : dop P ev op h = some (v, h1)) : (h1 = h ∧ ∀ h', dop P ev op h' = some (v, h')) ∨ ∃ ob, h1 = h.new ob := by
  unfold pureK at hk
  split at hk <;> (try cases hk; done) <;> simp only [dop] at hd ⊢ <;> try exact .inl (mapH hd)
  case h_1 x => cases hd; exact .inl ⟨rfl, fun _ => rfl⟩
  case h_2 x => cases hd; exact .inl ⟨rfl, fun _ => rfl⟩
  case h_3 c x y =>
    split at hd
    · rename_i e; cases hd; exact .inl ⟨rfl, fun _ => rfl⟩
    · cases hd
  case h_8 s d x =>
    split at hd
    · rename_i r hb; cases hd; exact .inr (aBytes_next hb)
    · rename_i hb
      obtain ⟨e, g⟩ := mapH hd
      exact .inl ⟨e, fun h' => by rw [aBytes_any h' hb]; exact g h'⟩
  case h_9 t x =>
    split at hd
    · rename_i e; cases hd; exact .inl ⟨rfl, fun _ => by rw [if_pos e]⟩
    · cases hd
  case h_10 f a b =>
    cases f <;> simp only at hd ⊢ <;> first | (cases hd; exact .inl ⟨rfl, fun _ => rfl⟩) | cases hd
  case h_11 t x lo hi mx =>
    cases mx with
    | some _ => simp only at hd; cases hd
    | none => simp only at hd ⊢; exact .inl (mapH hd)
  all_goals
    unfold aBuiltin at hd ⊢
    rename_i args at'
    cases hm : args.toList.map ev with
    | nil => rw [hm] at hd; cases hd
    | cons x xs => rw [hm] at hd; exact .inl (mapH hd)

theorem dop_pure {op : Op} {h : AH} {v : Value} (hk : pureK op = true) (hd : dop P ev op h = some (v, h)) : ∀ h', dop P ev op h' = some (v, h') := by
  rcases dop_pure' hk hd with ⟨_, g⟩ | ⟨ob, e⟩
  · exact g
  · exact absurd e new_ne

def Sub (h h' : AH) : Prop := ∀ A o, h.get A = some o → h'.get A = some o

theorem Sub.new {h : AH} (hw : WFH h) (ob : AObj) : Sub h (h.new ob) := by
  intro A o ha
  rw [AH.new_get]
  split
  · rename_i e; subst e; rw [hw _ (Nat.le_refl _)] at ha; cases ha
  · exact ha

theorem aLoad_sub {h h' : AH} (hs : Sub h h') {t : TypeId} {x v : Value} (hv : aLoad P t x h = some v) : aLoad P t x h' = some v := by
  unfold aLoad at hv ⊢
  split at hv
  · rename_i A off
    cases hg : h.get A with
    | none => rw [hg] at hv; cases hv
    | some o => rw [hg] at hv; rw [hs _ _ hg]; exact hv
  · cases hv

theorem mapAt_sub {h h' : AH} (hs : Sub h h') {m : Value} {r : List MapEntry × Nat} (hv : mapAt h m = some r) : mapAt h' m = some r := by
  unfold mapAt at hv ⊢
  split at hv
  · rename_i M
    cases hg : h.get M with
    | none => rw [hg] at hv; cases hv
    | some o => rw [hg] at hv; rw [hs _ _ hg]; exact hv
  · cases hv

theorem aLookup_sub {h h' : AH} (hs : Sub h h') {t : TypeId} {m k v : Value} {ok : Bool} (hv : aLookup P t m k ok h = some v) : aLookup P t m k ok h' = some v := by
  cases m <;> try exact hv
  rename_i r
  cases r with
  | none => exact hv
  | some M =>
    cases hm : mapAt h (.map (some M)) with
    | none =>
      exfalso
      unfold aLookup at hv
      simp only [hm, Option.map_none] at hv
      repeat' split at hv
      all_goals cases hv
    | some r =>
      unfold aLookup at hv ⊢
      simp only [hm] at hv
      simp only [mapAt_sub hs hm]
      exact hv

theorem aLen_sub {h h' : AH} (hs : Sub h h') {t : TypeId} {x v : Value} (hv : aLen P t x h = some v) : aLen P t x h' = some v := by
  unfold aLen at hv ⊢
  split at hv <;> try exact hv
  · rename_i M _
    split at hv
    · rename_i es clk hg
      rw [hs _ _ hg]; exact hv
    · cases hv

theorem aIterEntry_sub {h h' : AH} (hs : Sub h h') {x v : Value} (hv : aIterEntry x h = some v) : aIterEntry x h' = some v := by
  unfold aIterEntry at hv ⊢
  split at hv
  · split at hv
    · rename_i M a seen stepped hg
      rw [hs _ _ hg]
      split at hv
      · rename_i stamp es clk h1 h2
        simp only [h1, hs _ _ h2]; exact hv
      · cases hv
    · cases hv
  · cases hv

theorem mapS {x : Option Value} {v : Value} {h h1 : AH} (hd : (x.map fun v => (v, h)) = some (v, h1)) : h1 = h ∧ x = some v := by
  cases x with
  | none => cases hd
  | some u => cases hd; exact ⟨rfl, rfl⟩

theorem dop_read {op : Op} {h h1 : AH} {v : Value} (hk : readK op = true) (hd : dop P ev op h = some (v, h1)) : h1 = h ∧ ∀ h', Sub h h' → dop P ev op h' = some (v, h') := by
  unfold readK at hk
  split at hk <;> (try cases hk; done) <;> simp only [dop] at hd ⊢
  · obtain ⟨rfl, e⟩ := mapS hd; exact ⟨rfl, fun h' hs => by rw [aLoad_sub hs e]; rfl⟩
  · obtain ⟨rfl, e⟩ := mapS hd; exact ⟨rfl, fun h' hs => by rw [aLookup_sub hs e]; rfl⟩
  · obtain ⟨rfl, e⟩ := mapS hd; exact ⟨rfl, fun h' hs => by rw [aIterEntry_sub hs e]; rfl⟩
  · rename_i args at'
    unfold aBuiltin at hd ⊢
    match hm : args.toList.map ev with
    | [] => rw [hm] at hd; cases hd
    | [x] =>
      rw [hm] at hd
      simp only at hd ⊢
      cases ht : at'[0]? with
      | none => rw [ht] at hd; cases hd
      | some t => rw [ht] at hd; obtain ⟨rfl, e⟩ := mapS hd; exact ⟨rfl, fun h' hs => by simp only; rw [aLen_sub hs e]; rfl⟩
    | _ :: _ :: _ => rw [hm] at hd; cases hd

theorem dop_alloc {op : Op} {h h1 : AH} {v : Value} (hk : allocK op = true) (hd : dop P ev op h = some (v, h1)) : h1 = h ∨ ∃ ob, h1 = h.new ob := by
  unfold allocK at hk
  split at hk <;> (try cases hk; done) <;> simp only [dop] at hd
  · unfold aAlloc at hd
    repeat' split at hd
    all_goals first | (cases hd; done) | (cases hd; exact .inr ⟨_, rfl⟩)
  · unfold aBox at hd
    repeat' split at hd
    all_goals first | (cases hd; done) | (cases hd; exact .inr ⟨_, rfl⟩)
  · unfold aBuildSlice at hd
    repeat' split at hd
    all_goals first | (cases hd; done) | (cases hd; exact .inr ⟨_, rfl⟩)
  · rename_i t r
    cases r <;> simp only at hd <;> cases hd
    exact .inr ⟨_, rfl⟩
  · unfold aMakeSlice at hd
    repeat' split at hd
    all_goals first | (cases hd; done) | (cases hd; exact .inr ⟨_, rfl⟩)

theorem dop_congr {op : Op} {h : AH} (he : ∀ x ∈ op.operands.toList, ev x = ev' x) : dop P ev op h = dop P ev' op h := by
  have lst : ∀ xs : Array Operand, (∀ x ∈ xs.toList, ev x = ev' x) → xs.toList.map ev = xs.toList.map ev' := fun xs hx => List.map_congr_left hx
  have prs : ∀ ps : Array (Nat × Operand), (∀ x ∈ ps.toList.map (·.2), ev x = ev' x) → (ps.toList.map fun p => (p.1, ev p.2)) = ps.toList.map fun p => (p.1, ev' p.2) := fun ps hp =>
    List.map_congr_left fun p hm => by rw [hp p.2 (List.mem_map.2 ⟨p, hm, rfl⟩)]
  cases op <;> simp only [Op.operands] at he <;> simp only [dop] <;> (try rfl)
  case build t ps => rw [prs ps (by simpa using he)]
  case buildSlice t n ps => rw [prs ps (by simpa using he)]
  case makeFunc f a b =>
    cases f <;> simp only
    rw [Array.map_congr_left (xs := a) fun x hx => he x (by simp [hx]), Array.map_congr_left (xs := b) fun x hx => he x (by simp [hx])]
  case makeMap t r => cases r <;> simp only
  case slice t x lo hi mx =>
    cases mx <;> simp only
    cases lo <;> cases hi <;> simp_all [oev]
  case call c =>
    obtain ⟨callee, args, at'⟩ := c
    cases callee <;> simp only
    rw [lst args fun x hx => he x (by simpa [Call.operands] using hx)]
  all_goals simp_all

theorem opR_congr {op : Op} {h : AH} {K : Value → AH → Prop} (he : ∀ x ∈ op.operands.toList, ev x = ev' x) (hk : opR P ev op h K) : opR P ev' op h K := by
  unfold opR at hk ⊢
  split
  · rename_i f args at'
    simp only at hk
    rw [he f (by simp [Op.operands, Call.operands]), List.map_congr_left (g := ev') (l := args.toList) fun x hx => he x (by simp [Op.operands, Call.operands]; exact .inr (by simpa using hx))] at hk
    exact hk
  · rename_i it
    simp only at hk
    rw [he it (by simp [Op.operands])] at hk; exact hk
  · rename_i h1 h2
    split at hk
    · exact absurd rfl (h1 _ _ _)
    · exact absurd rfl (h2 _)
    · obtain ⟨v, h', hd, hkk⟩ := hk
      exact ⟨v, h', (dop_congr he).symm.trans hd, hkk⟩

theorem opR_of_dop {op : Op} {h h' : AH} {v : Value} {K : Value → AH → Prop} (hd : dop P ev op h = some (v, h')) (hk : K v h') : opR P ev op h K := by
  unfold opR
  split
  · cases hd
  · cases hd
  · exact ⟨v, h', hd, hk⟩

end
end Go.Ab
