/- The mirror's run of a call, for whole: pure functions by the mirror itself; closed calls. -/
import Derived.Test.YtaaaaaehmejknaaGreatDoorMirDraw4
namespace Go.Mir
open Go.RowKit

/-- A value that leads nowhere. -/
def MV.flat : MV → Bool
  | .bool _ | .int _ _ | .str _ => true
  | _ => false

theorem VR.flat {ρ ρ' : Loc} {v : MV} {x : Value} (hv : v.flat = true) (h : VR ρ v x) : VR ρ' v x := by
  cases v <;> simp only [MV.flat, Bool.false_eq_true] at hv <;> simpa only [VR] using h

/-- All that is known may be read alone. -/
def MO.frozen : MO → Option MO
  | .cells cs | .ro cs => some (.ro cs)
  | _ => none
def Tr.frozen : Tr MO → Tr MO
  | .nil => .nil
  | .node v l r => .node (v.bind MO.frozen) l.frozen r.frozen
def MS.frozen (s : MS) : MS := ⟨s.next, s.objs.frozen⟩

theorem Tr.get_frozen : ∀ (t : Tr MO) (p : Pos), t.frozen.get p = (t.get p).bind MO.frozen
  | .nil, _ => rfl
  | .node _ _ _, .one => rfl
  | .node _ l _, .z p => Tr.get_frozen l p
  | .node _ _ r, .o p => Tr.get_frozen r p

theorem Repr.frozen {C : Ctx} {ρ : Loc} {s : MS} {w : World} (R : Repr C ρ s w) : Repr ⟨w.heap.size, w⟩ ρ s.frozen w where
  below := Below.refl _ _
  base := Nat.le_refl _
  dom := R.dom
  obj := fun h o ho => by
    have ho' : (s.get h).bind MO.frozen = some o := by rw [← ho]; exact (Tr.get_frozen s.objs h).symm
    rw [Option.bind_eq_some_iff] at ho'
    obtain ⟨o', h1, h2⟩ := ho'
    obtain ⟨i, b, hi, hb, hr, _⟩ := R.obj h o' h1
    cases o' <;> simp only [MO.frozen] at h2 <;> cases h2
    · obtain ⟨vs, e, fr, hb', _, hc⟩ := hr
      exact ⟨i, b, hi, hb, ⟨vs, e, fr, hb', hc⟩, fun h => by cases h⟩
    · obtain ⟨vs, e, fr, hb', hc⟩ := hr
      exact ⟨i, b, hi, hb, ⟨vs, e, fr, hb', hc⟩, fun h => by cases h⟩
  inj := fun h h' o o' i i' ho _ hown _ _ _ => by
    have ho' : (s.get h).bind MO.frozen = some o := by rw [← ho]; exact (Tr.get_frozen s.objs h).symm
    rw [Option.bind_eq_some_iff] at ho'
    obtain ⟨o', _, h2⟩ := ho'
    cases o' <;> simp only [MO.frozen] at h2 <;> cases h2 <;> cases hown

def noPure : Pure := fun _ => none
def noOrc : Orc := fun _ => none

section
variable (P : Program)

/-- A function that reads alone, by the mirror itself. -/
def pureBy (ext : Ext) (orc : Orc) (fuel : Nat) (f : FuncId) : List MV → MS → Option MV := fun args s =>
  match ev P ext orc merged (drawRun P ext noPure) fuel (.call f args s.frozen) with
  | some (.rets [r]) => match r.1.flat with
    | true => some r.1
    | false => none
  | _ => none

/-- Those of a list. -/
def pureIn (ext : Ext) (orc : Orc) (fuel : Nat) (fs : List FuncId) : Pure := fun f =>
  match fs.any (Nat.beq f) with
  | true => some (pureBy P ext orc fuel f)
  | false => none

/-- Functions whose contracts are known; those that read alone. -/
def orcWith (pu : Pure) (orc : Orc) : Orc := fun f =>
  match pu f with
  | some g => some fun args s => match g args s with
    | some v => some (v, s)
    | none => none
  | none => orc f

/-- A closed call that says true. -/
def orcTrue (fs : List FuncId) : Orc := fun f =>
  match fs.any (Nat.beq f) with
  | true => some fun args s => match args with
    | [] => some (.bool true, s)
    | _ => none
  | false => none

def saysTrue : Option Res → Bool
  | some (.rets l) => l.all fun r => match r.1 with
    | .bool true => true
    | _ => false
  | _ => false

def MS.empty : MS := ⟨.one, .nil⟩

/-- The run for whole. -/
def runOf (ext : Ext) (ps : List FuncId) (known : List FuncId) (fuel : Nat) : Run :=
  ev P ext (orcWith (pureIn P ext noOrc fuel ps) (orcTrue known)) merged (drawRun P ext (pureIn P ext noOrc fuel ps)) fuel

end

variable {P : Program}

theorem noPure_ok {C : Ctx} : PuOK P C noPure := fun _ _ _ _ _ h => by cases h
theorem noOrc_ok {C : Ctx} : OrcOK P C noOrc := fun _ _ _ _ _ h => by cases h
theorem merged_ok : MergeOK merged := merged_mem

theorem pureIn_ok (hng : NoNum P) (hmix : P.follows .mixedOrders = true) {ext : Ext} (hext : ExtOK P ext) {orc : Orc} (horc : ∀ C, OrcOK P C orc) {fuel : Nat} {fs : List FuncId} {C : Ctx} : PuOK P C (pureIn P ext orc fuel fs) := by
  intro f g args s v hf hg ρ xs w hxs R
  unfold pureIn at hf
  split at hf
  case h_2 => cases hf
  cases hf
  unfold pureBy at hg
  split at hg
  case h_2 => cases hg
  rename_i r hr
  split at hg
  case h_2 => cases hg
  rename_i hflat
  cases hg
  have h := (ev_sound hng hext (C := ⟨w.heap.size, w⟩) (drawRun_sound hng hext noPure_ok hmix) (horc _) merged_ok fuel).1 f args s.frozen [r] hr ρ xs w hxs R.frozen
  refine Calls.mono h fun e w' he => ?_
  obtain ⟨r', hr', x, ρ', rfl, _, h2, h3⟩ := he
  rw [List.mem_singleton] at hr'; subst hr'
  exact ⟨x, rfl, h2.flat hflat, h3.below⟩

theorem orcWith_ok {C : Ctx} {pu : Pure} (hpu : PuOK P C pu) {orc : Orc} (horc : OrcOK P C orc) : OrcOK P C (orcWith pu orc) := by
  intro f g args s r hf hg ρ xs w hxs R
  unfold orcWith at hf
  split at hf
  · rename_i g' hg'
    cases hf
    simp only at hg
    split at hg
    · rename_i v hv
      cases hg
      refine Calls.mono (hpu f g' args s v hg' hv ρ xs w hxs R) fun e w' ⟨x, h1, h2, h3⟩ => ⟨x, ρ, h1, ρ.le_refl, h2, R.later h3⟩
    · cases hg
  · exact horc f g args s r hf hg ρ xs w hxs R

/-- A closed call that says true and leaves all that was as it was. -/
def SaysTrue (P : Program) (f : FuncId) : Prop := ∀ w, Calls P f #[] w fun e w' => e = .returned (.bool true) ∧ Below w.heap.size w w'

theorem orcTrue_ok {C : Ctx} {fs : List FuncId} (h : ∀ f ∈ fs, SaysTrue P f) : OrcOK P C (orcTrue fs) := by
  intro f g args s r hf hg ρ xs w hxs R
  unfold orcTrue at hf
  split at hf
  case h_2 => cases hf
  rename_i hany
  cases hf
  simp only at hg
  split at hg
  case h_2 => cases hg
  cases hg
  have hx : xs = #[] := by apply Array.ext'; exact hxs.nil_inv
  subst hx
  obtain ⟨f', hf', he⟩ := List.any_eq_true.1 hany
  have hff := Nat.eq_of_beq_eq_true he
  subst hff
  refine Calls.mono (h f hf' w) fun e w' ⟨h1, h2⟩ => ⟨_, ρ, h1, ρ.le_refl, by simp only [VR], R.later h2⟩

theorem Repr.empty (w : World) : Repr ⟨w.heap.size, w⟩ (fun _ => none) MS.empty w where
  below := Below.refl _ _
  base := Nat.le_refl _
  dom := fun _ _ h => by cases h
  obj := fun h o ho => by
    simp only [MS.get, MS.empty] at ho
    rw [Tr.get_nil] at ho; cases ho
  inj := fun h h' o o' i i' ho => by
    simp only [MS.get, MS.empty] at ho
    rw [Tr.get_nil] at ho; cases ho

theorem runOf_sound (hng : NoNum P) (hmix : P.follows .mixedOrders = true) {ext : Ext} (hext : ExtOK P ext) {ps known : List FuncId} (hk : ∀ f ∈ known, SaysTrue P f) {fuel : Nat} {C : Ctx} : CallsOK P C (runOf P ext ps known fuel) :=
  (ev_sound hng hext (drawRun_sound hng hext (pureIn_ok hng hmix hext fun _ => noOrc_ok) hmix) (orcWith_ok (pureIn_ok hng hmix hext fun _ => noOrc_ok) (orcTrue_ok hk)) merged_ok fuel).1

theorem saysTrue_of (hng : NoNum P) (hmix : P.follows .mixedOrders = true) {ext : Ext} (hext : ExtOK P ext) {ps known : List FuncId} (hk : ∀ f ∈ known, SaysTrue P f) {fuel : Nat} {f : FuncId} (h : saysTrue (runOf P ext ps known fuel (.call f [] MS.empty)) = true) : SaysTrue P f := by
  intro w
  unfold saysTrue at h
  split at h
  case h_2 => cases h
  rename_i l hl
  refine Calls.mono (runOf_sound hng hmix hext hk f [] MS.empty l hl (fun _ => none) #[] w (by simp [VRs]) (Repr.empty w)) fun e w' he => ?_
  obtain ⟨r, hr, x, ρ', rfl, _, h2, h3⟩ := he
  have := List.all_eq_true.1 h r hr
  split at this
  · rename_i hv
    rw [hv] at h2
    simp only [VR] at h2
    exact ⟨by rw [h2], h3.below⟩
  · cases this

end Go.Mir
