/- The mirror's run of a call, for whole: pure functions by the mirror itself; closed calls. -/
import Derived.Test.YtohonlojnflejaaGreatDoorMirDraw4
namespace Go.Mir
open Go.RowKit

/-- A value that leads nowhere. -/
def MV.flat : MV → Bool
  | .bool _ | .int _ _ | .str _ | .sx _ _ | .sb _ | .ustr _ => true
  | _ => false

theorem VR.flat {ρ ρ' : Loc} (hσ : ρ'.σ = ρ.σ) {v : MV} {x : Value} (hv : v.flat = true) (h : VR ρ v x) : VR ρ' v x := by
  cases v <;> simp only [MV.flat, Bool.false_eq_true] at hv <;> first | (simpa only [VR] using h) | (simp only [VR] at h ⊢; rw [hσ]; exact h)

/-- All that is known may be read alone. -/
def MO.frozen : MO → Option MO
  | .cells cs | .ro cs => some (.ro cs)
  | _ => none
def Tr.frozen : Tr MO → Tr MO
  | .nil => .nil
  | .node v l r => .node (v.bind MO.frozen) l.frozen r.frozen
def MS.frozen (s : MS) : MS := ⟨s.next, s.objs.frozen⟩

theorem Tr.get_frozen : ∀ (t : Tr MO) (p : Pos), t.frozen.get p = (t.get p).bind MO.frozen
  | .nil, _ => rfl
  | .node _ _ _, .one => rfl
  | .node _ l _, .z p => Tr.get_frozen l p
  | .node _ _ r, .o p => Tr.get_frozen r p

theorem Repr.frozen {C : Ctx} {ρ : Loc} {s : MS} {w : World} (R : Repr C ρ s w) : Repr ⟨w.heap.size, w, C.σ⟩ ρ s.frozen w where
  below := Below.refl _ _
  base := Nat.le_refl _
  sig := R.sig
  dom := R.dom
  obj := fun h o ho => by
    have ho' : (s.get h).bind MO.frozen = some o := by rw [← ho]; exact (Tr.get_frozen s.objs h).symm
    rw [Option.bind_eq_some_iff] at ho'
    obtain ⟨o', h1, h2⟩ := ho'
    obtain ⟨i, b, hi, hb, hr, _⟩ := R.obj h o' h1
    cases o' <;> simp only [MO.frozen] at h2 <;> cases h2
    · obtain ⟨vs, e, fr, hb', _, hc⟩ := hr
      exact ⟨i, b, hi, hb, ⟨vs, e, fr, hb', hc⟩, fun h => by cases h⟩
    · obtain ⟨vs, e, fr, hb', hc⟩ := hr
      exact ⟨i, b, hi, hb, ⟨vs, e, fr, hb', hc⟩, fun h => by cases h⟩
  inj := fun h h' o o' i i' ho _ hown _ _ _ => by
    have ho' : (s.get h).bind MO.frozen = some o := by rw [← ho]; exact (Tr.get_frozen s.objs h).symm
    rw [Option.bind_eq_some_iff] at ho'
    obtain ⟨o', _, h2⟩ := ho'
    cases o' <;> simp only [MO.frozen] at h2 <;> cases h2 <;> cases hown

def noPure : Pure := fun _ => none
def noOrc : Orc := fun _ => none

/-- Nothing came in. -/
def Ext.bare (ext : Ext) : Ext := ⟨ext.fn, fun _ => none, ext.asm⟩

/-- Contracts: functions of their arguments alone. -/
abbrev Cons := FuncId → Option (List MV → Option MV)
def noCons : Cons := fun _ => none

/-- A function of its arguments alone: what it gives; it leaves all that was as it was. -/
def FnOK (P : Program) (σ : Val) (f : FuncId) (g : List MV → Option MV) : Prop :=
  ∀ args v, g args = some v → ∀ (ρ : Loc) (xs : Array Value) (w : World), ρ.σ = σ → VRs ρ args xs.toList →
    Calls P f xs w fun e w' => ∃ x, e = .returned x ∧ VR ρ v x ∧ Below w.heap.size w w'
def ConsOK (P : Program) (σ : Val) (fs : Cons) : Prop := ∀ f g, fs f = some g → FnOK P σ f g

section
variable (P : Program)

/-- What is known of a value, of several. -/
def knownT (A : Asm) : MV → MV
  | .tuple vs => .tuple (vs.map (known A))
  | v => known A v
def conOf (A : Asm) (g : List MV → Option MV) : List MV → MS → Option MV := fun args _ =>
  match g args with
  | some v => some (knownT A v)
  | none => none
def puFs (A : Asm) (fs : Cons) : Pure := fun f =>
  match fs f with
  | some g => some (conOf A g)
  | none => none

/-- Functions whose contracts are known; those that read alone. -/
def orcWith (pu : Pure) (orc : Orc) : Orc := fun f =>
  match pu f with
  | some g => some fun args s => match g args s with
    | some v => some (v, s)
    | none => none
  | none => orc f

/-- A function that reads alone, by the mirror itself. -/
def pureBy (ext : Ext) (fs : Cons) (fuel : Nat) (f : FuncId) : List MV → MS → Option MV := fun args s =>
  match ev P ext.bare (orcWith (puFs ext.asm fs) noOrc) merged (drawRun P ext.bare (puFs ext.asm fs)) fuel (.call f args s.frozen) with
  | some (.rets [r]) => match r.1.flat with
    | true => some r.1
    | false => none
  | _ => none

/-- Contracts, and those of a list. -/
def puOf (ext : Ext) (fs : Cons) (fuel : Nat) (ps : List FuncId) : Pure := fun f =>
  match fs f with
  | some g => some (conOf ext.asm g)
  | none => match ps.any (Nat.beq f) with
    | true => some (pureBy P ext fs fuel f)
    | false => none

def saysTrue : Option Res → Bool
  | some (.rets l) => l.all fun r => match r.1 with
    | .bool true => true
    | _ => false
  | _ => false

def MS.empty : MS := ⟨.one, .nil⟩

/-- The run for whole. -/
def runOf (ext : Ext) (fs : Cons) (ps : List FuncId) (fuel : Nat) : Run :=
  ev P ext (orcWith (puOf P ext fs fuel ps) noOrc) merged (drawRun P ext (puOf P ext fs fuel ps)) fuel

end

variable {P : Program}

theorem noPure_ok {C : Ctx} : PuOK P C noPure := fun _ _ _ _ _ h => by cases h
theorem noOrc_ok {C : Ctx} : OrcOK P C noOrc := fun _ _ _ _ _ h => by cases h
theorem merged_ok : MergeOK merged := merged_mem

theorem ExtOK.bare {C : Ctx} {ext : Ext} (h : ExtOK P C ext) (N : Nat) (w : World) : ExtOK P ⟨N, w, C.σ⟩ ext.bare :=
  ⟨h.fn, h.asm, (fun _ _ h => by cases h), h.lies⟩

theorem orcWith_ok {C : Ctx} {pu : Pure} (hpu : PuOK P C pu) {orc : Orc} (horc : OrcOK P C orc) : OrcOK P C (orcWith pu orc) := by
  intro f g args s r hf hg ρ xs w hxs R
  unfold orcWith at hf
  split at hf
  · rename_i g' hg'
    cases hf
    simp only at hg
    split at hg
    · rename_i v hv
      cases hg
      refine Calls.mono (hpu f g' args s v hg' hv ρ xs w hxs R) fun e w' ⟨x, h1, h2, h3⟩ => ⟨x, ρ, h1, ρ.le_refl, h2, R.later h3⟩
    · cases hg
  · exact horc f g args s r hf hg ρ xs w hxs R

theorem knownT_sound {ρ : Loc} {A : Asm} (hA : AsmOK ρ.σ A) {v : MV} {x : Value} (h : VR ρ v x) : VR ρ (knownT A v) x := by
  unfold knownT
  split
  · rename_i vs
    simp only [VR] at h ⊢
    obtain ⟨a, rfl, ha⟩ := h
    refine ⟨a, rfl, ?_⟩
    have : ∀ {l : List MV} {xs : List Value}, VRs ρ l xs → VRs ρ (l.map (known A)) xs := by
      intro l
      induction l with
      | nil => intro xs h; exact h
      | cons v l ih =>
        intro xs h
        obtain ⟨y, ys, rfl, h1, h2⟩ := h.cons_inv
        exact .cons (known_sound hA h1) (ih h2)
    exact this ha
  · exact known_sound hA h
theorem conOf_ok {C : Ctx} {A : Asm} (hA : AsmOK C.σ A) {f : FuncId} {g : List MV → Option MV} (hg : FnOK P C.σ f g) {args : List MV} {s : MS} {v : MV} (h : conOf A g args s = some v) {ρ : Loc} {xs : Array Value} {w : World} (hxs : VRs ρ args xs.toList) (R : Repr C ρ s w) :
    Calls P f xs w fun e w' => ∃ x, e = .returned x ∧ VR ρ v x ∧ Below w.heap.size w w' := by
  unfold conOf at h
  split at h
  · rename_i v' hv
    cases h
    exact Calls.mono (hg args v' hv ρ xs w R.sig hxs) fun e w' ⟨x, h1, h2, h3⟩ => ⟨x, h1, knownT_sound (by rw [R.sig]; exact hA) h2, h3⟩
  · cases h
theorem puFs_ok {C : Ctx} {A : Asm} (hA : AsmOK C.σ A) {fs : Cons} (hfs : ConsOK P C.σ fs) : PuOK P C (puFs A fs) := by
  intro f g args s v hf hg ρ xs w hxs R
  unfold puFs at hf
  split at hf
  case h_2 => cases hf
  rename_i g' hg'
  cases hf
  exact conOf_ok hA (hfs f g' hg') hg hxs R

theorem puOf_ok (hng : NoNum P) (hmix : P.follows .mixedOrders = true) {C : Ctx} {ext : Ext} (hext : ExtOK P C ext) {fs : Cons} (hfs : ConsOK P C.σ fs) {fuel : Nat} {ps : List FuncId} : PuOK P C (puOf P ext fs fuel ps) := by
  intro f g args s v hf hg ρ xs w hxs R
  unfold puOf at hf
  split at hf
  · rename_i g' hg'
    cases hf
    exact conOf_ok hext.asm (hfs f g' hg') hg hxs R
  split at hf
  case h_2 => cases hf
  cases hf
  unfold pureBy at hg
  split at hg
  case h_2 => cases hg
  rename_i r hr
  split at hg
  case h_2 => cases hg
  rename_i hflat
  cases hg
  have hpu : PuOK P ⟨w.heap.size, w, C.σ⟩ (puFs ext.asm fs) := puFs_ok (C := ⟨w.heap.size, w, C.σ⟩) hext.asm hfs
  have h := (ev_sound hng (C := ⟨w.heap.size, w, C.σ⟩) (hext.bare _ _) (drawRun_sound (C := ⟨w.heap.size, w, C.σ⟩) hng (hext.bare _ _) hpu hmix) (orcWith_ok hpu noOrc_ok) merged_ok fuel).1 f args s.frozen [r] hr ρ xs w hxs R.frozen
  refine Calls.mono h fun e w' he => ?_
  obtain ⟨r', hr', x, ρ', rfl, hle, h2, h3⟩ := he
  rw [List.mem_singleton] at hr'; subst hr'
  exact ⟨x, rfl, h2.flat hle.2.symm hflat, h3.below⟩

/-- A closed call that says true and leaves all that was as it was. -/
def SaysTrue (P : Program) (f : FuncId) : Prop := ∀ w, Calls P f #[] w fun e w' => e = .returned (.bool true) ∧ Below w.heap.size w w'

def gTrue : List MV → Option MV
  | [] => some (.bool true)
  | _ => none
theorem SaysTrue.fn {f : FuncId} (h : SaysTrue P f) (σ : Val) : FnOK P σ f gTrue := by
  intro args v hg ρ xs w _ hxs
  unfold gTrue at hg
  split at hg
  case h_2 => cases hg
  cases hg
  have hx : xs = #[] := by apply Array.ext'; exact hxs.nil_inv
  subst hx
  exact Calls.mono (h w) fun e w' ⟨h1, h2⟩ => ⟨_, h1, by simp only [VR], h2⟩

/-- Contracts, one behind another. -/
def Cons.put (fs : Cons) (f : FuncId) (g : List MV → Option MV) : Cons := fun k =>
  match Nat.beq k f with
  | true => some g
  | false => fs k
theorem noCons_ok {σ : Val} : ConsOK P σ noCons := fun _ _ h => by cases h
theorem ConsOK.put {σ : Val} {fs : Cons} (h : ConsOK P σ fs) {f : FuncId} {g : List MV → Option MV} (hg : FnOK P σ f g) : ConsOK P σ (fs.put f g) := by
  intro k g' hk
  unfold Cons.put at hk
  split at hk
  · rename_i hb
    rw [Nat.eq_of_beq_eq_true hb]
    cases hk; exact hg
  · exact h k g' hk

theorem Repr.empty (w : World) (σ : Val) : Repr ⟨w.heap.size, w, σ⟩ ⟨fun _ => none, σ⟩ MS.empty w where
  below := Below.refl _ _
  base := Nat.le_refl _
  sig := rfl
  dom := fun _ _ h => by cases h
  obj := fun h o ho => by
    simp only [MS.get, MS.empty] at ho
    rw [Tr.get_nil] at ho; cases ho
  inj := fun h h' o o' i i' ho => by
    simp only [MS.get, MS.empty] at ho
    rw [Tr.get_nil] at ho; cases ho

theorem runOf_sound (hng : NoNum P) (hmix : P.follows .mixedOrders = true) {C : Ctx} {ext : Ext} (hext : ExtOK P C ext) {fs : Cons} (hfs : ConsOK P C.σ fs) {ps : List FuncId} {fuel : Nat} :
    CallsOK P C (runOf P ext fs ps fuel) ∧ CodesOK P C fuel (runOf P ext fs ps fuel) :=
  ev_sound hng hext (drawRun_sound hng hext (puOf_ok hng hmix hext hfs) hmix) (orcWith_ok (puOf_ok hng hmix hext hfs) noOrc_ok) merged_ok fuel

/-- A call whose arguments lead nowhere: what is taken of the unknown holds: it says true, and leaves all that was as it was. -/
theorem saysTrue_at (hng : NoNum P) (hmix : P.follows .mixedOrders = true) {σ : Val} {ext : Ext} {w : World} (hext : ExtOK P ⟨w.heap.size, w, σ⟩ ext) {fs : Cons} (hfs : ConsOK P σ fs) {ps : List FuncId} {fuel : Nat} {f : FuncId} {args : List MV}
    (h : saysTrue (runOf P ext fs ps fuel (.call f args MS.empty)) = true) (xs : Array Value) (hxs : VRs ⟨fun _ => none, σ⟩ args xs.toList) : Calls P f xs w fun e w' => e = .returned (.bool true) ∧ Below w.heap.size w w' := by
  unfold saysTrue at h
  split at h
  case h_2 => cases h
  rename_i l hl
  refine Calls.mono ((runOf_sound hng hmix (C := ⟨w.heap.size, w, σ⟩) hext hfs).1 f args MS.empty l hl ⟨fun _ => none, σ⟩ xs w hxs (Repr.empty w σ)) fun e w' he => ?_
  obtain ⟨r, hr, x, ρ', rfl, _, h2, h3⟩ := he
  have := List.all_eq_true.1 h r hr
  split at this
  · rename_i hv
    rw [hv] at h2
    simp only [VR] at h2
    exact ⟨by rw [h2], h3.below⟩
  · cases this

theorem saysTrue_of (hng : NoNum P) (hmix : P.follows .mixedOrders = true) {σ : Val} {ext : Ext} (hext : ∀ w, ExtOK P ⟨w.heap.size, w, σ⟩ ext) {fs : Cons} (hfs : ConsOK P σ fs) {ps : List FuncId} {fuel : Nat} {f : FuncId} (h : saysTrue (runOf P ext fs ps fuel (.call f [] MS.empty)) = true) : SaysTrue P f :=
  fun w => saysTrue_at hng hmix (hext w) hfs h #[] (by simp [VRs])

end Go.Mir
