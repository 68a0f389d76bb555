/- Places in a function's code, with what is known there: from one place to the next by the mirror's run. -/
import Derived.Test.YtohonlojnflejaaGreatDoorMirTmpl
namespace Go.Mir
open Go.RowKit

/-- What is known at a place: variables, and memory; the first region of the code there. -/
structure Shape where
  tag : Nat
  rs : List (Nat × MV)
  next : Pos
  objs : List (Pos × MO)

/-- How the shape is met (a guess: it is proved by looking). -/
structure Guess where
  θ : List (Pos × Pos)
  τ : List (Nat × SE)
def Guess.num (g : Guess) (i : Nat) (e : SE) : Guess :=
  match assocE i g.τ with
  | some _ => g
  | none => ⟨g.θ, (i, e) :: g.τ⟩
def objOf (h : Pos) : List (Pos × MO) → Option MO
  | [] => none
  | p :: l => match eqPos p.1 h with
    | true => some p.2
    | false => objOf h l
def zipV : List MV → List MV → List (MV × MV) → List (MV × MV)
  | a :: l, b :: m, r => (a, b) :: zipV l m r
  | _, _, r => r
def zipE : List (MV × MV × Nat) → List (MV × MV × Nat) → List (MV × MV) → List (MV × MV)
  | a :: l, b :: m, r => (a.1, b.1) :: (a.2.1, b.2.1) :: zipE l m r
  | _, _, r => r
def guessL (objs : List (Pos × MO)) (s : MS) : Nat → List (MV × MV) → Guess → Guess
  | 0, _, g => g
  | _ + 1, [], g => g
  | n + 1, p :: rest, g =>
    let at_ := fun (h h' : Pos) => match assocP h g.θ with
      | some _ => guessL objs s n rest g
      | none =>
        let g' : Guess := ⟨(h, h') :: g.θ, g.τ⟩
        match objOf h objs, s.get h' with
        | some (.cells a), some (.cells b) | some (.ro a), some (.cells b) | some (.ro a), some (.ro b) | some (.grow a _), some (.grow b _) => guessL objs s n (zipV a b rest) g'
        | some (.map a _), some (.map b _) => guessL objs s n (zipE a b rest) g'
        | _, _ => guessL objs s n rest g'
    match p.1, p.2 with
    | .sx _ (.var i), .sx _ e => guessL objs s n rest (g.num i e)
    | .sx _ (.var i), .int _ m => guessL objs s n rest (g.num i (.lit m))
    | .sb (.cmp .neq (.var i) _), .bool true => guessL objs s n rest (g.num i (.lit 1))
    | .sb (.cmp .neq (.var i) _), .bool false => guessL objs s n rest (g.num i (.lit 0))
    | .sb (.cmp .neq (.var i) _), .sb (.cmp .neq e _) => guessL objs s n rest (g.num i e)
    | .ustr (.var i), .ustr e => guessL objs s n rest (g.num i e)
    | .ustr (.var i), .str l => guessL objs s n rest (g.num i (.lit (enc l)))
    | .usl _ (.var i), .usl _ e => guessL objs s n rest (g.num i e)
    | .uptr _ _ (.var i) _, .uptr _ _ e _ => guessL objs s n rest (g.num i e)
    | .ptr h _, .ptr h' _ => at_ h h'
    | .sl h _ _ _, .sl h' _ _ _ => at_ h h'
    | .gsl h _ _, .gsl h' _ _ => at_ h h'
    | .map h, .map h' => at_ h h'
    | .agg a, .agg b | .tuple a, .tuple b => guessL objs s n (zipV a b rest) g
    | .iface _ a, .iface _ b => guessL objs s n ((a, b) :: rest) g
    | .func _ a b, .func _ a' b' => guessL objs s n (zipV a a' (zipV b b' rest)) g
    | _, _ => guessL objs s n rest g
def workOf (rs : List (Nat × MV)) : List (Nat × MV) → List (MV × MV)
  | [] => []
  | p :: l => match find p.1 none rs with
    | some v => (p.2, v) :: workOf rs l
    | none => workOf rs l
def Shape.meets (sh : Shape) (rs : List (Nat × MV)) (s : MS) : Option (List (Pos × Pos) × List (Nat × SE)) :=
  let g := guessL sh.objs s 100000 (workOf rs sh.rs) ⟨[], []⟩
  match matRegs g.θ g.τ rs sh.rs && (matObjs g.θ g.τ s sh.objs && (injP g.θ && belowP sh.next g.θ)) with
  | true => some (g.θ, g.τ)
  | false => none

/-- What a run comes to: a result; a place, a shape (by its number), what its unknown is. -/
inductive Su where
  | done (v : MV)
  | at (c : Code) (fr : List Fr) (k : Nat) (τ : List (Nat × SE))

def pickS (tag : Option Nat) (rs : List (Nat × MV)) (s : MS) : List Shape → Nat → Option (Nat × List (Nat × SE))
  | [], _ => none
  | sh :: l, k => match (match tag with | some i => Nat.beq i sh.tag | none => false) with
    | true => match sh.meets rs s with
      | some r => some (k, r.2)
      | none => pickS tag rs s l (k + 1)
    | false => pickS tag rs s l (k + 1)

section
variable (P : Program) (fn : Func) (S : List Shape) (good : MV → Bool)
def sumCO : List CO → Option (List Su)
  | [] => some []
  | co :: l => match sumCO l with
    | none => none
    | some r => match co with
      | .done o => match o.e with
        | .exit _ => none
        | _ => match resultOf P fn o.rs o.s with
          | none => none
          | some v => match good v with
            | true => some r
            | false => some (.done v :: r)
      | .at c fr rs s => match pickS (firstId c) rs s S 0 with
        | none => none
        | some q => some (.at c fr q.1 q.2 :: r)
def knownR (A : Asm) : List (Nat × MV) → List (Nat × MV)
  | [] => []
  | p :: l => (p.1, knownV A p.2) :: knownR A l
def sumAt (A : Asm) (flag : Code → Bool) (ih : Run) (k : Nat) (c : Code) (fr : List Fr) (sh : Shape) : Option (List Su) :=
  match stepAt flag ih (keepOf fn) k c fr (knownR A sh.rs) (stOf sh.next sh.objs) with
  | none => none
  | some l => sumCO P fn S good l
end

def isTrueV : MV → Bool
  | .bool true => true
  | _ => false

/-- Returned; all that was is as it was. -/
def Post (w0 : World) (X : Value) (e : Ending) (w' : World) : Prop := e = .returned X ∧ Below w0.heap.size w0 w'

/-- What is to be shown at a place. -/
def Goal (P : Program) (fn : Func) (w0 : World) (X : Value) (c : Code) (fr : List Fr) (sh : Shape) (σ : Val) : Prop :=
  ∀ (ρ : Loc) (a : Act) (w : World), ρ.σ = σ → RegsOK (keepOf fn) fn.ntmps ρ sh.rs a → Repr ⟨w0.heap.size, w0, σ⟩ ρ (stOf sh.next sh.objs) w →
    c.wp P (frPost P fr (bodyPost P fn (Post w0 X))) a w

theorem post_quiet {P : Program} {fn : Func} {w0 : World} {X : Value} : Quiet (bodyPost P fn (Post w0 X)) :=
  ⟨fun a w h => by have := h.1; simp at this, fun l a w h => h⟩

section
variable {P : Program} {fn : Func} {S : List Shape} {good : MV → Bool} {w0 : World} {X : Value}

theorem meets_sound {sh : Shape} {rs : List (Nat × MV)} {s : MS} {θ : List (Pos × Pos)} {τ : List (Nat × SE)} (h : sh.meets rs s = some (θ, τ)) {keep n : Nat} {ρ : Loc} {a : Act} {w : World} {C : Ctx} (hE : RegsOK keep n ρ rs a) (R : Repr C ρ s w) :
    RegsOK keep n (ρ.via θ τ) sh.rs a ∧ Repr ⟨C.N, C.w0, ρ.σ.sub τ⟩ (ρ.via θ τ) (stOf sh.next sh.objs) w := by
  unfold Shape.meets at h
  simp only at h
  split at h
  case h_2 => cases h
  rename_i hm
  cases h
  simp only [Bool.and_eq_true] at hm
  exact ⟨matRegs_sound hE hm.1, matS_sound R hm.2.1 hm.2.2.1 hm.2.2.2⟩

theorem pickS_sound {tag : Option Nat} {rs : List (Nat × MV)} {s : MS} {k : Nat} {τ : List (Nat × SE)} : ∀ {S : List Shape} {i : Nat}, pickS tag rs s S i = some (k, τ) → i ≤ k ∧ ∃ sh θ, S[k - i]? = some sh ∧ sh.meets rs s = some (θ, τ)
  | [], _, h => by cases h
  | sh :: l, i, h => by
    have tail : pickS tag rs s l (i + 1) = some (k, τ) → i ≤ k ∧ ∃ sh' θ, (sh :: l)[k - i]? = some sh' ∧ sh'.meets rs s = some (θ, τ) := fun h => by
      obtain ⟨h1, sh', θ, h2, h3⟩ := pickS_sound h
      refine ⟨by omega, sh', θ, ?_, h3⟩
      rw [show k - i = k - (i + 1) + 1 by omega]; simpa using h2
    simp only [pickS] at h
    split at h
    · split at h
      · rename_i r hr
        cases h
        exact ⟨Nat.le_refl _, sh, r.1, by simp, hr⟩
      · exact tail h
    · exact tail h

/-- What is to be shown of what a run comes to. -/
def Su.Good (P : Program) (fn : Func) (S : List Shape) (w0 : World) (X : Value) (σ : Val) : Su → Prop
  | .done v => ∀ (ρ : Loc) (x : Value), ρ.σ = σ → VR ρ v x → x = X
  | .at c fr k τ => ∀ sh, S[k]? = some sh → Goal P fn w0 X c fr sh (σ.sub τ)

theorem sumCO_sound {σ : Val} (hgood : ∀ v, good v = true → Su.Good P fn S w0 X σ (.done v)) : ∀ {l : List CO} {L : List Su}, sumCO P fn S good l = some L → (∀ su ∈ L, su.Good P fn S w0 X σ) →
    ∀ co ∈ l, ∀ ρ : Loc, ρ.σ = σ → Stands P ⟨w0.heap.size, w0, σ⟩ (keepOf fn) fn.ntmps (bodyPost P fn (Post w0 X)) ρ co
  | [], _, _, _, co, hc => by cases hc
  | co :: l, L, h, hL, co', hc => by
    simp only [sumCO] at h
    split at h
    · cases h
    rename_i r hr
    have tail : (∀ su ∈ r, su ∈ L) → co' ∈ l → ∀ ρ : Loc, ρ.σ = σ → Stands P ⟨w0.heap.size, w0, σ⟩ (keepOf fn) fn.ntmps (bodyPost P fn (Post w0 X)) ρ co' :=
      fun hs hm => sumCO_sound hgood hr (fun su hsu => hL su (hs su hsu)) co' hm
    have out : ∀ {o : Out} {v : MV}, (∀ id, o.e ≠ .exit id) → resultOf P fn o.rs o.s = some v → Su.Good P fn S w0 X σ (.done v) → ∀ ρ : Loc, ρ.σ = σ → Stands P ⟨w0.heap.size, w0, σ⟩ (keepOf fn) fn.ntmps (bodyPost P fn (Post w0 X)) ρ (.done o) := by
      intro o v hne hv hg ρ hρ ρ' a w hle hE R
      obtain ⟨x, h5, h6⟩ := result_sound hE R hv
      have hx := hg ρ' x (hle.2.trans hρ) h6
      have hp : a.defers = [] ∧ ∃ v, (results fn a.tmps).run P w = .ok v w ∧ Post w0 X (.returned v) w := ⟨hE.defers, x, h5, by rw [hx], R.below⟩
      cases he : o.e with
      | normal => exact hp
      | ret => exact hp
      | exit id => exact absurd he (hne id)
    split at h
    · rename_i o
      split at h
      · cases h
      rename_i hne
      split at h
      · cases h
      rename_i v hv
      split at h
      · rename_i hg
        cases h
        rcases List.mem_cons.1 hc with rfl | hc
        · exact out (fun id e => hne id e) hv (hgood v hg)
        · exact tail (fun _ h => h) hc
      · cases h
        rcases List.mem_cons.1 hc with rfl | hc
        · exact out (fun id e => hne id e) hv (hL _ (List.mem_cons_self ..))
        · exact tail (fun _ h => List.mem_cons_of_mem _ h) hc
    · rename_i c fr rs s
      split at h
      · cases h
      rename_i q hq
      cases h
      rcases List.mem_cons.1 hc with rfl | hc
      · intro ρ hρ ρ' a w hle hE R
        obtain ⟨_, sh, θ, hs, hm⟩ := pickS_sound (k := q.1) (τ := q.2) hq
        have hσ : ρ'.σ = σ := hle.2.trans hρ
        obtain ⟨h1, h2⟩ := meets_sound hm hE R
        rw [hσ] at h2
        exact hL _ (List.mem_cons_self ..) sh (by simpa using hs) (ρ'.via θ q.2) a w (by simp only [Loc.via, hσ]) h1 h2
      · exact tail (fun _ h => List.mem_cons_of_mem _ h) hc

theorem find_knownR {A : Asm} {t : Nat} : ∀ {l : List (Nat × MV)} {v : MV}, find t none (knownR A l) = some v → ∃ u, find t none l = some u ∧ v = knownV A u
  | [], v, h => by simp [knownR, find] at h
  | p :: l, v, h => by
    simp only [knownR] at h
    rw [find_cons] at h ⊢
    split at h
    · rename_i e
      cases h
      rw [if_pos e]; exact ⟨_, rfl, rfl⟩
    · rename_i e
      rw [if_neg e]; exact find_knownR h
theorem RegsOK.known {keep n : Nat} {ρ : Loc} {rs : List (Nat × MV)} {a : Act} (h : RegsOK keep n ρ rs a) {A : Asm} (hA : AsmOK ρ.σ A) : RegsOK keep n ρ (knownR A rs) a :=
  ⟨h.defers, h.size, (fun t v hv => by obtain ⟨u, hu, _⟩ := find_knownR hv; exact h.keys t u hu), fun t v hv => by
    obtain ⟨u, hu, rfl⟩ := find_knownR hv
    exact knownV_sound hA (h.vals t u hu)⟩

theorem node_step (hng : NoNum P) (hmix : P.follows .mixedOrders = true) {σ : Val} {ext : Ext} (hext : ExtOK P ⟨w0.heap.size, w0, σ⟩ ext) {fs : Cons} (hfs : ConsOK P σ fs) {ps : List FuncId} {fuel : Nat} {flag : Code → Bool}
    {k : Nat} {c : Code} {fr : List Fr} {sh : Shape} {L : List Su} (hsum : sumAt P fn S good ext.asm flag (runOf P ext fs ps fuel) k c fr sh = some L) (hf : fitsC fn.ntmps c = true) (hfr : fitsFr fn.ntmps fr = true)
    (hgood : ∀ v, good v = true → Su.Good P fn S w0 X σ (.done v)) (hL : ∀ su ∈ L, su.Good P fn S w0 X σ) : Goal P fn w0 X c fr sh σ := by
  intro ρ a w hρ hE R
  unfold sumAt at hsum
  split at hsum
  · cases hsum
  rename_i l hl
  exact stepAt_sound (flag := flag) (runOf_sound hng hmix (C := ⟨w0.heap.size, w0, σ⟩) hext hfs (ps := ps) (fuel := fuel)).2 post_quiet hl hf hfr (hE.known (by rw [hρ]; exact hext.asm)) R fun co hco => sumCO_sound hgood hsum hL co hco ρ hρ

theorem good_true {σ : Val} : ∀ v, isTrueV v = true → Su.Good P fn S w0 (.bool true) σ (.done v) := by
  intro v hv ρ x _ hx
  unfold isTrueV at hv
  split at hv
  · simpa only [VR] using hx
  · cases hv

/-- A call, from the first place on. -/
theorem calls_of_goal {f : FuncId} {c : Code} (hf : P.funcs[f]? = some fn) (hb : fn.body = some c) {args : List MV} (hlen : args.length ≤ fn.ntmps) {σ : Val} {xs : Array Value} (hxs : VRs ⟨fun _ => none, σ⟩ args xs.toList)
    (h : Goal P fn w0 X c [] ⟨0, params (keepOf fn) 0 args, .one, []⟩ σ) : Calls P f xs w0 (Post w0 X) := by
  have hlx : xs.size = args.length := by have := hxs.length; simpa using this
  refine calls_of_wp hf hb (h ⟨fun _ => none, σ⟩ _ w0 rfl ?_ (Repr.empty w0 σ))
  refine ⟨rfl, by simp; omega, fun t v hv => (params_find _ _ _ _ _ hv).1, fun t v hv => ?_⟩
  obtain ⟨_, _, h3⟩ := params_find _ _ _ _ _ hv
  rw [Nat.sub_zero] at h3
  obtain ⟨x, hx, hr⟩ := hxs.get h3
  rw [Array.getElem?_toList] at hx
  have hlt := (Array.getElem?_eq_some_iff.1 hx).1
  simp only [Act.eval, Array.getD_eq_getD_getElem?]
  rw [Array.getElem?_append_left hlt, hx]
  exact hr

end
end Go.Mir
