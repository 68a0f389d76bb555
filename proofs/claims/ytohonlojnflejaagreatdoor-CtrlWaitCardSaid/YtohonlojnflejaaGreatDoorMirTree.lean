/- A call under case distinctions on what is not known: at each end of the tree the run says true, or the case cannot be. -/
import Derived.Test.YtohonlojnflejaaGreatDoorMirNode
namespace Go.Mir
open Go.RowKit

inductive Tree where
  | yes
  | contra
  | split (b : SB) (l r : Tree)

def Asm.more (A : Asm) (b : SB) (c : Bool) : Asm := ⟨A.es, (b, c) :: A.bs⟩

/-- The cases that must say true; those that cannot be. -/
def Tree.yeses : Tree → Asm → List Asm
  | .yes, A => [A]
  | .contra, _ => []
  | .split b l r, A => l.yeses (A.more b true) ++ r.yeses (A.more b false)
def Tree.contras : Tree → Asm → List Asm
  | .yes, _ => []
  | .contra, A => [A]
  | .split b l r, A => l.contras (A.more b true) ++ r.contras (A.more b false)

theorem AsmOK.more {σ : Val} {A : Asm} (h : AsmOK σ A) (b : SB) : AsmOK σ (A.more b (b.eval σ)) :=
  ⟨h.1, fun p hp => by
    rcases List.mem_cons.1 hp with rfl | hp
    · rfl
    · exact h.2 p hp⟩

theorem tree_sound {σ : Val} {Q : Prop} : ∀ (t : Tree) (A : Asm), AsmOK σ A → (∀ B ∈ t.yeses A, AsmOK σ B → Q) → (∀ B ∈ t.contras A, ¬ AsmOK σ B) → Q
  | .yes, A, hA, hy, _ => hy A (List.mem_singleton.2 rfl) hA
  | .contra, A, hA, _, hc => absurd hA (hc A (List.mem_singleton.2 rfl))
  | .split b l r, A, hA, hy, hc => by
    have h := hA.more b
    cases hb : b.eval σ with
    | true =>
      rw [hb] at h
      exact tree_sound l _ h (fun B hB => hy B (List.mem_append_left _ hB)) (fun B hB => hc B (List.mem_append_left _ hB))
    | false =>
      rw [hb] at h
      exact tree_sound r _ h (fun B hB => hy B (List.mem_append_right _ hB)) (fun B hB => hc B (List.mem_append_right _ hB))

/-- What a run comes to in a case: a place, by its number, and what its unknown is; a result. -/
inductive Lf where
  | at (k : Nat) (τ : List (Nat × SE))
  | done (v : MV)
/-- A place: code, what comes behind it, what is known. -/
structure Nd where
  c : Code
  fr : List Fr
  sh : Shape
def Lf.su (nodes : List Nd) : Lf → Su
  | .at k τ => match nodes[k]? with
    | some nd => .at nd.c nd.fr k τ
    | none => .at .skip [] k τ
  | .done v => .done v
def susOf (nodes : List Nd) : List Lf → List Su
  | [] => []
  | l :: r => l.su nodes :: susOf nodes r

/-- Cases, with what the run comes to in each. -/
inductive PT where
  | leaf (L : List Lf)
  | contra
  | split (b : SB) (l r : PT)
def PT.runs (run : Asm → Option (List Su)) : PT → Asm → List (Option (List Su))
  | .leaf _, A => [run A]
  | .contra, _ => []
  | .split b l r, A => l.runs run (A.more b true) ++ r.runs run (A.more b false)
def PT.leaves (nodes : List Nd) : PT → List (Option (List Su))
  | .leaf L => [some (susOf nodes L)]
  | .contra => []
  | .split _ l r => l.leaves nodes ++ r.leaves nodes
def LfGoal (σ : Val) (I : Nat → Val → Prop) (D : MV → Prop) : List Lf → Prop
  | [] => True
  | .at k τ :: l => I k (σ.sub τ) ∧ LfGoal σ I D l
  | .done v :: l => D v ∧ LfGoal σ I D l
def PT.Goal (σ : Val) (I : Nat → Val → Prop) (D : MV → Prop) : PT → Prop
  | .leaf L => LfGoal σ I D L
  | .contra => False
  | .split b l r => (b.eval σ = true → l.Goal σ I D) ∧ (b.eval σ = false → r.Goal σ I D)

theorem PT.length {run : Asm → Option (List Su)} {nodes : List Nd} : ∀ (t : PT) (A : Asm), (t.runs run A).length = (t.leaves nodes).length
  | .leaf _, _ => rfl
  | .contra, _ => rfl
  | .split b l r, A => by
    simp only [PT.runs, PT.leaves, List.length_append]
    rw [PT.length (nodes := nodes) l, PT.length (nodes := nodes) r]

theorem pt_sound {σ : Val} {I : Nat → Val → Prop} {D : MV → Prop} {G : Prop} {nodes : List Nd} {run : Asm → Option (List Su)} (use : ∀ B L, AsmOK σ B → run B = some (susOf nodes L) → LfGoal σ I D L → G) : ∀ (t : PT) (A : Asm), t.runs run A = t.leaves nodes → AsmOK σ A → t.Goal σ I D → G
  | .leaf L, A, h, hA, hg => use A L hA (by simpa [PT.runs, PT.leaves] using h) hg
  | .contra, _, _, _, hg => hg.elim
  | .split b l r, A, h, hA, hg => by
    simp only [PT.runs, PT.leaves] at h
    obtain ⟨h1, h2⟩ := List.append_inj h (PT.length (nodes := nodes) l _)
    have hm := hA.more b
    cases hb : b.eval σ with
    | true => rw [hb] at hm; exact pt_sound use l _ h1 hm (hg.1 hb)
    | false => rw [hb] at hm; exact pt_sound use r _ h2 hm (hg.2 hb)

/-- One place: in each case the run comes to places where what is to be known holds. -/
theorem pt_node {P : Program} {fn : Func} {w0 : World} {X : Value} (hng : NoNum P) (hmix : P.follows .mixedOrders = true) {σ : Val} {ext : Asm → Ext} (hext : ∀ B, AsmOK σ B → ExtOK P ⟨w0.heap.size, w0, σ⟩ (ext B)) {fs : Cons} (hfs : ConsOK P σ fs)
    {ps : List FuncId} {fuel : Nat} {flag : Code → Bool} {nodes : List Nd} {good : MV → Bool} {k : Nat} {c : Code} {fr : List Fr} {sh : Shape} {t : PT} {A : Asm}
    (hrun : t.runs (fun B => sumAt P fn (nodes.map (·.sh)) good (ext B).asm flag (runOf P (ext B) fs ps fuel) k c fr sh) A = t.leaves nodes) (hA : AsmOK σ A) (hf : fitsC fn.ntmps c = true) (hfr : fitsFr fn.ntmps fr = true)
    (hgood : ∀ v, good v = true → Su.Good P fn (nodes.map (·.sh)) w0 X σ (.done v)) {I : Nat → Val → Prop} (hI : ∀ k τ, I k (σ.sub τ) → ∀ nd, nodes[k]? = some nd → Goal P fn w0 X nd.c nd.fr nd.sh (σ.sub τ))
    {D : MV → Prop} (hD : ∀ v, D v → Su.Good P fn (nodes.map (·.sh)) w0 X σ (.done v)) (hgoal : t.Goal σ I D) : Goal P fn w0 X c fr sh σ := by
  refine pt_sound (fun B L hB hr hL => ?_) t A hrun hA hgoal
  have key : ∀ {L : List Lf}, LfGoal σ I D L → ∀ su ∈ susOf nodes L, su.Good P fn (nodes.map (·.sh)) w0 X σ := by
    intro L
    induction L with
    | nil => intro _ su hm; cases hm
    | cons l L ih =>
      intro hg su hm
      simp only [susOf] at hm
      cases l with
      | «at» k τ =>
        simp only [LfGoal] at hg
        rcases List.mem_cons.1 hm with rfl | hm
        · simp only [Lf.su]
          cases hnd : nodes[k]? with
          | none =>
            intro sh hsh
            rw [List.getElem?_map, hnd] at hsh
            cases hsh
          | some nd =>
            intro sh hsh
            rw [List.getElem?_map, hnd] at hsh
            cases hsh
            exact hI k τ hg.1 nd hnd
        · exact ih hg.2 su hm
      | done v =>
        simp only [LfGoal] at hg
        rcases List.mem_cons.1 hm with rfl | hm
        · exact hD v hg.1
        · exact ih hg.2 su hm
  exact node_step hng hmix (hext B hB) hfs hr hf hfr hgood (key hL)

/-- A place in code. -/
def codeAt : List Nat → Code → List Fr → Code × List Fr
  | [], c, fr => (c, fr)
  | i :: p, .seq a b, fr => match i with
    | 0 => codeAt p a (.seq b :: fr)
    | _ => codeAt p b fr
  | i :: p, .cond _ a b, fr => match i with
    | 0 => codeAt p a fr
    | _ => codeAt p b fr
  | _ :: p, .block id x, fr => codeAt p x (.block id :: fr)
  | _ :: p, .loop x, fr => codeAt p x (.loop x :: fr)
  | _, c, fr => (c, fr)
def bodyOf (fn : Func) : Code := match fn.body with
  | some c => c
  | none => .skip

theorem LiesOK.sub {N : Nat} {w : World} {σ : Val} {D : Nat → Option (List CK)} (h : LiesOK ⟨N, w, σ⟩ D) (τ : List (Nat × SE)) : LiesOK ⟨N, w, σ.sub τ⟩ D :=
  ⟨fun a d hd => h.arr a d hd, fun a => h.lies a⟩

end Go.Mir
