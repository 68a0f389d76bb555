/- A call under case distinctions on what is not known: at each end of the tree the run says true, or the case cannot be. -/
import Derived.Test.YtohonlojnflejaaGreatDoorMirNode
namespace Go.Mir
open Go.RowKit

inductive Tree where
  | yes
  | contra
  | split (b : SB) (l r : Tree)

def Asm.more (A : Asm) (b : SB) (c : Bool) : Asm := ⟨A.es, (b, c) :: A.bs⟩

/-- The cases that must say true; those that cannot be. -/
def Tree.yeses : Tree → Asm → List Asm
  | .yes, A => [A]
  | .contra, _ => []
  | .split b l r, A => l.yeses (A.more b true) ++ r.yeses (A.more b false)
def Tree.contras : Tree → Asm → List Asm
  | .yes, _ => []
  | .contra, A => [A]
  | .split b l r, A => l.contras (A.more b true) ++ r.contras (A.more b false)

theorem AsmOK.more {σ : Val} {A : Asm} (h : AsmOK σ A) (b : SB) : AsmOK σ (A.more b (b.eval σ)) :=
  ⟨h.1, fun p hp => by
    rcases List.mem_cons.1 hp with rfl | hp
    · rfl
    · exact h.2 p hp⟩

theorem tree_sound {σ : Val} {Q : Prop} : ∀ (t : Tree) (A : Asm), AsmOK σ A → (∀ B ∈ t.yeses A, AsmOK σ B → Q) → (∀ B ∈ t.contras A, ¬ AsmOK σ B) → Q
  | .yes, A, hA, hy, _ => hy A (List.mem_singleton.2 rfl) hA
  | .contra, A, hA, _, hc => absurd hA (hc A (List.mem_singleton.2 rfl))
  | .split b l r, A, hA, hy, hc => by
    have h := hA.more b
    cases hb : b.eval σ with
    | true =>
      rw [hb] at h
      exact tree_sound l _ h (fun B hB => hy B (List.mem_append_left _ hB)) (fun B hB => hc B (List.mem_append_left _ hB))
    | false =>
      rw [hb] at h
      exact tree_sound r _ h (fun B hB => hy B (List.mem_append_right _ hB)) (fun B hB => hc B (List.mem_append_right _ hB))

end Go.Mir
