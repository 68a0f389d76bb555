/- CtrlKinds: of every kind and size the call says true, and leaves all that was as it was. -/
import Derived.Test.YtohonlojnflejaaGreatDoorBegun18
import Derived.Test.YtohonlojnflejaaGreatDoorMirTree
namespace Go.Proofs.YtohonlojnflejaaGreatDoor
open Go.Mir Go.RowKit
set_option maxRecDepth 100000
def kindsTree : Tree := (.split (.cmp .lss (.var 1) (.lit 1)) (.split (.cmp .geq (.var 1) (.lit 1)) .contra .yes) (.split (.cmp .gtr (.var 1) (.lit 1400)) (.split (.cmp .geq (.var 1) (.lit 1)) (.split (.cmp .leq (.var 1) (.lit 1400)) .contra .yes) .contra) (.split (.cmp .eql (.var 0) (.lit 2)) (.split (.cmp .geq (.var 1) (.lit 1)) (.split (.cmp .leq (.var 1) (.lit 1400)) (.split (.cmp .neq (.lit 2) (.var 0)) .contra (.split (.not (.beq (.lit false) (.cmp .eql (.var 0) (.lit 3)))) .contra .yes)) .contra) .contra) (.split (.cmp .eql (.var 0) (.lit 3)) (.split (.cmp .geq (.var 1) (.lit 1)) (.split (.cmp .leq (.var 1) (.lit 1400)) (.split (.cmp .neq (.lit 3) (.var 0)) .contra (.split (.cmp .eql (.bin .mul .u64 (.lit 64) (.wrap .u64 (.var 1))) (.bin .mul .u64 (.lit 64) (.wrap .u64 (.var 1)))) .yes .contra)) .contra) .contra) (.split (.cmp .geq (.var 1) (.lit 1)) (.split (.cmp .leq (.var 1) (.lit 1400)) .yes .contra) .contra)))))
noncomputable def kindsRun (B : Asm) : Bool := saysTrue (runOf Tryz.prog (ext noD B) (noCons.put 22 gTrue) [196, 117, 26, 27] 100000 (.call 8 [.sx .i64 (.var 0), .sx .i64 (.var 1)] MS.empty))
theorem kinds_yes : (kindsTree.yeses Asm.none).all kindsRun = true := by kernel_rfl
def kindsVal (a b : Int) : Val := ⟨fun i => match i with | 0 => a | _ => b, fun _ _ _ _ => 0, fun _ => (none, 0)⟩
theorem kinds_contra (a b : Int) : ∀ B ∈ kindsTree.contras Asm.none, ¬ AsmOK (kindsVal a b) B := by
  intro B hB h
  simp only [kindsTree, Tree.contras, List.nil_append, List.append_nil, List.cons_append, List.mem_cons, List.not_mem_nil, or_false] at hB
  rcases hB with rfl | rfl | rfl | rfl | rfl | rfl | rfl | rfl | rfl | rfl | rfl | rfl | rfl
  all_goals
    have h := h.2
    simp [Asm.more, Asm.none, SB.eval, SE.eval, cmpV, binV, kindsVal] at h
  all_goals omega
theorem ctrlKinds_walk (a b : Int) (w : World) : Calls Tryz.prog 8 #[.int .i64 a, .int .i64 b] w fun e w' => e = .returned (.bool true) ∧ Below w.heap.size w w' :=
  tree_sound kindsTree Asm.none (Asm.none_ok (kindsVal a b)) (fun B hB hA =>
    saysTrue_at noNum mixed (σ := kindsVal a b) (ext_ok hA ⟨(fun _ _ h => by cases h), fun _ => ⟨(fun _ h => by cases h), fun h => absurd h (by simp [kindsVal])⟩⟩) (noCons_ok.put (begun18.fn _)) (List.all_eq_true.1 kinds_yes B hB) #[.int .i64 a, .int .i64 b]
      (.cons (by simp only [VR, SE.eval, kindsVal]) (.cons (by simp only [VR, SE.eval, kindsVal]) .nil))) (kinds_contra a b)
end Go.Proofs.YtohonlojnflejaaGreatDoor
