/- CtrlNone: the row and its tied card: for every state in which the call may begin it returns true. The call takes no argument; the listed package-level variables hold what the program's text lays. -/
import Derived.Test.YtaaaaaehmejknaaGreatDoorCtrlNone
import Derived.Test.YtaaaaaehmejknaaGreatDoorFacts
import Derived.Test.YtaaaaaehmejknaaGreatDoorCards
import Derived.Test.YtaaaaaehmejknaaGreatDoorTie
namespace Go.Proofs.YtaaaaaehmejknaaGreatDoor
open Go
set_option maxRecDepth 100000
theorem ctrlNoneFact1 : (Rows.ctrlNoneRow.wf (OpenSpec.ofChange Rows.ctrlNoneSpec)) = true := by kernel_rfl
theorem ctrlNoneFact4 : (Tryz.f12.params.all (Tryz.prog.readableRec ·)) = true := by kernel_rfl
theorem ctrlNoneFact5 : (namedTie Tryz.prog Rows.ctrlNoneRow.named Rows.ctrlNoneSpec.vars) = true := by kernel_rfl
theorem ctrlNoneFact6 : ((Rows.ctrlNoneRow.stops == [])) = true := by kernel_rfl
theorem ctrlNoneFact8 : ((Rows.ctrlNoneRow.knobs == [])) = true := by kernel_rfl
theorem ctrlNoneFact10 : ((Rows.ctrlNoneRow.inPlace == Tryz.prog.inPlace 12)) = true := by kernel_rfl
theorem ctrlNoneFact11 : ((Rows.ctrlNoneRow.unfollowed == Tryz.prog.unfollowed 12)) = true := by kernel_rfl
theorem ctrlNoneFact12 : ((Rows.ctrlNoneRow.recurses == Tryz.prog.recurses 12)) = true := by kernel_rfl
theorem ctrlNoneFact13 : ((Rows.ctrlNoneRow.named == Tryz.prog.varsNamed 12)) = true := by kernel_rfl
theorem ctrlNoneFact14 : ((Rows.ctrlNoneRow.maps == (Tryz.f12.params.toList ++ Rows.ctrlNoneSpec.plain.varTypes Tryz.prog).any (Tryz.prog.mapsRec ·))) = true := by kernel_rfl
theorem ctrlNoneFact15 : ((Rows.ctrlNoneRow.ifaces == (Tryz.f12.params.toList ++ Rows.ctrlNoneSpec.plain.varTypes Tryz.prog).any (Tryz.prog.ifacesRec ·))) = true := by kernel_rfl
theorem ctrlNoneFact16 : ((Rows.ctrlNoneRow.mapsOut == Tryz.prog.mapsAmong Tryz.f12.resultTypes.toList)) = true := by kernel_rfl
theorem ctrlNoneFact17 : ((Rows.ctrlNoneRow.loops == (Tryz.f12.params.toList ++ Rows.ctrlNoneSpec.plain.varTypes Tryz.prog).any (Tryz.prog.loopsFrom ·))) = true := by kernel_rfl
theorem ctrlNoneFact18 : ((Rows.ctrlNoneRow.wideKeys == (Tryz.f12.params.toList ++ Rows.ctrlNoneSpec.plain.varTypes Tryz.prog ++ Tryz.f12.resultTypes.toList).any (Tryz.prog.wideKeysFrom ·))) = true := by kernel_rfl
theorem ctrlNoneFact19 : (Rows.ctrlNoneSpec.vars.all (Tryz.prog.varReadable ·)) = true := by kernel_rfl
theorem ctrlNoneFact20 : (Tryz.f12.resultTypes.all (fun t => Tryz.prog.readableRec t && decide (t < Tryz.prog.types.size))) = true := by kernel_rfl
theorem ctrlNoneFact21 : ((Rows.ctrlNoneRow.ifacesOut == Tryz.f12.resultTypes.toList.any (Tryz.prog.ifacesRec ·))) = true := by kernel_rfl
theorem ctrlNoneFact22 : ((Rows.ctrlNoneRow.loopsOut == Tryz.f12.resultTypes.toList.any (Tryz.prog.loopsFrom ·))) = true := by kernel_rfl
theorem ctrlNoneFact23 : ((Rows.ctrlNoneRow.plainKeys == Tryz.prog.plainKeys)) = true := by kernel_rfl
theorem ctrlNoneFact24 : (Rows.ctrlNoneRow.shortTexts.isNone) = true := by kernel_rfl
theorem ctrlNoneFact27 : ((Rows.ctrlNoneRow.lifted == Tryz.prog.liftsFinal)) = true := by kernel_rfl
theorem ctrlNoneFact28 : ((Tryz.prog.make == some Rows.ctrlNoneRow.make)) = true := by kernel_rfl
theorem ctrlNoneFact29 : ((Rows.ctrlNoneRow.kinds == (if Rows.ctrlNoneRow.domain.isEmpty then [] else Tryz.f12.params.toList.map fun t => match Tryz.prog.underlying t with | some (.int k) => some k | _ => none))) = true := by kernel_rfl
theorem ctrlNoneFact30 : ((Rows.ctrlNoneRow.pinned == Rows.ctrlNoneRow.pinnedBy)) = true := by kernel_rfl
theorem ctrlNoneFact31 : ((Rows.ctrlNoneRow.veiled == (Tryz.f12.params.toList ++ Rows.ctrlNoneSpec.plain.varTypes Tryz.prog ++ Tryz.f12.resultTypes.toList).any (Tryz.prog.veiledRec ·))) = true := by kernel_rfl
theorem ctrlNoneFact32 : (Rows.ctrlNoneRow.veiledFits Tryz.prog Tryz.f12.params.toList (Tryz.f12.params.toList ++ Rows.ctrlNoneSpec.plain.varTypes Tryz.prog ++ Tryz.f12.resultTypes.toList)) = true := by kernel_rfl
theorem ctrlNoneFacts : joinedFacts Tryz.prog 12 Tryz.f12 Rows.ctrlNoneSpec Rows.ctrlNoneRow = true := Go.Mir.joinedFacts_each ctrlNoneFact1 fact2 fact3 ctrlNoneFact4 ctrlNoneFact5 ctrlNoneFact6 fact7 ctrlNoneFact8 fact9 ctrlNoneFact10 ctrlNoneFact11 ctrlNoneFact12 ctrlNoneFact13 ctrlNoneFact14 ctrlNoneFact15 ctrlNoneFact16 ctrlNoneFact17 ctrlNoneFact18 ctrlNoneFact19 ctrlNoneFact20 ctrlNoneFact21 ctrlNoneFact22 ctrlNoneFact23 ctrlNoneFact24 fact25 fact26 ctrlNoneFact27 ctrlNoneFact28 ctrlNoneFact29 ctrlNoneFact30 ctrlNoneFact31 ctrlNoneFact32

theorem ctrlNone_holds : Rows.CtrlNoneSaid :=
  OpenClaim.holds_of_wide 12 Tryz.f12 rfl rfl rfl rfl rfl rfl rfl ⟨rfl, rfl, rfl, rfl, rfl⟩ rfl rfl rfl rfl rfl (by kernel_rfl) Tryz.func12 ctrlNoneFacts
    (of_decide_eq_true (by kernel_rfl)) (by unfold Func.isWrapper; first | (rw [if_pos (by decide +kernel)]; kernel_rfl) | (rw [if_neg (by decide +kernel)]; exact ⟨rfl, rfl⟩))
    (fun os started H enc _ => ctrlNone_lifted os started H enc)

theorem ctrlNone_card : Rows.CtrlNoneCardSaid :=
  Claim7.holds_tied_plain_at .later [] [.data, .data, .data, .data, .sentinel, .sentinel, .pinned] true (true, "5451ce6db202e0296b9aa47f68eee4f6f75e1a14e3d67ab0cdfccc9e3c00b742") true
    ctrlNone_holds (fun _ h => by cases h) (by kernel_rfl) (fun _ h => by cases h) ctrlNone_row_tie rfl ⟨rfl, rfl⟩ (by kernel_rfl) rfl
    (fun f fn hf hfn => by
      obtain rfl : f = 12 := Option.some.inj ((show Tryz.prog.funcNamed "muleteer/muleteerlaw18.CtrlNone" = some 12 by kernel_rfl).symm.trans hf) |>.symm
      obtain rfl : fn = Tryz.f12 := (Option.some.inj (Tryz.func12.symm.trans hfn)).symm
      exact ⟨by kernel_rfl, fun j t ht => by
        rw [Tryz.params12] at ht
        simp at ht⟩)
    (by kernel_rfl)
#print axioms ctrlNone_card
end Go.Proofs.YtaaaaaehmejknaaGreatDoor
