/- CtrlKinds: the row and its tied card: for every input the call returns true, and each argument reads afterwards as it read before. The listed package-level variables hold what the program's text lays. -/
import Derived.Test.YtohonlojnflejaaGreatDoorCtrlKinds
import Derived.Test.YtohonlojnflejaaGreatDoorFacts
import Derived.Test.YtohonlojnflejaaGreatDoorMirClose
import Derived.Test.YtohonlojnflejaaGreatDoorCards
import Derived.Test.YtohonlojnflejaaGreatDoorTie
namespace Go.Proofs.YtohonlojnflejaaGreatDoor
open Go Go.Mir
open Go.ChangeShapes Go.WideShapes Go.ChangeAt Go.RowKit
set_option maxRecDepth 100000
theorem own : ownKnob Tryz.prog.godebug = none := by kernel_rfl
theorem ctrlKindsFact1 : (Rows.ctrlKindsRow.wf (OpenSpec.ofChange Rows.ctrlKindsSpec)) = true := by kernel_rfl
theorem ctrlKindsFact4 : (Tryz.f8.params.all (Tryz.prog.readableRec ·)) = true := by kernel_rfl
theorem ctrlKindsFact5 : (namedTie Tryz.prog Rows.ctrlKindsRow.named Rows.ctrlKindsSpec.vars) = true := by kernel_rfl
theorem ctrlKindsFact6 : ((Rows.ctrlKindsRow.stops == [])) = true := by kernel_rfl
theorem ctrlKindsFact8 : ((Rows.ctrlKindsRow.knobs == [])) = true := by kernel_rfl
theorem ctrlKindsFact10 : ((Rows.ctrlKindsRow.inPlace == Tryz.prog.inPlace 8)) = true := by kernel_rfl
theorem ctrlKindsFact11 : ((Rows.ctrlKindsRow.unfollowed == Tryz.prog.unfollowed 8)) = true := by kernel_rfl
theorem ctrlKindsFact12 : ((Rows.ctrlKindsRow.recurses == Tryz.prog.recurses 8)) = true := by kernel_rfl
theorem ctrlKindsFact13 : ((Rows.ctrlKindsRow.named == Tryz.prog.varsNamed 8)) = true := by kernel_rfl
theorem ctrlKindsFact14 : ((Rows.ctrlKindsRow.maps == (Tryz.f8.params.toList ++ Rows.ctrlKindsSpec.plain.varTypes Tryz.prog).any (Tryz.prog.mapsRec ·))) = true := by kernel_rfl
theorem ctrlKindsFact15 : ((Rows.ctrlKindsRow.ifaces == (Tryz.f8.params.toList ++ Rows.ctrlKindsSpec.plain.varTypes Tryz.prog).any (Tryz.prog.ifacesRec ·))) = true := by kernel_rfl
theorem ctrlKindsFact16 : ((Rows.ctrlKindsRow.mapsOut == Tryz.prog.mapsAmong Tryz.f8.resultTypes.toList)) = true := by kernel_rfl
theorem ctrlKindsFact17 : ((Rows.ctrlKindsRow.loops == (Tryz.f8.params.toList ++ Rows.ctrlKindsSpec.plain.varTypes Tryz.prog).any (Tryz.prog.loopsFrom ·))) = true := by kernel_rfl
theorem ctrlKindsFact18 : ((Rows.ctrlKindsRow.wideKeys == (Tryz.f8.params.toList ++ Rows.ctrlKindsSpec.plain.varTypes Tryz.prog ++ Tryz.f8.resultTypes.toList).any (Tryz.prog.wideKeysFrom ·))) = true := by kernel_rfl
theorem ctrlKindsFact19 : (Rows.ctrlKindsSpec.vars.all (Tryz.prog.varReadable ·)) = true := by kernel_rfl
theorem ctrlKindsFact20 : (Tryz.f8.resultTypes.all (fun t => Tryz.prog.readableRec t && decide (t < Tryz.prog.types.size))) = true := by kernel_rfl
theorem ctrlKindsFact21 : ((Rows.ctrlKindsRow.ifacesOut == Tryz.f8.resultTypes.toList.any (Tryz.prog.ifacesRec ·))) = true := by kernel_rfl
theorem ctrlKindsFact22 : ((Rows.ctrlKindsRow.loopsOut == Tryz.f8.resultTypes.toList.any (Tryz.prog.loopsFrom ·))) = true := by kernel_rfl
theorem ctrlKindsFact23 : ((Rows.ctrlKindsRow.plainKeys == Tryz.prog.plainKeys)) = true := by kernel_rfl
theorem ctrlKindsFact24 : (Rows.ctrlKindsRow.shortTexts.isNone) = true := by kernel_rfl
theorem ctrlKindsFact27 : ((Rows.ctrlKindsRow.lifted == Tryz.prog.liftsFinal)) = true := by kernel_rfl
theorem ctrlKindsFact28 : ((Tryz.prog.make == some Rows.ctrlKindsRow.make)) = true := by kernel_rfl
theorem ctrlKindsFact29 : ((Rows.ctrlKindsRow.kinds == (if Rows.ctrlKindsRow.domain.isEmpty then [] else Tryz.f8.params.toList.map fun t => match Tryz.prog.underlying t with | some (.int k) => some k | _ => none))) = true := by kernel_rfl
theorem ctrlKindsFact30 : ((Rows.ctrlKindsRow.pinned == Rows.ctrlKindsRow.pinnedBy)) = true := by kernel_rfl
theorem ctrlKindsFact31 : ((Rows.ctrlKindsRow.veiled == (Tryz.f8.params.toList ++ Rows.ctrlKindsSpec.plain.varTypes Tryz.prog ++ Tryz.f8.resultTypes.toList).any (Tryz.prog.veiledRec ·))) = true := by kernel_rfl
theorem ctrlKindsFact32 : (Rows.ctrlKindsRow.veiledFits Tryz.prog Tryz.f8.params.toList (Tryz.f8.params.toList ++ Rows.ctrlKindsSpec.plain.varTypes Tryz.prog ++ Tryz.f8.resultTypes.toList)) = true := by kernel_rfl
theorem ctrlKindsFacts : joinedFacts Tryz.prog 8 Tryz.f8 Rows.ctrlKindsSpec Rows.ctrlKindsRow = true := Go.Mir.joinedFacts_each ctrlKindsFact1 fact2 fact3 ctrlKindsFact4 ctrlKindsFact5 ctrlKindsFact6 fact7 ctrlKindsFact8 fact9 ctrlKindsFact10 ctrlKindsFact11 ctrlKindsFact12 ctrlKindsFact13 ctrlKindsFact14 ctrlKindsFact15 ctrlKindsFact16 ctrlKindsFact17 ctrlKindsFact18 ctrlKindsFact19 ctrlKindsFact20 ctrlKindsFact21 ctrlKindsFact22 ctrlKindsFact23 ctrlKindsFact24 fact25 fact26 ctrlKindsFact27 ctrlKindsFact28 ctrlKindsFact29 ctrlKindsFact30 ctrlKindsFact31 ctrlKindsFact32

theorem ctrlKinds_lifted (os : Os) (started : os.Started) (H : Type) (enc : TypeId × Value → H) :
    ReturnsInHanded {} Tryz.checked os 8 .any (fun w args => (Rows.ctrlKindsSpec.pre enc Tryz.prog Tryz.f8 Rows.ctrlKindsRow.domain false w args ∧ laidMetH Tryz.prog Rows.ctrlKindsRow.laid w) ∧ sizedMet enc Tryz.prog Tryz.f8 (OpenSpec.ofChange Rows.ctrlKindsSpec) false w args)
      (Rows.ctrlKindsSpec.post enc Tryz.prog Tryz.f8 false true false false) := by
  refine returnsInHanded_of_change_and (C := Tryz.checked) (X := fun w _ => laidMetH Tryz.prog Rows.ctrlKindsRow.laid w) (fun _ _ _ hh h => h.of_heap hh) own started (by kernel_rfl) Tryz.func8
    (ChangeSpec.witness_shaped (enc := enc) (C := Tryz.checked) (os := os) (X := fun w _ => laidMetH Tryz.prog Rows.ctrlKindsRow.laid w) false (World.laidAll Tryz.prog os Rows.ctrlKindsRow.laid) #[.int .i64 0, .int .i64 0] 8 (World.laidAll_os _ _ _)
      (World.shaped_of_ZipB (by kernel_rfl) (by kernel_rfl)) (by kernel_rfl) (by kernel_rfl) (by kernel_rfl)
      (by rw [MakeChecks.laidMetH_plain _ _ _ (by kernel_rfl)]; exact laidMet_laidAll _ (by kernel_rfl) (by kernel_rfl))) ?_
  intro W base args ds gs before hval0 hW hc _ hL _
  have hval : ∀ (j : Nat) t v, Tryz.f8.params[j]? = some t → args[j]? = some v → Value.okWide Tryz.prog W .any base t v := hval0
  have hW' := hW
  obtain ⟨p, q, hA0, hV, rfl, _, _⟩ := hW
  have hA : DataW.TrodAll enc Tryz.prog W 0 (fun _ => true) true Tryz.f8.params.toList args.toList ds p := hA0
  rw [Tryz.params8] at hA hval
  obtain ⟨v0, v1, d0, d1, p0, p1, rfl, rfl, rfl, h0, h1⟩ := trodAll_two hA
  obtain ⟨a0, rfl, rfl, rfl, w0⟩ := open_int Tryz.underlying3 (hval 0 3 v0 rfl rfl) h0
  obtain ⟨a1, rfl, rfl, rfl, w1⟩ := open_int Tryz.underlying3 (hval 1 3 v1 rfl rfl) h1
  refine (ctrlKinds_walk a0 a1 W).mono fun e W' ⟨he, hb⟩ => ?_
  subst he
  refine ⟨_, rfl, post_true (rt := 4) fact2 rfl (by kernel_rfl) (by kernel_rfl) Tryz.underlying4 (fun ds h => ?_) hW' hb⟩
  rw [Tryz.params8] at h
  match ds, h with
  | [d0, d1], _ => rfl

theorem ctrlKinds_holds : Rows.CtrlKindsSaid :=
  OpenClaim.holds_of_wide 8 Tryz.f8 rfl rfl rfl rfl rfl rfl rfl ⟨rfl, rfl, rfl, rfl, rfl⟩ rfl rfl rfl rfl rfl (by kernel_rfl) Tryz.func8 ctrlKindsFacts
    (of_decide_eq_true (by kernel_rfl)) (by unfold Func.isWrapper; first | (rw [if_pos (by decide +kernel)]; kernel_rfl) | (rw [if_neg (by decide +kernel)]; exact ⟨rfl, rfl⟩))
    (fun os started H enc _ => ctrlKinds_lifted os started H enc)

theorem ctrlKinds_card : Rows.CtrlKindsCardSaid :=
  Claim7.holds_tied_plain_at .later [] [.data, .data, .data, .data, .sentinel, .sentinel, .pinned] true (true, "483385eb54e0030fc5f9026ddc43c86deb3096744d4447fb422ce54e6ef0bbf4") true
    ctrlKinds_holds (fun _ h => by cases h) (by kernel_rfl) (fun _ h => by cases h) ctrlKinds_row_tie rfl ⟨rfl, rfl⟩ (by kernel_rfl) rfl
    (fun f fn hf hfn => by
      obtain rfl : f = 8 := Option.some.inj ((show Tryz.prog.funcNamed "muleteer/muleteerlaw18.CtrlKinds" = some 8 by kernel_rfl).symm.trans hf) |>.symm
      obtain rfl : fn = Tryz.f8 := (Option.some.inj (Tryz.func8.symm.trans hfn)).symm
      exact ⟨by kernel_rfl, fun j t ht => by
        have hm : t ∈ Tryz.f8.params.toList := Array.mem_toList_iff.2 (Array.mem_of_getElem? ht)
        have hall : (Tryz.f8.params.toList.all fun u => !Tryz.prog.wantsStandIn u) = true := by kernel_rfl
        have h0 := List.all_eq_true.1 hall t hm
        exact (show Tryz.prog.wantsStandIn t = false by simpa using h0)⟩)
    (by kernel_rfl)
#print axioms ctrlKinds_card
end Go.Proofs.YtohonlojnflejaaGreatDoor
