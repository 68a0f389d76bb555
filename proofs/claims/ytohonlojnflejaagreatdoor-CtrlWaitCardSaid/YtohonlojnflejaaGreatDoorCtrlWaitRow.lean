/- CtrlWait: the row and its tied card: for every input the call returns true, and each argument reads afterwards as it read before. The listed package-level variables hold what the program's text lays. -/
import Derived.Test.YtohonlojnflejaaGreatDoorCtrlWait
import Derived.Test.YtohonlojnflejaaGreatDoorFacts
import Derived.Test.YtohonlojnflejaaGreatDoorMirClose
import Derived.Test.YtohonlojnflejaaGreatDoorMirArr
import Derived.Test.YtohonlojnflejaaGreatDoorCards
import Derived.Test.YtohonlojnflejaaGreatDoorTie
namespace Go.Proofs.YtohonlojnflejaaGreatDoor
open Go Go.Mir
open Go.ChangeShapes Go.WideShapes Go.ChangeAt Go.RowKit
set_option maxRecDepth 100000
theorem ctrlWaitOwn : ownKnob Tryz.prog.godebug = none := by kernel_rfl
theorem ctrlWaitFact1 : (Rows.ctrlWaitRow.wf (OpenSpec.ofChange Rows.ctrlWaitSpec)) = true := by kernel_rfl
theorem ctrlWaitFact4 : (Tryz.f13.params.all (Tryz.prog.readableRec ·)) = true := by kernel_rfl
theorem ctrlWaitFact5 : (namedTie Tryz.prog Rows.ctrlWaitRow.named Rows.ctrlWaitSpec.vars) = true := by kernel_rfl
theorem ctrlWaitFact6 : ((Rows.ctrlWaitRow.stops == [])) = true := by kernel_rfl
theorem ctrlWaitFact8 : ((Rows.ctrlWaitRow.knobs == [])) = true := by kernel_rfl
theorem ctrlWaitFact10 : ((Rows.ctrlWaitRow.inPlace == Tryz.prog.inPlace 13)) = true := by kernel_rfl
theorem ctrlWaitFact11 : ((Rows.ctrlWaitRow.unfollowed == Tryz.prog.unfollowed 13)) = true := by kernel_rfl
theorem ctrlWaitFact12 : ((Rows.ctrlWaitRow.recurses == Tryz.prog.recurses 13)) = true := by kernel_rfl
theorem ctrlWaitFact13 : ((Rows.ctrlWaitRow.named == Tryz.prog.varsNamed 13)) = true := by kernel_rfl
theorem ctrlWaitFact14 : ((Rows.ctrlWaitRow.maps == (Tryz.f13.params.toList ++ Rows.ctrlWaitSpec.plain.varTypes Tryz.prog).any (Tryz.prog.mapsRec ·))) = true := by kernel_rfl
theorem ctrlWaitFact15 : ((Rows.ctrlWaitRow.ifaces == (Tryz.f13.params.toList ++ Rows.ctrlWaitSpec.plain.varTypes Tryz.prog).any (Tryz.prog.ifacesRec ·))) = true := by kernel_rfl
theorem ctrlWaitFact16 : ((Rows.ctrlWaitRow.mapsOut == Tryz.prog.mapsAmong Tryz.f13.resultTypes.toList)) = true := by kernel_rfl
theorem ctrlWaitFact17 : ((Rows.ctrlWaitRow.loops == (Tryz.f13.params.toList ++ Rows.ctrlWaitSpec.plain.varTypes Tryz.prog).any (Tryz.prog.loopsFrom ·))) = true := by kernel_rfl
theorem ctrlWaitFact18 : ((Rows.ctrlWaitRow.wideKeys == (Tryz.f13.params.toList ++ Rows.ctrlWaitSpec.plain.varTypes Tryz.prog ++ Tryz.f13.resultTypes.toList).any (Tryz.prog.wideKeysFrom ·))) = true := by kernel_rfl
theorem ctrlWaitFact19 : (Rows.ctrlWaitSpec.vars.all (Tryz.prog.varReadable ·)) = true := by kernel_rfl
theorem ctrlWaitFact20 : (Tryz.f13.resultTypes.all (fun t => Tryz.prog.readableRec t && decide (t < Tryz.prog.types.size))) = true := by kernel_rfl
theorem ctrlWaitFact21 : ((Rows.ctrlWaitRow.ifacesOut == Tryz.f13.resultTypes.toList.any (Tryz.prog.ifacesRec ·))) = true := by kernel_rfl
theorem ctrlWaitFact22 : ((Rows.ctrlWaitRow.loopsOut == Tryz.f13.resultTypes.toList.any (Tryz.prog.loopsFrom ·))) = true := by kernel_rfl
theorem ctrlWaitFact23 : ((Rows.ctrlWaitRow.plainKeys == Tryz.prog.plainKeys)) = true := by kernel_rfl
theorem ctrlWaitFact24 : (Rows.ctrlWaitRow.shortTexts.isNone) = true := by kernel_rfl
theorem ctrlWaitFact27 : ((Rows.ctrlWaitRow.lifted == Tryz.prog.liftsFinal)) = true := by kernel_rfl
theorem ctrlWaitFact28 : ((Tryz.prog.make == some Rows.ctrlWaitRow.make)) = true := by kernel_rfl
theorem ctrlWaitFact29 : ((Rows.ctrlWaitRow.kinds == (if Rows.ctrlWaitRow.domain.isEmpty then [] else Tryz.f13.params.toList.map fun t => match Tryz.prog.underlying t with | some (.int k) => some k | _ => none))) = true := by kernel_rfl
theorem ctrlWaitFact30 : ((Rows.ctrlWaitRow.pinned == Rows.ctrlWaitRow.pinnedBy)) = true := by kernel_rfl
theorem ctrlWaitFact31 : ((Rows.ctrlWaitRow.veiled == (Tryz.f13.params.toList ++ Rows.ctrlWaitSpec.plain.varTypes Tryz.prog ++ Tryz.f13.resultTypes.toList).any (Tryz.prog.veiledRec ·))) = true := by kernel_rfl
theorem ctrlWaitFact32 : (Rows.ctrlWaitRow.veiledFits Tryz.prog Tryz.f13.params.toList (Tryz.f13.params.toList ++ Rows.ctrlWaitSpec.plain.varTypes Tryz.prog ++ Tryz.f13.resultTypes.toList)) = true := by kernel_rfl
theorem ctrlWaitFacts : joinedFacts Tryz.prog 13 Tryz.f13 Rows.ctrlWaitSpec Rows.ctrlWaitRow = true := Go.Mir.joinedFacts_each ctrlWaitFact1 fact2 fact3 ctrlWaitFact4 ctrlWaitFact5 ctrlWaitFact6 fact7 ctrlWaitFact8 fact9 ctrlWaitFact10 ctrlWaitFact11 ctrlWaitFact12 ctrlWaitFact13 ctrlWaitFact14 ctrlWaitFact15 ctrlWaitFact16 ctrlWaitFact17 ctrlWaitFact18 ctrlWaitFact19 ctrlWaitFact20 ctrlWaitFact21 ctrlWaitFact22 ctrlWaitFact23 ctrlWaitFact24 fact25 fact26 ctrlWaitFact27 ctrlWaitFact28 ctrlWaitFact29 ctrlWaitFact30 ctrlWaitFact31 ctrlWaitFact32

theorem ctrlWait_lifted (os : Os) (started : os.Started) (H : Type) (enc : TypeId × Value → H) :
    ReturnsInHanded {} Tryz.checked os 13 .any (fun w args => (Rows.ctrlWaitSpec.pre enc Tryz.prog Tryz.f13 Rows.ctrlWaitRow.domain false w args ∧ laidMetH Tryz.prog Rows.ctrlWaitRow.laid w) ∧ sizedMet enc Tryz.prog Tryz.f13 (OpenSpec.ofChange Rows.ctrlWaitSpec) false w args)
      (Rows.ctrlWaitSpec.post enc Tryz.prog Tryz.f13 false true false false) := by
  refine returnsInHanded_of_change_and (C := Tryz.checked) (X := fun w _ => laidMetH Tryz.prog Rows.ctrlWaitRow.laid w) (fun _ _ _ hh h => h.of_heap hh) ctrlWaitOwn started (by kernel_rfl) Tryz.func13
    (ChangeSpec.witness_shaped (enc := enc) (C := Tryz.checked) (os := os) (X := fun w _ => laidMetH Tryz.prog Rows.ctrlWaitRow.laid w) false (World.laidAll Tryz.prog os Rows.ctrlWaitRow.laid) #[.int .i64 0, .int .i64 0] 8 (World.laidAll_os _ _ _)
      (World.shaped_of_ZipB (by kernel_rfl) (by kernel_rfl)) (by kernel_rfl) (by kernel_rfl) (by kernel_rfl)
      (by rw [MakeChecks.laidMetH_plain _ _ _ (by kernel_rfl)]; exact laidMet_laidAll _ (by kernel_rfl) (by kernel_rfl))) ?_
  intro W base args ds gs before hval0 hW hc _ hL _
  have hval : ∀ (j : Nat) t v, Tryz.f13.params[j]? = some t → args[j]? = some v → Value.okWide Tryz.prog W .any base t v := hval0
  have hW' := hW
  obtain ⟨p, q, hA0, hV, rfl, _, _⟩ := hW
  have hA : DataW.TrodAll enc Tryz.prog W 0 (fun _ => true) true Tryz.f13.params.toList args.toList ds p := hA0
  rw [Tryz.params13] at hA hval
  obtain ⟨v0, l0, d0, b0, p0, q0, x0, y0, z0, h0, r0⟩ := trodAll_cons hA
  obtain ⟨v1, l1, d1, b1, p1, q1, x1, y1, z1, h1, r1⟩ := trodAll_cons r0
  obtain ⟨xn, _, _⟩ := trodAll_nil r1
  have hx : args.toList = [v0, v1] := by rw [x0, x1, xn]
  obtain ⟨a0, e0, _, _, w0⟩ := open_int Tryz.underlying3 (hval 0 3 v0 rfl (by rw [← Array.getElem?_toList, hx]; rfl)) h0
  obtain ⟨a1, e1, _, _, w1⟩ := open_int Tryz.underlying3 (hval 1 3 v1 rfl (by rw [← Array.getElem?_toList, hx]; rfl)) h1
  let σ : Val := ⟨fun i => match i with
    | 0 => a0
    | 1 => a1
    | _ => 0, fun f a b c => CtrlWait.stdApp f a b c, fun _ => (none, 0)⟩
  have hl : LiesOK ⟨W.heap.size, W, σ⟩ CtrlWait.dsc := ⟨(fun a D hd => by cases hd), fun a h => absurd h (Nat.lt_irrefl 0)⟩
  refine (CtrlWait.walk (w0 := W) (xs := args) (σ := σ) hl ⟨w0, w1⟩ ⟨fun _ _ _ => rfl, fun _ _ _ => rfl, fun _ _ _ => rfl, fun _ _ _ => rfl, fun _ _ _ => rfl, fun _ _ _ => rfl⟩ (by
    rw [hx]
    exact (.cons (VR_sx (e0.trans rfl)) (.cons (VR_sx (e1.trans rfl)) .nil)))).mono fun e W' ⟨he, hb⟩ => ?_
  subst he
  refine ⟨_, rfl, post_true (rt := 4) fact2 rfl (by kernel_rfl) (by kernel_rfl) Tryz.underlying4 (fun ds h => ?_) hW' hb⟩
  rw [Tryz.params13] at h
  match ds, h with
  | [d0, d1], _ => rfl

theorem ctrlWait_holds : Rows.CtrlWaitSaid :=
  OpenClaim.holds_of_wide 13 Tryz.f13 rfl rfl rfl rfl rfl rfl rfl ⟨rfl, rfl, rfl, rfl, rfl⟩ rfl rfl rfl rfl rfl (by kernel_rfl) Tryz.func13 ctrlWaitFacts
    (of_decide_eq_true (by kernel_rfl)) (by unfold Func.isWrapper; first | (rw [if_pos (by decide +kernel)]; kernel_rfl) | (rw [if_neg (by decide +kernel)]; exact ⟨rfl, rfl⟩))
    (fun os started H enc _ => ctrlWait_lifted os started H enc)

theorem ctrlWait_card : Rows.CtrlWaitCardSaid :=
  Claim7.holds_tied_plain_at .later [] [.data, .data, .data, .data, .sentinel, .sentinel, .pinned] true (true, "483385eb54e0030fc5f9026ddc43c86deb3096744d4447fb422ce54e6ef0bbf4") true
    ctrlWait_holds (fun _ h => by cases h) (by kernel_rfl) (fun _ h => by cases h) ctrlWait_row_tie rfl ⟨rfl, rfl⟩ (by kernel_rfl) rfl
    (fun f fn hf hfn => by
      obtain rfl : f = 13 := Option.some.inj ((show Tryz.prog.funcNamed "muleteer/muleteerlaw18.CtrlWait" = some 13 by kernel_rfl).symm.trans hf) |>.symm
      obtain rfl : fn = Tryz.f13 := (Option.some.inj (Tryz.func13.symm.trans hfn)).symm
      exact ⟨by kernel_rfl, fun j t ht => by
        have hm : t ∈ Tryz.f13.params.toList := Array.mem_toList_iff.2 (Array.mem_of_getElem? ht)
        have hall : (Tryz.f13.params.toList.all fun u => !Tryz.prog.wantsStandIn u) = true := by kernel_rfl
        have h0 := List.all_eq_true.1 hall t hm
        exact (show Tryz.prog.wantsStandIn t = false by simpa using h0)⟩)
    (by kernel_rfl)
#print axioms ctrlWait_card
end Go.Proofs.YtohonlojnflejaaGreatDoor
