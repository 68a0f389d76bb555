/- PaceFull: the row and its tied card: for every input the call returns true, and each argument reads afterwards as it read before. The listed package-level variables hold what the program's text lays. -/
import Derived.Test.YtohonlojnflejaaGreatDoorPaceFull
import Derived.Test.YtohonlojnflejaaGreatDoorFacts
import Derived.Test.YtohonlojnflejaaGreatDoorMirClose
import Derived.Test.YtohonlojnflejaaGreatDoorMirArr
import Derived.Test.YtohonlojnflejaaGreatDoorCards
import Derived.Test.YtohonlojnflejaaGreatDoorTie
namespace Go.Proofs.YtohonlojnflejaaGreatDoor
open Go Go.Mir
open Go.ChangeShapes Go.WideShapes Go.ChangeAt Go.RowKit
set_option maxRecDepth 100000
theorem paceFullOwn : ownKnob Tryz.prog.godebug = none := by kernel_rfl
theorem paceFullFact1 : (Rows.paceFullRow.wf (OpenSpec.ofChange Rows.paceFullSpec)) = true := by kernel_rfl
theorem paceFullFact4 : (Tryz.f10.params.all (Tryz.prog.readableRec ·)) = true := by kernel_rfl
theorem paceFullFact5 : (namedTie Tryz.prog Rows.paceFullRow.named Rows.paceFullSpec.vars) = true := by kernel_rfl
theorem paceFullFact6 : ((Rows.paceFullRow.stops == [])) = true := by kernel_rfl
theorem paceFullFact8 : ((Rows.paceFullRow.knobs == [])) = true := by kernel_rfl
theorem paceFullFact10 : ((Rows.paceFullRow.inPlace == Tryz.prog.inPlace 10)) = true := by kernel_rfl
theorem paceFullFact11 : ((Rows.paceFullRow.unfollowed == Tryz.prog.unfollowed 10)) = true := by kernel_rfl
theorem paceFullFact12 : ((Rows.paceFullRow.recurses == Tryz.prog.recurses 10)) = true := by kernel_rfl
theorem paceFullFact13 : ((Rows.paceFullRow.named == Tryz.prog.varsNamed 10)) = true := by kernel_rfl
theorem paceFullFact14 : ((Rows.paceFullRow.maps == (Tryz.f10.params.toList ++ Rows.paceFullSpec.plain.varTypes Tryz.prog).any (Tryz.prog.mapsRec ·))) = true := by kernel_rfl
theorem paceFullFact15 : ((Rows.paceFullRow.ifaces == (Tryz.f10.params.toList ++ Rows.paceFullSpec.plain.varTypes Tryz.prog).any (Tryz.prog.ifacesRec ·))) = true := by kernel_rfl
theorem paceFullFact16 : ((Rows.paceFullRow.mapsOut == Tryz.prog.mapsAmong Tryz.f10.resultTypes.toList)) = true := by kernel_rfl
theorem paceFullFact17 : ((Rows.paceFullRow.loops == (Tryz.f10.params.toList ++ Rows.paceFullSpec.plain.varTypes Tryz.prog).any (Tryz.prog.loopsFrom ·))) = true := by kernel_rfl
theorem paceFullFact18 : ((Rows.paceFullRow.wideKeys == (Tryz.f10.params.toList ++ Rows.paceFullSpec.plain.varTypes Tryz.prog ++ Tryz.f10.resultTypes.toList).any (Tryz.prog.wideKeysFrom ·))) = true := by kernel_rfl
theorem paceFullFact19 : (Rows.paceFullSpec.vars.all (Tryz.prog.varReadable ·)) = true := by kernel_rfl
theorem paceFullFact20 : (Tryz.f10.resultTypes.all (fun t => Tryz.prog.readableRec t && decide (t < Tryz.prog.types.size))) = true := by kernel_rfl
theorem paceFullFact21 : ((Rows.paceFullRow.ifacesOut == Tryz.f10.resultTypes.toList.any (Tryz.prog.ifacesRec ·))) = true := by kernel_rfl
theorem paceFullFact22 : ((Rows.paceFullRow.loopsOut == Tryz.f10.resultTypes.toList.any (Tryz.prog.loopsFrom ·))) = true := by kernel_rfl
theorem paceFullFact23 : ((Rows.paceFullRow.plainKeys == Tryz.prog.plainKeys)) = true := by kernel_rfl
theorem paceFullFact24 : (Rows.paceFullRow.shortTexts.isNone) = true := by kernel_rfl
theorem paceFullFact27 : ((Rows.paceFullRow.lifted == Tryz.prog.liftsFinal)) = true := by kernel_rfl
theorem paceFullFact28 : ((Tryz.prog.make == some Rows.paceFullRow.make)) = true := by kernel_rfl
theorem paceFullFact29 : ((Rows.paceFullRow.kinds == (if Rows.paceFullRow.domain.isEmpty then [] else Tryz.f10.params.toList.map fun t => match Tryz.prog.underlying t with | some (.int k) => some k | _ => none))) = true := by kernel_rfl
theorem paceFullFact30 : ((Rows.paceFullRow.pinned == Rows.paceFullRow.pinnedBy)) = true := by kernel_rfl
theorem paceFullFact31 : ((Rows.paceFullRow.veiled == (Tryz.f10.params.toList ++ Rows.paceFullSpec.plain.varTypes Tryz.prog ++ Tryz.f10.resultTypes.toList).any (Tryz.prog.veiledRec ·))) = true := by kernel_rfl
theorem paceFullFact32 : (Rows.paceFullRow.veiledFits Tryz.prog Tryz.f10.params.toList (Tryz.f10.params.toList ++ Rows.paceFullSpec.plain.varTypes Tryz.prog ++ Tryz.f10.resultTypes.toList)) = true := by kernel_rfl
theorem paceFullFacts : joinedFacts Tryz.prog 10 Tryz.f10 Rows.paceFullSpec Rows.paceFullRow = true := Go.Mir.joinedFacts_each paceFullFact1 fact2 fact3 paceFullFact4 paceFullFact5 paceFullFact6 fact7 paceFullFact8 fact9 paceFullFact10 paceFullFact11 paceFullFact12 paceFullFact13 paceFullFact14 paceFullFact15 paceFullFact16 paceFullFact17 paceFullFact18 paceFullFact19 paceFullFact20 paceFullFact21 paceFullFact22 paceFullFact23 paceFullFact24 fact25 fact26 paceFullFact27 paceFullFact28 paceFullFact29 paceFullFact30 paceFullFact31 paceFullFact32

theorem paceFull_lifted (os : Os) (started : os.Started) (H : Type) (enc : TypeId × Value → H) :
    ReturnsInHanded {} Tryz.checked os 10 .any (fun w args => (Rows.paceFullSpec.pre enc Tryz.prog Tryz.f10 Rows.paceFullRow.domain false w args ∧ laidMetH Tryz.prog Rows.paceFullRow.laid w) ∧ sizedMet enc Tryz.prog Tryz.f10 (OpenSpec.ofChange Rows.paceFullSpec) false w args)
      (Rows.paceFullSpec.post enc Tryz.prog Tryz.f10 false true false false) := by
  refine returnsInHanded_of_change_and (C := Tryz.checked) (X := fun w _ => laidMetH Tryz.prog Rows.paceFullRow.laid w) (fun _ _ _ hh h => h.of_heap hh) paceFullOwn started (by kernel_rfl) Tryz.func10
    (ChangeSpec.witness_shaped (enc := enc) (C := Tryz.checked) (os := os) (X := fun w _ => laidMetH Tryz.prog Rows.paceFullRow.laid w) false (World.laidAll Tryz.prog os Rows.paceFullRow.laid) #[.int .i64 0, .int .i64 0, .int .u64 0, .int .i64 0] 8 (World.laidAll_os _ _ _)
      (World.shaped_of_ZipB (by kernel_rfl) (by kernel_rfl)) (by kernel_rfl) (by kernel_rfl) (by kernel_rfl)
      (by rw [MakeChecks.laidMetH_plain _ _ _ (by kernel_rfl)]; exact laidMet_laidAll _ (by kernel_rfl) (by kernel_rfl))) ?_
  intro W base args ds gs before hval0 hW hc _ hL _
  have hval : ∀ (j : Nat) t v, Tryz.f10.params[j]? = some t → args[j]? = some v → Value.okWide Tryz.prog W .any base t v := hval0
  have hW' := hW
  obtain ⟨p, q, hA0, hV, rfl, _, _⟩ := hW
  have hA : DataW.TrodAll enc Tryz.prog W 0 (fun _ => true) true Tryz.f10.params.toList args.toList ds p := hA0
  rw [Tryz.params10] at hA hval
  obtain ⟨v0, l0, d0, b0, p0, q0, x0, y0, z0, h0, r0⟩ := trodAll_cons hA
  obtain ⟨v1, l1, d1, b1, p1, q1, x1, y1, z1, h1, r1⟩ := trodAll_cons r0
  obtain ⟨v2, l2, d2, b2, p2, q2, x2, y2, z2, h2, r2⟩ := trodAll_cons r1
  obtain ⟨v3, l3, d3, b3, p3, q3, x3, y3, z3, h3, r3⟩ := trodAll_cons r2
  obtain ⟨xn, _, _⟩ := trodAll_nil r3
  have hx : args.toList = [v0, v1, v2, v3] := by rw [x0, x1, x2, x3, xn]
  obtain ⟨a0, e0, _, _, w0⟩ := open_int Tryz.underlying3 (hval 0 3 v0 rfl (by rw [← Array.getElem?_toList, hx]; rfl)) h0
  obtain ⟨a1, e1, _, _, w1⟩ := open_int Tryz.underlying2 (hval 1 2 v1 rfl (by rw [← Array.getElem?_toList, hx]; rfl)) h1
  obtain ⟨a2, e2, _, _, w2⟩ := open_int Tryz.underlying26 (hval 2 26 v2 rfl (by rw [← Array.getElem?_toList, hx]; rfl)) h2
  obtain ⟨a3, e3, _, _, w3⟩ := open_int Tryz.underlying2 (hval 3 2 v3 rfl (by rw [← Array.getElem?_toList, hx]; rfl)) h3
  let σ : Val := ⟨fun i => match i with
    | 0 => a0
    | 1 => a1
    | 2 => a2
    | 3 => a3
    | _ => 0, fun f a b c => PaceFull.stdApp f a b c, fun _ => (none, 0)⟩
  have hl : LiesOK ⟨W.heap.size, W, σ⟩ PaceFull.dsc := ⟨(fun a D hd => by cases hd), fun a h => absurd h (Nat.lt_irrefl 0)⟩
  refine (PaceFull.walk (w0 := W) (xs := args) (σ := σ) hl ⟨w0, w1, w2, w3⟩ ⟨fun _ _ _ => rfl, fun _ _ _ => rfl, fun _ _ _ => rfl, fun _ _ _ => rfl⟩ (by
    rw [hx]
    exact (.cons (VR_sx (e0.trans rfl)) (.cons (VR_sx (e1.trans rfl)) (.cons (VR_sx (e2.trans rfl)) (.cons (VR_sx (e3.trans rfl)) .nil)))))).mono fun e W' ⟨he, hb⟩ => ?_
  subst he
  refine ⟨_, rfl, post_true (rt := 4) fact2 rfl (by kernel_rfl) (by kernel_rfl) Tryz.underlying4 (fun ds h => ?_) hW' hb⟩
  rw [Tryz.params10] at h
  match ds, h with
  | [d0, d1, d2, d3], _ => rfl

theorem paceFull_holds : Rows.PaceFullSaid :=
  OpenClaim.holds_of_wide 10 Tryz.f10 rfl rfl rfl rfl rfl rfl rfl ⟨rfl, rfl, rfl, rfl, rfl⟩ rfl rfl rfl rfl rfl (by kernel_rfl) Tryz.func10 paceFullFacts
    (of_decide_eq_true (by kernel_rfl)) (by unfold Func.isWrapper; first | (rw [if_pos (by decide +kernel)]; kernel_rfl) | (rw [if_neg (by decide +kernel)]; exact ⟨rfl, rfl⟩))
    (fun os started H enc _ => paceFull_lifted os started H enc)

theorem paceFull_card : Rows.PaceFullCardSaid :=
  Claim7.holds_tied_plain_at .later [] [.data, .data, .data, .data, .sentinel, .sentinel, .pinned] true (true, "483385eb54e0030fc5f9026ddc43c86deb3096744d4447fb422ce54e6ef0bbf4") true
    paceFull_holds (fun _ h => by cases h) (by kernel_rfl) (fun _ h => by cases h) paceFull_row_tie rfl ⟨rfl, rfl⟩ (by kernel_rfl) rfl
    (fun f fn hf hfn => by
      obtain rfl : f = 10 := Option.some.inj ((show Tryz.prog.funcNamed "muleteer/muleteerlaw18.PaceFull" = some 10 by kernel_rfl).symm.trans hf) |>.symm
      obtain rfl : fn = Tryz.f10 := (Option.some.inj (Tryz.func10.symm.trans hfn)).symm
      exact ⟨by kernel_rfl, fun j t ht => by
        have hm : t ∈ Tryz.f10.params.toList := Array.mem_toList_iff.2 (Array.mem_of_getElem? ht)
        have hall : (Tryz.f10.params.toList.all fun u => !Tryz.prog.wantsStandIn u) = true := by kernel_rfl
        have h0 := List.all_eq_true.1 hall t hm
        exact (show Tryz.prog.wantsStandIn t = false by simpa using h0)⟩)
    (by kernel_rfl)
#print axioms paceFull_card
end Go.Proofs.YtohonlojnflejaaGreatDoor
