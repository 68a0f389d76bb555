/- PaceAll: the row and its tied card: for every input the call returns true, and each argument reads afterwards as it read before. The listed package-level variables hold what the program's text lays. -/
import Derived.Test.YtohonlojnflejaaGreatDoorPaceAll
import Derived.Test.YtohonlojnflejaaGreatDoorFacts
import Derived.Test.YtohonlojnflejaaGreatDoorMirClose
import Derived.Test.YtohonlojnflejaaGreatDoorMirArr
import Derived.Test.YtohonlojnflejaaGreatDoorCards
import Derived.Test.YtohonlojnflejaaGreatDoorTie
namespace Go.Proofs.YtohonlojnflejaaGreatDoor
open Go Go.Mir
open Go.ChangeShapes Go.WideShapes Go.ChangeAt Go.RowKit
set_option maxRecDepth 100000
theorem paceAllOwn : ownKnob Tryz.prog.godebug = none := by kernel_rfl
theorem paceAllFact1 : (Rows.paceAllRow.wf (OpenSpec.ofChange Rows.paceAllSpec)) = true := by kernel_rfl
theorem paceAllFact4 : (Tryz.f14.params.all (Tryz.prog.readableRec ·)) = true := by kernel_rfl
theorem paceAllFact5 : (namedTie Tryz.prog Rows.paceAllRow.named Rows.paceAllSpec.vars) = true := by kernel_rfl
theorem paceAllFact6 : ((Rows.paceAllRow.stops == [])) = true := by kernel_rfl
theorem paceAllFact8 : ((Rows.paceAllRow.knobs == [])) = true := by kernel_rfl
theorem paceAllFact10 : ((Rows.paceAllRow.inPlace == Tryz.prog.inPlace 14)) = true := by kernel_rfl
theorem paceAllFact11 : ((Rows.paceAllRow.unfollowed == Tryz.prog.unfollowed 14)) = true := by kernel_rfl
theorem paceAllFact12 : ((Rows.paceAllRow.recurses == Tryz.prog.recurses 14)) = true := by kernel_rfl
theorem paceAllFact13 : ((Rows.paceAllRow.named == Tryz.prog.varsNamed 14)) = true := by kernel_rfl
theorem paceAllFact14 : ((Rows.paceAllRow.maps == (Tryz.f14.params.toList ++ Rows.paceAllSpec.plain.varTypes Tryz.prog).any (Tryz.prog.mapsRec ·))) = true := by kernel_rfl
theorem paceAllFact15 : ((Rows.paceAllRow.ifaces == (Tryz.f14.params.toList ++ Rows.paceAllSpec.plain.varTypes Tryz.prog).any (Tryz.prog.ifacesRec ·))) = true := by kernel_rfl
theorem paceAllFact16 : ((Rows.paceAllRow.mapsOut == Tryz.prog.mapsAmong Tryz.f14.resultTypes.toList)) = true := by kernel_rfl
theorem paceAllFact17 : ((Rows.paceAllRow.loops == (Tryz.f14.params.toList ++ Rows.paceAllSpec.plain.varTypes Tryz.prog).any (Tryz.prog.loopsFrom ·))) = true := by kernel_rfl
theorem paceAllFact18 : ((Rows.paceAllRow.wideKeys == (Tryz.f14.params.toList ++ Rows.paceAllSpec.plain.varTypes Tryz.prog ++ Tryz.f14.resultTypes.toList).any (Tryz.prog.wideKeysFrom ·))) = true := by kernel_rfl
theorem paceAllFact19 : (Rows.paceAllSpec.vars.all (Tryz.prog.varReadable ·)) = true := by kernel_rfl
theorem paceAllFact20 : (Tryz.f14.resultTypes.all (fun t => Tryz.prog.readableRec t && decide (t < Tryz.prog.types.size))) = true := by kernel_rfl
theorem paceAllFact21 : ((Rows.paceAllRow.ifacesOut == Tryz.f14.resultTypes.toList.any (Tryz.prog.ifacesRec ·))) = true := by kernel_rfl
theorem paceAllFact22 : ((Rows.paceAllRow.loopsOut == Tryz.f14.resultTypes.toList.any (Tryz.prog.loopsFrom ·))) = true := by kernel_rfl
theorem paceAllFact23 : ((Rows.paceAllRow.plainKeys == Tryz.prog.plainKeys)) = true := by kernel_rfl
theorem paceAllFact24 : (Rows.paceAllRow.shortTexts.isNone) = true := by kernel_rfl
theorem paceAllFact27 : ((Rows.paceAllRow.lifted == Tryz.prog.liftsFinal)) = true := by kernel_rfl
theorem paceAllFact28 : ((Tryz.prog.make == some Rows.paceAllRow.make)) = true := by kernel_rfl
theorem paceAllFact29 : ((Rows.paceAllRow.kinds == (if Rows.paceAllRow.domain.isEmpty then [] else Tryz.f14.params.toList.map fun t => match Tryz.prog.underlying t with | some (.int k) => some k | _ => none))) = true := by kernel_rfl
theorem paceAllFact30 : ((Rows.paceAllRow.pinned == Rows.paceAllRow.pinnedBy)) = true := by kernel_rfl
theorem paceAllFact31 : ((Rows.paceAllRow.veiled == (Tryz.f14.params.toList ++ Rows.paceAllSpec.plain.varTypes Tryz.prog ++ Tryz.f14.resultTypes.toList).any (Tryz.prog.veiledRec ·))) = true := by kernel_rfl
theorem paceAllFact32 : (Rows.paceAllRow.veiledFits Tryz.prog Tryz.f14.params.toList (Tryz.f14.params.toList ++ Rows.paceAllSpec.plain.varTypes Tryz.prog ++ Tryz.f14.resultTypes.toList)) = true := by kernel_rfl
theorem paceAllFacts : joinedFacts Tryz.prog 14 Tryz.f14 Rows.paceAllSpec Rows.paceAllRow = true := Go.Mir.joinedFacts_each paceAllFact1 fact2 fact3 paceAllFact4 paceAllFact5 paceAllFact6 fact7 paceAllFact8 fact9 paceAllFact10 paceAllFact11 paceAllFact12 paceAllFact13 paceAllFact14 paceAllFact15 paceAllFact16 paceAllFact17 paceAllFact18 paceAllFact19 paceAllFact20 paceAllFact21 paceAllFact22 paceAllFact23 paceAllFact24 fact25 fact26 paceAllFact27 paceAllFact28 paceAllFact29 paceAllFact30 paceAllFact31 paceAllFact32

theorem paceAll_lifted (os : Os) (started : os.Started) (H : Type) (enc : TypeId × Value → H) :
    ReturnsInHanded {} Tryz.checked os 14 .any (fun w args => (Rows.paceAllSpec.pre enc Tryz.prog Tryz.f14 Rows.paceAllRow.domain false w args ∧ laidMetH Tryz.prog Rows.paceAllRow.laid w) ∧ sizedMet enc Tryz.prog Tryz.f14 (OpenSpec.ofChange Rows.paceAllSpec) false w args)
      (Rows.paceAllSpec.post enc Tryz.prog Tryz.f14 false true false false) := by
  refine returnsInHanded_of_change_and (C := Tryz.checked) (X := fun w _ => laidMetH Tryz.prog Rows.paceAllRow.laid w) (fun _ _ _ hh h => h.of_heap hh) paceAllOwn started (by kernel_rfl) Tryz.func14
    (ChangeSpec.witness_shaped (enc := enc) (C := Tryz.checked) (os := os) (X := fun w _ => laidMetH Tryz.prog Rows.paceAllRow.laid w) false (World.laidAll Tryz.prog os Rows.paceAllRow.laid) #[.int .i64 0, .int .i64 0, .slice none 0 0] 8 (World.laidAll_os _ _ _)
      (World.shaped_of_ZipB (by kernel_rfl) (by kernel_rfl)) (by kernel_rfl) (by kernel_rfl) (by kernel_rfl)
      (by rw [MakeChecks.laidMetH_plain _ _ _ (by kernel_rfl)]; exact laidMet_laidAll _ (by kernel_rfl) (by kernel_rfl))) ?_
  intro W base args ds gs before hval0 hW hc _ hL _
  have hval : ∀ (j : Nat) t v, Tryz.f14.params[j]? = some t → args[j]? = some v → Value.okWide Tryz.prog W .any base t v := hval0
  have hW' := hW
  obtain ⟨p, q, hA0, hV, rfl, _, _⟩ := hW
  have hA : DataW.TrodAll enc Tryz.prog W 0 (fun _ => true) true Tryz.f14.params.toList args.toList ds p := hA0
  rw [Tryz.params14] at hA hval
  obtain ⟨v0, l0, d0, b0, p0, q0, x0, y0, z0, h0, r0⟩ := trodAll_cons hA
  obtain ⟨v1, l1, d1, b1, p1, q1, x1, y1, z1, h1, r1⟩ := trodAll_cons r0
  obtain ⟨v2, l2, d2, b2, p2, q2, x2, y2, z2, h2, r2⟩ := trodAll_cons r1
  obtain ⟨xn, _, _⟩ := trodAll_nil r2
  have hx : args.toList = [v0, v1, v2] := by rw [x0, x1, x2, xn]
  obtain ⟨a0, e0, _, _, w0⟩ := open_int Tryz.underlying3 (hval 0 3 v0 rfl (by rw [← Array.getElem?_toList, hx]; rfl)) h0
  obtain ⟨a1, e1, _, _, w1⟩ := open_int Tryz.underlying2 (hval 1 2 v1 rfl (by rw [← Array.getElem?_toList, hx]; rfl)) h1
  have el2 : ElemOK H enc Tryz.prog W 0 (fun _ => true) true 81 [.int .i64, .int .i64, .int .u64, .int .i64] := elem_struct (by kernel_rfl) (by decide) Tryz.underlying81 (fun k c hk => match k, c, hk with
    | 0, _, rfl => ⟨_, rfl, rfl, by kernel_rfl, Tryz.underlying3⟩
    | 1, _, rfl => ⟨_, rfl, rfl, by kernel_rfl, Tryz.underlying3⟩
    | 2, _, rfl => ⟨_, rfl, rfl, by kernel_rfl, Tryz.underlying26⟩
    | 3, _, rfl => ⟨_, rfl, rfl, by kernel_rfl, Tryz.underlying2⟩)
  obtain ⟨ad2, ln2, cp2, f2, e2, le2, li2, ar2⟩ := open_arr Tryz.underlying75 el2 (fun cs hc => by
    obtain ⟨_, _, _, hs⟩ := okWide_slice Tryz.underlying75 (hval 2 75 v2 rfl (by rw [← Array.getElem?_toList, hx]; rfl))
    rw [hs] at hc; cases hc) h2
  let σ : Val := ⟨fun i => match i with
    | 0 => a0
    | 1 => a1
    | 2 => (ln2 : Int)
    | _ => 0, fun f a b c => match f with
    | 100 => f2 a b
    | f => PaceAll.stdApp f a b c, fun a => match a with
    | 0 => (ad2, ln2)
    | _ => (none, 0)⟩
  have hl : LiesOK ⟨W.heap.size, W, σ⟩ PaceAll.dsc := ⟨fun a D hd => match a, D, hd with
    | 0, _, rfl => by
      intro a ha h0
      obtain ⟨vs, ty, fr, g1, g2⟩ := ar2 a ha h0
      exact ⟨(Array.getElem?_eq_some_iff.1 g1).1, vs, ty, fr, g1, fun i hi k c hk => let ⟨x, hx1, hx2⟩ := g2 i hi k c hk; ⟨x, hx1, cellNum_ok (σ := σ) hx2⟩⟩
, fun a => match a with
    | 0 => fun h => li2 h
    | 1 => fun h => absurd h (Nat.lt_irrefl 0)
    | n + 2 => fun h => absurd h (Nat.lt_irrefl 0)⟩
  refine (PaceAll.walk (w0 := W) (xs := args) (σ := σ) hl ⟨w0, w1, arr_nums le2 li2 ar2 (fun _ _ => rfl)⟩ ⟨fun _ _ _ => rfl, fun _ _ _ => rfl, fun _ _ _ => rfl, fun _ _ _ => rfl⟩ (by
    rw [hx]
    exact (.cons (VR_sx (e0.trans rfl)) (.cons (VR_sx (e1.trans rfl)) (.cons (VR_usl (e2.trans rfl) rfl) .nil))))).mono fun e W' ⟨he, hb⟩ => ?_
  subst he
  refine ⟨_, rfl, post_true (rt := 4) fact2 rfl (by kernel_rfl) (by kernel_rfl) Tryz.underlying4 (fun ds h => ?_) hW' hb⟩
  rw [Tryz.params14] at h
  match ds, h with
  | [d0, d1, d2], _ => rfl

theorem paceAll_holds : Rows.PaceAllSaid :=
  OpenClaim.holds_of_wide 14 Tryz.f14 rfl rfl rfl rfl rfl rfl rfl ⟨rfl, rfl, rfl, rfl, rfl⟩ rfl rfl rfl rfl rfl (by kernel_rfl) Tryz.func14 paceAllFacts
    (of_decide_eq_true (by kernel_rfl)) (by unfold Func.isWrapper; first | (rw [if_pos (by decide +kernel)]; kernel_rfl) | (rw [if_neg (by decide +kernel)]; exact ⟨rfl, rfl⟩))
    (fun os started H enc _ => paceAll_lifted os started H enc)

theorem paceAll_card : Rows.PaceAllCardSaid :=
  Claim7.holds_tied_plain_at .later [] [.data, .data, .data, .data, .sentinel, .sentinel, .pinned] true (true, "483385eb54e0030fc5f9026ddc43c86deb3096744d4447fb422ce54e6ef0bbf4") true
    paceAll_holds (fun _ h => by cases h) (by kernel_rfl) (fun _ h => by cases h) paceAll_row_tie rfl ⟨rfl, rfl⟩ (by kernel_rfl) rfl
    (fun f fn hf hfn => by
      obtain rfl : f = 14 := Option.some.inj ((show Tryz.prog.funcNamed "muleteer/muleteerlaw18.PaceAll" = some 14 by kernel_rfl).symm.trans hf) |>.symm
      obtain rfl : fn = Tryz.f14 := (Option.some.inj (Tryz.func14.symm.trans hfn)).symm
      exact ⟨by kernel_rfl, fun j t ht => by
        have hm : t ∈ Tryz.f14.params.toList := Array.mem_toList_iff.2 (Array.mem_of_getElem? ht)
        have hall : (Tryz.f14.params.toList.all fun u => !Tryz.prog.wantsStandIn u) = true := by kernel_rfl
        have h0 := List.all_eq_true.1 hall t hm
        exact (show Tryz.prog.wantsStandIn t = false by simpa using h0)⟩)
    (by kernel_rfl)
#print axioms paceAll_card
end Go.Proofs.YtohonlojnflejaaGreatDoor
