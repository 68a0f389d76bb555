/- WinSlow: the row and its tied card: for every input the call returns true, and each argument reads afterwards as it read before. The listed package-level variables hold what the program's text lays. -/
import Derived.Test.YtohonlojnflejaaGreatDoorWinSlow
import Derived.Test.YtohonlojnflejaaGreatDoorFacts
import Derived.Test.YtohonlojnflejaaGreatDoorMirClose
import Derived.Test.YtohonlojnflejaaGreatDoorMirArr
import Derived.Test.YtohonlojnflejaaGreatDoorCards
import Derived.Test.YtohonlojnflejaaGreatDoorTie
namespace Go.Proofs.YtohonlojnflejaaGreatDoor
open Go Go.Mir
open Go.ChangeShapes Go.WideShapes Go.ChangeAt Go.RowKit
set_option maxRecDepth 100000
theorem winSlowOwn : ownKnob Tryz.prog.godebug = none := by kernel_rfl
theorem winSlowFact1 : (Rows.winSlowRow.wf (OpenSpec.ofChange Rows.winSlowSpec)) = true := by kernel_rfl
theorem winSlowFact4 : (Tryz.f3.params.all (Tryz.prog.readableRec ·)) = true := by kernel_rfl
theorem winSlowFact5 : (namedTie Tryz.prog Rows.winSlowRow.named Rows.winSlowSpec.vars) = true := by kernel_rfl
theorem winSlowFact6 : ((Rows.winSlowRow.stops == [])) = true := by kernel_rfl
theorem winSlowFact8 : ((Rows.winSlowRow.knobs == [])) = true := by kernel_rfl
theorem winSlowFact10 : ((Rows.winSlowRow.inPlace == Tryz.prog.inPlace 3)) = true := by kernel_rfl
theorem winSlowFact11 : ((Rows.winSlowRow.unfollowed == Tryz.prog.unfollowed 3)) = true := by kernel_rfl
theorem winSlowFact12 : ((Rows.winSlowRow.recurses == Tryz.prog.recurses 3)) = true := by kernel_rfl
theorem winSlowFact13 : ((Rows.winSlowRow.named == Tryz.prog.varsNamed 3)) = true := by kernel_rfl
theorem winSlowFact14 : ((Rows.winSlowRow.maps == (Tryz.f3.params.toList ++ Rows.winSlowSpec.plain.varTypes Tryz.prog).any (Tryz.prog.mapsRec ·))) = true := by kernel_rfl
theorem winSlowFact15 : ((Rows.winSlowRow.ifaces == (Tryz.f3.params.toList ++ Rows.winSlowSpec.plain.varTypes Tryz.prog).any (Tryz.prog.ifacesRec ·))) = true := by kernel_rfl
theorem winSlowFact16 : ((Rows.winSlowRow.mapsOut == Tryz.prog.mapsAmong Tryz.f3.resultTypes.toList)) = true := by kernel_rfl
theorem winSlowFact17 : ((Rows.winSlowRow.loops == (Tryz.f3.params.toList ++ Rows.winSlowSpec.plain.varTypes Tryz.prog).any (Tryz.prog.loopsFrom ·))) = true := by kernel_rfl
theorem winSlowFact18 : ((Rows.winSlowRow.wideKeys == (Tryz.f3.params.toList ++ Rows.winSlowSpec.plain.varTypes Tryz.prog ++ Tryz.f3.resultTypes.toList).any (Tryz.prog.wideKeysFrom ·))) = true := by kernel_rfl
theorem winSlowFact19 : (Rows.winSlowSpec.vars.all (Tryz.prog.varReadable ·)) = true := by kernel_rfl
theorem winSlowFact20 : (Tryz.f3.resultTypes.all (fun t => Tryz.prog.readableRec t && decide (t < Tryz.prog.types.size))) = true := by kernel_rfl
theorem winSlowFact21 : ((Rows.winSlowRow.ifacesOut == Tryz.f3.resultTypes.toList.any (Tryz.prog.ifacesRec ·))) = true := by kernel_rfl
theorem winSlowFact22 : ((Rows.winSlowRow.loopsOut == Tryz.f3.resultTypes.toList.any (Tryz.prog.loopsFrom ·))) = true := by kernel_rfl
theorem winSlowFact23 : ((Rows.winSlowRow.plainKeys == Tryz.prog.plainKeys)) = true := by kernel_rfl
theorem winSlowFact24 : (Rows.winSlowRow.shortTexts.isNone) = true := by kernel_rfl
theorem winSlowFact27 : ((Rows.winSlowRow.lifted == Tryz.prog.liftsFinal)) = true := by kernel_rfl
theorem winSlowFact28 : ((Tryz.prog.make == some Rows.winSlowRow.make)) = true := by kernel_rfl
theorem winSlowFact29 : ((Rows.winSlowRow.kinds == (if Rows.winSlowRow.domain.isEmpty then [] else Tryz.f3.params.toList.map fun t => match Tryz.prog.underlying t with | some (.int k) => some k | _ => none))) = true := by kernel_rfl
theorem winSlowFact30 : ((Rows.winSlowRow.pinned == Rows.winSlowRow.pinnedBy)) = true := by kernel_rfl
theorem winSlowFact31 : ((Rows.winSlowRow.veiled == (Tryz.f3.params.toList ++ Rows.winSlowSpec.plain.varTypes Tryz.prog ++ Tryz.f3.resultTypes.toList).any (Tryz.prog.veiledRec ·))) = true := by kernel_rfl
theorem winSlowFact32 : (Rows.winSlowRow.veiledFits Tryz.prog Tryz.f3.params.toList (Tryz.f3.params.toList ++ Rows.winSlowSpec.plain.varTypes Tryz.prog ++ Tryz.f3.resultTypes.toList)) = true := by kernel_rfl
theorem winSlowFacts : joinedFacts Tryz.prog 3 Tryz.f3 Rows.winSlowSpec Rows.winSlowRow = true := Go.Mir.joinedFacts_each winSlowFact1 fact2 fact3 winSlowFact4 winSlowFact5 winSlowFact6 fact7 winSlowFact8 fact9 winSlowFact10 winSlowFact11 winSlowFact12 winSlowFact13 winSlowFact14 winSlowFact15 winSlowFact16 winSlowFact17 winSlowFact18 winSlowFact19 winSlowFact20 winSlowFact21 winSlowFact22 winSlowFact23 winSlowFact24 fact25 fact26 winSlowFact27 winSlowFact28 winSlowFact29 winSlowFact30 winSlowFact31 winSlowFact32

theorem winSlow_lifted (os : Os) (started : os.Started) (H : Type) (enc : TypeId × Value → H) :
    ReturnsInHanded {} Tryz.checked os 3 .any (fun w args => (Rows.winSlowSpec.pre enc Tryz.prog Tryz.f3 Rows.winSlowRow.domain false w args ∧ laidMetH Tryz.prog Rows.winSlowRow.laid w) ∧ sizedMet enc Tryz.prog Tryz.f3 (OpenSpec.ofChange Rows.winSlowSpec) false w args)
      (Rows.winSlowSpec.post enc Tryz.prog Tryz.f3 false true false false) := by
  refine returnsInHanded_of_change_and (C := Tryz.checked) (X := fun w _ => laidMetH Tryz.prog Rows.winSlowRow.laid w) (fun _ _ _ hh h => h.of_heap hh) winSlowOwn started (by kernel_rfl) Tryz.func3
    (ChangeSpec.witness_shaped (enc := enc) (C := Tryz.checked) (os := os) (X := fun w _ => laidMetH Tryz.prog Rows.winSlowRow.laid w) false (World.laidAll Tryz.prog os Rows.winSlowRow.laid) #[.slice none 0 0] 8 (World.laidAll_os _ _ _)
      (World.shaped_of_ZipB (by kernel_rfl) (by kernel_rfl)) (by kernel_rfl) (by kernel_rfl) (by kernel_rfl)
      (by rw [MakeChecks.laidMetH_plain _ _ _ (by kernel_rfl)]; exact laidMet_laidAll _ (by kernel_rfl) (by kernel_rfl))) ?_
  intro W base args ds gs before hval0 hW hc _ hL _
  have hval : ∀ (j : Nat) t v, Tryz.f3.params[j]? = some t → args[j]? = some v → Value.okWide Tryz.prog W .any base t v := hval0
  have hW' := hW
  obtain ⟨p, q, hA0, hV, rfl, _, _⟩ := hW
  have hA : DataW.TrodAll enc Tryz.prog W 0 (fun _ => true) true Tryz.f3.params.toList args.toList ds p := hA0
  rw [Tryz.params3] at hA hval
  obtain ⟨v0, l0, d0, b0, p0, q0, x0, y0, z0, h0, r0⟩ := trodAll_cons hA
  obtain ⟨xn, _, _⟩ := trodAll_nil r0
  have hx : args.toList = [v0] := by rw [x0, xn]
  have el0 : ElemOK H enc Tryz.prog W 0 (fun _ => true) true 3 [.int .i64] := elem_one (by kernel_rfl) Tryz.underlying3
  obtain ⟨ad0, ln0, cp0, f0, e0, le0, li0, ar0⟩ := open_arr Tryz.underlying22 el0 (fun cs hc => by
    obtain ⟨_, _, _, hs⟩ := okWide_slice Tryz.underlying22 (hval 0 22 v0 rfl (by rw [← Array.getElem?_toList, hx]; rfl))
    rw [hs] at hc; cases hc) h0
  let σ : Val := ⟨fun i => match i with
    | 0 => (ln0 : Int)
    | _ => 0, fun f a b c => match f with
    | 100 => f0 a b
    | f => WinSlow.stdApp f a b c, fun a => match a with
    | 0 => (ad0, ln0)
    | _ => (none, 0)⟩
  have hl : LiesOK ⟨W.heap.size, W, σ⟩ WinSlow.dsc := ⟨fun a D hd => match a, D, hd with
    | 0, _, rfl => by
      intro a ha h0
      obtain ⟨vs, ty, fr, g1, g2⟩ := ar0 a ha h0
      exact ⟨(Array.getElem?_eq_some_iff.1 g1).1, vs, ty, fr, g1, fun i hi k c hk => let ⟨x, hx1, hx2⟩ := g2 i hi k c hk; ⟨x, hx1, cellNum_ok (σ := σ) hx2⟩⟩
, fun a => match a with
    | 0 => fun h => li0 h
    | 1 => fun h => absurd h (Nat.lt_irrefl 0)
    | n + 2 => fun h => absurd h (Nat.lt_irrefl 0)⟩
  refine (WinSlow.walk (w0 := W) (xs := args) (σ := σ) hl (arr_nums le0 li0 ar0 (fun _ _ => rfl)) (by
    rw [hx]
    exact (.cons (by rw [e0]; simp only [VR, SE.eval]; exact ⟨_, rfl, rfl⟩) .nil))).mono fun e W' ⟨he, hb⟩ => ?_
  subst he
  refine ⟨_, rfl, post_true (rt := 4) fact2 rfl (by kernel_rfl) (by kernel_rfl) Tryz.underlying4 (fun ds h => ?_) hW' hb⟩
  rw [Tryz.params3] at h
  match ds, h with
  | [d0], _ => rfl

theorem winSlow_holds : Rows.WinSlowSaid :=
  OpenClaim.holds_of_wide 3 Tryz.f3 rfl rfl rfl rfl rfl rfl rfl ⟨rfl, rfl, rfl, rfl, rfl⟩ rfl rfl rfl rfl rfl (by kernel_rfl) Tryz.func3 winSlowFacts
    (of_decide_eq_true (by kernel_rfl)) (by unfold Func.isWrapper; first | (rw [if_pos (by decide +kernel)]; kernel_rfl) | (rw [if_neg (by decide +kernel)]; exact ⟨rfl, rfl⟩))
    (fun os started H enc _ => winSlow_lifted os started H enc)

theorem winSlow_card : Rows.WinSlowCardSaid :=
  Claim7.holds_tied_plain_at .later [] [.data, .data, .data, .data, .sentinel, .sentinel, .pinned] true (true, "483385eb54e0030fc5f9026ddc43c86deb3096744d4447fb422ce54e6ef0bbf4") true
    winSlow_holds (fun _ h => by cases h) (by kernel_rfl) (fun _ h => by cases h) winSlow_row_tie rfl ⟨rfl, rfl⟩ (by kernel_rfl) rfl
    (fun f fn hf hfn => by
      obtain rfl : f = 3 := Option.some.inj ((show Tryz.prog.funcNamed "muleteer/muleteerlaw8.WinSlow" = some 3 by kernel_rfl).symm.trans hf) |>.symm
      obtain rfl : fn = Tryz.f3 := (Option.some.inj (Tryz.func3.symm.trans hfn)).symm
      exact ⟨by kernel_rfl, fun j t ht => by
        have hm : t ∈ Tryz.f3.params.toList := Array.mem_toList_iff.2 (Array.mem_of_getElem? ht)
        have hall : (Tryz.f3.params.toList.all fun u => !Tryz.prog.wantsStandIn u) = true := by kernel_rfl
        have h0 := List.all_eq_true.1 hall t hm
        exact (show Tryz.prog.wantsStandIn t = false by simpa using h0)⟩)
    (by kernel_rfl)
#print axioms winSlow_card
end Go.Proofs.YtohonlojnflejaaGreatDoor
