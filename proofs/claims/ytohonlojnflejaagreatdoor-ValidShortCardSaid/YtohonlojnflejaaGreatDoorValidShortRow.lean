/- ValidShort: the row and its tied card: for every input the call returns true, and each argument reads afterwards as it read before. The listed package-level variables hold what the program's text lays. -/
import Derived.Test.YtohonlojnflejaaGreatDoorValidShort
import Derived.Test.YtohonlojnflejaaGreatDoorFacts
import Derived.Test.YtohonlojnflejaaGreatDoorMirClose
import Derived.Test.YtohonlojnflejaaGreatDoorMirArr
import Derived.Test.YtohonlojnflejaaGreatDoorCards
import Derived.Test.YtohonlojnflejaaGreatDoorTie
namespace Go.Proofs.YtohonlojnflejaaGreatDoor
open Go Go.Mir
open Go.ChangeShapes Go.WideShapes Go.ChangeAt Go.RowKit
set_option maxRecDepth 100000
theorem validShortOwn : ownKnob Tryz.prog.godebug = none := by kernel_rfl
theorem validShortFact1 : (Rows.validShortRow.wf (OpenSpec.ofChange Rows.validShortSpec)) = true := by kernel_rfl
theorem validShortFact4 : (Tryz.f7.params.all (Tryz.prog.readableRec ·)) = true := by kernel_rfl
theorem validShortFact5 : (namedTie Tryz.prog Rows.validShortRow.named Rows.validShortSpec.vars) = true := by kernel_rfl
theorem validShortFact6 : ((Rows.validShortRow.stops == [])) = true := by kernel_rfl
theorem validShortFact8 : ((Rows.validShortRow.knobs == [])) = true := by kernel_rfl
theorem validShortFact10 : ((Rows.validShortRow.inPlace == Tryz.prog.inPlace 7)) = true := by kernel_rfl
theorem validShortFact11 : ((Rows.validShortRow.unfollowed == Tryz.prog.unfollowed 7)) = true := by kernel_rfl
theorem validShortFact12 : ((Rows.validShortRow.recurses == Tryz.prog.recurses 7)) = true := by kernel_rfl
theorem validShortFact13 : ((Rows.validShortRow.named == Tryz.prog.varsNamed 7)) = true := by kernel_rfl
theorem validShortFact14 : ((Rows.validShortRow.maps == (Tryz.f7.params.toList ++ Rows.validShortSpec.plain.varTypes Tryz.prog).any (Tryz.prog.mapsRec ·))) = true := by kernel_rfl
theorem validShortFact15 : ((Rows.validShortRow.ifaces == (Tryz.f7.params.toList ++ Rows.validShortSpec.plain.varTypes Tryz.prog).any (Tryz.prog.ifacesRec ·))) = true := by kernel_rfl
theorem validShortFact16 : ((Rows.validShortRow.mapsOut == Tryz.prog.mapsAmong Tryz.f7.resultTypes.toList)) = true := by kernel_rfl
theorem validShortFact17 : ((Rows.validShortRow.loops == (Tryz.f7.params.toList ++ Rows.validShortSpec.plain.varTypes Tryz.prog).any (Tryz.prog.loopsFrom ·))) = true := by kernel_rfl
theorem validShortFact18 : ((Rows.validShortRow.wideKeys == (Tryz.f7.params.toList ++ Rows.validShortSpec.plain.varTypes Tryz.prog ++ Tryz.f7.resultTypes.toList).any (Tryz.prog.wideKeysFrom ·))) = true := by kernel_rfl
theorem validShortFact19 : (Rows.validShortSpec.vars.all (Tryz.prog.varReadable ·)) = true := by kernel_rfl
theorem validShortFact20 : (Tryz.f7.resultTypes.all (fun t => Tryz.prog.readableRec t && decide (t < Tryz.prog.types.size))) = true := by kernel_rfl
theorem validShortFact21 : ((Rows.validShortRow.ifacesOut == Tryz.f7.resultTypes.toList.any (Tryz.prog.ifacesRec ·))) = true := by kernel_rfl
theorem validShortFact22 : ((Rows.validShortRow.loopsOut == Tryz.f7.resultTypes.toList.any (Tryz.prog.loopsFrom ·))) = true := by kernel_rfl
theorem validShortFact23 : ((Rows.validShortRow.plainKeys == Tryz.prog.plainKeys)) = true := by kernel_rfl
theorem validShortFact24 : (Rows.validShortRow.shortTexts.isNone) = true := by kernel_rfl
theorem validShortFact27 : ((Rows.validShortRow.lifted == Tryz.prog.liftsFinal)) = true := by kernel_rfl
theorem validShortFact28 : ((Tryz.prog.make == some Rows.validShortRow.make)) = true := by kernel_rfl
theorem validShortFact29 : ((Rows.validShortRow.kinds == (if Rows.validShortRow.domain.isEmpty then [] else Tryz.f7.params.toList.map fun t => match Tryz.prog.underlying t with | some (.int k) => some k | _ => none))) = true := by kernel_rfl
theorem validShortFact30 : ((Rows.validShortRow.pinned == Rows.validShortRow.pinnedBy)) = true := by kernel_rfl
theorem validShortFact31 : ((Rows.validShortRow.veiled == (Tryz.f7.params.toList ++ Rows.validShortSpec.plain.varTypes Tryz.prog ++ Tryz.f7.resultTypes.toList).any (Tryz.prog.veiledRec ·))) = true := by kernel_rfl
theorem validShortFact32 : (Rows.validShortRow.veiledFits Tryz.prog Tryz.f7.params.toList (Tryz.f7.params.toList ++ Rows.validShortSpec.plain.varTypes Tryz.prog ++ Tryz.f7.resultTypes.toList)) = true := by kernel_rfl
theorem validShortFacts : joinedFacts Tryz.prog 7 Tryz.f7 Rows.validShortSpec Rows.validShortRow = true := Go.Mir.joinedFacts_each validShortFact1 fact2 fact3 validShortFact4 validShortFact5 validShortFact6 fact7 validShortFact8 fact9 validShortFact10 validShortFact11 validShortFact12 validShortFact13 validShortFact14 validShortFact15 validShortFact16 validShortFact17 validShortFact18 validShortFact19 validShortFact20 validShortFact21 validShortFact22 validShortFact23 validShortFact24 fact25 fact26 validShortFact27 validShortFact28 validShortFact29 validShortFact30 validShortFact31 validShortFact32

theorem validShort_lifted (os : Os) (started : os.Started) (H : Type) (enc : TypeId × Value → H) :
    ReturnsInHanded {} Tryz.checked os 7 .any (fun w args => (Rows.validShortSpec.pre enc Tryz.prog Tryz.f7 Rows.validShortRow.domain false w args ∧ laidMetH Tryz.prog Rows.validShortRow.laid w) ∧ sizedMet enc Tryz.prog Tryz.f7 (OpenSpec.ofChange Rows.validShortSpec) false w args)
      (Rows.validShortSpec.post enc Tryz.prog Tryz.f7 false true false false) := by
  refine returnsInHanded_of_change_and (C := Tryz.checked) (X := fun w _ => laidMetH Tryz.prog Rows.validShortRow.laid w) (fun _ _ _ hh h => h.of_heap hh) validShortOwn started (by kernel_rfl) Tryz.func7
    (ChangeSpec.witness_shaped (enc := enc) (C := Tryz.checked) (os := os) (X := fun w _ => laidMetH Tryz.prog Rows.validShortRow.laid w) false (World.laidAll Tryz.prog os Rows.validShortRow.laid) #[.agg #[.int .i64 0, .int .u64 0, .int .u64 0, .int .u64 0, .int .u64 0, .int .u64 0, .int .i64 0, .int .i64 0], .int .i64 0, .int .i64 0, .int .i64 0] 8 (World.laidAll_os _ _ _)
      (World.shaped_of_ZipB (by kernel_rfl) (by kernel_rfl)) (by kernel_rfl) (by kernel_rfl) (by kernel_rfl)
      (by rw [MakeChecks.laidMetH_plain _ _ _ (by kernel_rfl)]; exact laidMet_laidAll _ (by kernel_rfl) (by kernel_rfl))) ?_
  intro W base args ds gs before hval0 hW hc _ hL _
  have hval : ∀ (j : Nat) t v, Tryz.f7.params[j]? = some t → args[j]? = some v → Value.okWide Tryz.prog W .any base t v := hval0
  have hW' := hW
  obtain ⟨p, q, hA0, hV, rfl, _, _⟩ := hW
  have hA : DataW.TrodAll enc Tryz.prog W 0 (fun _ => true) true Tryz.f7.params.toList args.toList ds p := hA0
  rw [Tryz.params7] at hA hval
  obtain ⟨v0, l0, d0, b0, p0, q0, x0, y0, z0, h0, r0⟩ := trodAll_cons hA
  obtain ⟨v1, l1, d1, b1, p1, q1, x1, y1, z1, h1, r1⟩ := trodAll_cons r0
  obtain ⟨v2, l2, d2, b2, p2, q2, x2, y2, z2, h2, r2⟩ := trodAll_cons r1
  obtain ⟨v3, l3, d3, b3, p3, q3, x3, y3, z3, h3, r3⟩ := trodAll_cons r2
  obtain ⟨xn, _, _⟩ := trodAll_nil r3
  have hx : args.toList = [v0, v1, v2, v3] := by rw [x0, x1, x2, x3, xn]
  have el0 : ElemOK H enc Tryz.prog W 0 (fun _ => true) true 45 [.int .i64, .int .u64, .int .u64, .int .u64, .int .u64, .int .u64, .int .i64, .int .i64] := elem_struct (by kernel_rfl) (by decide) Tryz.underlying45 (fun k c hk => match k, c, hk with
    | 0, _, rfl => ⟨_, rfl, rfl, by kernel_rfl, Tryz.underlying3⟩
    | 1, _, rfl => ⟨_, rfl, rfl, by kernel_rfl, Tryz.underlying26⟩
    | 2, _, rfl => ⟨_, rfl, rfl, by kernel_rfl, Tryz.underlying26⟩
    | 3, _, rfl => ⟨_, rfl, rfl, by kernel_rfl, Tryz.underlying26⟩
    | 4, _, rfl => ⟨_, rfl, rfl, by kernel_rfl, Tryz.underlying26⟩
    | 5, _, rfl => ⟨_, rfl, rfl, by kernel_rfl, Tryz.underlying26⟩
    | 6, _, rfl => ⟨_, rfl, rfl, by kernel_rfl, Tryz.underlying3⟩
    | 7, _, rfl => ⟨_, rfl, rfl, by kernel_rfl, Tryz.underlying3⟩)
  obtain ⟨cs0, f0, e0, s0, w0⟩ := open_flat el0 (okWide_struct Tryz.underlying45 (hval 0 45 v0 rfl (by rw [← Array.getElem?_toList, hx]; rfl))) h0
  obtain ⟨a1, e1, _, _, w1⟩ := open_int Tryz.underlying3 (hval 1 3 v1 rfl (by rw [← Array.getElem?_toList, hx]; rfl)) h1
  obtain ⟨a2, e2, _, _, w2⟩ := open_int Tryz.underlying2 (hval 2 2 v2 rfl (by rw [← Array.getElem?_toList, hx]; rfl)) h2
  obtain ⟨a3, e3, _, _, w3⟩ := open_int Tryz.underlying2 (hval 3 2 v3 rfl (by rw [← Array.getElem?_toList, hx]; rfl)) h3
  let σ : Val := ⟨fun i => match i with
    | 0 => f0 0
    | 1 => f0 1
    | 2 => f0 2
    | 3 => f0 3
    | 4 => f0 4
    | 5 => f0 5
    | 6 => f0 6
    | 7 => f0 7
    | 8 => a1
    | 9 => a2
    | 10 => a3
    | _ => 0, fun f a b c => ValidShort.stdApp f a b c, fun _ => (none, 0)⟩
  have hl : LiesOK ⟨W.heap.size, W, σ⟩ ValidShort.dsc := ⟨(fun a D hd => by cases hd), fun a h => absurd h (Nat.lt_irrefl 0)⟩
  have fl0 : ∀ k, k < 8 → σ.v (0 + k) = f0 k := fun k hk => match k, hk with
    | 0, _ => rfl
    | 1, _ => rfl
    | 2, _ => rfl
    | 3, _ => rfl
    | 4, _ => rfl
    | 5, _ => rfl
    | 6, _ => rfl
    | 7, _ => rfl
  refine (ValidShort.walk (w0 := W) (xs := args) (σ := σ) hl ⟨(let ⟨_, _, h⟩ := w0 0 _ rfl; h.2), (let ⟨_, _, h⟩ := w0 1 _ rfl; h.2), (let ⟨_, _, h⟩ := w0 2 _ rfl; h.2), (let ⟨_, _, h⟩ := w0 3 _ rfl; h.2), (let ⟨_, _, h⟩ := w0 4 _ rfl; h.2), (let ⟨_, _, h⟩ := w0 5 _ rfl; h.2), (let ⟨_, _, h⟩ := w0 6 _ rfl; h.2), (let ⟨_, _, h⟩ := w0 7 _ rfl; h.2), w1, w2, w3⟩ (by
    rw [hx]
    exact (.cons (by rw [e0]; exact flat_VR (b := 0) s0 w0 fl0) (.cons (VR_sx (e1.trans rfl)) (.cons (VR_sx (e2.trans rfl)) (.cons (VR_sx (e3.trans rfl)) .nil)))))).mono fun e W' ⟨he, hb⟩ => ?_
  subst he
  refine ⟨_, rfl, post_true (rt := 4) fact2 rfl (by kernel_rfl) (by kernel_rfl) Tryz.underlying4 (fun ds h => ?_) hW' hb⟩
  rw [Tryz.params7] at h
  match ds, h with
  | [d0, d1, d2, d3], _ => rfl

theorem validShort_holds : Rows.ValidShortSaid :=
  OpenClaim.holds_of_wide 7 Tryz.f7 rfl rfl rfl rfl rfl rfl rfl ⟨rfl, rfl, rfl, rfl, rfl⟩ rfl rfl rfl rfl rfl (by kernel_rfl) Tryz.func7 validShortFacts
    (of_decide_eq_true (by kernel_rfl)) (by unfold Func.isWrapper; first | (rw [if_pos (by decide +kernel)]; kernel_rfl) | (rw [if_neg (by decide +kernel)]; exact ⟨rfl, rfl⟩))
    (fun os started H enc _ => validShort_lifted os started H enc)

theorem validShort_card : Rows.ValidShortCardSaid :=
  Claim7.holds_tied_plain_at .later [] [.data, .data, .data, .data, .sentinel, .sentinel, .pinned] true (true, "483385eb54e0030fc5f9026ddc43c86deb3096744d4447fb422ce54e6ef0bbf4") true
    validShort_holds (fun _ h => by cases h) (by kernel_rfl) (fun _ h => by cases h) validShort_row_tie rfl ⟨rfl, rfl⟩ (by kernel_rfl) rfl
    (fun f fn hf hfn => by
      obtain rfl : f = 7 := Option.some.inj ((show Tryz.prog.funcNamed "muleteer/muleteerlaw18.ValidShort" = some 7 by kernel_rfl).symm.trans hf) |>.symm
      obtain rfl : fn = Tryz.f7 := (Option.some.inj (Tryz.func7.symm.trans hfn)).symm
      exact ⟨by kernel_rfl, fun j t ht => by
        have hm : t ∈ Tryz.f7.params.toList := Array.mem_toList_iff.2 (Array.mem_of_getElem? ht)
        have hall : (Tryz.f7.params.toList.all fun u => !Tryz.prog.wantsStandIn u) = true := by kernel_rfl
        have h0 := List.all_eq_true.1 hall t hm
        exact (show Tryz.prog.wantsStandIn t = false by simpa using h0)⟩)
    (by kernel_rfl)
#print axioms validShort_card
end Go.Proofs.YtohonlojnflejaaGreatDoor
