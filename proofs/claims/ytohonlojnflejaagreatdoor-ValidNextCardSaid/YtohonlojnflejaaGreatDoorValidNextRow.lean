/- ValidNext: the row and its tied card: for every input the call returns true, and each argument reads afterwards as it read before. The listed package-level variables hold what the program's text lays. -/
import Derived.Test.YtohonlojnflejaaGreatDoorValidNext
import Derived.Test.YtohonlojnflejaaGreatDoorFacts
import Derived.Test.YtohonlojnflejaaGreatDoorMirClose
import Derived.Test.YtohonlojnflejaaGreatDoorMirArr
import Derived.Test.YtohonlojnflejaaGreatDoorCards
import Derived.Test.YtohonlojnflejaaGreatDoorTie
namespace Go.Proofs.YtohonlojnflejaaGreatDoor
open Go Go.Mir
open Go.ChangeShapes Go.WideShapes Go.ChangeAt Go.RowKit
set_option maxRecDepth 100000
theorem validNextOwn : ownKnob Tryz.prog.godebug = none := by kernel_rfl
theorem validNextFact1 : (Rows.validNextRow.wf (OpenSpec.ofChange Rows.validNextSpec)) = true := by kernel_rfl
theorem validNextFact4 : (Tryz.f11.params.all (Tryz.prog.readableRec ·)) = true := by kernel_rfl
theorem validNextFact5 : (namedTie Tryz.prog Rows.validNextRow.named Rows.validNextSpec.vars) = true := by kernel_rfl
theorem validNextFact6 : ((Rows.validNextRow.stops == [])) = true := by kernel_rfl
theorem validNextFact8 : ((Rows.validNextRow.knobs == [])) = true := by kernel_rfl
theorem validNextFact10 : ((Rows.validNextRow.inPlace == Tryz.prog.inPlace 11)) = true := by kernel_rfl
theorem validNextFact11 : ((Rows.validNextRow.unfollowed == Tryz.prog.unfollowed 11)) = true := by kernel_rfl
theorem validNextFact12 : ((Rows.validNextRow.recurses == Tryz.prog.recurses 11)) = true := by kernel_rfl
theorem validNextFact13 : ((Rows.validNextRow.named == Tryz.prog.varsNamed 11)) = true := by kernel_rfl
theorem validNextFact14 : ((Rows.validNextRow.maps == (Tryz.f11.params.toList ++ Rows.validNextSpec.plain.varTypes Tryz.prog).any (Tryz.prog.mapsRec ·))) = true := by kernel_rfl
theorem validNextFact15 : ((Rows.validNextRow.ifaces == (Tryz.f11.params.toList ++ Rows.validNextSpec.plain.varTypes Tryz.prog).any (Tryz.prog.ifacesRec ·))) = true := by kernel_rfl
theorem validNextFact16 : ((Rows.validNextRow.mapsOut == Tryz.prog.mapsAmong Tryz.f11.resultTypes.toList)) = true := by kernel_rfl
theorem validNextFact17 : ((Rows.validNextRow.loops == (Tryz.f11.params.toList ++ Rows.validNextSpec.plain.varTypes Tryz.prog).any (Tryz.prog.loopsFrom ·))) = true := by kernel_rfl
theorem validNextFact18 : ((Rows.validNextRow.wideKeys == (Tryz.f11.params.toList ++ Rows.validNextSpec.plain.varTypes Tryz.prog ++ Tryz.f11.resultTypes.toList).any (Tryz.prog.wideKeysFrom ·))) = true := by kernel_rfl
theorem validNextFact19 : (Rows.validNextSpec.vars.all (Tryz.prog.varReadable ·)) = true := by kernel_rfl
theorem validNextFact20 : (Tryz.f11.resultTypes.all (fun t => Tryz.prog.readableRec t && decide (t < Tryz.prog.types.size))) = true := by kernel_rfl
theorem validNextFact21 : ((Rows.validNextRow.ifacesOut == Tryz.f11.resultTypes.toList.any (Tryz.prog.ifacesRec ·))) = true := by kernel_rfl
theorem validNextFact22 : ((Rows.validNextRow.loopsOut == Tryz.f11.resultTypes.toList.any (Tryz.prog.loopsFrom ·))) = true := by kernel_rfl
theorem validNextFact23 : ((Rows.validNextRow.plainKeys == Tryz.prog.plainKeys)) = true := by kernel_rfl
theorem validNextFact24 : (Rows.validNextRow.shortTexts.isNone) = true := by kernel_rfl
theorem validNextFact27 : ((Rows.validNextRow.lifted == Tryz.prog.liftsFinal)) = true := by kernel_rfl
theorem validNextFact28 : ((Tryz.prog.make == some Rows.validNextRow.make)) = true := by kernel_rfl
theorem validNextFact29 : ((Rows.validNextRow.kinds == (if Rows.validNextRow.domain.isEmpty then [] else Tryz.f11.params.toList.map fun t => match Tryz.prog.underlying t with | some (.int k) => some k | _ => none))) = true := by kernel_rfl
theorem validNextFact30 : ((Rows.validNextRow.pinned == Rows.validNextRow.pinnedBy)) = true := by kernel_rfl
theorem validNextFact31 : ((Rows.validNextRow.veiled == (Tryz.f11.params.toList ++ Rows.validNextSpec.plain.varTypes Tryz.prog ++ Tryz.f11.resultTypes.toList).any (Tryz.prog.veiledRec ·))) = true := by kernel_rfl
theorem validNextFact32 : (Rows.validNextRow.veiledFits Tryz.prog Tryz.f11.params.toList (Tryz.f11.params.toList ++ Rows.validNextSpec.plain.varTypes Tryz.prog ++ Tryz.f11.resultTypes.toList)) = true := by kernel_rfl
theorem validNextFacts : joinedFacts Tryz.prog 11 Tryz.f11 Rows.validNextSpec Rows.validNextRow = true := Go.Mir.joinedFacts_each validNextFact1 fact2 fact3 validNextFact4 validNextFact5 validNextFact6 fact7 validNextFact8 fact9 validNextFact10 validNextFact11 validNextFact12 validNextFact13 validNextFact14 validNextFact15 validNextFact16 validNextFact17 validNextFact18 validNextFact19 validNextFact20 validNextFact21 validNextFact22 validNextFact23 validNextFact24 fact25 fact26 validNextFact27 validNextFact28 validNextFact29 validNextFact30 validNextFact31 validNextFact32

theorem validNext_lifted (os : Os) (started : os.Started) (H : Type) (enc : TypeId × Value → H) :
    ReturnsInHanded {} Tryz.checked os 11 .any (fun w args => (Rows.validNextSpec.pre enc Tryz.prog Tryz.f11 Rows.validNextRow.domain false w args ∧ laidMetH Tryz.prog Rows.validNextRow.laid w) ∧ sizedMet enc Tryz.prog Tryz.f11 (OpenSpec.ofChange Rows.validNextSpec) false w args)
      (Rows.validNextSpec.post enc Tryz.prog Tryz.f11 false true false false) := by
  refine returnsInHanded_of_change_and (C := Tryz.checked) (X := fun w _ => laidMetH Tryz.prog Rows.validNextRow.laid w) (fun _ _ _ hh h => h.of_heap hh) validNextOwn started (by kernel_rfl) Tryz.func11
    (ChangeSpec.witness_shaped (enc := enc) (C := Tryz.checked) (os := os) (X := fun w _ => laidMetH Tryz.prog Rows.validNextRow.laid w) false (World.laidAll Tryz.prog os Rows.validNextRow.laid) #[.agg #[.int .i64 0, .int .u64 0, .int .u64 0, .int .u64 0, .int .u64 0, .int .u64 0, .int .i64 0, .int .i64 0], .int .i64 0, .int .u64 0] 8 (World.laidAll_os _ _ _)
      (World.shaped_of_ZipB (by kernel_rfl) (by kernel_rfl)) (by kernel_rfl) (by kernel_rfl) (by kernel_rfl)
      (by rw [MakeChecks.laidMetH_plain _ _ _ (by kernel_rfl)]; exact laidMet_laidAll _ (by kernel_rfl) (by kernel_rfl))) ?_
  intro W base args ds gs before hval0 hW hc _ hL _
  have hval : ∀ (j : Nat) t v, Tryz.f11.params[j]? = some t → args[j]? = some v → Value.okWide Tryz.prog W .any base t v := hval0
  have hW' := hW
  obtain ⟨p, q, hA0, hV, rfl, _, _⟩ := hW
  have hA : DataW.TrodAll enc Tryz.prog W 0 (fun _ => true) true Tryz.f11.params.toList args.toList ds p := hA0
  rw [Tryz.params11] at hA hval
  obtain ⟨v0, l0, d0, b0, p0, q0, x0, y0, z0, h0, r0⟩ := trodAll_cons hA
  obtain ⟨v1, l1, d1, b1, p1, q1, x1, y1, z1, h1, r1⟩ := trodAll_cons r0
  obtain ⟨v2, l2, d2, b2, p2, q2, x2, y2, z2, h2, r2⟩ := trodAll_cons r1
  obtain ⟨xn, _, _⟩ := trodAll_nil r2
  have hx : args.toList = [v0, v1, v2] := by rw [x0, x1, x2, xn]
  have el0 : ElemOK H enc Tryz.prog W 0 (fun _ => true) true 45 [.int .i64, .int .u64, .int .u64, .int .u64, .int .u64, .int .u64, .int .i64, .int .i64] := elem_struct (by kernel_rfl) (by decide) Tryz.underlying45 (fun k c hk => match k, c, hk with
    | 0, _, rfl => ⟨_, rfl, rfl, by kernel_rfl, Tryz.underlying3⟩
    | 1, _, rfl => ⟨_, rfl, rfl, by kernel_rfl, Tryz.underlying26⟩
    | 2, _, rfl => ⟨_, rfl, rfl, by kernel_rfl, Tryz.underlying26⟩
    | 3, _, rfl => ⟨_, rfl, rfl, by kernel_rfl, Tryz.underlying26⟩
    | 4, _, rfl => ⟨_, rfl, rfl, by kernel_rfl, Tryz.underlying26⟩
    | 5, _, rfl => ⟨_, rfl, rfl, by kernel_rfl, Tryz.underlying26⟩
    | 6, _, rfl => ⟨_, rfl, rfl, by kernel_rfl, Tryz.underlying3⟩
    | 7, _, rfl => ⟨_, rfl, rfl, by kernel_rfl, Tryz.underlying3⟩)
  obtain ⟨cs0, f0, e0, s0, w0⟩ := open_flat el0 (okWide_struct Tryz.underlying45 (hval 0 45 v0 rfl (by rw [← Array.getElem?_toList, hx]; rfl))) h0
  obtain ⟨a1, e1, _, _, w1⟩ := open_int Tryz.underlying3 (hval 1 3 v1 rfl (by rw [← Array.getElem?_toList, hx]; rfl)) h1
  obtain ⟨a2, e2, _, _, w2⟩ := open_int Tryz.underlying26 (hval 2 26 v2 rfl (by rw [← Array.getElem?_toList, hx]; rfl)) h2
  let σ : Val := ⟨fun i => match i with
    | 0 => f0 0
    | 1 => f0 1
    | 2 => f0 2
    | 3 => f0 3
    | 4 => f0 4
    | 5 => f0 5
    | 6 => f0 6
    | 7 => f0 7
    | 8 => a1
    | 9 => a2
    | _ => 0, fun f a b c => ValidNext.stdApp f a b c, fun _ => (none, 0)⟩
  have hl : LiesOK ⟨W.heap.size, W, σ⟩ ValidNext.dsc := ⟨(fun a D hd => by cases hd), fun a h => absurd h (Nat.lt_irrefl 0)⟩
  have fl0 : ∀ k, k < 8 → σ.v (0 + k) = f0 k := fun k hk => match k, hk with
    | 0, _ => rfl
    | 1, _ => rfl
    | 2, _ => rfl
    | 3, _ => rfl
    | 4, _ => rfl
    | 5, _ => rfl
    | 6, _ => rfl
    | 7, _ => rfl
  refine (ValidNext.walk (w0 := W) (xs := args) (σ := σ) hl ⟨(let ⟨_, _, h⟩ := w0 0 _ rfl; h.2), (let ⟨_, _, h⟩ := w0 1 _ rfl; h.2), (let ⟨_, _, h⟩ := w0 2 _ rfl; h.2), (let ⟨_, _, h⟩ := w0 3 _ rfl; h.2), (let ⟨_, _, h⟩ := w0 4 _ rfl; h.2), (let ⟨_, _, h⟩ := w0 5 _ rfl; h.2), (let ⟨_, _, h⟩ := w0 6 _ rfl; h.2), (let ⟨_, _, h⟩ := w0 7 _ rfl; h.2), w1, w2⟩ (by
    rw [hx]
    exact (.cons (by rw [e0]; exact flat_VR (b := 0) s0 w0 fl0) (.cons (VR_sx (e1.trans rfl)) (.cons (VR_sx (e2.trans rfl)) .nil))))).mono fun e W' ⟨he, hb⟩ => ?_
  subst he
  refine ⟨_, rfl, post_true (rt := 4) fact2 rfl (by kernel_rfl) (by kernel_rfl) Tryz.underlying4 (fun ds h => ?_) hW' hb⟩
  rw [Tryz.params11] at h
  match ds, h with
  | [d0, d1, d2], _ => rfl

theorem validNext_holds : Rows.ValidNextSaid :=
  OpenClaim.holds_of_wide 11 Tryz.f11 rfl rfl rfl rfl rfl rfl rfl ⟨rfl, rfl, rfl, rfl, rfl⟩ rfl rfl rfl rfl rfl (by kernel_rfl) Tryz.func11 validNextFacts
    (of_decide_eq_true (by kernel_rfl)) (by unfold Func.isWrapper; first | (rw [if_pos (by decide +kernel)]; kernel_rfl) | (rw [if_neg (by decide +kernel)]; exact ⟨rfl, rfl⟩))
    (fun os started H enc _ => validNext_lifted os started H enc)

theorem validNext_card : Rows.ValidNextCardSaid :=
  Claim7.holds_tied_plain_at .later [] [.data, .data, .data, .data, .sentinel, .sentinel, .pinned] true (true, "483385eb54e0030fc5f9026ddc43c86deb3096744d4447fb422ce54e6ef0bbf4") true
    validNext_holds (fun _ h => by cases h) (by kernel_rfl) (fun _ h => by cases h) validNext_row_tie rfl ⟨rfl, rfl⟩ (by kernel_rfl) rfl
    (fun f fn hf hfn => by
      obtain rfl : f = 11 := Option.some.inj ((show Tryz.prog.funcNamed "muleteer/muleteerlaw18.ValidNext" = some 11 by kernel_rfl).symm.trans hf) |>.symm
      obtain rfl : fn = Tryz.f11 := (Option.some.inj (Tryz.func11.symm.trans hfn)).symm
      exact ⟨by kernel_rfl, fun j t ht => by
        have hm : t ∈ Tryz.f11.params.toList := Array.mem_toList_iff.2 (Array.mem_of_getElem? ht)
        have hall : (Tryz.f11.params.toList.all fun u => !Tryz.prog.wantsStandIn u) = true := by kernel_rfl
        have h0 := List.all_eq_true.1 hall t hm
        exact (show Tryz.prog.wantsStandIn t = false by simpa using h0)⟩)
    (by kernel_rfl)
#print axioms validNext_card
end Go.Proofs.YtohonlojnflejaaGreatDoor
