/- ValidWindow: the row and its tied card: for every input the call returns true, and each argument reads afterwards as it read before. The listed package-level variables hold what the program's text lays. -/
import Derived.Test.YtohonlojnflejaaGreatDoorValidWindow
import Derived.Test.YtohonlojnflejaaGreatDoorFacts
import Derived.Test.YtohonlojnflejaaGreatDoorMirClose
import Derived.Test.YtohonlojnflejaaGreatDoorMirArr
import Derived.Test.YtohonlojnflejaaGreatDoorCards
import Derived.Test.YtohonlojnflejaaGreatDoorTie
namespace Go.Proofs.YtohonlojnflejaaGreatDoor
open Go Go.Mir
open Go.ChangeShapes Go.WideShapes Go.ChangeAt Go.RowKit
set_option maxRecDepth 100000
theorem validWindowOwn : ownKnob Tryz.prog.godebug = none := by kernel_rfl
theorem validWindowFact1 : (Rows.validWindowRow.wf (OpenSpec.ofChange Rows.validWindowSpec)) = true := by kernel_rfl
theorem validWindowFact4 : (Tryz.f6.params.all (Tryz.prog.readableRec ·)) = true := by kernel_rfl
theorem validWindowFact5 : (namedTie Tryz.prog Rows.validWindowRow.named Rows.validWindowSpec.vars) = true := by kernel_rfl
theorem validWindowFact6 : ((Rows.validWindowRow.stops == [])) = true := by kernel_rfl
theorem validWindowFact8 : ((Rows.validWindowRow.knobs == [])) = true := by kernel_rfl
theorem validWindowFact10 : ((Rows.validWindowRow.inPlace == Tryz.prog.inPlace 6)) = true := by kernel_rfl
theorem validWindowFact11 : ((Rows.validWindowRow.unfollowed == Tryz.prog.unfollowed 6)) = true := by kernel_rfl
theorem validWindowFact12 : ((Rows.validWindowRow.recurses == Tryz.prog.recurses 6)) = true := by kernel_rfl
theorem validWindowFact13 : ((Rows.validWindowRow.named == Tryz.prog.varsNamed 6)) = true := by kernel_rfl
theorem validWindowFact14 : ((Rows.validWindowRow.maps == (Tryz.f6.params.toList ++ Rows.validWindowSpec.plain.varTypes Tryz.prog).any (Tryz.prog.mapsRec ·))) = true := by kernel_rfl
theorem validWindowFact15 : ((Rows.validWindowRow.ifaces == (Tryz.f6.params.toList ++ Rows.validWindowSpec.plain.varTypes Tryz.prog).any (Tryz.prog.ifacesRec ·))) = true := by kernel_rfl
theorem validWindowFact16 : ((Rows.validWindowRow.mapsOut == Tryz.prog.mapsAmong Tryz.f6.resultTypes.toList)) = true := by kernel_rfl
theorem validWindowFact17 : ((Rows.validWindowRow.loops == (Tryz.f6.params.toList ++ Rows.validWindowSpec.plain.varTypes Tryz.prog).any (Tryz.prog.loopsFrom ·))) = true := by kernel_rfl
theorem validWindowFact18 : ((Rows.validWindowRow.wideKeys == (Tryz.f6.params.toList ++ Rows.validWindowSpec.plain.varTypes Tryz.prog ++ Tryz.f6.resultTypes.toList).any (Tryz.prog.wideKeysFrom ·))) = true := by kernel_rfl
theorem validWindowFact19 : (Rows.validWindowSpec.vars.all (Tryz.prog.varReadable ·)) = true := by kernel_rfl
theorem validWindowFact20 : (Tryz.f6.resultTypes.all (fun t => Tryz.prog.readableRec t && decide (t < Tryz.prog.types.size))) = true := by kernel_rfl
theorem validWindowFact21 : ((Rows.validWindowRow.ifacesOut == Tryz.f6.resultTypes.toList.any (Tryz.prog.ifacesRec ·))) = true := by kernel_rfl
theorem validWindowFact22 : ((Rows.validWindowRow.loopsOut == Tryz.f6.resultTypes.toList.any (Tryz.prog.loopsFrom ·))) = true := by kernel_rfl
theorem validWindowFact23 : ((Rows.validWindowRow.plainKeys == Tryz.prog.plainKeys)) = true := by kernel_rfl
theorem validWindowFact24 : (Rows.validWindowRow.shortTexts.isNone) = true := by kernel_rfl
theorem validWindowFact27 : ((Rows.validWindowRow.lifted == Tryz.prog.liftsFinal)) = true := by kernel_rfl
theorem validWindowFact28 : ((Tryz.prog.make == some Rows.validWindowRow.make)) = true := by kernel_rfl
theorem validWindowFact29 : ((Rows.validWindowRow.kinds == (if Rows.validWindowRow.domain.isEmpty then [] else Tryz.f6.params.toList.map fun t => match Tryz.prog.underlying t with | some (.int k) => some k | _ => none))) = true := by kernel_rfl
theorem validWindowFact30 : ((Rows.validWindowRow.pinned == Rows.validWindowRow.pinnedBy)) = true := by kernel_rfl
theorem validWindowFact31 : ((Rows.validWindowRow.veiled == (Tryz.f6.params.toList ++ Rows.validWindowSpec.plain.varTypes Tryz.prog ++ Tryz.f6.resultTypes.toList).any (Tryz.prog.veiledRec ·))) = true := by kernel_rfl
theorem validWindowFact32 : (Rows.validWindowRow.veiledFits Tryz.prog Tryz.f6.params.toList (Tryz.f6.params.toList ++ Rows.validWindowSpec.plain.varTypes Tryz.prog ++ Tryz.f6.resultTypes.toList)) = true := by kernel_rfl
theorem validWindowFacts : joinedFacts Tryz.prog 6 Tryz.f6 Rows.validWindowSpec Rows.validWindowRow = true := Go.Mir.joinedFacts_each validWindowFact1 fact2 fact3 validWindowFact4 validWindowFact5 validWindowFact6 fact7 validWindowFact8 fact9 validWindowFact10 validWindowFact11 validWindowFact12 validWindowFact13 validWindowFact14 validWindowFact15 validWindowFact16 validWindowFact17 validWindowFact18 validWindowFact19 validWindowFact20 validWindowFact21 validWindowFact22 validWindowFact23 validWindowFact24 fact25 fact26 validWindowFact27 validWindowFact28 validWindowFact29 validWindowFact30 validWindowFact31 validWindowFact32

theorem validWindow_lifted (os : Os) (started : os.Started) (H : Type) (enc : TypeId × Value → H) :
    ReturnsInHanded {} Tryz.checked os 6 .any (fun w args => (Rows.validWindowSpec.pre enc Tryz.prog Tryz.f6 Rows.validWindowRow.domain false w args ∧ laidMetH Tryz.prog Rows.validWindowRow.laid w) ∧ sizedMet enc Tryz.prog Tryz.f6 (OpenSpec.ofChange Rows.validWindowSpec) false w args)
      (Rows.validWindowSpec.post enc Tryz.prog Tryz.f6 false true false false) := by
  refine returnsInHanded_of_change_and (C := Tryz.checked) (X := fun w _ => laidMetH Tryz.prog Rows.validWindowRow.laid w) (fun _ _ _ hh h => h.of_heap hh) validWindowOwn started (by kernel_rfl) Tryz.func6
    (ChangeSpec.witness_shaped (enc := enc) (C := Tryz.checked) (os := os) (X := fun w _ => laidMetH Tryz.prog Rows.validWindowRow.laid w) false (World.laidAll Tryz.prog os Rows.validWindowRow.laid) #[.agg #[.int .i64 0, .int .u64 0, .int .u64 0, .int .u64 0, .int .u64 0, .int .u64 0, .int .i64 0, .int .i64 0], .int .i64 0] 8 (World.laidAll_os _ _ _)
      (World.shaped_of_ZipB (by kernel_rfl) (by kernel_rfl)) (by kernel_rfl) (by kernel_rfl) (by kernel_rfl)
      (by rw [MakeChecks.laidMetH_plain _ _ _ (by kernel_rfl)]; exact laidMet_laidAll _ (by kernel_rfl) (by kernel_rfl))) ?_
  intro W base args ds gs before hval0 hW hc _ hL _
  have hval : ∀ (j : Nat) t v, Tryz.f6.params[j]? = some t → args[j]? = some v → Value.okWide Tryz.prog W .any base t v := hval0
  have hW' := hW
  obtain ⟨p, q, hA0, hV, rfl, _, _⟩ := hW
  have hA : DataW.TrodAll enc Tryz.prog W 0 (fun _ => true) true Tryz.f6.params.toList args.toList ds p := hA0
  rw [Tryz.params6] at hA hval
  obtain ⟨v0, l0, d0, b0, p0, q0, x0, y0, z0, h0, r0⟩ := trodAll_cons hA
  obtain ⟨v1, l1, d1, b1, p1, q1, x1, y1, z1, h1, r1⟩ := trodAll_cons r0
  obtain ⟨xn, _, _⟩ := trodAll_nil r1
  have hx : args.toList = [v0, v1] := by rw [x0, x1, xn]
  have el0 : ElemOK H enc Tryz.prog W 0 (fun _ => true) true 45 [.int .i64, .int .u64, .int .u64, .int .u64, .int .u64, .int .u64, .int .i64, .int .i64] := elem_struct (by kernel_rfl) (by decide) Tryz.underlying45 (fun k c hk => match k, c, hk with
    | 0, _, rfl => ⟨_, rfl, rfl, by kernel_rfl, Tryz.underlying3⟩
    | 1, _, rfl => ⟨_, rfl, rfl, by kernel_rfl, Tryz.underlying26⟩
    | 2, _, rfl => ⟨_, rfl, rfl, by kernel_rfl, Tryz.underlying26⟩
    | 3, _, rfl => ⟨_, rfl, rfl, by kernel_rfl, Tryz.underlying26⟩
    | 4, _, rfl => ⟨_, rfl, rfl, by kernel_rfl, Tryz.underlying26⟩
    | 5, _, rfl => ⟨_, rfl, rfl, by kernel_rfl, Tryz.underlying26⟩
    | 6, _, rfl => ⟨_, rfl, rfl, by kernel_rfl, Tryz.underlying3⟩
    | 7, _, rfl => ⟨_, rfl, rfl, by kernel_rfl, Tryz.underlying3⟩)
  obtain ⟨cs0, f0, e0, s0, w0⟩ := open_flat el0 (okWide_struct Tryz.underlying45 (hval 0 45 v0 rfl (by rw [← Array.getElem?_toList, hx]; rfl))) h0
  obtain ⟨a1, e1, _, _, w1⟩ := open_int Tryz.underlying3 (hval 1 3 v1 rfl (by rw [← Array.getElem?_toList, hx]; rfl)) h1
  let σ : Val := ⟨fun i => match i with
    | 0 => f0 0
    | 1 => f0 1
    | 2 => f0 2
    | 3 => f0 3
    | 4 => f0 4
    | 5 => f0 5
    | 6 => f0 6
    | 7 => f0 7
    | 8 => a1
    | _ => 0, fun f a b c => ValidWindow.stdApp f a b c, fun _ => (none, 0)⟩
  have hl : LiesOK ⟨W.heap.size, W, σ⟩ ValidWindow.dsc := ⟨(fun a D hd => by cases hd), fun a h => absurd h (Nat.lt_irrefl 0)⟩
  have fl0 : ∀ k, k < 8 → σ.v (0 + k) = f0 k := fun k hk => match k, hk with
    | 0, _ => rfl
    | 1, _ => rfl
    | 2, _ => rfl
    | 3, _ => rfl
    | 4, _ => rfl
    | 5, _ => rfl
    | 6, _ => rfl
    | 7, _ => rfl
  refine (ValidWindow.walk (w0 := W) (xs := args) (σ := σ) hl ⟨(let ⟨_, _, h⟩ := w0 0 _ rfl; h.2), (let ⟨_, _, h⟩ := w0 1 _ rfl; h.2), (let ⟨_, _, h⟩ := w0 2 _ rfl; h.2), (let ⟨_, _, h⟩ := w0 3 _ rfl; h.2), (let ⟨_, _, h⟩ := w0 4 _ rfl; h.2), (let ⟨_, _, h⟩ := w0 5 _ rfl; h.2), (let ⟨_, _, h⟩ := w0 6 _ rfl; h.2), (let ⟨_, _, h⟩ := w0 7 _ rfl; h.2), w1⟩ (by
    rw [hx]
    exact (.cons (by rw [e0]; exact flat_VR (b := 0) s0 w0 fl0) (.cons (VR_sx (e1.trans rfl)) .nil)))).mono fun e W' ⟨he, hb⟩ => ?_
  subst he
  refine ⟨_, rfl, post_true (rt := 4) fact2 rfl (by kernel_rfl) (by kernel_rfl) Tryz.underlying4 (fun ds h => ?_) hW' hb⟩
  rw [Tryz.params6] at h
  match ds, h with
  | [d0, d1], _ => rfl

theorem validWindow_holds : Rows.ValidWindowSaid :=
  OpenClaim.holds_of_wide 6 Tryz.f6 rfl rfl rfl rfl rfl rfl rfl ⟨rfl, rfl, rfl, rfl, rfl⟩ rfl rfl rfl rfl rfl (by kernel_rfl) Tryz.func6 validWindowFacts
    (of_decide_eq_true (by kernel_rfl)) (by unfold Func.isWrapper; first | (rw [if_pos (by decide +kernel)]; kernel_rfl) | (rw [if_neg (by decide +kernel)]; exact ⟨rfl, rfl⟩))
    (fun os started H enc _ => validWindow_lifted os started H enc)

theorem validWindow_card : Rows.ValidWindowCardSaid :=
  Claim7.holds_tied_plain_at .later [] [.data, .data, .data, .data, .sentinel, .sentinel, .pinned] true (true, "483385eb54e0030fc5f9026ddc43c86deb3096744d4447fb422ce54e6ef0bbf4") true
    validWindow_holds (fun _ h => by cases h) (by kernel_rfl) (fun _ h => by cases h) validWindow_row_tie rfl ⟨rfl, rfl⟩ (by kernel_rfl) rfl
    (fun f fn hf hfn => by
      obtain rfl : f = 6 := Option.some.inj ((show Tryz.prog.funcNamed "muleteer/muleteerlaw18.ValidWindow" = some 6 by kernel_rfl).symm.trans hf) |>.symm
      obtain rfl : fn = Tryz.f6 := (Option.some.inj (Tryz.func6.symm.trans hfn)).symm
      exact ⟨by kernel_rfl, fun j t ht => by
        have hm : t ∈ Tryz.f6.params.toList := Array.mem_toList_iff.2 (Array.mem_of_getElem? ht)
        have hall : (Tryz.f6.params.toList.all fun u => !Tryz.prog.wantsStandIn u) = true := by kernel_rfl
        have h0 := List.all_eq_true.1 hall t hm
        exact (show Tryz.prog.wantsStandIn t = false by simpa using h0)⟩)
    (by kernel_rfl)
#print axioms validWindow_card
end Go.Proofs.YtohonlojnflejaaGreatDoor
