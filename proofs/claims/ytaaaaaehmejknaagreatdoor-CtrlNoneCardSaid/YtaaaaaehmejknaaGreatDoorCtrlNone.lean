/- CtrlNone: for every state in which the call may begin it returns true. The call takes no argument; the listed package-level variables hold what the program's text lays. -/
import Derived.Test.YtaaaaaehmejknaaGreatDoorBegun18
import Derived.Test.YtaaaaaehmejknaaGreatDoorMirClose
namespace Go.Proofs.YtaaaaaehmejknaaGreatDoor
open Go.Mir
open Go.ChangeShapes Go.WideShapes Go.ChangeAt Go.RowKit
set_option maxRecDepth 100000
theorem own : ownKnob Tryz.prog.godebug = none := by kernel_rfl
theorem laidOut : laidOutB Tryz.prog = true := by kernel_rfl
theorem none_walk : SaysTrue Tryz.prog 12 :=
  saysTrue_of noNum mixed ext_ok (ps := [196, 84]) (known := [13]) (fun f h => by
    simp only [List.mem_cons, List.not_mem_nil, or_false] at h
    rcases h with rfl
    exact begun18) (fuel := 100000) (by kernel_rfl)

theorem ctrlNone_lifted (os : Os) (started : os.Started) (H : Type) (enc : TypeId × Value → H) :
    ReturnsInHanded {} Tryz.checked os 12 .any (fun w args => (Rows.ctrlNoneSpec.pre enc Tryz.prog Tryz.f12 Rows.ctrlNoneRow.domain false w args ∧ laidMetH Tryz.prog Rows.ctrlNoneRow.laid w) ∧ sizedMet enc Tryz.prog Tryz.f12 (OpenSpec.ofChange Rows.ctrlNoneSpec) false w args)
      (Rows.ctrlNoneSpec.post enc Tryz.prog Tryz.f12 false true false false) := by
  refine returnsInHanded_of_change_and (C := Tryz.checked) (X := fun w _ => laidMetH Tryz.prog Rows.ctrlNoneRow.laid w) (fun _ _ _ hh h => h.of_heap hh) own started (by kernel_rfl) Tryz.func12
    (ChangeSpec.witness_shaped (enc := enc) (C := Tryz.checked) (os := os) (X := fun w _ => laidMetH Tryz.prog Rows.ctrlNoneRow.laid w) false (World.laidAll Tryz.prog os Rows.ctrlNoneRow.laid) #[] 8 (World.laidAll_os _ _ _)
      (World.shaped_of_ZipB (by kernel_rfl) (by kernel_rfl)) (by kernel_rfl) (by kernel_rfl) (by kernel_rfl)
      (by rw [MakeChecks.laidMetH_plain _ _ _ (by kernel_rfl)]; exact laidMet_laidAll _ (by kernel_rfl) (by kernel_rfl))) ?_
  intro W base args ds gs before hval0 hW hc _ hL _
  have hW' := hW
  obtain ⟨p, q, hA0, hV, rfl, _, _⟩ := hW
  have hA : DataW.TrodAll enc Tryz.prog W 0 (fun _ => true) true Tryz.f12.params.toList args.toList ds p := hA0
  rw [Tryz.params12] at hA
  obtain ⟨rfl, rfl, rfl⟩ := trodAll_none hA
  refine (none_walk W).mono fun e W' ⟨he, hb⟩ => ?_
  subst he
  refine ⟨_, rfl, post_true (rt := 4) laidOut rfl (by kernel_rfl) (by kernel_rfl) Tryz.underlying4 (fun ds h => ?_) hW' hb⟩
  rw [Tryz.params12] at h
  match ds, h with
  | [], _ => rfl

end Go.Proofs.YtaaaaaehmejknaaGreatDoor
