/- One operation of the mirror against the machine's: all of them. -/
import Derived.Test.YtohonlojnflejaaGreatDoorMirMop
namespace Go.Mir
open Go.RowKit

section
variable {P : Program} {w : World} {C : Ctx} {ρ : Loc} {s : MS}

theorem run_mMethod {t : TypeId} {name : String} {f : FuncId} (h : mMethod P t name = some f) (n : Nat) (v : Value) : (method (n + 1) t v name).run P w = .ok (f, v) w := by
  simp only [mMethod, Option.bind_eq_bind, Option.bind_eq_some_iff] at h
  obtain ⟨i, hi, m, hm, h⟩ := h
  split at h
  · rename_i hp
    split at h
    · rename_i f' e hf hu
      cases h
      have hp' : m.path.toList = [] := by rw [← List.length_eq_zero_iff]; simpa using hp
      simp only [method, Sem.run_bind, run_typeInfo' hi, Result.andThen_ok, hm, hp', follow, Sem.run_pure, hf, receiverAt, run_underlying' hu, Place.get]
    · cases h
  · cases h

theorem run_invoke_method {t : TypeId} {name : String} {f : FuncId} (h : mMethod P t name = some f) {y : Value} {xs : Array Value} :
    (invoke (.fn (.method name) #[]) (#[.iface t y] ++ xs)).run P w = (callFunc f (#[y] ++ xs)).run P w := by
  have hex : (#[Value.iface t y] ++ xs).extract 1 (#[Value.iface t y] ++ xs).size = xs := by
    apply Array.ext'; simp [List.take_of_length_le]
  have h0 : (#[Value.iface t y] ++ xs)[0]? = some (.iface t y) := by
    rw [← Array.getElem?_toList]; simp
  have hd : P.types.size + Made.depth = (P.types.size + 99) + 1 := rfl
  have hp : ∀ (k : Program → Sem Next), (do let p ← program; k p : Sem Next).run P w = (k P).run P w := fun k => by simp
  simp only [invoke, h0, hex, callMethod]
  rw [hp, hd, Sem.run_bind, run_mMethod h]
  rfl

theorem call_sound (hng : NoNum P) {ext : Ext} (hext : ExtOK P C ext) (R : Repr C ρ s w) {E : Env} {a : Act} {c : Call} {ty : TypeId} (hE : Agree ρ E a c.operands) {st : MStep} (h : mCall P ext c E s = some st) :
    StepR C ρ s ((do let d ← resolve a.eval c ty; invoke d.target d.args : Sem Next).run P w) st := by
  unfold mCall at h
  split at h
  · cases h
  rename_i args hargs
  have hxs : VRs ρ args (c.args.map a.eval).toList := by
    rw [Array.toList_map]
    refine opds_sound _ _ (fun t v ht => hE t v ?_) hargs
    cases hc : c.callee <;> simp [Call.operands, hc] <;> first | exact Array.mem_toList_iff.1 ht | exact .inl (Array.mem_toList_iff.1 ht) | exact .inr (Array.mem_toList_iff.1 ht)
  split at h
  · rename_i b hc
    simp only [resolve, hc, Sem.run_bind, Sem.run_pure, Result.andThen_ok, invoke]
    exact builtin_sound (by rw [R.sig]; exact hext.asm) R hxs h
  · rename_i f hc
    split at h
    · rename_i f' first cap hf
      have hr := opd_sound hE (by simp [Call.operands, hc]) hf
      simp only [VR] at hr
      obtain ⟨first', cap', hr, h1, h2⟩ := hr
      simp only [resolve, hc, hr, Deferred.ofValue, Sem.run_bind, Sem.run_pure, Result.andThen_ok, invoke]
      refine callF_sound hng hext R ?_ h
      simp only [Array.toList_append]
      exact (h1.append hxs).append h2
    · cases h
  · rename_i r name hc
    split at h
    · rename_i t v hr
      split at h
      · rename_i f hm
        have hr' := opd_sound hE (by simp [Call.operands, hc]) hr
        simp only [VR] at hr'
        obtain ⟨y, hr', hy⟩ := hr'
        simp only [resolve, hc, hr', Sem.run_bind, Sem.run_pure, Result.andThen_ok]
        rw [run_invoke_method hm]
        refine callF_sound hng hext R ?_ h
        simp only [Array.toList_append]
        exact .cons hy hxs
      · cases h
    · cases h

theorem on1_inv {x : Operand} {k : MV → MS → Option MStep} {E : Env} {st : MStep} (h : on1 x k E s = some st) : ∃ a, opd E x = some a ∧ k a s = some st := by
  unfold on1 at h
  split at h
  · rename_i a ha; exact ⟨a, ha, h⟩
  · cases h
theorem on2_inv {x y : Operand} {k : MV → MV → MS → Option MStep} {E : Env} {st : MStep} (h : on2 x y k E s = some st) : ∃ a b, opd E x = some a ∧ opd E y = some b ∧ k a b s = some st := by
  unfold on2 at h
  split at h
  · rename_i a ha
    split at h
    · rename_i b hb; exact ⟨a, b, ha, hb, h⟩
    · cases h
  · cases h
theorem on3_inv {x y z : Operand} {k : MV → MV → MV → MS → Option MStep} {E : Env} {st : MStep} (h : on3 x y z k E s = some st) : ∃ a b c, opd E x = some a ∧ opd E y = some b ∧ opd E z = some c ∧ k a b c s = some st := by
  unfold on3 at h
  split at h
  · rename_i a ha
    split at h
    · rename_i b hb
      split at h
      · rename_i c hc; exact ⟨a, b, c, ha, hb, hc, h⟩
      · cases h
    · cases h
  · cases h

theorem opdO_sound {E : Env} {a : Act} {xs : Array Operand} (hE : Agree ρ E a xs) {x : Option Operand} (hx : ∀ y, x = some y → y ∈ xs) {v : Option MV} (h : opdO E x = some v) : VRO ρ v (x.map a.eval) := by
  cases x with
  | none => simp only [opdO] at h; cases h; trivial
  | some y =>
    simp only [opdO, Option.map_eq_some_iff] at h
    obtain ⟨z, hz, rfl⟩ := h
    exact opd_sound hE (hx y rfl) hz

/-- One operation: what the mirror says of it the machine does. -/
theorem mop_sound (hng : NoNum P) {ext : Ext} (hext : ExtOK P C ext) (R : Repr C ρ s w) {E : Env} {a : Act} {o : Oper} (hE : Agree ρ E a o.op.operands) {st : MStep} (h : mop P ext o.op E s = some st) :
    StepR C ρ s ((execOp a.eval o).run P w) st := by
  obtain ⟨dst, op, type, pos, after, guard⟩ := o
  cases op <;> simp only [mop] at h <;> first | (cases h; done) | skip
  case move x =>
    obtain ⟨v, hv, h⟩ := on1_inv h
    have h1 := opd_sound hE (by simp [Op.operands]) hv
    simp only [hMove] at h; cases h
    exact ⟨_, w, ρ, .inl (by simp [execOp]), ρ.le_refl, h1, R⟩
  case assign x =>
    obtain ⟨v, hv, h⟩ := on1_inv h
    have h1 := opd_sound hE (by simp [Op.operands]) hv
    simp only [hMove] at h; cases h
    exact ⟨_, w, ρ, .inl (by simp [execOp]), ρ.le_refl, h1, R⟩
  case pick c x y =>
    unfold hPick at h
    split at h
    · rename_i hc
      have h1 := opd_sound hE (by simp [Op.operands]) hc
      simp only [VR] at h1
      refine StepR.pure R h fun v hm => ⟨a.eval x, by simp [execOp, h1, asBool], opd_sound hE (by simp [Op.operands]) hm⟩
    · rename_i hc
      have h1 := opd_sound hE (by simp [Op.operands]) hc
      simp only [VR] at h1
      refine StepR.pure R h fun v hm => ⟨a.eval y, by simp [execOp, h1, asBool], opd_sound hE (by simp [Op.operands]) hm⟩
    · cases h
  case alloc e =>
    unfold hAlloc at h
    split at h
    · rename_i z hz
      cases h
      obtain ⟨y, w', ρ', h1, h2, h3, h4⟩ := mAlloc_sound R hz
      exact ⟨y, w', ρ', .inl (by simp [execOp, h1]), h2, h3, h4⟩
    · cases h
  case box e x =>
    obtain ⟨v, hv, h⟩ := on1_inv h
    simp only [hBox] at h; cases h
    obtain ⟨y, w', ρ', h1, h2, h3, h4⟩ := mBox_sound (P := P) (e := e) R (opd_sound hE (by simp [Op.operands]) hv)
    exact ⟨y, w', ρ', .inl (by simp [execOp, h1]), h2, h3, h4⟩
  case build t ps =>
    unfold hBuild at h
    split at h
    · rename_i l hl
      refine StepR.pure R h fun v hm => ?_
      have hp : PRs ρ l ((ps.map fun (i, x) => (i, a.eval x)).toList) := by
        rw [Array.toList_map]
        exact parts_sound _ _ (fun t v ht => hE t v (by simpa [Op.operands] using ht)) hl
      obtain ⟨y, h1, h2⟩ := mBuild_sound (w := w) hp hm
      exact ⟨y, by simp [execOp, h1], h2⟩
    · cases h
  case buildSlice t n ps =>
    unfold hBuildSlice at h
    split at h
    · rename_i l hl
      refine StepR.eff h fun v s' hm => ?_
      have hp : PRs ρ l ((ps.map fun (i, x) => (i, a.eval x)).toList) := by
        rw [Array.toList_map]
        exact parts_sound _ _ (fun t v ht => hE t v (by simpa [Op.operands] using ht)) hl
      obtain ⟨y, w', ρ', h1, h2, h3, h4⟩ := mBuildSlice_sound R hp hm
      exact ⟨y, w', ρ', by simp [execOp, h1], h2, h3, h4⟩
    · cases h
  case load t x =>
    obtain ⟨v, hv, h⟩ := on1_inv h
    refine StepR.pure R h fun u hm => ?_
    have hx := opd_sound hE (by simp [Op.operands]) hv
    split at hm
    · obtain ⟨y, h1, h2⟩ := uLoad_sound R hext.asm hext.arr hx hm
      exact ⟨y, by simp [execOp, h1], h2⟩
    · unfold knownVO at hm
      split at hm
      · rename_i v' hv'
        cases hm
        obtain ⟨y, h1, h2⟩ := mLoad_sound R hx hv'
        exact ⟨y, by simp [execOp, h1], knownV_sound (by rw [R.sig]; exact hext.asm) h2⟩
      · cases hm
  case store t x y =>
    obtain ⟨v, u, hv, hu, h⟩ := on2_inv h
    refine StepR.unit h fun s' hm => ?_
    obtain ⟨w', h1, h2⟩ := mStore_sound R (opd_sound hE (by simp [Op.operands]) hv) (opd_sound hE (by simp [Op.operands]) hu) hm
    exact ⟨w', by simp [execOp, h1], h2⟩
  case nilCheck x =>
    obtain ⟨v, hv, h⟩ := on1_inv h
    have h1 := opd_sound hE (by simp [Op.operands]) hv
    unfold hNilCheck at h
    split at h
    · cases h
      have h1' := h1
      simp only [VR] at h1
      obtain ⟨i, _, h1⟩ := h1
      rw [h1] at h1'
      exact ⟨_, w, ρ, .inl (by simp only [execOp, h1]; rfl), ρ.le_refl, h1', R⟩
    · cases h
      have h1' := h1
      simp only [VR] at h1
      obtain ⟨y, h1, _⟩ := h1
      rw [h1] at h1'
      exact ⟨_, w, ρ, .inl (by simp only [execOp, h1]; rfl), ρ.le_refl, h1', R⟩
    · cases h
      have h1' := h1
      simp only [VR] at h1
      obtain ⟨ad, _, _, _, _, h1⟩ := h1
      rw [h1] at h1'
      exact ⟨_, w, ρ, .inl (by simp only [execOp, h1]; rfl), ρ.le_refl, h1', R⟩
    · cases h
  case binOp b t x y t' =>
    obtain ⟨v, u, hv, hu, h⟩ := on2_inv h
    refine StepR.pure R h fun z hm => ?_
    have hbin : ∃ q, (do eqGuard b t x y (a.eval x) (a.eval y); binOp b t (a.eval x) (a.eval y) : Sem Value).run P w = .ok q w ∧ VR ρ z q := by
      have hA : AsmOK ρ.σ ext.asm := by rw [R.sig]; exact hext.asm
      split at hm
      · unfold knownO at hm
        split at hm
        · rename_i v' hm'
          cases hm
          obtain ⟨q, h1, h2⟩ := symBin_sound (P := P) (w := w) (xo := x) (yo := y) hA (opd_sound hE (by simp [Op.operands]) hv) (opd_sound hE (by simp [Op.operands]) hu) hm'
          exact ⟨q, h1, known_sound hA h2⟩
        · cases hm
      · unfold orElseS at hm
        split at hm
        · rename_i v' hb
          cases hm
          exact mBin_sound (P := P) (w := w) (opd_sound hE (by simp [Op.operands]) hv) (opd_sound hE (by simp [Op.operands]) hu) hb
        · unfold knownO at hm
          split at hm
          · rename_i v' hm'
            cases hm
            obtain ⟨q, h1, h2⟩ := symEqBin_sound (P := P) (w := w) (opd_sound hE (by simp [Op.operands]) hv) (opd_sound hE (by simp [Op.operands]) hu) hm'
            exact ⟨q, h1, known_sound hA h2⟩
          · cases hm
    obtain ⟨q, h1, h2⟩ := hbin
    refine ⟨q, ?_, h2⟩
    show (do let r ← (do eqGuard b t x y (a.eval x) (a.eval y); binOp b t (a.eval x) (a.eval y) : Sem Value); pure (Next.value r) : Sem Next).run P w = _
    rw [Sem.run_bind, h1]; rfl
  case unOp u t x =>
    obtain ⟨v, hv, h⟩ := on1_inv h
    refine StepR.pure R h fun z hm => ?_
    have hun : ∃ q, (Op.unary u (a.eval x)).run P w = .ok q w ∧ VR ρ z q := by
      have hA : AsmOK ρ.σ ext.asm := by rw [R.sig]; exact hext.asm
      split at hm
      · unfold knownO at hm
        split at hm
        · rename_i v' hm'
          cases hm
          obtain ⟨q, h1, h2⟩ := symUn_sound (P := P) (w := w) (opd_sound hE (by simp [Op.operands]) hv) hm'
          exact ⟨q, h1, known_sound hA h2⟩
        · cases hm
      · exact mUn_sound (P := P) (w := w) (opd_sound hE (by simp [Op.operands]) hv) hm
    obtain ⟨q, h1, h2⟩ := hun
    exact ⟨q, by simp [execOp, h1], h2⟩
  case convert src dst' x =>
    obtain ⟨v, hv, h⟩ := on1_inv h
    unfold hConvert at h
    split at h
    · split at h
      · rename_i d hs
        refine StepR.pure R h fun z hm => ?_
        have hA : AsmOK ρ.σ ext.asm := by rw [R.sig]; exact hext.asm
        unfold knownO at hm
        split at hm
        · rename_i v' hm'
          cases hm
          obtain ⟨q, h1, h2⟩ := symConv_sound (P := P) (w := w) hs (opd_sound hE (by simp [Op.operands]) hv) hm'
          exact ⟨q, by simp [execOp, h1], known_sound hA h2⟩
        · cases hm
      · cases h
    refine StepR.eff h fun z s' hm => ?_
    split at hm
    · rename_i v' hu
      cases hm
      obtain ⟨y, h1, h2⟩ := uConv_sound (P := P) R (opd_sound hE (by simp [Op.operands]) hv) hu
      exact ⟨y, w, ρ, by simp [execOp, h1], ρ.le_refl, h2, R⟩
    obtain ⟨y, w', ρ', h1, h2, h3, h4⟩ := mConvert_sound R (opd_sound hE (by simp [Op.operands]) hv) hm
    exact ⟨y, w', ρ', by simp [execOp, h1], h2, h3, h4⟩
  case makeInterface t x =>
    obtain ⟨v, hv, h⟩ := on1_inv h
    have h1 := opd_sound hE (by simp [Op.operands]) hv
    unfold hMakeInterface at h
    split at h
    · cases h
    · rename_i d hnot hd
      cases h
      refine ⟨_, w, ρ, .inl ?_, ρ.le_refl, by simp only [VR]; exact ⟨_, rfl, h1⟩, R⟩
      cases d <;> first | (simp [execOp, Instr.makeInterface, run_underlying' hd]; done) | exact (hnot _ rfl).elim
    · cases h
  case makeFunc fn first cap =>
    unfold hMakeFunc at h
    split at h
    · rename_i l hl
      split at h
      · rename_i l' hl'
        cases h
        have h1 : VRs ρ l (first.map a.eval).toList := by
          rw [Array.toList_map]
          exact opds_sound _ _ (fun t v ht => hE t v (by simp [Op.operands]; exact .inl (Array.mem_toList_iff.1 ht))) hl
        have h2 : VRs ρ l' (cap.map a.eval).toList := by
          rw [Array.toList_map]
          exact opds_sound _ _ (fun t v ht => hE t v (by simp [Op.operands]; exact .inr (Array.mem_toList_iff.1 ht))) hl'
        exact ⟨_, w, ρ, .inl (by simp only [execOp, Instr.makeFunc]; rfl), ρ.le_refl, by simp only [VR]; exact ⟨_, _, rfl, h1, h2⟩, R⟩
      · cases h
    · cases h
  case makeMap t r =>
    have hnew : ∃ y w' ρ', (do let m ← newObj (.map #[] 0); pure (.map (some m)) : Sem Value).run P w = .ok y w' ∧ ρ.le ρ' ∧ VR ρ' (.map s.next) y ∧ Repr C ρ' (s.add (.map [] 0)) w' := by
      refine ⟨.map (some w.heap.size), _, ρ.put s.next ⟨w.heap.size, 0, 0, 0⟩, ?_, R.le_put _, by simp only [VR]; exact ⟨_, Loc.put_same _ _ _, rfl⟩, R.add (.map [] 0) (.map #[] 0) ⟨w.heap.size, 0, 0, 0⟩ rfl ⟨#[], rfl, by simp [ERs]⟩⟩
      rw [Sem.run_bind]; rfl
    obtain ⟨y, w', ρ', h1, h2, h3, h4⟩ := hnew
    have h1' : (do let a ← newObj (.map #[] 0); pure (Value.map (some a)) : Sem Value).run P w = .ok y w' := h1
    unfold hMakeMap at h
    split at h
    · cases h
      refine ⟨y, w', ρ', .inl ?_, h2, h3, h4⟩
      show (do let v ← Instr.makeMap t none; pure (.value v) : Sem Next).run P w = _
      have : Instr.makeMap t none = (do let a ← newObj (.map #[] 0); pure (Value.map (some a))) := rfl
      rw [this, Sem.run_bind, h1']; rfl
    · rename_i x
      split at h
      · rename_i kt et k n hu hx
        cases h
        have hx' := opd_sound hE (by simp [Op.operands]) hx
        simp only [VR] at hx'
        refine ⟨y, w', ρ', .inl ?_, h2, h3, h4⟩
        show (do let v ← Instr.makeMap t (some (a.eval x)); pure (.value v) : Sem Next).run P w = _
        have : (Instr.makeMap t (some (a.eval x))).run P w = (do let a ← newObj (.map #[] 0); pure (Value.map (some a)) : Sem Value).run P w := by
          simp [Instr.makeMap, hx', asInt, asIntOf, run_underlying' hu]
        rw [Sem.run_bind, this, h1']; rfl
      · cases h
  case makeSlice t x y =>
    obtain ⟨v, u, hv, hu, h⟩ := on2_inv h
    refine StepR.eff h fun z s' hm => ?_
    obtain ⟨q, w', ρ', h1, h2, h3, h4⟩ := mMakeSlice_sound R (opd_sound hE (by simp [Op.operands]) hv) (opd_sound hE (by simp [Op.operands]) hu) hm
    exact ⟨q, w', ρ', by simp [execOp, h1], h2, h3, h4⟩
  case slice t x lo hi mx =>
    unfold hSlice at h
    split at h
    · cases h
    rename_i v hv
    split at h
    · rename_i l1 l2 l3 e1 e2 e3
      refine StepR.pure R h fun u hm => ?_
      have hA : AsmOK ρ.σ ext.asm := by rw [R.sig]; exact hext.asm
      split at hm
      · obtain ⟨q, h1, h2⟩ := uSlice_sound hA R (opd_sound hE (by simp [Op.operands]) hv)
          (opdO_sound hE (fun y hy => by simp [Op.operands, hy]) e1)
          (opdO_sound hE (fun y hy => by simp [Op.operands, hy]) e2)
          (opdO_sound hE (fun y hy => by simp [Op.operands, hy]) e3) hm
        exact ⟨q, by simp [execOp, h1], h2⟩
      obtain ⟨q, h1, h2⟩ := mSlice_sound R (opd_sound hE (by simp [Op.operands]) hv)
        (opdO_sound hE (fun y hy => by simp [Op.operands, hy]) e1)
        (opdO_sound hE (fun y hy => by simp [Op.operands, hy]) e2)
        (opdO_sound hE (fun y hy => by simp [Op.operands, hy]) e3) hm
      exact ⟨q, by simp [execOp, h1], h2⟩
    · cases h
  case fieldAddr t x f =>
    obtain ⟨v, hv, h⟩ := on1_inv h
    refine StepR.pure R h fun z hm => ?_
    have hx := opd_sound hE (by simp [Op.operands]) hv
    split at hm
    · obtain ⟨q, h1, h2⟩ := uFieldAddr_sound (w := w) hx hm
      exact ⟨q, by simp [execOp, h1], h2⟩
    · obtain ⟨q, h1, h2⟩ := mFieldAddr_sound (w := w) hx hm
      exact ⟨q, by simp [execOp, h1], h2⟩
  case field t x f =>
    obtain ⟨v, hv, h⟩ := on1_inv h
    refine StepR.pure R h fun z hm => ?_
    obtain ⟨q, h1, h2⟩ := mField_sound (w := w) (opd_sound hE (by simp [Op.operands]) hv) hm
    exact ⟨q, by simp [execOp, h1], h2⟩
  case indexAddr t x y =>
    obtain ⟨v, u, hv, hu, h⟩ := on2_inv h
    refine StepR.pure R h fun z hm => ?_
    have hA : AsmOK ρ.σ ext.asm := by rw [R.sig]; exact hext.asm
    have hx := opd_sound hE (by simp [Op.operands]) hv
    have hy := opd_sound hE (by simp [Op.operands]) hu
    split at hm
    · rename_i a n
      obtain ⟨q, h1, h2⟩ := uIndexAddr_sound (P := P) (w := w) hA hx hy (by rw [R.sig]; exact hext.lies a) hm
      exact ⟨q, by simp [execOp, h1], h2⟩
    · obtain ⟨q, h1, h2⟩ := mIndexAddr_sound R hx hy hm
      exact ⟨q, by simp [execOp, h1], h2⟩
  case index t x y =>
    obtain ⟨v, u, hv, hu, h⟩ := on2_inv h
    refine StepR.pure R h fun z hm => ?_
    have hA : AsmOK ρ.σ ext.asm := by rw [R.sig]; exact hext.asm
    have hx := opd_sound hE (by simp [Op.operands]) hv
    have hy := opd_sound hE (by simp [Op.operands]) hu
    split at hm
    · obtain ⟨q, h1, h2⟩ := uIndex_sound (P := P) (w := w) hA hx hy hm
      exact ⟨q, by simp [execOp, h1], h2⟩
    · obtain ⟨q, h1, h2⟩ := mIndex_sound (w := w) hx hy hm
      exact ⟨q, by simp [execOp, h1], h2⟩
  case lookup t x y ok =>
    obtain ⟨v, u, hv, hu, h⟩ := on2_inv h
    refine StepR.pure R h fun z hm => ?_
    obtain ⟨q, h1, h2⟩ := mLookup_sound R (opd_sound hE (by simp [Op.operands]) hv) (opd_sound hE (by simp [Op.operands]) hu) hm
    exact ⟨q, by simp [execOp, h1], h2⟩
  case mapUpdate t m k x =>
    obtain ⟨v, u, z, hv, hu, hz, h⟩ := on3_inv h
    refine StepR.unit h fun s' hm => ?_
    obtain ⟨w', h1, h2⟩ := mMapUpdate_sound R (opd_sound hE (by simp [Op.operands]) hv) (opd_sound hE (by simp [Op.operands]) hu) (opd_sound hE (by simp [Op.operands]) hz) hm
    exact ⟨w', by simp [execOp, h1], h2⟩
  case insert t m k x =>
    obtain ⟨v, u, z, hv, hu, hz, h⟩ := on3_inv h
    refine StepR.unit h fun s' hm => ?_
    obtain ⟨w', h1, h2⟩ := mMapUpdate_sound R (opd_sound hE (by simp [Op.operands]) hv) (opd_sound hE (by simp [Op.operands]) hu) (opd_sound hE (by simp [Op.operands]) hz) hm
    exact ⟨w', by simp [execOp, h1], h2⟩
  case mapEntry t m k =>
    obtain ⟨v, u, hv, hu, h⟩ := on2_inv h
    refine StepR.eff h fun z s' hm => ?_
    obtain ⟨q, w', h1, h3, h4⟩ := mMapEntry_sound R (opd_sound hE (by simp [Op.operands]) hv) (opd_sound hE (by simp [Op.operands]) hu) hm
    exact ⟨q, w', ρ, by simp [execOp, h1], ρ.le_refl, h3, h4⟩
  case entryStore t m k x =>
    obtain ⟨v, u, z, hv, hu, hz, h⟩ := on3_inv h
    refine StepR.unit h fun s' hm => ?_
    obtain ⟨w', h1, h2⟩ := mEntryStore_sound (P := P) (t := t) R (opd_sound hE (by simp [Op.operands]) hv) (opd_sound hE (by simp [Op.operands]) hu) (opd_sound hE (by simp [Op.operands]) hz) hm
    exact ⟨w', by simp [execOp, h1], h2⟩
  case range t x =>
    obtain ⟨v, hv, h⟩ := on1_inv h
    refine StepR.eff h fun z s' hm => ?_
    obtain ⟨q, w', ρ', h1, h2, h3, h4⟩ := mRange_sound R (opd_sound hE (by simp [Op.operands]) hv) hm
    exact ⟨q, w', ρ', by simp [execOp, h1], h2, h3, h4⟩
  case next it isStr =>
    obtain ⟨v, hv, h⟩ := on1_inv h
    unfold hNext at h
    split at h
    · cases h
    · split at h
      · rename_i l hl
        cases h
        obtain ⟨z, w', u, s', h1, h2, h3, h4⟩ := mNext_sound (P := P) (t := type) R (opd_sound hE (by simp [Op.operands]) hv) hl
        exact ⟨z, w', u, s', h1, by simp [execOp, h2], h3, h4⟩
      · cases h
  case entry it =>
    obtain ⟨v, hv, h⟩ := on1_inv h
    refine StepR.pure R h fun z hm => ?_
    obtain ⟨q, h1, h2⟩ := mEntry_sound (P := P) R (opd_sound hE (by simp [Op.operands]) hv) hm
    exact ⟨q, by simp [execOp, h1], h2⟩
  case typeAssert x xt t ok =>
    obtain ⟨v, hv, h⟩ := on1_inv h
    refine StepR.pure R h fun z hm => ?_
    obtain ⟨q, h1, h2⟩ := mTypeAssert_sound (w := w) (xt := xt) (opd_sound hE (by simp [Op.operands]) hv) hm
    exact ⟨q, by simp [execOp, h1], h2⟩
  case extract x i =>
    obtain ⟨v, hv, h⟩ := on1_inv h
    have h1 := opd_sound hE (by simp [Op.operands]) hv
    unfold hExtract at h
    split at h
    · rename_i vs
      refine StepR.pure R h fun z hm => ?_
      simp only [VR] at h1
      obtain ⟨xs, h1, h2⟩ := h1
      obtain ⟨q, hq, hr⟩ := h2.get hm
      rw [Array.getElem?_toList] at hq
      exact ⟨q, by simp [execOp, Instr.extract, h1, hq], hr⟩
    · cases h
  case call c =>
    exact call_sound hng hext R (by simpa [Op.operands] using hE) h

end
end Go.Mir
