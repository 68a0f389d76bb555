/- One operation of the mirror against the machine's. -/
import Derived.Test.YtohonlojnflejaaGreatDoorMirSEq
namespace Go.Mir
open Go.RowKit

/-- What is taken of the functions without a body. -/
structure ExtOK (P : Program) (C : Ctx) (ext : Ext) : Prop where
  fn : ∀ f g args v fn, ext.fn f = some g → g args = some v → P.funcs[f]? = some fn → fn.body = none →
    ∀ (ρ : Loc) (xs : Array Value) (w : World), ρ.σ = C.σ → VRs ρ args xs.toList → ∃ x, (callFunc f xs).run P w = .ok (.value x) w ∧ VR ρ v x
  asm : AsmOK C.σ ext.asm
  arr : ∀ a D, ext.dsc a = some D → ArrOK C a D
  lies : ∀ a, 0 < (C.σ.arr a).2 → ∃ ad, (C.σ.arr a).1 = some ad ∧ ad.spot = none

/-- No function of the program is runtime.NumGoroutine. -/
def NoNum (P : Program) : Prop := ∀ (f : Nat) (fn : Func), P.funcs[f]? = some fn → (fn.name == "runtime.NumGoroutine") = false

section
variable {P : Program} {w : World} {C : Ctx} {ρ : Loc} {s : MS}

theorem mClear_sound (R : Repr C ρ s w) {ts : Array TypeId} {ty : TypeId} {a v : MV} {x : Value} {s' : MS} (hx : VR ρ a x) (h : mClear P ts a s = some (v, s')) :
    ∃ z w', (Builtin.clear_ ts ty #[x]).run P w = .ok z w' ∧ VR ρ v z ∧ Repr C ρ s' w' := by
  unfold mClear at h
  split at h
  · cases h
  rename_i t ht
  have hzr : ∀ {z : MV} {z' : Value} (n : Nat), VR ρ z z' → VRs ρ (List.replicate n z.cells).flatten (Builtin.zeroCells z'.cells n).toList := fun n hz => zero_row hz n
  split at h
  · rename_i d hu
    cases h
    simp only [VR] at hx; subst hx
    refine ⟨.tuple #[], w, ?_, by simp only [VR]; exact ⟨_, rfl, .nil⟩, R⟩
    simp [Builtin.clear_, ht, run_underlying' hu]
  · rename_i e hp off n cap hu
    simp only [Option.bind_eq_bind, Option.bind_eq_some_iff] at h
    obtain ⟨zv, hzv, sz, hsz, h⟩ := h
    have hx' := hx
    simp only [VR] at hx
    obtain ⟨i, hi, rfl, _⟩ := hx
    split at h
    · rename_i h0
      cases h; subst h0
      refine ⟨.tuple #[], w, ?_, by simp only [VR]; exact ⟨_, rfl, .nil⟩, R⟩
      simp [Builtin.clear_, ht, run_underlying' hu]
    · rename_i h0
      split at h
      · cases h
      simp only [Option.map_eq_some_iff] at h
      obtain ⟨s1, hs1, h⟩ := h
      cases h
      obtain ⟨z', hz1, hz2, _⟩ := run_zeroValue' (P := P) (w := w) (ρ := ρ) hzv
      obtain ⟨w', hw', hR'⟩ := store_sound (P := P) R hi hs1 (hzr n hz2)
      refine ⟨.tuple #[], w', ?_, by simp only [VR]; exact ⟨_, rfl, .nil⟩, hR'⟩
      obtain ⟨n, rfl⟩ : ∃ m, n = m + 1 := ⟨n - 1, by omega⟩
      simp only [Builtin.clear_, List.getElem?_toArray, List.getElem?_cons_zero, ht, Sem.run_bind, run_underlying' hu, Result.andThen_ok, hz1, hw', Sem.run_pure]
  · rename_i e hp eo n hu
    simp only [Option.bind_eq_bind, Option.bind_eq_some_iff] at h
    obtain ⟨zv, hzv, sz, hsz, h⟩ := h
    simp only [VR] at hx
    obtain ⟨i, hi, hx⟩ := hx
    split at h
    · rename_i h0
      cases h; subst h0
      rcases hx with ⟨c, rfl, _, _⟩ | ⟨_, o, rfl⟩ <;>
        exact ⟨.tuple #[], w, by simp [Builtin.clear_, ht, run_underlying' hu], by simp only [VR]; exact ⟨_, rfl, .nil⟩, R⟩
    · rename_i h0
      simp only [Option.bind_eq_some_iff] at h
      obtain ⟨ob, hob, h⟩ := h
      split at h
      case h_2 => cases h
      rename_i all sz'
      split at h
      · cases h
      rename_i hszs
      simp only [Option.map_eq_some_iff] at h
      obtain ⟨s1, hs1, h⟩ := h
      cases h
      obtain ⟨j, b', hj, _, hor, _⟩ := R.obj _ _ hob
      rw [hi] at hj; cases hj
      obtain ⟨_, _, _, _, _, _, hisz, _⟩ := hor
      have hsz' : sz' = sz := by
        have := not_or.1 hszs
        simpa using this.2
      obtain ⟨z', hz1, hz2, _⟩ := run_zeroValue' (P := P) (w := w) (ρ := ρ) hzv
      obtain ⟨w', hw', hR'⟩ := store_sound (P := P) R hi hs1 (hzr n hz2)
      rcases hx with ⟨c, rfl, _, _⟩ | ⟨hl0, o, rfl⟩
      · refine ⟨.tuple #[], w', ?_, by simp only [VR]; exact ⟨_, rfl, .nil⟩, hR'⟩
        obtain ⟨n, rfl⟩ : ∃ m, n = m + 1 := ⟨n - 1, by omega⟩
        rw [← hsz', ← hisz] at hw'
        simp only [Builtin.clear_, List.getElem?_toArray, List.getElem?_cons_zero, ht, Sem.run_bind, run_underlying' hu, Result.andThen_ok, hz1, hw', Sem.run_pure]
      · exact absurd hl0 h0
  · cases h

/-- The variables that an operation reads. -/
def Agree (ρ : Loc) (E : Env) (a : Act) (xs : Array Operand) : Prop := ∀ t v, Operand.tmp t ∈ xs → E.look t = some v → VR ρ v (a.eval (.tmp t))

theorem opd_sound {E : Env} {a : Act} {xs : Array Operand} (hE : Agree ρ E a xs) {x : Operand} (hx : x ∈ xs) {v : MV} (h : opd E x = some v) : VR ρ v (a.eval x) := by
  cases x with
  | tmp t => exact hE t v hx h
  | const c => exact ofValue_VR _ _ _ h
  | func f => simp only [opd] at h; cases h; simp only [VR, Act.eval]; exact ⟨_, _, rfl, .nil, .nil⟩
  | global g => simp [opd] at h

theorem opds_sound {E : Env} {a : Act} : ∀ (xs : List Operand) (l : List MV), (∀ t v, Operand.tmp t ∈ xs → E.look t = some v → VR ρ v (a.eval (.tmp t))) → xs.mapM (opd E) = some l → VRs ρ l (xs.map a.eval)
  | [], l, _, h => by simp at h; subst h; exact .nil
  | x :: xs, l, hE, h => by
    rw [List.mapM_cons] at h
    simp only [Option.bind_eq_bind, Option.pure_def, Option.bind_eq_some_iff] at h
    obtain ⟨v, hv, l', hl', h⟩ := h
    cases h
    refine .cons ?_ (opds_sound xs l' (fun t v ht => hE t v (List.mem_cons_of_mem _ ht)) hl')
    exact opd_sound (xs := (x :: xs).toArray) (fun t v ht => hE t v (by simpa using ht)) (by simp) hv

theorem parts_sound {E : Env} {a : Act} : ∀ (ps : List (Nat × Operand)) (l : List (Nat × MV)), (∀ t v, Operand.tmp t ∈ ps.map (·.2) → E.look t = some v → VR ρ v (a.eval (.tmp t))) → ps.mapM (fun p => (opd E p.2).map (p.1, ·)) = some l → PRs ρ l (ps.map fun p => (p.1, a.eval p.2))
  | [], l, _, h => by simp at h; subst h; simp [PRs]
  | p :: ps, l, hE, h => by
    rw [List.mapM_cons] at h
    simp only [Option.bind_eq_bind, Option.pure_def, Option.bind_eq_some_iff, Option.map_eq_some_iff] at h
    obtain ⟨q, ⟨v, hv, rfl⟩, l', hl', h⟩ := h
    cases h
    simp only [PRs, List.map_cons]
    refine ⟨_, _, rfl, rfl, ?_, parts_sound ps l' (fun t v ht => hE t v (List.mem_cons_of_mem _ ht)) hl'⟩
    exact opd_sound (xs := (p.2 :: ps.map (·.2)).toArray) (fun t v ht => hE t v (by simpa using ht)) (by simp) hv

/-- What a step of the mirror says of the machine's. -/
def StepR (C : Ctx) (ρ : Loc) (s : MS) (r : Result Next) : MStep → Prop
  | .val v s' => ∃ x w' ρ', (r = .ok (.value x) w' ∨ (r = .ok .skip w' ∧ x = undef)) ∧ ρ.le ρ' ∧ VR ρ' v x ∧ Repr C ρ' s' w'
  | .many l => ∃ x w' v s', (v, s') ∈ l ∧ r = .ok (.value x) w' ∧ VR ρ v x ∧ Repr C ρ s' w'
  | .call f args => ∃ xs w', r = .ok (.enter f xs) w' ∧ VRs ρ args xs.toList ∧ Repr C ρ s w'

theorem StepR.pure {r : Result Next} {m : Option MV} {st : MStep} (R : Repr C ρ s w) (h : pureS m s = some st) (k : ∀ v, m = some v → ∃ x, r = .ok (.value x) w ∧ VR ρ v x) : StepR C ρ s r st := by
  unfold pureS at h
  split at h
  · rename_i v
    cases h
    obtain ⟨x, h1, h2⟩ := k v rfl
    exact ⟨x, w, ρ, .inl h1, ρ.le_refl, h2, R⟩
  · cases h

theorem StepR.eff {r : Result Next} {m : Option (MV × MS)} {st : MStep} (h : effS m = some st) (k : ∀ v s', m = some (v, s') → ∃ x w' ρ', r = .ok (.value x) w' ∧ ρ.le ρ' ∧ VR ρ' v x ∧ Repr C ρ' s' w') : StepR C ρ s r st := by
  unfold effS at h
  split at h
  · rename_i p
    cases h
    obtain ⟨x, w', ρ', h1, h2, h3, h4⟩ := k p.1 p.2 rfl
    exact ⟨x, w', ρ', .inl h1, h2, h3, h4⟩
  · cases h

theorem StepR.unit {r : Result Next} {m : Option MS} {st : MStep} (h : unitS m = some st) (k : ∀ s', m = some s' → ∃ w', r = .ok .skip w' ∧ Repr C ρ s' w') : StepR C ρ s r st := by
  unfold unitS at h
  split at h
  · rename_i s'
    cases h
    obtain ⟨w', h1, h2⟩ := k s' rfl
    exact ⟨undef, w', ρ, .inr ⟨h1, rfl⟩, ρ.le_refl, by simp only [MV.undef, VR]; exact ⟨_, rfl, .nil⟩, h2⟩
  · cases h

/-- A call of a function by its number. -/
theorem callF_sound (hng : NoNum P) {ext : Ext} (hext : ExtOK P C ext) (R : Repr C ρ s w) {f : FuncId} {args : List MV} {xs : Array Value} (hxs : VRs ρ args xs.toList) {st : MStep} (h : mCallF P ext f args s = some st) :
    StepR C ρ s ((callFunc f xs).run P w) st := by
  unfold mCallF at h
  split at h
  · cases h
  rename_i fn hf
  split at h
  · rename_i c hb
    cases h
    refine ⟨xs, w, ?_, hxs, R⟩
    have hn := hng f fn hf
    simp only [beq_eq_false_iff_ne, ne_eq] at hn
    simp [callFunc, hf, hn, hb]
  · rename_i hb
    simp only [Option.bind_eq_some_iff, Option.map_eq_some_iff] at h
    obtain ⟨g, hg, v, hv, rfl⟩ := h
    obtain ⟨x, h1, h2⟩ := hext.fn f g args v fn hg hv hf hb ρ xs w R.sig hxs
    exact ⟨x, w, ρ, .inl h1, ρ.le_refl, h2, R⟩

theorem builtin_sound {A : Asm} (hA : AsmOK ρ.σ A) (R : Repr C ρ s w) {b : Builtin} {ts : Array TypeId} {ty : TypeId} {consts : Array Bool} {args : List MV} {xs : Array Value} (hxs : VRs ρ args xs.toList) {st : MStep} (h : mBuiltin P A b ts args s = some st) :
    StepR C ρ s ((builtin b ts ty consts xs).run P w) st := by
  have one : ∀ {a : MV}, args = [a] → ∃ x, xs = #[x] ∧ VR ρ a x := by
    rintro a rfl
    obtain ⟨x, ys, hx, h1, h2⟩ := hxs.cons_inv
    rw [h2.nil_inv] at hx
    exact ⟨x, by apply Array.ext'; simpa using hx, h1⟩
  have two : ∀ {a b : MV}, args = [a, b] → ∃ x y, xs = #[x, y] ∧ VR ρ a x ∧ VR ρ b y := by
    rintro a b rfl
    obtain ⟨x, ys, hx, h1, h2⟩ := hxs.cons_inv
    obtain ⟨y, zs, hy, h3, h4⟩ := h2.cons_inv
    rw [h4.nil_inv] at hy
    exact ⟨x, y, by apply Array.ext'; simp [hx, hy], h1, h3⟩
  unfold mBuiltin at h
  split at h
  · obtain ⟨x, y, rfl, hx, hy⟩ := two rfl
    refine StepR.eff h fun v s' hm => ?_
    obtain ⟨z, w', ρ', h1, h2, h3, h4⟩ := mAppend_sound (ty := ty) R hx hy hm
    exact ⟨z, w', ρ', by simp [builtin, h1], h2, h3, h4⟩
  · obtain ⟨x, y, rfl, hx, hy⟩ := two rfl
    refine StepR.eff h fun v s' hm => ?_
    obtain ⟨z, w', h1, h3, h4⟩ := mCopy_sound (ty := ty) R hx hy hm
    exact ⟨z, w', ρ, by simp [builtin, h1], ρ.le_refl, h3, h4⟩
  · obtain ⟨x, rfl, hx⟩ := one rfl
    refine StepR.pure R h fun v hm => ?_
    obtain ⟨z, h1, h3⟩ := uLen_sound (ty := ty) hA R hx hm
    exact ⟨z, by simp [builtin, h1], h3⟩
  · refine StepR.pure R h fun v hm => ?_
    split at hm
    · obtain ⟨z, h1, h3⟩ := symMinMax_sound (P := P) (w := w) (ts := ts) (ty := ty) hA hxs hm
      exact ⟨z, by simp only [Bool.false_eq_true, if_false] at h1; simp [builtin, h1], h3⟩
    · obtain ⟨z, h1, h3⟩ := mMinMax_sound (P := P) (w := w) (ts := ts) (ty := ty) hxs hm
      exact ⟨z, by simp only [Bool.false_eq_true, if_false] at h1; simp [builtin, h1], h3⟩
  · refine StepR.pure R h fun v hm => ?_
    split at hm
    · obtain ⟨z, h1, h3⟩ := symMinMax_sound (P := P) (w := w) (ts := ts) (ty := ty) hA hxs hm
      exact ⟨z, by simp only [if_true] at h1; simp [builtin, h1], h3⟩
    · obtain ⟨z, h1, h3⟩ := mMinMax_sound (P := P) (w := w) (ts := ts) (ty := ty) hxs hm
      exact ⟨z, by simp only [if_true] at h1; simp [builtin, h1], h3⟩
  · obtain ⟨x, y, rfl, hx, hy⟩ := two rfl
    refine StepR.eff h fun v s' hm => ?_
    obtain ⟨z, w', h1, h3, h4⟩ := mDelete_sound (ty := ty) R hx hy hm
    exact ⟨z, w', ρ, by simp [builtin, h1], ρ.le_refl, h3, h4⟩
  · obtain ⟨x, rfl, hx⟩ := one rfl
    refine StepR.eff h fun v s' hm => ?_
    obtain ⟨z, w', h1, h3, h4⟩ := mClear_sound (ty := ty) R hx hm
    exact ⟨z, w', ρ, by simp [builtin, h1], ρ.le_refl, h3, h4⟩
  · cases h

end
end Go.Mir
