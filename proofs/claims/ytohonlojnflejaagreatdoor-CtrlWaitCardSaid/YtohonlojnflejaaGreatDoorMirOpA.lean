/- The mirror's operations against the machine's: operators, tests of types, lengths. -/
import Derived.Test.YtohonlojnflejaaGreatDoorMirOp9
namespace Go.Mir
open Go.RowKit

section
variable {P : Program} {w : World} {C : Ctx} {ρ : Loc} {s : MS}

theorem mIntOp_sound {op : BinOp} {k : IntKind} {a b : Int} {v : MV} (t : TypeId) (h : mIntOp op k a b = some v) :
    ∃ y, (binOp op t (.int k a) (.int k b)).run P w = .ok y w ∧ VR ρ v y := by
  cases op <;> simp only [mIntOp] at h <;> first
    | (cases h; done)
    | (cases h; refine ⟨_, ?_, by simp only [VR]; rfl⟩; simp [binOp, Op.intArith, Op.intBits, Op.intCmp]; done)
    | (split at h
       · cases h
       · rename_i h0
         cases h; refine ⟨_, ?_, by simp only [VR]; rfl⟩; simp [binOp, Op.intDiv, h0])

theorem bless_eq : ∀ a b : List UInt8, bless a b = Op.bytesLess a b
  | _, [] => by simp [bless, Op.bytesLess]
  | [], _ :: _ => by simp [bless, Op.bytesLess]
  | a :: x, b :: y => by simp [bless, Op.bytesLess, bless_eq x y]

theorem mStrOp_sound {op : BinOp} {a b : List UInt8} {v : MV} (t : TypeId) (h : mStrOp op a b = some v) :
    ∃ y, (binOp op t (.string ⟨a.toArray⟩) (.string ⟨b.toArray⟩)).run P w = .ok y w ∧ VR ρ v y := by
  have e1 : ∀ l : List UInt8, (⟨l.toArray⟩ : ByteArray).toList = l := fun l => by rw [ByteArray.toList_eq]
  cases op <;> simp only [mStrOp] at h <;> first
    | (cases h; done)
    | (cases h; refine ⟨_, ?_, by simp only [VR]; rfl⟩; simp [binOp, Op.stringOp, e1, bless_eq]; done)
    | skip
  split at h
  · rename_i hb
    cases h
    refine ⟨.string (⟨a.toArray⟩ ++ ⟨b.toArray⟩), ?_, ?_⟩
    · simp only [binOp, Op.stringOp]
      rw [if_neg (by rw [IntKind.max_i64, bytes_size, bytes_size]; omega)]
      simp
    · simp only [VR]
      first | (congr 1; done) | (congr 1; apply ByteArray.ext; simp)
  · cases h

theorem plain_shape {a : MV} {x : Value} (hx : VR ρ a x) (ha : a.plainEq = true) :
    (∀ k n, x ≠ .int k n) ∧ (∀ k n, x ≠ .float k n) ∧ (∀ k a b, x ≠ .complex k a b) ∧ (∀ s, x ≠ .string s) := by
  cases a <;> simp only [MV.plainEq] at ha <;> first | (cases ha; done) | skip
  all_goals simp only [VR] at hx
  case gsl => obtain ⟨i, _, ⟨c, rfl, _, _⟩ | ⟨_, o, rfl⟩⟩ := hx <;> exact ⟨by simp, by simp, by simp, by simp⟩
  case sl => obtain ⟨i, _, rfl, _⟩ := hx; exact ⟨by simp, by simp, by simp, by simp⟩
  case ptr => obtain ⟨i, _, rfl⟩ := hx; exact ⟨by simp, by simp, by simp, by simp⟩
  case map => obtain ⟨i, _, rfl⟩ := hx; exact ⟨by simp, by simp, by simp, by simp⟩
  case func => obtain ⟨_, _, rfl, _⟩ := hx; exact ⟨by simp, by simp, by simp, by simp⟩
  case iface => obtain ⟨_, rfl, _⟩ := hx; exact ⟨by simp, by simp, by simp, by simp⟩
  case agg => obtain ⟨_, rfl, _⟩ := hx; exact ⟨by simp, by simp, by simp, by simp⟩
  case tuple => obtain ⟨_, rfl, _⟩ := hx; exact ⟨by simp, by simp, by simp, by simp⟩
  all_goals (subst hx; exact ⟨by simp, by simp, by simp, by simp⟩)

theorem binOp_eql (t : TypeId) {x : Value} (y : Value) (h : (∀ k n, x ≠ .int k n) ∧ (∀ k n, x ≠ .float k n) ∧ (∀ k a b, x ≠ .complex k a b) ∧ (∀ s, x ≠ .string s)) :
    binOp .eql t x y = (do pure (.bool (← Op.equal t x y))) := by
  obtain ⟨h1, h2, h3, h4⟩ := h
  cases x <;> first | rfl | exact absurd rfl (h1 _ _) | exact absurd rfl (h2 _ _) | exact absurd rfl (h3 _ _ _) | exact absurd rfl (h4 _)
theorem binOp_neq (t : TypeId) {x : Value} (y : Value) (h : (∀ k n, x ≠ .int k n) ∧ (∀ k n, x ≠ .float k n) ∧ (∀ k a b, x ≠ .complex k a b) ∧ (∀ s, x ≠ .string s)) :
    binOp .neq t x y = (do pure (.bool (!(← Op.equal t x y)))) := by
  obtain ⟨h1, h2, h3, h4⟩ := h
  cases x <;> first | rfl | exact absurd rfl (h1 _ _) | exact absurd rfl (h2 _ _) | exact absurd rfl (h3 _ _ _) | exact absurd rfl (h4 _)

theorem isConst_run {x : Operand} : (match x with | .const _ => true | _ => false) = isConstO x := by cases x <;> rfl

theorem eqGuard_run (op : BinOp) {t : TypeId} {xo yo : Operand} {a b : MV} {x y : Value} (hx : VR ρ a x) (hy : VR ρ b y) (h : eqOk P t xo yo a b = true) : (eqGuard op t xo yo x y).run P w = .ok () w := by
  by_cases hop : (op = .eql ∨ op = .neq)
  case neg => cases op <;> first | (exact absurd (Or.inl rfl) hop) | (exact absurd (Or.inr rfl) hop) | rfl
  have other : (∀ z, x ≠ .agg z) → x ≠ .nilIface → (eqGuard op t xo yo x y).run P w = .ok () w := by
    intro h1 h2
    rcases hop with rfl | rfl <;> cases x <;> first | rfl | exact absurd rfl (h1 _) | exact absurd rfl h2
  cases a
  case nilIface =>
    simp only [VR] at hx; subst hx
    cases b
    case nilIface =>
      simp only [VR] at hy; subst hy
      simp only [eqOk, Bool.or_eq_true] at h
      rcases hop with rfl | rfl <;> cases xo <;> cases yo <;> simp [isConstO] at h <;> rfl
    all_goals
      simp only [VR] at hy
      rcases hop with rfl | rfl <;> cases y <;> first | rfl | (simp at hy; done)
  case agg cs =>
    simp only [VR] at hx
    obtain ⟨xs, rfl, _⟩ := hx
    cases b
    case agg =>
      simp only [VR] at hy
      obtain ⟨ys, rfl, _⟩ := hy
      exact run_eqGuard_agg w op t xo yo xs ys (by simpa [eqOk] using h)
    all_goals
      simp only [VR] at hy
      rcases hop with rfl | rfl <;> cases y <;> first | rfl | (simp at hy; done)
  all_goals
    simp only [VR] at hx
    refine other (fun z e => ?_) (fun e => ?_) <;> subst e <;> simp at hx

theorem mEqBin_sound {neg : Bool} {t : TypeId} {xo yo : Operand} {a b v : MV} {x y : Value} (hx : VR ρ a x) (hy : VR ρ b y) (h : mEqBin P neg t xo yo a b = some v) :
    ∃ z, (do eqGuard (if neg then .neq else .eql) t xo yo x y; binOp (if neg then .neq else .eql) t x y : Sem Value).run P w = .ok z w ∧ VR ρ v z := by
  unfold mEqBin at h
  split at h
  · cases h
  rename_i hpl
  split at h
  · cases h
  rename_i hok
  split at h
  case h_2 => cases h
  rename_i r hr
  cases h
  have he : (Op.equal t x y).run P w = .ok r w := mEqual_sound _ _ _ _ _ _ _ hx hy hr
  have hsh := plain_shape hx hpl
  refine ⟨.bool (r != neg), ?_, by simp [VR]⟩
  simp only [Sem.run_bind, eqGuard_run _ hx hy hok, Result.andThen_ok]
  cases neg
  · simp only [Bool.false_eq_true, if_false, binOp_eql t y hsh]; simp [he]
  · simp only [if_true, binOp_neq t y hsh]; simp [he]

theorem mBin_sound {op : BinOp} {t : TypeId} {xo yo : Operand} {a b v : MV} {x y : Value} (hx : VR ρ a x) (hy : VR ρ b y) (h : mBin P op t xo yo a b = some v) :
    ∃ z, (do eqGuard op t xo yo x y; binOp op t x y : Sem Value).run P w = .ok z w ∧ VR ρ v z := by
  unfold mBin at h
  split at h
  · rename_i k n k' m
    split at h
    · cases h
    rename_i hm
    cases h
    simp only [VR] at hx hy; subst hx; subst hy
    exact ⟨_, by simp [eqGuard, binOp, Op.shift, hm]; rfl, by simp only [VR]⟩
  · rename_i k n k' m
    split at h
    · cases h
    rename_i hm
    cases h
    simp only [VR] at hx hy; subst hx; subst hy
    exact ⟨_, by simp [eqGuard, binOp, Op.shift, hm]; rfl, by simp only [VR]⟩
  · rename_i k n k' m _ _
    split at h
    case isFalse => cases h
    rename_i hk
    subst hk
    simp only [VR] at hx hy; subst hx; subst hy
    obtain ⟨z, hz, hv⟩ := mIntOp_sound (P := P) (w := w) (ρ := ρ) t h
    exact ⟨z, by simp only [Sem.run_bind, eqGuard_at_int, Sem.run_pure, Result.andThen_ok]; exact hz, hv⟩
  · rename_i c d
    simp only [VR] at hx hy; subst hx; subst hy
    obtain ⟨z, hz, hv⟩ := mStrOp_sound (P := P) (w := w) (ρ := ρ) t h
    exact ⟨z, by simp only [Sem.run_bind, eqGuard_at_string, Sem.run_pure, Result.andThen_ok]; exact hz, hv⟩
  · have := mEqBin_sound (P := P) (w := w) hx hy h
    simpa using this
  · have := mEqBin_sound (P := P) (w := w) hx hy h
    simpa using this
  · cases h

theorem mUn_sound {op : UnOp} {a v : MV} {x : Value} (hx : VR ρ a x) (h : mUn op a = some v) : ∃ y, (Op.unary op x).run P w = .ok y w ∧ VR ρ v y := by
  unfold mUn at h
  split at h <;> first | (cases h; done) | skip
  all_goals
    cases h
    simp only [VR] at hx; subst hx
    refine ⟨_, ?_, by simp only [VR]; rfl⟩
    simp [Op.unary, Op.intArith, Op.intBits]

theorem mTypeAssert_sound {a v : MV} {x : Value} {xt t : TypeId} {ok : Bool} (hx : VR ρ a x) (h : mTypeAssert P a t ok = some v) : ∃ y, (Instr.typeAssert x xt t ok).run P w = .ok y w ∧ VR ρ v y := by
  unfold mTypeAssert at h
  have zero : ∀ {z : MV}, zeroT P t = some z → ∃ z', (zeroValue t).run P w = .ok z' w ∧ VR ρ z z' := fun hz => let ⟨z', h1, h2, _⟩ := run_zeroValue' (P := P) (w := w) (ρ := ρ) hz; ⟨z', h1, h2⟩
  split at h
  · cases h
  · rename_i d hnot hu
    simp only [VR] at hx; subst hx
    split at h
    case isFalse => cases h
    rename_i hok
    simp only [Option.map_eq_some_iff] at h
    obtain ⟨z, hz, rfl⟩ := h
    obtain ⟨z', hz1, hz2⟩ := zero hz
    refine ⟨.tuple #[z', .bool false], ?_, by simp only [VR]; exact ⟨_, rfl, .cons hz2 (.cons (by simp [VR]) .nil)⟩⟩
    cases d <;> first | (exact (hnot _ rfl).elim) | simp [Instr.typeAssert, run_underlying' hu, hok, hz1]
  · rename_i d t' u hnot hu
    simp only [VR] at hx
    obtain ⟨y, rfl, hy⟩ := hx
    split at h
    · rename_i ht
      subst ht
      cases h
      cases ok
      · refine ⟨y, ?_, by simpa using hy⟩
        cases d <;> first | (exact (hnot _ rfl).elim) | simp [Instr.typeAssert, run_underlying' hu]
      · refine ⟨.tuple #[y, .bool true], ?_, by simp only [if_true, VR]; exact ⟨_, rfl, .cons hy (.cons (by simp [VR]) .nil)⟩⟩
        cases d <;> first | (exact (hnot _ rfl).elim) | simp [Instr.typeAssert, run_underlying' hu]
    · rename_i ht
      split at h
      case isFalse => cases h
      rename_i hok
      simp only [Option.map_eq_some_iff] at h
      obtain ⟨z, hz, rfl⟩ := h
      obtain ⟨z', hz1, hz2⟩ := zero hz
      refine ⟨.tuple #[z', .bool false], ?_, by simp only [VR]; exact ⟨_, rfl, .cons hz2 (.cons (by simp [VR]) .nil)⟩⟩
      cases d <;> first | (exact (hnot _ rfl).elim) | simp [Instr.typeAssert, run_underlying' hu, hok, hz1, ht]
  · cases h

end
end Go.Mir
