/- The mirror's operations against the machine's: equality, operators. -/
import Derived.Test.YtohonlojnflejaaGreatDoorMirOp8
import Derived.Laws.StructEq
namespace Go.Mir
open Go.RowKit

section
variable {P : Program} {w : World} {C : Ctx} {ρ : Loc} {s : MS}

/-- An array's elements, one by one. -/
def eqElems (d : Nat) (e : TypeId) (n : Nat) (xs ys : Array Value) : List Nat → Sem Bool
  | [] => pure true
  | i :: is => do
    let a ← part e xs (i * n)
    let b ← part e ys (i * n)
    let r ← Op.equalIn d e a b
    if (!r) = true then pure false else eqElems d e n xs ys is

theorem run_equalIn_array (w : World) (d : Nat) (t e : TypeId) (len n : Nat) (xs ys : Array Value) (ht : P.underlying t = some (.array len e)) (hn : sizeT P e = some n) :
    (Op.equalIn (d + 1) t (.agg xs) (.agg ys)).run P w = (eqElems d e n xs ys (List.range' 0 len)).run P w := by
  simp only [Op.equalIn, Sem.run_bind, run_underlying' ht, Result.andThen_ok, run_sizeOf' hn]
  rw [Std.Legacy.Range.forIn_eq_forIn_range']
  simp only [Std.Legacy.Range.size, Nat.sub_zero, Nat.add_sub_cancel, Nat.div_one]
  generalize List.range' 0 len = is
  induction is generalizing w with
  | nil => simp [eqElems]
  | cons i is ih =>
    simp only [List.forIn_cons, eqElems, Sem.run_bind, Sem.run_ite]
    generalize (part e xs (i * n)).run P w = r1
    cases r1 with
    | ok a w1 =>
      simp only [Result.andThen_ok]
      generalize (part e ys (i * n)).run P w1 = r2
      cases r2 with
      | ok b w2 =>
        simp only [Result.andThen_ok]
        generalize (Op.equalIn d e a b).run P w2 = r3
        cases r3 with
        | ok r w3 =>
          cases r
          · simp only [Result.andThen_ok, Bool.not_false, if_true, Sem.run_pure]
          · simp only [Result.andThen_ok, Bool.not_true, Bool.false_eq_true, if_false, Sem.run_pure]
            exact ih w3
        | halt x w3 => simp [Result.andThen]
      | halt x w2 => simp [Result.andThen]
    | halt x w1 => simp [Result.andThen]

theorem beq_bytes (a b : List UInt8) : ((⟨a.toArray⟩ : ByteArray) == ⟨b.toArray⟩) = (a == b) := by
  rw [beq_toListBytes, ByteArray.toList_eq, ByteArray.toList_eq]

theorem eqFields_sound {d : Nat} (ih : ∀ (t : TypeId) (a b : MV) (x y : Value) (r : Bool), VR ρ a x → VR ρ b y → mEqual P d t a b = some r → (Op.equalIn d t x y).run P w = .ok r w) {xs ys : List MV} {xs' ys' : Array Value} (hx : VRs ρ xs xs'.toList) (hy : VRs ρ ys ys'.toList) :
    ∀ (fs : List Field) (r : Bool), eqFieldsM P (mEqual P d) xs ys fs = some r → (Op.eqFields d xs' ys' fs).run P w = .ok r w
  | [], r, h => by simp only [eqFieldsM] at h; cases h; simp [Op.eqFields]
  | f :: fs, r, h => by
    simp only [eqFieldsM] at h
    simp only [Op.eqFields]
    split at h
    · rename_i hn
      rw [if_pos hn]
      split at h
      · cases h
      rename_i a ha
      split at h
      · cases h
      rename_i b hb
      obtain ⟨x, hx1, hx2⟩ := mPart_sound (P := P) (w := w) hx ha
      obtain ⟨y, hy1, hy2⟩ := mPart_sound (P := P) (w := w) hy hb
      simp only [Sem.run_bind, hx1, hy1, Result.andThen_ok]
      split at h
      · cases h
      · rename_i he
        cases h
        rw [ih _ _ _ _ _ _ hx2 hy2 he]; simp
      · rename_i he
        rw [ih _ _ _ _ _ _ hx2 hy2 he]
        simp only [Result.andThen_ok, Bool.not_true, Bool.false_eq_true, if_false]
        exact eqFields_sound ih hx hy fs r h
    · rename_i hn
      rw [if_neg hn]
      exact eqFields_sound ih hx hy fs r h

theorem eqElems_sound {d : Nat} (ih : ∀ (t : TypeId) (a b : MV) (x y : Value) (r : Bool), VR ρ a x → VR ρ b y → mEqual P d t a b = some r → (Op.equalIn d t x y).run P w = .ok r w) {xs ys : List MV} {xs' ys' : Array Value} (hx : VRs ρ xs xs'.toList) (hy : VRs ρ ys ys'.toList) {e : TypeId} {n : Nat} :
    ∀ (is : List Nat) (r : Bool), eqElemsM P (mEqual P d) e n xs ys is = some r → (eqElems d e n xs' ys' is).run P w = .ok r w
  | [], r, h => by simp only [eqElemsM] at h; cases h; simp [eqElems]
  | i :: is, r, h => by
    simp only [eqElemsM] at h
    simp only [eqElems]
    split at h
    · cases h
    rename_i a ha
    split at h
    · cases h
    rename_i b hb
    obtain ⟨x, hx1, hx2⟩ := mPart_sound (P := P) (w := w) hx ha
    obtain ⟨y, hy1, hy2⟩ := mPart_sound (P := P) (w := w) hy hb
    simp only [Sem.run_bind, hx1, hy1, Result.andThen_ok]
    split at h
    · cases h
    · rename_i he
      cases h
      rw [ih _ _ _ _ _ _ hx2 hy2 he]; simp
    · rename_i he
      rw [ih _ _ _ _ _ _ hx2 hy2 he]
      simp only [Result.andThen_ok, Bool.not_true, Bool.false_eq_true, if_false]
      exact eqElems_sound ih hx hy is r h

set_option maxHeartbeats 4000000 in
theorem mEqual_sound : ∀ (d : Nat) (t : TypeId) (a b : MV) (x y : Value) (r : Bool), VR ρ a x → VR ρ b y → mEqual P d t a b = some r → (Op.equalIn d t x y).run P w = .ok r w
  | 0, _, _, _, _, _, _, _, _, h => by simp [mEqual] at h
  | d + 1, t, a, b, x, y, r, hx, hy, h => by
    unfold mEqual at h
    split at h
    · rename_i hu; cases h; simp only [VR] at hx hy; subst hx; subst hy; simp [Op.equalIn, run_underlying' hu]
    · rename_i hu
      split at h
      · rename_i hk; cases h; subst hk; simp only [VR] at hx hy; subst hx; subst hy; simp [Op.equalIn, run_underlying' hu]
      · cases h
    · rename_i hu; cases h; simp only [VR] at hx hy; subst hx; subst hy; simp [Op.equalIn, run_underlying' hu, beq_bytes]
    · rename_i hu; cases h; simp only [VR] at hx hy; subst hx; subst hy; simp [Op.equalIn, run_underlying' hu]
    · rename_i hu; cases h; simp only [VR] at hx hy; subst hx; obtain ⟨i, _, rfl⟩ := hy; simp [Op.equalIn, run_underlying' hu]
    · rename_i hu; cases h; simp only [VR] at hx hy; subst hy; obtain ⟨i, _, rfl⟩ := hx; simp [Op.equalIn, run_underlying' hu]
    · rename_i hu; cases h; simp only [VR] at hx hy; subst hx; subst hy; simp [Op.equalIn, run_underlying' hu]
    · rename_i hu; cases h; simp only [VR] at hx hy; subst hx; obtain ⟨i, rfl, _⟩ := hy; simp [Op.equalIn, run_underlying' hu]
    · rename_i hu; cases h; simp only [VR] at hx hy; subst hy; obtain ⟨i, rfl, _⟩ := hx; simp [Op.equalIn, run_underlying' hu]
    · rename_i fs xs ys hu
      split at h
      case isFalse => cases h
      rename_i hp
      simp only [VR] at hx hy
      obtain ⟨xs', rfl, hx⟩ := hx
      obtain ⟨ys', rfl, hy⟩ := hy
      have hf : P.fieldsOf t = fs := by simp [Program.fieldsOf, hu]
      rw [run_equalIn_struct w d t xs' ys' (by rw [hf]; exact hu) hp, hf]
      exact eqFields_sound (fun t a b x y r => mEqual_sound d t a b x y r) hx hy _ r h
    · rename_i len e xs ys hu
      split at h
      · rename_i n hn
        simp only [VR] at hx hy
        obtain ⟨xs', rfl, hx⟩ := hx
        obtain ⟨ys', rfl, hy⟩ := hy
        rw [run_equalIn_array w d t e len n xs' ys' hu hn]
        exact eqElems_sound (fun t a b x y r => mEqual_sound d t a b x y r) hx hy _ r h
      · cases h
    · rename_i hu; cases h; simp only [VR] at hx hy; subst hx; subst hy; simp [Op.equalIn, run_underlying' hu]
    · rename_i hu; cases h; simp only [VR] at hx hy; subst hx; obtain ⟨i, _, rfl, _⟩ := hy; simp [Op.equalIn, run_underlying' hu]
    · rename_i hu; cases h; simp only [VR] at hx hy; subst hx; obtain ⟨i, _, ⟨c, rfl, _, _⟩ | ⟨_, o, rfl⟩⟩ := hy <;> simp [Op.equalIn, run_underlying' hu]
    · rename_i hu; cases h; simp only [VR] at hx hy; subst hy; obtain ⟨i, _, rfl, _⟩ := hx; simp [Op.equalIn, run_underlying' hu]
    · rename_i hu; cases h; simp only [VR] at hx hy; subst hy; obtain ⟨i, _, ⟨c, rfl, _, _⟩ | ⟨_, o, rfl⟩⟩ := hx <;> simp [Op.equalIn, run_underlying' hu]
    · rename_i hu; cases h; simp only [VR] at hx hy; subst hx; subst hy; simp [Op.equalIn, run_underlying' hu]
    · rename_i hu; cases h; simp only [VR] at hx hy; subst hx; obtain ⟨i, _, rfl⟩ := hy; simp [Op.equalIn, run_underlying' hu]
    · rename_i hu; cases h; simp only [VR] at hx hy; subst hy; obtain ⟨i, _, rfl⟩ := hx; simp [Op.equalIn, run_underlying' hu]
    · rename_i hu; cases h; simp only [VR] at hx hy; subst hx; subst hy; simp [Op.equalIn, run_underlying' hu]
    · rename_i hu; cases h; simp only [VR] at hx hy; subst hx; obtain ⟨_, _, rfl, _⟩ := hy; simp [Op.equalIn, run_underlying' hu]
    · rename_i hu; cases h; simp only [VR] at hx hy; subst hy; obtain ⟨_, _, rfl, _⟩ := hx; simp [Op.equalIn, run_underlying' hu]
    · cases h

end
end Go.Mir
