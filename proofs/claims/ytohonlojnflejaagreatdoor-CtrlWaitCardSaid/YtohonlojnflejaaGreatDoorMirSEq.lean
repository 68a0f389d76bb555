/- Equality of structs whose numbers are not known. -/
import Derived.Test.YtohonlojnflejaaGreatDoorMirUnk
namespace Go.Mir
open Go.RowKit

mutual
/-- A value, what is not known put in. -/
def conc (σ : Val) : MV → MV
  | .sx k e => .int k (e.eval σ)
  | .sb b => .bool (b.eval σ)
  | .ustr e => .str (dec (e.eval σ))
  | .agg l => .agg (concs σ l)
  | .bool b => .bool b
  | .int k n => .int k n
  | .str s => .str s
  | .nilPtr => .nilPtr
  | .ptr h o => .ptr h o
  | .nilSl => .nilSl
  | .sl h o l c => .sl h o l c
  | .gsl h o l => .gsl h o l
  | .nilMap => .nilMap
  | .map h => .map h
  | .nilFunc => .nilFunc
  | .func f a b => .func f a b
  | .nilIface => .nilIface
  | .iface t v => .iface t v
  | .tuple l => .tuple l
  | .usl a n => .usl a n
  | .uptr a z i o => .uptr a z i o
def concs (σ : Val) : List MV → List MV
  | [] => []
  | v :: l => conc σ v :: concs σ l
end

mutual
theorem conc_VR {ρ : Loc} : ∀ (v : MV) (x : Value), VR ρ v x → VR ρ (conc ρ.σ v) x
  | .sx _ _, _, h | .sb _, _, h | .ustr _, _, h => by simpa only [conc, VR] using h
  | .agg l, x, h => by
    simp only [conc, VR] at h ⊢
    obtain ⟨a, hx, ha⟩ := h
    exact ⟨a, hx, concs_VR l _ ha⟩
  | .bool _, _, h | .int _ _, _, h | .str _, _, h | .nilPtr, _, h | .ptr _ _, _, h | .nilSl, _, h | .sl _ _ _ _, _, h | .gsl _ _ _, _, h | .nilMap, _, h | .map _, _, h | .nilFunc, _, h | .func _ _ _, _, h | .nilIface, _, h
  | .iface _ _, _, h | .tuple _, _, h | .usl _ _, _, h | .uptr _ _ _ _, _, h => by simpa only [conc] using h
theorem concs_VR {ρ : Loc} : ∀ (l : List MV) (xs : List Value), VRs ρ l xs → VRs ρ (concs ρ.σ l) xs
  | [], _, h => by simpa only [concs] using h
  | v :: l, xs, h => by
    obtain ⟨y, ys, rfl, h1, h2⟩ := h.cons_inv
    simp only [concs]
    exact .cons (conc_VR v y h1) (concs_VR l ys h2)
end

section
variable {P : Program} {σ : Val}

theorem concs_take : ∀ (n : Nat) (l : List MV), concs σ (l.take n) = (concs σ l).take n
  | 0, _ => rfl
  | n + 1, [] => rfl
  | n + 1, v :: l => by simp only [List.take_succ_cons, concs, concs_take n l]
theorem concs_drop : ∀ (n : Nat) (l : List MV), concs σ (l.drop n) = (concs σ l).drop n
  | 0, _ => rfl
  | n + 1, [] => rfl
  | n + 1, v :: l => by simp only [List.drop_succ_cons, concs, concs_drop n l]
theorem concs_get : ∀ (l : List MV) (n : Nat), (concs σ l)[n]? = (l[n]?).map (conc σ)
  | [], _ => by simp [concs]
  | v :: l, 0 => by simp [concs]
  | v :: l, n + 1 => by simp [concs, concs_get l n]
theorem mPart_conc {t : TypeId} {cs : List MV} {off : Nat} {a : MV} (h : mPart P t cs off = some a) : mPart P t (concs σ cs) off = some (conc σ a) := by
  simp only [mPart, Option.bind_eq_bind, Option.bind_eq_some_iff] at h ⊢
  obtain ⟨b, hb, h⟩ := h
  refine ⟨b, hb, ?_⟩
  split at h
  · rename_i hbt
    simp only [Option.bind_eq_some_iff] at h
    obtain ⟨n, hn, h⟩ := h
    cases h
    rw [if_pos hbt, hn]
    simp only [Option.bind_some, conc, concs_drop, concs_take]
  · rename_i hbt
    rw [if_neg hbt, concs_get, h]; rfl

theorem andS_eval (a b : SB) : (andS a b).eval σ = (a.eval σ && b.eval σ) := by
  unfold andS
  split
  · simp [SB.eval]
  · simp [SB.eval]
  · simp [SB.eval]
  · simp [SB.eval]

theorem symFields_conc {eq : TypeId → MV → MV → Option Bool} {seq : TypeId → MV → MV → Option SB} (he : ∀ t a b e, seq t a b = some e → eq t (conc σ a) (conc σ b) = some (e.eval σ)) {xs ys : List MV} :
    ∀ {fs : List Field} {e : SB}, symFields P seq xs ys fs = some e → eqFieldsM P eq (concs σ xs) (concs σ ys) fs = some (e.eval σ)
  | [], e, h => by simp only [symFields] at h; cases h; rfl
  | f :: fs, e, h => by
    simp only [symFields] at h
    simp only [eqFieldsM]
    split at h
    · rename_i hn
      rw [if_pos hn]
      split at h
      · cases h
      rename_i a ha
      split at h
      · cases h
      rename_i b hb
      split at h
      · cases h
      rename_i p hp
      split at h
      · cases h
      rename_i q hq
      cases h
      rw [mPart_conc ha, mPart_conc hb]
      simp only [he _ _ _ _ hp, andS_eval]
      cases hpe : p.eval σ with
      | false => simp
      | true => simp [symFields_conc he hq]
    · rename_i hn
      rw [if_neg hn]
      exact symFields_conc he h
theorem symElems_conc {eq : TypeId → MV → MV → Option Bool} {seq : TypeId → MV → MV → Option SB} (he : ∀ t a b e, seq t a b = some e → eq t (conc σ a) (conc σ b) = some (e.eval σ)) {t : TypeId} {n : Nat} {xs ys : List MV} :
    ∀ {is : List Nat} {e : SB}, symElems P seq t n xs ys is = some e → eqElemsM P eq t n (concs σ xs) (concs σ ys) is = some (e.eval σ)
  | [], e, h => by simp only [symElems] at h; cases h; rfl
  | i :: is, e, h => by
    simp only [symElems] at h
    simp only [eqElemsM]
    split at h
    · cases h
    rename_i a ha
    split at h
    · cases h
    rename_i b hb
    split at h
    · cases h
    rename_i p hp
    split at h
    · cases h
    rename_i q hq
    cases h
    rw [mPart_conc ha, mPart_conc hb]
    simp only [he _ _ _ _ hp, andS_eval]
    cases hpe : p.eval σ with
    | false => simp
    | true => simp [symElems_conc he hq]

theorem seOf_conc {a : MV} {k : IntKind} {e : SE} (h : seOf a = some (k, e)) : conc σ a = .int k (e.eval σ) := by
  cases a <;> simp only [seOf] at h <;> first | (cases h; done) | (cases h; simp only [conc, SE.eval])
theorem sbOf_conc {a : MV} {e : SB} (h : sbOf a = some e) : conc σ a = .bool (e.eval σ) := by
  cases a <;> simp only [sbOf] at h <;> first | (cases h; done) | (cases h; simp only [conc, SB.eval])
theorem ssOf_conc {a : MV} {e : SE} (h : ssOf a = some e) : conc σ a = .str (dec (e.eval σ)) := by
  cases a <;> simp only [ssOf] at h <;> first | (cases h; done) | (cases h; simp only [conc, SE.eval, dec_enc])

theorem symEqual_conc : ∀ (d : Nat) (t : TypeId) (x y : MV) (e : SB), symEqual P d t x y = some e → mEqual P d t (conc σ x) (conc σ y) = some (e.eval σ)
  | 0, _, _, _, _, h => by simp [symEqual] at h
  | d + 1, t, x, y, e, h => by
    simp only [symEqual] at h
    split at h
    · rename_i hu
      split at h
      · rename_i a b ha hb
        cases h
        rw [sbOf_conc ha, sbOf_conc hb]
        simp only [mEqual, hu, SB.eval]
      · cases h
    · rename_i kk hu
      split at h
      · rename_i k a k' b ha hb
        split at h
        · rename_i hk
          cases h
          have hk := eqKind_eq hk; subst hk
          rw [seOf_conc ha, seOf_conc hb]
          simp only [mEqual, hu, if_true]
          unfold eqlS
          split <;> simp [SB.eval, SE.eval, cmpV]
        · cases h
      · cases h
    · rename_i hu
      split at h
      · cases h
        simp only [conc, mEqual, hu, SB.eval]
      · split at h
        · rename_i a b ha hb
          cases h
          rw [ssOf_conc ha, ssOf_conc hb]
          simp only [mEqual, hu, SB.eval, SE.eval, appV, cmpV]
          cases dec (a.eval σ) == dec (b.eval σ) <;> rfl
        · cases h
    · rename_i fs hu
      split at h
      · rename_i xs ys
        split at h
        · rename_i hs
          simp only [conc, mEqual, hu]
          rw [if_pos hs]
          exact symFields_conc (fun t a b e h => symEqual_conc d t a b e h) h
        · cases h
      · cases h
    · rename_i len el hu
      split at h
      · rename_i xs ys
        split at h
        · rename_i n hn
          simp only [conc, mEqual, hu, hn]
          exact symElems_conc (fun t a b e h => symEqual_conc d t a b e h) h
        · cases h
      · cases h
    · cases h

variable {w : World} {ρ : Loc}
theorem symEqBin_sound {op : BinOp} {t : TypeId} {xo yo : Operand} {a b v : MV} {x y : Value} (hx : VR ρ a x) (hy : VR ρ b y) (h : symEqBin P op t xo yo a b = some v) :
    ∃ z, (do eqGuard op t xo yo x y; binOp op t x y : Sem Value).run P w = .ok z w ∧ VR ρ v z := by
  unfold symEqBin at h
  split at h
  case h_2 => cases h
  rename_i p q
  split at h
  · cases h
  rename_i hok
  split at h
  · cases h
  rename_i e he
  have hq := symEqual_conc (σ := ρ.σ) _ _ _ _ _ he
  have hx' := conc_VR _ _ hx
  have hy' := conc_VR _ _ hy
  simp only [conc] at hq hx' hy'
  have hok' : eqOk P t xo yo (.agg (concs ρ.σ p)) (.agg (concs ρ.σ q)) = true := hok
  split at h
  · cases h
    obtain ⟨z, h1, h2⟩ := mBin_sound (P := P) (w := w) (ρ := ρ) (op := .eql) (t := t) (xo := xo) (yo := yo) (v := .bool (e.eval ρ.σ)) hx' hy' (by
      simp only [mBin, mEqBin, MV.plainEq, hok', hq]
      simp)
    exact ⟨z, h1, by simpa only [VR] using h2⟩
  · cases h
    obtain ⟨z, h1, h2⟩ := mBin_sound (P := P) (w := w) (ρ := ρ) (op := .neq) (t := t) (xo := xo) (yo := yo) (v := .bool (!e.eval ρ.σ)) hx' hy' (by
      simp only [mBin, mEqBin, MV.plainEq, hok', hq]
      simp)
    exact ⟨z, h1, by simpa only [VR, SB.eval] using h2⟩
  · cases h

end
end Go.Mir
