/- The mirror's relation to the machine's memory. -/
import Derived.Test.YtohonlojnflejaaGreatDoorMir1
import Derived.Below
import Derived.Orders
namespace Go.Mir
open Go.RowKit

/-- Where a mirror's block lies: the machine's block, where in it it begins, how many elements fit, cells of an element. -/
structure HI where
  block : Nat
  off : Nat
  cap : Nat
  sz : Nat

/-- Where the mirror's blocks lie; what the unknown is. -/
structure Loc where
  lies : Pos → Option HI
  σ : Val
instance : CoeFun Loc (fun _ => Pos → Option HI) := ⟨Loc.lies⟩
def Loc.le (ρ ρ' : Loc) : Prop := (∀ h i, ρ h = some i → ρ' h = some i) ∧ ρ'.σ = ρ.σ
theorem Loc.le_refl (ρ : Loc) : ρ.le ρ := ⟨fun _ _ h => h, rfl⟩
theorem Loc.le_trans {a b c : Loc} (h : a.le b) (k : b.le c) : a.le c := ⟨fun x i hx => k.1 x i (h.1 x i hx), k.2.trans h.2⟩

mutual
def VR (ρ : Loc) : MV → Value → Prop
  | .bool b, x => x = .bool b
  | .int k n, x => x = .int k n
  | .str s, x => x = .string ⟨s.toArray⟩
  | .nilPtr, x => x = .pointer none
  | .ptr h o, x => ∃ i, ρ h = some i ∧ x = .pointer (some ⟨i.block, i.off + o, none⟩)
  | .nilSl, x => x = .slice none 0 0
  | .sl h o l c, x => ∃ i, ρ h = some i ∧ x = .slice (some ⟨i.block, i.off + o, none⟩) l c ∧ l ≤ c
  | .gsl h eo l, x => ∃ i, ρ h = some i ∧ ((∃ c, x = .slice (some ⟨i.block, i.off + eo * i.sz, none⟩) l c ∧ eo + c = i.cap ∧ l ≤ c) ∨ (l = 0 ∧ ∃ o, x = .slice (some ⟨i.block, o, none⟩) 0 0))
  | .nilMap, x => x = .map none
  | .map h, x => ∃ i, ρ h = some i ∧ x = .map (some i.block)
  | .nilFunc, x => x = .nilFunc
  | .func fn f c, x => ∃ f' c', x = .func fn f' c' ∧ VRs ρ f f'.toList ∧ VRs ρ c c'.toList
  | .nilIface, x => x = .nilIface
  | .iface t v, x => ∃ y, x = .iface t y ∧ VR ρ v y
  | .agg l, x => ∃ a, x = .agg a ∧ VRs ρ l a.toList
  | .tuple l, x => ∃ a, x = .tuple a ∧ VRs ρ l a.toList
  | .sx k e, x => x = .int k (e.eval ρ.σ)
  | .sb b, x => x = .bool (b.eval ρ.σ)
  | .ustr e, x => x = .string ⟨(dec (e.eval ρ.σ)).toArray⟩
  | .usl a n, x => ∃ c, x = .slice (ρ.σ.arr a).1 (ρ.σ.arr a).2 c ∧ n.eval ρ.σ = ((ρ.σ.arr a).2 : Int)
  | .uptr a sz i off, x => ∃ ad : Addr, (ρ.σ.arr a).1 = some ad ∧ ad.spot = none ∧ 0 ≤ i.eval ρ.σ ∧ i.eval ρ.σ < ((ρ.σ.arr a).2 : Int) ∧ x = .pointer (some ⟨ad.block, ad.off + (i.eval ρ.σ).toNat * sz + off, none⟩)
def VRs (ρ : Loc) : List MV → List Value → Prop
  | [], xs => xs = []
  | v :: vs, xs => ∃ y ys, xs = y :: ys ∧ VR ρ v y ∧ VRs ρ vs ys
end

mutual
theorem VR.mono {ρ ρ' : Loc} (h : ρ.le ρ') : ∀ (v : MV) (x : Value), VR ρ v x → VR ρ' v x
  | .bool _, _, hx | .int _ _, _, hx | .str _, _, hx | .nilPtr, _, hx | .nilSl, _, hx | .nilMap, _, hx | .nilFunc, _, hx | .nilIface, _, hx => by
    simpa [VR] using hx
  | .ptr _ _, x, hx => by
    simp only [VR] at hx ⊢; obtain ⟨i, hi, hx⟩ := hx; exact ⟨i, h.1 _ _ hi, hx⟩
  | .sl _ _ _ _, x, hx => by
    simp only [VR] at hx ⊢; obtain ⟨i, hi, hx⟩ := hx; exact ⟨i, h.1 _ _ hi, hx⟩
  | .gsl _ _ _, x, hx => by
    simp only [VR] at hx ⊢; obtain ⟨i, hi, hx⟩ := hx; exact ⟨i, h.1 _ _ hi, hx⟩
  | .map _, x, hx => by
    simp only [VR] at hx ⊢; obtain ⟨i, hi, hx⟩ := hx; exact ⟨i, h.1 _ _ hi, hx⟩
  | .func _ f c, x, hx => by
    simp only [VR] at hx ⊢; obtain ⟨f', c', hx, h1, h2⟩ := hx; exact ⟨f', c', hx, VRs.mono h f _ h1, VRs.mono h c _ h2⟩
  | .iface _ v, x, hx => by
    simp only [VR] at hx ⊢; obtain ⟨y, hx, h1⟩ := hx; exact ⟨y, hx, VR.mono h v _ h1⟩
  | .agg l, x, hx => by
    simp only [VR] at hx ⊢; obtain ⟨a, hx, h1⟩ := hx; exact ⟨a, hx, VRs.mono h l _ h1⟩
  | .tuple l, x, hx => by
    simp only [VR] at hx ⊢; obtain ⟨a, hx, h1⟩ := hx; exact ⟨a, hx, VRs.mono h l _ h1⟩
  | .sx _ _, x, hx => by
    simp only [VR] at hx ⊢; rw [h.2]; exact hx
  | .sb _, x, hx => by
    simp only [VR] at hx ⊢; rw [h.2]; exact hx
  | .ustr _, x, hx => by
    simp only [VR] at hx ⊢; rw [h.2]; exact hx
  | .usl _ _, x, hx => by
    simp only [VR] at hx ⊢; rw [h.2]; exact hx
  | .uptr _ _ _ _, x, hx => by
    simp only [VR] at hx ⊢; rw [h.2]; exact hx
theorem VRs.mono {ρ ρ' : Loc} (h : ρ.le ρ') : ∀ (l : List MV) (xs : List Value), VRs ρ l xs → VRs ρ' l xs
  | [], _, hx => by simpa [VRs] using hx
  | v :: l, xs, hx => by
    simp only [VRs] at hx ⊢; obtain ⟨y, ys, hx, h1, h2⟩ := hx; exact ⟨y, ys, hx, VR.mono h v _ h1, VRs.mono h l _ h2⟩
end

theorem VRs.nil {ρ : Loc} : VRs ρ [] [] := by simp [VRs]
theorem VRs.cons {ρ : Loc} {v : MV} {l : List MV} {x : Value} {xs : List Value} (h : VR ρ v x) (hs : VRs ρ l xs) : VRs ρ (v :: l) (x :: xs) := by
  simp only [VRs]; exact ⟨x, xs, rfl, h, hs⟩
theorem VRs.nil_inv {ρ : Loc} {xs : List Value} (h : VRs ρ [] xs) : xs = [] := by simpa [VRs] using h
theorem VRs.cons_inv {ρ : Loc} {v : MV} {l : List MV} {xs : List Value} (h : VRs ρ (v :: l) xs) : ∃ y ys, xs = y :: ys ∧ VR ρ v y ∧ VRs ρ l ys := by
  simpa only [VRs] using h

theorem VRs.length {ρ : Loc} : ∀ {l : List MV} {xs : List Value}, VRs ρ l xs → xs.length = l.length
  | [], xs, h => by simp [h.nil_inv]
  | v :: l, xs, h => by
    obtain ⟨y, ys, rfl, _, h2⟩ := h.cons_inv
    simp [VRs.length h2]

theorem VRs.get {ρ : Loc} : ∀ {l : List MV} {xs : List Value} {i : Nat} {v : MV}, VRs ρ l xs → l[i]? = some v → ∃ x, xs[i]? = some x ∧ VR ρ v x
  | [], _, i, v, _, hv => by simp at hv
  | u :: l, xs, 0, v, h, hv => by
    obtain ⟨y, ys, rfl, h1, _⟩ := h.cons_inv
    simp at hv; subst hv; exact ⟨y, by simp, h1⟩
  | u :: l, xs, i + 1, v, h, hv => by
    obtain ⟨y, ys, rfl, _, h2⟩ := h.cons_inv
    simp at hv; obtain ⟨x, hx, hr⟩ := VRs.get h2 hv; exact ⟨x, by simpa using hx, hr⟩

theorem VRs.of_get {ρ : Loc} : ∀ {l : List MV} {xs : List Value}, xs.length = l.length → (∀ (i : Nat) (v : MV) (x : Value), l[i]? = some v → xs[i]? = some x → VR ρ v x) → VRs ρ l xs
  | [], [], _, _ => .nil
  | [], _ :: _, h, _ => by simp at h
  | _ :: _, [], h, _ => by simp at h
  | v :: l, x :: xs, hl, h => .cons (h 0 v x (by simp) (by simp)) (VRs.of_get (by simpa using hl) fun i u y hu hy => h (i + 1) u y (by simpa using hu) (by simpa using hy))

theorem VRs.at {ρ : Loc} {l : List MV} {xs : List Value} {i : Nat} {v : MV} {x : Value} (h : VRs ρ l xs) (hv : l[i]? = some v) (hx : xs[i]? = some x) : VR ρ v x := by
  obtain ⟨y, hy, hr⟩ := h.get hv
  rw [hx] at hy; cases hy; exact hr

theorem VRs.append {ρ : Loc} : ∀ {a b : List MV} {xs ys : List Value}, VRs ρ a xs → VRs ρ b ys → VRs ρ (a ++ b) (xs ++ ys)
  | [], _, _, _, h, k => by rw [h.nil_inv]; simpa using k
  | _ :: _, _, _, _, h, k => by
    obtain ⟨y, ys, rfl, h1, h2⟩ := h.cons_inv
    simpa using VRs.cons h1 (VRs.append h2 k)

theorem VRs.take {ρ : Loc} {n : Nat} : ∀ {l : List MV} {xs : List Value}, VRs ρ l xs → VRs ρ (l.take n) (xs.take n) := by
  intro l xs h
  refine .of_get (by simp [h.length]) fun i v x hv hx => ?_
  rw [List.getElem?_take] at hv hx
  by_cases hi : i < n
  · simp only [hi, if_true] at hv hx; exact h.at hv hx
  · simp [hi] at hv

theorem VRs.drop {ρ : Loc} {n : Nat} : ∀ {l : List MV} {xs : List Value}, VRs ρ l xs → VRs ρ (l.drop n) (xs.drop n) := by
  intro l xs h
  refine .of_get (by simp [h.length]) fun i v x hv hx => ?_
  rw [List.getElem?_drop] at hv hx
  exact h.at hv hx

theorem VRs.set {ρ : Loc} {l : List MV} {xs : List Value} {n : Nat} {v : MV} {x : Value} (h : VRs ρ l xs) (hv : VR ρ v x) : VRs ρ (l.set n v) (xs.set n x) := by
  refine .of_get (by simp [h.length]) fun i u y hu hy => ?_
  rw [List.getElem?_set] at hu hy
  by_cases hi : n = i
  · subst hi
    simp only [if_true] at hu hy
    split at hu
    · split at hy
      · cases hu; cases hy; exact hv
      · cases hy
    · cases hu
  · simp only [hi, if_false] at hu hy; exact h.at hu hy

theorem VRs.replicate {ρ : Loc} {v : MV} {x : Value} (h : VR ρ v x) : ∀ n, VRs ρ (List.replicate n v) (List.replicate n x)
  | 0 => by simpa using VRs.nil
  | n + 1 => by simpa [List.replicate_succ] using VRs.cons h (VRs.replicate h n)

/-- A value's cells. -/
theorem VR.cells {ρ : Loc} {v : MV} {x : Value} (h : VR ρ v x) : VRs ρ v.cells x.cells.toList := by
  have h' := h
  cases v <;> simp only [VR] at h <;> first
    | (subst h; exact VRs.cons h' .nil)
    | skip
  case agg => obtain ⟨a, rfl, hs⟩ := h; simpa [MV.cells, Value.cells] using hs
  case tuple => obtain ⟨a, rfl, hs⟩ := h; exact VRs.cons h' .nil
  case ptr => obtain ⟨i, hi, rfl⟩ := h; exact VRs.cons h' .nil
  case sl => obtain ⟨i, hi, rfl, _⟩ := h; exact VRs.cons h' .nil
  case gsl =>
    obtain ⟨i, hi, ⟨c, rfl, _, _⟩ | ⟨_, o, rfl⟩⟩ := h <;> exact VRs.cons h' .nil
  case map => obtain ⟨i, hi, rfl⟩ := h; exact VRs.cons h' .nil
  case func => obtain ⟨f', c', rfl, h1, h2⟩ := h; exact VRs.cons h' .nil
  case iface => obtain ⟨y, rfl, h1⟩ := h; exact VRs.cons h' .nil
  case usl => obtain ⟨c, rfl, _⟩ := h; exact VRs.cons h' .nil
  case uptr => obtain ⟨ad, _, _, _, _, rfl⟩ := h; exact VRs.cons h' .nil

/-- What may lie in one cell does so in the machine. -/
theorem VR.one {ρ : Loc} {v : MV} {x : Value} (h : VR ρ v x) (hv : v.one = true) : (∀ a, x ≠ .agg a) ∧ (∀ a, x ≠ .tuple a) := by
  cases v <;> simp only [VR] at h <;> simp only [MV.one] at hv <;> first
    | (cases hv; done)
    | (subst h; exact ⟨fun _ => by simp, fun _ => by simp⟩)
    | skip
  case ptr => obtain ⟨i, hi, rfl⟩ := h; exact ⟨fun _ => by simp, fun _ => by simp⟩
  case sl => obtain ⟨i, hi, rfl, _⟩ := h; exact ⟨fun _ => by simp, fun _ => by simp⟩
  case gsl => obtain ⟨i, hi, ⟨c, rfl, _, _⟩ | ⟨_, o, rfl⟩⟩ := h <;> exact ⟨fun _ => by simp, fun _ => by simp⟩
  case map => obtain ⟨i, hi, rfl⟩ := h; exact ⟨fun _ => by simp, fun _ => by simp⟩
  case func => obtain ⟨f', c', rfl, h1, h2⟩ := h; exact ⟨fun _ => by simp, fun _ => by simp⟩
  case iface => obtain ⟨y, rfl, h1⟩ := h; exact ⟨fun _ => by simp, fun _ => by simp⟩
  case usl => obtain ⟨c, rfl, _⟩ := h; exact ⟨fun _ => by simp, fun _ => by simp⟩
  case uptr => obtain ⟨ad, _, _, _, _, rfl⟩ := h; exact ⟨fun _ => by simp, fun _ => by simp⟩

/-- A value without addresses stands for itself. -/
theorem ofValue_VR {ρ : Loc} : ∀ (n : Nat) (x : Value) (v : MV), ofValue n x = some v → VR ρ v x
  | 0, _, _, h => by simp [ofValue] at h
  | n + 1, x, v, h => by
    have hs : ∀ (cs : List Value) (l : List MV), cs.mapM (ofValue n) = some l → VRs ρ l cs := by
      intro cs
      induction cs with
      | nil => intro l hl; simp at hl; subst hl; exact .nil
      | cons c cs ih =>
        intro l hl
        rw [List.mapM_cons] at hl
        simp only [Option.bind_eq_bind, Option.pure_def, Option.bind_eq_some_iff] at hl
        obtain ⟨u, hu, l', hl', h⟩ := hl
        cases h
        exact .cons (ofValue_VR n c u hu) (ih l' hl')
    cases x <;> simp only [ofValue] at h
    case bool => cases h; simp [VR]
    case int => cases h; simp [VR]
    case string s => cases h; simp [VR]
    case pointer a => cases a <;> simp at h; subst h; simp [VR]
    case slice a l c =>
      split at h <;> first | (simp at *; done) | skip
      all_goals (try (cases h)); all_goals simp_all [VR]
    case map r => cases r <;> simp at h; subst h; simp [VR]
    case nilFunc => cases h; simp [VR]
    case nilIface => cases h; simp [VR]
    case iface t x =>
      simp only [Option.map_eq_some_iff] at h
      obtain ⟨u, hu, rfl⟩ := h
      simp only [VR]; exact ⟨_, rfl, ofValue_VR n x u hu⟩
    case agg cs =>
      simp only [Option.map_eq_some_iff] at h
      obtain ⟨l, hl, rfl⟩ := h
      simp only [VR]; exact ⟨_, rfl, hs _ _ hl⟩
    case tuple cs =>
      simp only [Option.map_eq_some_iff] at h
      obtain ⟨l, hl, rfl⟩ := h
      simp only [VR]; exact ⟨_, rfl, hs _ _ hl⟩
    all_goals simp at h

end Go.Mir
