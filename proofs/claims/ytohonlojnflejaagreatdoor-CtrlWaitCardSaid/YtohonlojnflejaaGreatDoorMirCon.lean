/- Contracts: what a function gives, told by numbers that are not known. -/
import Derived.Test.YtohonlojnflejaaGreatDoorMirEval
namespace Go.Mir
open Go.RowKit

/-- What a value is. -/
def den1 (σ : Val) : MV → Option Value
  | .bool b => some (.bool b)
  | .int k n => some (.int k n)
  | .sx k e => some (.int k (e.eval σ))
  | .sb b => some (.bool (b.eval σ))
  | .str s => some (.string ⟨s.toArray⟩)
  | .ustr e => some (.string ⟨(dec (e.eval σ)).toArray⟩)
  | _ => none
def denL (σ : Val) : List MV → Option (List Value)
  | [] => some []
  | v :: l => match den1 σ v, denL σ l with
    | some x, some xs => some (x :: xs)
    | _, _ => none
def den (σ : Val) : MV → Option Value
  | .tuple vs => match denL σ vs with
    | some xs => some (.tuple xs.toArray)
    | none => none
  | v => den1 σ v

theorem den1_VR {ρ : Loc} {v : MV} {x : Value} (h : den1 ρ.σ v = some x) : VR ρ v x := by
  cases v <;> simp only [den1] at h <;> first | (cases h; done) | (cases h; simp only [VR])
theorem den1_eq {ρ : Loc} {v : MV} {x y : Value} (h : den1 ρ.σ v = some x) (hy : VR ρ v y) : y = x := by
  cases v <;> simp only [den1] at h <;> first | (cases h; done) | (cases h; simpa only [VR] using hy)
theorem denL_VR {ρ : Loc} : ∀ {l : List MV} {xs : List Value}, denL ρ.σ l = some xs → VRs ρ l xs
  | [], xs, h => by cases h; exact .nil
  | v :: l, xs, h => by
    simp only [denL] at h
    split at h
    · rename_i x ys h1 h2
      cases h
      exact .cons (den1_VR h1) (denL_VR h2)
    · cases h
theorem denL_eq {ρ : Loc} : ∀ {l : List MV} {xs ys : List Value}, denL ρ.σ l = some xs → VRs ρ l ys → ys = xs
  | [], xs, ys, h, hy => by cases h; exact hy.nil_inv
  | v :: l, xs, ys, h, hy => by
    simp only [denL] at h
    split at h
    · rename_i x zs h1 h2
      cases h
      obtain ⟨y, ys', rfl, h3, h4⟩ := hy.cons_inv
      rw [den1_eq h1 h3, denL_eq h2 h4]
    · cases h
theorem den_VR {ρ : Loc} {v : MV} {x : Value} (h : den ρ.σ v = some x) : VR ρ v x := by
  unfold den at h
  split at h
  · split at h
    · rename_i xs hx
      cases h
      simp only [VR]; exact ⟨_, rfl, denL_VR hx⟩
    · cases h
  · exact den1_VR h
theorem den_eq {ρ : Loc} {v : MV} {x y : Value} (h : den ρ.σ v = some x) (hy : VR ρ v y) : y = x := by
  unfold den at h
  split at h
  · split at h
    · rename_i xs hx
      cases h
      simp only [VR] at hy
      obtain ⟨a, rfl, ha⟩ := hy
      have := denL_eq hx ha
      rw [← this]
    · cases h
  · exact den1_eq h hy

def noFlag : Code → Bool := fun _ => false
def noGood : MV → Bool := fun _ => false

/-- A call without places: by cases. -/
theorem calls_tree {P : Program} {fn : Func} {w0 : World} {X : Value} (hng : NoNum P) (hmix : P.follows .mixedOrders = true) {σ : Val} {ext : Asm → Ext} (hext : ∀ B, AsmOK σ B → ExtOK P ⟨w0.heap.size, w0, σ⟩ (ext B)) {fs : Cons} (hfs : ConsOK P σ fs)
    {ps : List FuncId} {fuel k : Nat} {f : FuncId} (hf : P.funcs[f]? = some fn) (hb : fn.body = some (bodyOf fn)) {args : List MV} (hlen : Nat.ble args.length fn.ntmps = true) {xs : Array Value} (hxs : VRs ⟨fun _ => none, σ⟩ args xs.toList) {t : PT} {A : Asm}
    (hrun : t.runs (fun B => sumAt P fn [] noGood (ext B).asm noFlag (runOf P (ext B) fs ps fuel) k (bodyOf fn) [] ⟨0, params (keepOf fn) 0 args, .one, []⟩) A = t.leaves []) (hA : AsmOK σ A) (hfit : fitsC fn.ntmps (bodyOf fn) = true)
    (hgoal : t.Goal σ (fun _ _ => False) (fun v => den σ v = some X)) : Calls P f xs w0 (Post w0 X) :=
  calls_of_goal hf hb (Nat.le_of_ble_eq_true hlen) hxs
    (pt_node hng hmix hext hfs (nodes := []) (good := noGood) hrun hA hfit rfl (fun v h => by cases h) (fun _ _ h => h.elim) (fun v hv ρ x hρ hx => by
      subst hρ
      exact den_eq hv hx) hgoal)

/-- In range, by its look. -/
def rngE (R : List Nat) : SE → Bool
  | .var i => Nat.blt i 1000 && R.any (Nat.beq i)
  | .lit n => decide (0 ≤ n) && decide (n < 18446744073709551616)
  | .wrap .u64 _ => true
  | .bin .add .u64 _ _ | .bin .sub .u64 _ _ | .bin .mul .u64 _ _ | .bin .quo .u64 _ _ | .bin .and .u64 _ _ | .bin .or .u64 _ _ | .bin .xor .u64 _ _ | .bin .shl .u64 _ _ => true
  | .bin .rem .u64 a _ => rngE R a
  | .mm _ a b => rngE R a && rngE R b
  | .app f a b c => R.any (Nat.beq (f + 1000)) && (rngE R a && (rngE R b && rngE R c))
  | _ => false

/-- Unknown numbers that are in range; functions (by number and a thousand) whose numbers are. -/
def RngOK (σ : Val) (R : List Nat) : Prop := (∀ i, (Nat.blt i 1000 && R.any (Nat.beq i)) = true → 0 ≤ σ.v i ∧ σ.v i < 18446744073709551616) ∧ ∀ f, R.any (Nat.beq (f + 1000)) = true → ∀ a b c, (0 ≤ a ∧ a < 18446744073709551616) → (0 ≤ b ∧ b < 18446744073709551616) → (0 ≤ c ∧ c < 18446744073709551616) → 0 ≤ appV σ f a b c ∧ appV σ f a b c < 18446744073709551616

theorem wrap_rng (n : Int) : 0 ≤ IntKind.u64.wrap n ∧ IntKind.u64.wrap n < 18446744073709551616 := by
  rw [wrap_u64]; omega
theorem emod_le_self {a b : Int} (ha : 0 ≤ a) : a % b ≤ a := by
  have key : ∀ c : Int, 0 < c → a % c ≤ a := fun c hc => by
    have h1 := Int.mul_ediv_add_emod a c
    have h2 := Int.mul_nonneg (Int.le_of_lt hc) (Int.ediv_nonneg ha (Int.le_of_lt hc))
    omega
  rcases Int.lt_trichotomy b 0 with h | h | h
  · rw [← Int.emod_neg]; exact key _ (by omega)
  · rw [h]; simp
  · exact key b h
theorem rngE_sound {σ : Val} {R : List Nat} (h : RngOK σ R) : ∀ {e : SE}, rngE R e = true → 0 ≤ e.eval σ ∧ e.eval σ < 18446744073709551616 := by
  intro e
  induction e with
  | var i => intro he; exact h.1 i he
  | lit n => intro he; simpa [rngE, SE.eval] using he
  | app f a b c iha ihb ihc =>
    intro he
    simp only [rngE, Bool.and_eq_true] at he
    exact h.2 f he.1 _ _ _ (iha he.2.1) (ihb he.2.2.1) (ihc he.2.2.2)
  | wrap k a _ => intro he; cases k <;> simp [rngE] at he; exact wrap_rng _
  | mm mx a b iha ihb =>
    intro he
    simp only [rngE, Bool.and_eq_true] at he
    have h1 := iha he.1
    have h2 := ihb he.2
    cases mx
    · simp only [SE.eval, mmV_min]; split <;> omega
    · simp only [SE.eval, mmV_max]; split <;> omega
  | bin op k a b iha ihb =>
    intro he
    cases op <;> cases k <;> simp only [rngE] at he <;> first | (cases he; done) | exact wrap_rng _ | skip
    have h1 := iha he
    simp only [SE.eval, rem_u64]
    rw [if_pos h1.1]
    by_cases hb : b.eval σ = 0
    · rw [hb]; simp; exact h1
    · have h2 := Int.emod_nonneg (a.eval σ) hb
      have h3 := emod_le_self (b := b.eval σ) h1.1
      omega

section
variable {P : Program} {σ : Val} {f : FuncId}

/-- Contracts of functions of one, two, three numbers. -/
def g1 (k : IntKind) (chk : SE → Bool) (F : SE → MV) : List MV → Option MV
  | [a] => match seOf a with
    | some (ka, x) => match eqKind ka k && chk x with
      | true => some (F x)
      | false => none
    | none => none
  | _ => none
def g2 (k l : IntKind) (chk : SE → SE → Bool) (F : SE → SE → MV) : List MV → Option MV
  | [a, b] => match seOf a, seOf b with
    | some (ka, x), some (kb, y) => match eqKind ka k && (eqKind kb l && chk x y) with
      | true => some (F x y)
      | false => none
    | _, _ => none
  | _ => none
def g3 (k l m : IntKind) (chk : SE → SE → SE → Bool) (F : SE → SE → SE → MV) : List MV → Option MV
  | [a, b, c] => match seOf a, seOf b, seOf c with
    | some (ka, x), some (kb, y), some (kc, z) => match eqKind ka k && (eqKind kb l && (eqKind kc m && chk x y z)) with
      | true => some (F x y z)
      | false => none
    | _, _, _ => none
  | _ => none

theorem fn1 {k : IntKind} {chk : SE → Bool} {F : SE → MV} {X : Int → Value} {p : Int → Prop} (h : ∀ a, p a → ∀ w, Calls P f #[.int k a] w (Post w (X a))) (hc : ∀ x, chk x = true → p (x.eval σ))
    (hX : ∀ x, chk x = true → den σ (F x) = some (X (x.eval σ))) : FnOK P σ f (g1 k chk F) := by
  intro args v hg ρ xs w hρ hxs
  unfold g1 at hg
  split at hg
  case h_2 => cases hg
  rename_i a
  split at hg
  case h_2 => cases hg
  rename_i ka x hx
  split at hg
  case h_2 => cases hg
  rename_i hk
  cases hg
  rw [Bool.and_eq_true] at hk
  have e1 := eqKind_eq hk.1; subst e1
  obtain ⟨x1, t1, d1, h1, r1⟩ := hxs.cons_inv
  rw [r1.nil_inv] at d1
  have h1 := seOf_sound hx h1
  subst hρ
  have : xs = #[.int ka (x.eval ρ.σ)] := by apply Array.ext'; rw [d1, h1]
  subst this
  exact (h _ (hc x hk.2) w).mono fun e w' he => ⟨_, he.1, den_VR (hX x hk.2), he.2⟩
theorem fn2 {k l : IntKind} {chk : SE → SE → Bool} {F : SE → SE → MV} {X : Int → Int → Value} {p : Int → Int → Prop} (h : ∀ a b, p a b → ∀ w, Calls P f #[.int k a, .int l b] w (Post w (X a b))) (hc : ∀ x y, chk x y = true → p (x.eval σ) (y.eval σ))
    (hX : ∀ x y, chk x y = true → den σ (F x y) = some (X (x.eval σ) (y.eval σ))) : FnOK P σ f (g2 k l chk F) := by
  intro args v hg ρ xs w hρ hxs
  unfold g2 at hg
  split at hg
  case h_2 => cases hg
  rename_i a b
  split at hg
  case h_2 => cases hg
  rename_i ka x kb y hx hy
  split at hg
  case h_2 => cases hg
  rename_i hk
  cases hg
  simp only [Bool.and_eq_true] at hk
  have e1 := eqKind_eq hk.1; subst e1
  have e2 := eqKind_eq hk.2.1; subst e2
  obtain ⟨x1, t1, d1, h1, r1⟩ := hxs.cons_inv
  obtain ⟨x2, t2, d2, h2, r2⟩ := r1.cons_inv
  rw [r2.nil_inv] at d2
  have h1 := seOf_sound hx h1
  have h2 := seOf_sound hy h2
  subst hρ
  have : xs = #[.int ka (x.eval ρ.σ), .int kb (y.eval ρ.σ)] := by apply Array.ext'; rw [d1, d2, h1, h2]
  subst this
  exact (h _ _ (hc x y hk.2.2) w).mono fun e w' he => ⟨_, he.1, den_VR (hX x y hk.2.2), he.2⟩
theorem fn3 {k l m : IntKind} {chk : SE → SE → SE → Bool} {F : SE → SE → SE → MV} {X : Int → Int → Int → Value} {p : Int → Int → Int → Prop} (h : ∀ a b c, p a b c → ∀ w, Calls P f #[.int k a, .int l b, .int m c] w (Post w (X a b c)))
    (hc : ∀ x y z, chk x y z = true → p (x.eval σ) (y.eval σ) (z.eval σ)) (hX : ∀ x y z, chk x y z = true → den σ (F x y z) = some (X (x.eval σ) (y.eval σ) (z.eval σ))) : FnOK P σ f (g3 k l m chk F) := by
  intro args v hg ρ xs w hρ hxs
  unfold g3 at hg
  split at hg
  case h_2 => cases hg
  rename_i a b c
  split at hg
  case h_2 => cases hg
  rename_i ka x kb y kc z hx hy hz
  split at hg
  case h_2 => cases hg
  rename_i hk
  cases hg
  simp only [Bool.and_eq_true] at hk
  have e1 := eqKind_eq hk.1; subst e1
  have e2 := eqKind_eq hk.2.1; subst e2
  have e3 := eqKind_eq hk.2.2.1; subst e3
  obtain ⟨x1, t1, d1, h1, r1⟩ := hxs.cons_inv
  obtain ⟨x2, t2, d2, h2, r2⟩ := r1.cons_inv
  obtain ⟨x3, t3, d3, h3, r3⟩ := r2.cons_inv
  rw [r3.nil_inv] at d3
  have h1 := seOf_sound hx h1
  have h2 := seOf_sound hy h2
  have h3 := seOf_sound hz h3
  subst hρ
  have : xs = #[.int ka (x.eval ρ.σ), .int kb (y.eval ρ.σ), .int kc (z.eval ρ.σ)] := by apply Array.ext'; rw [d1, d2, d3, h1, h2, h3]
  subst this
  exact (h _ _ _ (hc x y z hk.2.2.2) w).mono fun e w' he => ⟨_, he.1, den_VR (hX x y z hk.2.2.2), he.2⟩

end
end Go.Mir
