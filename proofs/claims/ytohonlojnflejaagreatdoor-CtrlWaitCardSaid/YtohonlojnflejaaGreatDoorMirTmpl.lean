/- States of a shape: what a run comes to, told by what its unknown is. -/
import Derived.Test.YtohonlojnflejaaGreatDoorMirCut
import Derived.Test.YtohonlojnflejaaGreatDoorMirExt
namespace Go.Mir
open Go.RowKit

def assocE (i : Nat) : List (Nat × SE) → Option SE
  | [] => none
  | p :: l => match Nat.beq p.1 i with
    | true => some p.2
    | false => assocE i l
def SE.sub (τ : List (Nat × SE)) : SE → SE
  | .var i => match assocE i τ with
    | some e => e
    | none => .var i
  | .lit n => .lit n
  | .bin op k a b => .bin op k (a.sub τ) (b.sub τ)
  | .wrap k a => .wrap k (a.sub τ)
  | .mm mx a b => .mm mx (a.sub τ) (b.sub τ)
  | .app f a b c => .app f (a.sub τ) (b.sub τ) (c.sub τ)
def SB.sub (τ : List (Nat × SE)) : SB → SB
  | .lit b => .lit b
  | .cmp op a b => .cmp op (a.sub τ) (b.sub τ)
  | .not b => .not (b.sub τ)
  | .beq a b => .beq (a.sub τ) (b.sub τ)
  | .and a b => .and (a.sub τ) (b.sub τ)
def Val.sub (σ : Val) (τ : List (Nat × SE)) : Val :=
  ⟨fun i => match assocE i τ with
    | some e => e.eval σ
    | none => σ.v i, σ.app, σ.arr⟩

theorem SE.sub_eval (σ : Val) (τ : List (Nat × SE)) : ∀ e : SE, (e.sub τ).eval σ = e.eval (σ.sub τ)
  | .var i => by
    simp only [SE.sub, SE.eval, Val.sub]
    cases assocE i τ <;> rfl
  | .lit n => rfl
  | .bin op k a b => by simp only [SE.sub, SE.eval, SE.sub_eval σ τ a, SE.sub_eval σ τ b]
  | .wrap k a => by simp only [SE.sub, SE.eval, SE.sub_eval σ τ a]
  | .mm mx a b => by simp only [SE.sub, SE.eval, SE.sub_eval σ τ a, SE.sub_eval σ τ b]
  | .app f a b c => by
    simp only [SE.sub, SE.eval, SE.sub_eval σ τ a, SE.sub_eval σ τ b, SE.sub_eval σ τ c]
    rfl
theorem SB.sub_eval (σ : Val) (τ : List (Nat × SE)) : ∀ e : SB, (e.sub τ).eval σ = e.eval (σ.sub τ)
  | .lit b => rfl
  | .cmp op a b => by simp only [SB.sub, SB.eval, SE.sub_eval σ τ a, SE.sub_eval σ τ b]
  | .not a => by simp only [SB.sub, SB.eval, SB.sub_eval σ τ a]
  | .beq a b => by simp only [SB.sub, SB.eval, SB.sub_eval σ τ a, SB.sub_eval σ τ b]
  | .and a b => by simp only [SB.sub, SB.eval, SB.sub_eval σ τ a, SB.sub_eval σ τ b]

def assocP (h : Pos) : List (Pos × Pos) → Option Pos
  | [] => none
  | p :: l => match eqPos p.1 h with
    | true => some p.2
    | false => assocP h l
def lookP (θ : List (Pos × Pos)) (h h' : Pos) : Bool :=
  match assocP h θ with
  | some k => eqPos k h'
  | none => false

/-- A condition between numbers: is it that? -/
def constB : SB → Bool → Bool
  | .lit b, c => match b, c with | true, true => true | false, false => true | _, _ => false
  | .cmp .neq (.lit m) (.lit n), true => !eqInt m n
  | .cmp .neq (.lit m) (.lit n), false => eqInt m n
  | _, _ => false
theorem constB_sound {σ : Val} {b : SB} {c : Bool} (h : constB b c = true) : b.eval σ = c := by
  unfold constB at h
  split at h
  · split at h <;> first | rfl | cases h
  · rename_i m n
    simp only [Bool.not_eq_true'] at h
    simp only [SB.eval, SE.eval, cmpV, bne_iff_ne, ne_eq]
    intro e; subst e
    have : eqInt m m = true := by cases m <;> simp [eqInt]
    rw [this] at h; cases h
  · rw [eqInt_eq h]; simp [SB.eval, SE.eval, cmpV]
  · cases h

section
variable (θ : List (Pos × Pos)) (τ : List (Nat × SE))
mutual
/-- Is it of the shape? -/
def matV : MV → MV → Bool
  | .sx k e, y => match y with
    | .sx l f => eqKind k l && eqSE (e.sub τ) f
    | .int l n => eqKind k l && eqSE (e.sub τ) (.lit n)
    | _ => false
  | .sb b, y => match y with
    | .sb c => eqSB (b.sub τ) c
    | .bool c => constB (b.sub τ) c
    | _ => false
  | .ustr e, y => match y with
    | .ustr f => eqSE (e.sub τ) f
    | .str l => eqSE (e.sub τ) (.lit (enc l))
    | _ => false
  | .usl a n, y => match y with
    | .usl b m => Nat.beq a b && eqSE (n.sub τ) m
    | _ => false
  | .uptr a z i o, y => match y with
    | .uptr b z' j o' => Nat.beq a b && (Nat.beq z z' && (eqSE (i.sub τ) j && Nat.beq o o'))
    | _ => false
  | .ptr h o, y => match y with | .ptr h' o' => lookP θ h h' && Nat.beq o o' | _ => false
  | .sl h o l c, y => match y with | .sl h' o' l' c' => lookP θ h h' && (Nat.beq o o' && (Nat.beq l l' && Nat.beq c c')) | _ => false
  | .gsl h o l, y => match y with | .gsl h' o' l' => lookP θ h h' && (Nat.beq o o' && Nat.beq l l') | _ => false
  | .map h, y => match y with | .map h' => lookP θ h h' | _ => false
  | .func f a b, y => match y with | .func f' a' b' => eqFn f f' && (matVs a a' && matVs b b') | _ => false
  | .iface t v, y => match y with | .iface t' v' => Nat.beq t t' && matV v v' | _ => false
  | .agg a, y => match y with | .agg b => matVs a b | _ => false
  | .tuple a, y => match y with | .tuple b => matVs a b | _ => false
  | .bool a, y => eqMV (.bool a) y
  | .int k n, y => eqMV (.int k n) y
  | .str s, y => eqMV (.str s) y
  | .nilPtr, y => eqMV .nilPtr y
  | .nilSl, y => eqMV .nilSl y
  | .nilMap, y => eqMV .nilMap y
  | .nilFunc, y => eqMV .nilFunc y
  | .nilIface, y => eqMV .nilIface y
def matVs : List MV → List MV → Bool
  | [], y => match y with | [] => true | _ => false
  | a :: l, y => match y with | b :: m => matV a b && matVs l m | _ => false
end
end

/-- Where the shape's blocks lie, what its unknown is. -/
def Loc.via (ρ : Loc) (θ : List (Pos × Pos)) (τ : List (Nat × SE)) : Loc :=
  ⟨fun h => match assocP h θ with
    | some k => ρ.lies k
    | none => none, ρ.σ.sub τ⟩

theorem lookP_lies {ρ : Loc} {θ : List (Pos × Pos)} {τ : List (Nat × SE)} {h h' : Pos} (hl : lookP θ h h' = true) : (ρ.via θ τ).lies h = ρ.lies h' := by
  unfold lookP at hl
  split at hl
  · rename_i k hk
    have hl := eqPos_eq hl
    subst hl
    simp only [Loc.via, hk]
  · cases hl

section
variable {ρ : Loc} {θ : List (Pos × Pos)} {τ : List (Nat × SE)}

mutual
theorem matV_sound : ∀ (u v : MV) (x : Value), matV θ τ u v = true → VR ρ v x → VR (ρ.via θ τ) u x
  | .sx k e, y, x, h, hx => by
    unfold matV at h; cases y <;> simp only [Bool.and_eq_true] at h <;> first | (cases h; done) | skip
    · rw [← eqKind_eq h.1] at hx
      simp only [VR] at hx ⊢
      rw [hx]
      have := congrArg (SE.eval ρ.σ) (eqSE_eq h.2)
      rw [SE.sub_eval] at this
      show _ = Value.int k (e.eval (ρ.σ.sub τ))
      rw [this]; rfl
    · rw [← eqKind_eq h.1, ← eqSE_eq h.2] at hx
      simp only [VR] at hx ⊢
      rw [hx, SE.sub_eval]; rfl
  | .sb b, y, x, h, hx => by
    unfold matV at h; cases y <;> simp only at h <;> first | (cases h; done) | skip
    · have := constB_sound (σ := ρ.σ) h
      rw [SB.sub_eval] at this
      simp only [VR] at hx ⊢
      rw [hx, ← this]; rfl
    · rw [← eqSB_eq h] at hx
      simp only [VR] at hx ⊢
      rw [hx, SB.sub_eval]; rfl
  | .ustr e, y, x, h, hx => by
    unfold matV at h; cases y <;> simp only at h <;> first | (cases h; done) | skip
    · have := congrArg (SE.eval ρ.σ) (eqSE_eq h)
      rw [SE.sub_eval] at this
      simp only [VR] at hx ⊢
      rw [hx]
      show _ = Value.string ⟨(dec (e.eval (ρ.σ.sub τ))).toArray⟩
      rw [this]; simp only [SE.eval, dec_enc]
    · rw [← eqSE_eq h] at hx
      simp only [VR] at hx ⊢
      rw [hx, SE.sub_eval]; rfl
  | .usl a n, y, x, h, hx => by
    unfold matV at h; cases y <;> simp only [Bool.and_eq_true] at h <;> first | (cases h; done) | skip
    rw [← Nat.eq_of_beq_eq_true h.1, ← eqSE_eq h.2] at hx
    simp only [VR] at hx ⊢
    obtain ⟨c, hx, hn⟩ := hx
    rw [SE.sub_eval] at hn
    exact ⟨c, hx, hn⟩
  | .uptr a z i o, y, x, h, hx => by
    unfold matV at h; cases y <;> simp only [Bool.and_eq_true] at h <;> first | (cases h; done) | skip
    rw [← Nat.eq_of_beq_eq_true h.1, ← Nat.eq_of_beq_eq_true h.2.1, ← eqSE_eq h.2.2.1, ← Nat.eq_of_beq_eq_true h.2.2.2] at hx
    simp only [VR] at hx ⊢
    rw [SE.sub_eval] at hx
    exact hx
  | .ptr a o, y, x, h, hx => by
    unfold matV at h; cases y <;> simp only [Bool.and_eq_true] at h <;> first | (cases h; done) | skip
    simp only [VR] at hx ⊢
    rw [lookP_lies h.1, Nat.eq_of_beq_eq_true h.2]; exact hx
  | .sl a o l c, y, x, h, hx => by
    unfold matV at h; cases y <;> simp only [Bool.and_eq_true] at h <;> first | (cases h; done) | skip
    simp only [VR] at hx ⊢
    rw [lookP_lies h.1, Nat.eq_of_beq_eq_true h.2.1, Nat.eq_of_beq_eq_true h.2.2.1, Nat.eq_of_beq_eq_true h.2.2.2]; exact hx
  | .gsl a o l, y, x, h, hx => by
    unfold matV at h; cases y <;> simp only [Bool.and_eq_true] at h <;> first | (cases h; done) | skip
    simp only [VR] at hx ⊢
    rw [lookP_lies h.1, Nat.eq_of_beq_eq_true h.2.1, Nat.eq_of_beq_eq_true h.2.2]; exact hx
  | .map a, y, x, h, hx => by
    unfold matV at h; cases y <;> simp only at h <;> first | (cases h; done) | skip
    simp only [VR] at hx ⊢
    rw [lookP_lies h]; exact hx
  | .func f a b, y, x, h, hx => by
    unfold matV at h; cases y <;> simp only [Bool.and_eq_true] at h <;> first | (cases h; done) | skip
    simp only [VR] at hx ⊢
    obtain ⟨f', c', hx, h1, h2⟩ := hx
    rw [eqFn_eq h.1]
    exact ⟨f', c', hx, matVs_sound a _ _ h.2.1 h1, matVs_sound b _ _ h.2.2 h2⟩
  | .iface t v, y, x, h, hx => by
    unfold matV at h; cases y <;> simp only [Bool.and_eq_true] at h <;> first | (cases h; done) | skip
    simp only [VR] at hx ⊢
    obtain ⟨y, hx, h1⟩ := hx
    rw [Nat.eq_of_beq_eq_true h.1]
    exact ⟨y, hx, matV_sound v _ _ h.2 h1⟩
  | .agg a, y, x, h, hx => by
    unfold matV at h; cases y <;> simp only at h <;> first | (cases h; done) | skip
    simp only [VR] at hx ⊢
    obtain ⟨y, hx, h1⟩ := hx
    exact ⟨y, hx, matVs_sound a _ _ h h1⟩
  | .tuple a, y, x, h, hx => by
    unfold matV at h; cases y <;> simp only at h <;> first | (cases h; done) | skip
    simp only [VR] at hx ⊢
    obtain ⟨y, hx, h1⟩ := hx
    exact ⟨y, hx, matVs_sound a _ _ h h1⟩
  | .bool a, y, x, h, hx => by unfold matV at h; rw [← eqMV_eq _ _ h] at hx; simpa only [VR] using hx
  | .int k a, y, x, h, hx => by unfold matV at h; rw [← eqMV_eq _ _ h] at hx; simpa only [VR] using hx
  | .str a, y, x, h, hx => by unfold matV at h; rw [← eqMV_eq _ _ h] at hx; simpa only [VR] using hx
  | .nilPtr, y, x, h, hx => by unfold matV at h; rw [← eqMV_eq _ _ h] at hx; simpa only [VR] using hx
  | .nilSl, y, x, h, hx => by unfold matV at h; rw [← eqMV_eq _ _ h] at hx; simpa only [VR] using hx
  | .nilMap, y, x, h, hx => by unfold matV at h; rw [← eqMV_eq _ _ h] at hx; simpa only [VR] using hx
  | .nilFunc, y, x, h, hx => by unfold matV at h; rw [← eqMV_eq _ _ h] at hx; simpa only [VR] using hx
  | .nilIface, y, x, h, hx => by unfold matV at h; rw [← eqMV_eq _ _ h] at hx; simpa only [VR] using hx
theorem matVs_sound : ∀ (u v : List MV) (x : List Value), matVs θ τ u v = true → VRs ρ v x → VRs (ρ.via θ τ) u x
  | [], y, x, h, hx => by
    unfold matVs at h; cases y <;> simp only at h <;> first | (cases h; done) | skip
    rw [hx.nil_inv]; exact .nil
  | a :: l, y, x, h, hx => by
    unfold matVs at h; cases y <;> simp only [Bool.and_eq_true] at h <;> first | (cases h; done) | skip
    obtain ⟨z, zs, rfl, h1, h2⟩ := hx.cons_inv
    exact .cons (matV_sound a _ _ h.1 h1) (matVs_sound l _ _ h.2 h2)
end

end

section
variable (θ : List (Pos × Pos)) (τ : List (Nat × SE))
def matEs : List (MV × MV × Nat) → List (MV × MV × Nat) → Bool
  | [], [] => true
  | a :: l, b :: m => matV θ τ a.1 b.1 && (matV θ τ a.2.1 b.2.1 && (Nat.beq a.2.2 b.2.2 && matEs l m))
  | _, _ => false
def matO : MO → MO → Bool
  | .cells a, .cells b => matVs θ τ a b
  | .ro a, .cells b => matVs θ τ a b
  | .ro a, .ro b => matVs θ τ a b
  | .grow a sz, .grow b sz' => Nat.beq sz sz' && matVs θ τ a b
  | .map es c, .map es' c' => Nat.beq c c' && matEs θ τ es es'
  | _, _ => false
def matRegs (rs : List (Nat × MV)) : List (Nat × MV) → Bool
  | [] => true
  | p :: l => (match find p.1 none rs with
    | some v => matV θ τ p.2 v
    | none => false) && matRegs rs l
def matObjs (s : MS) : List (Pos × MO) → Bool
  | [] => true
  | p :: l => (match assocP p.1 θ with
    | some k => match s.get k with
      | some o => matO θ τ p.2 o
      | none => false
    | none => false) && matObjs s l
def injP : List (Pos × Pos) → Bool
  | [] => true
  | p :: l => l.all (fun q => !eqPos q.2 p.2) && injP l
def belowP (next : Pos) (θ : List (Pos × Pos)) : Bool := θ.all fun p => Nat.blt p.1.toNat next.toNat
end

theorem matVs_length {θ : List (Pos × Pos)} {τ : List (Nat × SE)} : ∀ {a b : List MV}, matVs θ τ a b = true → a.length = b.length
  | [], [], _ => rfl
  | [], _ :: _, h => by simp [matVs] at h
  | _ :: _, [], h => by simp [matVs] at h
  | a :: l, b :: m, h => by
    simp only [matVs, Bool.and_eq_true] at h
    simp [matVs_length h.2]
theorem matVs_get {θ : List (Pos × Pos)} {τ : List (Nat × SE)} : ∀ {a b : List MV} {k : Nat} {v : MV}, matVs θ τ a b = true → a[k]? = some v → ∃ u, b[k]? = some u ∧ matV θ τ v u = true
  | [], _, k, v, _, hk => by simp at hk
  | a :: l, [], k, v, h, _ => by simp [matVs] at h
  | a :: l, b :: m, 0, v, h, hk => by
    simp only [matVs, Bool.and_eq_true] at h
    simp at hk; subst hk
    exact ⟨b, by simp, h.1⟩
  | a :: l, b :: m, k + 1, v, h, hk => by
    simp only [matVs, Bool.and_eq_true] at h
    simp at hk
    obtain ⟨u, hu, hm⟩ := matVs_get h.2 hk
    exact ⟨u, by simpa using hu, hm⟩

section
variable {ρ : Loc} {θ : List (Pos × Pos)} {τ : List (Nat × SE)}

theorem matVs_cells {a b : List MV} (h : matVs θ τ a b = true) {off : Nat} {vs : Array Value} (hc : Cells ρ off b vs) : Cells (ρ.via θ τ) off a vs := fun k v hk => by
  obtain ⟨u, hu, hm⟩ := matVs_get h hk
  obtain ⟨x, hx, hr⟩ := hc k u hu
  exact ⟨x, hx, matV_sound v u x hm hr⟩

theorem matEs_sound : ∀ {a b : List (MV × MV × Nat)} {xs : List MapEntry}, matEs θ τ a b = true → ERs ρ b xs → ERs (ρ.via θ τ) a xs := by
  have len : ∀ {a b : List (MV × MV × Nat)}, matEs θ τ a b = true → a.length = b.length := by
    intro a
    induction a with
    | nil => intro b h; cases b <;> simp [matEs] at h ⊢
    | cons p a ih => intro b h; cases b <;> simp only [matEs, Bool.and_eq_true] at h <;> first | (cases h; done) | (simp [ih h.2.2.2])
  have get : ∀ {a b : List (MV × MV × Nat)} {i : Nat} {e : MV × MV × Nat}, matEs θ τ a b = true → a[i]? = some e → ∃ e', b[i]? = some e' ∧ matV θ τ e.1 e'.1 = true ∧ matV θ τ e.2.1 e'.2.1 = true ∧ e.2.2 = e'.2.2 := by
    intro a
    induction a with
    | nil => intro b i e _ h; simp at h
    | cons p a ih =>
      intro b i e h hi
      cases b with
      | nil => simp [matEs] at h
      | cons q b =>
        simp only [matEs, Bool.and_eq_true] at h
        cases i with
        | zero => simp at hi; subst hi; exact ⟨q, by simp, h.1, h.2.1, Nat.eq_of_beq_eq_true h.2.2.1⟩
        | succ i => simp at hi; obtain ⟨e', he, hm⟩ := ih h.2.2.2 hi; exact ⟨e', by simpa using he, hm⟩
  intro a b xs h hr
  refine ⟨by rw [hr.1, len h], fun i e x he hx => ?_⟩
  obtain ⟨e', he', h1, h2, h3⟩ := get h he
  obtain ⟨r1, r2, r3⟩ := hr.2 i e' x he' hx
  exact ⟨matV_sound _ _ _ h1 r1, matV_sound _ _ _ h2 r2, by rw [r3, h3]⟩

theorem matO_sound {o o' : MO} (h : matO θ τ o o' = true) {i : HI} {b : Obj} (hr : OR ρ i o' b) : OR (ρ.via θ τ) i o b ∧ (o.own = true → o'.own = true) := by
  unfold matO at h
  split at h
  · obtain ⟨vs, e, fr, hb, hu, hc⟩ := hr
    exact ⟨⟨vs, e, fr, hb, hu, matVs_cells h hc⟩, fun _ => rfl⟩
  · obtain ⟨vs, e, fr, hb, hu, hc⟩ := hr
    exact ⟨⟨vs, e, fr, hb, matVs_cells h hc⟩, fun h => by cases h⟩
  · obtain ⟨vs, e, fr, hb, hc⟩ := hr
    exact ⟨⟨vs, e, fr, hb, matVs_cells h hc⟩, fun h => by cases h⟩
  · rw [Bool.and_eq_true] at h
    obtain ⟨vs, e, fr, hb, hu, hc, h1, h2⟩ := hr
    exact ⟨⟨vs, e, fr, hb, hu, matVs_cells h.2 hc, by rw [h1, Nat.eq_of_beq_eq_true h.1], h2⟩, fun _ => rfl⟩
  · rw [Bool.and_eq_true] at h
    obtain ⟨xs, hb, he⟩ := hr
    exact ⟨⟨xs, by rw [hb, Nat.eq_of_beq_eq_true h.1], matEs_sound h.2 he⟩, fun _ => rfl⟩
  · cases h

theorem find_mem {t : Nat} {v : MV} : ∀ {l : List (Nat × MV)}, find t none l = some v → (t, v) ∈ l
  | [], h => by simp [find] at h
  | p :: l, h => by
    rw [find_cons] at h
    split at h
    · rename_i e; cases h; subst e; exact List.mem_cons_self ..
    · exact List.mem_cons_of_mem _ (find_mem h)

theorem matRegs_sound {keep n : Nat} {rs : List (Nat × MV)} {a : Act} (hE : RegsOK keep n ρ rs a) {rsT : List (Nat × MV)} (h : matRegs θ τ rs rsT = true) : RegsOK keep n (ρ.via θ τ) rsT a := by
  have key : ∀ {l : List (Nat × MV)}, matRegs θ τ rs l = true → ∀ t v, (t, v) ∈ l → ∃ u, find t none rs = some u ∧ matV θ τ v u = true := by
    intro l
    induction l with
    | nil => intro _ t v h; cases h
    | cons p l ih =>
      intro h t v hm
      simp only [matRegs, Bool.and_eq_true] at h
      rcases List.mem_cons.1 hm with rfl | hm
      · have h1 := h.1
        split at h1
        · rename_i u hu; exact ⟨u, hu, h1⟩
        · cases h1
      · exact ih h.2 t v hm
  refine ⟨hE.defers, hE.size, fun t v hv => ?_, fun t v hv => ?_⟩
  · obtain ⟨u, hu, _⟩ := key h t v (find_mem hv)
    exact hE.keys t u hu
  · obtain ⟨u, hu, hm⟩ := key h t v (find_mem hv)
    exact matV_sound v u _ hm (hE.vals t u hu)

/-- A shape's state. -/
def stOf (next : Pos) : List (Pos × MO) → MS
  | [] => ⟨next, .nil⟩
  | p :: l => (stOf next l).put p.1 p.2
theorem stOf_next (next : Pos) : ∀ l, (stOf next l).next = next
  | [] => rfl
  | p :: l => by simp only [stOf, MS.next_put, stOf_next next l]
theorem stOf_get {next h : Pos} {o : MO} : ∀ {l : List (Pos × MO)}, (stOf next l).get h = some o → (h, o) ∈ l
  | [], hg => by
    simp only [stOf, MS.get] at hg
    rw [Tr.get_nil] at hg; cases hg
  | p :: l, hg => by
    simp only [stOf] at hg
    rw [MS.get_put] at hg
    split at hg
    · rename_i e; cases hg; subst e; exact List.mem_cons_self ..
    · exact List.mem_cons_of_mem _ (stOf_get hg)

theorem assocP_mem {h k : Pos} : ∀ {θ : List (Pos × Pos)}, assocP h θ = some k → (h, k) ∈ θ
  | [], h => by simp [assocP] at h
  | p :: l, hk => by
    simp only [assocP] at hk
    split at hk
    · rename_i e
      cases hk
      rw [← eqPos_eq e]; exact List.mem_cons_self ..
    · exact List.mem_cons_of_mem _ (assocP_mem hk)

theorem injP_sound : ∀ {θ : List (Pos × Pos)}, injP θ = true → ∀ {h h' k}, (h, k) ∈ θ → (h', k) ∈ θ → h = h'
  | [], _, _, _, _, h1, _ => by cases h1
  | p :: l, h, a, b, k, h1, h2 => by
    simp only [injP, Bool.and_eq_true] at h
    have hne : ∀ {c : Pos}, (c, p.2) ∈ l → False := fun {c} hc => by
      have := List.all_eq_true.1 h.1 _ hc
      simp only [Bool.not_eq_true'] at this
      have heq : ∀ q : Pos, eqPos q q = true := by
        intro q; induction q with
        | one => rfl
        | z p ih => exact ih
        | o p ih => exact ih
      rw [heq] at this; cases this
    rcases List.mem_cons.1 h1 with e1 | h1 <;> rcases List.mem_cons.1 h2 with e2 | h2
    · rw [← e2] at e1; cases e1; rfl
    · rw [← e1] at hne; exact (hne h2).elim
    · rw [← e2] at hne; exact (hne h1).elim
    · exact injP_sound h.2 h1 h2

theorem matS_sound {C : Ctx} {s : MS} {w : World} (R : Repr C ρ s w) {next : Pos} {L : List (Pos × MO)} (ho : matObjs θ τ s L = true) (hi : injP θ = true) (hb : belowP next θ = true) :
    Repr ⟨C.N, C.w0, ρ.σ.sub τ⟩ (ρ.via θ τ) (stOf next L) w := by
  have key : ∀ {l : List (Pos × MO)}, matObjs θ τ s l = true → ∀ h o, (h, o) ∈ l → ∃ k o', assocP h θ = some k ∧ s.get k = some o' ∧ matO θ τ o o' = true := by
    intro l
    induction l with
    | nil => intro _ t v h; cases h
    | cons p l ih =>
      intro h t v hm
      simp only [matObjs, Bool.and_eq_true] at h
      rcases List.mem_cons.1 hm with rfl | hm
      · have h1 := h.1
        split at h1
        · rename_i k hk
          split at h1
          · rename_i o' ho'
            exact ⟨k, o', hk, ho', h1⟩
          · cases h1
        · cases h1
      · exact ih h.2 t v hm
  have via : ∀ {h k : Pos}, assocP h θ = some k → (ρ.via θ τ).lies h = ρ.lies k := fun hk => by simp only [Loc.via, hk]
  refine ⟨R.below, R.base, rfl, fun h i hl => ?_, fun h o hg => ?_, fun h h' o o' i i' hg hg' hown hl hl' hbk => ?_⟩
  · rw [stOf_next]
    have : ∃ k, assocP h θ = some k := by
      simp only [Loc.via] at hl
      cases hk : assocP h θ with
      | none => rw [hk] at hl; cases hl
      | some k => exact ⟨k, rfl⟩
    obtain ⟨k, hk⟩ := this
    have := List.all_eq_true.1 hb _ (assocP_mem hk)
    have : h.toNat < next.toNat := Nat.le_of_ble_eq_true this
    exact this
  · obtain ⟨k, o', hk, ho', hm⟩ := key ho h o (stOf_get hg)
    obtain ⟨i, b, hi', hb', hr, hn⟩ := R.obj k o' ho'
    obtain ⟨h1, h2⟩ := matO_sound hm hr
    exact ⟨i, b, by rw [via hk]; exact hi', hb', h1, fun hw => hn (h2 hw)⟩
  · obtain ⟨k, o1, hk, ho1, hm⟩ := key ho h o (stOf_get hg)
    obtain ⟨k', o2, hk', ho2, hm'⟩ := key ho h' o' (stOf_get hg')
    rw [via hk] at hl
    rw [via hk'] at hl'
    obtain ⟨_, _, _, _, hr, _⟩ := R.obj k o1 ho1
    have := R.inj k k' o1 o2 i i' ho1 ho2 ((matO_sound hm hr).2 hown) hl hl' hbk
    subst this
    exact injP_sound hi (assocP_mem hk) (assocP_mem hk')

end
end Go.Mir
