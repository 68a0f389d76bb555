/- The mirror's unknown numbers and truth values: what is done to them, sound. -/
import Derived.Test.YtohonlojnflejaaGreatDoorMirOpD
namespace Go.Mir
open Go.RowKit

theorem eqInt_eq : ∀ {a b : Int}, eqInt a b = true → a = b
  | .ofNat a, .ofNat b, h => by simp only [eqInt] at h; rw [Nat.eq_of_beq_eq_true h]
  | .negSucc a, .negSucc b, h => by simp only [eqInt] at h; rw [Nat.eq_of_beq_eq_true h]
  | .ofNat _, .negSucc _, h => by simp [eqInt] at h
  | .negSucc _, .ofNat _, h => by simp [eqInt] at h

theorem eqOp_eq {a b : BinOp} (h : eqOp a b = true) : a = b := by
  cases a <;> cases b <;> first | rfl | (exact absurd h (by decide))
theorem eqKind_eq {a b : IntKind} (h : eqKind a b = true) : a = b := by
  cases a <;> cases b <;> first | rfl | (exact absurd h (by decide))

theorem eqSE_eq : ∀ {a b : SE}, eqSE a b = true → a = b
  | .var i, b, h => by
    cases b <;> simp only [eqSE] at h <;> first | (cases h; done) | rw [Nat.eq_of_beq_eq_true h]
  | .lit i, b, h => by
    cases b <;> simp only [eqSE] at h <;> first | (cases h; done) | rw [eqInt_eq h]
  | .bin op k a b, c, h => by
    cases c <;> simp only [eqSE, Bool.and_eq_true] at h <;> first | (cases h; done) | rw [eqOp_eq h.1, eqKind_eq h.2.1, eqSE_eq h.2.2.1, eqSE_eq h.2.2.2]
  | .wrap k a, c, h => by
    cases c <;> simp only [eqSE, Bool.and_eq_true] at h <;> first | (cases h; done) | rw [eqKind_eq h.1, eqSE_eq h.2]
  | .mm mx a b, c, h => by
    cases c with
    | mm mx' a' b' =>
      cases mx <;> cases mx' <;> simp only [eqSE, Bool.and_eq_true] at h <;> first | (cases h; done) | rw [eqSE_eq h.1, eqSE_eq h.2]
    | _ => cases mx <;> simp [eqSE] at h
  | .app f a b c, d, h => by
    cases d <;> simp only [eqSE, Bool.and_eq_true] at h <;> first | (cases h; done) | rw [Nat.eq_of_beq_eq_true h.1, eqSE_eq h.2.1, eqSE_eq h.2.2.1, eqSE_eq h.2.2.2]

theorem eqSB_eq : ∀ {a b : SB}, eqSB a b = true → a = b
  | .lit x, b, h => by
    cases b with
    | lit y => cases x <;> cases y <;> first | rfl | (simp [eqSB] at h; done)
    | _ => cases x <;> simp [eqSB] at h
  | .cmp op a b, c, h => by
    cases c <;> simp only [eqSB, Bool.and_eq_true] at h <;> first | (cases h; done) | rw [eqOp_eq h.1, eqSE_eq h.2.1, eqSE_eq h.2.2]
  | .not a, c, h => by
    cases c <;> simp only [eqSB] at h <;> first | (cases h; done) | rw [eqSB_eq h]
  | .beq a b, c, h => by
    cases c <;> simp only [eqSB, Bool.and_eq_true] at h <;> first | (cases h; done) | rw [eqSB_eq h.1, eqSB_eq h.2]
  | .and a b, c, h => by
    cases c <;> simp only [eqSB, Bool.and_eq_true] at h <;> first | (cases h; done) | rw [eqSB_eq h.1, eqSB_eq h.2]

/-- What is taken of the unknown is so. -/
def AsmOK (σ : Val) (A : Asm) : Prop := (∀ p ∈ A.es, p.1.eval σ = p.2.eval σ) ∧ ∀ p ∈ A.bs, p.1.eval σ = p.2

theorem lookE_eval {σ : Val} {e : SE} : ∀ {l : List (SE × SE)}, (∀ p ∈ l, p.1.eval σ = p.2.eval σ) → (lookE e l).eval σ = e.eval σ
  | [], _ => rfl
  | p :: l, h => by
    simp only [lookE]
    split
    · rename_i hp
      rw [← h p (List.mem_cons_self ..), eqSE_eq hp]
    · exact lookE_eval fun q hq => h q (List.mem_cons_of_mem _ hq)

theorem lookB_eval {σ : Val} {e : SB} {c : Bool} : ∀ {l : List (SB × Bool)}, (∀ p ∈ l, p.1.eval σ = p.2) → lookB e l = some c → e.eval σ = c
  | [], _, h => by cases h
  | p :: l, h, hc => by
    simp only [lookB] at hc
    split at hc
    · rename_i hp
      cases hc
      rw [← h p (List.mem_cons_self ..), eqSB_eq hp]
    · exact lookB_eval (fun q hq => h q (List.mem_cons_of_mem _ hq)) hc

theorem lookQ_eval {σ : Val} {e : SE} {n : Int} : ∀ {l : List (SB × Bool)}, (∀ p ∈ l, p.1.eval σ = p.2) → lookQ e l = some n → e.eval σ = n
  | [], _, h => by cases h
  | p :: l, h, hc => by
    have hr : lookQ e l = some n → e.eval σ = n := fun hc => lookQ_eval (fun q hq => h q (List.mem_cons_of_mem _ hq)) hc
    simp only [lookQ] at hc
    split at hc
    · rename_i e' m
      split at hc
      · rename_i he
        cases hc
        have := h _ (List.mem_cons_self ..)
        rw [← eqSE_eq he]
        simpa [SB.eval, cmpV, SE.eval] using this
      · exact hr hc
    · exact hr hc

theorem decN_enc : ∀ (l : List UInt8) (f : Nat), (enc l).toNat ≤ f → 0 ≤ enc l ∧ decN f (enc l).toNat = l
  | [], f, _ => ⟨by simp [enc], by cases f <;> simp [enc, decN]⟩
  | b :: l, f, hf => by
    have hb : b.toNat < 256 := b.toNat_lt
    obtain ⟨h0, _⟩ := decN_enc l (enc l).toNat (Nat.le_refl _)
    have he : (enc (b :: l)).toNat = b.toNat + 1 + 257 * (enc l).toNat := by simp only [enc]; omega
    refine ⟨by simp only [enc]; omega, ?_⟩
    rw [he] at hf ⊢
    obtain ⟨f, rfl⟩ : ∃ g, f = g + 1 := ⟨f - 1, by omega⟩
    have h1 : b.toNat + 1 + 257 * (enc l).toNat = (b.toNat + 257 * (enc l).toNat) + 1 := by omega
    rw [h1]
    simp only [decN]
    have h2 : (b.toNat + 257 * (enc l).toNat + 1) % 257 - 1 = b.toNat := by omega
    have h3 : (b.toNat + 257 * (enc l).toNat + 1) / 257 = (enc l).toNat := by omega
    rw [h2, h3]
    have := (decN_enc l f (by omega)).2
    rw [this]
    simp
theorem dec_enc (l : List UInt8) : dec (enc l) = l := (decN_enc l _ (Nat.le_refl _)).2

theorem cmp_neg (op : BinOp) (h : isCmp op = true) (x y : Int) : cmpV (negOp op) x y = !cmpV op x y := by
  cases op <;> first | (cases h; done) | skip
  all_goals
    simp only [negOp, cmpV]
    first
      | (by_cases e : x = y <;> simp [e]; done)
      | (rw [Bool.eq_iff_iff]; simp <;> omega)
theorem cmp_flip (op : BinOp) (h : isCmp op = true) (x y : Int) : cmpV (flipOp op) y x = cmpV op x y := by
  have e : ∀ a b : Bool, (a = true ↔ b = true) → a = b := fun a b h => by cases a <;> cases b <;> simp_all
  cases op <;> first | (cases h; done) | (refine e _ _ ?_; simp only [flipOp, cmpV, beq_iff_eq, bne_iff_ne, ne_eq, decide_eq_true_eq]; all_goals omega)
theorem cmp_same (op : BinOp) (h : isCmp op = true) (x : Int) : cmpV op x x = sameOp op := by
  cases op <;> first | (cases h; done) | simp [cmpV, sameOp]
theorem isCmp_flip {op : BinOp} (h : isCmp op = true) : isCmp (flipOp op) = true := by cases op <;> first | (cases h; done) | rfl
theorem notO_some {o : Option Bool} {c : Bool} (h : notO o = some c) : o = some (!c) := by
  cases o <;> simp only [notO] at h <;> first | (cases h; done) | (cases h; simp)
theorem lookC_eval {σ : Val} {l : List (SB × Bool)} (hl : ∀ p ∈ l, p.1.eval σ = p.2) {op : BinOp} {a b : SE} {c : Bool} (h : lookC op a b l = some c) : (SB.cmp op a b).eval σ = c := by
  unfold lookC at h
  split at h
  · cases h
  rename_i hop
  split at h
  · rename_i he
    cases h
    rw [eqSE_eq he]; exact cmp_same op hop _
  split at h
  · rename_i hc; cases h; exact lookB_eval hl hc
  split at h
  · rename_i hc
    cases h
    have := lookB_eval hl (notO_some hc)
    simp only [SB.eval, cmp_neg op hop] at this ⊢
    simpa using this
  split at h
  · rename_i hc
    cases h
    have := lookB_eval hl hc
    simp only [SB.eval, cmp_flip op hop] at this ⊢
    exact this
  · have := lookB_eval hl (notO_some h)
    simp only [SB.eval, cmp_neg _ (isCmp_flip hop), cmp_flip op hop] at this ⊢
    simpa using this

theorem lookN_eval {σ : Val} {l : List (SB × Bool)} (hl : ∀ p ∈ l, p.1.eval σ = p.2) : ∀ {e : SB} {c : Bool}, lookN l e = some c → e.eval σ = c
  | .lit b, c, h => by simp only [lookN] at h; cases h; rfl
  | .not b, c, h => by
    simp only [lookN] at h
    split at h
    · rename_i d hd
      cases h
      simp only [SB.eval, lookN_eval hl hd]
    · cases h
  | .beq a b, c, h => by
    simp only [lookN] at h
    split at h
    · rename_i x y hx hy
      cases h
      simp only [SB.eval, lookN_eval hl hx, lookN_eval hl hy]
      cases x <;> cases y <;> rfl
    · cases h
  | .and a b, c, h => by
    simp only [lookN] at h
    split at h
    · rename_i ha
      cases h
      simp only [SB.eval, lookN_eval hl ha, Bool.false_and]
    · rename_i ha
      simp only [SB.eval, lookN_eval hl ha, Bool.true_and, lookN_eval hl h]
    · split at h
      · rename_i hb
        cases h
        simp only [SB.eval, lookN_eval hl hb, Bool.and_false]
      · cases h
  | .cmp op a b, c, h => lookC_eval hl h

section
variable {P : Program} {w : World} {ρ : Loc} {A : Asm}

theorem known_sound (hA : AsmOK ρ.σ A) {v : MV} {x : Value} (h : VR ρ v x) : VR ρ (known A v) x := by
  cases v <;> simp only [known] <;> first | exact h | skip
  · rename_i k e
    simp only [VR] at h
    have he := lookE_eval (e := e) hA.1
    split
    · rename_i n hn
      rw [hn] at he
      simp only [VR]; rw [h, ← he]; rfl
    · split
      · rename_i n hn
        simp only [VR]; rw [h, ← he, lookQ_eval hA.2 hn]
      · simp only [VR]; rw [h, he]
  · rename_i b
    simp only [VR] at h
    split
    · rename_i c hc
      simp only [VR]; rw [h, lookN_eval hA.2 hc]
    · simp only [VR]; exact h

theorem knownV_sound (hA : AsmOK ρ.σ A) {v : MV} {x : Value} (h : VR ρ v x) : VR ρ (knownV A v) x := by
  unfold knownV
  split
  · rename_i l
    simp only [VR] at h ⊢
    obtain ⟨a, rfl, ha⟩ := h
    refine ⟨a, rfl, ?_⟩
    have : ∀ {l : List MV} {xs : List Value}, VRs ρ l xs → VRs ρ (l.map (known A)) xs := by
      intro l
      induction l with
      | nil => intro xs h; exact h
      | cons v l ih =>
        intro xs h
        obtain ⟨y, ys, rfl, h1, h2⟩ := h.cons_inv
        exact .cons (known_sound hA h1) (ih h2)
    exact this ha
  · exact known_sound hA h

theorem seOf_sound {a : MV} {k : IntKind} {e : SE} {x : Value} (h : seOf a = some (k, e)) (hx : VR ρ a x) : x = .int k (e.eval ρ.σ) := by
  cases a <;> simp only [seOf] at h <;> first | (cases h; done) | (cases h; simpa only [VR, SE.eval] using hx)
theorem sbOf_sound {a : MV} {e : SB} {x : Value} (h : sbOf a = some e) (hx : VR ρ a x) : x = .bool (e.eval ρ.σ) := by
  cases a <;> simp only [sbOf] at h <;> first | (cases h; done) | (cases h; simpa only [VR, SB.eval] using hx)

theorem ssOf_sound {a : MV} {e : SE} {x : Value} (h : ssOf a = some e) (hx : VR ρ a x) : x = .string ⟨(dec (e.eval ρ.σ)).toArray⟩ := by
  cases a <;> simp only [ssOf] at h <;> first | (cases h; done) | (cases h; simpa only [VR, SE.eval, dec_enc] using hx)

theorem lookGe_sound (hA : AsmOK ρ.σ A) {e : SE} (h : lookGe A e = true) : 0 ≤ e.eval ρ.σ := by
  unfold lookGe at h
  split at h
  · rename_i hb
    have := lookB_eval hA.2 hb
    simpa [SB.eval, cmpV, SE.eval] using this
  · split at h
    · rename_i hb
      have := lookB_eval hA.2 hb
      have : ¬ e.eval ρ.σ < 0 := by
        have h' : decide (e.eval ρ.σ < 0) = false := this
        exact of_decide_eq_false h'
      omega
    · cases h
theorem lookLe_sound (hA : AsmOK ρ.σ A) {x y : SE} (h : lookLe A x y = true) : x.eval ρ.σ ≤ y.eval ρ.σ := by
  unfold lookLe at h
  split at h
  · rename_i hb
    have := lookB_eval hA.2 hb
    simpa [SB.eval, cmpV, SE.eval] using this
  · split at h
    · rename_i hb
      have := lookB_eval hA.2 hb
      have : ¬ x.eval ρ.σ > y.eval ρ.σ := by simpa only [SB.eval, cmpV, decide_eq_false_iff_not] using this
      omega
    · split at h
      · rename_i hb
        have := lookB_eval hA.2 hb
        have : x.eval ρ.σ < y.eval ρ.σ := by simpa [SB.eval, cmpV, SE.eval] using this
        omega
      · cases h
theorem lookLt_sound (hA : AsmOK ρ.σ A) {x y : SE} (h : lookLt A x y = true) : x.eval ρ.σ < y.eval ρ.σ := by
  unfold lookLt at h
  split at h
  · rename_i hb
    have := lookB_eval hA.2 hb
    simpa [SB.eval, cmpV, SE.eval] using this
  · split at h
    · rename_i hb
      have := lookB_eval hA.2 hb
      have : ¬ x.eval ρ.σ ≥ y.eval ρ.σ := by simpa only [SB.eval, cmpV, decide_eq_false_iff_not] using this
      omega
    · split at h
      · rename_i hb
        have := lookB_eval hA.2 hb
        simpa [SB.eval, cmpV, SE.eval] using this
      · cases h
theorem geq0_sound (hA : AsmOK ρ.σ A) : ∀ {e : SE}, geq0 A e = true → 0 ≤ e.eval ρ.σ := by
  intro e
  induction e with
  | mm mx a b iha ihb =>
    intro h
    cases mx with
    | false =>
      simp only [geq0, Bool.and_eq_true] at h
      have h1 := iha h.1
      have h2 := ihb h.2
      simp only [SE.eval, mmV, Bool.false_eq_true, if_false]; split <;> assumption
    | true =>
      simp only [geq0, Bool.or_eq_true] at h
      simp only [SE.eval, mmV, if_true]
      rcases h with ha | hb
      · have h1 := iha ha
        split <;> omega
      · have h1 := ihb hb
        split <;> omega
  | lit n => intro h; simpa [geq0, SE.eval] using h
  | app f a b c _ _ _ =>
    intro h
    simp only [geq0, Bool.or_eq_true] at h
    rcases h with h | h
    · have h := Nat.eq_of_beq_eq_true h; subst h
      simp only [SE.eval, appV]; omega
    · exact lookGe_sound hA h
  | var i => intro h; exact lookGe_sound hA (by simpa only [geq0] using h)
  | bin op k a b _ _ => intro h; exact lookGe_sound hA (by simpa only [geq0] using h)
  | wrap k a _ =>
    intro h
    simp only [geq0, Bool.or_eq_true, Bool.not_eq_true'] at h
    rcases h with h | h
    · simp only [SE.eval, IntKind.wrap, h, Bool.false_and]
      exact Int.emod_nonneg _ (by cases k <;> simp [IntKind.bits])
    · exact lookGe_sound hA h

theorem leqR_sound (hA : AsmOK ρ.σ A) : ∀ {x y : SE}, leqR A x y = true → x.eval ρ.σ ≤ y.eval ρ.σ := by
  have base : ∀ {x y : SE}, (eqSE x y || lookLe A x y) = true → x.eval ρ.σ ≤ y.eval ρ.σ := by
    intro x y h
    rw [Bool.or_eq_true] at h
    rcases h with h | h
    · rw [eqSE_eq h]; exact Int.le_refl _
    · exact lookLe_sound hA h
  intro x
  induction x with
  | mm mx a b iha ihb =>
    intro y h
    cases mx with
    | true => exact base (by simpa only [leqR] using h)
    | false =>
      simp only [leqR, Bool.or_eq_true] at h
      rcases h with h | h | h | h
      · rw [eqSE_eq h]; exact Int.le_refl _
      · have h1 := iha h
        simp only [SE.eval, mmV, Bool.false_eq_true, if_false]
        split <;> omega
      · have h1 := ihb h
        simp only [SE.eval, mmV, Bool.false_eq_true, if_false]
        split <;> omega
      · exact lookLe_sound hA h
  | lit m =>
    intro y h
    cases y <;> first | exact base (by simpa only [leqR] using h) | (simpa [leqR, SE.eval] using h)
  | _ => intro y h; exact base (by simpa only [leqR] using h)

theorem lssR_sound (hA : AsmOK ρ.σ A) {x y : SE} (h : lssR A x y = true) : x.eval ρ.σ < y.eval ρ.σ := by
  unfold lssR at h
  split at h
  · simpa [SE.eval] using h
  · exact lookLt_sound hA h

theorem lookLen_sound {σ : Val} {e : SE} {n : Nat} : ∀ {l : List (SB × Bool)}, (∀ p ∈ l, p.1.eval σ = p.2) → lookLen e l = some n → (dec (e.eval σ)).length ≤ n
  | [], _, h => by cases h
  | p :: l, h, hc => by
    have hr : lookLen e l = some n → (dec (e.eval σ)).length ≤ n := fun hc => lookLen_sound (fun q hq => h q (List.mem_cons_of_mem _ hq)) hc
    simp only [lookLen] at hc
    split at hc
    · rename_i e' q1 q2 m
      split at hc
      · rename_i he
        cases hc
        have := h _ (List.mem_cons_self ..)
        rw [← eqSE_eq he]
        have h2 : ((dec (e'.eval σ)).length : Int) ≤ (Int.ofNat n) := by simpa [SB.eval, cmpV, SE.eval, appV] using this
        simpa using h2
      · exact hr hc
    · exact hr hc

theorem lenLe_sound (hA : AsmOK ρ.σ A) : ∀ {e : SE} {n : Nat}, lenLe A e = some n → (dec (e.eval ρ.σ)).length ≤ n := by
  intro e
  induction e with
  | lit m => intro n h; simp only [lenLe] at h; cases h; simp only [SE.eval]; omega
  | app f a b c iha ihb ihc =>
    intro n h
    simp only [lenLe] at h
    split at h
    · rename_i hf
      have hf := Nat.eq_of_beq_eq_true hf; subst hf
      split at h
      · rename_i p q h1 h2
        cases h
        have := iha h1
        have := ihb h2
        simp only [SE.eval, appV, dec_enc, List.length_append]; omega
      · cases h
    · split at h
      · rename_i hf
        have hf := Nat.eq_of_beq_eq_true hf; subst hf
        have := iha h
        simp only [SE.eval, appV, dec_enc, List.length_drop, List.length_take]; omega
      · split at h
        · rename_i hf
          have hf := Nat.eq_of_beq_eq_true hf; subst hf
          cases h
          simp [SE.eval, appV, dec_enc]
        · exact lookLen_sound hA.2 h
  | _ => intro n h; exact lookLen_sound hA.2 (by simpa only [lenLe] using h)

theorem symStr_sound (hA : AsmOK ρ.σ A) (t : TypeId) {op : BinOp} {x y : SE} {v : MV} (h : symStr A op x y = some v) :
    ∃ z, (binOp op t (.string ⟨(dec (x.eval ρ.σ)).toArray⟩) (.string ⟨(dec (y.eval ρ.σ)).toArray⟩)).run P w = .ok z w ∧ VR ρ v z := by
  have via : ∀ {u : MV}, mStrOp op (dec (x.eval ρ.σ)) (dec (y.eval ρ.σ)) = some u → (∀ z, VR ρ u z → VR ρ v z) → ∃ z, (binOp op t (.string ⟨(dec (x.eval ρ.σ)).toArray⟩) (.string ⟨(dec (y.eval ρ.σ)).toArray⟩)).run P w = .ok z w ∧ VR ρ v z := fun hu hz => by
    obtain ⟨z, h1, h2⟩ := mStrOp_sound (P := P) (w := w) (ρ := ρ) t hu
    exact ⟨z, h1, hz z h2⟩
  cases op <;> simp only [symStr] at h <;> first | (cases h; done) | skip
  case eql =>
    cases h
    refine via (u := .bool (dec (x.eval ρ.σ) == dec (y.eval ρ.σ))) rfl fun z hz => ?_
    simp only [VR] at hz ⊢
    rw [hz]
    simp only [SB.eval, SE.eval, appV, cmpV]
    cases dec (x.eval ρ.σ) == dec (y.eval ρ.σ) <;> rfl
  case neq =>
    cases h
    refine via (u := .bool !(dec (x.eval ρ.σ) == dec (y.eval ρ.σ))) rfl fun z hz => ?_
    simp only [VR] at hz ⊢
    rw [hz]
    simp only [SB.eval, SE.eval, appV, cmpV]
    cases dec (x.eval ρ.σ) == dec (y.eval ρ.σ) <;> rfl
  case add =>
    split at h
    · rename_i m n hm hn
      split at h
      · rename_i hb
        cases h
        have h1 := lenLe_sound hA hm
        have h2 := lenLe_sound hA hn
        have h3 := Nat.le_of_ble_eq_true hb
        refine via (u := .str (dec (x.eval ρ.σ) ++ dec (y.eval ρ.σ))) (by simp only [mStrOp]; rw [if_pos (by omega)]) fun z hz => ?_
        simp only [VR] at hz ⊢
        rw [hz]
        simp only [SE.eval, appV, dec_enc]
      · cases h
    · cases h

theorem nonZero_sound (hA : AsmOK ρ.σ A) {e : SE} (h : nonZero A e = true) : e.eval ρ.σ ≠ 0 := by
  unfold nonZero at h
  split at h
  · rename_i n
    intro h0
    simp only [SE.eval] at h0
    subst h0
    exact absurd h (by decide)
  · split at h
    · rename_i hb
      have := lookB_eval hA.2 hb
      simpa [SB.eval, cmpV, SE.eval] using this
    · cases h

theorem symInt_sound (hA : AsmOK ρ.σ A) (t : TypeId) {op : BinOp} {k k' : IntKind} {x y : SE} {v : MV} (h : symInt A op k k' x y = some v) :
    ∃ z, (binOp op t (.int k (x.eval ρ.σ)) (.int k' (y.eval ρ.σ))).run P w = .ok z w ∧ VR ρ v z := by
  have quo : ∀ b : Bool, (match b with | true => some (MV.sx k (.bin op k x y)) | false => none) = some v → b = true ∧ v = .sx k (.bin op k x y) := fun b hb => by
    cases b
    · cases hb
    · cases hb; exact ⟨rfl, rfl⟩
  have cmp : ∀ b : Bool, (match b with | true => some (MV.sb (.cmp op x y)) | false => none) = some v → b = true ∧ v = .sb (.cmp op x y) := fun b hb => by
    cases b
    · cases hb
    · cases hb; exact ⟨rfl, rfl⟩
  cases op <;> simp only [symInt] at h
  case add | sub | mul =>
    obtain ⟨hk, rfl⟩ := quo _ h
    have hk := eqKind_eq hk; subst hk
    exact ⟨_, by simp [binOp, Op.intArith]; rfl, by simp only [VR, SE.eval, binV]⟩
  case and | or | xor | andNot =>
    obtain ⟨hk, rfl⟩ := quo _ h
    have hk := eqKind_eq hk; subst hk
    exact ⟨_, by simp only [binOp, ne_eq, not_true_eq_false, if_false, Op.intBits, Sem.run_pure]; rfl, by simp only [VR, SE.eval, binV]⟩
  case quo | rem =>
    obtain ⟨hk, rfl⟩ := quo _ h
    rw [Bool.and_eq_true] at hk
    have h0 := nonZero_sound hA hk.2
    have hk := eqKind_eq hk.1; subst hk
    exact ⟨_, by simp [binOp, Op.intDiv, h0]; rfl, by simp only [VR, SE.eval, binV]⟩
  case eql | neq | lss | leq | gtr | geq =>
    obtain ⟨hk, rfl⟩ := cmp _ h
    have hk := eqKind_eq hk; subst hk
    exact ⟨_, by simp [binOp, Op.intCmp]; rfl, by simp only [VR, SB.eval, cmpV]⟩
  case shl | shr =>
    split at h
    · rename_i hg
      cases h
      refine ⟨_, ?_, by simp only [VR, SE.eval, binV]; rfl⟩
      have hn : ¬ (y.eval ρ.σ < 0) := by have := geq0_sound hA hg; omega
      simp [binOp, Op.shift, hn]
    · cases h

theorem symBin_sound (hA : AsmOK ρ.σ A) {op : BinOp} {t : TypeId} {xo yo : Operand} {a b v : MV} {x y : Value} (hx : VR ρ a x) (hy : VR ρ b y) (h : symBin P A op t a b = some v) :
    ∃ z, (do eqGuard op t xo yo x y; binOp op t x y : Sem Value).run P w = .ok z w ∧ VR ρ v z := by
  unfold symBin at h
  split at h
  · rename_i k e k' e' h1 h2
    rw [seOf_sound h1 hx, seOf_sound h2 hy]
    obtain ⟨z, hz, hv⟩ := symInt_sound (P := P) (w := w) hA t h
    exact ⟨z, by simp only [Sem.run_bind, eqGuard_at_int, Sem.run_pure, Result.andThen_ok]; exact hz, hv⟩
  · split at h
    · rename_i e e' h1 h2 hu
      rw [sbOf_sound h1 hx, sbOf_sound h2 hy]
      have heq : ∀ p q : Bool, (Op.equal t (.bool p) (.bool q)).run P w = .ok (p == q) w := fun p q => by
        have hd : ∀ n, (Op.equalIn (n + 1) t (.bool p) (.bool q)).run P w = .ok (p == q) w := fun n => by
          simp only [Op.equalIn, Sem.run_bind, run_underlying' hu, Result.andThen_ok, Sem.run_pure]
        exact hd 9999
      split at h
      · cases h
        refine ⟨.bool (e.eval ρ.σ == e'.eval ρ.σ), ?_, by simp only [VR, SB.eval]⟩
        simp only [Sem.run_bind, eqGuard_at_bool, Sem.run_pure, Result.andThen_ok]
        simp only [binOp, Sem.run_bind, heq, Result.andThen_ok, Sem.run_pure]
      · cases h
        refine ⟨.bool (!(e.eval ρ.σ == e'.eval ρ.σ)), ?_, by simp only [VR, SB.eval]⟩
        simp only [Sem.run_bind, eqGuard_at_bool, Sem.run_pure, Result.andThen_ok]
        simp only [binOp, Sem.run_bind, heq, Result.andThen_ok, Sem.run_pure]
      · cases h
    · split at h
      · rename_i e e' h1 h2
        rw [ssOf_sound h1 hx, ssOf_sound h2 hy]
        obtain ⟨z, hz, hv⟩ := symStr_sound (P := P) (w := w) hA t h
        exact ⟨z, by simp only [Sem.run_bind, eqGuard_at_string, Sem.run_pure, Result.andThen_ok]; exact hz, hv⟩
      · cases h

theorem symUn_sound {op : UnOp} {a v : MV} {x : Value} (hx : VR ρ a x) (h : symUn op a = some v) : ∃ y, (Op.unary op x).run P w = .ok y w ∧ VR ρ v y := by
  unfold symUn at h
  split at h
  · rename_i k e
    simp only [VR] at hx; subst hx
    split at h
    · cases h; exact ⟨_, by simp only [Op.unary, Op.intArith, Sem.run_pure]; rfl, by simp only [VR, SE.eval, binV]⟩
    · cases h; exact ⟨_, by simp only [Op.unary, Op.intBits, Sem.run_pure]; rfl, by simp only [VR, SE.eval, binV]⟩
    · cases h
  · rename_i b
    simp only [VR] at hx; subst hx
    split at h
    · cases h; exact ⟨_, by simp [Op.unary]; rfl, by simp only [VR, SB.eval]⟩
    · cases h
  · cases h

theorem symMinMax_sound (hA : AsmOK ρ.σ A) {mx : Bool} {l : List MV} {xs : List Value} {v : MV} {ts : Array TypeId} {ty : TypeId} (hl : VRs ρ l xs) (h : symMinMax A mx l = some v) :
    ∃ y, (if mx then Builtin.max_ ts ty xs.toArray else Builtin.min_ ts ty xs.toArray).run P w = .ok y w ∧ VR ρ v y := by
  cases l with
  | nil => simp [symMinMax] at h
  | cons a l =>
    obtain ⟨x, ys, rfl, hx, hys⟩ := hl.cons_inv
    have main : ∀ (l : List MV) (ys : List Value) (a : MV) (x : Value), VRs ρ l ys → VR ρ a x → symMM A mx a l = some v →
        ∃ y, (ys.foldlM (if mx = true then Builtin.max2 else Builtin.min2) x).run P w = .ok y w ∧ VR ρ v y := by
      intro l
      induction l with
      | nil =>
        intro ys a x hys hx h
        rw [hys.nil_inv]
        simp only [symMM] at h; cases h
        exact ⟨x, by simp, hx⟩
      | cons b l ih =>
        intro ys a x hys hx h
        obtain ⟨y, zs, rfl, hy, hzs⟩ := hys.cons_inv
        simp only [symMM] at h
        split at h
        case h_2 => cases h
        rename_i k e k' e' h1 h2
        have h1 := seOf_sound h1 hx
        have h2 := seOf_sound h2 hy
        subst h1; subst h2
        obtain ⟨z, hz, hv⟩ := ih zs _ (.int k (mmV mx (e.eval ρ.σ) (e'.eval ρ.σ))) hzs (known_sound hA (by simp only [VR, SE.eval])) h
        refine ⟨z, ?_, hv⟩
        rw [List.foldlM_cons]
        cases mx
        · simp only [Bool.false_eq_true, if_false, Sem.run_bind, Builtin.min2, Sem.run_pure, Result.andThen_ok, mmV] at hz ⊢
          exact hz
        · simp only [if_true, Sem.run_bind, Builtin.max2, Sem.run_pure, Result.andThen_ok, mmV] at hz ⊢
          exact hz
    obtain ⟨y, hy, hv⟩ := main l ys a x hys hx h
    refine ⟨y, ?_, hv⟩
    cases mx
    · simpa [Builtin.min_] using hy
    · simpa [Builtin.max_] using hy

theorem symConv_sound {src dst : TypeId} {d : TypeDesc} (hs : P.underlying src = some d) {a v : MV} {x : Value} (hx : VR ρ a x) (h : symConv P dst a = some v) : ∃ y, (convert src dst x).run P w = .ok y w ∧ VR ρ v y := by
  unfold symConv at h
  split at h
  · rename_i k k' e hu
    cases h
    simp only [VR] at hx; subst hx
    refine ⟨.int k (k.wrap (e.eval ρ.σ)), ?_, by simp only [VR, SE.eval]⟩
    simp only [convert, Sem.run_bind, run_underlying' hs, run_underlying' hu, Result.andThen_ok]
    rfl
  · rename_i e hu
    cases h
    simp only [VR] at hx; subst hx
    refine ⟨_, ?_, by simp only [VR]; rfl⟩
    simp only [convert, Sem.run_bind, run_underlying' hs, run_underlying' hu, Result.andThen_ok]
    rfl
  · cases h

end
end Go.Mir
