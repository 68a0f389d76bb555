/- The mirror's run against the machine's: code, calls. -/
import Derived.Test.YtohonlojnflejaaGreatDoorMirStep
import Derived.LoopN
namespace Go.Mir
open Go.RowKit

/-- A way out of code. -/
def exitOf : MEx → Exit
  | .normal => .normal
  | .exit id => .exit id
  | .ret => .ret

structure RegsOK (keep n : Nat) (ρ : Loc) (rs : List (Nat × MV)) (a : Act) : Prop where
  defers : a.defers = []
  size : a.tmps.size = n
  keys : ∀ t v, find t none rs = some v → keep.testBit t = true
  vals : ∀ t v, find t none rs = some v → VR ρ v (a.eval (.tmp t))

structure EnvOK (keep n : Nat) (ρ : Loc) (E : Env) (a : Act) : Prop where
  defers : a.defers = []
  size : a.tmps.size = n
  keys : ∀ t v, find t none E.rs = some v → keep.testBit t = true
  vals : ∀ t v, E.look t = some v → VR ρ v (a.eval (.tmp t))

theorem find_cons (t : Nat) (d : Option MV) (p : Nat × MV) (l : List (Nat × MV)) : find t d (p :: l) = if p.1 = t then some p.2 else find t d l := by
  by_cases h : p.1 = t
  · have : Nat.beq p.1 t = true := by rw [h]; exact Nat.beq_refl t
    simp [find, h]
  · have : Nat.beq p.1 t = false := by
      cases hb : Nat.beq p.1 t with
      | false => rfl
      | true => exact absurd (Nat.eq_of_beq_eq_true hb) h
    simp [find, this, h]

theorem find_setL (t k : Nat) (v : MV) : ∀ l : List (Nat × MV), find t none (setL k v l) = if k = t then some v else find t none l
  | [] => by simp only [setL, find_cons]
  | p :: l => by
    by_cases h : p.1 = k
    · have : Nat.beq p.1 k = true := by rw [h]; exact Nat.beq_refl k
      simp only [setL, this, find_cons]
      by_cases hk : k = t
      · simp [hk]
      · have : ¬ p.1 = t := fun e => hk (h ▸ e)
        simp [hk, this]
    · have : Nat.beq p.1 k = false := by
        cases hb : Nat.beq p.1 k with
        | false => rfl
        | true => exact absurd (Nat.eq_of_beq_eq_true hb) h
      simp only [setL, this, find_cons, find_setL t k v l]
      by_cases hp : p.1 = t
      · have : ¬ k = t := fun e => h (hp.trans e.symm)
        simp [hp, this]
      · simp [hp]

theorem find_flush (keep t : Nat) (v : MV) (rs : List (Nat × MV)) (hk : ∀ t v, find t none rs = some v → keep.testBit t = true) : ∀ es : List (Nat × MV),
    find t none (flush keep es rs) = some v → find t (find t none rs) es = some v ∧ keep.testBit t = true
  | [], h => ⟨h, hk t v h⟩
  | p :: es, h => by
    rw [find_cons]
    cases hb : keep.testBit p.1 with
    | true =>
      simp only [flush, hb, find_setL] at h
      by_cases hp : p.1 = t
      · rw [if_pos hp] at h ⊢; exact ⟨h, hp ▸ hb⟩
      · rw [if_neg hp] at h ⊢; exact find_flush keep t v rs hk es h
    | false =>
      simp only [flush, hb] at h
      have := find_flush keep t v rs hk es h
      have hp : ¬ p.1 = t := fun e => by rw [e] at hb; rw [hb] at this; exact absurd this.2 (by simp)
      rw [if_neg hp]; exact this

theorem EnvOK.flush {keep n : Nat} {ρ : Loc} {E : Env} {a : Act} (h : EnvOK keep n ρ E a) : RegsOK keep n ρ (flush keep E.es E.rs) a where
  defers := h.defers
  size := h.size
  keys := fun t v hv => (find_flush keep t v E.rs h.keys E.es hv).2
  vals := fun t v hv => h.vals t v (find_flush keep t v E.rs h.keys E.es hv).1

theorem RegsOK.env {keep n : Nat} {ρ : Loc} {rs : List (Nat × MV)} {a : Act} (h : RegsOK keep n ρ rs a) : EnvOK keep n ρ ⟨[], rs⟩ a where
  defers := h.defers
  size := h.size
  keys := h.keys
  vals := fun t v hv => h.vals t v hv

theorem RegsOK.mono {keep n : Nat} {ρ ρ' : Loc} {rs : List (Nat × MV)} {a : Act} (h : RegsOK keep n ρ rs a) (hl : ρ.le ρ') : RegsOK keep n ρ' rs a where
  defers := h.defers
  size := h.size
  keys := h.keys
  vals := fun t v hv => (h.vals t v hv).mono hl

theorem put_eval_same {a : Act} {d : Nat} {x : Value} (h : d < a.tmps.size) : (a.put (some d) x).eval (.tmp d) = x := by
  simp [Act.put, Act.eval, h]

theorem EnvOK.put {keep n : Nat} {ρ ρ' : Loc} {E : Env} {a : Act} (h : EnvOK keep n ρ E a) (hl : ρ.le ρ') {dst : Option Tmp} (hd : ∀ d, dst = some d → d < n) {v : MV} {x : Value} (hx : VR ρ' v x) : EnvOK keep n ρ' (E.put dst v) (a.put dst x) := by
  cases dst with
  | none => exact ⟨h.defers, h.size, h.keys, fun t u hu => (h.vals t u hu).mono hl⟩
  | some d =>
    refine ⟨h.defers, by simp [Act.put, h.size], h.keys, fun t u hu => ?_⟩
    simp only [Env.put, Env.look, find_cons] at hu
    by_cases hdt : d = t
    · rw [if_pos hdt] at hu; cases hu; subst hdt
      rw [put_eval_same (by rw [h.size]; exact hd _ rfl)]; exact hx
    · rw [if_neg hdt] at hu
      rw [Act.eval_put (fun d' hd' => by cases hd'; intro e; cases e; exact hdt rfl)]
      exact (h.vals t u hu).mono hl

theorem EnvOK.agree {keep n : Nat} {ρ : Loc} {E : Env} {a : Act} (h : EnvOK keep n ρ E a) (xs : Array Operand) : Agree ρ E a xs := fun t v _ hv => h.vals t v hv

theorem wanted_sound {keep n : Nat} {ρ : Loc} {E : Env} {a : Act} (h : EnvOK keep n ρ E a) {ops : Array Oper} {o : Oper} {b : Bool} (hb : wantedM ops o E = some b) : Region.wanted o (yielded ops a.tmps) = b := by
  unfold wantedM at hb
  unfold Region.wanted
  split at hb
  · rename_i hg; cases hb; simp [hg]
  · rename_i j want hg
    simp only [hg]
    split at hb
    · cases hb
    · rename_i d hd
      have hy : ∀ x, (∀ b', a.tmps[d]? = some (.bool b') → x = some b') → (∀ y, a.tmps[d]? = some y → (∀ b', y ≠ .bool b') → x = none) → (a.tmps[d]? = none → x = none) → yielded ops a.tmps j = x := by
        intro x h1 h2 h3
        unfold yielded
        simp only [hd, Option.bind_some]
        cases ht : a.tmps[d]? with
        | none => exact (h3 ht).symm
        | some y =>
          cases y <;> first | exact (h1 _ ht).symm | exact (h2 _ ht (by simp)).symm
      split at hb
      · rename_i c hc
        cases hb
        have hv := h.vals d _ hc
        simp only [VR, Act.eval] at hv
        have ht : a.tmps[d]? = some (.bool c) := by
          cases ht : a.tmps[d]? with
          | none => simp [ht, undef] at hv
          | some y => simp [ht] at hv; rw [hv]
        have : yielded ops a.tmps j = some c := by
          unfold yielded; simp [hd, ht]
        rw [this]
        cases c <;> cases want <;> rfl
      · cases hb
      · rename_i v hnot hnots hc
        cases hb
        have hv := h.vals d _ hc
        have : yielded ops a.tmps j = none := by
          unfold yielded
          simp only [hd, Option.bind_some]
          cases ht : a.tmps[d]? with
          | none => rfl
          | some y =>
            have hev : a.eval (.tmp d) = y := by simp [Act.eval, ht]
            rw [hev] at hv
            cases y <;> first | rfl | skip
            exfalso
            cases v <;> simp [VR] at hv
            · exact hnot _ rfl
            · exact hnots _ rfl
        rw [this]; rfl
      · cases hb

section
variable {P : Program} {C : Ctx}

/-- What a run says of calls. -/
def CallsOK (P : Program) (C : Ctx) (ih : Run) : Prop :=
  ∀ f args s l, ih (.call f args s) = some (.rets l) → ∀ (ρ : Loc) (xs : Array Value) (w : World), VRs ρ args xs.toList → Repr C ρ s w →
    Calls P f xs w fun e w' => ∃ r ∈ l, ∃ x ρ', e = .returned x ∧ ρ.le ρ' ∧ VR ρ' r.1 x ∧ Repr C ρ' r.2 w'

theorem opRun_sound (hng : NoNum P) {ext : Ext} (hext : ExtOK P C ext) {ih : Run} (hih : CallsOK P C ih) {ops : Array Oper} {i : Nat} {o : Oper} (hi : ops[i]? = some o) {keep n : Nat} (hd : ∀ d, o.dst = some d → d < n)
    {Q : Exit → Act → World → Prop} {E : Env} {s : MS} {l : List (Env × MS)} (h : opRun P ext ih ops o E s = some l) {ρ : Loc} {a : Act} {w : World} (hE : EnvOK keep n ρ E a) (R : Repr C ρ s w) {K : Act → World → Prop}
    (k : ∀ q ∈ l, ∀ ρ' a' w', ρ.le ρ' → EnvOK keep n ρ' q.1 a' → Repr C ρ' q.2 w' → K a' w') : wpOp P ops Q i K a w := by
  unfold opRun at h
  unfold wpOp
  simp only [hi]
  split at h
  · cases h
  · rename_i hw
    cases h
    rw [wanted_sound hE hw]
    exact k _ (List.mem_singleton.2 rfl) ρ _ _ ρ.le_refl (hE.put ρ.le_refl hd (by simp only [MV.undef, VR]; exact ⟨_, rfl, .nil⟩)) R
  · rename_i hw
    rw [wanted_sound hE hw]
    refine .inl ?_
    show o.upon P a K Q ((execOp a.eval o).run P w)
    split at h
    · cases h
    · rename_i v s' hm
      cases h
      obtain ⟨x, w', ρ', h1, h2, h3, h4⟩ := mop_sound hng hext R (hE.agree _) hm
      have hk := k _ (List.mem_singleton.2 rfl) ρ' _ _ h2 (hE.put h2 hd h3) h4
      rcases h1 with h1 | ⟨h1, h1'⟩
      · rw [h1]; exact hk
      · rw [h1]; subst h1'; exact hk
    · rename_i lm hm
      cases h
      obtain ⟨x, w', v, s', hmem, h1, h3, h4⟩ := mop_sound hng hext R (hE.agree _) hm
      rw [h1]
      exact k _ (List.mem_map.2 ⟨_, hmem, rfl⟩) ρ _ _ ρ.le_refl (hE.put ρ.le_refl hd h3) h4
    · rename_i f args hm
      obtain ⟨xs, w', h1, h3, h4⟩ := mop_sound hng hext R (hE.agree _) hm
      rw [h1]
      split at h
      · rename_i lr hr
        cases h
        refine Calls.mono (hih _ _ _ _ hr ρ xs w' h3 h4) fun e w'' he => ?_
        obtain ⟨r, hrm, x, ρ', rfl, h5, h6, h7⟩ := he
        exact k _ (List.mem_map.2 ⟨r, hrm, rfl⟩) ρ' _ _ h5 (hE.put h5 hd h6) h7
      · cases h

theorem allM_mem {α β : Type} {f : α → Option (List β)} : ∀ {l : List α} {r : List β}, allM f l = some r → ∀ x ∈ l, ∃ fx, f x = some fx ∧ ∀ y ∈ fx, y ∈ r
  | [], _, _, x, hx => by cases hx
  | [a], r, h, x, hx => by
    rw [List.mem_singleton] at hx; subst hx
    exact ⟨r, h, fun y hy => hy⟩
  | a :: b :: l, r, h, x, hx => by
    simp only [allM] at h
    split at h
    · cases h
    rename_i r1 h1
    split at h
    · cases h
    rename_i r2 h2
    cases h
    rcases List.mem_cons.1 hx with rfl | hx
    · exact ⟨r1, h1, fun y hy => List.mem_append_left _ hy⟩
    · obtain ⟨fx, h3, h4⟩ := allM_mem (l := b :: l) h2 x hx
      exact ⟨fx, h3, fun y hy => List.mem_append_right _ (h4 y hy)⟩

/-- The operations in a list, at their places. -/
def At (ops : Array Oper) : List Nat → List Oper → Prop
  | [], [] => True
  | i :: l, o :: os => ops[i]? = some o ∧ At ops l os
  | _, _ => False

theorem opsRun_sound (hng : NoNum P) {ext : Ext} (hext : ExtOK P C ext) {ih : Run} (hih : CallsOK P C ih) {ops : Array Oper} {keep n : Nat} {Q : Exit → Act → World → Prop} :
    ∀ (is : List Nat) (os : List Oper), At ops is os → (∀ o ∈ os, ∀ d, o.dst = some d → d < n) → ∀ {E : Env} {s : MS} {l : List (Env × MS)}, opsRun P ext ih ops os E s = some l → ∀ {ρ : Loc} {a : Act} {w : World}, EnvOK keep n ρ E a → Repr C ρ s w →
    (∀ q ∈ l, ∀ ρ' a' w', ρ.le ρ' → EnvOK keep n ρ' q.1 a' → Repr C ρ' q.2 w' → Q .normal a' w') → wpOps P ops Q is a w
  | [], [], _, _, E, s, l, h, ρ, a, w, hE, R, k => by
    simp only [opsRun] at h; cases h
    exact k _ (List.mem_singleton.2 rfl) ρ a w ρ.le_refl hE R
  | [], _ :: _, h, _, _, _, _, _, _, _, _, _, _, _ => h.elim
  | _ :: _, [], h, _, _, _, _, _, _, _, _, _, _, _ => h.elim
  | i :: is, o :: os, hat, hd, E, s, l, h, ρ, a, w, hE, R, k => by
    rw [wpOps_cons]
    simp only [opsRun] at h
    have hrest : ∃ l1, opRun P ext ih ops o E s = some l1 ∧ ∀ q ∈ l1, ∃ lq, opsRun P ext ih ops os q.1 q.2 = some lq ∧ ∀ y ∈ lq, y ∈ l := by
      split at h
      · cases h
      · rename_i r hr
        exact ⟨_, hr, fun q hq => by rw [List.mem_singleton] at hq; subst hq; exact ⟨l, h, fun y hy => hy⟩⟩
      · rename_i l1 _ hr
        exact ⟨_, hr, fun q hq => allM_mem h q hq⟩
    obtain ⟨l1, h1, h2⟩ := hrest
    refine opRun_sound hng hext hih hat.1 (hd o (List.mem_cons_self ..)) h1 hE R fun q hq ρ' a' w' hle hE' R' => ?_
    obtain ⟨lq, h3, h4⟩ := h2 q hq
    exact opsRun_sound hng hext hih is os hat.2 (fun o ho => hd o (List.mem_cons_of_mem _ ho)) h3 hE' R' fun y hy ρ'' a'' w'' hle' => k y (h4 y hy) ρ'' a'' w'' (Loc.le_trans hle hle')

theorem at_range (ops : Array Oper) : At ops (List.range ops.size) ops.toList := by
  have : ∀ (l : List Oper) (k : Nat), (∀ i, i < l.length → ops[k + i]? = l[i]?) → At ops (List.range' k l.length) l := by
    intro l
    induction l with
    | nil => intro k _; simp [At]
    | cons o l ih =>
      intro k h
      simp only [List.length_cons, List.range'_succ, At]
      refine ⟨by have := h 0 (by simp); simpa using this, ih (k + 1) fun i hi => ?_⟩
      have := h (i + 1) (by simp; omega)
      rw [show k + (i + 1) = k + 1 + i by omega] at this
      simpa using this
  have h := this ops.toList 0 (fun i _ => by simp)
  rwa [← List.range_eq_range', Array.length_toList] at h

end
end Go.Mir
