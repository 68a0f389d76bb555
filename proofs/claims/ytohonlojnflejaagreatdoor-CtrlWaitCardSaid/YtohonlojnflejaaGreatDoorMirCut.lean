/- Code with places at which the mirror's run stands still: what is left to be shown there. -/
import Derived.Test.YtohonlojnflejaaGreatDoorMirTop
namespace Go.Mir
open Go.RowKit

/-- What comes behind a piece of code. -/
inductive Fr where
  | seq (c : Code)
  | block (id : Nat)
  | loop (c : Code)

def frPost (P : Program) : List Fr → (Exit → Act → World → Prop) → Exit → Act → World → Prop
  | [], Q => Q
  | .seq c :: l, Q => Exit.then (c.wp P (frPost P l Q)) (frPost P l Q)
  | .block id :: l, Q => Exit.inBlock id (frPost P l Q)
  | .loop c :: l, Q => Exit.then ((Code.loop c).wp P (frPost P l Q)) (frPost P l Q)

def fitsFr (n : Nat) : List Fr → Bool
  | [] => true
  | .seq c :: l => fitsC n c && fitsFr n l
  | .block _ :: l => fitsFr n l
  | .loop c :: l => fitsC n c && fitsFr n l

/-- What never comes. -/
def Quiet (Q : Exit → Act → World → Prop) : Prop := (∀ a w, ¬ Q .outgrown a w) ∧ ∀ l a w, ¬ Q (.goto l) a w
theorem frPost_quiet {P : Program} {Q : Exit → Act → World → Prop} (hQ : Quiet Q) : ∀ fr : List Fr, Quiet (frPost P fr Q)
  | [] => hQ
  | .seq _ :: l => ⟨fun a w => (frPost_quiet hQ l).1 a w, fun i a w => (frPost_quiet hQ l).2 i a w⟩
  | .block _ :: l => ⟨fun a w => (frPost_quiet hQ l).1 a w, fun i a w => (frPost_quiet hQ l).2 i a w⟩
  | .loop _ :: l => ⟨fun a w => (frPost_quiet hQ l).1 a w, fun i a w => (frPost_quiet hQ l).2 i a w⟩

/-- A loop, one round ahead. -/
theorem steps_inv {P : Program} {m m1 m2 : Machine} (h : step P m = .next m1) (hs : Steps P m m2) : m2 = m ∨ Steps P m1 m2 := by
  obtain ⟨n, hn⟩ := hs
  cases n with
  | zero => simp [runN] at hn; exact .inl hn.symm
  | succ n => simp only [runN, h] at hn; exact .inr ⟨n, hn⟩

theorem exitTo_length : ∀ {id : Nat} {k k' : List Item}, exitTo id k = some k' → k'.length ≤ k.length := by
  intro id k
  induction k with
  | nil => intro k' h; simp [exitTo] at h
  | cons x k ih =>
    intro k' h
    cases x <;> simp only [exitTo] at h <;> first | (have := ih h; simp only [List.length_cons]; omega) | skip
    all_goals
      split at h
      · cases h; simp
      · have := ih h; simp only [List.length_cons]; omega

theorem lone_todo {b : Frame} {a a' : Act} {k k' : List Item} {cs : List Frame} {w w' : World} (h : lone (b.at a k) cs w = lone (b.at a' k') cs w') : k = k' := by
  simp only [lone, Machine.mk.injEq, Array.mk.injEq, List.cons.injEq, Goroutine.mk.injEq, Frame.at, Frame.mk.injEq] at h
  exact h.2.1.1.1.2.2.1

theorem wp_loop_unfold {P : Program} {Q : Exit → Act → World → Prop} {a : Act} {w : World} {c : Code} (hQ : Quiet Q)
    (h : c.wp P (Exit.then ((Code.loop c).wp P Q) Q) a w) : (Code.loop c).wp P Q a w := by
  intro b k cs
  obtain ⟨e, a1, w1, hq, harr⟩ := h b (.inLoop c :: k) cs
  cases e with
  | normal =>
    obtain ⟨e2, a2, w2, hq2, harr2⟩ := hq b k cs
    have hl : step P (lone (b.at a1 (.code (.loop c) :: k)) cs w1) = .next (lone (b.at a1 (.code c :: .inLoop c :: k)) cs w1) := step_loop
    have hfin : Steps P (lone (b.at a (.code (.loop c) :: k)) cs w) (lone (b.at a1 (.code c :: .inLoop c :: k)) cs w1) :=
      .head step_loop (Steps.trans harr (.one step_inLoop))
    refine ⟨e2, a2, w2, hq2, .of_steps hfin ?_⟩
    cases e2 with
    | normal =>
      rcases steps_inv hl harr2 with h3 | h3
      · have := congrArg List.length (lone_todo h3); simp at this
      · exact h3
    | exit id =>
      intro k' hk
      rcases steps_inv hl (harr2 k' hk) with h3 | h3
      · have := congrArg List.length (lone_todo h3)
        have := exitTo_length hk
        simp at *; omega
      · exact h3
    | goto l => exact absurd hq2 (hQ.2 l a2 w2)
    | ret =>
      obtain ⟨todo, hs⟩ := harr2
      rcases steps_inv hl hs with h3 | h3
      · simp [lone, Frame.at] at h3
      · exact ⟨todo, h3⟩
    | panic ch =>
      obtain ⟨todo, hs⟩ := harr2
      rcases steps_inv hl hs with h3 | h3
      · simp [lone, Frame.at] at h3
      · exact ⟨todo, h3⟩
    | outgrown => exact absurd hq2 (hQ.1 a2 w2)
  | exit id => exact ⟨_, a1, w1, hq, .of_steps (.one step_loop) (.pass (x := .inLoop c) rfl (fun _ _ => .inl (by simp)) harr)⟩
  | goto l => exact ⟨_, a1, w1, hq, .of_steps (.one step_loop) (.pass (x := .inLoop c) rfl (fun _ _ => .inl (by simp)) harr)⟩
  | ret => exact ⟨_, a1, w1, hq, .of_steps (.one step_loop) (.pass (x := .inLoop c) rfl (fun _ _ => .inl (by simp)) harr)⟩
  | panic ch => exact ⟨_, a1, w1, hq, .of_steps (.one step_loop) (.pass (x := .inLoop c) rfl (fun _ _ => .inl (by simp)) harr)⟩
  | outgrown => exact absurd hq (hQ.1 a1 w1)

/-- Where a run of code stands: it is through; or it stands ahead of a piece of code. -/
inductive CO where
  | done (o : Out)
  | at (c : Code) (fr : List Fr) (rs : List (Nat × MV)) (s : MS)

/-- The number of the first region in code. -/
def firstId : Code → Option Nat
  | .region id _ _ => some id
  | .seq a b => match firstId a with
    | some i => some i
    | none => firstId b
  | .cond _ a b => match firstId a with
    | some i => some i
    | none => firstId b
  | .block _ c | .loop c | .scope c => firstId c
  | _ => none
def flagged (ids : List Nat) (c : Code) : Bool :=
  match firstId c with
  | some i => ids.any (Nat.beq i)
  | none => false
/-- Loops by their first region; other code, too. -/
def flagL (loops others : List Nat) (c : Code) : Bool :=
  match c with
  | .loop _ => flagged loops c
  | _ => flagged others c

section
variable (flag : Code → Bool) (ih : Run) (keep : Nat)

mutual
def enter : Nat → Code → List Fr → List (Nat × MV) → MS → Option (List CO)
  | 0, _, _, _, _ => none
  | n + 1, c, fr, rs, s =>
    match c with
    | .seq a b => enter n a (.seq b :: fr) rs s
    | .block id x => enter n x (.block id :: fr) rs s
    | .cond x a b => match opd ⟨[], rs⟩ x with
      | some (.bool true) => enter n a fr rs s
      | some (.bool false) => enter n b fr rs s
      | _ => none
    | .loop x => match flag (.loop x) with
      | true => some [.at (.loop x) fr rs s]
      | false => match ih (.code keep (.loop x) rs s) with
        | some (.outs l) => allM (fun o => resume n fr o) l
        | _ => none
    | c => match ih (.code keep c rs s) with
      | some (.outs l) => allM (fun o => resume n fr o) l
      | _ => none
def resume : Nat → List Fr → Out → Option (List CO)
  | 0, _, _ => none
  | n + 1, fr, o =>
    match fr with
    | [] => some [.done o]
    | .seq b :: fr => match o.e with
      | .normal => match flag b with
        | true => some [.at b fr o.rs o.s]
        | false => enter n b fr o.rs o.s
      | _ => resume n fr o
    | .block id :: fr => resume n fr (unblock id o)
    | .loop x :: fr => match o.e with
      | .normal => some [.at (.loop x) fr o.rs o.s]
      | _ => resume n fr o
end

/-- From a place on. -/
def stepAt (n : Nat) (c : Code) (fr : List Fr) (rs : List (Nat × MV)) (s : MS) : Option (List CO) :=
  match c with
  | .loop x => enter flag ih keep n x (.loop x :: fr) rs s
  | c => enter flag ih keep n c fr rs s
end

section
variable {P : Program} {C : Ctx} {flag : Code → Bool} {m : Nat} {ih : Run} {keep n : Nat} {Q : Exit → Act → World → Prop}

/-- What is to be shown where a run stands. -/
def Stands (P : Program) (C : Ctx) (keep n : Nat) (Q : Exit → Act → World → Prop) (ρ : Loc) : CO → Prop
  | .done o => ∀ ρ' a w, ρ.le ρ' → RegsOK keep n ρ' o.rs a → Repr C ρ' o.s w → Q (exitOf o.e) a w
  | .at c fr rs s => ∀ ρ' a w, ρ.le ρ' → RegsOK keep n ρ' rs a → Repr C ρ' s w → c.wp P (frPost P fr Q) a w

theorem Stands.le {ρ ρ' : Loc} {co : CO} (h : Stands P C keep n Q ρ co) (hl : ρ.le ρ') : Stands P C keep n Q ρ' co := by
  cases co with
  | done o => exact fun ρ2 a w hle => h ρ2 a w (Loc.le_trans hl hle)
  | «at» c fr rs s => exact fun ρ2 a w hle => h ρ2 a w (Loc.le_trans hl hle)

theorem unblock_post {id : Nat} {o : Out} {Q : Exit → Act → World → Prop} {a : Act} {w : World} (h : Q (exitOf (unblock id o).e) a w) : Exit.inBlock id Q (exitOf o.e) a w := by
  obtain ⟨e, rs, s⟩ := o
  cases e with
  | normal => exact h
  | ret => exact h
  | exit i =>
    simp only [exitOf, Exit.inBlock]
    cases hb : Nat.beq i id with
    | true =>
      simp only [unblock, hb] at h
      rw [if_pos (Nat.eq_of_beq_eq_true hb)]
      exact h
    | false =>
      simp only [unblock, hb] at h
      rw [if_neg (fun e => by rw [e] at hb; rw [Nat.beq_refl] at hb; cases hb)]
      exact h
theorem unblock_rs {id : Nat} {o : Out} : (unblock id o).rs = o.rs ∧ (unblock id o).s = o.s := by
  obtain ⟨e, rs, s⟩ := o
  unfold unblock
  split
  · split <;> exact ⟨rfl, rfl⟩
  · exact ⟨rfl, rfl⟩

theorem stands_sound (hih : CodesOK P C m ih) (hQ : Quiet Q) : ∀ k,
    (∀ c fr rs s l, enter flag ih keep k c fr rs s = some l → fitsC n c = true → fitsFr n fr = true → ∀ ρ a w, RegsOK keep n ρ rs a → Repr C ρ s w → (∀ co ∈ l, Stands P C keep n Q ρ co) → c.wp P (frPost P fr Q) a w) ∧
    (∀ fr o l, resume flag ih keep k fr o = some l → fitsFr n fr = true → ∀ ρ a w, RegsOK keep n ρ o.rs a → Repr C ρ o.s w → (∀ co ∈ l, Stands P C keep n Q ρ co) → frPost P fr Q (exitOf o.e) a w)
  | 0 => ⟨fun _ _ _ _ _ h => by simp [enter] at h, fun _ _ _ h => by simp [resume] at h⟩
  | k + 1 => by
    obtain ⟨he, hr⟩ := stands_sound hih hQ k
    have run : ∀ c fr rs s l, (match ih (.code keep c rs s) with
        | some (.outs l) => allM (fun o => resume flag ih keep k fr o) l
        | _ => none) = some l → fitsC n c = true → fitsFr n fr = true → ∀ ρ a w, RegsOK keep n ρ rs a → Repr C ρ s w → (∀ co ∈ l, Stands P C keep n Q ρ co) → c.wp P (frPost P fr Q) a w := by
      intro c fr rs s l h hf hfr ρ a w hE R hco
      split at h
      case h_2 => cases h
      rename_i l1 h1
      refine (hih keep c rs s l1 h1 n ρ a w (frPost P fr Q) hf hE R fun r hrm ρ' a' w' hle hE' R' => ?_).wp
      obtain ⟨lr, h2, h3⟩ := allM_mem h r hrm
      exact hr fr r lr h2 hfr ρ' a' w' hE' R' fun co hm => (hco co (h3 co hm)).le hle
    refine ⟨fun c fr rs s l h hf hfr ρ a w hE R hco => ?_, fun fr o l h hfr ρ a w hE R hco => ?_⟩
    · cases c <;> simp only [enter] at h <;> first | exact run _ fr rs s l h hf hfr ρ a w hE R hco | skip
      case seq x y =>
        simp only [fitsC, Bool.and_eq_true] at hf
        exact wp_seq (he x (.seq y :: fr) rs s l h hf.1 (by simp only [fitsFr, hf.2, hfr]; rfl) ρ a w hE R hco)
      case block id x =>
        simp only [fitsC] at hf
        exact wp_block (he x (.block id :: fr) rs s l h hf hfr ρ a w hE R hco)
      case cond x y z =>
        simp only [fitsC, Bool.and_eq_true] at hf
        split at h
        · rename_i hx
          have hv := opd_sound (hE.env.agree #[x]) (by simp) hx
          simp only [VR] at hv
          exact wp_cond_true hv (he y fr rs s l h hf.1 hfr ρ a w hE R hco)
        · rename_i hx
          have hv := opd_sound (hE.env.agree #[x]) (by simp) hx
          simp only [VR] at hv
          exact wp_cond_false hv (he z fr rs s l h hf.2 hfr ρ a w hE R hco)
        · cases h
      case loop x =>
        split at h
        · cases h
          exact hco _ (List.mem_singleton.2 rfl) ρ a w ρ.le_refl hE R
        · exact run _ fr rs s l h hf hfr ρ a w hE R hco
    · cases fr with
      | nil =>
        simp only [resume] at h
        cases h
        exact hco _ (List.mem_singleton.2 rfl) ρ a w ρ.le_refl hE R
      | cons f fr =>
        have pass : ∀ {X : Act → World → Prop}, o.e ≠ .normal → resume flag ih keep k fr o = some l → fitsFr n fr = true → Exit.then X (frPost P fr Q) (exitOf o.e) a w := by
          intro X hn h hfr
          have := hr fr o l h hfr ρ a w hE R hco
          cases ho : o.e with
          | normal => exact absurd ho hn
          | exit i => rw [ho] at this; exact this
          | ret => rw [ho] at this; exact this
        cases f with
        | seq b =>
          simp only [fitsFr, Bool.and_eq_true] at hfr
          simp only [resume] at h
          split at h
          · rename_i ho
            rw [ho]
            split at h
            · cases h
              exact hco _ (List.mem_singleton.2 rfl) ρ a w ρ.le_refl hE R
            · exact he b fr o.rs o.s l h hfr.1 hfr.2 ρ a w hE R hco
          · rename_i ho
            exact pass ho h hfr.2
        | block id =>
          simp only [fitsFr] at hfr
          simp only [resume] at h
          refine unblock_post (hr fr (unblock id o) l h hfr ρ a w ?_ ?_ hco)
          · rw [unblock_rs.1]; exact hE
          · rw [unblock_rs.2]; exact R
        | loop x =>
          simp only [fitsFr, Bool.and_eq_true] at hfr
          simp only [resume] at h
          split at h
          · rename_i ho
            rw [ho]
            cases h
            exact hco _ (List.mem_singleton.2 rfl) ρ a w ρ.le_refl hE R
          · rename_i ho
            exact pass ho h hfr.2

theorem stepAt_sound (hih : CodesOK P C m ih) (hQ : Quiet Q) {k : Nat} {c : Code} {fr : List Fr} {rs : List (Nat × MV)} {s : MS} {l : List CO} (h : stepAt flag ih keep k c fr rs s = some l) (hf : fitsC n c = true) (hfr : fitsFr n fr = true)
    {ρ : Loc} {a : Act} {w : World} (hE : RegsOK keep n ρ rs a) (R : Repr C ρ s w) (hco : ∀ co ∈ l, Stands P C keep n Q ρ co) : c.wp P (frPost P fr Q) a w := by
  have plain : ∀ c, enter flag ih keep k c fr rs s = some l → fitsC n c = true → c.wp P (frPost P fr Q) a w := fun c h hf =>
    (stands_sound (flag := flag) hih hQ k).1 c fr rs s l h hf hfr ρ a w hE R hco
  cases c <;> simp only [stepAt] at h <;> first | exact plain _ h hf | skip
  rename_i x
  simp only [fitsC] at hf
  exact wp_loop_unfold (frPost_quiet hQ fr) ((stands_sound (flag := flag) hih hQ k).1 x (.loop x :: fr) rs s l h hf (by simp only [fitsFr, hf, hfr]; rfl) ρ a w hE R hco)

end
end Go.Mir
