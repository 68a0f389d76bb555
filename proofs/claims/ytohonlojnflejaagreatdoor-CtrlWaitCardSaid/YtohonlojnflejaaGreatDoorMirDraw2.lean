/- Regions that draw their order: one operation; the plan. -/
import Derived.Test.YtohonlojnflejaaGreatDoorMirDraw
namespace Go.Mir
open Go.RowKit

section
variable {P : Program} {C : Ctx}

theorem pureS_any {x : Option MV} {s : MS} {st : MStep} (h : pureS x s = some st) : ∃ v, x = some v ∧ st = .val v s := by
  unfold pureS at h; split at h <;> cases h; exact ⟨_, rfl, rfl⟩

theorem on1_of {x : Operand} {k : MV → MS → Option MStep} {E : Env} {s : MS} {a : MV} (ha : opd E x = some a) : on1 x k E s = k a s := by simp [on1, ha]
theorem on2_of {x y : Operand} {k : MV → MV → MS → Option MStep} {E : Env} {s : MS} {a b : MV} (ha : opd E x = some a) (hb : opd E y = some b) : on2 x y k E s = k a b s := by simp [on2, ha, hb]

/-- What looks at its operands alone gives the same in every memory. -/
theorem kind_pure {ext : Ext} {pu : Pure} {op : Op} {E : Env} {s : MS} {st : MStep} (hk : kindOf P pu op = 0) (h : mop P ext op E s = some st) : ∃ v, ∀ s', mop P ext op E s' = some (.val v s') := by
  cases op <;> simp only [kindOf] at hk <;> first | (cases hk; done) | skip
  all_goals simp only [mop] at h ⊢
  case move x => obtain ⟨a, ha, _⟩ := on1_inv h; exact ⟨a, fun s' => by rw [on1_of ha]; rfl⟩
  case assign x => obtain ⟨a, ha, _⟩ := on1_inv h; exact ⟨a, fun s' => by rw [on1_of ha]; rfl⟩
  case pick c x y =>
    unfold hPick at h
    split at h
    · rename_i hc
      obtain ⟨v, hv, _⟩ := pureS_any h
      exact ⟨v, fun s' => by simp only [hPick, hc, pureS, hv]⟩
    · rename_i hc
      obtain ⟨v, hv, _⟩ := pureS_any h
      exact ⟨v, fun s' => by simp only [hPick, hc, pureS, hv]⟩
    · cases h
  case binOp =>
    obtain ⟨a, b, ha, hb, h⟩ := on2_inv h
    obtain ⟨v, hv, _⟩ := pureS_any h
    exact ⟨v, fun s' => by simp only [on2_of ha hb, hBin, pureS, hv]⟩
  case unOp =>
    obtain ⟨a, ha, h⟩ := on1_inv h
    obtain ⟨v, hv, _⟩ := pureS_any h
    exact ⟨v, fun s' => by simp only [on1_of ha, hUn, pureS, hv]⟩
  case field =>
    obtain ⟨a, ha, h⟩ := on1_inv h
    obtain ⟨v, hv, _⟩ := pureS_any h
    exact ⟨v, fun s' => by simp only [on1_of ha, hField, pureS, hv]⟩
  case index =>
    obtain ⟨a, b, ha, hb, h⟩ := on2_inv h
    obtain ⟨v, hv, _⟩ := pureS_any h
    exact ⟨v, fun s' => by simp only [on2_of ha hb, hIndex, pureS, hv]⟩
  case extract =>
    obtain ⟨a, ha, h⟩ := on1_inv h
    unfold hExtract at h
    split at h
    · obtain ⟨v, hv, _⟩ := pureS_any h
      exact ⟨v, fun s' => by simp only [on1_of ha, hExtract, pureS, hv]⟩
    · cases h
  case makeInterface t x =>
    obtain ⟨a, ha, h⟩ := on1_inv h
    unfold hMakeInterface at h
    split at h
    · cases h
    · rename_i d hnot hd
      refine ⟨.iface t a, fun s' => ?_⟩
      rw [on1_of ha]
      unfold hMakeInterface
      split
      · rename_i m hm; rw [hd] at hm; cases hm; exact (hnot _ rfl).elim
      · rfl
      · rename_i hm; rw [hd] at hm; cases hm
    · cases h
  case makeFunc =>
    unfold hMakeFunc at h
    split at h
    · rename_i l hl
      split at h
      · rename_i l' hl'
        exact ⟨_, fun s' => by simp only [hMakeFunc, hl, hl']; rfl⟩
      · cases h
    · cases h
  case typeAssert =>
    obtain ⟨a, ha, h⟩ := on1_inv h
    obtain ⟨v, hv, _⟩ := pureS_any h
    exact ⟨v, fun s' => by simp only [on1_of ha, hTypeAssert, pureS, hv]⟩
  case nilCheck =>
    obtain ⟨a, ha, h⟩ := on1_inv h
    unfold hNilCheck at h
    split at h
    · exact ⟨_, fun s' => by rw [on1_of ha]; rfl⟩
    · exact ⟨_, fun s' => by rw [on1_of ha]; rfl⟩
    · exact ⟨_, fun s' => by rw [on1_of ha]; rfl⟩
    · cases h
  case fieldAddr =>
    obtain ⟨a, ha, h⟩ := on1_inv h
    obtain ⟨v, hv, _⟩ := pureS_any h
    exact ⟨v, fun s' => by simp only [on1_of ha, hFieldAddr, pureS, hv]⟩
  case build =>
    unfold hBuild at h
    split at h
    · rename_i l hl
      obtain ⟨v, hv, _⟩ := pureS_any h
      exact ⟨v, fun s' => by simp only [hBuild, hl, pureS, hv]⟩
    · cases h
  case convert src dst x => split at hk <;> cases hk
  case call c =>
    exfalso
    split at hk
    · split at hk <;> cases hk
    · split at hk
      · split at hk <;> cases hk
      · cases hk
    · cases hk

theorem readRun_pure {ext : Ext} {pu : Pure} {op : Op} {E : Env} {s : MS} {v : MV} (hk : kindOf P pu op = 0) (h : readRun P ext pu op E s = some v) (s' : MS) : readRun P ext pu op E s' = some v := by
  unfold readRun at h
  split at h
  · rename_i u s1 hm
    cases h
    obtain ⟨u', hu⟩ := kind_pure hk hm
    have := hu s
    rw [hm] at this; cases this
    unfold readRun
    rw [hu s']
  · rename_i f args hm
    obtain ⟨u', hu⟩ := kind_pure hk hm
    have := hu s
    rw [hm] at this; cases this
  · cases h

/-- What an operation says of itself to the code after it. -/
def Does (P : Program) (C : Ctx) (o : Oper) (a : Act) (ρ : Loc) (w : World) (v : MV) (s' : MS) : Prop :=
  ∀ (K : Act → World → Prop) (Q : Exit → Act → World → Prop), (∀ ρ' x w', ρ.le ρ' → VR ρ' v x → Repr C ρ' s' w' → K (a.put o.dst x) w') → o.wp P a w K Q

theorem readRun_sound (hng : NoNum P) {ext : Ext} (hext : ExtOK P C ext) {pu : Pure} (hpu : PuOK P C pu) {ρ : Loc} {s : MS} {w : World} (R : Repr C ρ s w) {E : Env} {a : Act} {o : Oper} (hE : Agree ρ E a o.op.operands) (hk : kindOf P pu o.op ≠ 2) {v : MV}
    (h : readRun P ext pu o.op E s = some v) : Does P C o a ρ w v s := by
  intro K Q k
  show o.upon P a K Q ((execOp a.eval o).run P w)
  unfold readRun at h
  split at h
  · rename_i u s1 hm
    cases h
    have hs := kind_state hk hm
    subst hs
    obtain ⟨x, w', ρ', h1, h2, h3, h4⟩ := mop_sound hng hext R hE hm
    rcases h1 with h1 | ⟨h1, h1'⟩
    · rw [h1]; exact k ρ' x w' h2 h3 h4
    · rw [h1]; subst h1'; exact k ρ' _ w' h2 h3 h4
  · rename_i f args hm
    obtain ⟨xs, w', h1, h3, h4⟩ := mop_sound hng hext R hE hm
    rw [h1]
    split at h
    · rename_i g hg
      refine Calls.mono (hpu f g args s v hg h ρ xs w' h3 h4) fun e w'' he => ?_
      obtain ⟨x, rfl, h5, h6⟩ := he
      exact k ρ x w'' ρ.le_refl h5 (h4.later h6)
    · cases h
  · cases h

theorem effRun_sound (hng : NoNum P) {ext : Ext} (hext : ExtOK P C ext) {ih : Run} (hih : CallsOK P C ih) {ρ : Loc} {s : MS} {w : World} (R : Repr C ρ s w) {E : Env} {a : Act} {o : Oper} (hE : Agree ρ E a o.op.operands) {v : MV} {s' : MS}
    (h : effRun P ext ih o.op E s = some (v, s')) : Does P C o a ρ w v s' := by
  intro K Q k
  show o.upon P a K Q ((execOp a.eval o).run P w)
  unfold effRun at h
  split at h
  · rename_i u s1 hm
    cases h
    obtain ⟨x, w', ρ', h1, h2, h3, h4⟩ := mop_sound hng hext R hE hm
    rcases h1 with h1 | ⟨h1, h1'⟩
    · rw [h1]; exact k ρ' x w' h2 h3 h4
    · rw [h1]; subst h1'; exact k ρ' _ w' h2 h3 h4
  · rename_i r hm
    cases h
    obtain ⟨x, w', u, s1, hmem, h1, h3, h4⟩ := mop_sound hng hext R hE hm
    rw [List.mem_singleton] at hmem; cases hmem
    rw [h1]; exact k ρ x w' ρ.le_refl h3 h4
  · rename_i f args hm
    obtain ⟨xs, w', h1, h3, h4⟩ := mop_sound hng hext R hE hm
    rw [h1]
    split at h
    · rename_i r hr
      cases h
      refine Calls.mono (hih _ _ _ _ hr ρ xs w' h3 h4) fun e w'' he => ?_
      obtain ⟨r, hrm, x, ρ', rfl, h5, h6, h7⟩ := he
      rw [List.mem_singleton] at hrm; cases hrm
      exact k ρ' x w'' h5 h6 h7
    · cases h
  · cases h

/-- The variables that an operation looks at. -/
theorem agree_of {ρ : Loc} {E : Env} {a : Act} {ops : Array Oper} {o : Oper} (h : ∀ t v, t ∈ o.looksAt ops → E.look t = some v → VR ρ v (a.eval (.tmp t))) : Agree ρ E a o.op.operands :=
  fun t v ht hv => h t v (List.mem_append_left _ (List.mem_filterMap.2 ⟨.tmp t, by simpa using ht, rfl⟩)) hv

theorem wanted_of {ρ : Loc} {E : Env} {a : Act} {ops : Array Oper} {o : Oper} (h : ∀ t v, t ∈ o.looksAt ops → E.look t = some v → VR ρ v (a.eval (.tmp t))) {b : Bool} (hb : wantedM ops o E = some b) : Region.wanted o (yielded ops a.tmps) = b := by
  cases hg : o.guard with
  | none =>
    simp only [wantedM, hg] at hb; cases hb; simp [Region.wanted, hg]
  | some g =>
    obtain ⟨j, want⟩ := g
    cases hd : (ops[j]?).bind (·.dst) with
    | none => simp only [wantedM, hg, hd] at hb; cases hb
    | some d =>
      -- a frame that agrees in that one variable
      cases hl : E.look d with
      | none => simp only [wantedM, hg, hd, hl] at hb; cases hb
      | some v =>
        have hv : VR ρ v (a.eval (.tmp d)) := h d v (List.mem_append_right _ (by simp [hg, hd])) hl
        refine wanted_sound (keep := 2 ^ d) (n := a.tmps.size) (ρ := ρ) (E := ⟨[(d, v)], []⟩) (a := { a with defers := [] }) ⟨rfl, rfl, fun t u hu => by simp [find] at hu, fun t u hu => ?_⟩ ?_
        · simp only [Env.look, find_cons] at hu
          by_cases hdt : d = t
          · rw [if_pos hdt] at hu; cases hu; subst hdt; exact hv
          · rw [if_neg hdt] at hu; simp [find] at hu
        · have : (⟨[(d, v)], []⟩ : Env).look d = some v := by simp [Env.look, find_cons]
          simp only [wantedM, hg, hd, this]
          simp only [wantedM, hg, hd, hl] at hb
          exact hb

end

/-! The plan -/

theorem testBit_maskL : ∀ {l : List Nat} {t : Nat}, t ∈ l → (maskL l).testBit t = true
  | a :: l, t, h => by
    simp only [maskL, Nat.testBit_or, Bool.or_eq_true]
    rcases List.mem_cons.1 h with rfl | h
    · exact .inl (Nat.testBit_two_pow_self)
    · exact .inr (testBit_maskL h)

/-- Two operations may not change places. -/
def Conf (ops : Array Oper) (q pe : PE) : Prop :=
  (q.k = 2 ∧ pe.k = 2) ∨ (∃ d, q.o.dst = some d ∧ (d ∈ pe.o.looksAt ops ∨ pe.o.dst = some d)) ∨ (∃ d, pe.o.dst = some d ∧ d ∈ q.o.looksAt ops)

/-- An entry's masks are its operation's. -/
def PE.Good (ops : Array Oper) (kf : Op → Nat) (pe : PE) : Prop := ops[pe.i]? = some pe.o ∧ pe.k = kf pe.o.op ∧ pe.looks = maskL (pe.o.looksAt ops) ∧ pe.writes = writesM pe.o

theorem conf_of {ops : Array Oper} {kf : Op → Nat} {q pe : PE} (hq : q.Good ops kf) (hp : pe.Good ops kf) (h : Conf ops q pe) : conf q pe = true := by
  unfold conf
  rw [Bool.or_eq_true]
  have bits : ∀ {x t : Nat}, x.testBit t = true → Nat.beq x 0 = false := fun {x t} hx => by
    cases hb : Nat.beq x 0 with
    | false => rfl
    | true => rw [Nat.eq_of_beq_eq_true hb] at hx; simp at hx
  have wr : ∀ {p : PE} {d : Nat}, p.Good ops kf → p.o.dst = some d → p.writes.testBit d = true := fun {p d} hp hd => by
    rw [hp.2.2.2, writesM, hd]; exact Nat.testBit_two_pow_self
  have lk : ∀ {p : PE} {d : Nat}, p.Good ops kf → d ∈ p.o.looksAt ops → p.looks.testBit d = true := fun {p d} hp hd => by
    rw [hp.2.2.1]; exact testBit_maskL hd
  rcases h with ⟨h1, h2⟩ | ⟨d, hd, h⟩ | ⟨d, hd, h⟩
  · exact .inl (by rw [h1, h2]; rfl)
  · right
    rw [bits (t := d)]; · rfl
    rw [Nat.testBit_or, Nat.testBit_and, Nat.testBit_or, wr hq hd]
    rcases h with h | h
    · rw [lk hp h]; rfl
    · rw [wr hp h]; simp
  · right
    rw [bits (t := d)]; · rfl
    rw [Nat.testBit_or, Nat.testBit_and, Nat.testBit_and, lk hq h, wr hp hd]; simp

/-- What is known of an entry and of those ahead of it. -/
structure Fact (ops : Array Oper) (kf : Op → Nat) (a : List PE) (pe : PE) : Prop where
  good : pe.Good ops kf
  new : ∀ q ∈ a, q.i ≠ pe.i
  edges : ∀ e ∈ pe.o.after, Region.binds .any e = true → ∃ q ∈ a, q.i = e.on
  before : ∀ k, pe.b.testBit k = true → ∃ e ∈ pe.o.after, Region.binds .any e = true ∧ (k = e.on ∨ ∃ q ∈ a, q.i = e.on ∧ q.b.testBit k = true)
  order : ∀ q ∈ a, Conf ops q pe → pe.b.testBit q.i = true

structure PlanOK (ops : Array Oper) (kf : Op → Nat) (pl : List PE) : Prop where
  fact : ∀ a pe c, pl = a ++ pe :: c → Fact ops kf a pe
  all : ∀ i, i < ops.size → ∃ q ∈ pl, q.i = i

theorem bOf_spec {j k : Nat} : ∀ {l : List PE}, (bOf j l).testBit k = true → ∃ q ∈ l, q.i = j ∧ q.b.testBit k = true
  | [], h => by simp [bOf] at h
  | q :: l, h => by
    simp only [bOf] at h
    split at h
    · rename_i hq; exact ⟨q, List.mem_cons_self .., Nat.eq_of_beq_eq_true hq, h⟩
    · obtain ⟨q', h1, h2⟩ := bOf_spec h; exact ⟨q', List.mem_cons_of_mem _ h1, h2⟩

theorem predM_spec {pre : List PE} {k : Nat} : ∀ {l : List Edge}, (predM pre l).testBit k = true → ∃ e ∈ l, Region.binds .any e = true ∧ (k = e.on ∨ ∃ q ∈ pre, q.i = e.on ∧ q.b.testBit k = true)
  | [], h => by simp [predM] at h
  | e :: l, h => by
    simp only [predM] at h
    split at h
    · rename_i he
      simp only [Nat.testBit_or, Bool.or_eq_true] at h
      rcases h with (h | h) | h
      · refine ⟨e, List.mem_cons_self .., he, .inl ?_⟩
        rw [Nat.testBit_two_pow] at h
        exact (of_decide_eq_true h).symm
      · exact ⟨e, List.mem_cons_self .., he, .inr (bOf_spec h)⟩
      · obtain ⟨e', h1, h2⟩ := predM_spec h; exact ⟨e', List.mem_cons_of_mem _ h1, h2⟩
    · obtain ⟨e', h1, h2⟩ := predM_spec h; exact ⟨e', List.mem_cons_of_mem _ h1, h2⟩

theorem edgesIn_spec {mask : Nat} : ∀ {l : List Edge}, edgesIn mask l = true → ∀ e ∈ l, Region.binds .any e = true → mask.testBit e.on = true
  | [], _, e, he, _ => by cases he
  | e :: l, h, e', he', hb => by
    simp only [edgesIn] at h
    rcases List.mem_cons.1 he' with rfl | he'
    · rw [hb] at h
      simp only [Bool.and_eq_true] at h; exact h.1
    · split at h
      · rw [Bool.and_eq_true] at h; exact edgesIn_spec h.2 e' he' hb
      · exact edgesIn_spec h e' he' hb

theorem okAfter_spec {pe : PE} : ∀ {l : List PE}, okAfter pe l = true → ∀ q ∈ l, conf q pe = true → pe.b.testBit q.i = true
  | [], _, q, hq, _ => by cases hq
  | p :: l, h, q, hq, hc => by
    simp only [okAfter, Bool.and_eq_true] at h
    rcases List.mem_cons.1 hq with rfl | hq
    · have := h.1; rw [hc] at this; simpa using this
    · exact okAfter_spec h.2 q hq hc

theorem build_spec {ops : Array Oper} {kf : Op → Nat} : ∀ (L : List Nat) (pre : List PE) (mask : Nat) (l : List PE), build ops kf pre mask L = some l →
    (∀ k, mask.testBit k = true ↔ ∃ q ∈ pre, q.i = k) → (∀ q ∈ pre, q.Good ops kf) →
    (∀ a pe c, l = a ++ pe :: c → Fact ops kf (pre.reverse ++ a) pe) ∧ (∀ i, i < ops.size → ∃ q ∈ pre ++ l, q.i = i)
  | [], pre, mask, l, h, hm, _ => by
    simp only [build] at h
    split at h
    · rename_i hb
      cases h
      refine ⟨fun a pe c he => by simp at he, fun i hi => ?_⟩
      have : mask.testBit i = true := by
        rw [Nat.eq_of_beq_eq_true hb, Nat.testBit_two_pow_sub_one]; simp [hi]
      obtain ⟨q, hq, hqi⟩ := (hm i).1 this
      exact ⟨q, by simpa using hq, hqi⟩
    · cases h
  | i :: rest, pre, mask, l, h, hm, hg => by
    simp only [build] at h
    split at h
    · cases h
    rename_i o ho
    split at h
    case h_2 => cases h
    rename_i hok
    split at h
    case h_2 => cases h
    rename_i l' hl'
    cases h
    rw [Bool.and_eq_true, Bool.and_eq_true] at hok
    obtain ⟨h1, h2, h3⟩ := hok
    let pe : PE := ⟨i, o, kf o.op, maskL (o.looksAt ops), writesM o, predM pre o.after.toList⟩
    have hgood : pe.Good ops kf := ⟨ho, rfl, rfl, rfl⟩
    have hnew : ∀ q ∈ pre, q.i ≠ i := fun q hq e => by
      have := (hm i).2 ⟨q, hq, e⟩
      rw [this] at h1; simp at h1
    have hfact : Fact ops kf pre.reverse pe := by
      refine ⟨hgood, fun q hq => hnew q (List.mem_reverse.1 hq), fun e he hb => ?_, fun k hk => ?_, fun q hq hc => ?_⟩
      · obtain ⟨q, hq, hqi⟩ := (hm _).1 (edgesIn_spec h2 e (Array.mem_toList_iff.2 he) hb)
        exact ⟨q, List.mem_reverse.2 hq, hqi⟩
      · obtain ⟨e, he, hb, h⟩ := predM_spec (pre := pre) hk
        refine ⟨e, Array.mem_toList_iff.1 he, hb, h.imp id fun ⟨q, hq, hqr⟩ => ⟨q, List.mem_reverse.2 hq, hqr⟩⟩
      · exact okAfter_spec h3 q (List.mem_reverse.1 hq) (conf_of (hg q (List.mem_reverse.1 hq)) hgood hc)
    have ih := build_spec rest (pe :: pre) (mask ||| 2 ^ i) l' hl' (fun k => by
      rw [Nat.testBit_or, Bool.or_eq_true, Nat.testBit_two_pow, decide_eq_true_eq]
      constructor
      · rintro (h | h)
        · obtain ⟨q, hq, hqi⟩ := (hm k).1 h; exact ⟨q, List.mem_cons_of_mem _ hq, hqi⟩
        · exact ⟨pe, List.mem_cons_self .., h⟩
      · rintro ⟨q, hq, hqi⟩
        rcases List.mem_cons.1 hq with rfl | hq
        · exact .inr hqi
        · exact .inl ((hm k).2 ⟨q, hq, hqi⟩)) (fun q hq => by
      rcases List.mem_cons.1 hq with rfl | hq
      · exact hgood
      · exact hg q hq)
    refine ⟨fun a qe c he => ?_, fun j hj => ?_⟩
    · cases a with
      | nil =>
        simp only [List.nil_append, List.cons.injEq] at he
        rw [← he.1, List.append_nil]; exact hfact
      | cons x a =>
        simp only [List.cons_append, List.cons.injEq] at he
        have := ih.1 a qe c he.2
        rw [List.reverse_cons, List.append_assoc] at this
        rw [← he.1]
        simpa using this
    · obtain ⟨q, hq, hqi⟩ := ih.2 j hj
      refine ⟨q, ?_, hqi⟩
      simp only [List.mem_append, List.mem_cons] at hq ⊢
      rcases hq with (rfl | hq) | hq
      · exact .inr (.inl rfl)
      · exact .inl hq
      · exact .inr (.inr hq)

theorem planOf_ok {P : Program} {pu : Pure} {ops : Array Oper} {pl : List PE} (h : planOf P pu ops = some pl) : PlanOK ops (kindOf P pu) pl := by
  obtain ⟨h1, h2⟩ := build_spec _ [] 0 pl h (fun k => by simp) (fun q hq => by cases hq)
  exact ⟨fun a pe c he => by simpa using h1 a pe c he, fun i hi => by simpa using h2 i hi⟩

end Go.Mir
