/- Regions that draw their order: the run in one order is the run in every order. -/
import Derived.Test.YtohonlojnflejaaGreatDoorMirDraw2
namespace Go.Mir
open Go.RowKit

section
variable {P : Program} {C : Ctx}

abbrev TE := PE × MV

/-- What a variable holds after the listed ones of a row of operations. -/
def lookOf (m : Nat → Bool) (t : Nat) : List TE → Option MV → Option MV
  | [], b => b
  | te :: l, b => lookOf m t l (if m te.1.i = true ∧ te.1.o.dst = some t then some te.2 else b)

theorem lookOf_app (m : Nat → Bool) (t : Nat) : ∀ (x y : List TE) (b : Option MV), lookOf m t (x ++ y) b = lookOf m t y (lookOf m t x b)
  | [], _, _ => rfl
  | te :: x, y, b => by simp only [List.cons_append, lookOf]; exact lookOf_app m t x y _

theorem lookOf_skip {m : Nat → Bool} {t : Nat} : ∀ {x : List TE} {b : Option MV}, (∀ te ∈ x, te.1.o.dst = some t → m te.1.i = false) → lookOf m t x b = b
  | [], _, _ => rfl
  | te :: x, b, h => by
    simp only [lookOf]
    rw [if_neg, lookOf_skip fun te' h' => h te' (List.mem_cons_of_mem _ h')]
    rintro ⟨h1, h2⟩
    rw [h te (List.mem_cons_self ..) h2] at h1; cases h1

theorem lookOf_congr {m m' : Nat → Bool} {t : Nat} : ∀ {x : List TE} {b : Option MV}, (∀ te ∈ x, te.1.o.dst = some t → m te.1.i = m' te.1.i) → lookOf m t x b = lookOf m' t x b
  | [], _, _ => rfl
  | te :: x, b, h => by
    simp only [lookOf]
    rw [lookOf_congr fun te' h' => h te' (List.mem_cons_of_mem _ h')]
    congr 1
    by_cases hd : te.1.o.dst = some t
    · rw [h te (List.mem_cons_self ..) hd]
    · simp [hd]

def envAll (x : List TE) (E : Env) : Env := x.foldl (fun E te => E.put te.1.o.dst te.2) E

theorem put_look (E : Env) (dst : Option Tmp) (v : MV) (t : Nat) : (E.put dst v).look t = if dst = some t then some v else E.look t := by
  cases dst with
  | none => simp [Env.put]
  | some d => simp only [Env.put, Env.look, find_cons, Option.some.injEq]
theorem put_rs (E : Env) (dst : Option Tmp) (v : MV) : (E.put dst v).rs = E.rs := by cases dst <;> rfl

theorem envAll_look (t : Nat) : ∀ (x : List TE) (E : Env), (envAll x E).look t = lookOf (fun _ => true) t x (E.look t)
  | [], _ => rfl
  | te :: x, E => by
    simp only [envAll, List.foldl_cons, lookOf]
    have := envAll_look t x (E.put te.1.o.dst te.2)
    simp only [envAll] at this
    rw [this, put_look]
    simp
theorem envAll_rs : ∀ (x : List TE) (E : Env), (envAll x E).rs = E.rs
  | [], _ => rfl
  | te :: x, E => by
    simp only [envAll, List.foldl_cons]
    have := envAll_rs x (E.put te.1.o.dst te.2)
    simp only [envAll] at this
    rw [this, put_rs]

/-- How many of them act. -/
def acts (m : Nat → Bool) : List TE → Nat
  | [] => 0
  | te :: l => (if te.1.k = 2 ∧ m te.1.i = true then 1 else 0) + acts m l

theorem acts_app (m : Nat → Bool) : ∀ (x y : List TE), acts m (x ++ y) = acts m x + acts m y
  | [], y => by simp [acts]
  | te :: x, y => by simp only [List.cons_append, acts, acts_app m x y]; omega
theorem acts_none {m : Nat → Bool} : ∀ {x : List TE}, (∀ te ∈ x, te.1.k = 2 → m te.1.i = false) → acts m x = 0
  | [], _ => rfl
  | te :: x, h => by
    simp only [acts]
    rw [acts_none fun te' h' => h te' (List.mem_cons_of_mem _ h'), if_neg]
    rintro ⟨h1, h2⟩
    rw [h te (List.mem_cons_self ..) h1] at h2; cases h2
theorem acts_congr {m m' : Nat → Bool} : ∀ {x : List TE}, (∀ te ∈ x, te.1.k = 2 → m te.1.i = m' te.1.i) → acts m x = acts m' x
  | [], _ => rfl
  | te :: x, h => by
    simp only [acts]
    rw [acts_congr fun te' h' => h te' (List.mem_cons_of_mem _ h')]
    congr 1
    by_cases hk : te.1.k = 2
    · rw [h te (List.mem_cons_self ..) hk]
    · simp [hk]
theorem acts_mono {m m' : Nat → Bool} : ∀ {x : List TE}, (∀ te ∈ x, te.1.k = 2 → m te.1.i = true → m' te.1.i = true) → acts m x ≤ acts m' x
  | [], _ => Nat.le_refl _
  | te :: x, h => by
    simp only [acts]
    have := acts_mono (m := m) (m' := m') fun te' h' => h te' (List.mem_cons_of_mem _ h')
    by_cases hk : te.1.k = 2 ∧ m te.1.i = true
    · rw [if_pos hk, if_pos ⟨hk.1, h te (List.mem_cons_self ..) hk.1 hk.2⟩]; omega
    · rw [if_neg hk]; omega

theorem loOf_acts (pe : PE) : ∀ (x : List TE), loOf pe (x.map (·.1)) = acts (fun i => pe.b.testBit i) x
  | [] => rfl
  | te :: x => by
    simp only [List.map_cons, loOf, acts, loOf_acts pe x]
    split
    · rename_i h
      rw [Bool.and_eq_true] at h
      rw [if_pos ⟨Nat.eq_of_beq_eq_true h.1, h.2⟩]; omega
    · rename_i h
      rw [if_neg]; · omega
      rintro ⟨h1, h2⟩
      rw [h1, h2] at h; cases h

/-- No more than those that need not wait for it. -/
theorem hiOf_acts (pe : PE) (m : Nat → Bool) : ∀ (x : List TE), (∀ te ∈ x, te.1.k = 2 → m te.1.i = true → te.1.b.testBit pe.i = false) → acts m x ≤ hiOf pe (x.map (·.1))
  | [], _ => Nat.le_refl _
  | te :: x, h => by
    have := hiOf_acts pe m x fun te' h' => h te' (List.mem_cons_of_mem _ h')
    simp only [List.map_cons, hiOf, acts]
    by_cases hk : te.1.k = 2 ∧ m te.1.i = true
    · have h1 := h te (List.mem_cons_self ..) hk.1 hk.2
      rw [if_pos hk]
      have h2 : (Nat.beq te.1.k 2 && !te.1.b.testBit pe.i) = true := by rw [h1, hk.1]; rfl
      simp only [h2]; omega
    · rw [if_neg hk]
      split <;> omega

/-- One step of the run in one order; S: the memory after so many acts. -/
def StepOK (P : Program) (ext : Ext) (pu : Pure) (ih : Run) (ops : Array Oper) (pl : List PE) (S : Nat → MS) (c : Nat) (pe : PE) (E : Env) (v : MV) : Prop :=
  (wantedM ops pe.o E = some false ∧ v = .undef ∧ (pe.k = 2 → S (c + 1) = S c)) ∨
  (wantedM ops pe.o E = some true ∧ (pe.k = 2 → effRun P ext ih pe.o.op E (S c) = some (v, S (c + 1))) ∧ (pe.k ≠ 2 → ∀ j, (j = c ∨ (loOf pe pl ≠ hiOf pe pl ∧ loOf pe pl ≤ j ∧ j ≤ hiOf pe pl) ∨ pe.k = 0) → readRun P ext pu pe.o.op E (S j) = some v))

def TraceOK (P : Program) (ext : Ext) (pu : Pure) (ih : Run) (ops : Array Oper) (pl : List PE) (S : Nat → MS) : Nat → Env → List TE → Prop
  | _, _, [] => True
  | c, E, te :: l => StepOK P ext pu ih ops pl S c te.1 E te.2 ∧ TraceOK P ext pu ih ops pl S (if te.1.k = 2 then c + 1 else c) (E.put te.1.o.dst te.2) l

theorem TraceOK.at {ext : Ext} {pu : Pure} {ih : Run} {ops : Array Oper} {pl : List PE} {S : Nat → MS} : ∀ {a : List TE} {c : Nat} {E : Env} {te : TE} {l : List TE}, TraceOK P ext pu ih ops pl S c E (a ++ te :: l) →
    StepOK P ext pu ih ops pl S (c + acts (fun _ => true) a) te.1 (envAll a E) te.2
  | [], c, E, te, l, h => h.1
  | x :: a, c, E, te, l, h => by
    have := TraceOK.at (a := a) h.2
    have hc : (if x.1.k = 2 then c + 1 else c) + acts (fun _ => true) a = c + acts (fun _ => true) (x :: a) := by
      simp only [acts]; by_cases hk : x.1.k = 2 <;> simp [hk]; omega
    rw [hc] at this
    exact this

/-- The checks of the reads that may come at several times. -/
def CkOK (P : Program) (ext : Ext) (pu : Pure) (pl : List PE) (S : Nat → MS) (x : Chk) : Prop :=
  loOf x.1 pl ≠ hiOf x.1 pl → ∀ j, loOf x.1 pl ≤ j → j ≤ hiOf x.1 pl → readRun P ext pu x.1.o.op x.2.1 (S j) = some x.2.2

theorem goRun_trace {ext : Ext} {pu : Pure} {ih : Run} {ops : Array Oper} : ∀ (l : List PE) (E : Env) (s : MS) (ck : List Chk) (ss : List MS) (E' : Env), goRun P ext pu ih ops l E s = some (ck, ss, E') → (∀ pe ∈ l, pe.k = kindOf P pu pe.o.op) →
    ∃ tr : List TE, tr.map (·.1) = l ∧ envAll tr E = E' ∧ ss.length = acts (fun _ => true) tr + 1 ∧ ss[0]? = some s ∧
      ∀ (pl : List PE) (S : Nat → MS) (c : Nat), (∀ j s', ss[j]? = some s' → S (c + j) = s') → (∀ x ∈ ck, CkOK P ext pu pl S x) → TraceOK P ext pu ih ops pl S c E tr
  | [], E, s, ck, ss, E', h, _ => by
    simp only [goRun] at h; cases h
    exact ⟨[], rfl, rfl, rfl, rfl, fun _ _ _ _ _ => trivial⟩
  | pe :: rest, E, s, ck, ss, E', h, hk => by
    have hk' : ∀ q ∈ rest, q.k = kindOf P pu q.o.op := fun q hq => hk q (List.mem_cons_of_mem _ hq)
    simp only [goRun] at h
    split at h
    · cases h
    · rename_i hw
      split at h
      · rename_i h2
        have h2 := Nat.eq_of_beq_eq_true h2
        split at h
        · rename_i r hr
          cases h
          obtain ⟨tr, t1, t2, t3, t4, t5⟩ := goRun_trace rest _ _ r.1 r.2.1 r.2.2 hr hk'
          refine ⟨(pe, .undef) :: tr, by simp [t1], by simpa [envAll] using t2, by simp only [List.length_cons, t3, acts, h2]; simp; omega, rfl, fun pl S c hS hck => ?_⟩
          have hS0 : S c = s := hS 0 s rfl
          have hS1 : S (c + 1) = s := hS 1 s (by simpa using t4)
          refine ⟨.inl ⟨hw, rfl, fun _ => by rw [hS0, hS1]⟩, ?_⟩
          simp only [h2, if_true]
          exact t5 pl S (c + 1) (fun j s' hj => by rw [Nat.add_assoc, Nat.add_comm 1 j]; exact hS (j + 1) s' (by simpa using hj)) hck
        · cases h
      · rename_i h2
        have h2 : ¬ pe.k = 2 := fun e => by rw [e] at h2; cases h2
        obtain ⟨tr, t1, t2, t3, t4, t5⟩ := goRun_trace rest _ _ _ _ _ h hk'
        refine ⟨(pe, .undef) :: tr, by simp [t1], by simpa [envAll] using t2, by simp only [t3, acts, h2]; simp, t4, fun pl S c hS hck => ?_⟩
        refine ⟨.inl ⟨hw, rfl, fun e => absurd e h2⟩, ?_⟩
        simp only [h2, if_false]
        exact t5 pl S c hS hck
    · rename_i hw
      split at h
      · rename_i h2
        have h2 := Nat.eq_of_beq_eq_true h2
        split at h
        · rename_i vs hvs
          split at h
          · rename_i r hr
            cases h
            obtain ⟨tr, t1, t2, t3, t4, t5⟩ := goRun_trace rest _ _ r.1 r.2.1 r.2.2 hr hk'
            refine ⟨(pe, vs.1) :: tr, by simp [t1], by simpa [envAll] using t2, by simp only [List.length_cons, t3, acts, h2]; simp; omega, rfl, fun pl S c hS hck => ?_⟩
            have hS0 : S c = s := hS 0 s rfl
            have hS1 : S (c + 1) = vs.2 := hS 1 _ (by simpa using t4)
            refine ⟨.inr ⟨hw, fun _ => by rw [hS0, hS1]; exact hvs, fun e => absurd h2 e⟩, ?_⟩
            simp only [h2, if_true]
            exact t5 pl S (c + 1) (fun j s' hj => by rw [Nat.add_assoc, Nat.add_comm 1 j]; exact hS (j + 1) s' (by simpa using hj)) hck
          · cases h
        · cases h
      · rename_i h2
        have h2 : ¬ pe.k = 2 := fun e => by rw [e] at h2; cases h2
        split at h
        · rename_i v hv
          split at h
          · rename_i h0
            have h0 := Nat.eq_of_beq_eq_true h0
            obtain ⟨tr, t1, t2, t3, t4, t5⟩ := goRun_trace rest _ _ _ _ _ h hk'
            refine ⟨(pe, v) :: tr, by simp [t1], by simpa [envAll] using t2, by simp only [t3, acts, h2]; simp, t4, fun pl S c hS hck => ?_⟩
            refine ⟨.inr ⟨hw, fun e => absurd e h2, fun _ j _ => readRun_pure (by rw [← hk pe (List.mem_cons_self ..)]; exact h0) hv _⟩, ?_⟩
            simp only [h2, if_false]
            exact t5 pl S c hS hck
          · rename_i h0
            have h0 : ¬ pe.k = 0 := fun e => by rw [e] at h0; cases h0
            split at h
            · rename_i r hr
              cases h
              obtain ⟨tr, t1, t2, t3, t4, t5⟩ := goRun_trace rest _ _ r.1 r.2.1 r.2.2 hr hk'
              refine ⟨(pe, v) :: tr, by simp [t1], by simpa [envAll] using t2, by simp only [t3, acts, h2]; simp, t4, fun pl S c hS hck => ?_⟩
              refine ⟨.inr ⟨hw, fun e => absurd e h2, fun _ j hj => ?_⟩, ?_⟩
              · rcases hj with rfl | ⟨h3, h4, h5⟩ | h3
                · rw [show S j = s from hS 0 s (by simpa using t4)]; exact hv
                · exact hck _ (List.mem_cons_self ..) h3 j h4 h5
                · exact absurd h3 h0
              · simp only [h2, if_false]
                exact t5 pl S c hS fun x hx => hck x (List.mem_cons_of_mem _ hx)
            · cases h
        · cases h

/-- How many are not listed yet. -/
def left (m : Nat → Bool) : List TE → Nat
  | [] => 0
  | te :: l => (if m te.1.i = true then 0 else 1) + left m l
theorem left_app (m : Nat → Bool) : ∀ (x y : List TE), left m (x ++ y) = left m x + left m y
  | [], y => by simp [left]
  | te :: x, y => by simp only [List.cons_append, left, left_app m x y]; omega
theorem left_zero {m : Nat → Bool} : ∀ {x : List TE}, left m x = 0 → ∀ te ∈ x, m te.1.i = true
  | [], _, _, h => by cases h
  | p :: x, h, te, ht => by
    simp only [left] at h
    by_cases hp : m p.1.i = true
    · rw [if_pos hp] at h
      rcases List.mem_cons.1 ht with rfl | ht
      · exact hp
      · exact left_zero (by omega) te ht
    · rw [if_neg hp] at h; omega
theorem left_first {m : Nat → Bool} : ∀ {x : List TE}, left m x ≠ 0 → ∃ a te l, x = a ++ te :: l ∧ m te.1.i = false ∧ ∀ y ∈ a, m y.1.i = true
  | [], h => absurd rfl h
  | p :: x, h => by
    by_cases hp : m p.1.i = true
    · simp only [left, if_pos hp, Nat.zero_add] at h
      obtain ⟨a, te, l, h1, h2, h3⟩ := left_first h
      exact ⟨p :: a, te, l, by rw [h1]; rfl, h2, fun y hy => (List.mem_cons.1 hy).elim (fun e => by rw [e]; exact hp) (h3 y)⟩
    · exact ⟨[], p, x, rfl, by simpa using hp, fun y hy => by cases hy⟩
theorem left_congr {m m' : Nat → Bool} : ∀ {x : List TE}, (∀ te ∈ x, m te.1.i = m' te.1.i) → left m x = left m' x
  | [], _ => rfl
  | te :: x, h => by simp only [left, left_congr fun te' h' => h te' (List.mem_cons_of_mem _ h'), h te (List.mem_cons_self ..)]

section places
variable {ops : Array Oper} {kf : Op → Nat} {pl : List PE} {tr : List TE}

theorem fact_at (hp : PlanOK ops kf pl) (hm : tr.map (·.1) = pl) {a : List TE} {te : TE} {l : List TE} (he : tr = a ++ te :: l) : Fact ops kf (a.map (·.1)) te.1 := by
  refine hp.fact _ te.1 (l.map (·.1)) ?_
  rw [← hm, he]; simp

theorem fact_later (hp : PlanOK ops kf pl) (hm : tr.map (·.1) = pl) {a : List TE} {te : TE} {l : List TE} (he : tr = a ++ te :: l) {x : TE} (hx : x ∈ l) : te.1.i ≠ x.1.i ∧ (Conf ops te.1 x.1 → x.1.b.testBit te.1.i = true) := by
  obtain ⟨l1, l2, rfl⟩ := List.append_of_mem hx
  have hf := fact_at hp hm (a := a ++ te :: l1) (te := x) (l := l2) (by rw [he]; simp)
  have hmem : te.1 ∈ (a ++ te :: l1).map (·.1) := by simp
  exact ⟨hf.new _ hmem, hf.order _ hmem⟩

theorem fact_earlier (hp : PlanOK ops kf pl) (hm : tr.map (·.1) = pl) {a : List TE} {te : TE} {l : List TE} (he : tr = a ++ te :: l) {x : TE} (hx : x ∈ a) : x.1.i ≠ te.1.i ∧ (Conf ops x.1 te.1 → te.1.b.testBit x.1.i = true) := by
  have hf := fact_at hp hm he
  have hmem : x.1 ∈ a.map (·.1) := List.mem_map.2 ⟨x, hx, rfl⟩
  exact ⟨hf.new _ hmem, hf.order _ hmem⟩

/-- With each the ones that come before it. -/
def Down (m : Nat → Bool) (tr : List TE) : Prop := ∀ te ∈ tr, m te.1.i = true → ∀ k, te.1.b.testBit k = true → m k = true

theorem window (hm : tr.map (·.1) = pl) {m : Nat → Bool} (hD : Down m tr) {pe : PE} (hb : ∀ k, pe.b.testBit k = true → m k = true) (hn : m pe.i = false) : loOf pe pl ≤ acts m tr ∧ acts m tr ≤ hiOf pe pl := by
  subst hm
  refine ⟨?_, hiOf_acts pe m tr fun te ht _ hmt => ?_⟩
  · rw [loOf_acts]
    exact acts_mono fun te _ _ h => hb _ h
  · cases h : te.1.b.testBit pe.i with
    | false => rfl
    | true => have := hD te ht hmt _ h; rw [hn] at this; cases this

theorem before_in (hp : PlanOK ops kf pl) (hm : tr.map (·.1) = pl) : ∀ (a : List TE) (te : TE) (l : List TE), tr = a ++ te :: l → ∀ k, te.1.b.testBit k = true → ∃ x ∈ a, x.1.i = k := by
  intro a
  induction hn : a.length using Nat.strongRecOn generalizing a with
  | ind n ih =>
    intro te l he k hk
    have hf := fact_at hp hm he
    obtain ⟨e, hea, hbi, h⟩ := hf.before k hk
    rcases h with rfl | ⟨q, hq, hqi, hqb⟩
    · obtain ⟨q, hq, hqi⟩ := hf.edges e hea hbi
      obtain ⟨x, hx, rfl⟩ := List.mem_map.1 hq
      exact ⟨x, hx, hqi⟩
    · obtain ⟨x, hx, rfl⟩ := List.mem_map.1 hq
      obtain ⟨l1, l2, rfl⟩ := List.append_of_mem hx
      obtain ⟨y, hy, hyi⟩ := ih l1.length (by rw [← hn]; simp) l1 rfl x (l2 ++ te :: l) (by rw [he]; simp) k hqb
      exact ⟨y, by simp [hy], hyi⟩

theorem same_place (hp : PlanOK ops kf pl) (hm : tr.map (·.1) = pl) {x y : TE} (hx : x ∈ tr) (hy : y ∈ tr) (h : x.1.i = y.1.i) : x = y := by
  obtain ⟨l1, l2, he⟩ := List.append_of_mem hx
  rw [he] at hy
  rcases List.mem_append.1 hy with hy | hy
  · exact absurd h.symm (fact_earlier hp hm he hy).1
  · rcases List.mem_cons.1 hy with rfl | hy
    · rfl
    · exact absurd h (fact_later hp hm he hy).1

theorem acts_true_of (hp : PlanOK ops kf pl) (hm : tr.map (·.1) = pl) {a : List TE} {te : TE} {l : List TE} (he : tr = a ++ te :: l) :
    ∃ m : Nat → Bool, Down m tr ∧ (∀ k, te.1.b.testBit k = true → m k = true) ∧ m te.1.i = false ∧ acts m tr = acts (fun _ => true) a := by
  have hset : ∀ (b : List TE) k, (b.any fun x => x.1.i == k) = true ↔ ∃ x ∈ b, x.1.i = k := fun b k => by simp [List.any_eq_true]
  have hin : ∀ x ∈ a, x ∈ tr := fun x hx => by rw [he]; exact List.mem_append_left _ hx
  refine ⟨fun k => a.any fun x => x.1.i == k, ?_, fun k hk => (hset a k).2 (before_in hp hm a te l he k hk), ?_, ?_⟩
  · intro x hx hmx k hk
    obtain ⟨y, hy, hyi⟩ := (hset a _).1 hmx
    have hxy := same_place hp hm (hin y hy) hx hyi
    subst hxy
    obtain ⟨l1, l2, h1⟩ := List.append_of_mem hy
    obtain ⟨z, hz, hzi⟩ := before_in hp hm l1 y (l2 ++ te :: l) (by rw [he, h1]; simp) k hk
    exact (hset a k).2 ⟨z, by rw [h1]; simp [hz], hzi⟩
  · cases h : (a.any fun x => x.1.i == te.1.i) with
    | false => exact h
    | true =>
      obtain ⟨x, hx, hxi⟩ := (hset a _).1 h
      exact absurd hxi (fact_earlier hp hm he hx).1
  · rw [he, acts_app, acts_none (x := te :: l), Nat.add_zero]
    · exact acts_congr fun x hx _ => (hset a _).2 ⟨x, hx, rfl⟩
    · intro x hx _
      cases h : (a.any fun y => y.1.i == x.1.i) with
      | false => rfl
      | true =>
        obtain ⟨y, hy, hyi⟩ := (hset a _).1 h
        obtain ⟨l1, l2, h1⟩ := List.append_of_mem hy
        exact absurd hyi (fact_later hp hm (a := l1) (te := y) (l := l2 ++ te :: l) (by rw [he, h1]; simp) (List.mem_append_right _ hx)).1

end places

end
end Go.Mir
