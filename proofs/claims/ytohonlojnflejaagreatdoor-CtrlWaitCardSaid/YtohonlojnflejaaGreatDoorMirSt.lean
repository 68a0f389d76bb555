/- The mirror's state against the machine's world: what a new block, a store, an end of a block keep. -/
import Derived.Test.YtohonlojnflejaaGreatDoorMirRel
import Derived.Laws.Cells
import Derived.Laws.Append
namespace Go.Mir
open Go.RowKit

theorem Tr.get_set_same {α : Type} : ∀ (p : Pos) (t : Tr α) (v : Option α), (t.set p v).get p = v
  | .one, .nil, _ => rfl
  | .z p, .nil, v => Tr.get_set_same p .nil v
  | .o p, .nil, v => Tr.get_set_same p .nil v
  | .one, .node _ _ _, _ => rfl
  | .z p, .node _ l _, v => Tr.get_set_same p l v
  | .o p, .node _ _ r, v => Tr.get_set_same p r v

theorem Tr.get_nil {α : Type} (p : Pos) : (Tr.nil : Tr α).get p = none := by cases p <;> rfl

theorem Tr.get_set_ne {α : Type} : ∀ (p q : Pos) (t : Tr α) (v : Option α), p ≠ q → (t.set p v).get q = t.get q
  | .one, .one, _, _, h => absurd rfl h
  | .one, .z q, .nil, _, _ => by simp [Tr.set, Tr.get]
  | .one, .o q, .nil, _, _ => by simp [Tr.set, Tr.get]
  | .one, .z q, .node _ _ _, _, _ => rfl
  | .one, .o q, .node _ _ _, _, _ => rfl
  | .z p, .one, .nil, _, _ => rfl
  | .z p, .z q, .nil, v, h => by
    show ((Tr.nil : Tr α).set p v).get q = _
    rw [Tr.get_set_ne p q .nil v (fun e => h (by rw [e])), Tr.get_nil]; rfl
  | .z p, .o q, .nil, _, _ => by simp [Tr.set, Tr.get]
  | .z p, .one, .node _ _ _, _, _ => rfl
  | .z p, .z q, .node _ l _, v, h => Tr.get_set_ne p q l v (fun e => h (by rw [e]))
  | .z p, .o q, .node _ _ _, _, _ => rfl
  | .o p, .one, .nil, _, _ => rfl
  | .o p, .z q, .nil, _, _ => by simp [Tr.set, Tr.get]
  | .o p, .o q, .nil, v, h => by
    show ((Tr.nil : Tr α).set p v).get q = _
    rw [Tr.get_set_ne p q .nil v (fun e => h (by rw [e])), Tr.get_nil]; rfl
  | .o p, .one, .node _ _ _, _, _ => rfl
  | .o p, .z q, .node _ _ _, _, _ => rfl
  | .o p, .o q, .node _ _ r, v, h => Tr.get_set_ne p q r v (fun e => h (by rw [e]))

theorem Pos.toNat_succ : ∀ p : Pos, p.succ.toNat = p.toNat + 1
  | .one => rfl
  | .z p => rfl
  | .o p => by simp [Pos.succ, Pos.toNat, Pos.toNat_succ p]; omega

theorem MS.get_put (s : MS) (h k : Pos) (o : MO) : (s.put h o).get k = if k = h then some o else s.get k := by
  unfold MS.put MS.get
  by_cases e : k = h
  · subst e; simp [Tr.get_set_same]
  · rw [if_neg e]; exact Tr.get_set_ne _ _ _ _ (fun e' => e e'.symm)
theorem MS.get_kill (s : MS) (h k : Pos) : (s.kill h).get k = if k = h then none else s.get k := by
  unfold MS.kill MS.get
  by_cases e : k = h
  · subst e; simp [Tr.get_set_same]
  · rw [if_neg e]; exact Tr.get_set_ne _ _ _ _ (fun e' => e e'.symm)
theorem MS.get_add (s : MS) (k : Pos) (o : MO) : (s.add o).get k = if k = s.next then some o else s.get k := by
  unfold MS.add MS.get
  by_cases e : k = s.next
  · subst e; simp [Tr.get_set_same]
  · rw [if_neg e]; exact Tr.get_set_ne _ _ _ _ (fun e' => e e'.symm)
@[simp] theorem MS.next_put (s : MS) (h : Pos) (o : MO) : (s.put h o).next = s.next := rfl
@[simp] theorem MS.next_kill (s : MS) (h : Pos) : (s.kill h).next = s.next := rfl
@[simp] theorem MS.next_add (s : MS) (o : MO) : (s.add o).next = s.next.succ := rfl

/-- The old memory: blocks below N are the world's w0. -/
structure Ctx where
  N : Nat
  w0 : World
  σ : Val

/-- A row of cells stands for cells of the mirror. -/
def Cells (ρ : Loc) (off : Nat) (cs : List MV) (vs : Array Value) : Prop :=
  ∀ k v, cs[k]? = some v → ∃ x, vs[off + k]? = some x ∧ VR ρ v x

def Unfrozen (fr : Nat × Nat) (n : Nat) : Prop := ∀ o, o < n → (decide (fr.1 ≤ o) && decide (o < fr.2)) = false

def ER (ρ : Loc) (e : MV × MV × Nat) (x : MapEntry) : Prop := VR ρ e.1 x.key ∧ VR ρ e.2.1 x.val ∧ x.born = e.2.2
def ERs (ρ : Loc) (es : List (MV × MV × Nat)) (xs : List MapEntry) : Prop :=
  xs.length = es.length ∧ ∀ (i : Nat) (e : MV × MV × Nat) (x : MapEntry), es[i]? = some e → xs[i]? = some x → ER ρ e x

/-- A block of the machine stands for one of the mirror. -/
def OR (ρ : Loc) (i : HI) : MO → Obj → Prop
  | .cells cs, b => ∃ vs e fr, b = .cells vs e fr ∧ Unfrozen fr vs.size ∧ Cells ρ i.off cs vs
  | .ro cs, b => ∃ vs e fr, b = .cells vs e fr ∧ Cells ρ i.off cs vs
  | .grow cs sz, b => ∃ vs e fr, b = .cells vs e fr ∧ Unfrozen fr vs.size ∧ Cells ρ i.off cs vs ∧ i.sz = sz ∧ i.off + i.cap * i.sz = vs.size
  | .map es clock, b => ∃ xs, b = .map xs clock ∧ ERs ρ es xs.toList
  | .mapIter m since seen last, b => ∃ m', b = .mapIter m' since seen.toArray last ∧ i.off = 0 ∧ (match m with | none => m' = none | some h => ∃ j, ρ h = some j ∧ m' = some j.block)

/-- Is it the call's own? -/
def MO.own : MO → Bool
  | .ro _ => false
  | _ => true

structure Repr (C : Ctx) (ρ : Loc) (s : MS) (w : World) : Prop where
  below : Below C.N C.w0 w
  base : C.N ≤ w.heap.size
  sig : ρ.σ = C.σ
  dom : ∀ h i, ρ h = some i → h.toNat < s.next.toNat
  obj : ∀ h o, s.get h = some o → ∃ i b, ρ h = some i ∧ w.heap[i.block]? = some b ∧ OR ρ i o b ∧ (o.own = true → C.N ≤ i.block)
  inj : ∀ h h' o o' i i', s.get h = some o → s.get h' = some o' → o.own = true → ρ h = some i → ρ h' = some i' → i.block = i'.block → h = h'

theorem Cells.mono {ρ ρ' : Loc} (h : ρ.le ρ') {off : Nat} {cs : List MV} {vs : Array Value} (hc : Cells ρ off cs vs) : Cells ρ' off cs vs :=
  fun k v hk => let ⟨x, hx, hr⟩ := hc k v hk; ⟨x, hx, hr.mono h⟩
theorem ERs.mono {ρ ρ' : Loc} (h : ρ.le ρ') {es : List (MV × MV × Nat)} {xs : List MapEntry} (hc : ERs ρ es xs) : ERs ρ' es xs :=
  ⟨hc.1, fun i e x he hx => let ⟨a, b, c⟩ := hc.2 i e x he hx; ⟨a.mono h, b.mono h, c⟩⟩

theorem OR.mono {ρ ρ' : Loc} (h : ρ.le ρ') {i : HI} : ∀ {o : MO} {b : Obj}, OR ρ i o b → OR ρ' i o b
  | .cells _, _, ⟨vs, e, fr, hb, hu, hc⟩ => ⟨vs, e, fr, hb, hu, hc.mono h⟩
  | .ro _, _, ⟨vs, e, fr, hb, hc⟩ => ⟨vs, e, fr, hb, hc.mono h⟩
  | .grow _ _, _, ⟨vs, e, fr, hb, hu, hc, r⟩ => ⟨vs, e, fr, hb, hu, hc.mono h, r⟩
  | .map _ _, _, ⟨xs, hb, he⟩ => ⟨xs, hb, he.mono h⟩
  | .mapIter none _ _ _, _, ⟨m', hb, h0, hm⟩ => ⟨m', hb, h0, hm⟩
  | .mapIter (some _) _ _ _, _, ⟨m', hb, h0, j, hj, hm⟩ => ⟨m', hb, h0, j, h.1 _ _ hj, hm⟩

theorem Repr.lt {C : Ctx} {ρ : Loc} {s : MS} {w : World} (R : Repr C ρ s w) {h : Pos} {o : MO} {i : HI} (hs : s.get h = some o) (hi : ρ h = some i) : i.block < w.heap.size := by
  obtain ⟨j, b, hj, hb, _⟩ := R.obj h o hs
  rw [hi] at hj; cases hj
  exact (Array.getElem?_eq_some_iff.1 hb).1

/-- The heap is as it was (a draw). -/
theorem Repr.same {C : Ctx} {ρ : Loc} {s : MS} {w w' : World} (R : Repr C ρ s w) (hb : Below w.heap.size w w') (hs : w'.heap.size = w.heap.size) : Repr C ρ s w' where
  below := R.below.trans (hb.mono R.base)
  base := by rw [hs]; exact R.base
  sig := R.sig
  dom := R.dom
  obj := fun h o ho => by
    obtain ⟨i, b, hi, hbk, hr, hn⟩ := R.obj h o ho
    exact ⟨i, b, hi, by rw [hb.block _ (Array.getElem?_eq_some_iff.1 hbk).1]; exact hbk, hr, hn⟩
  inj := R.inj

theorem Repr.drew {C : Ctx} {ρ : Loc} {s : MS} {w : World} (R : Repr C ρ s w) : Repr C ρ s { w with drawn := w.drawn + 1 } :=
  R.same ⟨rfl, rfl, rfl, Nat.le_refl _, fun _ _ => rfl⟩ rfl

/-- What comes later and keeps all that was. -/
theorem Repr.later {C : Ctx} {ρ : Loc} {s : MS} {w w' : World} (R : Repr C ρ s w) (hb : Below w.heap.size w w') : Repr C ρ s w' where
  below := R.below.trans (hb.mono R.base)
  base := Nat.le_trans R.base hb.size
  sig := R.sig
  dom := R.dom
  obj := fun h o ho => by
    obtain ⟨i, b, hi, hbk, hr, hn⟩ := R.obj h o ho
    exact ⟨i, b, hi, by rw [hb.block _ (Array.getElem?_eq_some_iff.1 hbk).1]; exact hbk, hr, hn⟩
  inj := R.inj

def Loc.put (ρ : Loc) (h : Pos) (i : HI) : Loc := ⟨fun k => if k = h then some i else ρ k, ρ.σ⟩
theorem Loc.put_same (ρ : Loc) (h : Pos) (i : HI) : ρ.put h i h = some i := by simp [Loc.put]
theorem Loc.put_ne (ρ : Loc) {h k : Pos} (i : HI) (e : k ≠ h) : ρ.put h i k = ρ k := by simp [Loc.put, e]

theorem Repr.fresh {C : Ctx} {ρ : Loc} {s : MS} {w : World} (R : Repr C ρ s w) : ρ s.next = none := by
  cases h : ρ s.next with
  | none => rfl
  | some i => exact absurd (R.dom _ _ h) (Nat.lt_irrefl _)

theorem Repr.le_put {C : Ctx} {ρ : Loc} {s : MS} {w : World} (R : Repr C ρ s w) (i : HI) : ρ.le (ρ.put s.next i) := ⟨fun h j hj => by
  by_cases e : h = s.next
  · subst e; rw [R.fresh] at hj; cases hj
  · rw [Loc.put_ne _ _ e]; exact hj, rfl⟩

/-- A new block. -/
theorem Repr.add {C : Ctx} {ρ : Loc} {s : MS} {w : World} (R : Repr C ρ s w) (o : MO) (b : Obj) (i : HI) (hi : i.block = w.heap.size) (hr : OR (ρ.put s.next i) i o b) :
    Repr C (ρ.put s.next i) (s.add o) { w with heap := w.heap.push b } := by
  have hb : Below w.heap.size w { w with heap := w.heap.push b } := ⟨rfl, rfl, rfl, by simp, fun k hk => by
    show (w.heap.push b)[k]? = _
    rw [Array.getElem?_push, if_neg (by omega)]⟩
  have hold : ∀ k b', w.heap[k]? = some b' → (w.heap.push b)[k]? = some b' := fun k b' hk => by
    have := (Array.getElem?_eq_some_iff.1 hk).1
    rw [Array.getElem?_push, if_neg (by omega)]; exact hk
  refine ⟨R.below.trans (hb.mono R.base), Nat.le_trans R.base hb.size, R.sig, ?_, ?_, ?_⟩
  · intro h j hj
    rw [MS.next_add, Pos.toNat_succ]
    by_cases e : h = s.next
    · subst e; omega
    · rw [Loc.put_ne _ _ e] at hj; have := R.dom h j hj; omega
  · intro h o' ho'
    rw [MS.get_add] at ho'
    by_cases e : h = s.next
    · subst e
      simp only [if_true] at ho'; cases ho'
      exact ⟨i, b, Loc.put_same _ _ _, by simp [hi], hr, fun _ => by rw [hi]; exact R.base⟩
    · rw [if_neg e] at ho'
      obtain ⟨j, b', hj, hb', hr', hn⟩ := R.obj h o' ho'
      exact ⟨j, b', by rw [Loc.put_ne _ _ e]; exact hj, hold _ _ hb', hr'.mono (R.le_put i), hn⟩
  · intro h h' o1 o2 i1 i2 h1 h2 hown hi1 hi2 hbk
    rw [MS.get_add] at h1 h2
    by_cases e1 : h = s.next <;> by_cases e2 : h' = s.next
    · rw [e1, e2]
    · subst e1
      rw [Loc.put_same] at hi1; cases hi1
      rw [if_neg e2] at h2; rw [Loc.put_ne _ _ e2] at hi2
      have := R.lt h2 hi2
      omega
    · subst e2
      rw [Loc.put_same] at hi2; cases hi2
      rw [if_neg e1] at h1; rw [Loc.put_ne _ _ e1] at hi1
      have := R.lt h1 hi1
      omega
    · rw [if_neg e1] at h1; rw [if_neg e2] at h2; rw [Loc.put_ne _ _ e1] at hi1; rw [Loc.put_ne _ _ e2] at hi2
      exact R.inj h h' o1 o2 i1 i2 h1 h2 hown hi1 hi2 hbk

/-- A block of the call's own is written. -/
theorem Repr.upd {C : Ctx} {ρ : Loc} {s : MS} {w : World} (R : Repr C ρ s w) {h : Pos} {o o' : MO} {i : HI} {heap' : Array Obj} {b' : Obj} (hs : s.get h = some o) (hown : o.own = true) (_hown' : o'.own = true)
    (hi : ρ h = some i) (hsz : heap'.size = w.heap.size) (hne : ∀ k, k ≠ i.block → heap'[k]? = w.heap[k]?) (hb : heap'[i.block]? = some b') (hr : OR ρ i o' b') :
    Repr C ρ (s.put h o') { w with heap := heap' } := by
  obtain ⟨i0, b0, hi0, hb0, _, hn0⟩ := R.obj h o hs
  rw [hi] at hi0; cases hi0
  have hN := hn0 hown
  refine ⟨R.below.trans ⟨rfl, rfl, rfl, by simp [hsz], fun k hk => hne k (by omega)⟩, by rw [show ({ w with heap := heap' } : World).heap.size = w.heap.size from hsz]; exact R.base, R.sig, R.dom, ?_, ?_⟩
  · intro k ok hk
    rw [MS.get_put] at hk
    by_cases e : k = h
    · subst e; simp only [if_true] at hk; cases hk
      exact ⟨i, b', hi, hb, hr, fun _ => hN⟩
    · rw [if_neg e] at hk
      obtain ⟨j, b, hj, hbk, hr', hn⟩ := R.obj k ok hk
      refine ⟨j, b, hj, ?_, hr', hn⟩
      show heap'[j.block]? = some b
      rw [hne _ (fun e' => e (R.inj h k o ok i j hs hk hown hi hj e'.symm).symm)]; exact hbk
  · intro k k' o1 o2 i1 i2 h1 h2 hw1 hi1 hi2 hbk
    rw [MS.get_put] at h1 h2
    by_cases e1 : k = h <;> by_cases e2 : k' = h
    · rw [e1, e2]
    · subst e1; rw [if_neg e2] at h2
      rw [hi] at hi1; cases hi1
      exact R.inj k k' o o2 i i2 hs h2 hown hi hi2 hbk
    · subst e2; rw [if_neg e1] at h1
      rw [hi] at hi2; cases hi2
      exact (R.inj k' k o o1 i i1 hs h1 hown hi hi1 hbk.symm).symm
    · rw [if_neg e1] at h1; rw [if_neg e2] at h2
      exact R.inj k k' o1 o2 i1 i2 h1 h2 hw1 hi1 hi2 hbk

/-- A block is known no more. -/
theorem Repr.kill {C : Ctx} {ρ : Loc} {s : MS} {w : World} (R : Repr C ρ s w) (h : Pos) : Repr C ρ (s.kill h) w := by
  refine ⟨R.below, R.base, R.sig, R.dom, ?_, ?_⟩
  · intro k o hk
    rw [MS.get_kill] at hk
    by_cases e : k = h
    · rw [if_pos e] at hk; cases hk
    · rw [if_neg e] at hk; exact R.obj k o hk
  · intro k k' o1 o2 i1 i2 h1 h2 hw1 hi1 hi2 hbk
    rw [MS.get_kill] at h1 h2
    by_cases e1 : k = h
    · rw [if_pos e1] at h1; cases h1
    by_cases e2 : k' = h
    · rw [if_pos e2] at h2; cases h2
    rw [if_neg e1] at h1; rw [if_neg e2] at h2
    exact R.inj k k' o1 o2 i1 i2 h1 h2 hw1 hi1 hi2 hbk

/-- A grown slice's block goes over to a new name: the elder one is gone. The block may have been written. -/
theorem Repr.move {C : Ctx} {ρ : Loc} {s : MS} {w : World} (R : Repr C ρ s w) {h : Pos} {o o' : MO} {i j : HI} {heap' : Array Obj} {b' : Obj} (hs : s.get h = some o) (hown : o.own = true)
    (hi : ρ h = some i) (hj : j.block = i.block) (hsz : heap'.size = w.heap.size) (hne : ∀ k, k ≠ i.block → heap'[k]? = w.heap[k]?) (hb : heap'[i.block]? = some b') (hr : OR (ρ.put s.next j) j o' b') :
    Repr C (ρ.put s.next j) ((s.kill h).add o') { w with heap := heap' } := by
  obtain ⟨i0, b0, hi0, hb0, _, hn0⟩ := R.obj h o hs
  rw [hi] at hi0; cases hi0
  have hN := hn0 hown
  refine ⟨R.below.trans ⟨rfl, rfl, rfl, by simp [hsz], fun k hk => hne k (by omega)⟩, by rw [show ({ w with heap := heap' } : World).heap.size = w.heap.size from hsz]; exact R.base, R.sig, ?_, ?_, ?_⟩
  · intro k jk hjk
    rw [MS.next_add, MS.next_kill, Pos.toNat_succ]
    by_cases e : k = s.next
    · subst e; omega
    · rw [Loc.put_ne _ _ e] at hjk; have := R.dom k jk hjk; omega
  · intro k ok hk
    rw [MS.get_add, MS.next_kill] at hk
    by_cases e : k = s.next
    · subst e; simp only [if_true] at hk; cases hk
      exact ⟨j, b', Loc.put_same _ _ _, by rw [hj]; exact hb, hr, fun _ => by rw [hj]; exact hN⟩
    · rw [if_neg e, MS.get_kill] at hk
      by_cases e' : k = h
      · rw [if_pos e'] at hk; cases hk
      rw [if_neg e'] at hk
      obtain ⟨jk, b, hjk, hbk, hr', hn⟩ := R.obj k ok hk
      refine ⟨jk, b, by rw [Loc.put_ne _ _ e]; exact hjk, ?_, hr'.mono (R.le_put j), hn⟩
      show heap'[jk.block]? = some b
      rw [hne _ (fun e'' => e' (R.inj h k o ok i jk hs hk hown hi hjk e''.symm).symm)]; exact hbk
  · intro k k' o1 o2 i1 i2 h1 h2 hw1 hi1 hi2 hbk
    rw [MS.get_add, MS.next_kill] at h1 h2
    have key : ∀ (q : Pos) (oq : MO) (iq : HI), q ≠ s.next → (s.kill h).get q = some oq → ρ q = some iq → iq.block ≠ i.block := by
      intro q oq iq _ hq hiq hbq
      rw [MS.get_kill] at hq
      by_cases e' : q = h
      · rw [if_pos e'] at hq; cases hq
      rw [if_neg e'] at hq
      exact e' (R.inj h q o oq i iq hs hq hown hi hiq hbq.symm).symm
    by_cases e1 : k = s.next <;> by_cases e2 : k' = s.next
    · rw [e1, e2]
    · subst e1
      rw [Loc.put_same] at hi1; cases hi1
      rw [if_neg e2] at h2; rw [Loc.put_ne _ _ e2] at hi2
      exact absurd (hbk.symm.trans hj) (key k' o2 i2 e2 h2 hi2)
    · subst e2
      rw [Loc.put_same] at hi2; cases hi2
      rw [if_neg e1] at h1; rw [Loc.put_ne _ _ e1] at hi1
      exact absurd (hbk.trans hj) (key k o1 i1 e1 h1 hi1)
    · rw [if_neg e1] at h1; rw [if_neg e2] at h2; rw [Loc.put_ne _ _ e1] at hi1; rw [Loc.put_ne _ _ e2] at hi2
      exact (R.kill h).inj k k' o1 o2 i1 i2 h1 h2 hw1 hi1 hi2 hbk

end Go.Mir
