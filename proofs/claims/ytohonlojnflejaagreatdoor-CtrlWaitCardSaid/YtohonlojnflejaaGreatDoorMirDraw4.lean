/- Regions that draw their order: the law. -/
import Derived.Test.YtohonlojnflejaaGreatDoorMirDraw3
namespace Go.Mir
open Go.RowKit

section
variable {P : Program} {C : Ctx} {ops : Array Oper} {pl : List PE} {tr : List TE}

/-- The listed operations. -/
def mOf (listed : Array Bool) : Nat → Bool := fun k => listed.getD k false

theorem mOf_true {listed : Array Bool} {i : Nat} (h : i < listed.size) : listed.getD i true = mOf listed i := by
  simp [mOf, h]

theorem mOf_set {listed : Array Bool} {i : Nat} (h : i < listed.size) (k : Nat) : mOf (listed.setIfInBounds i true) k = (decide (i = k) || mOf listed k) := by
  unfold mOf
  by_cases hik : i = k
  · subst hik; simp [h]
  · simp [Array.getElem?_setIfInBounds_ne hik, hik]

/-- The frame in the midst of a region. -/
structure Rel (n : Nat) (tr : List TE) (E0 : Env) (ρ : Loc) (m : Nat → Bool) (a : Act) : Prop where
  defers : a.defers = []
  size : a.tmps.size = n
  vals : ∀ t v, lookOf m t tr (E0.look t) = some v → VR ρ v (a.eval (.tmp t))

/-- What an operation looks at is what it looked at in the one order. -/
theorem look_same {kf : Op → Nat} (hp : PlanOK ops kf pl) (hm : tr.map (·.1) = pl) {a : List TE} {te : TE} {l : List TE} (he : tr = a ++ te :: l) {m : Nat → Bool} (hD : Down m tr) (hb : ∀ k, te.1.b.testBit k = true → m k = true) (hn : m te.1.i = false)
    {t : Nat} (ht : t ∈ te.1.o.looksAt ops) (E0 : Env) : lookOf m t tr (E0.look t) = (envAll a E0).look t := by
  rw [envAll_look, he, lookOf_app, lookOf_skip (x := te :: l)]
  · refine lookOf_congr fun x hx hd => ?_
    exact hb _ ((fact_earlier hp hm he hx).2 (.inr (.inl ⟨t, hd, .inl ht⟩)))
  · intro x hx hd
    rcases List.mem_cons.1 hx with rfl | hx
    · exact hn
    · cases h : m x.1.i with
      | false => rfl
      | true =>
        have h1 := hD x (by rw [he]; simp [hx]) h _ ((fact_later hp hm he hx).2 (.inr (.inr ⟨t, hd, ht⟩)))
        rw [hn] at h1; cases h1

/-- What it writes is there after it. -/
theorem look_put {kf : Op → Nat} (hp : PlanOK ops kf pl) (hm : tr.map (·.1) = pl) {a : List TE} {te : TE} {l : List TE} (he : tr = a ++ te :: l) {m m' : Nat → Bool} (hD : Down m tr) (hn : m te.1.i = false) (hm' : ∀ k, m' k = (decide (te.1.i = k) || m k))
    (t : Nat) (b : Option MV) : lookOf m' t tr b = if te.1.o.dst = some t then some te.2 else lookOf m t tr b := by
  have hself : m' te.1.i = true := by rw [hm']; simp
  by_cases hd : te.1.o.dst = some t
  · rw [if_pos hd, he, lookOf_app]
    simp only [lookOf]
    rw [if_pos ⟨hself, hd⟩]
    refine lookOf_skip fun x hx hxd => ?_
    obtain ⟨h1, h2⟩ := fact_later hp hm he hx
    rw [hm']
    have : m x.1.i = false := by
      cases h : m x.1.i with
      | false => rfl
      | true =>
        have h3 := hD x (by rw [he]; simp [hx]) h _ (h2 (.inr (.inl ⟨t, hd, .inr hxd⟩)))
        rw [hn] at h3; cases h3
    simp [this, h1]
  · rw [if_neg hd]
    refine lookOf_congr fun x hx hxd => ?_
    rw [hm']
    by_cases h : te.1.i = x.1.i
    · have := same_place hp hm (by rw [he]; simp) hx h
      subst this
      exact absurd hxd hd
    · simp [h]

/-- Acts come one after another. -/
theorem acts_eff {kf : Op → Nat} (hp : PlanOK ops kf pl) (hm : tr.map (·.1) = pl) {a : List TE} {te : TE} {l : List TE} (he : tr = a ++ te :: l) {m : Nat → Bool} (hD : Down m tr) (hb : ∀ k, te.1.b.testBit k = true → m k = true) (hn : m te.1.i = false)
    (hk : te.1.k = 2) : acts m tr = acts (fun _ => true) a := by
  rw [he, acts_app, acts_none (x := te :: l), Nat.add_zero]
  · exact acts_congr fun x hx hxk => hb _ ((fact_earlier hp hm he hx).2 (.inl ⟨hxk, hk⟩))
  · intro x hx hxk
    rcases List.mem_cons.1 hx with rfl | hx
    · exact hn
    · cases h : m x.1.i with
      | false => rfl
      | true =>
        have h1 := hD x (by rw [he]; simp [hx]) h _ ((fact_later hp hm he hx).2 (.inl ⟨hk, hxk⟩))
        rw [hn] at h1; cases h1

theorem acts_put {kf : Op → Nat} (hp : PlanOK ops kf pl) (hm : tr.map (·.1) = pl) {a : List TE} {te : TE} {l : List TE} (he : tr = a ++ te :: l) {m m' : Nat → Bool} (hn : m te.1.i = false) (hm' : ∀ k, m' k = (decide (te.1.i = k) || m k)) :
    acts m' tr = acts m tr + (if te.1.k = 2 then 1 else 0) := by
  have h1 : acts m' a = acts m a := acts_congr fun x hx _ => by
    rw [hm']; have := (fact_earlier hp hm he hx).1
    simp [Ne.symm this]
  have h2 : acts m' l = acts m l := acts_congr fun x hx _ => by
    rw [hm']; have := (fact_later hp hm he hx).1
    simp [this]
  have hself : m' te.1.i = true := by rw [hm']; simp
  rw [he, acts_app, acts_app]
  simp only [acts, h1, h2, hself, hn, and_true, Bool.false_eq_true, and_false, if_false]
  omega

theorem left_put {kf : Op → Nat} (hp : PlanOK ops kf pl) (hm : tr.map (·.1) = pl) {a : List TE} {te : TE} {l : List TE} (he : tr = a ++ te :: l) {m m' : Nat → Bool} (hn : m te.1.i = false) (hm' : ∀ k, m' k = (decide (te.1.i = k) || m k)) :
    left m tr = left m' tr + 1 := by
  have h1 : left m' a = left m a := left_congr fun x hx => by
    rw [hm']; have := (fact_earlier hp hm he hx).1
    simp [Ne.symm this]
  have h2 : left m' l = left m l := left_congr fun x hx => by
    rw [hm']; have := (fact_later hp hm he hx).1
    simp [this]
  have hself : m' te.1.i = true := by rw [hm']; simp
  rw [he, left_app, left_app]
  simp only [left, h1, h2, hself, hn, if_true, Bool.false_eq_true, if_false]
  omega

theorem any_sound (hng : NoNum P) {ext : Ext} (hext : ExtOK P C ext) {pu : Pure} (hpu : PuOK P C pu) {ih : Run} (hih : CallsOK P C ih) (hp : PlanOK ops (kindOf P pu) pl) (hm : tr.map (·.1) = pl) {S : Nat → MS} {E0 : Env} (hT : TraceOK P ext pu ih ops pl S 0 E0 tr)
    {n : Nat} (hd : ∀ o ∈ ops.toList, ∀ d, o.dst = some d → d < n) {Q : Exit → Act → World → Prop} {ρ0 : Loc}
    (k : ∀ ρ' a' w', ρ0.le ρ' → Rel n tr E0 ρ' (fun _ => true) a' → Repr C ρ' (S (acts (fun _ => true) tr)) w' → Q .normal a' w') :
    ∀ (fuel : Nat) (listed : Array Bool) (a : Act) (w : World) (ρ : Loc), listed.size = ops.size → left (mOf listed) tr = fuel → Down (mOf listed) tr → ρ0.le ρ → Repr C ρ (S (acts (mOf listed) tr)) w → Rel n tr E0 ρ (mOf listed) a →
      wpAny P .any ops Q fuel listed a w := by
  have hlt : ∀ te ∈ tr, te.1.i < ops.size := fun te ht => by
    obtain ⟨a, l, he⟩ := List.append_of_mem ht
    exact (Array.getElem?_eq_some_iff.1 (fact_at hp hm he).good.1).1
  intro fuel
  induction fuel with
  | zero =>
    intro listed a w ρ hsz hl hD hle R hrel
    have hall := left_zero hl
    refine ⟨?_, ?_⟩
    · cases hr : Region.ready .any ops listed with
      | nil => rfl
      | cons i rs =>
        have hi : i ∈ Region.ready .any ops listed := by rw [hr]; exact List.mem_cons_self ..
        obtain ⟨h0, o, ho, _⟩ := mem_ready.1 hi
        have hilt := (Array.getElem?_eq_some_iff.1 ho).1
        obtain ⟨q, hq, hqi⟩ := hp.all i hilt
        rw [← hm] at hq
        obtain ⟨te, ht, rfl⟩ := List.mem_map.1 hq
        have := hall te ht
        rw [mOf_true (by omega), ← hqi, this] at h0; cases h0
    · refine k ρ a w hle ⟨hrel.defers, hrel.size, fun t v hv => hrel.vals t v ?_⟩ ?_
      · rw [lookOf_congr (m' := fun _ => true) fun te ht _ => hall te ht]; exact hv
      · rw [← acts_congr (m := mOf listed) (m' := fun _ => true) fun te ht _ => hall te ht]; exact R
  | succ fuel ihf =>
    intro listed a w ρ hsz hl hD hle R hrel
    refine ⟨fun hr => ?_, fun i hi => ?_⟩
    · -- one is ready
      exfalso
      obtain ⟨x, te, l, he, hn, hx⟩ := left_first (m := mOf listed) (x := tr) (by omega)
      have hf := fact_at hp hm he
      have : te.1.i ∈ Region.ready .any ops listed := by
        refine mem_ready.2 ⟨?_, te.1.o, hf.good.1, fun e hea hb => ?_⟩
        · rw [mOf_true (by rw [hsz]; exact hlt te (by rw [he]; simp))]; exact hn
        · obtain ⟨q, hq, hqi⟩ := hf.edges e hea hb
          obtain ⟨y, hy, rfl⟩ := List.mem_map.1 hq
          have := hx y hy
          rw [hqi] at this; exact this
      rw [hr] at this; cases this
    · obtain ⟨h0, o, ho, hedges⟩ := mem_ready.1 hi
      have hilt := (Array.getElem?_eq_some_iff.1 ho).1
      obtain ⟨q, hq, hqi⟩ := hp.all i hilt
      rw [← hm] at hq
      obtain ⟨te, ht, rfl⟩ := List.mem_map.1 hq
      subst hqi
      obtain ⟨x, l, he⟩ := List.append_of_mem ht
      have hf := fact_at hp hm he
      have hoe : o = te.1.o := by have := hf.good.1; rw [ho] at this; exact Option.some.inj this
      subst hoe
      have hn : mOf listed te.1.i = false := by rw [← mOf_true (by omega)]; exact h0
      have hb : ∀ k, te.1.b.testBit k = true → mOf listed k = true := fun k hk => by
        obtain ⟨e, hea, hbi, h⟩ := hf.before k hk
        have hen := hedges e hea hbi
        rcases h with rfl | ⟨q, hq, hqi, hqb⟩
        · exact hen
        · obtain ⟨y, hy, rfl⟩ := List.mem_map.1 hq
          refine hD y (by rw [he]; exact List.mem_append_left _ hy) ?_ k hqb
          rw [hqi]; exact hen
      have hm' := mOf_set (listed := listed) (i := te.1.i) (by omega)
      have hD' : Down (mOf (listed.setIfInBounds te.1.i true)) tr := fun y hy hmy k hk => by
        rw [hm'] at hmy ⊢
        rw [Bool.or_eq_true, decide_eq_true_eq] at hmy ⊢
        rcases hmy with h | h
        · have := same_place hp hm ht hy h
          subst this
          exact .inr (hb k hk)
        · exact .inr (hD y hy h k hk)
      have hst := TraceOK.at (P := P) (a := x) (te := te) (l := l) (by rw [← he]; exact hT)
      rw [Nat.zero_add] at hst
      -- what it looks at
      have hlook : ∀ t v, t ∈ te.1.o.looksAt ops → (envAll x E0).look t = some v → VR ρ v (a.eval (.tmp t)) := fun t v htl hv => by
        rw [← look_same hp hm he hD hb hn htl] at hv
        exact hrel.vals t v hv
      -- after it
      have hnext : ∀ (ρ' : Loc) (y : Value) (w' : World), ρ.le ρ' → VR ρ' te.2 y → Repr C ρ' (S (acts (mOf (listed.setIfInBounds te.1.i true)) tr)) w' →
          wpAny P .any ops Q fuel (listed.setIfInBounds te.1.i true) (a.put te.1.o.dst y) w' := fun ρ' y w' hle' hy R' => by
        refine ihf _ _ _ ρ' (by simpa using hsz) ?_ hD' (Loc.le_trans hle hle') R' ⟨?_, ?_, fun t v hv => ?_⟩
        · have := left_put hp hm he hn hm'; omega
        · rw [← hrel.defers]; cases te.1.o.dst <;> rfl
        · rw [← hrel.size]; cases te.1.o.dst <;> simp [Act.put]
        · rw [look_put hp hm he hD hn hm'] at hv
          by_cases hdt : te.1.o.dst = some t
          · rw [if_pos hdt] at hv; cases hv
            rw [hdt, put_eval_same (by rw [hrel.size]; exact hd _ (Array.mem_toList_iff.2 (Array.mem_of_getElem? ho)) t hdt)]
            exact hy
          · rw [if_neg hdt] at hv
            rw [Act.eval_put (fun d hd' e => by cases e; exact hdt hd')]
            exact (hrel.vals t v hv).mono hle'
      have hacts := acts_put hp hm he hn hm'
      unfold wpOp
      simp only [ho]
      rcases hst with ⟨hw, hv, hs⟩ | ⟨hw, heff, hread⟩
      · rw [wanted_of hlook hw]
        simp only [Bool.false_eq_true, if_false]
        refine hnext ρ undef w ρ.le_refl (by rw [hv]; simp only [MV.undef, VR]; exact ⟨_, rfl, .nil⟩) ?_
        rw [hacts]
        by_cases hk : te.1.k = 2
        · rw [if_pos hk]
          have := acts_eff hp hm he hD hb hn hk
          rw [this, hs hk, ← this]; exact R
        · rw [if_neg hk]; exact R
      · rw [wanted_of hlook hw]
        refine .inl ?_
        have hkk : te.1.k = kindOf P pu te.1.o.op := hf.good.2.1
        by_cases hk : te.1.k = 2
        · have hc := acts_eff hp hm he hD hb hn hk
          have h1 := heff hk
          rw [← hc] at h1
          refine effRun_sound hng hext hih R (agree_of hlook) h1 _ _ fun ρ' y w' hle' hy R' => hnext ρ' y w' hle' hy ?_
          rw [hacts, if_pos hk]; exact R'
        · have h1 : readRun P ext pu te.1.o.op (envAll x E0) (S (acts (mOf listed) tr)) = some te.2 := by
            refine hread hk _ ?_
            obtain ⟨hlo, hhi⟩ := window (pe := te.1) hm hD hb hn
            by_cases hlh : loOf te.1 pl = hiOf te.1 pl
            · obtain ⟨m0, hD0, hb0, hn0, hc0⟩ := acts_true_of hp hm he
              obtain ⟨hlo0, hhi0⟩ := window (pe := te.1) hm hD0 hb0 hn0
              left; omega
            · exact .inr (.inl ⟨hlh, hlo, hhi⟩)
          refine readRun_sound hng hext hpu R (agree_of hlook) (by rw [← hkk]; exact hk) h1 _ _ fun ρ' y w' hle' hy R' => hnext ρ' y w' hle' hy ?_
          rw [hacts, if_neg hk]; exact R'

theorem hiOf_le (pe : PE) : ∀ (x : List TE), hiOf pe (x.map (·.1)) ≤ acts (fun _ => true) x
  | [] => Nat.le_refl _
  | te :: x => by
    have := hiOf_le pe x
    simp only [List.map_cons, hiOf, acts]
    split
    · rename_i h
      rw [Bool.and_eq_true] at h
      rw [if_pos ⟨Nat.eq_of_beq_eq_true h.1, trivial⟩]; omega
    · omega

theorem allW_spec {ext : Ext} {pu : Pure} {pl : List PE} {ss : List MS} : ∀ {l : List Chk}, allW P ext pu pl ss l = true → ∀ x ∈ l, winOK P ext pu pl ss x = true
  | [], _, x, hx => by cases hx
  | y :: l, h, x, hx => by
    simp only [allW, Bool.and_eq_true] at h
    rcases List.mem_cons.1 hx with rfl | hx
    · exact h.1
    · exact allW_spec h.2 x hx

theorem sameIn_spec {ext : Ext} {pu : Pure} {x : Chk} : ∀ {l : List MS}, sameIn P ext pu x l = true → ∀ s ∈ l, readRun P ext pu x.1.o.op x.2.1 s = some x.2.2
  | [], _, s, hs => by cases hs
  | s0 :: l, h, s, hs => by
    simp only [sameIn] at h
    split at h
    · rename_i u hu
      rw [Bool.and_eq_true] at h
      rcases List.mem_cons.1 hs with rfl | hs
      · rw [hu, eqMV_eq _ _ h.1]
      · exact sameIn_spec h.2 s hs
    · cases h

theorem drawRun_sound (hng : NoNum P) {ext : Ext} (hext : ExtOK P C ext) {pu : Pure} (hpu : PuOK P C pu) (hmix : P.follows .mixedOrders = true) : DrawOK P C (drawRun P ext pu) := by
  intro ih hih keep n ops E s l h hd ρ a w id Q hE R k
  unfold drawRun at h
  split at h
  · cases h
  rename_i pl hpl
  split at h
  · cases h
  rename_i r hr
  split at h
  case h_2 => cases h
  rename_i hW
  split at h
  case h_2 => cases h
  rename_i s' hs'
  cases h
  have hp := planOf_ok hpl
  have hkinds : ∀ pe ∈ pl, pe.k = kindOf P pu pe.o.op := fun pe hpe => by
    obtain ⟨a, c, he⟩ := List.append_of_mem hpe
    exact (hp.fact a pe c he).good.2.1
  obtain ⟨tr, t1, t2, t3, t4, t5⟩ := goRun_trace pl E s r.1 r.2.1 r.2.2 hr hkinds
  have hS : ∀ j s0, r.2.1[j]? = some s0 → r.2.1.getD (0 + j) s = s0 := fun j s0 hj => by
    rw [Nat.zero_add, List.getD_eq_getElem?_getD, hj]; rfl
  have hT := t5 pl (fun j => r.2.1.getD j s) 0 hS fun x hx => by
    intro hne j h1 h2
    have h3 := allW_spec hW x hx
    unfold winOK at h3
    split at h3
    · rename_i hb; exact absurd (Nat.eq_of_beq_eq_true hb) hne
    · have hj : j < r.2.1.length := by
        rw [t3]
        have := hiOf_le x.1 tr
        rw [t1] at this; omega
      refine sameIn_spec h3 _ ?_
      have hget : ((r.2.1.drop (loOf x.1 pl)).take (hiOf x.1 pl + 1 - loOf x.1 pl))[j - loOf x.1 pl]? = some (r.2.1.getD j s) := by
        rw [List.getElem?_take, if_pos (by omega), List.getElem?_drop, show loOf x.1 pl + (j - loOf x.1 pl) = j by omega, List.getD_eq_getElem?_getD]
        rw [List.getElem?_eq_getElem hj]; rfl
      exact List.mem_of_getElem? hget
  have hlast : r.2.1.getD (acts (fun _ => true) tr) s = s' := by
    rw [List.getLast?_eq_getElem?] at hs'
    rw [List.getD_eq_getElem?_getD, show acts (fun _ => true) tr = r.2.1.length - 1 by omega, hs']; rfl
  refine wp_region_any hmix ?_
  have hnone : ∀ k, mOf (Array.replicate ops.size false) k = false := fun k => by
    simp only [mOf, Array.getD_eq_getD_getElem?, Array.getElem?_replicate]
    split <;> rfl
  have hleft : left (mOf (Array.replicate ops.size false)) tr = ops.size → wpAny P .any ops Q ops.size (Array.replicate ops.size false) a { w with drawn := w.drawn + 1 } := fun hsz => by
    refine any_sound hng hext hpu hih hp t1 hT hd (ρ0 := ρ) (fun ρ' a' w' hle hrel R' => ?_) ops.size _ a _ ρ (by simp) hsz (fun te _ h => by rw [hnone] at h; cases h) ρ.le_refl ?_ ⟨hE.defers, hE.size, fun t v hv => hE.vals t v ?_⟩
    · refine k _ (List.mem_singleton.2 rfl) ρ' a' w' hle ⟨hrel.defers, hrel.size, fun t v hv => hE.keys t v ?_, fun t v hv => hrel.vals t v ?_⟩ ?_
      · rw [← t2, envAll_rs] at hv; exact hv
      · rw [← envAll_look, t2]; exact hv
      · rw [← hlast]; exact R'
    · have : acts (mOf (Array.replicate ops.size false)) tr = 0 := acts_none fun te _ _ => hnone _
      rw [this]
      have h0 : (fun j => r.2.1.getD j s) 0 = s := hS 0 s t4
      show Repr C ρ ((fun j => r.2.1.getD j s) 0) _
      rw [h0]; exact R.drew
    · rw [lookOf_skip fun te _ _ => hnone _] at hv; exact hv
  refine hleft ?_
  -- as many as there are operations
  have hlen : left (mOf (Array.replicate ops.size false)) tr = tr.length := by
    have : ∀ x : List TE, left (mOf (Array.replicate ops.size false)) x = x.length := by
      intro x
      induction x with
      | nil => rfl
      | cons te x ihx => simp only [left, hnone, Bool.false_eq_true, if_false, ihx, List.length_cons]; omega
    exact this tr
  rw [hlen]
  have hnd : (tr.map (·.1.i)).Nodup := by
    rw [List.nodup_iff_pairwise_ne, List.pairwise_map]
    have : ∀ (x y : List TE), tr = x ++ y → y.Pairwise (fun a b => a.1.i ≠ b.1.i) := by
      intro x y
      induction y generalizing x with
      | nil => intro _; exact .nil
      | cons te y ihy =>
        intro he
        refine .cons (fun z hz => (fact_later hp t1 he hz).1) (ihy (x ++ [te]) (by rw [he]; simp))
    exact this [] tr rfl
  have hsub1 : (tr.map (·.1.i)) ⊆ List.range ops.size := fun i hi => by
    obtain ⟨te, ht, rfl⟩ := List.mem_map.1 hi
    obtain ⟨x, y, he⟩ := List.append_of_mem ht
    exact List.mem_range.2 (Array.getElem?_eq_some_iff.1 (fact_at hp t1 he).good.1).1
  have hsub2 : List.range ops.size ⊆ (tr.map (·.1.i)) := fun i hi => by
    obtain ⟨q, hq, hqi⟩ := hp.all i (List.mem_range.1 hi)
    rw [← t1] at hq
    obtain ⟨te, ht, rfl⟩ := List.mem_map.1 hq
    exact List.mem_map.2 ⟨te, ht, hqi⟩
  have l1 := (List.nodup_range (n := ops.size)).length_le_of_subset hsub2
  have l2 := hnd.length_le_of_subset hsub1
  simp only [List.length_range, List.length_map] at l1 l2
  omega

end
end Go.Mir
