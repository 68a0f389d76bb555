/- The mirror's operations against the machine's: append, copy. -/
import Derived.Test.YtohonlojnflejaaGreatDoorMirOp4
namespace Go.Mir
open Go.RowKit

section
variable {P : Program} {w : World} {C : Ctx} {ρ : Loc} {s : MS}

theorem cells_of_VRs {cs : List MV} {xs : List Value} (h : VRs ρ cs xs) (pre post : List Value) : Cells ρ pre.length cs (pre ++ xs ++ post).toArray := by
  intro k v hk
  obtain ⟨x, hx, hr⟩ := h.get hk
  refine ⟨x, ?_, hr⟩
  have hlt := (List.getElem?_eq_some_iff.1 hx).1
  simp only [List.getElem?_toArray]
  rw [List.append_assoc, List.getElem?_append_right (by omega), List.getElem?_append_left (by omega)]
  rw [show pre.length + k - pre.length = k from by omega]; exact hx

theorem Unfrozen.zero (n : Nat) : Unfrozen (0, 0) n := fun o _ => by simp

/-- A new row that append made. -/
theorem grown_repr (R : Repr C ρ s w) {w' : World} (hb : Below w.heap.size w w') (hsz : w'.heap.size = w.heap.size) {cs : List MV} {xs rest : List Value} (hxs : VRs ρ cs xs) {sz n cap e : Nat} (_hl : cs.length = n * sz) (hcap : n ≤ cap) (htot : xs.length + rest.length = cap * sz) :
    ∃ ρ', ρ.le ρ' ∧ VR ρ' (.gsl s.next 0 n) (.slice (some ⟨w.heap.size, 0, none⟩) n cap) ∧ Repr C ρ' (s.add (.grow cs sz)) { w' with heap := w'.heap.push (.cells (xs ++ rest).toArray e) } := by
  have R' : Repr C ρ s w' := R.same hb hsz
  let i : HI := ⟨w'.heap.size, 0, cap, sz⟩
  refine ⟨ρ.put s.next i, R.le_put i, ?_, R'.add _ _ i rfl ⟨_, e, (0, 0), rfl, Unfrozen.zero _, ?_, rfl, ?_⟩⟩
  · simp only [VR]
    exact ⟨i, Loc.put_same _ _ _, .inl ⟨cap, by simp [i, hsz], by simp [i], hcap⟩⟩
  · have := cells_of_VRs (hxs.mono (R.le_put i)) [] rest
    simpa [i] using this
  · simp [i, ← htot]

theorem zeroCells_length (z : Array Value) (n : Nat) : (Builtin.zeroCells z n).toList.length = n * z.size := by simp [Builtin.zeroCells]

theorem run_append_room' {ts : Array TypeId} {t u ty e : TypeId} {d : TypeDesc} {i : TypeInfo} (h0 : ts[0]? = some t) (h1 : ts[1]? = some u) (ht : P.underlying t = some (.slice e)) (hu : P.underlying u = some d) (hd : isIntD d = false) (hi : P.info? e = some i)
    {base : Option Addr} {sLen sCap : Nat} {y : Value} {n : Nat} (hn : (Builtin.lenOf y).run P w = .ok n w) {news : List Value}
    (hnew : ∀ w' : World, w'.heap = w.heap → (Builtin.firstCells i.size n y).run P w' = .ok news.toArray w') (hroom : sLen + n ≤ sCap) :
    (Builtin.append_ ts ty #[.slice base sLen sCap, y]).run P w = ((match base with | some a => storeCells (a.add (sLen * i.size)) news | none => Pure.pure () : Sem Unit).run P w).andThen fun _ w' => .ok (.slice base (sLen + n) sCap) w' := by
  unfold Builtin.append_
  simp only [List.getElem?_toArray, List.getElem?_cons_zero, List.getElem?_cons_succ, h0, h1]
  simp only [Sem.run_bind, run_underlying' ht, Result.andThen_ok, run_sizeOf' (n := i.size) (show sizeT P e = some i.size by simp [sizeT, hi])]
  rw [run_underlying' hu]
  simp only [Result.andThen_ok]
  split
  · simp [isIntD] at hd
  simp only [Sem.run_pure, Result.andThen_ok, Bool.false_eq_true, if_false, Sem.run_bind, hn, Bool.not_false, if_true]
  simp only [hroom, if_true]
  cases base
  · simp [hnew w rfl]
  · simp [hnew w rfl]

theorem mAppend_sound (R : Repr C ρ s w) {ts : Array TypeId} {ty : TypeId} {a b v : MV} {x y : Value} {s' : MS} (hx : VR ρ a x) (hy : VR ρ b y) (h : mAppend P ts a b s = some (v, s')) :
    ∃ z w' ρ', (Builtin.append_ ts ty #[x, y]).run P w = .ok z w' ∧ ρ.le ρ' ∧ VR ρ' v z ∧ Repr C ρ' s' w' := by
  unfold mAppend at h
  split at h
  · cases h
  rename_i t ht0
  split at h
  case h_2 => cases h
  rename_i e ht
  simp only [Option.bind_eq_bind, Option.bind_eq_some_iff] at h
  obtain ⟨i, hi, zv, hzv, h⟩ := h
  split at h
  · cases h
  rename_i hzsz
  simp only [Option.bind_eq_some_iff] at h
  obtain ⟨d, ⟨u, hu1, hu⟩, h⟩ := h
  split at h
  · cases h
  rename_i hd
  simp only [Option.bind_eq_some_iff] at h
  obtain ⟨⟨n, new⟩, hel, h⟩ := h
  simp only at h
  obtain ⟨hn, hnl, news, hnews, hnewrun⟩ := elems_sound (P := P) R hy hel
  have hd' : isIntD d = false := by simpa using hd
  obtain ⟨z, hz, hzr, hzi⟩ := run_zeroValue' (P := P) (w := w) (ρ := ρ) hzv
  simp only [hi, Option.bind_some] at hzi
  have hzc : z.cells.size = i.size := by
    have := hzr.cells.length
    simp only [Array.length_toList] at this
    rw [this]; simpa using hzsz
  -- what a run without room comes to
  have noRoom : ∀ (s : MS), Repr C ρ s w → ∀ (base : Option Addr) (sLen sCap : Nat) (old : List MV) (olds : List Value), VRs ρ old olds → old.length = sLen * i.size → (∀ w' : World, w'.heap = w.heap → (Builtin.firstCells i.size sLen (.slice base sLen sCap)).run P w' = .ok olds.toArray w') →
      ¬ (sLen + n ≤ sCap) → capOk i (sLen + n) = true →
      ∃ z w' ρ', (Builtin.append_ ts ty #[.slice base sLen sCap, y]).run P w = .ok z w' ∧ ρ.le ρ' ∧ VR ρ' (.gsl s.next 0 (sLen + n)) z ∧ Repr C ρ' (s.add (.grow (old ++ new) i.size)) w' := by
    intro s R base sLen sCap old olds ho hol hor hroom hcb
    simp only [capOk, Bool.and_eq_true, decide_eq_true_eq] at hcb
    obtain ⟨hb, hb0⟩ := hcb
    have hlt : sLen + n ≤ 2 ^ 47 := Nat.le_trans (Nat.le_mul_of_pos_right _ hb0) hb
    have hrun := run_append_any (P := P) (w := w) (ty := ty) (base := base) (sLen := sLen) (sCap := sCap) ht0 hu1 ht hu hd' hi hzi hn hnewrun hor (by omega) (by omega)
    rw [if_neg hroom] at hrun
    have hge := grownCap_ge w (sLen + n) sCap e
    obtain ⟨ρ', h1, h2, h3⟩ := grown_repr (w' := w.drew) R ⟨rfl, rfl, rfl, Nat.le_refl _, fun _ _ => rfl⟩ rfl (ho.append hnews) (sz := i.size) (n := sLen + n) (cap := grownCap w (sLen + n) sCap e) (e := e)
      (rest := (Builtin.zeroCells z.cells (grownCap w (sLen + n) sCap e - (sLen + n))).toList) (by rw [List.length_append, hol, hnl, Nat.add_mul]) hge
      (by rw [zeroCells_length, hzc, List.length_append, ho.length, hnews.length, hol, hnl, ← Nat.add_mul, ← Nat.add_mul]; congr 1; omega)
    refine ⟨_, _, ρ', hrun, h1, h2, ?_⟩
    have : (olds.toArray ++ news.toArray ++ Builtin.zeroCells z.cells (grownCap w (sLen + n) sCap e - (sLen + n))) = (olds ++ news ++ (Builtin.zeroCells z.cells (grownCap w (sLen + n) sCap e - (sLen + n))).toList).toArray := by
      apply Array.ext'; simp
    rw [this]; exact h3
  split at h
  · -- nothing is appended
    rename_i hn0
    subst hn0
    have hnews0 : news = [] := List.eq_nil_of_length_eq_zero (by rw [hnews.length, hnl]; simp)
    subst hnews0
    have room : ∀ (base : Option Addr) (sLen sCap : Nat), sLen ≤ sCap → (Builtin.append_ ts ty #[.slice base sLen sCap, y]).run P w = .ok (.slice base sLen sCap) w := by
      intro base sLen sCap hle
      rw [run_append_room' (P := P) (w := w) (ty := ty) (base := base) (sLen := sLen) (sCap := sCap) ht0 hu1 ht hu hd' hi hn hnewrun (by omega)]
      cases base <;> simp [storeCells]
    split at h <;> first | (cases h; done) | skip
    · cases h
      simp only [VR] at hx; subst hx
      exact ⟨_, _, ρ, room none 0 0 (Nat.le_refl _), ρ.le_refl, by simp [VR], R⟩
    · cases h
      have hx' := hx
      simp only [VR] at hx
      obtain ⟨j, hj, rfl, hlc⟩ := hx
      exact ⟨_, _, ρ, room _ _ _ hlc, ρ.le_refl, hx', R⟩
    · cases h
      have hx' := hx
      simp only [VR] at hx
      obtain ⟨j, hj, ⟨c, rfl, _, hlc⟩ | ⟨rfl, o, rfl⟩⟩ := hx
      · exact ⟨_, _, ρ, room _ _ _ hlc, ρ.le_refl, hx', R⟩
      · exact ⟨_, _, ρ, room _ _ _ (Nat.le_refl _), ρ.le_refl, hx', R⟩
  rename_i hn0
  split at h
  · cases h
  rename_i hone
  split at h
  · -- a known capacity
    rename_i hp off len cap
    have hx' := hx
    simp only [VR] at hx
    obtain ⟨j, hj, rfl, hlc⟩ := hx
    split at h
    · rename_i hroom
      simp only [Option.map_eq_some_iff] at h
      obtain ⟨s1, hs1, h⟩ := h
      cases h
      obtain ⟨w', hw', hR'⟩ := store_sound (P := P) R hj hs1 hnews
      refine ⟨.slice (some ⟨j.block, j.off + off, none⟩) (len + n) cap, w', ρ, ?_, ρ.le_refl, by simp only [VR]; exact ⟨j, hj, rfl, hroom⟩, hR'⟩
      rw [run_append_room' (P := P) (w := w) (ty := ty) (base := some ⟨j.block, j.off + off, none⟩) (sLen := len) (sCap := cap) ht0 hu1 ht hu hd' hi hn hnewrun hroom]
      simp only [Addr.add_lit]
      rw [show j.off + off + len * i.size = j.off + (off + len * i.size) from by omega, hw']
      rfl
    · rename_i hroom
      simp only [Option.bind_eq_some_iff] at h
      obtain ⟨⟨k, old⟩, hold, h⟩ := h
      simp only at h
      split at h
      · cases h
      rename_i hb
      cases h
      have hk : k = len := by
        simp only [elems] at hold
        split at hold
        · rename_i h0; cases hold; exact h0.symm
        · simp only [Option.bind_eq_bind, Option.bind_eq_some_iff] at hold
          obtain ⟨_, _, hold⟩ := hold; cases hold; rfl
      subst hk
      obtain ⟨_, hol, olds, ho, hor⟩ := elems_sound (P := P) R hx' hold
      exact noRoom s R _ _ _ old olds ho hol hor hroom (by simpa using hb)
  · -- nil
    simp only [VR] at hx; subst hx
    split at h
    · cases h
    rename_i hb
    cases h
    have := noRoom s R none 0 0 [] [] .nil (by simp) (fun w' _ => by simp [Builtin.firstCells]) (by omega) (by simpa using hb)
    simpa using this
  · -- one that append made
    rename_i hp eo len
    have hx' := hx
    simp only [Option.bind_eq_some_iff] at h
    obtain ⟨ob, hob, h⟩ := h
    split at h
    case h_2 => cases h
    rename_i all sz'
    split at h
    · cases h
    rename_i hsz
    simp only [Option.bind_eq_some_iff] at h
    obtain ⟨⟨k, old⟩, hold, h⟩ := h
    simp only at h
    split at h
    · cases h
    rename_i hb
    cases h
    have hsz' : sz' = i.size := by simpa using hsz
    subst hsz'
    have hk : k = len ∧ ((len = 0 ∧ old = []) ∨ s.load hp (eo * i.size) (len * i.size) = some old) := by
      simp only [elems] at hold
      split at hold
      · rename_i h0; cases hold; exact ⟨h0.symm, .inl ⟨h0, rfl⟩⟩
      · rw [hob] at hold
        simp only [Option.bind_eq_bind, Option.bind_some] at hold
        rw [if_neg (by simp)] at hold
        simp only [Option.bind_eq_some_iff] at hold
        obtain ⟨_, hl, hold⟩ := hold; cases hold; exact ⟨rfl, .inr hl⟩
    obtain ⟨rfl, hold'⟩ := hk
    obtain ⟨_, hol, olds, ho, hor⟩ := elems_sound (P := P) R hx' hold
    simp only [VR] at hx
    obtain ⟨j, hj, hx⟩ := hx
    rcases hx with ⟨c, rfl, hc, hlc⟩ | ⟨hl0, o, rfl⟩
    · by_cases hroom : k + n ≤ c
      · -- there is room: the block is written behind what is known
        obtain ⟨j0, b0, hj0, hb0, hor0, _⟩ := R.obj _ _ hob
        rw [hj] at hj0; cases hj0
        obtain ⟨vs, e0, fr, rfl, hu0, hc0, hjsz, hjtot⟩ := hor0
        have hfit : j.off + eo * i.size + k * i.size + n * i.size ≤ vs.size := by
          rw [← hjtot, hjsz, ← hc]
          have : (eo + k + n) * i.size ≤ (eo + c) * i.size := Nat.mul_le_mul_right _ (by omega)
          simp only [Nat.add_mul] at this ⊢
          omega
        have hold0 : Cells ρ (j.off + eo * i.size) old vs := by
          rcases hold' with ⟨_, rfl⟩ | hl
          · intro q v hq; simp at hq
          · simp only [MS.load, hob, Option.bind_some] at hl
            obtain ⟨vs', e', fr', hbe, _, hcc⟩ := OR.row (ρ := ρ) (i := j) (o := .grow all i.size) (b := .cells vs e0 fr) ⟨vs, e0, fr, rfl, hu0, hc0, hjsz, hjtot⟩ hl
            cases hbe; exact hcc
        have hnx : ∀ v ∈ news, (∀ a, v ≠ .agg a) ∧ (∀ a, v ≠ .tuple a) := by
          intro v hv
          obtain ⟨q, hq, rfl⟩ := List.getElem_of_mem hv
          have hq' : q < new.length := by rw [← hnews.length]; exact hq
          have hone' : new.all MV.one = true := by simpa using hone
          exact (hnews.at (i := q) (v := new[q]) (x := news[q]) (by simp [hq']) (by simp [hq])).one (List.all_eq_true.1 hone' _ (List.getElem_mem hq'))
        obtain ⟨heap', vs', h1, h2, h3, h4, h5, h6⟩ := run_storeCells' (P := P) news (j.off + eo * i.size + k * i.size) 0 w vs hb0 hu0 (by rw [hnews.length, hnl]; omega) hnx
        let j' : HI := ⟨j.block, j.off + eo * i.size, j.cap - eo, i.size⟩
        refine ⟨.slice (some ⟨j.block, j.off + eo * i.size, none⟩) (k + n) c, { w with heap := heap' }, ρ.put s.next j', ?_, R.le_put j', ?_, R.move (o := .grow all i.size) hob rfl hj rfl h2 h3 h4 ⟨vs', e0, fr, rfl, by rw [h5]; exact hu0, ?_, rfl, ?_⟩⟩
        · rw [hjsz]
          rw [run_append_room' (P := P) (w := w) (ty := ty) (base := some ⟨j.block, j.off + eo * i.size, none⟩) (sLen := k) (sCap := c) ht0 hu1 ht hu hd' hi hn hnewrun hroom]
          simp only [Addr.add_lit]
          rw [h1]; rfl
        · simp only [VR]
          exact ⟨j', Loc.put_same _ _ _, .inl ⟨c, by simp [j'], by simp [j']; omega, hroom⟩⟩
        · intro q v hq
          rw [h6]
          by_cases hq1 : q < old.length
          · rw [List.getElem?_append_left hq1] at hq
            obtain ⟨xv, hxv, hr⟩ := hold0 q v hq
            refine ⟨xv, ?_, hr.mono (R.le_put j')⟩
            rw [if_neg (by simp only [j']; rw [hol] at hq1; omega)]; exact hxv
          · rw [List.getElem?_append_right (by omega)] at hq
            obtain ⟨xv, hxv, hr⟩ := hnews.get hq
            refine ⟨xv, ?_, hr.mono (R.le_put j')⟩
            have hq2 := (List.getElem?_eq_some_iff.1 hxv).1
            rw [hol] at hq1 hxv hq2
            rw [if_pos (by simp only [j']; omega)]
            rw [show j'.off + q - (j.off + eo * i.size + k * i.size + 0) = q - k * i.size from by simp only [j']; omega]; exact hxv
        · simp only [j']
          rw [h5, ← hjtot, hjsz, ← hc, Nat.add_sub_cancel_left, Nat.add_mul]; omega
      · exact noRoom (s.kill hp) (R.kill hp) _ _ _ old olds ho hol hor hroom (by simpa using hb)
    · subst hl0
      have := noRoom (s.kill hp) (R.kill hp) (some ⟨j.block, o, none⟩) 0 0 old olds ho hol (fun w' hw' => hor w' hw') (by omega) (by simpa using hb)
      simpa using this
  · cases h

end
end Go.Mir
