/- The mirror's operations against the machine's: the next entry of a map, clear. -/
import Derived.Test.YtohonlojnflejaaGreatDoorMirOpC
namespace Go.Mir
open Go.RowKit

section
variable {P : Program} {w : World} {C : Ctx} {ρ : Loc} {s : MS}

theorem ERs.nil : ERs ρ [] [] := ⟨rfl, fun i e x h => by simp at h⟩
theorem ERs.cons {e : MV × MV × Nat} {es : List (MV × MV × Nat)} {x : MapEntry} {xs : List MapEntry} (h : ER ρ e x) (hs : ERs ρ es xs) : ERs ρ (e :: es) (x :: xs) :=
  ⟨by simp [hs.1], fun i u y hu hy => by
    cases i with
    | zero => simp at hu hy; subst hu; subst hy; exact h
    | succ i => exact hs.2 i u y (by simpa using hu) (by simpa using hy)⟩
theorem ERs.filter (p : Nat → Bool) : ∀ {es : List (MV × MV × Nat)} {xs : List MapEntry}, ERs ρ es xs → ERs ρ (es.filter fun e => p e.2.2) (xs.filter fun e => p e.born)
  | [], xs, h => by
    have : xs = [] := List.eq_nil_of_length_eq_zero (by simpa using h.1)
    subst this; exact .nil
  | e :: es, xs, h => by
    obtain ⟨y, ys, rfl, hy, hys⟩ := h.cons_inv
    rw [List.filter_cons, List.filter_cons, hy.2.2]
    split
    · exact .cons hy (ERs.filter p hys)
    · exact ERs.filter p hys
theorem ERs.all (p : Nat → Bool) : ∀ {es : List (MV × MV × Nat)} {xs : List MapEntry}, ERs ρ es xs → (xs.all fun e => p e.born) = (es.all fun e => p e.2.2)
  | [], xs, h => by
    have : xs = [] := List.eq_nil_of_length_eq_zero (by simpa using h.1)
    subst this; rfl
  | e :: es, xs, h => by
    obtain ⟨y, ys, rfl, hy, hys⟩ := h.cons_inv
    simp only [List.all_cons, hy.2.2, ERs.all p hys]
theorem ERs.append {a b : List (MV × MV × Nat)} {x y : List MapEntry} (h : ERs ρ a x) (k : ERs ρ b y) : ERs ρ (a ++ b) (x ++ y) := by
  refine ⟨by simp [h.1, k.1], fun i u z hu hz => ?_⟩
  by_cases hi : i < a.length
  · rw [List.getElem?_append_left hi] at hu
    rw [List.getElem?_append_left (by rw [h.1]; exact hi)] at hz
    exact h.2 i u z hu hz
  · rw [List.getElem?_append_right (by omega)] at hu
    rw [List.getElem?_append_right (by rw [h.1]; omega), h.1] at hz
    exact k.2 _ u z hu hz

/-- A choice among n: some number below n, and a world that differs by a draw at most. -/
theorem run_choose_mapNext (n : Nat) (hn : 0 < n) : ∃ c w', (choose (.mapNext n)).run P w = .ok c w' ∧ c < n ∧ w'.heap = w.heap ∧ Below w.heap.size w w' := by
  by_cases h : n ≤ 1
  · refine ⟨0, w, ?_, by omega, rfl, Below.refl _ _⟩
    simp [choose, Sem.run, Question.forced, h]
  · refine ⟨(Question.mapNext n).cut (w.tape w.drawn (.mapNext n)), { w with drawn := w.drawn + 1 }, ?_, ?_, rfl, ⟨rfl, rfl, rfl, Nat.le_refl _, fun _ _ => rfl⟩⟩
    · simp [choose, Sem.run, Question.forced, h]
    · simp only [Question.cut]; exact Nat.mod_lt _ hn

theorem run_getIter {r : Nat} {m : Option Nat} {since : Nat} {seen : Array Nat} {last : Nat} (h : w.heap[r]? = some (.mapIter m since seen last)) : (getObj r).run P w = .ok (.mapIter m since seen last) w := by
  simp [getObj, Sem.run, h]
theorem run_setIter {r : Nat} {m : Option Nat} {since : Nat} {seen : Array Nat} {last : Nat} {o : Obj} (h : w.heap[r]? = some (.mapIter m since seen last)) : (setObj r o).run P w = .ok () { w with heap := w.heap.setIfInBounds r o } := by
  simp [setObj, Sem.run, h]

theorem mNext_sound (R : Repr C ρ s w) {t : TypeId} {a : MV} {x : Value} {l : List (MV × MS)} (hx : VR ρ a x) (h : mNext a s = some l) :
    ∃ z w' v s', (v, s') ∈ l ∧ (Instr.next x false t).run P w = .ok z w' ∧ VR ρ v z ∧ Repr C ρ s' w' := by
  unfold mNext at h
  split at h
  case h_2 => cases h
  rename_i hp
  simp only [VR] at hx
  obtain ⟨i, hi, rfl⟩ := hx
  split at h
  · -- over no map
    rename_i since seen last hg
    cases h
    obtain ⟨j, b, hj, hb, ⟨m', rfl, h0, hm⟩, _⟩ := R.obj _ _ hg
    rw [hi] at hj; cases hj
    simp only at hm; subst hm
    refine ⟨.tuple #[.bool false], w, _, _, List.mem_singleton.2 rfl, ?_, by simp only [VR]; exact ⟨_, rfl, .cons (by simp [VR]) .nil⟩, R⟩
    simp only [Instr.next, h0, Nat.add_zero, Sem.run_bind, run_getIter hb, Result.andThen_ok, Sem.run_pure]
  · rename_i m since seen last hg
    split at h
    case h_2 => cases h
    rename_i es clock hgm
    obtain ⟨j, b, hj, hb, ⟨m', rfl, h0, jm, hjm, rfl⟩, _⟩ := R.obj _ _ hg
    rw [hi] at hj; cases hj
    obtain ⟨jm', bm, hjm', hbm, ⟨xs, rfl, hxs⟩, _⟩ := R.obj _ _ hgm
    rw [hjm] at hjm'; cases hjm'
    split at h
    · cases h
    rename_i hck
    cases h
    -- the machine's own lists
    let old := (xs.filter fun e => !seen.toArray.contains e.born).filter (·.born < since)
    let new := (xs.filter fun e => !seen.toArray.contains e.born).filter (·.born ≥ since)
    have hold : ERs ρ ((es.filter fun e => !seen.contains e.2.2).filter fun e => decide (e.2.2 < since)) old.toList := by
      have := (hxs.filter (fun b => !seen.contains b)).filter (fun b => decide (b < since))
      simpa [old] using this
    have hnew : ERs ρ ((es.filter fun e => !seen.contains e.2.2).filter fun e => decide (e.2.2 ≥ since)) new.toList := by
      have := (hxs.filter (fun b => !seen.contains b)).filter (fun b => decide (b ≥ since))
      simpa [new] using this
    have hck' : (!seen.toArray.isEmpty && !xs.isEmpty && xs.all (·.born ≥ last)) = false := by
      have h1 := hxs.all (fun b => decide (b ≥ last))
      have h2 : xs.all (fun e => decide (e.born ≥ last)) = es.all (fun e => decide (e.2.2 ≥ last)) := by rw [← h1]; simp
      have h3 : xs.isEmpty = es.isEmpty := by
        have := hxs.1; simp at this
        rw [Bool.eq_iff_iff]; simp only [Array.isEmpty_iff_size_eq_zero, List.isEmpty_iff_length_eq_zero, this]
      rw [h2, h3]
      simpa using hck
    let cand : Array (Option MapEntry) := (if old.isEmpty then #[none] else #[]) ++ (old ++ new).map some
    have hemp : old.isEmpty = ((es.filter fun e => !seen.contains e.2.2).filter fun e => decide (e.2.2 < since)).isEmpty := by
      have := hold.1; simp only [Array.length_toList] at this
      rw [Bool.eq_iff_iff]; simp only [Array.isEmpty_iff_size_eq_zero, List.isEmpty_iff_length_eq_zero, this]
    have hpos : 0 < cand.size := by
      simp only [cand]
      by_cases he : old.isEmpty = true
      · simp [he]; omega
      · have : 0 < old.size := by
          rcases Nat.eq_zero_or_pos old.size with h0 | h0
          · exact absurd (by simpa [Array.isEmpty_iff_size_eq_zero] using h0) he
          · exact h0
        simp [he]; omega
    obtain ⟨c, w1, hc1, hc2, hc3, hc4⟩ := run_choose_mapNext (P := P) (w := w) cand.size hpos
    have R1 : Repr C ρ s w1 := R.same hc4 (by rw [hc3])
    have hb1 : w1.heap[i.block]? = some (.mapIter (some jm.block) since seen.toArray last) := by rw [hc3]; exact hb
    -- the machine's run, up to the candidate
    have hrun : ∀ (r : Option MapEntry), cand[c]? = some r → (Instr.next (.pointer (some ⟨i.block, i.off + 0, none⟩)) false t).run P w =
        ((match r with
          | some e => do
            setObj i.block (.mapIter (some jm.block) since (seen.toArray.push e.born) clock)
            pure (.tuple #[.bool true, e.key, e.val])
          | none => pure (.tuple #[.bool false]) : Sem Value).run P w1) := by
      intro r hr
      simp only [Instr.next, h0, Nat.add_zero, Sem.run_bind, run_getIter hb, Result.andThen_ok, run_getObj hbm, hck', Bool.false_eq_true, if_false]
      change ((choose (.mapNext cand.size)).run P w).andThen (fun a w' => (match cand[a]? with
        | some (some e) => do
          setObj i.block (.mapIter (some jm.block) since (seen.toArray.push e.born) clock)
          pure (.tuple #[.bool true, e.key, e.val])
        | some none => pure (.tuple #[.bool false])
        | none => stuck "Next: no such candidate" : Sem Value).run P w') = _
      rw [hc1]
      simp only [Result.andThen_ok, hr]
      cases r <;> rfl
    have hcand : ∃ r, cand[c]? = some r := ⟨cand[c], by simp [hc2]⟩
    obtain ⟨r, hr⟩ := hcand
    rw [hrun r hr]
    have hr' := hr
    simp only [cand] at hr'
    rw [← Array.getElem?_toList] at hr'
    cases r with
    | none =>
      have he : old.isEmpty = true := by
        by_cases he : old.isEmpty = true
        · exact he
        · rw [if_neg he] at hr'
          have hm := List.mem_of_getElem? hr'
          rw [Array.toList_append, Array.toList_map] at hm
          obtain ⟨_, _, hm⟩ := List.mem_map.1 (by simpa only [List.nil_append] using hm)
          cases hm
      refine ⟨.tuple #[.bool false], w1, .tuple [.bool false], s.kill hp, ?_, rfl, by simp only [VR]; exact ⟨_, rfl, .cons (by simp [VR]) .nil⟩, R1.kill hp⟩
      rw [hemp] at he
      simp only [he, if_true]
      simp
    | some e =>
      -- the entry is one of those that are left
      have hmem : ∃ k : Nat, (old.toList ++ new.toList)[k]? = some e := by
        by_cases he : old.isEmpty = true
        · rw [if_pos he, Array.toList_append, Array.toList_map, Array.toList_append] at hr'
          cases c with
          | zero => simp at hr'
          | succ c =>
            have h2 : ((old.toList ++ new.toList).map some)[c]? = some (some e) := hr'
            rw [List.getElem?_map, Option.map_eq_some_iff] at h2
            obtain ⟨_, h2, h3⟩ := h2
            cases h3
            exact ⟨c, h2⟩
        · rw [if_neg he, Array.toList_append, Array.toList_map, Array.toList_append] at hr'
          have h2 : ((old.toList ++ new.toList).map some)[c]? = some (some e) := by simpa only [List.nil_append] using hr'
          rw [List.getElem?_map, Option.map_eq_some_iff] at h2
          obtain ⟨_, h2, h3⟩ := h2
          cases h3
          exact ⟨c, h2⟩
      obtain ⟨k, hk⟩ := hmem
      have hall := hold.append hnew
      have hlt : k < (((es.filter fun e => !seen.contains e.2.2).filter fun e => decide (e.2.2 < since)) ++ ((es.filter fun e => !seen.contains e.2.2).filter fun e => decide (e.2.2 ≥ since))).length := by
        rw [← hall.1]; exact (List.getElem?_eq_some_iff.1 hk).1
      obtain ⟨me, hme⟩ : ∃ me, (((es.filter fun e => !seen.contains e.2.2).filter fun e => decide (e.2.2 < since)) ++ ((es.filter fun e => !seen.contains e.2.2).filter fun e => decide (e.2.2 ≥ since)))[k]? = some me := ⟨_, List.getElem?_eq_getElem hlt⟩
      have her := hall.2 k me e hme hk
      refine ⟨.tuple #[.bool true, e.key, e.val], { w1 with heap := w1.heap.setIfInBounds i.block (.mapIter (some jm.block) since (seen.toArray.push e.born) clock) }, .tuple [.bool true, me.1, me.2.1], s.put hp (.mapIter (some m) since (seen ++ [me.2.2]) clock), ?_, ?_, ?_, ?_⟩
      · refine List.mem_append_right _ ?_
        exact List.mem_map.2 ⟨me, List.mem_of_getElem? hme, rfl⟩
      · simp only [Sem.run_bind, run_setIter hb1, Result.andThen_ok, Sem.run_pure]
      · simp only [VR]; exact ⟨_, rfl, .cons (by simp [VR]) (.cons her.1 (.cons her.2.1 .nil))⟩
      · have hlt := R1.lt hg hi
        exact R1.upd (o := .mapIter (some m) since seen last) (b' := .mapIter (some jm.block) since (seen.toArray.push e.born) clock) hg rfl rfl hi (by simp) (fun q hq => by rw [Array.getElem?_setIfInBounds, if_neg (fun e => hq e.symm)]) (by simp [hlt]) ⟨some jm.block, by rw [her.2.2]; simp, h0, jm, hjm, rfl⟩
  · cases h

theorem mEntry_sound (R : Repr C ρ s w) {a v : MV} {x : Value} (hx : VR ρ a x) (h : mEntry a s = some v) : ∃ z, (Instr.entry x).run P w = .ok z w ∧ VR ρ v z := by
  unfold mEntry at h
  split at h
  case h_2 => cases h
  rename_i hp
  simp only [VR] at hx
  obtain ⟨i, hi, rfl⟩ := hx
  split at h
  case h_2 => cases h
  rename_i m since seen stepped hg
  split at h
  case h_2 => cases h
  rename_i b es clock hlast hgm
  split at h
  · cases h
  rename_i hclock
  simp only [Option.bind_eq_some_iff, Option.map_eq_some_iff] at h
  obtain ⟨r, hr, e, he, rfl⟩ := h
  obtain ⟨j, bb, hj, hb, ⟨m', rfl, h0, jm, hjm, rfl⟩, _⟩ := R.obj _ _ hg
  rw [hi] at hj; cases hj
  obtain ⟨jm', bm, hjm', hbm, ⟨xs, rfl, hxs⟩, _⟩ := R.obj _ _ hgm
  rw [hjm] at hjm'; cases hjm'
  obtain ⟨k, e', y, rfl, h1, h2, h3, _, h5⟩ := findBorn_sound es xs.toList 0 r hxs hr
  simp only [Nat.zero_add] at he
  rw [h1] at he; cases he
  have hb' : seen.toArray.back? = some b := by simpa [Array.back?_eq_getElem?, List.getLast?_eq_getElem?] using hlast
  have hf : xs.find? (fun e => e.born == b) = some y := by
    have : (fun e : MapEntry => ((e.born : Int) == (b : Int))) = (fun e => e.born == b) := by
      funext e; rw [Bool.eq_iff_iff]; simp; omega
    rw [this] at h5
    rw [← h5]; cases xs; simp
  have hcl : clock = stepped := by simpa using hclock
  refine ⟨.tuple #[y.key, y.val], ?_, by simp only [VR]; exact ⟨_, rfl, .cons h3.1 (.cons h3.2.1 .nil)⟩⟩
  simp only [Instr.entry, h0, Nat.add_zero, Sem.run_bind, run_getIter hb, Result.andThen_ok, hb', run_getObj hbm, hcl, bne_self_eq_false, Bool.false_eq_true, if_false, hf, Sem.run_pure]

end
end Go.Mir
