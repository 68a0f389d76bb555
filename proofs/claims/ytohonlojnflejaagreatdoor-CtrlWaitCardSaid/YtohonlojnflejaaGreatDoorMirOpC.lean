/- The mirror's operations against the machine's: maps that are written, ranged over; clear. -/
import Derived.Test.YtohonlojnflejaaGreatDoorMirOpB
namespace Go.Mir
open Go.RowKit

section
variable {P : Program} {w : World} {C : Ctx} {ρ : Loc} {s : MS}

theorem ERs.set {es : List (MV × MV × Nat)} {xs : List MapEntry} (h : ERs ρ es xs) {i : Nat} {e : MV × MV × Nat} {x : MapEntry} (hx : ER ρ e x) : ERs ρ (es.set i e) (xs.set i x) := by
  refine ⟨by simp [h.1], fun j u y hu hy => ?_⟩
  rw [List.getElem?_set] at hu hy
  by_cases hi : i = j
  · subst hi
    simp only [if_true] at hu hy
    split at hu
    · split at hy
      · cases hu; cases hy; exact hx
      · cases hy
    · cases hu
  · simp only [hi, if_false] at hu hy; exact h.2 j u y hu hy

theorem ERs.append_one {es : List (MV × MV × Nat)} {xs : List MapEntry} (h : ERs ρ es xs) {e : MV × MV × Nat} {x : MapEntry} (hx : ER ρ e x) : ERs ρ (es ++ [e]) (xs ++ [x]) := by
  refine ⟨by simp [h.1], fun j u y hu hy => ?_⟩
  by_cases hj : j < es.length
  · rw [List.getElem?_append_left hj] at hu
    rw [List.getElem?_append_left (by rw [h.1]; exact hj)] at hy
    exact h.2 j u y hu hy
  · rw [List.getElem?_append_right (by omega)] at hu
    rw [List.getElem?_append_right (by rw [h.1]; omega), h.1] at hy
    cases hk : j - es.length with
    | zero => rw [hk] at hu hy; simp at hu hy; subst hu; subst hy; exact hx
    | succ n => rw [hk] at hu; simp at hu

theorem modify_toList (xs : Array MapEntry) (i : Nat) (f : MapEntry → MapEntry) {e : MapEntry} (he : xs[i]? = some e) : (xs.modify i f).toList = xs.toList.set i (f e) := by
  apply List.ext_getElem?
  intro j
  rw [Array.getElem?_toList, Array.getElem?_modify, List.getElem?_set, Array.getElem?_toList]
  have hlt := (Array.getElem?_eq_some_iff.1 he).1
  have hxi : xs[i] = e := (Array.getElem?_eq_some_iff.1 he).2
  by_cases h : i = j
  · subst h; simp [hlt, hxi]
  · simp [h]

theorem run_keyThatStays {old new : Value} (h : ∀ n, Instr.sameBits (n + 1) old new = true) : (Instr.keyThatStays old new).run P w = .ok new w := by
  have : Instr.sameBits 10000 old new = true := h 9999
  simp [Instr.keyThatStays, this]

theorem mMapUpdate_sound (R : Repr C ρ s w) {t : TypeId} {a k v : MV} {x y z : Value} {s' : MS} (hx : VR ρ a x) (hy : VR ρ k y) (hz : VR ρ v z) (h : mMapUpdate P t a k v s = some s') :
    ∃ w', (Instr.mapUpdate t x y z).run P w = .ok () w' ∧ Repr C ρ s' w' := by
  unfold mMapUpdate at h
  split at h
  case h_2 => cases h
  rename_i kt et hp hu
  split at h
  case isFalse => cases h
  rename_i hk
  split at h
  case h_2 => cases h
  rename_i es clock hg
  simp only [Option.bind_eq_bind, Option.bind_eq_some_iff] at h
  obtain ⟨r, hr, h⟩ := h
  obtain ⟨d, hud, hd⟩ := keyOk_inv hk
  simp only [VR] at hx
  obtain ⟨i, hi, rfl⟩ := hx
  obtain ⟨j, b, hj, hb, ⟨xs, rfl, hxs⟩, _⟩ := R.obj _ _ hg
  rw [hi] at hj; cases hj
  rcases findKey_sound hd hy es xs.toList 0 r hxs hr with ⟨rfl, hf⟩ | ⟨j, v1, b, e, rfl, hf, he, hve, hborn, hsame⟩
  · cases h
    refine ⟨_, ?_, R.setMap (clock := clock) (clock' := clock + 1) hg hi (xs' := xs.push { key := y, val := z, born := clock }) (by simpa using hxs.append_one ⟨hy, hz, rfl⟩)⟩
    simp only [Instr.mapUpdate, Sem.run_bind, run_underlying' hu, Result.andThen_ok, run_getObj hb, run_checkKey hk hy, run_findKey hud hf, run_setObj hb]
  · simp only [Nat.zero_add] at h hf
    cases h
    have hxe : xs[j]? = some e := by simpa using he
    refine ⟨_, ?_, R.setMap (clock := clock) (clock' := clock) hg hi (xs' := xs.modify j fun e => { e with key := y, val := z }) (by
      rw [modify_toList xs j _ hxe]
      exact hxs.set ⟨hy, hz, hborn⟩)⟩
    simp only [Instr.mapUpdate, Sem.run_bind, run_underlying' hu, Result.andThen_ok, run_getObj hb, run_checkKey hk hy, run_findKey hud hf, hxe, Option.map_some, Option.getD_some, run_keyThatStays hsame, run_setObj hb]

theorem mMapEntry_sound (R : Repr C ρ s w) {t : TypeId} {a k v : MV} {x y : Value} {s' : MS} (hx : VR ρ a x) (hy : VR ρ k y) (h : mMapEntry P t a k s = some (v, s')) :
    ∃ z w', (Instr.mapEntry t x y).run P w = .ok z w' ∧ VR ρ v z ∧ Repr C ρ s' w' := by
  unfold mMapEntry at h
  split at h
  case h_2 => cases h
  rename_i kt et hp hu
  split at h
  case isFalse => cases h
  rename_i hk
  split at h
  case h_2 => cases h
  rename_i es clock hg
  simp only [Option.bind_eq_bind, Option.bind_eq_some_iff] at h
  obtain ⟨r, hr, h⟩ := h
  obtain ⟨d, hud, hd⟩ := keyOk_inv hk
  simp only [VR] at hx
  obtain ⟨i, hi, rfl⟩ := hx
  obtain ⟨j, b, hj, hb, ⟨xs, rfl, hxs⟩, _⟩ := R.obj _ _ hg
  rw [hi] at hj; cases hj
  rcases findKey_sound hd hy es xs.toList 0 r hxs hr with ⟨rfl, hf⟩ | ⟨j, v1, b, e, rfl, hf, he, hve, hborn, hsame⟩
  · simp only [Option.bind_eq_some_iff] at h
    obtain ⟨zv, hzv, h⟩ := h
    cases h
    obtain ⟨z', hz1, hz2, _⟩ := run_zeroValue' (P := P) (w := w) (ρ := ρ) hzv
    refine ⟨.tuple #[z', goInt clock], _, ?_, by simp only [VR]; exact ⟨_, rfl, .cons hz2 (.cons (by simp [VR, goInt]) .nil)⟩, R.setMap (clock := clock) (clock' := clock + 1) hg hi (xs' := xs.push { key := y, val := z', born := clock }) (by simpa using hxs.append_one ⟨hy, hz2, rfl⟩)⟩
    simp only [Instr.mapEntry, Sem.run_bind, run_underlying' hu, Result.andThen_ok, run_getObj hb, run_checkKey hk hy, run_findKey hud hf, hz1, run_setObj hb, Sem.run_pure]
  · simp only [Nat.zero_add] at h hf
    cases h
    have hxe : xs[j]? = some e := by simpa using he
    refine ⟨.tuple #[e.val, goInt e.born], _, ?_, by simp only [VR]; exact ⟨_, rfl, .cons hve (.cons (by simp [VR, goInt, hborn]) .nil)⟩, R.setMap (clock := clock) (clock' := clock) hg hi (xs' := xs.modify j fun e => { e with key := y }) (by
      rw [modify_toList xs j _ hxe]
      exact hxs.set ⟨hy, hve, hborn⟩)⟩
    simp only [Instr.mapEntry, Sem.run_bind, run_underlying' hu, Result.andThen_ok, run_getObj hb, run_checkKey hk hy, run_findKey hud hf, hxe, Option.map_some, Option.getD_some, run_keyThatStays hsame, run_setObj hb, Sem.run_pure]

theorem findBorn_sound {c : Int} : ∀ (es : List (MV × MV × Nat)) (xs : List MapEntry) (i : Nat) (r : Nat × MV × Nat), ERs ρ es xs → findBorn c es i = some r →
    ∃ j e x, r = (i + j, e.1, e.2.2) ∧ es[j]? = some e ∧ xs[j]? = some x ∧ ER ρ e x ∧ xs.findIdx? (fun e => (e.born : Int) == c) = some j ∧ xs.find? (fun e => (e.born : Int) == c) = some x
  | [], _, _, _, _, h => by simp [findBorn] at h
  | e :: es, xs, i, r, hes, h => by
    obtain ⟨y, ys, rfl, hy, hys⟩ := hes.cons_inv
    obtain ⟨k, v, b⟩ := e
    simp only [findBorn] at h
    have hb : y.born = b := hy.2.2
    split at h
    · rename_i hc
      cases h
      have hc' : ((y.born : Int) == c) = true := by rw [hb]; exact hc
      exact ⟨0, _, y, rfl, by simp, by simp, hy, by rw [List.findIdx?_cons]; simp [hc'], by rw [List.find?_cons]; simp [hc']⟩
    · rename_i hc
      have hc' : ((y.born : Int) == c) = false := by rw [hb]; simpa using hc
      obtain ⟨j, e, x, hr, h1, h2, h3, h4, h5⟩ := findBorn_sound es ys (i + 1) r hys h
      exact ⟨j + 1, e, x, by rw [hr, show i + (j + 1) = i + 1 + j from by omega], by simpa using h1, by simpa using h2, h3, by rw [List.findIdx?_cons]; simp [hc', h4], by rw [List.find?_cons]; simp [hc', h5]⟩

theorem mEntryStore_sound (R : Repr C ρ s w) {t : TypeId} {a k v : MV} {x y z : Value} {s' : MS} (hx : VR ρ a x) (hy : VR ρ k y) (hz : VR ρ v z) (h : mEntryStore a k v s = some s') :
    ∃ w', (Instr.entryStore t x y z).run P w = .ok () w' ∧ Repr C ρ s' w' := by
  unfold mEntryStore at h
  split at h
  case h_2 => cases h
  rename_i hp k0 b
  split at h
  case h_2 => cases h
  rename_i es clock hg
  simp only [Option.bind_eq_bind, Option.bind_eq_some_iff] at h
  obtain ⟨r, hr, h⟩ := h
  simp only [VR] at hx hy; subst hy
  obtain ⟨i, hi, rfl⟩ := hx
  obtain ⟨j, b', hj, hb, ⟨xs, rfl, hxs⟩, _⟩ := R.obj _ _ hg
  rw [hi] at hj; cases hj
  obtain ⟨j, e, x, rfl, h1, h2, h3, h4, _⟩ := findBorn_sound es xs.toList 0 r hxs hr
  simp only [Nat.zero_add] at h
  cases h
  have hxe : xs[j]? = some x := by simpa using h2
  have hf : xs.findIdx? (fun e => (e.born : Int) == b) = some j := by rw [← h4]; cases xs; simp
  refine ⟨_, ?_, R.setMap (clock := clock) (clock' := clock) hg hi (xs' := xs.modify j fun e => { e with val := z }) (by
      rw [modify_toList xs j _ hxe]
      exact hxs.set ⟨h3.1, hz, h3.2.2⟩)⟩
  simp only [Instr.entryStore, Sem.run_bind, run_getObj hb, Result.andThen_ok, asInt, asIntOf, Sem.run_pure, hf, run_setObj hb]

theorem mDelete_sound (R : Repr C ρ s w) {ts : Array TypeId} {ty : TypeId} {a k v : MV} {x y : Value} {s' : MS} (hx : VR ρ a x) (hy : VR ρ k y) (h : mDelete P ts a k s = some (v, s')) :
    ∃ z w', (Builtin.delete_ ts ty #[x, y]).run P w = .ok z w' ∧ VR ρ v z ∧ Repr C ρ s' w' := by
  unfold mDelete at h
  split at h
  · cases h
  rename_i t ht
  split at h
  · rename_i kt et hp hu
    split at h
    case isFalse => cases h
    rename_i hk
    split at h
    case h_2 => cases h
    rename_i es clock hg
    simp only [Option.bind_eq_bind, Option.bind_eq_some_iff] at h
    obtain ⟨r, hr, h⟩ := h
    obtain ⟨d, hud, hd⟩ := keyOk_inv hk
    simp only [VR] at hx
    obtain ⟨i, hi, rfl⟩ := hx
    obtain ⟨j, b, hj, hb, ⟨xs, rfl, hxs⟩, _⟩ := R.obj _ _ hg
    rw [hi] at hj; cases hj
    have hlt := R.lt hg hi
    rcases findKey_sound hd hy es xs.toList 0 r hxs hr with ⟨rfl, hf⟩ | ⟨j, v1, b, e, rfl, hf, he, hve, hborn, hsame⟩
    · cases h
      refine ⟨.tuple #[], { w with heap := w.heap.setIfInBounds i.block (.map xs clock) }, ?_, by simp only [VR]; exact ⟨_, rfl, .nil⟩, ?_⟩
      · simp only [Builtin.delete_, List.getElem?_toArray, List.getElem?_cons_zero, List.getElem?_cons_succ, ht, Sem.run_bind, run_underlying' hu, Result.andThen_ok, run_getObj hb, run_checkKey hk hy, run_findKey hud hf, run_setObj hb, Sem.run_pure]
      · refine R.same ⟨rfl, rfl, rfl, by simp, fun q _ => ?_⟩ (by simp)
        show (w.heap.setIfInBounds i.block (.map xs clock))[q]? = _
        rw [Array.getElem?_setIfInBounds]
        split
        · rename_i hq; subst hq; rw [hb]
        · rfl
    · simp only [Nat.zero_add] at h hf
      cases h
      have hxe : xs[j]? = some e := by simpa using he
      have hjl := (Array.getElem?_eq_some_iff.1 hxe).1
      refine ⟨.tuple #[], _, ?_, by simp only [VR]; exact ⟨_, rfl, .nil⟩, R.setMap (clock := clock) (clock' := clock) hg hi (xs' := xs.eraseIdxIfInBounds j) ?_⟩
      · simp only [Builtin.delete_, List.getElem?_toArray, List.getElem?_cons_zero, List.getElem?_cons_succ, ht, Sem.run_bind, run_underlying' hu, Result.andThen_ok, run_getObj hb, run_checkKey hk hy, run_findKey hud hf, run_setObj hb, Sem.run_pure]
      · have e1 : (xs.eraseIdxIfInBounds j).toList = xs.toList.eraseIdx j := by
          simp [Array.eraseIdxIfInBounds, hjl]
        rw [e1]
        refine ⟨by rw [List.length_eraseIdx, List.length_eraseIdx, hxs.1], fun q u y hu hy => ?_⟩
        rw [List.getElem?_eraseIdx] at hu hy
        split at hu
        · rename_i hq; rw [if_pos hq] at hy; exact hxs.2 q u y hu hy
        · rename_i hq; rw [if_neg hq] at hy; exact hxs.2 (q + 1) u y hu hy
  · rename_i kt et hu
    split at h
    case isFalse => cases h
    rename_i hk
    cases h
    simp only [VR] at hx; subst hx
    refine ⟨.tuple #[], w, ?_, by simp only [VR]; exact ⟨_, rfl, .nil⟩, R⟩
    simp only [Builtin.delete_, List.getElem?_toArray, List.getElem?_cons_zero, List.getElem?_cons_succ, ht, Sem.run_bind, run_underlying' hu, Result.andThen_ok, run_checkKey hk hy, Sem.run_pure]
  · cases h

theorem mRange_sound (R : Repr C ρ s w) {t : TypeId} {a v : MV} {x : Value} {s' : MS} (hx : VR ρ a x) (h : mRange P t a s = some (v, s')) :
    ∃ z w' ρ', (Instr.range t x).run P w = .ok z w' ∧ ρ.le ρ' ∧ VR ρ' v z ∧ Repr C ρ' s' w' := by
  unfold mRange at h
  let i : HI := ⟨w.heap.size, 0, 0, 0⟩
  split at h
  · rename_i kt et hu
    cases h
    simp only [VR] at hx; subst hx
    refine ⟨.pointer (some ⟨w.heap.size, 0, none⟩), _, ρ.put s.next i, ?_, R.le_put i, by simp only [VR]; exact ⟨i, Loc.put_same _ _ _, rfl⟩, R.add (.mapIter none 0 [] 0) (.mapIter none 0 #[] 0) i rfl ⟨none, rfl, rfl, rfl⟩⟩
    simp [Instr.range, run_underlying' hu]
  · rename_i kt et hp hu
    split at h
    case h_2 => cases h
    rename_i es clock hg
    cases h
    simp only [VR] at hx
    obtain ⟨j, hj, rfl⟩ := hx
    obtain ⟨j', b, hj', hb, ⟨xs, rfl, hxs⟩, _⟩ := R.obj _ _ hg
    rw [hj] at hj'; cases hj'
    refine ⟨.pointer (some ⟨w.heap.size, 0, none⟩), _, ρ.put s.next i, ?_, R.le_put i, by simp only [VR]; exact ⟨i, Loc.put_same _ _ _, rfl⟩, R.add (.mapIter (some hp) clock [] clock) (.mapIter (some j.block) clock #[] clock) i rfl ⟨some j.block, rfl, rfl, j, (R.le_put i).1 _ _ hj, rfl⟩⟩
    simp [Instr.range, run_underlying' hu, run_getObj hb]
  · cases h

end
end Go.Mir
