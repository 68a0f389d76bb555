/- The mirror's operations against the machine's: stores, places, parts, slices. -/
import Derived.Test.YtohonlojnflejaaGreatDoorMirOp1
import Derived.Laws.Slices
namespace Go.Mir
open Go.RowKit

section
variable {P : Program} {w : World} {C : Ctx} {ρ : Loc} {s : MS}

theorem bytes_size (b : List UInt8) : (⟨b.toArray⟩ : ByteArray).size = b.length := by show b.toArray.size = _; simp
theorem bytes_get (b : List UInt8) (i : Nat) : (⟨b.toArray⟩ : ByteArray)[i]? = b[i]? := by
  by_cases h : i < b.length
  · have h' : i < (⟨b.toArray⟩ : ByteArray).size := by rw [bytes_size]; exact h
    rw [getElem?_pos (⟨b.toArray⟩ : ByteArray) i h', List.getElem?_eq_getElem h]
    show some (b.toArray[i]) = _
    simp
  · have h' : ¬ i < (⟨b.toArray⟩ : ByteArray).size := by rw [bytes_size]; exact h
    rw [getElem?_neg (⟨b.toArray⟩ : ByteArray) i h', List.getElem?_eq_none (by omega)]

theorem getElem?_splice (cs vs : List MV) (off j : Nat) (h : off + vs.length ≤ cs.length) : (splice cs off vs)[j]? = if off ≤ j ∧ j < off + vs.length then vs[j - off]? else cs[j]? := by
  unfold splice
  by_cases h1 : j < off
  · rw [if_neg (by omega), List.append_assoc, List.getElem?_append_left (by simp; omega), List.getElem?_take, if_pos h1]
  · by_cases h2 : j < off + vs.length
    · rw [if_pos (by omega), List.append_assoc, List.getElem?_append_right (by simp; omega), List.getElem?_append_left (by simp; omega)]
      congr 1; simp; omega
    · rw [if_neg (by omega), List.getElem?_append_right (by simp; omega), List.getElem?_drop]
      congr 1; simp; omega

/-- What a write into a block of the mirror is. -/
theorem MO.write_inv {o o' : MO} {off : Nat} {vs : List MV} (h : o.write off vs = some o') :
    0 < vs.length ∧ vs.all MV.one = true ∧ o.own = true ∧ o'.own = true ∧ ∃ all, off + vs.length ≤ all.length ∧
      ((o = .cells all ∧ o' = .cells (splice all off vs)) ∨ ∃ sz, o = .grow all sz ∧ o' = .grow (splice all off vs) sz) := by
  cases o <;> simp only [MO.write] at h <;> first | (cases h; done) | skip
  all_goals
    split at h
    · rename_i hc
      cases h
      refine ⟨hc.1, hc.2.2, rfl, rfl, _, hc.2.1, ?_⟩
      first | exact .inl ⟨rfl, rfl⟩ | exact .inr ⟨_, rfl, rfl⟩
    · cases h

theorem store_sound (R : Repr C ρ s w) {h : Pos} {i : HI} (hi : ρ h = some i) {off : Nat} {cs : List MV} {s' : MS} (hst : s.store h off cs = some s') {xs : List Value} (hvs : VRs ρ cs xs) :
    ∃ w', (storeCells ⟨i.block, i.off + off, none⟩ xs).run P w = .ok () w' ∧ Repr C ρ s' w' := by
  simp only [MS.store, Option.map_eq_some_iff, Option.bind_eq_some_iff] at hst
  obtain ⟨o', ⟨o, ho, hw⟩, rfl⟩ := hst
  obtain ⟨hpos, hone, hown, hown', all, hle, hcase⟩ := MO.write_inv hw
  obtain ⟨j, b, hj, hb, hor, hN⟩ := R.obj h o ho
  rw [hi] at hj; cases hj
  have hrow : ∃ vs e fr, b = .cells vs e fr ∧ Unfrozen fr vs.size ∧ Cells ρ i.off all vs ∧ (∀ vs' : Array Value, vs'.size = vs.size → Cells ρ i.off (splice all off cs) vs' → OR ρ i o' (.cells vs' e fr)) := by
    rcases hcase with ⟨rfl, rfl⟩ | ⟨sz, rfl, rfl⟩
    · obtain ⟨vs, e, fr, hbe, hu, hc⟩ := hor
      exact ⟨vs, e, fr, hbe, hu, hc, fun vs' hs hc' => ⟨vs', e, fr, rfl, by rw [hs]; exact hu, hc'⟩⟩
    · obtain ⟨vs, e, fr, hbe, hu, hc, h1, h2⟩ := hor
      exact ⟨vs, e, fr, hbe, hu, hc, fun vs' hs hc' => ⟨vs', e, fr, rfl, by rw [hs]; exact hu, hc', h1, by rw [hs]; exact h2⟩⟩
  obtain ⟨vs, e, fr, rfl, hu, hc, hor'⟩ := hrow
  have hsz : i.off + off + 0 + xs.length ≤ vs.size := by
    rw [hvs.length]
    have h2 : (off + cs.length - 1) < all.length := by omega
    obtain ⟨x, hx, _⟩ := hc (off + cs.length - 1) all[off + cs.length - 1] (by simp [h2])
    have := (Array.getElem?_eq_some_iff.1 hx).1
    omega
  have hxs : ∀ v ∈ xs, (∀ a, v ≠ .agg a) ∧ (∀ a, v ≠ .tuple a) := by
    intro v hv
    obtain ⟨k, hk, rfl⟩ := List.getElem_of_mem hv
    have hk' : k < cs.length := by rw [← hvs.length]; exact hk
    exact (hvs.at (i := k) (v := cs[k]) (x := xs[k]) (by simp [hk']) (by simp [hk])).one (List.all_eq_true.1 hone _ (List.getElem_mem hk'))
  obtain ⟨heap', vs', h1, h2, h3, h4, h5, h6⟩ := run_storeCells' (P := P) xs (i.off + off) 0 w vs hb hu hsz hxs
  refine ⟨_, h1, R.upd ho hown hown' hi h2 h3 h4 (hor' vs' h5 fun k v hk => ?_)⟩
  rw [getElem?_splice _ _ _ _ hle] at hk
  rw [h6]
  by_cases hin : off ≤ k ∧ k < off + cs.length
  · rw [if_pos hin] at hk
    obtain ⟨x, hx, hr⟩ := hvs.get hk
    refine ⟨x, ?_, hr⟩
    rw [if_pos (by rw [hvs.length]; omega)]
    rw [show i.off + k - (i.off + off + 0) = k - off from by omega]; exact hx
  · rw [if_neg hin] at hk
    obtain ⟨x, hx, hr⟩ := hc k v hk
    refine ⟨x, ?_, hr⟩
    rw [if_neg (by rw [hvs.length]; omega)]
    exact hx

theorem MS.store_of_write1 {h : Pos} {b b' : MO} {off : Nat} {v : MV} (hg : s.get h = some b) (hw : b.write1 off v = some b') (hv : v.one = true) : s.store h off [v] = some (s.put h b') := by
  have key : b.write off [v] = some b' := by
    cases b <;> simp only [MO.write1] at hw <;> first | (cases hw; done) | skip
    all_goals
      split at hw
      · rename_i hlt
        cases hw
        simp only [MO.write]
        rw [if_pos ⟨by simp, by simp; omega, by simp [hv]⟩]
        unfold splice
        rw [List.set_eq_take_append_cons_drop, if_pos hlt]
        simp
      · cases hw
  simp [MS.store, hg, key]

theorem run_storeVar {t : TypeId} {a : Addr} {y : Value} (hsz : sizeT P t = some y.cells.size) : (storeVar t a y).run P w = (storeCells a y.cells.toList).run P w := by
  simp [storeVar, run_sizeOf' hsz]

theorem mStore_sound (R : Repr C ρ s w) {t : TypeId} {a v : MV} {x y : Value} (hx : VR ρ a x) (hy : VR ρ v y) {s' : MS} (h : mStore P t a v s = some s') :
    ∃ w', (Instr.storeAt t x y).run P w = .ok () w' ∧ Repr C ρ s' w' := by
  cases a <;> simp only [mStore] at h <;> first | (cases h; done) | skip
  rename_i hp off
  simp only [VR] at hx
  obtain ⟨i, hi, rfl⟩ := hx
  have fin : ∀ n, sizeT P t = some n → v.cells.length = n → s.store hp off v.cells = some s' → ∃ w', (Instr.storeAt t (.pointer (some ⟨i.block, i.off + off, none⟩)) y).run P w = .ok () w' ∧ Repr C ρ s' w' := by
    intro n hn hl hst
    obtain ⟨w', h1, h2⟩ := store_sound (P := P) R hi hst hy.cells
    refine ⟨w', ?_, h2⟩
    simp only [Instr.storeAt, Instr.sureAddr, Sem.run_bind, Sem.run_pure, Result.andThen_ok]
    rw [run_storeVar (by rw [hn, ← hl, ← hy.cells.length]; simp)]
    exact h1
  have one : v.one = true → v.cells = [v] → (match sizeT P t, s.get hp with
      | some 1, some b => (b.write1 off v).map (s.put hp ·)
      | _, _ => none) = some s' → ∃ w', (Instr.storeAt t (.pointer (some ⟨i.block, i.off + off, none⟩)) y).run P w = .ok () w' ∧ Repr C ρ s' w' := by
    intro hv hcs hh
    split at hh
    · rename_i b hn hg
      simp only [Option.map_eq_some_iff] at hh
      obtain ⟨b', hb', rfl⟩ := hh
      exact fin 1 hn (by simp [hcs]) (by rw [hcs]; exact MS.store_of_write1 hg hb' hv)
    · cases hh
  cases v <;> first | exact one rfl rfl h | skip
  · simp only at h
    split at h
    · cases h
    · rename_i n hn
      split at h
      · rename_i hl; exact fin n hn hl h
      · cases h
  · cases h

/-- Places. -/
theorem mFieldAddr_sound {t : TypeId} {a v : MV} {x : Value} {f : Nat} (hx : VR ρ a x) (h : mFieldAddr P t a f = some v) :
    ∃ y, (Instr.fieldAt t x f).run P w = .ok y w ∧ VR ρ v y := by
  unfold mFieldAddr at h
  split at h
  · rename_i fs hp off hu
    simp only [VR] at hx
    obtain ⟨i, hi, rfl⟩ := hx
    split at h
    · cases h
    · rename_i fl hf
      split at h
      · rename_i n hn
        cases h
        refine ⟨.pointer (some ⟨i.block, i.off + (off + fl.offset), none⟩), ?_, by simp only [VR]; exact ⟨i, hi, rfl⟩⟩
        simp only [Instr.fieldAt, Sem.run_bind, run_underlying' hu, Result.andThen_ok, hf, Instr.sureAddr, Sem.run_pure, fieldPlace, run_sizeOf' hn]
        simp [Addr.add_lit, Nat.add_assoc]
      · cases h
  · cases h

theorem mPart_sound {t : TypeId} {cs : List MV} {off : Nat} {v : MV} {xs : Array Value} (hx : VRs ρ cs xs.toList) (h : mPart P t cs off = some v) :
    ∃ y, (part t xs off).run P w = .ok y w ∧ VR ρ v y := by
  simp only [mPart, Option.bind_eq_bind, Option.bind_eq_some_iff] at h
  obtain ⟨b, hb, h⟩ := h
  cases b
  · simp only [Bool.false_eq_true, if_false] at h
    obtain ⟨x, hx', hv⟩ := hx.get h
    refine ⟨x, ?_, hv⟩
    have : xs[off]? = some x := by simpa using hx'
    simp [part, run_isAgg' hb, this]
  · simp only [if_true, Option.bind_eq_some_iff] at h
    obtain ⟨n, hn, h⟩ := h
    cases h
    refine ⟨.agg (xs.extract off (off + n)), ?_, by
      simp only [VR]
      refine ⟨_, rfl, ?_⟩
      have := (hx.take (n := off + n)).drop (n := off)
      rw [List.drop_take (l := xs.toList), show off + n - off = n from by omega] at this
      simpa using this⟩
    simp [part, run_isAgg' hb, run_sizeOf' hn]

theorem mField_sound {t : TypeId} {a v : MV} {x : Value} {f : Nat} (hx : VR ρ a x) (h : mField P t a f = some v) :
    ∃ y, (Instr.field t x f).run P w = .ok y w ∧ VR ρ v y := by
  unfold mField at h
  split at h
  · rename_i fs cs hu
    simp only [VR] at hx
    obtain ⟨xs, rfl, hxs⟩ := hx
    simp only [Option.bind_eq_bind, Option.bind_eq_some_iff] at h
    obtain ⟨fl, hf, h⟩ := h
    obtain ⟨y, hy, hv⟩ := mPart_sound (P := P) (w := w) hxs h
    exact ⟨y, by simp [Instr.field, run_underlying' hu, hf, asAgg, hy], hv⟩
  · cases h


theorem mIndexAddr_sound (R : Repr C ρ s w) {t : TypeId} {a i v : MV} {x y : Value} (hx : VR ρ a x) (hy : VR ρ i y) (h : mIndexAddr P t a i s = some v) :
    ∃ z, (Instr.indexAt t x y).run P w = .ok z w ∧ VR ρ v z := by
  unfold mIndexAddr at h
  split at h
  case h_2 => cases h
  rename_i k n
  simp only [VR] at hy; subst hy
  split at h
  · rename_i len e hp off hu
    simp only [Option.bind_eq_bind] at h
    split at h
    · rename_i hb
      simp only [Option.bind_eq_some_iff] at h
      obtain ⟨sz, hsz, h⟩ := h
      cases h
      simp only [VR] at hx
      obtain ⟨j, hj, rfl⟩ := hx
      refine ⟨.pointer (some ⟨j.block, j.off + (off + n.toNat * sz), none⟩), ?_, by simp only [VR]; exact ⟨j, hj, rfl⟩⟩
      simp only [Instr.indexAt, asIntOf, Sem.run_bind, Sem.run_pure, Result.andThen_ok, run_underlying' hu, Instr.sureAddr]
      simp [hb, run_sizeOf' hsz, Addr.add_lit, Nat.add_assoc]
    · cases h
  · rename_i e hp off len cap hu
    simp only [Option.bind_eq_bind] at h
    split at h
    · rename_i hb
      simp only [Option.bind_eq_some_iff] at h
      obtain ⟨sz, hsz, h⟩ := h
      cases h
      simp only [VR] at hx
      obtain ⟨j, hj, rfl, _⟩ := hx
      refine ⟨.pointer (some ⟨j.block, j.off + (off + n.toNat * sz), none⟩), ?_, by simp only [VR]; exact ⟨j, hj, rfl⟩⟩
      simp only [Instr.indexAt, asIntOf, Sem.run_bind, Sem.run_pure, Result.andThen_ok, run_underlying' hu, Instr.sureAddr]
      simp [hb, run_sizeOf' hsz, Addr.add_lit, Nat.add_assoc]
    · cases h
  · rename_i e hp eo len hu
    simp only [Option.bind_eq_bind, Option.bind_eq_some_iff] at h
    obtain ⟨o, ho, h⟩ := h
    split at h
    case h_2 => cases h
    rename_i cs sz
    simp only [Option.bind_eq_some_iff] at h
    obtain ⟨n', hn', h⟩ := h
    split at h
    · rename_i hb
      obtain ⟨h0, h1, rfl⟩ := hb
      cases h
      obtain ⟨j, b, hj, _, hor, _⟩ := R.obj _ _ ho
      obtain ⟨vs, e', fr, _, _, _, hsz, _⟩ := hor
      simp only [VR] at hx
      obtain ⟨j', hj', hx⟩ := hx
      rw [hj] at hj'; cases hj'
      have hx' : ∃ c, x = .slice (some ⟨j.block, j.off + eo * j.sz, none⟩) len c := by
        rcases hx with ⟨c, hx, _, _⟩ | ⟨hl, o, hx⟩
        · exact ⟨c, hx⟩
        · subst hl; omega
      obtain ⟨c, rfl⟩ := hx'
      refine ⟨.pointer (some ⟨j.block, j.off + ((eo + n.toNat) * n'), none⟩), ?_, by simp only [VR]; exact ⟨j, hj, rfl⟩⟩
      simp only [Instr.indexAt, asIntOf, Sem.run_bind, Sem.run_pure, Result.andThen_ok, run_underlying' hu, Instr.sureAddr]
      simp [h0, h1, run_sizeOf' hn', Addr.add_lit, Nat.add_mul, Nat.add_assoc, hsz]
    · cases h
  · cases h

theorem mIndex_sound {t : TypeId} {a i v : MV} {x y : Value} (hx : VR ρ a x) (hy : VR ρ i y) (h : mIndex P t a i = some v) :
    ∃ z, (Instr.index t x y).run P w = .ok z w ∧ VR ρ v z := by
  unfold mIndex at h
  split at h
  case h_2 => cases h
  rename_i k n
  simp only [VR] at hy; subst hy
  split at h
  · rename_i len e cs hu
    simp only [Option.bind_eq_bind] at h
    split at h
    · rename_i hb
      simp only [Option.bind_eq_some_iff] at h
      obtain ⟨sz, hsz, h⟩ := h
      simp only [VR] at hx
      obtain ⟨xs, rfl, hxs⟩ := hx
      obtain ⟨z, hz, hv⟩ := mPart_sound (P := P) (w := w) hxs h
      refine ⟨z, ?_, hv⟩
      simp only [Instr.index, asIntOf, Sem.run_bind, Sem.run_pure, Result.andThen_ok, run_underlying' hu]
      simp [hb, run_sizeOf' hsz, hz]
    · cases h
  · rename_i b hu
    simp only [VR] at hx; subst hx
    split at h
    · rename_i h0
      simp only [Option.map_eq_some_iff] at h
      obtain ⟨c, hc, rfl⟩ := h
      refine ⟨.int .u8 (c.toNat : Int), ?_, by simp [VR]⟩
      have hc' : (⟨b.toArray⟩ : ByteArray)[n.toNat]? = some c := by
        rw [← hc]
        exact bytes_get b n.toNat
      simp only [Instr.index, asIntOf, Sem.run_bind, Sem.run_pure, Result.andThen_ok, run_underlying' hu]
      simp [h0, hc']
    · cases h
  · cases h

end
end Go.Mir
