/- The mirror's operations on memory against the machine's. -/
import Derived.Test.YtohonlojnflejaaGreatDoorMirSt
import Derived.Laws.Entries
namespace Go.Mir
open Go.RowKit

section
variable {P : Program} {w : World}

theorem run_underlying' {t : TypeId} {d : TypeDesc} (h : P.underlying t = some d) : (underlying t).run P w = .ok d w := by
  simp [underlying, h]
theorem run_typeInfo' {t : TypeId} {d : TypeInfo} (h : P.info? t = some d) : (typeInfo t).run P w = .ok d w := by
  simp [typeInfo, h]
theorem run_sizeOf' {t : TypeId} {n : Nat} (h : sizeT P t = some n) : (sizeOf t).run P w = .ok n w := by
  simp only [sizeT, Option.map_eq_some_iff] at h
  obtain ⟨i, hi, rfl⟩ := h
  simp [sizeOf, run_typeInfo' hi]
theorem run_isAgg' {t : TypeId} {b : Bool} (h : isAggT P t = some b) : (isAgg t).run P w = .ok b w := by
  unfold isAggT at h
  cases hu : P.underlying t with
  | none => simp [hu] at h
  | some d => cases d <;> simp [hu] at h <;> subst h <;> simp [isAgg, run_underlying' hu]
theorem run_zeroValue' {ρ : Loc} {t : TypeId} {v : MV} (h : zeroT P t = some v) : ∃ x, (zeroValue t).run P w = .ok x w ∧ VR ρ v x ∧ (P.info? t).bind (·.zero) = some x := by
  simp only [zeroT, Option.bind_eq_some_iff] at h
  obtain ⟨x, ⟨i, hi, hz⟩, hv⟩ := h
  exact ⟨x, by simp [zeroValue, run_typeInfo' hi, hz], ofValue_VR _ _ _ hv, by simp [hi, hz]⟩

theorem cell_of {b : Nat} {o : Nat} {vs : Array Value} {e : TypeId} {fr : Nat × Nat} (h : w.heap[b]? = some (.cells vs e fr)) : w.cell? ⟨b, o, none⟩ = vs[o]? := by
  simp [World.cell?, h]

theorem frozen_of {b : Nat} {o : Nat} {vs : Array Value} {e : TypeId} {fr : Nat × Nat} (h : w.heap[b]? = some (.cells vs e fr)) : w.frozen? ⟨b, o, none⟩ = (decide (fr.1 ≤ o) && decide (o < fr.2)) := by
  simp [World.frozen?, h]

/-- The cells that a block of the mirror reads lie in the machine's. -/
theorem OR.row {ρ : Loc} {i : HI} {o : MO} {b : Obj} (h : OR ρ i o b) {off n : Nat} {cs : List MV} (hr : o.read off n = some cs) :
    ∃ vs e fr, b = .cells vs e fr ∧ cs.length = n ∧ Cells ρ (i.off + off) cs vs := by
  have key : ∀ (all : List MV) (vs : Array Value), Cells ρ i.off all vs → (if off + n ≤ all.length then some ((all.drop off).take n) else none) = some cs → cs.length = n ∧ Cells ρ (i.off + off) cs vs := by
    intro all vs hc hif
    split at hif
    · cases hif
      refine ⟨by simp; omega, fun k v hk => ?_⟩
      rw [List.getElem?_take] at hk
      split at hk
      · rw [List.getElem?_drop] at hk
        obtain ⟨x, hx, hv⟩ := hc _ v hk
        exact ⟨x, by rw [Nat.add_assoc]; exact hx, hv⟩
      · cases hk
    · cases hif
  cases o with
  | cells all => obtain ⟨vs, e, fr, hb, _, hc⟩ := h; exact ⟨vs, e, fr, hb, key all vs hc hr⟩
  | ro all => obtain ⟨vs, e, fr, hb, hc⟩ := h; exact ⟨vs, e, fr, hb, key all vs hc hr⟩
  | grow all sz => obtain ⟨vs, e, fr, hb, _, hc, _⟩ := h; exact ⟨vs, e, fr, hb, key all vs hc hr⟩
  | map => simp [MO.read] at hr
  | mapIter => simp [MO.read] at hr

theorem MO.read_of_read1 {o : MO} {off : Nat} {v : MV} (h : o.read1 off = some v) : o.read off 1 = some [v] := by
  have key : ∀ all : List MV, all[off]? = some v → (if off + 1 ≤ all.length then some ((all.drop off).take 1) else none) = some [v] := by
    intro all ha
    have hlt := (List.getElem?_eq_some_iff.1 ha).1
    rw [if_pos (by omega), List.take_one, List.head?_drop, ha]; rfl
  cases o <;> simp only [MO.read1, MO.read] at h ⊢ <;> first | exact key _ h | cases h

/-- Cells that are read: the machine reads them. -/
theorem cells_run {ρ : Loc} {b off : Nat} {vs : Array Value} {e : TypeId} {fr : Nat × Nat} (hb : w.heap[b]? = some (.cells vs e fr)) {cs : List MV} (hc : Cells ρ off cs vs) :
    ∃ xs, VRs ρ cs xs ∧ (loadCells ⟨b, off, none⟩ cs.length).run P w = .ok xs.toArray w ∧ ∀ j v, xs[j]? = some v → vs[off + j]? = some v := by
  have hex : ∃ xs : List Value, VRs ρ cs xs ∧ ∀ (j : Nat) (v : Value), xs[j]? = some v → vs[off + j]? = some v := by
    clear hb
    induction cs generalizing off with
    | nil => exact ⟨[], .nil, fun j v h => by simp at h⟩
    | cons c cs ih =>
      obtain ⟨x, hx, hv⟩ := hc 0 c (by simp)
      obtain ⟨xs, h1, h2⟩ := ih (off := off + 1) (fun k v hk => by
        obtain ⟨y, hy, hr⟩ := hc (k + 1) v (by simpa using hk)
        exact ⟨y, by rw [show off + 1 + k = off + (k + 1) from by omega]; exact hy, hr⟩)
      refine ⟨x :: xs, .cons hv h1, fun j v hj => ?_⟩
      cases j with
      | zero => simp at hj; subst hj; exact hx
      | succ j => rw [show off + (j + 1) = off + 1 + j from by omega]; exact h2 j v (by simpa using hj)
  obtain ⟨xs, h1, h2⟩ := hex
  refine ⟨xs, h1, ?_, h2⟩
  rw [← h1.length]
  refine run_loadCells_list (cs := xs) (h := fun j v hj => ?_)
  rw [Addr.add_lit, cell_of hb]
  exact h2 j v hj

theorem load_sound {C : Ctx} {ρ : Loc} {s : MS} (R : Repr C ρ s w) {h : Pos} {off n : Nat} {cs : List MV} (hl : s.load h off n = some cs) :
    ∃ i xs, ρ h = some i ∧ cs.length = n ∧ VRs ρ cs xs ∧ (loadCells ⟨i.block, i.off + off, none⟩ n).run P w = .ok xs.toArray w := by
  simp only [MS.load, Option.bind_eq_some_iff] at hl
  obtain ⟨o, ho, hr⟩ := hl
  obtain ⟨i, b, hi, hb, hor, _⟩ := R.obj h o ho
  obtain ⟨vs, e, fr, rfl, hlen, hc⟩ := hor.row hr
  obtain ⟨xs, h1, h2, _⟩ := cells_run (P := P) hb hc
  exact ⟨i, xs, hi, hlen, h1, by rw [← hlen]; exact h2⟩

theorem run_load_cell {b o : Nat} {vs : Array Value} {e : TypeId} {fr : Nat × Nat} {x : Value} (hb : w.heap[b]? = some (.cells vs e fr)) (hx : vs[o]? = some x) : (load ⟨b, o, none⟩).run P w = .ok x w := by
  have hc : w.cell? ⟨b, o, none⟩ = some x := by rw [cell_of hb]; exact hx
  simp [load, Sem.run, hc]

theorem mLoad_sound {C : Ctx} {ρ : Loc} {s : MS} (R : Repr C ρ s w) {t : TypeId} {a v : MV} {x : Value} (hx : VR ρ a x) (h : mLoad P t a s = some v) :
    ∃ y, (Instr.loadAt t x).run P w = .ok y w ∧ VR ρ v y := by
  cases a <;> simp only [mLoad] at h <;> first | (cases h; done) | skip
  rename_i hp off
  simp only [VR] at hx
  obtain ⟨i, hi, rfl⟩ := hx
  split at h
  · cases h
  rename_i o ho
  obtain ⟨j, b, hj, hb, hor, _⟩ := R.obj _ _ ho
  rw [hi] at hj; cases hj
  split at h
  · cases h
  · rename_i hag
    obtain ⟨vs, e, fr, rfl, hlen, hc⟩ := hor.row (MO.read_of_read1 h)
    obtain ⟨y, hy, hv⟩ := hc 0 v (by simp)
    refine ⟨y, ?_, hv⟩
    simp only [Instr.loadAt, Instr.sureAddr, Sem.run_bind, Sem.run_pure, Result.andThen_ok, loadVar, run_isAgg' hag]
    simp only [Bool.false_eq_true, if_false]
    exact run_load_cell hb hy
  · rename_i hag
    simp only [Option.bind_eq_some_iff, Option.map_eq_some_iff] at h
    obtain ⟨n, hn, cs, hcs, rfl⟩ := h
    obtain ⟨vs, e, fr, rfl, hlen, hc⟩ := hor.row hcs
    obtain ⟨xs, h1, h2, _⟩ := cells_run (P := P) hb hc
    refine ⟨.agg xs.toArray, ?_, by simp only [VR]; exact ⟨_, rfl, h1⟩⟩
    rw [hlen] at h2
    simp [Instr.loadAt, Instr.sureAddr, loadVar, run_isAgg' hag, run_sizeOf' hn, h2]

/-- Stores, one behind the other. -/
theorem run_storeCells' {b e : Nat} {fr : Nat × Nat} : ∀ (l : List Value) (o k : Nat) (w : World) (vs : Array Value), w.heap[b]? = some (.cells vs e fr) → Unfrozen fr vs.size → o + k + l.length ≤ vs.size →
    (∀ v ∈ l, (∀ a, v ≠ .agg a) ∧ (∀ a, v ≠ .tuple a)) →
    ∃ (heap' : Array Obj) (vs' : Array Value), (storeCells ⟨b, o, none⟩ l k).run P w = .ok () { w with heap := heap' } ∧ heap'.size = w.heap.size ∧ (∀ j, j ≠ b → heap'[j]? = w.heap[j]?) ∧
      heap'[b]? = some (.cells vs' e fr) ∧ vs'.size = vs.size ∧ ∀ (j : Nat), vs'[j]? = if o + k ≤ j ∧ j < o + k + l.length then l[j - (o + k)]? else vs[j]?
  | [], o, k, w, vs, hb, _, _, _ => ⟨w.heap, vs, rfl, rfl, fun _ _ => rfl, hb, rfl, fun j => by rw [if_neg (by simp only [List.length_nil]; omega)]⟩
  | v :: l, o, k, w, vs, hb, hu, hle, hone => by
    simp only [List.length_cons] at hle
    have hlt : o + k < vs.size := by omega
    have hc : w.cell? ⟨b, o + k, none⟩ = some vs[o + k] := by rw [cell_of hb]; simp [hlt]
    have hf : w.frozen? ⟨b, o + k, none⟩ = false := by rw [frozen_of hb]; exact hu _ hlt
    obtain ⟨hv1, hv2⟩ := hone v (by simp)
    have hb' : (w.setCell ⟨b, o + k, none⟩ v).heap[b]? = some (.cells (vs.setIfInBounds (o + k) v) e fr) := by
      simp [World.setCell, Array.getElem?_modify, hb]
    have hs1 : (store ⟨b, o + k, none⟩ v).run P w = .ok () (w.setCell ⟨b, o + k, none⟩ v) := by
      cases v <;> first | (exact absurd rfl (hv1 _)) | (exact absurd rfl (hv2 _)) | simp [store, Sem.run, hc, hf]
    obtain ⟨heap', vs', h1, h2, h3, h4, h5, h6⟩ := run_storeCells' l o (k + 1) (w.setCell ⟨b, o + k, none⟩ v) (vs.setIfInBounds (o + k) v) hb' (by simpa using hu) (by simp only [Array.size_setIfInBounds]; omega) (fun u hu => hone u (by simp [hu]))
    refine ⟨heap', vs', ?_, by rw [h2]; simp [World.setCell], ?_, h4, by rw [h5]; simp, ?_⟩
    · simp only [storeCells, Sem.run_bind]
      rw [Addr.add_lit, hs1]
      simp only [Result.andThen_ok]
      rw [h1]; rfl
    · intro j hj
      rw [h3 j hj]
      simp only [World.setCell, Array.getElem?_modify]
      rw [if_neg (fun e => hj e.symm)]
    · intro j
      rw [h6 j]
      by_cases h0 : j = o + k
      · subst h0
        rw [if_neg (by omega), if_pos (by simp)]
        simp [hlt]
      · by_cases h1 : o + (k + 1) ≤ j ∧ j < o + (k + 1) + l.length
        · rw [if_pos h1, if_pos (by simp only [List.length_cons]; omega)]
          rw [show j - (o + k) = (j - (o + (k + 1))) + 1 from by omega]; simp
        · rw [if_neg h1, if_neg (by simp only [List.length_cons]; omega)]
          rw [Array.getElem?_setIfInBounds, if_neg (fun e => h0 e.symm)]

end
end Go.Mir
