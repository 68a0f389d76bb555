/- The mirror's operations against the machine's: what is built, new rows, copies. -/
import Derived.Test.YtohonlojnflejaaGreatDoorMirOp5
import Derived.Laws.Tables
namespace Go.Mir
open Go.RowKit

section
variable {P : Program} {w : World} {C : Ctx} {ρ : Loc} {s : MS}

theorem foldl_set (off : Nat) : ∀ (l : List Value) (j : Nat) (cs : Array Value) (k : Nat), off + j + l.length ≤ cs.size →
    ((l.zipIdx j).foldl (fun (cs : Array Value) (p : Value × Nat) => cs.setIfInBounds (off + p.2) p.1) cs)[k]? = (if off + j ≤ k ∧ k < off + j + l.length then l[k - (off + j)]? else cs[k]?) ∧
    ((l.zipIdx j).foldl (fun (cs : Array Value) (p : Value × Nat) => cs.setIfInBounds (off + p.2) p.1) cs).size = cs.size
  | [], j, cs, k, _ => by
    simp only [List.zipIdx_nil, List.foldl_nil, List.length_nil]
    exact ⟨by rw [if_neg (by omega)], trivial⟩
  | v :: l, j, cs, k, h => by
    simp only [List.length_cons] at h
    simp only [List.zipIdx_cons, List.foldl_cons, List.length_cons]
    obtain ⟨h1, h2⟩ := foldl_set off l (j + 1) (cs.setIfInBounds (off + j) v) k (by simp only [Array.size_setIfInBounds]; omega)
    refine ⟨?_, by rw [h2]; simp⟩
    rw [h1]
    by_cases e : k = off + j
    · subst e
      rw [if_neg (by omega), if_pos (by omega)]
      rw [show off + j - (off + j) = 0 from by omega, Array.getElem?_setIfInBounds, if_pos rfl, if_pos (by omega)]; rfl
    · by_cases hin : off + (j + 1) ≤ k ∧ k < off + (j + 1) + l.length
      · rw [if_pos hin, if_pos (by omega), show k - (off + j) = (k - (off + (j + 1))) + 1 from by omega]; rfl
      · rw [if_neg hin, if_neg (by omega), Array.getElem?_setIfInBounds, if_neg (fun h => e h.symm)]

theorem fill_step (off : Nat) (v cells : Array Value) (h : off + v.size ≤ cells.size) :
    ∀ k, (v.zipIdx.foldl (fun (cs : Array Value) (p : Value × Nat) => cs.setIfInBounds (off + p.2) p.1) cells)[k]? = (if off ≤ k ∧ k < off + v.size then v[k - off]? else cells[k]?) := by
  intro k
  have := (foldl_set off v.toList 0 cells k (by simpa using h)).1
  simp only [Nat.add_zero, Array.length_toList, Array.getElem?_toList] at this
  rw [← this, ← Array.foldl_toList]
  congr 2
  simp

/-- Parts, each with its place. -/
def PRs (ρ : Loc) : List (Nat × MV) → List (Nat × Value) → Prop
  | [], ys => ys = []
  | p :: ps, ys => ∃ q qs, ys = q :: qs ∧ q.1 = p.1 ∧ VR ρ p.2 q.2 ∧ PRs ρ ps qs

theorem fill_sound {place : Nat → Option (Nat × Nat)} : ∀ (ps : List (Nat × MV)) (qs : List (Nat × Value)) (cs : List MV) (vs : Array Value) (r : List MV), PRs ρ ps qs → VRs ρ cs vs.toList → fillM place cs ps = some r →
    ∃ r', Instr.fill place vs qs = some r' ∧ VRs ρ r r'.toList
  | [], qs, cs, vs, r, hp, hc, h => by
    simp only [PRs] at hp; subst hp
    simp only [fillM] at h; cases h
    exact ⟨vs, rfl, hc⟩
  | (i, v) :: ps, qs, cs, vs, r, hp, hc, h => by
    simp only [PRs] at hp
    obtain ⟨⟨i', x⟩, qs, rfl, hi, hv, hps⟩ := hp
    simp only at hi hv; subst hi
    simp only [fillM] at h
    split at h
    · cases h
    rename_i off size hpl
    split at h
    case isFalse => cases h
    rename_i hb
    obtain ⟨hb1, hb2⟩ := hb
    have hxs : x.cells.size = size := by rw [← hb1, ← hv.cells.length]; simp
    have hvs : vs.size = cs.length := by rw [← hc.length]; simp
    simp only [Instr.fill, hpl]
    rw [if_neg (by simp [hxs, hvs]; omega)]
    refine fill_sound ps qs _ _ r hps ?_ h
    refine .of_get ?_ fun k u y hu hy => ?_
    · rw [show (splice cs off v.cells).length = cs.length by simp [splice]; omega]
      rw [← Array.foldl_toList, Array.length_toList]
      rw [← hvs]
      have := (foldl_set off x.cells.toList 0 vs 0 (by simp; omega)).2
      rw [← this]
      congr 2; simp
    · rw [getElem?_splice _ _ _ _ (by omega)] at hu
      rw [Array.getElem?_toList] at hy
      have hst := fill_step off x.cells vs (by omega) k
      rw [show (Array.foldl (fun cs (x : Value × Nat) => match x with | (c, j) => cs.setIfInBounds (off + j) c) vs x.cells.zipIdx) = (Array.foldl (fun (cs : Array Value) (p : Value × Nat) => cs.setIfInBounds (off + p.2) p.1) vs x.cells.zipIdx) from rfl] at hy
      rw [hst] at hy
      by_cases hin : off ≤ k ∧ k < off + v.cells.length
      · rw [if_pos hin] at hu
        rw [if_pos (by omega), ← Array.getElem?_toList] at hy
        exact hv.cells.at hu hy
      · rw [if_neg hin] at hu
        rw [if_neg (by omega), ← Array.getElem?_toList] at hy
        exact hc.at hu hy

theorem placesM_mapM : ∀ (fs : List Field) (places : List (Nat × Nat)), placesM P fs = some places → fs.mapM (fun f => (P.info? f.type).map fun i => (f.offset, i.size)) = some places
  | [], places, h => by simp only [placesM] at h; cases h; rfl
  | f :: fs, places, h => by
    simp only [placesM] at h
    split at h
    · cases h
    rename_i n hn
    split at h
    · cases h
    rename_i l hl
    cases h
    simp only [sizeT, Option.map_eq_some_iff] at hn
    obtain ⟨i, hi, rfl⟩ := hn
    simp [List.mapM_cons, hi, placesM_mapM fs l hl]

theorem mBuild_sound {t : TypeId} {ps : List (Nat × MV)} {qs : Array (Nat × Value)} {v : MV} (hp : PRs ρ ps qs.toList) (h : mBuild P t ps = some v) :
    ∃ y, (Instr.build t qs).run P w = .ok y w ∧ VR ρ v y := by
  simp only [mBuild, Option.bind_eq_bind, Option.bind_eq_some_iff] at h
  obtain ⟨z, hz, h⟩ := h
  obtain ⟨z', _, hzr, hzi⟩ := run_zeroValue' (P := P) (w := w) (ρ := ρ) hz
  simp only [Option.bind_eq_some_iff] at hzi
  obtain ⟨it, hit, hzi⟩ := hzi
  split at h
  · rename_i fs hu
    simp only [Option.bind_eq_some_iff] at h
    obtain ⟨places, hpl, r, hr, h⟩ := h
    cases h
    obtain ⟨r', hr', hrr⟩ := fill_sound ps qs.toList _ z'.cells r hp hzr.cells hr
    refine ⟨.agg r', run_build w t qs r' ?_, by simp only [VR]; exact ⟨_, rfl, hrr⟩⟩
    have hm := placesM_mapM (P := P) fs.toList places hpl
    simp only [Program.built, hit, hu, hzi, hm]
    rw [← hr']
    congr 1
    funext i; simp
  · rename_i len e hu
    simp only [Option.bind_eq_some_iff] at h
    obtain ⟨sz, hsz, r, hr, h⟩ := h
    cases h
    obtain ⟨r', hr', hrr⟩ := fill_sound ps qs.toList _ z'.cells r hp hzr.cells hr
    refine ⟨.agg r', run_build w t qs r' ?_, by simp only [VR]; exact ⟨_, rfl, hrr⟩⟩
    simp only [sizeT, Option.map_eq_some_iff] at hsz
    obtain ⟨ie, hie, rfl⟩ := hsz
    simp only [Program.built, hit, hu, hzi, hie]
    exact hr'
  · cases h

/-- A new block of cells. -/
theorem new_cells (R : Repr C ρ s w) {cs : List MV} {xs : Array Value} (h : VRs ρ cs xs.toList) (e : TypeId) :
    ∃ ρ', ρ.le ρ' ∧ ρ' s.next = some ⟨w.heap.size, 0, 0, 0⟩ ∧ Repr C ρ' (s.add (.cells cs)) { w with heap := w.heap.push (.cells xs e) } := by
  let i : HI := ⟨w.heap.size, 0, 0, 0⟩
  refine ⟨ρ.put s.next i, R.le_put i, Loc.put_same _ _ _, R.add _ _ i rfl ⟨xs, e, (0, 0), rfl, Unfrozen.zero _, fun k v hk => ?_⟩⟩
  obtain ⟨x, hx, hr⟩ := h.get hk
  exact ⟨x, by simpa [i] using hx, hr.mono (R.le_put i)⟩

theorem mAlloc_sound (R : Repr C ρ s w) {e : TypeId} {z : MV} (hz : zeroT P e = some z) :
    ∃ y w' ρ', (Instr.alloc e true (.tuple #[])).run P w = .ok y w' ∧ ρ.le ρ' ∧ VR ρ' (.ptr s.next 0) y ∧ Repr C ρ' (s.add (.cells z.cells)) w' := by
  obtain ⟨z', hrun, hzr, _⟩ := run_zeroValue' (P := P) (w := w) (ρ := ρ) hz
  obtain ⟨ρ', h1, h2, h3⟩ := new_cells R hzr.cells e
  refine ⟨.pointer (some ⟨w.heap.size, 0, none⟩), _, ρ', ?_, h1, by simp only [VR]; exact ⟨_, h2, rfl⟩, h3⟩
  simp [Instr.alloc, hrun, newVar, newRow]

theorem mBox_sound (R : Repr C ρ s w) {e : TypeId} {v : MV} {x : Value} (hx : VR ρ v x) :
    ∃ y w' ρ', (Instr.box e x).run P w = .ok y w' ∧ ρ.le ρ' ∧ VR ρ' (.ptr s.next 0) y ∧ Repr C ρ' (s.add (.cells v.cells)) w' := by
  obtain ⟨ρ', h1, h2, h3⟩ := new_cells R hx.cells e
  refine ⟨.pointer (some ⟨w.heap.size, 0, none⟩), _, ρ', ?_, h1, by simp only [VR]; exact ⟨_, h2, rfl⟩, h3⟩
  simp [Instr.box, newVar, newRow]

theorem flatten_replicate_get {α : Type} (l : List α) : ∀ (n k : Nat), (List.replicate n l).flatten[k]? = if k < n * l.length then l[k % l.length]? else none
  | 0, k => by simp
  | n + 1, k => by
    rw [List.replicate_succ, List.flatten_cons]
    by_cases h : k < l.length
    · rw [List.getElem?_append_left h, if_pos (by rw [Nat.add_mul]; omega), Nat.mod_eq_of_lt h]
    · rw [List.getElem?_append_right (by omega), flatten_replicate_get l n]
      have h0 : l.length ≤ k := by omega
      by_cases h1 : k - l.length < n * l.length
      · rw [if_pos h1, if_pos (by rw [Nat.add_mul]; omega)]
        rw [Nat.mod_eq_sub_mod h0]
      · rw [if_neg h1, if_neg (by rw [Nat.add_mul]; omega)]

/-- The zero cells of a new row. -/
theorem zero_row {z : MV} {x : Value} (hz : VR ρ z x) (n : Nat) : VRs ρ (List.replicate n z.cells).flatten (((Array.range (n * x.cells.size)).map (x.cells[· % x.cells.size]!)).toList) := by
  have hl : x.cells.size = z.cells.length := by rw [← hz.cells.length]; simp
  refine .of_get (by simp [hl]) fun k v y hv hy => ?_
  rw [flatten_replicate_get] at hv
  split at hv
  · rename_i hk
    rw [Array.getElem?_toList, Array.getElem?_map] at hy
    simp only [Option.map_eq_some_iff] at hy
    obtain ⟨m, hm, rfl⟩ := hy
    have hm' : m = k := by
      rw [Array.getElem?_range] at hm
      split at hm <;> simp_all
    subst hm'
    have hpos : 0 < z.cells.length := by
      rcases Nat.eq_zero_or_pos z.cells.length with h0 | h0
      · rw [h0] at hk; simp at hk
      · exact h0
    have hlt : m % x.cells.size < x.cells.size := Nat.mod_lt _ (by omega)
    refine hz.cells.at (i := m % z.cells.length) hv ?_
    rw [← hl, Array.getElem?_toList, getElem!_pos x.cells _ hlt]
    simp [hlt]
  · cases hv

end
end Go.Mir
