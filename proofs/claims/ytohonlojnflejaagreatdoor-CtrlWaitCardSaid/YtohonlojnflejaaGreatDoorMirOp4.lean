/- The mirror's operations against the machine's: elements, append, copy, new rows. -/
import Derived.Test.YtohonlojnflejaaGreatDoorMirOp3
namespace Go.Mir
open Go.RowKit

section
variable {P : Program} {w : World} {C : Ctx} {ρ : Loc} {s : MS}

theorem lenOf_run {a : MV} {x : Value} {n : Nat} (hx : VR ρ a x) (h : lenOf a = some n) : (Builtin.lenOf x).run P w = .ok n w := by
  cases a <;> simp only [lenOf] at h <;> first | (cases h; done) | skip
  all_goals simp only [VR] at hx
  · cases h; subst hx; simp [Builtin.lenOf, bytes_size]
  · cases h; subst hx; simp [Builtin.lenOf]
  · cases h; obtain ⟨i, _, rfl, _⟩ := hx; simp [Builtin.lenOf]
  · cases h; obtain ⟨i, _, ⟨c, rfl, _, _⟩ | ⟨hl, o, rfl⟩⟩ := hx
    · simp [Builtin.lenOf]
    · subst hl; simp [Builtin.lenOf]

/-- The bytes of a text as values. -/
theorem VRs_bytes (b : List UInt8) : VRs ρ (b.map fun c => MV.int .u8 (c.toNat : Int)) (b.map fun c => Value.int .u8 (c.toNat : Int)) := by
  induction b with
  | nil => exact .nil
  | cons c b ih => exact .cons (by simp [VR]) ih

theorem elems_sound (R : Repr C ρ s w) {a : MV} {x : Value} {sz n : Nat} {cs : List MV} (hx : VR ρ a x) (h : elems a sz s = some (n, cs)) :
    (Builtin.lenOf x).run P w = .ok n w ∧ cs.length = n * sz ∧ ∃ xs, VRs ρ cs xs ∧ ∀ w' : World, w'.heap = w.heap → (Builtin.firstCells sz n x).run P w' = .ok xs.toArray w' := by
  have hload : ∀ (hp : Pos) (off k : Nat) (all : List MV), s.load hp off k = some all → ∃ i xs, ρ hp = some i ∧ all.length = k ∧ VRs ρ all xs ∧ ∀ w' : World, w'.heap = w.heap → (loadCells ⟨i.block, i.off + off, none⟩ k).run P w' = .ok xs.toArray w' := by
    intro hp off k all hl
    simp only [MS.load, Option.bind_eq_some_iff] at hl
    obtain ⟨o, ho, hr⟩ := hl
    obtain ⟨i, b, hi, hb, hor, _⟩ := R.obj hp o ho
    obtain ⟨vs, e, fr, rfl, hlen, hc⟩ := hor.row hr
    obtain ⟨xs, h1, h2, h3⟩ := cells_run (P := P) hb hc
    refine ⟨i, xs, hi, hlen, h1, fun w' hw' => ?_⟩
    rw [← hlen, ← h1.length]
    refine run_loadCells_list (cs := xs) (h := fun j v hj => ?_)
    rw [Addr.add_lit, cell_of (by rw [hw']; exact hb)]
    exact h3 j v hj
  cases a <;> simp only [elems] at h <;> first | (cases h; done) | skip
  · -- a text
    rename_i b
    split at h
    · rename_i hsz
      cases h
      subst hsz
      have hx' := hx
      simp only [VR] at hx; subst hx
      refine ⟨by simp [Builtin.lenOf, bytes_size], by simp, b.map fun c => Value.int .u8 (c.toNat : Int), VRs_bytes b, fun w' _ => ?_⟩
      simp only [Builtin.firstCells, Sem.run_pure]
      congr 1
      have : (⟨b.toArray⟩ : ByteArray).extract 0 b.length = ⟨b.toArray⟩ := by rw [bytes_extract]; simp
      rw [this]
      apply Array.ext'; simp
    · cases h
  · -- nil
    cases h
    simp only [VR] at hx; subst hx
    exact ⟨by simp [Builtin.lenOf], by simp, [], .nil, fun w' _ => by simp [Builtin.firstCells]⟩
  · rename_i hp off len cap
    simp only [VR] at hx
    obtain ⟨i, hi, rfl, _⟩ := hx
    split at h
    · rename_i h0
      cases h; subst h0
      exact ⟨by simp [Builtin.lenOf], by simp, [], .nil, fun w' _ => by simp [Builtin.firstCells, loadCells, loadCellsFrom]⟩
    · simp only [Option.bind_eq_bind, Option.bind_eq_some_iff] at h
      obtain ⟨all, hl, h⟩ := h
      cases h
      obtain ⟨j, xs, hj, h1, h2, h3⟩ := hload _ _ _ _ hl
      rw [hi] at hj; cases hj
      exact ⟨by simp [Builtin.lenOf], h1, xs, h2, fun w' hw' => by simp only [Builtin.firstCells]; exact h3 w' hw'⟩
  · rename_i hp eo len
    simp only [VR] at hx
    obtain ⟨i, hi, hx⟩ := hx
    split at h
    · rename_i h0
      cases h; subst h0
      rcases hx with ⟨c, rfl, _, _⟩ | ⟨_, o, rfl⟩ <;>
        exact ⟨by simp [Builtin.lenOf], by simp, [], .nil, fun w' _ => by simp [Builtin.firstCells, loadCells, loadCellsFrom]⟩
    · rename_i h0
      simp only [Option.bind_eq_bind, Option.bind_eq_some_iff] at h
      obtain ⟨ob, hob, h⟩ := h
      split at h
      case h_2 => cases h
      rename_i all sz'
      split at h
      · cases h
      rename_i hsz
      simp only [Option.bind_eq_some_iff] at h
      obtain ⟨cs', hl, h⟩ := h
      cases h
      obtain ⟨j, xs, hj, h1, h2, h3⟩ := hload _ _ _ _ hl
      rw [hi] at hj; cases hj
      obtain ⟨j, b, hj, _, hor, _⟩ := R.obj _ _ hob
      rw [hi] at hj; cases hj
      obtain ⟨_, _, _, _, _, _, hisz, _⟩ := hor
      have hsz' : sz' = sz := by simpa using hsz
      rcases hx with ⟨c, rfl, _, _⟩ | ⟨hl0, _⟩
      · refine ⟨by simp [Builtin.lenOf], h1, xs, h2, fun w' hw' => ?_⟩
        simp only [Builtin.firstCells]
        rw [hisz, hsz']; exact h3 w' hw'
      · exact absurd hl0 h0

set_option maxHeartbeats 400000 in
theorem run_append_any {ts : Array TypeId} {t u ty e : TypeId} {d : TypeDesc} {i : TypeInfo} {z : Value} (h0 : ts[0]? = some t) (h1 : ts[1]? = some u) (ht : P.underlying t = some (.slice e)) (hu : P.underlying u = some d) (hd : isIntD d = false) (hi : P.info? e = some i) (hz : i.zero = some z)
    {base : Option Addr} {sLen sCap : Nat} {y : Value} {n : Nat} (hn : (Builtin.lenOf y).run P w = .ok n w) {news olds : Array Value}
    (hnew : ∀ w' : World, w'.heap = w.heap → (Builtin.firstCells i.size n y).run P w' = .ok news w') (hold : ∀ w' : World, w'.heap = w.heap → (Builtin.firstCells i.size sLen (.slice base sLen sCap)).run P w' = .ok olds w')
    (hb : (sLen + n) * i.bytes ≤ 140737488355328) (hlt : sLen + n ≤ 9223372036854775807) :
    (Builtin.append_ ts ty #[.slice base sLen sCap, y]).run P w =
      if sLen + n ≤ sCap then
        ((match base with | some a => storeCells (a.add (sLen * i.size)) news.toList | none => Pure.pure () : Sem Unit).run P w).andThen fun _ w' => .ok (.slice base (sLen + n) sCap) w'
      else .ok (.slice (some ⟨w.heap.size, 0, none⟩) (sLen + n) (grownCap w (sLen + n) sCap e))
        (w.drew.alloc (.cells (olds ++ news ++ Builtin.zeroCells z.cells (grownCap w (sLen + n) sCap e - (sLen + n))) e)) := by
  unfold Builtin.append_
  simp only [List.getElem?_toArray, List.getElem?_cons_zero, List.getElem?_cons_succ, h0, h1]
  simp only [Sem.run_bind, run_underlying' ht, Result.andThen_ok, run_sizeOf' (n := i.size) (show sizeT P e = some i.size by simp [sizeT, hi])]
  rw [run_underlying' hu]
  simp only [Result.andThen_ok]
  split
  · simp [isIntD] at hd
  simp only [Sem.run_pure, Result.andThen_ok, Bool.false_eq_true, if_false, Sem.run_bind, hn, false_or, Bool.not_false, if_true]
  by_cases hroom : sLen + n ≤ sCap
  · simp only [hroom, if_true]
    cases base
    · simp [hnew w rfl]
    · simp [hnew w rfl]
  · simp only [hroom, if_false]
    have h48 : ¬ (Builtin.nextslicecap (sLen + n) sCap * i.bytes > 2 ^ 48) := by
      have := growslice_fits (need := sLen + n) (old := sCap) (bytes := i.bytes) (by omega) hb
      omega
    have h63 : ¬ (((sLen + n : Nat) : Int) > IntKind.i64.max) := by rw [IntKind.max_i64]; omega
    have h1' := hnew w.drew rfl
    have h2' := hold w.drew rfl
    simp only [Sem.run_bind, run_typeInfo' hi, Result.andThen_ok, h63, false_and, if_false, h48, run_choose, Question.forced, Bool.false_eq_true]
    simp [h1', h2', zeroValue, run_typeInfo' hi, hz, newRow, grownCap]

end
end Go.Mir
