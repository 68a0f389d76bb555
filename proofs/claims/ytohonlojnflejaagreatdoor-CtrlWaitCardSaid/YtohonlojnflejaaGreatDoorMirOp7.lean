/- The mirror's operations against the machine's: rows, copies, conversions. -/
import Derived.Test.YtohonlojnflejaaGreatDoorMirOp6
import Derived.Lib.ConvBytes
namespace Go.Mir
open Go.RowKit

section
variable {P : Program} {w : World} {C : Ctx} {ρ : Loc} {s : MS}

theorem mBuildSlice_sound (R : Repr C ρ s w) {t : TypeId} {n : Nat} {ps : List (Nat × MV)} {qs : Array (Nat × Value)} {v : MV} {s' : MS} (hp : PRs ρ ps qs.toList) (h : mBuildSlice P t n ps s = some (v, s')) :
    ∃ y w' ρ', (Instr.buildSlice t n qs).run P w = .ok y w' ∧ ρ.le ρ' ∧ VR ρ' v y ∧ Repr C ρ' s' w' := by
  unfold mBuildSlice at h
  split at h
  case h_2 => cases h
  rename_i e hu
  simp only [Option.bind_eq_bind, Option.bind_eq_some_iff] at h
  obtain ⟨sz, hsz, z, hz, h⟩ := h
  split at h
  case isFalse => cases h
  rename_i hb
  obtain ⟨hzl, h24, hsz0⟩ := hb
  simp only [Option.bind_eq_some_iff] at h
  obtain ⟨cs, hcs, h⟩ := h
  split at h
  case isFalse => cases h
  cases h
  obtain ⟨z', hrun, hzr, _⟩ := run_zeroValue' (P := P) (w := w) (ρ := ρ) hz
  have hzs : z'.cells.size = sz := by rw [← hzl, ← hzr.cells.length]; simp
  have hrow := zero_row hzr n
  rw [hzs] at hrow
  obtain ⟨r', hr', hrr⟩ := fill_sound ps qs.toList _ ((Array.range (n * sz)).map (z'.cells[· % sz]!)) cs hp hrow hcs
  obtain ⟨ρ', h1, h2, h3⟩ := new_cells R hrr e
  refine ⟨.slice (some ⟨w.heap.size, 0, none⟩) n n, _, ρ', ?_, h1, by simp only [VR]; exact ⟨_, h2, rfl, Nat.le_refl _⟩, h3⟩
  simp only [Instr.buildSlice, Sem.run_bind, run_underlying' hu, Result.andThen_ok, run_sizeOf' hsz]
  rw [if_neg (by omega)]
  by_cases h0 : n * sz = 0
  · have hn0 : n = 0 := by
      rcases Nat.mul_eq_zero.1 h0 with h | h
      · exact h
      · exact absurd h hsz0
    subst hn0
    have hr0 : Array.range 0 = #[] := rfl
    simp only [Nat.zero_mul, hr0, List.map_toArray, List.map_nil] at hr' 
    simp [hr', newRow, hr0]
  · simp only [h0, if_false, Sem.run_bind, hrun, Result.andThen_ok, Sem.run_pure, hzs, hr']
    simp [newRow]

theorem wrap_small {n : Int} (h0 : 0 ≤ n) (h : n ≤ 1000000) : IntKind.i64.wrap n = n := by
  have e : n % (2 ^ 64 : Int) = n := Int.emod_eq_of_lt h0 (by omega)
  simp only [IntKind.wrap, IntKind.bits, IntKind.signed, e, Bool.true_and]
  rw [if_neg (by simp; omega)]

theorem mMakeSlice_sound (R : Repr C ρ s w) {t : TypeId} {a b v : MV} {x y : Value} {s' : MS} (hx : VR ρ a x) (hy : VR ρ b y) (h : mMakeSlice P t a b s = some (v, s')) :
    ∃ z w' ρ', (Instr.makeSlice t x y).run P w = .ok z w' ∧ ρ.le ρ' ∧ VR ρ' v z ∧ Repr C ρ' s' w' := by
  unfold mMakeSlice at h
  split at h
  case h_2 => cases h
  rename_i e k1 l k2 c hu
  simp only [Option.bind_eq_bind, Option.bind_eq_some_iff] at h
  obtain ⟨i, hi, z, hz, h⟩ := h
  split at h
  case isFalse => cases h
  rename_i hb
  obtain ⟨hl0, hlc, hbytes, hc6, hzl, hsz0⟩ := hb
  cases h
  simp only [VR] at hx hy; subst hx; subst hy
  obtain ⟨z', hrun, hzr, _⟩ := run_zeroValue' (P := P) (w := w) (ρ := ρ) hz
  have hzs : z'.cells.size = i.size := by rw [← hzl, ← hzr.cells.length]; simp
  have hrow := zero_row hzr c.toNat
  rw [hzs] at hrow
  obtain ⟨ρ', h1, h2, h3⟩ := new_cells R hrow e
  refine ⟨.slice (some ⟨w.heap.size, 0, none⟩) l.toNat c.toNat, _, ρ', ?_, h1, by simp only [VR]; exact ⟨_, h2, rfl, by omega⟩, h3⟩
  have hwl : IntKind.i64.wrap l = l := wrap_small hl0 (by omega)
  have hwc : IntKind.i64.wrap c = c := wrap_small (by omega) hc6
  have hb1 : ¬ ((i.bytes : Int) * c > 2 ^ 48) := by rw [Int.mul_comm]; omega
  have hb2 : ¬ ((i.bytes : Int) * l > 2 ^ 48) := by
    have : (i.bytes : Int) * l ≤ (i.bytes : Int) * c := Int.mul_le_mul_of_nonneg_left hlc (by omega)
    omega
  simp only [Instr.makeSlice, Sem.run_bind, run_underlying' hu, Result.andThen_ok, asInt, asIntOf, Sem.run_pure, run_typeInfo' hi, hwl, hwc]
  have hc0 : ¬ (c < 0) := by omega
  have hl0' : ¬ (l < 0) := by omega
  have hlc' : ¬ (l > c) := by omega
  simp only [hc0, hl0', hlc', hb1, decide_false, Bool.or_self, Bool.false_or, Bool.false_eq_true, if_false]
  have hif : (c.toNat * i.size = 0) = (c.toNat = 0) := by
    apply propext
    constructor
    · intro h
      rcases Nat.mul_eq_zero.1 h with h | h
      · exact h
      · exact absurd h hsz0
    · intro h; rw [h]; simp
  by_cases hcz : c.toNat = 0
  · have hr0 : Array.range 0 = #[] := rfl
    simp [run_sizeOf' (show sizeT P e = some i.size by simp [sizeT, hi]), hcz, newRow, hr0]
  · have hcz' : ¬ (c.toNat * i.size = 0) := by rw [hif]; exact hcz
    simp only [Sem.run_bind, run_askRoom, Result.andThen_ok, run_sizeOf' (show sizeT P e = some i.size by simp [sizeT, hi]), hcz', if_false, hrun, Sem.run_pure, hzs]
    simp [newRow]

/-- Fewer of the elements. -/
theorem elems_take (R : Repr C ρ s w) {a : MV} {x : Value} {sz n m : Nat} {cs : List MV} (hx : VR ρ a x) (h : elems a sz s = some (n, cs)) (hm : m ≤ n) :
    ∃ xs, VRs ρ (cs.take (m * sz)) xs ∧ (Builtin.firstCells sz m x).run P w = .ok xs.toArray w := by
  have hload : ∀ (hp : Pos) (off k k' : Nat) (all : List MV), k' ≤ k → s.load hp off k = some all → ∃ i xs, ρ hp = some i ∧ VRs ρ (all.take k') xs ∧ (loadCells ⟨i.block, i.off + off, none⟩ k').run P w = .ok xs.toArray w := by
    intro hp off k k' all hk hl
    simp only [MS.load, Option.bind_eq_some_iff] at hl
    obtain ⟨o, ho, hr⟩ := hl
    obtain ⟨i, b, hi, hb, hor, _⟩ := R.obj hp o ho
    obtain ⟨vs, e, fr, rfl, hlen, hc⟩ := hor.row hr
    have hc' : Cells ρ (i.off + off) (all.take k') vs := fun q v hq => by
      rw [List.getElem?_take] at hq
      split at hq
      · exact hc q v hq
      · cases hq
    obtain ⟨xs, h1, h2, _⟩ := cells_run (P := P) hb hc'
    refine ⟨i, xs, hi, h1, ?_⟩
    rw [show (all.take k').length = k' by rw [List.length_take]; omega] at h2
    exact h2
  cases a <;> simp only [elems] at h <;> first | (cases h; done) | skip
  · rename_i b
    split at h
    · rename_i hsz
      cases h
      subst hsz
      simp only [VR] at hx; subst hx
      refine ⟨(b.take m).map fun c => Value.int .u8 (c.toNat : Int), by simpa [List.map_take] using VRs_bytes (b.take m), ?_⟩
      simp only [Builtin.firstCells, Sem.run_pure]
      congr 1
      rw [bytes_extract]
      apply Array.ext'; simp
    · cases h
  · cases h
    simp only [VR] at hx; subst hx
    have : m = 0 := by omega
    subst this
    exact ⟨[], by simpa using VRs.nil, by simp [Builtin.firstCells]⟩
  · rename_i hp off len cap
    simp only [VR] at hx
    obtain ⟨i, hi, rfl, _⟩ := hx
    split at h
    · rename_i h0
      cases h
      have : m = 0 := by omega
      subst this
      exact ⟨[], by simpa using VRs.nil, by simp [Builtin.firstCells, loadCells, loadCellsFrom]⟩
    · simp only [Option.bind_eq_bind, Option.bind_eq_some_iff] at h
      obtain ⟨all, hl, h⟩ := h
      cases h
      obtain ⟨j, xs, hj, h1, h2⟩ := hload _ _ _ (m * sz) _ (Nat.mul_le_mul_right _ hm) hl
      rw [hi] at hj; cases hj
      exact ⟨xs, h1, by simp only [Builtin.firstCells]; exact h2⟩
  · rename_i hp eo len
    simp only [VR] at hx
    obtain ⟨i, hi, hx⟩ := hx
    split at h
    · rename_i h0
      cases h
      have : m = 0 := by omega
      subst this
      rcases hx with ⟨c, rfl, _, _⟩ | ⟨_, o, rfl⟩ <;>
        exact ⟨[], by simpa using VRs.nil, by simp [Builtin.firstCells, loadCells, loadCellsFrom]⟩
    · rename_i h0
      simp only [Option.bind_eq_bind, Option.bind_eq_some_iff] at h
      obtain ⟨ob, hob, h⟩ := h
      split at h
      case h_2 => cases h
      rename_i all sz'
      split at h
      · cases h
      rename_i hsz
      simp only [Option.bind_eq_some_iff] at h
      obtain ⟨cs', hl, h⟩ := h
      cases h
      obtain ⟨j, xs, hj, h1, h2⟩ := hload _ _ _ (m * sz) _ (Nat.mul_le_mul_right _ hm) hl
      rw [hi] at hj; cases hj
      obtain ⟨j, b, hj, _, hor, _⟩ := R.obj _ _ hob
      rw [hi] at hj; cases hj
      obtain ⟨_, _, _, _, _, _, hisz, _⟩ := hor
      have hsz' : sz' = sz := by simpa using hsz
      rcases hx with ⟨c, rfl, _, _⟩ | ⟨hl0, _⟩
      · refine ⟨xs, h1, ?_⟩
        simp only [Builtin.firstCells]
        rw [hisz, hsz']; exact h2
      · exact absurd hl0 h0

theorem mCopy_sound (R : Repr C ρ s w) {ts : Array TypeId} {ty : TypeId} {a b v : MV} {x y : Value} {s' : MS} (hx : VR ρ a x) (hy : VR ρ b y) (h : mCopy P ts a b s = some (v, s')) :
    ∃ z w', (Builtin.copy_ ts ty #[x, y]).run P w = .ok z w' ∧ VR ρ v z ∧ Repr C ρ s' w' := by
  unfold mCopy at h
  split at h
  · cases h
  rename_i t ht0
  split at h
  case h_2 => cases h
  rename_i e ht
  simp only [Option.bind_eq_bind, Option.bind_eq_some_iff] at h
  obtain ⟨sz, hsz, dLen, hd, ⟨k, all⟩, hel, h⟩ := h
  simp only at h
  have hk : (Builtin.lenOf y).run P w = .ok k w := (elems_sound (P := P) R hy hel).1
  obtain ⟨xs, hxs, hfc⟩ := elems_take (P := P) (m := Nat.min k dLen) R hy hel (Nat.min_le_left _ _)
  -- the destination is a slice of that length
  have hdst : ∃ base cap, x = .slice base dLen cap := by
    cases a <;> simp only [lenOf] at hd <;> first | (cases hd; done) | skip
    all_goals simp only [VR] at hx
    · cases hd; subst hx; exact ⟨_, _, rfl⟩
    · cases hd; obtain ⟨i, _, rfl, _⟩ := hx; exact ⟨_, _, rfl⟩
    · cases hd; obtain ⟨i, _, ⟨c, rfl, _, _⟩ | ⟨hl, o, rfl⟩⟩ := hx
      · exact ⟨_, _, rfl⟩
      · subst hl; exact ⟨_, _, rfl⟩
  have hrun : ∀ base cap, x = .slice base dLen cap → (Builtin.copy_ ts ty #[x, y]).run P w = ((match base with | some a => storeCells a xs | none => Pure.pure () : Sem Unit).run P w).andThen fun _ w' => .ok (goInt (Nat.min k dLen)) w' := by
    rintro base cap rfl
    unfold Builtin.copy_
    simp only [List.getElem?_toArray, List.getElem?_cons_zero, List.getElem?_cons_succ, ht0]
    simp only [Sem.run_bind, run_underlying' ht, Result.andThen_ok, run_sizeOf' hsz, hk, hfc]
    cases base <;> simp
  obtain ⟨base, cap, hxe⟩ := hdst
  rw [hrun base cap hxe]
  split at h
  · rename_i h0
    cases h
    rw [h0] at hxs ⊢
    have : xs = [] := List.eq_nil_of_length_eq_zero (by rw [hxs.length]; simp)
    subst this
    refine ⟨goInt 0, w, ?_, by simp [VR, goInt], R⟩
    cases base <;> simp [storeCells]
  · rename_i h0
    split at h
    · rename_i hp off l c
      simp only [VR] at hx
      obtain ⟨i, hi, hx, _⟩ := hx
      rw [hx] at hxe; cases hxe
      simp only [Option.map_eq_some_iff] at h
      obtain ⟨s1, hs1, h⟩ := h
      cases h
      obtain ⟨w', hw', hR'⟩ := store_sound (P := P) R hi hs1 hxs
      exact ⟨goInt (Nat.min k dLen), w', by simp only [hw', Result.andThen_ok], by simp [VR, goInt], hR'⟩
    · rename_i hp eo l
      simp only [Option.bind_eq_some_iff] at h
      obtain ⟨ob, hob, h⟩ := h
      split at h
      case h_2 => cases h
      rename_i all' sz'
      split at h
      · cases h
      rename_i hszz
      simp only [Option.map_eq_some_iff] at h
      obtain ⟨s1, hs1, h⟩ := h
      cases h
      simp only [VR] at hx
      obtain ⟨i, hi, hx⟩ := hx
      obtain ⟨j, b', hj, _, hor, _⟩ := R.obj _ _ hob
      rw [hi] at hj; cases hj
      obtain ⟨_, _, _, _, _, _, hisz, _⟩ := hor
      have hsz' : sz' = sz := by simpa using hszz
      rcases hx with ⟨c, hx, _, _⟩ | ⟨hl0, o, hx⟩
      · rw [hx] at hxe; cases hxe
        obtain ⟨w', hw', hR'⟩ := store_sound (P := P) R hi hs1 hxs
        refine ⟨goInt (Nat.min k dLen), w', ?_, by simp [VR, goInt], hR'⟩
        rw [hisz, hsz']; simp only [hw', Result.andThen_ok]
      · simp only [lenOf] at hd; cases hd
        subst hl0
        exact absurd (by simp) h0
    · cases h

end
end Go.Mir
