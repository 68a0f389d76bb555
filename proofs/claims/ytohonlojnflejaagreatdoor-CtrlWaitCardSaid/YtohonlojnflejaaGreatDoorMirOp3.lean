/- The mirror's operations against the machine's: slicing, elements, append, copy. -/
import Derived.Test.YtohonlojnflejaaGreatDoorMirOp2
import Derived.Laws.AppendOwn
namespace Go.Mir
open Go.RowKit

section
variable {P : Program} {w : World} {C : Ctx} {ρ : Loc} {s : MS}

/-- Operands that may be missing. -/
def VRO (ρ : Loc) : Option MV → Option Value → Prop
  | none, none => True
  | some v, some x => VR ρ v x
  | _, _ => False

theorem bnd_run {v : MV} {x : Value} {d m n : Nat} {code : BoundsCode} (hv : VR ρ v x) (h : bnd (some v) d m = some n) : (Instr.sliceBound x m code).run P w = .ok n w ∧ n ≤ m := by
  cases v <;> simp only [bnd] at h <;> first | (cases h; done) | skip
  split at h
  · rename_i hb
    cases h
    simp only [VR] at hv; subst hv
    refine ⟨?_, by omega⟩
    simp only [Instr.sliceBound, asIntOf, Sem.run_bind, Sem.run_pure, Result.andThen_ok]
    simp [hb]
  · cases h

theorem bounds_run {isSlice : Bool} {len cap m hh l : Nat} {lo hi mx : Option MV} {lo' hi' mx' : Option Value} (k1 : VRO ρ lo lo') (k2 : VRO ρ hi hi') (k3 : VRO ρ mx mx')
    (h1 : bnd mx cap cap = some m) (h2 : bndHi hi mx len m = some hh) (h3 : bnd lo 0 hh = some l) :
    (Instr.sliceBounds isSlice len cap lo' hi' mx').run P w = .ok (l, hh, m) w := by
  have hl : (lo = none ∧ lo' = none ∧ l = 0) ∨ ∃ v, lo' = some v ∧ ∀ code, (Instr.sliceBound v hh code).run P w = .ok l w := by
    cases lo <;> cases lo' <;> simp only [VRO] at k1
    · simp [bnd] at h3; exact .inl ⟨rfl, rfl, h3.symm⟩
    · exact .inr ⟨_, rfl, fun code => (bnd_run k1 h3).1⟩
  cases mx <;> cases mx' <;> simp only [VRO] at k3
  · simp [bnd] at h1; subst h1
    cases hi <;> cases hi' <;> simp only [VRO] at k2
    · simp [bndHi, bnd] at h2; subst h2
      simp only [Instr.sliceBounds, Sem.run_bind, Sem.run_pure, Result.andThen_ok]
      rcases hl with ⟨_, rfl, rfl⟩ | ⟨v, rfl, hl⟩
      · simp
      · simp [hl]
    · have h2' := (bnd_run (P := P) (w := w) (code := if isSlice then .sliceAcap else .sliceAlen) k2 h2).1
      simp only [Instr.sliceBounds, Sem.run_bind, Sem.run_pure, Result.andThen_ok]
      rcases hl with ⟨_, rfl, rfl⟩ | ⟨v, rfl, hl⟩
      · simp [h2']
      · simp [hl, h2']
  · have h1' := (bnd_run (P := P) (w := w) (code := if isSlice then .slice3Acap else .slice3Alen) k3 h1).1
    cases hi <;> cases hi' <;> simp only [VRO] at k2
    · simp [bndHi] at h2
    · have h2' := (bnd_run (P := P) (w := w) (code := .slice3B) k2 h2).1
      simp only [Instr.sliceBounds, Sem.run_bind, Result.andThen_ok, h1', h2']
      rcases hl with ⟨_, rfl, rfl⟩ | ⟨v, rfl, hl⟩
      · simp
      · simp [hl]

theorem bnd_le {x : Option MV} {d m n : Nat} (h : bnd x d m = some n) (hd : x = none → d ≤ m) : n ≤ m := by
  cases x with
  | none => simp [bnd] at h; have := hd rfl; omega
  | some v => cases v <;> simp only [bnd] at h <;> first | (cases h; done) | (split at h <;> cases h; omega)

theorem bytes_extract (b : List UInt8) (l h : Nat) : (⟨b.toArray⟩ : ByteArray).extract l h = ⟨((b.take h).drop l).toArray⟩ := by
  apply ByteArray.ext
  rw [ByteArray.data_extract]
  apply Array.ext'
  simp [List.extract_eq_drop_take']

theorem mSlice_sound (R : Repr C ρ s w) {t : TypeId} {a v : MV} {x : Value} {lo hi mx : Option MV} {lo' hi' mx' : Option Value} (hx : VR ρ a x) (k1 : VRO ρ lo lo') (k2 : VRO ρ hi hi') (k3 : VRO ρ mx mx')
    (h : mSlice P t a lo hi mx s = some v) : ∃ y, (Instr.sliceAt t x lo' hi' mx').run P w = .ok y w ∧ VR ρ v y := by
  unfold mSlice at h
  split at h
  · -- an array behind a pointer
    rename_i n e hp off hu
    simp only [Option.bind_eq_bind, Option.bind_eq_some_iff] at h
    obtain ⟨m, hm, hh, hhh, l, hl, sz, hsz, h⟩ := h
    cases h
    simp only [VR] at hx
    obtain ⟨i, hi', rfl⟩ := hx
    have hb := bounds_run (P := P) (w := w) (isSlice := false) k1 k2 k3 hm hhh hl
    have hmn : m ≤ n := bnd_le hm (fun _ => Nat.le_refl _)
    have hhm : hh ≤ m := by
      unfold bndHi at hhh
      split at hhh
      · cases hhh
      · rename_i hne; exact bnd_le hhh (fun e => by subst e; cases mx with | none => simp [bnd] at hm; omega | some q => exact absurd rfl (hne q rfl))
    refine ⟨.slice (some ⟨i.block, i.off + (if m = l then off else off + l * sz), none⟩) (hh - l) (m - l), ?_, by simp only [VR]; exact ⟨i, hi', rfl, by omega⟩⟩
    simp only [Instr.sliceAt, Sem.run_bind, run_underlying' hu, Result.andThen_ok, Instr.sureAddr, Sem.run_pure, hb, run_sizeOf' hsz]
    by_cases e : m = l
    · simp [e]
    · simp [e, Addr.add_lit, Nat.add_assoc]
  · -- a string
    rename_i b hu
    split at h
    · cases h
    rename_i hmx
    simp only [Option.bind_eq_bind, Option.bind_eq_some_iff] at h
    obtain ⟨hh, hhh, l, hl, h⟩ := h
    cases h
    simp only [VR] at hx; subst hx
    have hmx0 : mx = none := by cases mx <;> simp_all
    subst hmx0
    have hmx' : mx' = none := by cases mx' <;> simp_all [VRO]
    subst hmx'
    have hb := bounds_run (P := P) (w := w) (isSlice := false) (len := b.length) (cap := b.length) (m := b.length) (mx := none) (mx' := none) k1 k2 trivial (by simp [bnd]) (by simpa [bndHi] using hhh) hl
    refine ⟨.string ⟨((b.take hh).drop l).toArray⟩, ?_, by simp [VR]⟩
    simp only [Instr.sliceAt, Sem.run_bind, run_underlying' hu, Result.andThen_ok, Instr.slice]
    simp only [Option.isSome_none, Bool.false_eq_true, if_false, Sem.run_bind, bytes_size, hb, Result.andThen_ok, Sem.run_pure, bytes_extract]
  · -- a slice whose capacity is known
    rename_i e hp off len cap hu
    simp only [Option.bind_eq_bind, Option.bind_eq_some_iff] at h
    obtain ⟨m, hm, hh, hhh, l, hl, sz, hsz, h⟩ := h
    cases h
    simp only [VR] at hx
    obtain ⟨i, hi', rfl, hlc⟩ := hx
    have hb := bounds_run (P := P) (w := w) (isSlice := true) k1 k2 k3 hm hhh hl
    have hhm : hh ≤ m := by
      unfold bndHi at hhh
      split at hhh
      · cases hhh
      · rename_i hne; exact bnd_le hhh (fun e => by subst e; cases mx with | none => simp [bnd] at hm; omega | some q => exact absurd rfl (hne q rfl))
    refine ⟨.slice (some ⟨i.block, i.off + (if m = l then off else off + l * sz), none⟩) (hh - l) (m - l), ?_, by simp only [VR]; exact ⟨i, hi', rfl, by omega⟩⟩
    simp only [Instr.sliceAt, Sem.run_bind, run_underlying' hu, Result.andThen_ok, Instr.slice, hb, run_sizeOf' hsz, Sem.run_pure]
    by_cases e : m = l
    · simp [e]
    · simp [e, Addr.add_lit, Nat.add_assoc]
  · -- one that append made
    rename_i e hp eo len hu
    split at h
    · cases h
    rename_i hmx
    simp only [Option.bind_eq_bind, Option.bind_eq_some_iff] at h
    obtain ⟨hh, hhh, l, hl, sz, hsz, ob, hob, h⟩ := h
    split at h
    case h_2 => cases h
    rename_i cs sz'
    split at h
    case isFalse => cases h
    rename_i hsz'
    cases h
    have hmx0 : mx = none := by cases mx <;> simp_all
    subst hmx0
    have hmx' : mx' = none := by cases mx' <;> simp_all [VRO]
    subst hmx'
    have hhl : hh ≤ len := by
      cases hi with
      | none => simp [bnd] at hhh; omega
      | some v => cases v <;> simp only [bnd] at hhh <;> first | (cases hhh; done) | (split at hhh <;> cases hhh; omega)
    have hll : l ≤ hh := by
      cases lo with
      | none => simp [bnd] at hl; omega
      | some v => cases v <;> simp only [bnd] at hl <;> first | (cases hl; done) | (split at hl <;> cases hl; omega)
    simp only [VR] at hx
    obtain ⟨i, hi', hx⟩ := hx
    have hbnd : ∀ c, len ≤ c → bnd hi len c = some hh := by
      intro c hc
      cases hi with
      | none => simpa [bnd] using hhh
      | some v =>
        cases v <;> simp only [bnd] at hhh ⊢ <;> first | (cases hhh; done) | skip
        split at hhh
        · rename_i hb
          rw [if_pos ⟨hb.1, by omega⟩]; exact hhh
        · cases hhh
    obtain ⟨i0, b0, hi0, _, hor, _⟩ := R.obj _ _ hob
    rw [hi'] at hi0; cases hi0
    obtain ⟨_, _, _, _, _, _, hisz, _⟩ := hor
    rcases hx with ⟨c, rfl, hc, hlc⟩ | ⟨rfl, o, rfl⟩
    · have hb := bounds_run (P := P) (w := w) (isSlice := true) (len := len) (cap := c) (m := c) (mx := none) (mx' := none) k1 k2 trivial (by simp [bnd]) (by simpa [bndHi] using hbnd c hlc) hl
      by_cases e' : c = l
      · refine ⟨.slice (some ⟨i.block, i.off + eo * i.sz, none⟩) (hh - l) (c - l), ?_, ?_⟩
        · simp only [Instr.sliceAt, Sem.run_bind, run_underlying' hu, Result.andThen_ok, Instr.slice, hb, run_sizeOf' hsz, Sem.run_pure]
          simp [e']
        · simp only [VR]
          refine ⟨i, hi', .inr ⟨by omega, i.off + eo * i.sz, ?_⟩⟩
          rw [show hh - l = 0 from by omega, show c - l = 0 from by omega]
      · refine ⟨.slice (some ⟨i.block, i.off + eo * i.sz + l * sz, none⟩) (hh - l) (c - l), ?_, ?_⟩
        · simp only [Instr.sliceAt, Sem.run_bind, run_underlying' hu, Result.andThen_ok, Instr.slice, hb, run_sizeOf' hsz, Sem.run_pure]
          simp [e', Addr.add_lit]
        · simp only [VR]
          refine ⟨i, hi', .inl ⟨c - l, ?_, by omega, by omega⟩⟩
          rw [hsz', hisz, Nat.add_mul, Nat.add_assoc]
    · have hb := bounds_run (P := P) (w := w) (isSlice := true) (len := 0) (cap := 0) (m := 0) (mx := none) (mx' := none) k1 k2 trivial (by simp [bnd]) (by simpa [bndHi] using hbnd 0 (by omega)) hl
      have hl0 : l = 0 := by omega
      have hh0 : hh = 0 := by omega
      subst hl0; subst hh0
      refine ⟨.slice (some ⟨i.block, o, none⟩) 0 0, ?_, by simp only [VR]; exact ⟨i, hi', .inr ⟨by simp, o, rfl⟩⟩⟩
      simp only [Instr.sliceAt, Sem.run_bind, run_underlying' hu, Result.andThen_ok, Instr.slice, hb, run_sizeOf' hsz, Sem.run_pure]
      simp
  · -- nil
    rename_i e hu
    split at h
    · cases h
    rename_i hmx
    simp only [Option.bind_eq_bind, Option.bind_eq_some_iff] at h
    obtain ⟨hh, hhh, l, hl, sz, hsz, h⟩ := h
    split at h
    case isFalse => cases h
    rename_i h0
    obtain ⟨rfl, rfl⟩ := h0
    cases h
    simp only [VR] at hx; subst hx
    have hmx0 : mx = none := by cases mx <;> simp_all
    subst hmx0
    have hmx' : mx' = none := by cases mx' <;> simp_all [VRO]
    subst hmx'
    have hb := bounds_run (P := P) (w := w) (isSlice := true) (len := 0) (cap := 0) (m := 0) (mx := none) (mx' := none) k1 k2 trivial (by simp [bnd]) (by simpa [bndHi] using hhh) hl
    refine ⟨.slice none 0 0, ?_, by simp [VR]⟩
    simp only [Instr.sliceAt, Sem.run_bind, run_underlying' hu, Result.andThen_ok, Instr.slice, hb, run_sizeOf' hsz, Sem.run_pure]
    simp
  · cases h

end
end Go.Mir
