/- The mirror's operations against the machine's: conversions, equality, operators. -/
import Derived.Test.YtohonlojnflejaaGreatDoorMirOp7
import Derived.Laws.BytesString
namespace Go.Mir
open Go.RowKit

section
variable {P : Program} {w : World} {C : Ctx} {ρ : Loc} {s : MS}

theorem push_modify (h : Array Obj) (o : Obj) (f : Obj → Obj) : (h.push o).modify h.size f = h.push (f o) := by
  apply Array.ext
  · simp
  · intro i h1 h2
    rw [Array.getElem_modify]
    by_cases e : h.size = i
    · subst e; simp
    · have : i < h.size := by simp at h2; omega
      rw [if_neg e, Array.getElem_push_lt this, Array.getElem_push_lt this]

theorem toU8_inv : ∀ (cs : List MV) (b : List UInt8), cs.mapM toU8 = some b → ∃ ns : List Int, cs = ns.map (MV.int .u8) ∧ b = ns.map fun n => UInt8.ofNat n.toNat
  | [], b, h => by simp at h; subst h; exact ⟨[], rfl, rfl⟩
  | c :: cs, b, h => by
    rw [List.mapM_cons] at h
    simp only [Option.bind_eq_bind, Option.pure_def, Option.bind_eq_some_iff] at h
    obtain ⟨u, hu, l, hl, h⟩ := h
    cases h
    obtain ⟨ns, rfl, rfl⟩ := toU8_inv cs l hl
    unfold toU8 at hu
    split at hu
    · rename_i n
      cases hu
      exact ⟨n :: ns, rfl, rfl⟩
    · cases hu

theorem VRs_ints : ∀ (ns : List Int) (xs : List Value), VRs ρ (ns.map (MV.int .u8)) xs → xs = ns.map (Value.int .u8)
  | [], xs, h => by simpa using h.nil_inv
  | n :: ns, xs, h => by
    obtain ⟨y, ys, rfl, h1, h2⟩ := VRs.cons_inv (v := .int .u8 n) (l := ns.map (MV.int .u8)) (by simpa using h)
    simp only [VR] at h1; subst h1
    rw [VRs_ints ns ys h2]; rfl

theorem foldl_push : ∀ (ns : List Int) (s0 : ByteArray), ns.foldl (fun r n => r.push (UInt8.ofNat n.toNat)) s0 = ⟨s0.data ++ (ns.map fun n => UInt8.ofNat n.toNat).toArray⟩
  | [], s0 => by simp
  | n :: ns, s0 => by
    rw [List.foldl_cons, foldl_push ns]
    congr 1
    apply Array.ext'
    simp [ByteArray.push]

theorem bytes_run (R : Repr C ρ s w) {a : MV} {x : Value} {n : Nat} {cs : List MV} {b : List UInt8} (hx : VR ρ a x) (h : elems a 1 s = some (n, cs)) (hb : cs.mapM toU8 = some b) {base : Addr} {cap : Nat} (hxe : x = .slice (some base) n cap) :
    (Conv.bytesToString x).run P w = .ok (.string ⟨b.toArray⟩) w := by
  obtain ⟨_, _, xs, hxs, hrun⟩ := elems_sound (P := P) R hx h
  obtain ⟨ns, rfl, rfl⟩ := toU8_inv _ _ hb
  have := VRs_ints ns xs hxs
  subst this
  subst hxe
  have hl : (loadCells base n).run P w = .ok (ns.map (Value.int .u8)).toArray w := by
    have := hrun w rfl
    simpa [Builtin.firstCells] using this
  rw [run_bytesToString w base n cap ns hl, foldl_push]
  simp

theorem mConvert_sound (R : Repr C ρ s w) {src dst : TypeId} {a v : MV} {x : Value} {s' : MS} (hx : VR ρ a x) (h : mConvert P src dst a s = some (v, s')) :
    ∃ y w' ρ', (convert src dst x).run P w = .ok y w' ∧ ρ.le ρ' ∧ VR ρ' v y ∧ Repr C ρ' s' w' := by
  unfold mConvert at h
  split at h
  · rename_i d0 k n hs hd
    cases h
    simp only [VR] at hx; subst hx
    exact ⟨.int d0 (d0.wrap n), w, ρ, by simp [convert, run_underlying' hs, run_underlying' hd, Conv.intToInt], ρ.le_refl, by simp [VR], R⟩
  · rename_i d0 k n hs hd
    cases h
    simp only [VR] at hx; subst hx
    exact ⟨.string (Utf8.encode n), w, ρ, by simp [convert, run_underlying' hs, run_underlying' hd, Conv.intToString], ρ.le_refl, by simp [VR], R⟩
  · rename_i d0 b hs hd
    cases h
    have hx' := hx
    simp only [VR] at hx; subst hx
    exact ⟨_, w, ρ, by simp [convert, run_underlying' hs, run_underlying' hd], ρ.le_refl, hx', R⟩
  · rename_i d0 e b hs hd
    split at h
    case h_2 => cases h
    rename_i he
    cases h
    simp only [VR] at hx; subst hx
    have hrun := Lib.run_convert_string_bytes (P := P) w src dst e ⟨b.toArray⟩ hs hd he
    have hge := grownCap_ge w (⟨b.toArray⟩ : ByteArray).size 0 e
    let i : HI := ⟨w.heap.size, 0, grownCap w (⟨b.toArray⟩ : ByteArray).size 0 e, 1⟩
    refine ⟨_, _, ρ.put s.next i, hrun, R.le_put i, ?_, ?_⟩
    · simp only [VR, bytes_size]
      exact ⟨i, Loc.put_same _ _ _, .inl ⟨grownCap w b.length 0 e, by simp [i], by simp [i, bytes_size], by rw [bytes_size] at hge; exact hge⟩⟩
    · have hw : Lib.bytesWorld w e ⟨b.toArray⟩ = { w.drew with heap := w.drew.heap.push (.cells (Lib.bytesCells w e ⟨b.toArray⟩) e ((Lib.bytesCells w e ⟨b.toArray⟩).size, (Lib.bytesCells w e ⟨b.toArray⟩).size + 1)) } := by
        have : (w.drew.alloc (.cells (Lib.bytesCells w e ⟨b.toArray⟩) e)).heap = w.heap.push (.cells (Lib.bytesCells w e ⟨b.toArray⟩) e) := rfl
        simp only [Lib.bytesWorld, World.freeze, this, push_modify]
        rfl
      rw [hw]
      have hdrew : Repr C ρ s w.drew := R.drew
      have hsz : (Lib.bytesCells w e ⟨b.toArray⟩).size = grownCap w (⟨b.toArray⟩ : ByteArray).size 0 e := by
        simp only [Lib.bytesCells, Array.size_append, Array.size_map, Array.size_replicate]
        rw [bytes_size] at hge ⊢
        simp only [List.size_toArray]
        omega
      refine hdrew.add _ _ i rfl ⟨_, e, _, rfl, fun o ho => ?_, fun k v hk => ?_, rfl, ?_⟩
      · simp only [Bool.and_eq_false_iff, decide_eq_false_iff_not]; left; omega
      · obtain ⟨y, hy, hr⟩ := (VRs_bytes (ρ := ρ) b).get hk
        have hlt := (List.getElem?_eq_some_iff.1 hy).1
        refine ⟨y, ?_, hr.mono (R.le_put i)⟩
        simp only [Lib.bytesCells, i, Nat.zero_add]
        rw [Array.getElem?_append_left (by simpa using hlt)]
        simpa using hy
      · simp only [i, hsz, Nat.zero_add, Nat.mul_one]
  · rename_i e hs hd _hov _hov2
    split at h
    case h_2 => cases h
    rename_i he
    split at h
    · cases h
      simp only [VR] at hx; subst hx
      refine ⟨.string .empty, w, ρ, ?_, ρ.le_refl, by simp only [VR]; rfl, R⟩
      rw [run_convert_bytes_string w src dst e none 0 0 hs he hd]
      simp [Conv.bytesToString]
    · rename_i hp off len cap
      have hx' := hx
      simp only [VR] at hx
      obtain ⟨i, hi, hxe, _⟩ := hx
      simp only [Option.bind_eq_bind, Option.bind_eq_some_iff] at h
      obtain ⟨⟨n, cs⟩, hel, b, hb, h⟩ := h
      cases h
      have hn : n = len := by
        simp only [elems] at hel
        split at hel
        · rename_i h0; cases hel; exact h0.symm
        · simp only [Option.bind_eq_bind, Option.bind_eq_some_iff] at hel
          obtain ⟨_, _, hel⟩ := hel; cases hel; rfl
      subst hn
      refine ⟨.string ⟨b.toArray⟩, w, ρ, ?_, ρ.le_refl, by simp [VR], R⟩
      rw [hxe, run_convert_bytes_string w src dst e _ _ _ hs he hd, ← hxe]
      exact bytes_run R hx' hel hb hxe
    · rename_i hp eo len
      have hx' := hx
      simp only [VR] at hx
      obtain ⟨i, hi, hx⟩ := hx
      simp only [Option.bind_eq_bind, Option.bind_eq_some_iff] at h
      obtain ⟨⟨n, cs⟩, hel, b, hb, h⟩ := h
      cases h
      have hn : n = len := by
        simp only [elems] at hel
        split at hel
        · rename_i h0; cases hel; exact h0.symm
        · simp only [Option.bind_eq_bind, Option.bind_eq_some_iff] at hel
          obtain ⟨_, _, hel⟩ := hel
          split at hel
          · split at hel
            · cases hel
            · simp only [Option.bind_eq_some_iff] at hel
              obtain ⟨_, _, hel⟩ := hel; cases hel; rfl
          · cases hel
      subst hn
      refine ⟨.string ⟨b.toArray⟩, w, ρ, ?_, ρ.le_refl, by simp [VR], R⟩
      rcases hx with ⟨c, hxe, _, _⟩ | ⟨hl0, o, hxe⟩
      · rw [hxe, run_convert_bytes_string w src dst e _ _ _ hs he hd, ← hxe]
        exact bytes_run R hx' hel hb hxe
      · subst hl0
        rw [hxe, run_convert_bytes_string w src dst e _ _ _ hs he hd, ← hxe]
        exact bytes_run R hx' hel hb hxe
    · cases h
  · cases h

end
end Go.Mir
