/- The mirror's operations on what came in (slices and texts that are not known), sound. -/
import Derived.Test.YtohonlojnflejaaGreatDoorMirSym
namespace Go.Mir
open Go.RowKit

/-- What a cell of a slice that came in holds. -/
def CellOK (σ : Val) (a i k : Nat) : CK → Value → Prop
  | .int kk, x => x = .int kk (σ.app (100 + a) (i : Int) (k : Int) 0)
  | .str, x => x = .string ⟨(dec (σ.app (100 + a) (i : Int) (k : Int) 0)).toArray⟩
  | .bool, x => x = .bool (cmpV .neq (σ.app (100 + a) (i : Int) (k : Int) 0) 0)

/-- A slice that came in lies in the old memory. -/
def ArrOK (C : Ctx) (a : Nat) (D : List CK) : Prop :=
  ∀ ad, (C.σ.arr a).1 = some ad → 0 < (C.σ.arr a).2 → ad.block < C.N ∧ ∃ vs e fr, C.w0.heap[ad.block]? = some (.cells vs e fr) ∧
    ∀ i, i < (C.σ.arr a).2 → ∀ k c, D[k]? = some c → ∃ x, vs[ad.off + i * D.length + k]? = some x ∧ CellOK C.σ a i k c x

theorem appV_ge (σ : Val) (a : Nat) (x y z : Int) : appV σ (100 + a) x y z = σ.app (100 + a) x y z := by
  unfold appV
  split <;> first | omega | rfl

section
variable {P : Program} {w : World} {C : Ctx} {ρ : Loc} {s : MS}

theorem cell_mv {a k : Nat} {e : SE} {i : Nat} (hi : e.eval ρ.σ = (i : Int)) {c : CK} {x : Value} (h : CellOK ρ.σ a i k c x) : VR ρ (c.mv a e k) x := by
  cases c <;> simp only [CellOK] at h <;> simp only [CK.mv, VR, SE.eval, SB.eval, appV_ge, hi] <;> exact h

theorem uLoad_sound (R : Repr C ρ s w) {ext : Ext} (hA : AsmOK C.σ ext.asm) (harr : ∀ a D, ext.dsc a = some D → ArrOK C a D) {t : TypeId} {a sz : Nat} {i : SE} {off : Nat} {v : MV} {x : Value}
    (hx : VR ρ (.uptr a sz i off) x) (h : uLoad P ext t a sz i off = some v) : ∃ y, (Instr.loadAt t x).run P w = .ok y w ∧ VR ρ v y := by
  have hA' : AsmOK ρ.σ ext.asm := by rw [R.sig]; exact hA
  simp only [VR] at hx
  obtain ⟨ad, had, hspot, h0, hlt, rfl⟩ := hx
  unfold uLoad at h
  split at h
  · cases h
  rename_i D hD
  split at h
  · cases h
  rename_i hsz
  have hsz := Nat.eq_of_beq_eq_true hsz
  have hok := harr a D hD
  unfold ArrOK at hok
  rw [← R.sig] at hok
  obtain ⟨hN, vs, e, fr, hb0, hcells⟩ := hok ad had (by omega)
  have hb : w.heap[ad.block]? = some (.cells vs e fr) := by rw [R.below.block _ hN]; exact hb0
  obtain ⟨j, hj⟩ : ∃ j : Nat, i.eval ρ.σ = (j : Int) := ⟨(i.eval ρ.σ).toNat, by omega⟩
  have hjlt : j < (ρ.σ.arr a).2 := by omega
  have hjn : (i.eval ρ.σ).toNat = j := by omega
  rw [hjn]
  subst hsz
  split at h
  · cases h
  · rename_i hag
    split at h
    · rename_i c hc
      cases h
      obtain ⟨y, hy, hv⟩ := hcells j hjlt off c hc
      refine ⟨y, ?_, known_sound hA' (cell_mv hj hv)⟩
      simp only [Instr.loadAt, Instr.sureAddr, Sem.run_bind, Sem.run_pure, Result.andThen_ok, loadVar, run_isAgg' hag]
      simp only [Bool.false_eq_true, if_false]
      exact run_load_cell hb hy
    · cases h
  · rename_i hag
    split at h
    · cases h
    rename_i n hn
    split at h
    case h_2 => cases h
    rename_i hle
    cases h
    have hle := Nat.le_of_ble_eq_true hle
    have hC : ∀ (L : List CK) (o : Nat), (∀ k c, L[k]? = some c → D[o + k]? = some c) → Cells ρ (ad.off + j * D.length + o) (cellsU ext.asm a i o L) vs := by
      intro L
      induction L with
      | nil => intro o _ k v hk; simp [cellsU] at hk
      | cons c L ih =>
        intro o hL k v hk
        cases k with
        | zero =>
          simp only [cellsU, List.getElem?_cons_zero] at hk; cases hk
          obtain ⟨y, hy, hv⟩ := hcells j hjlt o c (by simpa using hL 0 c (by simp))
          exact ⟨y, by simpa using hy, known_sound hA' (cell_mv hj hv)⟩
        | succ k =>
          simp only [cellsU, List.getElem?_cons_succ] at hk
          obtain ⟨y, hy, hv⟩ := ih (o + 1) (fun k c hk => by
            have := hL (k + 1) c (by simpa using hk)
            rw [show o + 1 + k = o + (k + 1) by omega]; exact this) k v hk
          exact ⟨y, by rw [← hy]; congr 1; omega, hv⟩
    have hcs := hC ((D.drop off).take n) off (fun k c hk => by
      rw [List.getElem?_take] at hk
      split at hk
      · rw [List.getElem?_drop] at hk; exact hk
      · cases hk)
    have hlen : (cellsU ext.asm a i off ((D.drop off).take n)).length = n := by
      have : ∀ (L : List CK) (o : Nat), (cellsU ext.asm a i o L).length = L.length := by
        intro L
        induction L with
        | nil => intro o; rfl
        | cons c L ih => intro o; simp [cellsU, ih]
      rw [this, List.length_take, List.length_drop]; omega
    obtain ⟨xs, h1, h2, _⟩ := cells_run (P := P) hb hcs
    refine ⟨.agg xs.toArray, ?_, by simp only [VR]; exact ⟨_, rfl, h1⟩⟩
    rw [hlen] at h2
    simp [Instr.loadAt, Instr.sureAddr, loadVar, run_isAgg' hag, run_sizeOf' hn, h2]

theorem uLen_sound {A : Asm} (hA : AsmOK ρ.σ A) (R : Repr C ρ s w) {ts : Array TypeId} {ty : TypeId} {a v : MV} {x : Value} (hx : VR ρ a x) (h : hLen P A ts a s = some v) : ∃ y, (Builtin.len_ ts ty #[x]).run P w = .ok y w ∧ VR ρ v y := by
  unfold hLen at h
  split at h
  · rename_i r hr
    split at h
    case h_2 => cases h
    cases h
    unfold uLen at hr
    split at hr
    · rename_i a n
      split at hr
      case h_2 => cases hr
      rename_i t ht
      split at hr
      case h_2 => cases hr
      rename_i e hu
      cases hr
      simp only [VR] at hx
      obtain ⟨c, rfl, hn⟩ := hx
      exact ⟨goInt (ρ.σ.arr a).2, by simp [Builtin.len_, ht, run_underlying' hu], known_sound hA (by simp only [VR, goInt, hn])⟩
    · rename_i e
      split at hr
      case h_2 => cases hr
      rename_i t ht
      split at hr
      case h_2 => cases hr
      rename_i hu
      cases hr
      simp only [VR] at hx; subst hx
      exact ⟨goInt (dec (e.eval ρ.σ)).length, by simp [Builtin.len_, ht, run_underlying' hu, bytes_size], known_sound hA (by simp [VR, goInt, SE.eval, appV])⟩
    · cases hr
  · exact mLen_sound R hx h

theorem uIndexAddr_sound {A : Asm} (hA : AsmOK ρ.σ A) {t : TypeId} {a : Nat} {n : SE} {i v : MV} {x y : Value} (hx : VR ρ (.usl a n) x) (hy : VR ρ i y) (hlies : 0 < (ρ.σ.arr a).2 → ∃ ad, (ρ.σ.arr a).1 = some ad ∧ ad.spot = none) (h : uIndexAddr P A t a n i = some v) :
    ∃ z, (Instr.indexAt t x y).run P w = .ok z w ∧ VR ρ v z := by
  unfold uIndexAddr at h
  split at h
  · cases h
  rename_i k e he
  split at h
  case h_2 => cases h
  rename_i el hu
  split at h
  · cases h
  rename_i sz hsz
  split at h
  case h_2 => cases h
  rename_i hb
  cases h
  rw [Bool.and_eq_true] at hb
  have h0 := geq0_sound hA hb.1
  have h1 := lssR_sound hA hb.2
  have hy := seOf_sound he hy
  simp only [VR] at hx
  obtain ⟨c, hx, hn⟩ := hx
  subst hx hy
  rw [hn] at h1
  obtain ⟨ad, har, hs⟩ := hlies (by omega)
  refine ⟨.pointer (some ⟨ad.block, ad.off + (e.eval ρ.σ).toNat * sz + 0, none⟩), ?_, by simp only [VR]; exact ⟨ad, har, hs, h0, h1, rfl⟩⟩
  rw [har]
  obtain ⟨b, o, sp⟩ := ad
  simp only at hs; subst hs
  simp only [Instr.indexAt, asIntOf, Sem.run_bind, Sem.run_pure, Result.andThen_ok, run_underlying' hu, Instr.sureAddr]
  simp [h0, h1, run_sizeOf' hsz, Addr.add_lit]

theorem uIndex_sound {A : Asm} (hA : AsmOK ρ.σ A) {t : TypeId} {e : SE} {i v : MV} {x y : Value} (hx : VR ρ (.ustr e) x) (hy : VR ρ i y) (h : uIndex P A t e i = some v) :
    ∃ z, (Instr.index t x y).run P w = .ok z w ∧ VR ρ v z := by
  unfold uIndex at h
  split at h
  · cases h
  rename_i k ie he
  split at h
  case h_2 => cases h
  rename_i hu
  split at h
  case h_2 => cases h
  rename_i hb
  cases h
  rw [Bool.and_eq_true] at hb
  have h0 := geq0_sound hA hb.1
  have h1 := lssR_sound hA hb.2
  have hy := seOf_sound he hy
  subst hy
  have hlt : (ie.eval ρ.σ).toNat < (dec (e.eval ρ.σ)).length := by simp only [SE.eval, appV] at h1; omega
  have hx' : VR ρ (.str (dec (e.eval ρ.σ))) x := by simpa only [VR] using hx
  have hc : (dec (e.eval ρ.σ))[(ie.eval ρ.σ).toNat]? = some ((dec (e.eval ρ.σ))[(ie.eval ρ.σ).toNat]) := List.getElem?_eq_getElem hlt
  obtain ⟨z, hz, hv⟩ := mIndex_sound (P := P) (w := w) (ρ := ρ) (t := t) (i := .int k (ie.eval ρ.σ)) (y := .int k (ie.eval ρ.σ)) (v := .int .u8 (((dec (e.eval ρ.σ))[(ie.eval ρ.σ).toNat]).toNat : Int)) hx' (by simp only [VR])
    (by simp only [mIndex, hu, h0, if_true, hc]; rfl)
  refine ⟨z, hz, known_sound hA ?_⟩
  simp only [VR] at hv ⊢
  rw [hv]
  simp only [SE.eval, appV, hc]

theorem bndU_sound {x : Option MV} {d e : SE} (h : bndU x d = some e) {x' : Option Value} (hx : VRO ρ x x') : (x = none ∧ e = d ∧ x' = none) ∨ ∃ k, x' = some (.int k (e.eval ρ.σ)) := by
  unfold bndU at h
  split at h
  · cases h; cases x' <;> simp_all [VRO]
  · rename_i v
    split at h
    · rename_i k e' he
      cases h
      cases x' with
      | none => exact hx.elim
      | some y => exact .inr ⟨k, by rw [seOf_sound he hx]⟩
    · cases h

theorem uSlice_sound {A : Asm} (hA : AsmOK ρ.σ A) (R : Repr C ρ s w) {t : TypeId} {e : SE} {lo hi mx : Option MV} {x : Value} {lo' hi' mx' : Option Value} {v : MV} (hx : VR ρ (.ustr e) x) (k1 : VRO ρ lo lo') (k2 : VRO ρ hi hi') (k3 : VRO ρ mx mx')
    (h : uSlice P A t e lo hi mx = some v) : ∃ y, (Instr.sliceAt t x lo' hi' mx').run P w = .ok y w ∧ VR ρ v y := by
  unfold uSlice at h
  split at h
  · cases h
  split at h
  case h_2 => cases h
  rename_i hu
  split at h
  case h_2 => cases h
  rename_i l hh hl hhh
  split at h
  case h_2 => cases h
  rename_i hb
  cases h
  simp only [Bool.and_eq_true] at hb
  have b0 := geq0_sound hA hb.1
  have b1 := leqR_sound hA hb.2.1
  have b2 := leqR_sound hA hb.2.2
  simp only [SE.eval, appV] at b2
  have hx' : VR ρ (.str (dec (e.eval ρ.σ))) x := by simpa only [VR] using hx
  have fin : ∀ {lo2 hi2 : Option MV}, VRO ρ lo2 lo' → VRO ρ hi2 hi' → bnd hi2 (dec (e.eval ρ.σ)).length (dec (e.eval ρ.σ)).length = some (hh.eval ρ.σ).toNat → bnd lo2 0 (hh.eval ρ.σ).toNat = some (l.eval ρ.σ).toNat →
      ∃ y, (Instr.sliceAt t x lo' hi' mx').run P w = .ok y w ∧ VR ρ (.ustr (.app 23 e l hh)) y := by
    intro lo2 hi2 q1 q2 q3 q4
    obtain ⟨y, hy, hv⟩ := mSlice_sound (P := P) (t := t) R hx' q1 q2 k3 (v := .str (((dec (e.eval ρ.σ)).take (hh.eval ρ.σ).toNat).drop (l.eval ρ.σ).toNat)) (by simp [mSlice, hu, q3, q4])
    refine ⟨y, hy, ?_⟩
    simp only [VR] at hv ⊢
    rw [hv]
    simp only [SE.eval, appV, dec_enc]
  rcases bndU_sound hhh k2 with ⟨rfl, rfl, rfl⟩ | ⟨kh, rfl⟩ <;> rcases bndU_sound hl k1 with ⟨rfl, rfl, rfl⟩ | ⟨kl, rfl⟩
  · exact fin (lo2 := none) (hi2 := none) trivial trivial (by simp [bnd, SE.eval, appV]) (by simp [bnd, SE.eval])
  · exact fin (lo2 := some (.int kl (l.eval ρ.σ))) (hi2 := none) (by simp [VRO, VR]) trivial (by simp [bnd, SE.eval, appV]) (by simp only [bnd]; rw [if_pos ⟨b0, by omega⟩])
  · exact fin (lo2 := none) (hi2 := some (.int kh (hh.eval ρ.σ))) trivial (by simp [VRO, VR]) (by simp only [bnd]; rw [if_pos ⟨by omega, b2⟩]) (by simp [bnd, SE.eval])
  · exact fin (lo2 := some (.int kl (l.eval ρ.σ))) (hi2 := some (.int kh (hh.eval ρ.σ))) (by simp [VRO, VR]) (by simp [VRO, VR]) (by simp only [bnd]; rw [if_pos ⟨by omega, b2⟩]) (by simp only [bnd]; rw [if_pos ⟨b0, by omega⟩])

theorem uFieldAddr_sound {t : TypeId} {f a sz : Nat} {i : SE} {off : Nat} {v : MV} {x : Value} (hx : VR ρ (.uptr a sz i off) x) (h : uFieldAddr P t f a sz i off = some v) :
    ∃ y, (Instr.fieldAt t x f).run P w = .ok y w ∧ VR ρ v y := by
  unfold uFieldAddr at h
  split at h
  case h_2 => cases h
  rename_i fs hu
  simp only [VR] at hx
  obtain ⟨ad, had, hspot, h0, h1, rfl⟩ := hx
  split at h
  · cases h
  rename_i fl hf
  split at h
  case h_2 => cases h
  rename_i n hn
  cases h
  refine ⟨.pointer (some ⟨ad.block, ad.off + (i.eval ρ.σ).toNat * sz + (off + fl.offset), none⟩), ?_, by simp only [VR]; exact ⟨ad, had, hspot, h0, h1, rfl⟩⟩
  simp only [Instr.fieldAt, Sem.run_bind, run_underlying' hu, Result.andThen_ok, hf, Instr.sureAddr, Sem.run_pure, fieldPlace, run_sizeOf' hn]
  simp [Addr.add_lit, Nat.add_assoc]

theorem uConv_sound (R : Repr C ρ s w) {src dst : TypeId} {a v : MV} {x : Value} (hx : VR ρ a x) (h : uConv P src dst a s = some v) : ∃ y, (convert src dst x).run P w = .ok y w ∧ VR ρ v y := by
  unfold uConv at h
  split at h
  case h_2 => cases h
  rename_i e hs
  split at h
  case h_2 => cases h
  rename_i hp off len cap
  split at h
  case h_2 => cases h
  rename_i r hel
  obtain ⟨n, cs⟩ := r
  unfold uText at h
  split at h
  case h_2 => cases h
  rename_i q he hd hcs
  cases h
  simp only at hcs
  subst hcs
  have hx' := hx
  simp only [VR] at hx
  obtain ⟨i, hi, hxe, _⟩ := hx
  have hn : n = len := by
    simp only [elems] at hel
    split at hel
    · rename_i h0; cases hel
    · simp only [Option.bind_eq_bind, Option.bind_eq_some_iff] at hel
      obtain ⟨_, _, hel⟩ := hel; cases hel; rfl
  subst hn
  refine ⟨.string ⟨[UInt8.ofNat (q.eval ρ.σ).toNat].toArray⟩, ?_, by simp [VR, SE.eval, appV, dec_enc]⟩
  rw [hxe, run_convert_bytes_string w src dst e _ _ _ hs he hd]
  obtain ⟨_, hlen, xs, hxs, hrun⟩ := elems_sound (P := P) R hx' hel
  obtain ⟨y, ys, rfl, hy, hys⟩ := hxs.cons_inv
  rw [hys.nil_inv] at hrun
  simp only [VR] at hy
  subst hy
  have hl : (loadCells ⟨i.block, i.off + off, none⟩ n).run P w = .ok ([q.eval ρ.σ].map (Value.int .u8)).toArray w := by
    have := hrun w rfl
    rw [hxe] at this
    simpa [Builtin.firstCells] using this
  rw [run_bytesToString w _ n cap [q.eval ρ.σ] hl, foldl_push]
  simp

end
end Go.Mir
