/- Slices that came in: the row's words about memory give what the mirror asks. -/
import Derived.Test.YtohonlojnflejaaGreatDoorMirEval
import Derived.Deep.Slices
import Derived.ChangeMaps5
namespace Go.Mir
open Go.RowKit Go.ChangeShapes Go.WideShapes

/-- A cell's number. -/
def CellNum : CK → Int → Value → Prop
  | .int kk, n, x => x = .int kk n ∧ (Lit.int kk n).wf = true
  | .str, n, x => x = .string ⟨(dec n).toArray⟩ ∧ (dec n).length ≤ maxLen
  | .bool, n, x => x = .bool (cmpV .neq n 0)

section
variable {H : Type} {enc0 : TypeId × Value → H} {P : Program} {W : World} {base : Nat} {spare : Nat → Bool} {held : Bool}

/-- A cell by its type. -/
def CellTy (P : Program) (t : TypeId) : CK → Prop
  | .int kk => P.underlying t = some (.int kk)
  | .str => P.underlying t = some .string
  | .bool => P.underlying t = some .bool

theorem cell_num {t : TypeId} {c : CK} (ht : CellTy P t c) {fuel : Nat} {v : Value} {y : DataW H × List MemPlace} (h : DataW.trod enc0 P W base spare held fuel t [v] = some y) : ∃ n, CellNum c n v := by
  cases c with
  | int kk =>
    obtain ⟨n, h1, _, h2⟩ := DataW.trod_int ht h
    cases h1
    exact ⟨n, rfl, h2⟩
  | str =>
    obtain ⟨s, h1, _, h2⟩ := DataW.trod_string ht h
    cases h1
    refine ⟨enc s.data.toList, ?_, ?_⟩
    · rw [dec_enc]
    · rw [dec_enc, Array.length_toList]; exact h2
  | bool =>
    obtain ⟨b, h1, _⟩ := DataW.trod_bool ht h
    cases h1
    refine ⟨if b then 1 else 0, ?_⟩
    simp only [CellNum]
    cases b <;> rfl

/-- An element's cells. -/
def ElemOK (H : Type) (enc0 : TypeId × Value → H) (P : Program) (W : World) (base : Nat) (spare : Nat → Bool) (held : Bool) (e : TypeId) (D : List CK) : Prop :=
  P.cellsOf e = D.length ∧ 0 < D.length ∧ ∀ (fuel : Nat) (cs : List Value) (y : DataW H × List MemPlace), cs.length = D.length → DataW.trod enc0 P W base spare held fuel e cs = some y → ∀ (k : Nat) (c : CK), D[k]? = some c → ∃ v n, cs[k]? = some v ∧ CellNum c n v

theorem elem_one {e : TypeId} {c : CK} (hs : P.cellsOf e = 1) (ht : CellTy P e c) : ElemOK H enc0 P W base spare held e [c] := by
  refine ⟨hs, by simp, fun fuel cs y hl h k c' hk => ?_⟩
  match cs, hl with
  | [v], _ =>
    cases k with
    | zero =>
      simp at hk; subst hk
      obtain ⟨n, hn⟩ := cell_num ht h
      exact ⟨v, n, by simp, hn⟩
    | succ k => simp at hk

theorem elem_struct {e : TypeId} {fs : Array Field} {D : List CK} (hs : P.cellsOf e = D.length) (hpos : 0 < D.length) (he : P.underlying e = some (.struct fs))
    (hf : ∀ (k : Nat) (c : CK), D[k]? = some c → ∃ f : Field, fs[k]? = some f ∧ f.offset = k ∧ P.cellsOf f.type = 1 ∧ CellTy P f.type c) : ElemOK H enc0 P W base spare held e D := by
  refine ⟨hs, hpos, fun fuel cs y hl h k c hk => ?_⟩
  obtain ⟨xs, n, _, _, _, hxl, hfs⟩ := DataW.trod_struct he h
  obtain ⟨f, h1, h2, h3, h4⟩ := hf k c hk
  have h5 := hfs k f h1
  have hklt : k < cs.length := by
    have := (List.getElem?_eq_some_iff.1 hk).1
    omega
  rw [h2, h3] at h5
  have h6 : (cs.drop k).take 1 = [cs[k]] := by
    rw [List.take_one, List.head?_drop, List.getElem?_eq_getElem hklt]; rfl
  rw [h6] at h5
  have hx : ∃ y', xs[k]? = some y' := by
    have := (Array.getElem?_eq_some_iff.1 h1).1
    exact ⟨xs[k]'(by omega), List.getElem?_eq_getElem _⟩
  obtain ⟨y', hy'⟩ := hx
  rw [hy'] at h5
  obtain ⟨m, hm⟩ := cell_num h4 h5
  exact ⟨cs[k], m, List.getElem?_eq_getElem hklt, hm⟩

/-- A slice that came in: where it lies, its cells' numbers. -/
theorem open_arr {t e : TypeId} {D : List CK} (ht : P.underlying t = some (.slice e)) (hel : ElemOK H enc0 P W base spare held e D) {v : Value} {d : DataW H} {p : List MemPlace} (hv : ∀ cs, v ≠ .agg cs) (h : DataW.Trod enc0 P W base spare held t v d p) :
    ∃ (ad : Option Addr) (len cap : Nat) (f : Int → Int → Int), v = .slice ad len cap ∧ len ≤ maxLen ∧ (0 < len → ∃ a, ad = some a ∧ a.spot = none) ∧
      ∀ a, ad = some a → 0 < len → ∃ vs ty fr, W.heap[a.block]? = some (.cells vs ty fr) ∧ ∀ (i : Nat), i < len → ∀ (k : Nat) (c : CK), D[k]? = some c → ∃ x, vs[a.off + i * D.length + k]? = some x ∧ CellNum c (f (i : Int) (k : Int)) x := by
  obtain ⟨fuel, hf⟩ := h
  have hcells : v.cells.toList = [v] ∨ ∃ cs, v = .agg cs := by
    cases v <;> first | exact .inr ⟨_, rfl⟩ | exact .inl rfl
  rcases hcells with hcells | ⟨cs, rfl⟩
  case inr => exact absurd rfl (hv cs)
  rw [hcells] at hf
  rcases Deep.open_slice ht hf with ⟨h1, _⟩ | ⟨a, len, cap, m, n, Dd, Pl, h1, hb, hl, hm, hmm, _, hx⟩
  · cases h1
    exact ⟨none, 0, 0, fun _ _ => 0, rfl, Nat.zero_le _, fun h => absurd h (by omega), fun a h => by cases h⟩
  · cases h1
    have hlm : len ≤ m := by rw [hmm]; split <;> omega
    have hcell : ∀ (i : Nat), i < len → ∀ (k : Nat) (c : CK), D[k]? = some c → ∃ x n, W.cell? (a.add (i * D.length + k)) = some x ∧ CellNum c n x := by
      intro i hi k c hk
      obtain ⟨cs', h1, h2⟩ := hx i (by omega)
      rw [hel.1] at h1
      obtain ⟨_, hlen, hc⟩ := World.cells?_some h1
      obtain ⟨x, q, hx1, hx2⟩ := hel.2.2 _ cs' _ hlen h2 k c hk
      have hkl := (List.getElem?_eq_some_iff.1 hk).1
      have := hc k hkl
      rw [Deep.add_add, hx1] at this
      exact ⟨x, q, this, hx2⟩
    classical
    refine ⟨some a, len, cap, fun i k => if h : ∃ n, ∃ x c, D[k.toNat]? = some c ∧ W.cell? (a.add (i.toNat * D.length + k.toNat)) = some x ∧ CellNum c n x then Classical.choose h else 0, rfl, by omega, fun h0 => ?_, fun a' ha' h0 => ?_⟩
    · refine ⟨a, rfl, ?_⟩
      obtain ⟨c, hc⟩ : ∃ c, D[0]? = some c := ⟨D[0]'hel.2.1, List.getElem?_eq_getElem _⟩
      obtain ⟨x, q, hx1, _⟩ := hcell 0 h0 0 c hc
      simp only [Nat.zero_mul, Nat.zero_add, Addr.add, if_true] at hx1
      unfold World.cell? at hx1
      split at hx1
      · split at hx1
        · cases hx1
        · rename_i hs; simpa using hs
      · cases hx1
    · cases ha'
      obtain ⟨c, hc⟩ : ∃ c, D[0]? = some c := ⟨D[0]'hel.2.1, List.getElem?_eq_getElem _⟩
      obtain ⟨x0, q0, hx0, _⟩ := hcell 0 h0 0 c hc
      have hblock : ∃ vs ty fr, W.heap[a.block]? = some (.cells vs ty fr) := by
        simp only [Nat.zero_mul, Nat.zero_add, Addr.add, if_true] at hx0
        unfold World.cell? at hx0
        split at hx0
        · rename_i vs ty fr hb'; exact ⟨vs, ty, fr, hb'⟩
        · cases hx0
      obtain ⟨vs, ty, fr, hb'⟩ := hblock
      refine ⟨vs, ty, fr, hb', fun i hi k c hk => ?_⟩
      obtain ⟨x, q, hx1, hx2⟩ := hcell i hi k c hk
      have hplace : vs[a.off + i * D.length + k]? = some x := by
        have := hx1
        unfold World.cell? at this
        have hbl : (a.add (i * D.length + k)).block = a.block := by unfold Addr.add; split <;> rfl
        have hof : (a.add (i * D.length + k)).off = a.off + (i * D.length + k) := by
          unfold Addr.add; split
          · rename_i h; rw [h]; rfl
          · rfl
        rw [hbl, hb'] at this
        simp only [hof] at this
        split at this
        · cases this
        · rw [Nat.add_assoc]; exact this
      refine ⟨x, hplace, ?_⟩
      have hex : ∃ n, ∃ x c, D[((k : Int)).toNat]? = some c ∧ W.cell? (a.add (((i : Int)).toNat * D.length + ((k : Int)).toNat)) = some x ∧ CellNum c n x := ⟨q, x, c, by simpa using hk, by simpa using hx1, hx2⟩
      simp only [dif_pos hex]
      obtain ⟨x', c', g1, g2, g3⟩ := Classical.choose_spec hex
      have e1 : c' = c := by simpa [hk] using g1.symm
      have e2 : x' = x := by simpa [hx1] using g2.symm
      rw [e1, e2] at g3
      exact g3

/-- The numbers of a slice that came in. -/
def ArrNums (σ : Val) (a : Nat) (len : Int) (D : List CK) : Prop :=
  0 ≤ len ∧ len ≤ (maxLen : Int) ∧ ∀ i : Nat, (i : Int) < len → ∀ (k : Nat) (c : CK), D[k]? = some c → ∃ x, CellNum c (σ.app (100 + a) (i : Int) (k : Int) 0) x
theorem arr_nums {ad : Option Addr} {len : Nat} {D : List CK} {f : Int → Int → Int} (hlen : len ≤ maxLen) (hl : 0 < len → ∃ a, ad = some a ∧ a.spot = none)
    (har : ∀ a, ad = some a → 0 < len → ∃ vs ty fr, W.heap[a.block]? = some (.cells vs ty fr) ∧ ∀ (i : Nat), i < len → ∀ (k : Nat) (c : CK), D[k]? = some c → ∃ x, vs[a.off + i * D.length + k]? = some x ∧ CellNum c (f (i : Int) (k : Int)) x)
    {σ : Val} {a : Nat} (hσ : ∀ i k, σ.app (100 + a) i k 0 = f i k) : ArrNums σ a (len : Int) D := by
  refine ⟨by omega, by omega, fun i hi k c hk => ?_⟩
  obtain ⟨ad', h1, _⟩ := hl (by omega)
  obtain ⟨vs, _, _, _, h2⟩ := har ad' h1 (by omega)
  obtain ⟨x, _, hx⟩ := h2 i (by omega) k c hk
  exact ⟨x, by rw [hσ]; exact hx⟩

theorem cellNum_ok {σ : Val} {a i k : Nat} {c : CK} {x : Value} (h : CellNum c (σ.app (100 + a) (i : Int) (k : Int) 0) x) : CellOK σ a i k c x := by
  cases c <;> simp only [CellNum] at h <;> simp only [CellOK] <;> first | exact h.1 | exact h

theorem open_flat {e : TypeId} {D : List CK} (he : ElemOK H enc0 P W base spare held e D) {v : Value} {d : DataW H} {p : List MemPlace} (hv : ∃ cs, v = .agg cs ∧ cs.size = P.cellsOf e) (h : DataW.Trod enc0 P W base spare held e v d p) :
    ∃ (cs : Array Value) (f : Nat → Int), v = .agg cs ∧ cs.size = D.length ∧ ∀ (k : Nat) (c : CK), D[k]? = some c → ∃ x, cs[k]? = some x ∧ CellNum c (f k) x := by
  obtain ⟨cs, rfl, hsz⟩ := hv
  obtain ⟨fuel, hf⟩ := h
  rw [he.1] at hsz
  classical
  refine ⟨cs, fun k => if h : ∃ n, ∃ x c, D[k]? = some c ∧ cs[k]? = some x ∧ CellNum c n x then Classical.choose h else 0, rfl, hsz, fun k c hk => ?_⟩
  obtain ⟨x, n, hx, hn⟩ := he.2.2 fuel cs.toList _ (by simpa using hsz) hf k c hk
  rw [Array.getElem?_toList] at hx
  refine ⟨x, hx, ?_⟩
  have hex : ∃ n, ∃ x c, D[k]? = some c ∧ cs[k]? = some x ∧ CellNum c n x := ⟨n, x, c, hk, hx, hn⟩
  simp only [dif_pos hex]
  obtain ⟨x', c', g1, g2, g3⟩ := Classical.choose_spec hex
  rw [hk] at g1; cases g1
  rw [hx] at g2; cases g2
  exact g3

/-- A struct of numbers (and texts) that came in. -/
def flatMV (b : Nat) : List CK → List MV
  | [] => []
  | .int k :: l => .sx k (.var b) :: flatMV (b + 1) l
  | .str :: l => .ustr (.var b) :: flatMV (b + 1) l
  | .bool :: l => .sb (.cmp .neq (.var b) (.lit 0)) :: flatMV (b + 1) l
theorem flat_VRs {ρ : Loc} : ∀ {D : List CK} {b : Nat} {l : List Value} {f : Nat → Int}, l.length = D.length → (∀ (k : Nat) (c : CK), D[k]? = some c → ∃ x, l[k]? = some x ∧ CellNum c (f k) x) → (∀ k, k < D.length → ρ.σ.v (b + k) = f k) → VRs ρ (flatMV b D) l
  | [], b, l, f, hl, _, _ => by
    have : l = [] := List.eq_nil_of_length_eq_zero (by simpa using hl)
    subst this; exact .nil
  | c :: D, b, [], f, hl, _, _ => by simp at hl
  | c :: D, b, x :: l, f, hl, hc, hf => by
    obtain ⟨x', hx, hn⟩ := hc 0 c (by simp)
    simp at hx; subst hx
    have h0 := hf 0 (by simp)
    have ht : VRs ρ (flatMV (b + 1) D) l := flat_VRs (f := fun k => f (k + 1)) (by simpa using hl) (fun k c hk => by
      obtain ⟨y, hy, hn⟩ := hc (k + 1) c (by simpa using hk)
      exact ⟨y, by simpa using hy, hn⟩) (fun k hk => by rw [← hf (k + 1) (by simpa using hk)]; congr 1; omega)
    have h0 : ρ.σ.v b = f 0 := h0
    cases c <;> simp only [CellNum] at hn <;> refine .cons ?_ ht <;> simp only [VR, SE.eval, SB.eval, h0] <;> first | exact hn.1 | exact hn
theorem flat_VR {ρ : Loc} {D : List CK} {b : Nat} {cs : Array Value} {f : Nat → Int} (hl : cs.size = D.length) (hc : ∀ (k : Nat) (c : CK), D[k]? = some c → ∃ x, cs[k]? = some x ∧ CellNum c (f k) x) (hf : ∀ k, k < D.length → ρ.σ.v (b + k) = f k) : VR ρ (.agg (flatMV b D)) (.agg cs) := by
  simp only [VR]
  exact ⟨cs, rfl, flat_VRs (by simpa using hl) (fun k c hk => by simpa using hc k c hk) hf⟩

end
theorem lit_u64 (n : Int) : ((Lit.int .u64 n).wf = true) = (0 ≤ n ∧ n < 18446744073709551616) := by
  have h : (Lit.int .u64 n).wf = (decide (0 ≤ n) && decide (n ≤ 18446744073709551615)) := rfl
  rw [h, Bool.and_eq_true, decide_eq_true_eq, decide_eq_true_eq, eq_iff_iff]
  omega
theorem lit_i64 (n : Int) : ((Lit.int .i64 n).wf = true) = (-9223372036854775808 ≤ n ∧ n < 9223372036854775808) := by
  have h : (Lit.int .i64 n).wf = (decide (-9223372036854775808 ≤ n) && decide (n ≤ 9223372036854775807)) := rfl
  rw [h, Bool.and_eq_true, decide_eq_true_eq, decide_eq_true_eq, eq_iff_iff]
  omega
theorem VR_sx {ρ : Loc} {k : IntKind} {e : SE} {x : Value} (h : x = .int k (e.eval ρ.σ)) : VR ρ (.sx k e) x := by simpa only [VR] using h
theorem VR_ustr {ρ : Loc} {e : SE} {x : Value} (h : x = .string ⟨(dec (e.eval ρ.σ)).toArray⟩) : VR ρ (.ustr e) x := by simpa only [VR] using h
theorem VR_sb {ρ : Loc} {e : SB} {x : Value} (h : x = .bool (e.eval ρ.σ)) : VR ρ (.sb e) x := by simpa only [VR] using h
theorem VR_usl {ρ : Loc} {a : Nat} {n : SE} {x : Value} {c : Nat} (h : x = .slice (ρ.σ.arr a).1 (ρ.σ.arr a).2 c) (hn : n.eval ρ.σ = ((ρ.σ.arr a).2 : Int)) : VR ρ (.usl a n) x := by simp only [VR]; exact ⟨c, h, hn⟩
theorem ArrNums_sub (σ : Val) (τ : List (Nat × SE)) (a : Nat) (n : Int) (D : List CK) : ArrNums (σ.sub τ) a n D = ArrNums σ a n D := rfl
theorem arr_u64 {σ : Val} {a : Nat} {len : Int} {D : List CK} (h : ArrNums σ a len D) {i : Int} (h0 : 0 ≤ i) (h1 : i < len) {k : Nat} (hk : D[k]? = some (.int .u64)) : 0 ≤ σ.app (100 + a) i (k : Int) 0 ∧ σ.app (100 + a) i (k : Int) 0 < 18446744073709551616 := by
  obtain ⟨x, hx⟩ := h.2.2 i.toNat (by omega) k _ hk
  have e : ((i.toNat : Nat) : Int) = i := by omega
  rw [e] at hx
  have := hx.2
  rw [lit_u64] at this
  exact this
theorem arr_i64 {σ : Val} {a : Nat} {len : Int} {D : List CK} (h : ArrNums σ a len D) {i : Int} (h0 : 0 ≤ i) (h1 : i < len) {k : Nat} (hk : D[k]? = some (.int .i64)) : -9223372036854775808 ≤ σ.app (100 + a) i (k : Int) 0 ∧ σ.app (100 + a) i (k : Int) 0 < 9223372036854775808 := by
  obtain ⟨x, hx⟩ := h.2.2 i.toNat (by omega) k _ hk
  have e : ((i.toNat : Nat) : Int) = i := by omega
  rw [e] at hx
  have := hx.2
  rw [lit_i64] at this
  exact this
end Go.Mir
