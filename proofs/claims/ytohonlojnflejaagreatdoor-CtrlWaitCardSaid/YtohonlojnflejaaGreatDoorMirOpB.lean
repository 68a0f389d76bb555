/- The mirror's operations against the machine's: lengths, least and greatest, maps. -/
import Derived.Test.YtohonlojnflejaaGreatDoorMirOpA
namespace Go.Mir
open Go.RowKit

section
variable {P : Program} {w : World} {C : Ctx} {ρ : Loc} {s : MS}

theorem mMinMax_sound {mx : Bool} {l : List MV} {xs : List Value} {v : MV} {ts : Array TypeId} {ty : TypeId} (hl : VRs ρ l xs) (h : mMinMax mx l = some v) :
    ∃ y, (if mx then Builtin.max_ ts ty xs.toArray else Builtin.min_ ts ty xs.toArray).run P w = .ok y w ∧ VR ρ v y := by
  cases l with
  | nil => simp [mMinMax] at h
  | cons a l =>
    obtain ⟨x, ys, rfl, hx, hys⟩ := hl.cons_inv
    have main : ∀ (l : List MV) (ys : List Value) (a : MV) (x : Value), VRs ρ l ys → VR ρ a x → mmF mx a l = some v →
        ∃ y, (ys.foldlM (if mx = true then Builtin.max2 else Builtin.min2) x).run P w = .ok y w ∧ VR ρ v y := by
      intro l
      induction l with
      | nil =>
        intro ys a x hys hx h
        rw [hys.nil_inv]
        simp only [mmF] at h; cases h
        exact ⟨x, by simp, hx⟩
      | cons b l ih =>
        intro ys a x hys hx h
        obtain ⟨y, zs, rfl, hy, hzs⟩ := hys.cons_inv
        simp only [mmF] at h
        split at h
        case h_2 => cases h
        rename_i c hc
        unfold mm2 at hc
        split at hc
        · rename_i k n k' m
          cases hc
          simp only [VR] at hx hy; subst hx; subst hy
          obtain ⟨z, hz, hv⟩ := ih zs _ (.int k (if mx = true then (if m > n then m else n) else (if m < n then m else n))) hzs (by simp [VR]) h
          refine ⟨z, ?_, hv⟩
          rw [List.foldlM_cons]
          cases mx
          · simp only [Bool.false_eq_true, if_false, Sem.run_bind, Builtin.min2, Sem.run_pure, Result.andThen_ok] at hz ⊢
            exact hz
          · simp only [if_true, Sem.run_bind, Builtin.max2, Sem.run_pure, Result.andThen_ok] at hz ⊢
            exact hz
        · cases hc
    obtain ⟨y, hy, hv⟩ := main l ys a x hys hx h
    refine ⟨y, ?_, hv⟩
    cases mx
    · simpa [Builtin.min_] using hy
    · simpa [Builtin.max_] using hy

theorem mLen_sound (R : Repr C ρ s w) {ts : Array TypeId} {ty : TypeId} {a v : MV} {x : Value} (hx : VR ρ a x) (h : mLen P ts a s = some v) : ∃ y, (Builtin.len_ ts ty #[x]).run P w = .ok y w ∧ VR ρ v y := by
  unfold mLen at h
  split at h
  · cases h
  rename_i t ht
  split at h
  · rename_i b hu; cases h; simp only [VR] at hx; subst hx
    exact ⟨goInt b.length, by simp [Builtin.len_, ht, run_underlying' hu, bytes_size], by simp [VR, goInt]⟩
  · rename_i n e hu; cases h
    exact ⟨goInt n, by simp [Builtin.len_, ht, run_underlying' hu], by simp [VR, goInt]⟩
  · rename_i e hu; cases h; simp only [VR] at hx; subst hx
    exact ⟨goInt 0, by simp [Builtin.len_, ht, run_underlying' hu], by simp [VR, goInt]⟩
  · rename_i e hp off len cap hu; cases h; simp only [VR] at hx; obtain ⟨i, _, rfl, _⟩ := hx
    exact ⟨goInt len, by simp [Builtin.len_, ht, run_underlying' hu], by simp [VR, goInt]⟩
  · rename_i e hp eo len hu; cases h; simp only [VR] at hx
    obtain ⟨i, _, ⟨c, rfl, _, _⟩ | ⟨rfl, o, rfl⟩⟩ := hx
    · exact ⟨goInt len, by simp [Builtin.len_, ht, run_underlying' hu], by simp [VR, goInt]⟩
    · exact ⟨goInt 0, by simp [Builtin.len_, ht, run_underlying' hu], by simp [VR, goInt]⟩
  · rename_i k e hu; cases h; simp only [VR] at hx; subst hx
    exact ⟨goInt 0, by simp [Builtin.len_, ht, run_underlying' hu], by simp [VR, goInt]⟩
  · rename_i k e hp hu
    split at h
    case h_2 => cases h
    rename_i es clock hg
    cases h
    simp only [VR] at hx
    obtain ⟨i, hi, rfl⟩ := hx
    obtain ⟨j, b, hj, hb, ⟨xs, rfl, hxs⟩, _⟩ := R.obj _ _ hg
    rw [hi] at hj; cases hj
    refine ⟨goInt xs.size, ?_, by simp only [VR, goInt]; have := hxs.1; simp at this; rw [this]⟩
    simp [Builtin.len_, ht, run_underlying' hu, getObj, Sem.run, hb]
  · rename_i a0 hu
    split at h
    case h_2 => cases h
    rename_i n e hu2
    cases h
    exact ⟨goInt n, by simp [Builtin.len_, ht, run_underlying' hu, run_underlying' hu2], by simp [VR, goInt]⟩
  · cases h

/-- A key's kind. -/
def kindOk (d : TypeDesc) (k : MV) : Bool :=
  match d, k with
  | .int _, .int _ _ | .string, .str _ | .bool, .bool _ => true
  | _, _ => false

theorem keyOk_inv {t : TypeId} {k : MV} (h : keyOk P t k = true) : ∃ d, P.underlying t = some d ∧ kindOk d k = true := by
  unfold keyOk at h
  split at h <;> first | (cases h; done) | (rename_i hu; exact ⟨_, hu, by simp [kindOk]⟩) | (rename_i hu _; exact ⟨_, hu, by simp [kindOk]⟩) | (rename_i hu _ _; exact ⟨_, hu, by simp [kindOk]⟩)

theorem sameKey_sound {d : TypeDesc} {k k' : MV} {x x' : Value} {r : Bool} (hd : kindOk d k = true) (hx : VR ρ k x) (hx' : VR ρ k' x') (h : sameKey k k' = some r) :
    Instr.sameNow d x x' = some r ∧ (r = true → ∀ n, Instr.sameBits (n + 1) x' x = true) := by
  unfold sameKey at h
  split at h
  · rename_i j n j' m
    split at h
    · rename_i hj
      subst hj
      cases h
      simp only [VR] at hx hx'; subst hx; subst hx'
      cases d <;> simp [kindOk] at hd
      refine ⟨by simp [Instr.sameNow], fun hr n' => ?_⟩
      simp at hr; subst hr
      simp [Instr.sameBits]
    · cases h
  · rename_i a b
    cases h
    simp only [VR] at hx hx'; subst hx; subst hx'
    cases d <;> simp [kindOk] at hd
    refine ⟨by simp [Instr.sameNow, beq_bytes], fun hr n' => ?_⟩
    simp at hr; subst hr
    simp [Instr.sameBits, beq_bytes]
  · rename_i a b
    cases h
    simp only [VR] at hx hx'; subst hx; subst hx'
    cases d <;> simp [kindOk] at hd
    refine ⟨by simp [Instr.sameNow], fun hr n' => ?_⟩
    simp at hr; subst hr
    simp [Instr.sameBits]
  · cases h

theorem ERs.cons_inv {e : MV × MV × Nat} {es : List (MV × MV × Nat)} {xs : List MapEntry} (h : ERs ρ (e :: es) xs) : ∃ y ys, xs = y :: ys ∧ ER ρ e y ∧ ERs ρ es ys := by
  cases xs with
  | nil => exact absurd h.1 (by simp)
  | cons y ys =>
    exact ⟨y, ys, rfl, h.2 0 e y (by simp) (by simp), by simpa using h.1, fun i u z hu hz => h.2 (i + 1) u z (by simpa using hu) (by simpa using hz)⟩

theorem findKey_sound {d : TypeDesc} {k : MV} {x : Value} (hd : kindOk d k = true) (hx : VR ρ k x) : ∀ (es : List (MV × MV × Nat)) (xs : List MapEntry) (i : Nat) (r : Option (Nat × MV × Nat)), ERs ρ es xs → findKey k es i = some r →
    (r = none ∧ Instr.findNow d x xs i = some none) ∨ ∃ j v b e, r = some (i + j, v, b) ∧ Instr.findNow d x xs i = some (some (i + j, e.val)) ∧ xs[j]? = some e ∧ VR ρ v e.val ∧ e.born = b ∧ ∀ n, Instr.sameBits (n + 1) e.key x = true
  | [], xs, i, r, hes, h => by
    simp only [findKey] at h; cases h
    have : xs = [] := List.eq_nil_of_length_eq_zero (by simpa using hes.1)
    subst this
    exact .inl ⟨rfl, rfl⟩
  | e :: es, xs, i, r, hes, h => by
    obtain ⟨y, ys, rfl, hy, hys⟩ := hes.cons_inv
    obtain ⟨k', v, b⟩ := e
    simp only [findKey] at h
    split at h
    · rename_i hs
      cases h
      obtain ⟨h1, h2⟩ := sameKey_sound hd hx hy.1 hs
      exact .inr ⟨0, v, b, y, rfl, by simp [Instr.findNow, h1], by simp, hy.2.1, hy.2.2, h2 rfl⟩
    · rename_i hs
      obtain ⟨h1, _⟩ := sameKey_sound hd hx hy.1 hs
      rcases findKey_sound hd hx es ys (i + 1) r hys h with ⟨hr, hf⟩ | ⟨j, v', b', e', hr, hf, he, rest⟩
      · exact .inl ⟨hr, by simp only [Instr.findNow, h1]; exact hf⟩
      · refine .inr ⟨j + 1, v', b', e', by rw [hr, show i + (j + 1) = i + 1 + j from by omega], ?_, by simpa using he, rest⟩
        simp only [Instr.findNow, h1]
        rw [hf, show i + (j + 1) = i + 1 + j from by omega]
    · cases h

theorem run_findKey {d : TypeDesc} {t : TypeId} (hu : P.underlying t = some d) {x : Value} {xs : List MapEntry} {r : Option (Nat × Value)} (h : Instr.findNow d x xs 0 = some r) : (Instr.findKey t x xs).run P w = .ok r w := by
  simp [Instr.findKey, run_underlying' hu, h]

theorem run_checkKey {t : TypeId} {k : MV} {x : Value} {b : Bool} (h : keyOk P t k = true) (hx : VR ρ k x) : (Instr.checkKey b 10000 t x).run P w = .ok () w := by
  show (Instr.checkKey b (9999 + 1) t x).run P w = .ok () w
  generalize 9999 = n
  obtain ⟨d, hu, hd⟩ := keyOk_inv h
  unfold kindOk at hd
  split at hd <;> first | (cases hd; done) | skip
  all_goals
    simp only [VR] at hx; subst hx
    simp [Instr.checkKey, run_underlying' hu]

theorem run_getObj {r : Nat} {xs : Array MapEntry} {clock : Nat} (h : w.heap[r]? = some (.map xs clock)) : (getObj r).run P w = .ok (.map xs clock) w := by
  simp [getObj, Sem.run, h]

theorem run_setObj {r : Nat} {xs : Array MapEntry} {clock : Nat} {o : Obj} (h : w.heap[r]? = some (.map xs clock)) : (setObj r o).run P w = .ok () { w with heap := w.heap.setIfInBounds r o } := by
  simp [setObj, Sem.run, h]

/-- A map is written. -/
theorem Repr.setMap (R : Repr C ρ s w) {h : Pos} {es es' : List (MV × MV × Nat)} {clock clock' : Nat} {i : HI} (hs : s.get h = some (.map es clock)) (hi : ρ h = some i) {xs' : Array MapEntry} (he : ERs ρ es' xs'.toList) :
    Repr C ρ (s.put h (.map es' clock')) { w with heap := w.heap.setIfInBounds i.block (.map xs' clock') } := by
  have hlt := R.lt hs hi
  exact R.upd (o := .map es clock) hs rfl rfl hi (by simp) (fun k hk => by rw [Array.getElem?_setIfInBounds, if_neg (fun e => hk e.symm)]) (by simp [hlt]) ⟨xs', rfl, he⟩

theorem mLookup_sound (R : Repr C ρ s w) {t : TypeId} {a k v : MV} {x y : Value} {ok : Bool} (hx : VR ρ a x) (hy : VR ρ k y) (h : mLookup P t a k ok s = some v) : ∃ z, (Instr.lookup t x y ok).run P w = .ok z w ∧ VR ρ v z := by
  unfold mLookup at h
  split at h
  case h_2 => cases h
  rename_i kt et hu
  simp only [Option.bind_eq_bind] at h
  split at h
  case isFalse => cases h
  rename_i hk
  simp only [Option.bind_eq_some_iff] at h
  obtain ⟨es, hes, r, hr, ⟨v', there⟩, hv, h⟩ := h
  simp only at h
  cases h
  obtain ⟨d, hud, hd⟩ := keyOk_inv hk
  have hmap : ∃ xs : Array MapEntry, ERs ρ es xs.toList ∧ (x = .map none ∧ xs = #[] ∨ ∃ r clock, x = .map (some r) ∧ w.heap[r]? = some (.map xs clock)) := by
    split at hes
    · cases hes
      simp only [VR] at hx; subst hx
      exact ⟨#[], ⟨by simp, by simp⟩, .inl ⟨rfl, rfl⟩⟩
    · rename_i hp
      split at hes
      case h_2 => cases hes
      rename_i es' clock hg
      cases hes
      simp only [VR] at hx
      obtain ⟨i, hi, rfl⟩ := hx
      obtain ⟨j, b, hj, hb, ⟨xs, rfl, hxs⟩, _⟩ := R.obj _ _ hg
      rw [hi] at hj; cases hj
      exact ⟨xs, hxs, .inr ⟨_, clock, rfl, hb⟩⟩
    · cases hes
  obtain ⟨xs, hxs, hm⟩ := hmap
  have hrun : ∀ z' : Value, VR ρ v' z' → ∃ z, (if ok then Value.tuple #[z', .bool there] else z') = z ∧ VR ρ (if ok then .tuple [v', .bool there] else v') z := by
    intro z' hz'
    cases ok
    · exact ⟨z', rfl, hz'⟩
    · exact ⟨_, rfl, by simp only [if_true, VR]; exact ⟨_, rfl, .cons hz' (.cons (by simp [VR]) .nil)⟩⟩
  rcases findKey_sound hd hy es xs.toList 0 r hxs hr with ⟨rfl, hf⟩ | ⟨j, v1, b, e, rfl, hf, he, hve, _, _⟩
  · simp only [Option.map_eq_some_iff] at hv
    obtain ⟨z, hz, hzz⟩ := hv
    cases hzz
    obtain ⟨z', hz1, hz2, _⟩ := run_zeroValue' (P := P) (w := w) (ρ := ρ) hz
    obtain ⟨q, hq1, hq2⟩ := hrun z' hz2
    refine ⟨q, ?_, hq2⟩
    unfold Instr.lookup
    simp only [Sem.run_bind, run_underlying' hu, Result.andThen_ok]
    rcases hm with ⟨rfl, rfl⟩ | ⟨r, clock, rfl, hb⟩
    · simp only [Sem.run_bind, Sem.run_pure, run_checkKey hk hy, Result.andThen_ok, run_findKey hud hf, hz1, hq1]
    · simp only [Sem.run_bind, Sem.run_pure, run_getObj hb, run_checkKey hk hy, Result.andThen_ok, run_findKey hud hf, hz1, hq1]
  · cases hv
    obtain ⟨q, hq1, hq2⟩ := hrun e.val hve
    refine ⟨q, ?_, hq2⟩
    unfold Instr.lookup
    simp only [Sem.run_bind, run_underlying' hu, Result.andThen_ok]
    rcases hm with ⟨rfl, rfl⟩ | ⟨r, clock, rfl, hb⟩
    · simp only [Sem.run_bind, Sem.run_pure, run_checkKey hk hy, Result.andThen_ok, run_findKey hud hf, hq1]
    · simp only [Sem.run_bind, Sem.run_pure, run_getObj hb, run_checkKey hk hy, Result.andThen_ok, run_findKey hud hf, hq1]

end
end Go.Mir
