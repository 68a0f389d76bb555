/- The mirror's run against the machine's: code of all kinds, a body, a call. -/
import Derived.Test.YtohonlojnflejaaGreatDoorMirEv
namespace Go.Mir
open Go.RowKit

section
variable {P : Program} {C : Ctx}

/-- What is shown of code: of a loop, in how many rounds it ends. -/
def CodeGoal (P : Program) (m : Nat) (c : Code) (Q : Exit → Act → World → Prop) (a : Act) (w : World) : Prop :=
  match c with
  | .loop c' => Code.rounds P c' Q m a w
  | c => c.wp P Q a w

theorem CodeGoal.wp {m : Nat} {c : Code} {Q : Exit → Act → World → Prop} {a : Act} {w : World} (h : CodeGoal P m c Q a w) : c.wp P Q a w := by
  cases c <;> first | exact h | exact wp_loop_rounds m h

def CodesOK (P : Program) (C : Ctx) (m : Nat) (ih : Run) : Prop :=
  ∀ keep c rs s l, ih (.code keep c rs s) = some (.outs l) → ∀ (n : Nat) (ρ : Loc) (a : Act) (w : World) (Q : Exit → Act → World → Prop), fitsC n c = true → RegsOK keep n ρ rs a → Repr C ρ s w →
    (∀ r ∈ l, ∀ ρ' a' w', ρ.le ρ' → RegsOK keep n ρ' r.rs a' → Repr C ρ' r.s w' → Q (exitOf r.e) a' w') → CodeGoal P m c Q a w

def DrawOK (P : Program) (C : Ctx) (dr : DrawRun) : Prop :=
  ∀ ih, CallsOK P C ih → ∀ (keep n : Nat) (ops : Array Oper) (E : Env) (s : MS) (l : List (Env × MS)), dr ih ops E s = some l → (∀ o ∈ ops.toList, ∀ d, o.dst = some d → d < n) →
    ∀ (ρ : Loc) (a : Act) (w : World) (id : Nat) (Q : Exit → Act → World → Prop), EnvOK keep n ρ E a → Repr C ρ s w →
    (∀ q ∈ l, ∀ ρ' a' w', ρ.le ρ' → EnvOK keep n ρ' q.1 a' → Repr C ρ' q.2 w' → Q .normal a' w') → (Code.region id ops true).wp P Q a w

def OrcOK (P : Program) (C : Ctx) (orc : Orc) : Prop :=
  ∀ f g args s r, orc f = some g → g args s = some r → ∀ (ρ : Loc) (xs : Array Value) (w : World), VRs ρ args xs.toList → Repr C ρ s w →
    Calls P f xs w fun e w' => ∃ x ρ', e = .returned x ∧ ρ.le ρ' ∧ VR ρ' r.1 x ∧ Repr C ρ' r.2 w'

theorem fitsOps_spec {n : Nat} : ∀ {l : List Oper}, fitsOps n l = true → ∀ o ∈ l, ∀ d, o.dst = some d → d < n
  | [], _, o, ho, _, _ => by cases ho
  | p :: l, h, o, ho, d, hd => by
    simp only [fitsOps] at h
    split at h
    · rename_i hp
      rcases List.mem_cons.1 ho with rfl | ho
      · rw [hp] at hd; cases hd
      · exact fitsOps_spec h o ho d hd
    · rename_i e hp
      rw [Bool.and_eq_true] at h
      rcases List.mem_cons.1 ho with rfl | ho
      · rw [hp] at hd; cases hd; exact Nat.le_of_ble_eq_true h.1
      · exact fitsOps_spec h.2 o ho d hd

/-- What comes after code. -/
theorem seqK_sound {m : Nat} {ih : Run} (hih : CodesOK P C m ih) {keep n : Nat} {b : Code} (hb : fitsC n b = true) {Q : Exit → Act → World → Prop} {r : Out} {l : List Out} (h : seqK ih keep b r = some l)
    {ρ : Loc} {a : Act} {w : World} (hE : RegsOK keep n ρ r.rs a) (R : Repr C ρ r.s w) (k : ∀ r ∈ l, ∀ ρ' a' w', ρ.le ρ' → RegsOK keep n ρ' r.rs a' → Repr C ρ' r.s w' → Q (exitOf r.e) a' w') :
    Exit.then (CodeGoal P m b Q) Q (exitOf r.e) a w := by
  obtain ⟨e, rs, s⟩ := r
  unfold seqK at h
  cases e with
  | normal =>
    simp only at h
    split at h
    · rename_i l' hl
      cases h
      exact hih _ _ _ _ _ hl n ρ a w Q hb hE R k
    · cases h
  | exit id =>
    simp only at h; cases h
    exact k _ (List.mem_singleton.2 rfl) ρ a w ρ.le_refl hE R
  | ret =>
    simp only at h; cases h
    exact k _ (List.mem_singleton.2 rfl) ρ a w ρ.le_refl hE R

/-- The two roads of what comes after: one outcome, many. -/
theorem after_spec {ih : Run} {keep : Nat} {b : Code} {x : Option Res} {l : List Out}
    (h : (match x with
    | some (.outs [r]) => match r.e with
      | .normal => ih (.code keep b r.rs r.s)
      | _ => some (.outs [r])
    | some (.outs l) => wrapO (allM (seqK ih keep b) l)
    | _ => none) = some (.outs l)) : ∃ l1, x = some (.outs l1) ∧ ∀ r ∈ l1, ∃ lr, seqK ih keep b r = some lr ∧ ∀ y ∈ lr, y ∈ l := by
  split at h
  · rename_i r
    refine ⟨_, rfl, fun q hq => ?_⟩
    rw [List.mem_singleton] at hq; subst hq
    obtain ⟨e, rs, s⟩ := q
    cases e with
    | normal => exact ⟨l, by simp only [seqK]; simp only at h; rw [h], fun y hy => hy⟩
    | exit id => simp only at h; cases h; exact ⟨_, rfl, fun y hy => hy⟩
    | ret => simp only at h; cases h; exact ⟨_, rfl, fun y hy => hy⟩
  · rename_i l1 _
    refine ⟨_, rfl, fun q hq => ?_⟩
    unfold wrapO at h
    split at h
    · rename_i l2 h2
      cases h
      exact allM_mem h2 q hq
    · cases h
  · cases h

theorem bodyCode_sound (hng : NoNum P) {ext : Ext} (hext : ExtOK P C ext) {dr : DrawRun} (hdr : DrawOK P C dr) {m : Nat} {ih : Run} (hc : CallsOK P C ih) (hih : CodesOK P C m ih)
    {keep : Nat} {c : Code} {rs : List (Nat × MV)} {s : MS} {l : List Out} (h : bodyCode P ext dr ih keep c rs s = some (.outs l)) (n : Nat) (ρ : Loc) (a : Act) (w : World) (Q : Exit → Act → World → Prop)
    (hf : fitsC n c = true) (hE : RegsOK keep n ρ rs a) (R : Repr C ρ s w) (k : ∀ r ∈ l, ∀ ρ' a' w', ρ.le ρ' → RegsOK keep n ρ' r.rs a' → Repr C ρ' r.s w' → Q (exitOf r.e) a' w') : CodeGoal P (m + 1) c Q a w := by
  unfold bodyCode at h
  cases c <;> simp only at h <;> first | (cases h; done) | skip
  case skip => cases h; exact wp_skip (k _ (List.mem_singleton.2 rfl) ρ a w ρ.le_refl hE R)
  case label => cases h; exact wp_label (k _ (List.mem_singleton.2 rfl) ρ a w ρ.le_refl hE R)
  case exit => cases h; exact wp_exit (k _ (List.mem_singleton.2 rfl) ρ a w ρ.le_refl hE R)
  case ret => cases h; exact wp_ret (k _ (List.mem_singleton.2 rfl) ρ a w ρ.le_refl hE R)
  case seq x y =>
    simp only [fitsC, Bool.and_eq_true] at hf
    obtain ⟨l1, h1, h2⟩ := after_spec h
    refine wp_seq (hih _ _ _ _ _ h1 n ρ a w _ hf.1 hE R fun r hr ρ' a' w' hle hE' R' => ?_).wp
    obtain ⟨lr, h3, h4⟩ := h2 r hr
    have := seqK_sound hih hf.2 h3 hE' R' (fun y hy ρ'' a'' w'' hle' => k y (h4 y hy) ρ'' a'' w'' (Loc.le_trans hle hle'))
    cases he : r.e <;> rw [he] at this <;> first | exact CodeGoal.wp this | exact this
  case loop x =>
    simp only [fitsC] at hf
    obtain ⟨l1, h1, h2⟩ := after_spec h
    show Code.rounds P x Q (m + 1) a w
    rw [rounds_succ]
    refine (hih _ _ _ _ _ h1 n ρ a w _ hf hE R fun r hr ρ' a' w' hle hE' R' => ?_).wp
    obtain ⟨lr, h3, h4⟩ := h2 r hr
    exact seqK_sound hih (b := .loop x) hf h3 hE' R' (fun y hy ρ'' a'' w'' hle' => k y (h4 y hy) ρ'' a'' w'' (Loc.le_trans hle hle'))
  case cond x y z =>
    simp only [fitsC, Bool.and_eq_true] at hf
    split at h
    · rename_i hx
      have hv := opd_sound (hE.env.agree #[x]) (by simp) hx
      simp only [VR] at hv
      exact wp_cond_true hv (hih _ _ _ _ _ h n ρ a w Q hf.1 hE R k).wp
    · rename_i hx
      have hv := opd_sound (hE.env.agree #[x]) (by simp) hx
      simp only [VR] at hv
      exact wp_cond_false hv (hih _ _ _ _ _ h n ρ a w Q hf.2 hE R k).wp
    · cases h
  case block id x =>
    simp only [fitsC] at hf
    split at h
    · rename_i l1 h1
      cases h
      refine wp_block (hih _ _ _ _ _ h1 n ρ a w _ hf hE R fun r hr ρ' a' w' hle hE' R' => ?_).wp
      have hk := k _ (List.mem_map.2 ⟨r, hr, rfl⟩) ρ' a' w' hle
      obtain ⟨e, rs', s'⟩ := r
      cases e with
      | normal => exact hk hE' R'
      | ret => exact hk hE' R'
      | exit i =>
        simp only [exitOf, Exit.inBlock]
        cases hb : Nat.beq i id with
        | true =>
          simp only [unblock, hb] at hk
          rw [if_pos (Nat.eq_of_beq_eq_true hb)]
          exact hk hE' R'
        | false =>
          simp only [unblock, hb] at hk
          rw [if_neg (fun e => by rw [e] at hb; rw [Nat.beq_refl] at hb; cases hb)]
          exact hk hE' R'
    · cases h
  case region id ops draw =>
    simp only [fitsC] at hf
    split at h
    · cases h
    · rename_i l1 h1
      cases h
      have hk : ∀ q ∈ l1, ∀ ρ' a' w', ρ.le ρ' → EnvOK keep n ρ' q.1 a' → Repr C ρ' q.2 w' → Q .normal a' w' := fun q hq ρ' a' w' hle hE' R' =>
        k _ (List.mem_map.2 ⟨q, hq, rfl⟩) ρ' a' w' hle hE'.flush R'
      cases draw with
      | true => exact hdr ih hc keep n ops _ _ _ h1 (fitsOps_spec hf) ρ a w id Q hE.env R hk
      | false => exact wp_region (opsRun_sound hng hext hc _ _ (at_range ops) (fitsOps_spec hf) h1 hE.env R hk)

/-- One result of a frame. -/
def resF (tmps : Array Value) : ResultVar → Sem Value
  | .tmp t => pure (tmps.getD t undef)
  | .cell b t => do loadVar t (← asAddr (tmps.getD b undef))

theorem results_eq (fn : Func) (tmps : Array Value) : results fn tmps = (do let vs ← fn.results.mapM (resF tmps); pure (if h : vs.size = 1 then vs[0] else .tuple vs)) := by
  unfold results
  congr 1

/-- The results of a frame. -/
theorem resM_sound {keep n : Nat} {ρ : Loc} {rs : List (Nat × MV)} {s : MS} {a : Act} {w : World} (hE : RegsOK keep n ρ rs a) (R : Repr C ρ s w) : ∀ (l : List ResultVar) (vs : List MV), resM P rs s l = some vs →
    ∃ xs : List Value, (l.mapM (resF a.tmps) : Sem (List Value)).run P w = .ok xs w ∧ VRs ρ vs xs
  | [], vs, h => by simp only [resM] at h; cases h; exact ⟨[], rfl, .nil⟩
  | .tmp t :: l, vs, h => by
    simp only [resM] at h
    split at h
    · rename_i v vs' hv hvs
      cases h
      obtain ⟨xs, h1, h2⟩ := resM_sound hE R l vs' hvs
      refine ⟨a.tmps.getD t undef :: xs, ?_, .cons (hE.vals t v hv) h2⟩
      rw [List.mapM_cons]
      simp only [resF, Sem.run_bind, Sem.run_pure, Result.andThen_ok]
      rw [h1]; rfl
    · cases h
  | .cell b t :: l, vs, h => by
    simp only [resM] at h
    split at h
    · cases h
    rename_i x hx
    split at h
    · rename_i v vs' hv hvs
      cases h
      obtain ⟨xs, h1, h2⟩ := resM_sound hE R l vs' hvs
      have hxr := hE.vals b x hx
      obtain ⟨y, h3, h4⟩ := mLoad_sound R hxr hv
      refine ⟨y :: xs, ?_, .cons h4 h2⟩
      rw [List.mapM_cons]
      have h5 : (resF a.tmps (.cell b t)).run P w = .ok y w := by
        simp only [resF]
        cases x <;> simp only [mLoad] at hv <;> first | (cases hv; done) | skip
        simp only [VR, Act.eval] at hxr
        obtain ⟨i, hi, hxr⟩ := hxr
        simp only [Act.eval] at h3
        rw [hxr] at h3 ⊢
        simpa [Instr.loadAt, Instr.sureAddr, asAddr] using h3
      rw [Sem.run_bind, h5]
      simp only [Result.andThen_ok, Sem.run_bind, Sem.run_pure]
      rw [h1]; rfl
    · cases h

theorem result_sound {keep n : Nat} {ρ : Loc} {rs : List (Nat × MV)} {s : MS} {a : Act} {w : World} (hE : RegsOK keep n ρ rs a) (R : Repr C ρ s w) {fn : Func} {v : MV} (h : resultOf P fn rs s = some v) :
    ∃ x, (results fn a.tmps).run P w = .ok x w ∧ VR ρ v x := by
  have key : ∀ vs, resM P rs s fn.results.toList = some vs → ∃ xs : Array Value, (fn.results.mapM (resF a.tmps) : Sem (Array Value)).run P w = .ok xs w ∧ VRs ρ vs xs.toList := by
    intro vs hvs
    obtain ⟨xs, h1, h2⟩ := resM_sound hE R _ _ hvs
    refine ⟨xs.toArray, ?_, by simpa using h2⟩
    rw [Array.mapM_eq_mapM_toList, ← bind_pure_comp, Sem.run_bind, h1]
    rfl
  unfold resultOf at h
  have two : ∀ (vs : List MV) (xs : Array Value), (∀ u, vs ≠ [u]) → VRs ρ vs xs.toList → ∃ x, (if h : xs.size = 1 then xs[0] else .tuple xs) = x ∧ VR ρ (.tuple vs) x := by
    intro vs xs hne hx
    have hl := hx.length
    have : ¬ xs.size = 1 := fun e => by
      rw [Array.length_toList, e] at hl
      obtain ⟨u, rfl⟩ := List.length_eq_one_iff.1 hl.symm
      exact hne u rfl
    exact ⟨.tuple xs, by rw [dif_neg this], by simp only [VR]; exact ⟨_, rfl, hx⟩⟩
  split at h
  · rename_i u hu
    cases h
    obtain ⟨xs, h1, h2⟩ := key _ hu
    obtain ⟨y, ys, h3, h4, h5⟩ := h2.cons_inv
    have h6 := h5.nil_inv
    subst h6
    have h7 : xs = #[y] := by apply Array.ext'; simpa using h3
    subst h7
    refine ⟨y, ?_, h4⟩
    rw [results_eq, Sem.run_bind, h1]
    simp
  · rename_i vs hne hvs
    cases h
    obtain ⟨xs, h1, h2⟩ := key _ hvs
    obtain ⟨x, h3, h4⟩ := two vs xs (fun u e => hne u (by rw [e])) h2
    refine ⟨x, ?_, h4⟩
    rw [results_eq, Sem.run_bind, h1]
    simp only [Result.andThen_ok, Sem.run_pure, h3]
  · cases h

/-- The parameters that are kept. -/
theorem params_find (keep : Nat) : ∀ (l : List MV) (i t : Nat) (v : MV), find t none (params keep i l) = some v → keep.testBit t = true ∧ i ≤ t ∧ l[t - i]? = some v
  | [], i, t, v, h => by simp [params, find] at h
  | u :: l, i, t, v, h => by
    simp only [params] at h
    split at h
    · rename_i hb
      rw [find_cons] at h
      by_cases hi : i = t
      · rw [if_pos hi] at h; cases h; subst hi
        exact ⟨hb, Nat.le_refl _, by simp⟩
      · rw [if_neg hi] at h
        obtain ⟨h1, h2, h3⟩ := params_find keep l (i + 1) t v h
        refine ⟨h1, by omega, ?_⟩
        rw [show t - i = t - (i + 1) + 1 by omega]; simpa using h3
    · obtain ⟨h1, h2, h3⟩ := params_find keep l (i + 1) t v h
      refine ⟨h1, by omega, ?_⟩
      rw [show t - i = t - (i + 1) + 1 by omega]; simpa using h3

/-- Merging drops nothing. -/
def MergeOK (merge : List (MV × MS) → List (MV × MS)) : Prop := ∀ l, ∀ r ∈ l, r ∈ merge l

theorem retsOf_spec {fn : Func} : ∀ {l : List Out} {r : List (MV × MS)}, retsOf P fn l = some r → ∀ o ∈ l, (∀ id, o.e ≠ .exit id) ∧ ∃ v, resultOf P fn o.rs o.s = some v ∧ (v, o.s) ∈ r
  | [], _, _, o, ho => by cases ho
  | p :: l, r, h, o, ho => by
    simp only [retsOf] at h
    split at h
    · cases h
    · rename_i hne
      split at h
      · rename_i v r' hv hr
        cases h
        rcases List.mem_cons.1 ho with rfl | ho
        · exact ⟨fun id e => hne id e, v, hv, List.mem_cons_self ..⟩
        · obtain ⟨h1, v', h2, h3⟩ := retsOf_spec hr o ho
          exact ⟨h1, v', h2, List.mem_cons_of_mem _ h3⟩
      · cases h

theorem bodyCall_sound {orc : Orc} (horc : OrcOK P C orc) {merge : List (MV × MS) → List (MV × MS)} (hmerge : MergeOK merge) {m : Nat} {ih : Run} (hih : CodesOK P C m ih)
    {f : FuncId} {args : List MV} {s : MS} {l : List (MV × MS)} (h : bodyCall P orc merge ih f args s = some (.rets l)) {ρ : Loc} {xs : Array Value} {w : World} (hxs : VRs ρ args xs.toList) (R : Repr C ρ s w) :
    Calls P f xs w fun e w' => ∃ r ∈ l, ∃ x ρ', e = .returned x ∧ ρ.le ρ' ∧ VR ρ' r.1 x ∧ Repr C ρ' r.2 w' := by
  unfold bodyCall at h
  split at h
  · rename_i g hg
    split at h
    · rename_i r hr
      cases h
      exact Calls.mono (horc f g args s r hg hr ρ xs w hxs R) fun e w' ⟨x, ρ', h1, h2, h3, h4⟩ => ⟨r, List.mem_singleton.2 rfl, x, ρ', h1, h2, h3, h4⟩
    · cases h
  · split at h
    · cases h
    rename_i fn hf
    split at h
    · cases h
    rename_i c hb
    split at h
    case h_2 => cases h
    rename_i hfit
    rw [Bool.and_eq_true] at hfit
    have hlen : args.length ≤ fn.ntmps := Nat.le_of_ble_eq_true hfit.1
    have hlx : xs.size = args.length := by have := hxs.length; simpa using this
    split at h
    case h_2 => cases h
    rename_i l1 h1
    split at h
    case h_2 => cases h
    rename_i r1 hr1
    cases h
    have hE : RegsOK (keepOf fn) fn.ntmps ρ (params (keepOf fn) 0 args) { tmps := xs ++ Array.replicate (fn.ntmps - xs.size) undef, defers := [] } := by
      refine ⟨rfl, by simp; omega, fun t v hv => (params_find _ _ _ _ _ hv).1, fun t v hv => ?_⟩
      obtain ⟨_, _, h3⟩ := params_find _ _ _ _ _ hv
      rw [Nat.sub_zero] at h3
      obtain ⟨x, hx, hr⟩ := hxs.get h3
      rw [Array.getElem?_toList] at hx
      have hlt := (Array.getElem?_eq_some_iff.1 hx).1
      simp only [Act.eval, Array.getD_eq_getD_getElem?]
      rw [Array.getElem?_append_left hlt, hx]
      exact hr
    refine calls_of_wp hf hb (hih _ _ _ _ _ h1 fn.ntmps ρ _ w _ hfit.2 hE R fun r hr ρ' a' w' hle hE' R' => ?_).wp
    obtain ⟨h2, v, h3, h4⟩ := retsOf_spec hr1 r hr
    obtain ⟨x, h5, h6⟩ := result_sound hE' R' h3
    have hpost : a'.defers = [] ∧ ∃ v, (results fn a'.tmps).run P w' = .ok v w' ∧ (fun (e : Ending) (w' : World) => ∃ r ∈ merge r1, ∃ x ρ', e = .returned x ∧ ρ.le ρ' ∧ VR ρ' r.1 x ∧ Repr C ρ' r.2 w') (.returned v) w' :=
      ⟨hE'.defers, x, h5, (v, r.s), hmerge _ _ h4, x, ρ', rfl, hle, h6, R'⟩
    cases he : r.e with
    | normal => exact hpost
    | ret => exact hpost
    | exit id => exact absurd he (h2 id)

/-- The whole run. -/
theorem ev_sound (hng : NoNum P) {ext : Ext} (hext : ExtOK P C ext) {dr : DrawRun} (hdr : DrawOK P C dr) {orc : Orc} (horc : OrcOK P C orc) {merge : List (MV × MS) → List (MV × MS)} (hmerge : MergeOK merge) :
    ∀ m, CallsOK P C (ev P ext orc merge dr m) ∧ CodesOK P C m (ev P ext orc merge dr m)
  | 0 => ⟨fun _ _ _ _ h => by simp [ev] at h, fun _ _ _ _ _ h => by simp [ev] at h⟩
  | m + 1 => by
    obtain ⟨hc, hk⟩ := ev_sound hng hext hdr horc hmerge m
    refine ⟨fun f args s l h ρ xs w hxs R => ?_, fun keep c rs s l h n ρ a w Q hf hE R k => ?_⟩
    · exact bodyCall_sound horc hmerge hk h hxs R
    · exact bodyCode_sound hng hext hdr hc hk h n ρ a w Q hf hE R k

end
end Go.Mir
