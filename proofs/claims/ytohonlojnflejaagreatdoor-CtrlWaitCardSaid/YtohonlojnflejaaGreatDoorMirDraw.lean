/- Regions that draw their order: every order comes to what one order comes to. Definitions, and the law of one step. -/
import Derived.Test.YtohonlojnflejaaGreatDoorMirCode
import Derived.Test.YtohonlojnflejaaGreatDoorMirEq
namespace Go.Mir
open Go.RowKit

/-- Functions that read alone: what they give. -/
abbrev Pure := FuncId → Option (List MV → MS → Option MV)

section
variable (P : Program)

/-- Of what kind an operation is: 0: its operands alone; 1: it reads; 2: it acts. -/
def kindOf (pu : Pure) (op : Op) : Nat :=
  match op with
  | .move _ | .assign _ | .pick .. | .binOp .. | .unOp .. | .field .. | .index .. | .extract .. | .makeInterface .. | .makeFunc .. | .typeAssert .. | .nilCheck _ | .fieldAddr .. | .build .. => 0
  | .load .. | .indexAddr .. | .slice .. | .lookup .. | .entry _ => 1
  | .convert _ dst _ => match P.underlying dst with
    | some (.slice _) => 2
    | some _ => 1
    | none => 2
  | .call c => match c.callee with
    | .builtin b => match b with
      | .len | .min | .max => 1
      | _ => 2
    | .value f => match f with
      | .func f => match pu f with
        | some _ => 1
        | none => 2
      | _ => 2
    | _ => 2
  | _ => 2

/-- What an operation gives that does not act. -/
def readRun (ext : Ext) (pu : Pure) (op : Op) (E : Env) (s : MS) : Option MV :=
  match mop P ext op E s with
  | some (.val v _) => some v
  | some (.call f args) => match pu f with
    | some g => g args s
    | none => none
  | _ => none

/-- What an operation comes to that acts. -/
def effRun (ext : Ext) (ih : Run) (op : Op) (E : Env) (s : MS) : Option (MV × MS) :=
  match mop P ext op E s with
  | some (.val v s') => some (v, s')
  | some (.many [r]) => some r
  | some (.call f args) => match ih (.call f args s) with
    | some (.rets [r]) => some r
    | _ => none
  | _ => none

/-- An operation in its place: k: its kind; looks, writes: its variables; b: what comes before it in every order. -/
structure PE where
  i : Nat
  o : Oper
  k : Nat
  looks : Nat
  writes : Nat
  b : Nat

def maskL : List Nat → Nat
  | [] => 0
  | t :: l => 2 ^ t ||| maskL l
def writesM (o : Oper) : Nat :=
  match o.dst with
  | some d => 2 ^ d
  | none => 0
def bOf (j : Nat) : List PE → Nat
  | [] => 0
  | q :: l => match Nat.beq q.i j with
    | true => q.b
    | false => bOf j l
def predM (pre : List PE) : List Edge → Nat
  | [] => 0
  | e :: l => match Region.binds .any e with
    | true => 2 ^ e.on ||| bOf e.on pre ||| predM pre l
    | false => predM pre l
def edgesIn (mask : Nat) : List Edge → Bool
  | [] => true
  | e :: l => match Region.binds .any e with
    | true => mask.testBit e.on && edgesIn mask l
    | false => edgesIn mask l
def conf (q pe : PE) : Bool := (Nat.beq q.k 2 && Nat.beq pe.k 2) || !(Nat.beq ((q.writes &&& (pe.looks ||| pe.writes)) ||| (q.looks &&& pe.writes)) 0)
def okAfter (pe : PE) : List PE → Bool
  | [] => true
  | q :: l => (!conf q pe || pe.b.testBit q.i) && okAfter pe l

def build (ops : Array Oper) (kf : Op → Nat) : List PE → Nat → List Nat → Option (List PE)
  | _, mask, [] => match Nat.beq mask (2 ^ ops.size - 1) with
    | true => some []
    | false => none
  | pre, mask, i :: rest =>
    match ops[i]? with
    | none => none
    | some o =>
      let pe : PE := ⟨i, o, kf o.op, maskL (o.looksAt ops), writesM o, predM pre o.after.toList⟩
      match !mask.testBit i && (edgesIn mask o.after.toList && okAfter pe pre) with
      | true => match build ops kf (pe :: pre) (mask ||| 2 ^ i) rest with
        | some l => some (pe :: l)
        | none => none
      | false => none

/-- An order: the first that may come. -/
def directM : List Edge → Nat
  | [] => 0
  | e :: l => match Region.binds .any e with
    | true => 2 ^ e.on ||| directM l
    | false => directM l
def firstOf (mask : Nat) : List (Nat × Nat) → Option Nat
  | [] => none
  | p :: l => match !mask.testBit p.1 && Nat.beq (p.2 &&& mask) p.2 with
    | true => some p.1
    | false => firstOf mask l
def topo (ps : List (Nat × Nat)) : Nat → Nat → List Nat
  | 0, _ => []
  | n + 1, mask => match firstOf mask ps with
    | some i => i :: topo ps n (mask ||| 2 ^ i)
    | none => []
def numbered : Nat → List Oper → List (Nat × Nat)
  | _, [] => []
  | i, o :: l => (i, directM o.after.toList) :: numbered (i + 1) l

def planOf (pu : Pure) (ops : Array Oper) : Option (List PE) := build ops (kindOf P pu) [] 0 (topo (numbered 0 ops.toList) ops.size 0)

abbrev Chk := PE × Env × MV

def goRun (ext : Ext) (pu : Pure) (ih : Run) (ops : Array Oper) : List PE → Env → MS → Option (List Chk × List MS × Env)
  | [], E, s => some ([], [s], E)
  | pe :: rest, E, s =>
    match wantedM ops pe.o E with
    | none => none
    | some false => match Nat.beq pe.k 2 with
      | true => match goRun ext pu ih ops rest (E.put pe.o.dst .undef) s with
        | some r => some (r.1, s :: r.2.1, r.2.2)
        | none => none
      | false => goRun ext pu ih ops rest (E.put pe.o.dst .undef) s
    | some true => match Nat.beq pe.k 2 with
      | true => match effRun P ext ih pe.o.op E s with
        | some vs => match goRun ext pu ih ops rest (E.put pe.o.dst vs.1) vs.2 with
          | some r => some (r.1, s :: r.2.1, r.2.2)
          | none => none
        | none => none
      | false => match readRun P ext pu pe.o.op E s with
        | some v => match Nat.beq pe.k 0 with
          | true => goRun ext pu ih ops rest (E.put pe.o.dst v) s
          | false => match goRun ext pu ih ops rest (E.put pe.o.dst v) s with
            | some r => some ((pe, E, v) :: r.1, r.2.1, r.2.2)
            | none => none
        | none => none

/-- Acts that come before it in every order; acts that may come before it in one. -/
def loOf (pe : PE) : List PE → Nat
  | [] => 0
  | q :: l => match Nat.beq q.k 2 && pe.b.testBit q.i with
    | true => loOf pe l + 1
    | false => loOf pe l
def hiOf (pe : PE) : List PE → Nat
  | [] => 0
  | q :: l => match Nat.beq q.k 2 && !q.b.testBit pe.i with
    | true => hiOf pe l + 1
    | false => hiOf pe l

def sameIn (ext : Ext) (pu : Pure) (x : Chk) : List MS → Bool
  | [] => true
  | s :: l => match readRun P ext pu x.1.o.op x.2.1 s with
    | some u => eqMV u x.2.2 && sameIn ext pu x l
    | none => false
def winOK (ext : Ext) (pu : Pure) (pl : List PE) (ss : List MS) (x : Chk) : Bool :=
  match Nat.beq (loOf x.1 pl) (hiOf x.1 pl) with
  | true => true
  | false => sameIn P ext pu x ((ss.drop (loOf x.1 pl)).take (hiOf x.1 pl + 1 - loOf x.1 pl))
def allW (ext : Ext) (pu : Pure) (pl : List PE) (ss : List MS) : List Chk → Bool
  | [] => true
  | x :: l => winOK P ext pu pl ss x && allW ext pu pl ss l

def drawRun (ext : Ext) (pu : Pure) : DrawRun := fun ih ops E s =>
  match planOf P pu ops with
  | none => none
  | some pl => match goRun P ext pu ih ops pl E s with
    | none => none
    | some r => match allW P ext pu pl r.2.1 r.1 with
      | true => match r.2.1.getLast? with
        | some s' => some [(r.2.2, s')]
        | none => none
      | false => none

end

section
variable {P : Program} {C : Ctx}

/-- The contract of the functions that read alone. -/
def PuOK (P : Program) (C : Ctx) (pu : Pure) : Prop :=
  ∀ f g args s v, pu f = some g → g args s = some v → ∀ (ρ : Loc) (xs : Array Value) (w : World), VRs ρ args xs.toList → Repr C ρ s w →
    Calls P f xs w fun e w' => ∃ x, e = .returned x ∧ VR ρ v x ∧ Below w.heap.size w w'

theorem pureS_state {x : Option MV} {s s' : MS} {v : MV} (h : pureS x s = some (.val v s')) : s' = s := by
  unfold pureS at h; split at h <;> cases h; rfl

/-- What does not act leaves the memory as it was. -/
theorem kind_state {ext : Ext} {pu : Pure} {op : Op} {E : Env} {s s' : MS} {v : MV} (hk : kindOf P pu op ≠ 2) (h : mop P ext op E s = some (.val v s')) : s' = s := by
  cases op <;> simp only [kindOf, ne_eq, not_true_eq_false] at hk <;> simp only [mop] at h <;> first | (exact hk.elim) | skip
  case move x => obtain ⟨a, _, h⟩ := on1_inv h; simp only [hMove] at h; cases h; rfl
  case assign x => obtain ⟨a, _, h⟩ := on1_inv h; simp only [hMove] at h; cases h; rfl
  case pick c x y =>
    unfold hPick at h
    split at h
    · exact pureS_state h
    · exact pureS_state h
    · cases h
  case binOp => obtain ⟨a, b, _, _, h⟩ := on2_inv h; exact pureS_state h
  case unOp => obtain ⟨a, _, h⟩ := on1_inv h; exact pureS_state h
  case field => obtain ⟨a, _, h⟩ := on1_inv h; exact pureS_state h
  case index => obtain ⟨a, b, _, _, h⟩ := on2_inv h; exact pureS_state h
  case extract =>
    obtain ⟨a, _, h⟩ := on1_inv h
    unfold hExtract at h
    split at h
    · exact pureS_state h
    · cases h
  case makeInterface =>
    obtain ⟨a, _, h⟩ := on1_inv h
    unfold hMakeInterface at h
    split at h <;> cases h
    rfl
  case makeFunc =>
    unfold hMakeFunc at h
    split at h
    · split at h <;> cases h
      rfl
    · cases h
  case typeAssert => obtain ⟨a, _, h⟩ := on1_inv h; exact pureS_state h
  case nilCheck =>
    obtain ⟨a, _, h⟩ := on1_inv h
    unfold hNilCheck at h
    split at h <;> cases h <;> rfl
  case fieldAddr => obtain ⟨a, _, h⟩ := on1_inv h; exact pureS_state h
  case build =>
    unfold hBuild at h
    split at h
    · exact pureS_state h
    · cases h
  case load => obtain ⟨a, _, h⟩ := on1_inv h; exact pureS_state h
  case indexAddr => obtain ⟨a, b, _, _, h⟩ := on2_inv h; exact pureS_state h
  case slice =>
    unfold hSlice at h
    split at h
    · cases h
    · split at h
      · exact pureS_state h
      · cases h
  case lookup => obtain ⟨a, b, _, _, h⟩ := on2_inv h; exact pureS_state h
  case entry => obtain ⟨a, _, h⟩ := on1_inv h; exact pureS_state h
  case convert src dst x =>
    obtain ⟨a, _, h⟩ := on1_inv h
    unfold hConvert at h
    split at h
    · split at h
      · exact pureS_state h
      · cases h
    unfold effS at h
    split at h
    · rename_i r hr
      cases h
      split at hr
      · cases hr; rfl
      unfold mConvert at hr
      split at hr
      · cases hr; rfl
      · cases hr; rfl
      · cases hr; rfl
      · simp_all
      · split at hr
        · split at hr
          · cases hr; rfl
          · simp only [Option.bind_eq_bind, Option.bind_eq_some_iff] at hr
            obtain ⟨p, _, b, _, hr⟩ := hr
            cases hr; rfl
          · simp only [Option.bind_eq_bind, Option.bind_eq_some_iff] at hr
            obtain ⟨p, _, b, _, hr⟩ := hr
            cases hr; rfl
          · cases hr
        · cases hr
      · cases hr
    · cases h
  case call c =>
    unfold mCall at h
    split at h
    · cases h
    · split at h
      · rename_i b hb
        rw [hb] at hk
        simp only at hk
        cases b <;> simp only [not_true_eq_false] at hk <;> first | (exact hk.elim) | skip
        all_goals
          unfold mBuiltin at h
          split at h <;> first | (cases h; done) | exact pureS_state h | skip
        all_goals
          rename_i hbb _
          cases hbb
      · rename_i f hf
        rw [hf] at hk
        split at h
        · unfold mCallF at h
          split at h
          · cases h
          · split at h
            · cases h
            · simp only [Option.bind_eq_some_iff, Option.map_eq_some_iff] at h
              obtain ⟨_, _, _, _, h⟩ := h
              cases h; rfl
        · cases h
      · rename_i r nm hc
        rw [hc] at hk
        exact absurd rfl hk

end
end Go.Mir
