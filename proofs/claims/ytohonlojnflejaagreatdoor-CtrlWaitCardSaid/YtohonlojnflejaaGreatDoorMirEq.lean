/- Equality of the mirror's things, as it can be run. -/
import Derived.Test.YtohonlojnflejaaGreatDoorMirSym
namespace Go.Mir

def eqBytes : List UInt8 → List UInt8 → Bool
  | [], [] => true
  | a :: l, b :: m => Nat.beq a.toNat b.toNat && eqBytes l m
  | _, _ => false
theorem eqBytes_eq : ∀ {l m : List UInt8}, eqBytes l m = true → l = m
  | [], [], _ => rfl
  | a :: l, b :: m, h => by
    simp only [eqBytes, Bool.and_eq_true] at h
    rw [eqBytes_eq h.2, UInt8.toNat_inj.1 (Nat.eq_of_beq_eq_true h.1)]
  | [], _ :: _, h => by simp [eqBytes] at h
  | _ :: _, [], h => by simp [eqBytes] at h

def eqPos : Pos → Pos → Bool
  | .one, .one => true
  | .z p, .z q => eqPos p q
  | .o p, .o q => eqPos p q
  | _, _ => false
theorem eqPos_eq : ∀ {p q : Pos}, eqPos p q = true → p = q
  | .one, .one, _ => rfl
  | .z p, .z q, h => by rw [eqPos_eq (p := p) (q := q) h]
  | .o p, .o q, h => by rw [eqPos_eq (p := p) (q := q) h]
  | .one, .z _, h | .one, .o _, h | .z _, .one, h | .z _, .o _, h | .o _, .one, h | .o _, .z _, h => by simp [eqPos] at h

def eqFn : Fn → Fn → Bool
  | .func a, .func b => Nat.beq a b
  | _, _ => false
theorem eqFn_eq {a b : Fn} (h : eqFn a b = true) : a = b := by
  unfold eqFn at h
  split at h
  · rw [Nat.eq_of_beq_eq_true h]
  · cases h

mutual
def eqMV : MV → MV → Bool
  | .bool a, y => match y with | .bool b => (match a, b with | true, true => true | false, false => true | _, _ => false) | _ => false
  | .int k a, y => match y with | .int l b => decide (k = l) && eqInt a b | _ => false
  | .str a, y => match y with | .str b => eqBytes a b | _ => false
  | .nilPtr, y => match y with | .nilPtr => true | _ => false
  | .ptr h o, y => match y with | .ptr h' o' => eqPos h h' && Nat.beq o o' | _ => false
  | .nilSl, y => match y with | .nilSl => true | _ => false
  | .sl h o l c, y => match y with | .sl h' o' l' c' => eqPos h h' && (Nat.beq o o' && (Nat.beq l l' && Nat.beq c c')) | _ => false
  | .gsl h o l, y => match y with | .gsl h' o' l' => eqPos h h' && (Nat.beq o o' && Nat.beq l l') | _ => false
  | .nilMap, y => match y with | .nilMap => true | _ => false
  | .map h, y => match y with | .map h' => eqPos h h' | _ => false
  | .nilFunc, y => match y with | .nilFunc => true | _ => false
  | .func f a b, y => match y with | .func f' a' b' => eqFn f f' && (eqMVs a a' && eqMVs b b') | _ => false
  | .nilIface, y => match y with | .nilIface => true | _ => false
  | .iface t v, y => match y with | .iface t' v' => Nat.beq t t' && eqMV v v' | _ => false
  | .agg a, y => match y with | .agg b => eqMVs a b | _ => false
  | .tuple a, y => match y with | .tuple b => eqMVs a b | _ => false
  | .sx k a, y => match y with | .sx l b => eqKind k l && eqSE a b | _ => false
  | .sb a, y => match y with | .sb b => eqSB a b | _ => false
  | .ustr a, y => match y with | .ustr b => eqSE a b | _ => false
  | .usl a n, y => match y with | .usl b m => Nat.beq a b && eqSE n m | _ => false
  | .uptr a z i o, y => match y with | .uptr b z' j o' => Nat.beq a b && (Nat.beq z z' && (eqSE i j && Nat.beq o o')) | _ => false
def eqMVs : List MV → List MV → Bool
  | [], y => match y with | [] => true | _ => false
  | a :: l, y => match y with | b :: m => eqMV a b && eqMVs l m | _ => false
end

mutual
theorem eqMV_eq : ∀ (x y : MV), eqMV x y = true → x = y
  | .bool a, y, h => by
    unfold eqMV at h; cases y <;> simp only at h <;> first | (cases h; done) | skip
    rename_i b; cases a <;> cases b <;> first | rfl | (cases h)
  | .int k a, y, h => by
    unfold eqMV at h; cases y <;> simp only [Bool.and_eq_true, decide_eq_true_eq] at h <;> first | (cases h; done) | skip
    rw [h.1, eqInt_eq h.2]
  | .str a, y, h => by
    unfold eqMV at h; cases y <;> simp only at h <;> first | (cases h; done) | skip
    rw [eqBytes_eq h]
  | .nilPtr, y, h => by unfold eqMV at h; cases y <;> simp only at h <;> first | (cases h; done) | rfl
  | .ptr a o, y, h => by
    unfold eqMV at h; cases y <;> simp only [Bool.and_eq_true] at h <;> first | (cases h; done) | skip
    rw [eqPos_eq h.1, Nat.eq_of_beq_eq_true h.2]
  | .nilSl, y, h => by unfold eqMV at h; cases y <;> simp only at h <;> first | (cases h; done) | rfl
  | .sl a o l c, y, h => by
    unfold eqMV at h; cases y <;> simp only [Bool.and_eq_true] at h <;> first | (cases h; done) | skip
    rw [eqPos_eq h.1, Nat.eq_of_beq_eq_true h.2.1, Nat.eq_of_beq_eq_true h.2.2.1, Nat.eq_of_beq_eq_true h.2.2.2]
  | .gsl a o l, y, h => by
    unfold eqMV at h; cases y <;> simp only [Bool.and_eq_true] at h <;> first | (cases h; done) | skip
    rw [eqPos_eq h.1, Nat.eq_of_beq_eq_true h.2.1, Nat.eq_of_beq_eq_true h.2.2]
  | .nilMap, y, h => by unfold eqMV at h; cases y <;> simp only at h <;> first | (cases h; done) | rfl
  | .map a, y, h => by
    unfold eqMV at h; cases y <;> simp only at h <;> first | (cases h; done) | skip
    rw [eqPos_eq h]
  | .nilFunc, y, h => by unfold eqMV at h; cases y <;> simp only at h <;> first | (cases h; done) | rfl
  | .func f a b, y, h => by
    unfold eqMV at h; cases y <;> simp only [Bool.and_eq_true] at h <;> first | (cases h; done) | skip
    rw [eqFn_eq h.1, eqMVs_eq a _ h.2.1, eqMVs_eq b _ h.2.2]
  | .nilIface, y, h => by unfold eqMV at h; cases y <;> simp only at h <;> first | (cases h; done) | rfl
  | .iface t v, y, h => by
    unfold eqMV at h; cases y <;> simp only [Bool.and_eq_true] at h <;> first | (cases h; done) | skip
    rw [Nat.eq_of_beq_eq_true h.1, eqMV_eq v _ h.2]
  | .agg a, y, h => by
    unfold eqMV at h; cases y <;> simp only at h <;> first | (cases h; done) | skip
    rw [eqMVs_eq a _ h]
  | .tuple a, y, h => by
    unfold eqMV at h; cases y <;> simp only at h <;> first | (cases h; done) | skip
    rw [eqMVs_eq a _ h]
  | .sx k a, y, h => by
    unfold eqMV at h; cases y <;> simp only [Bool.and_eq_true] at h <;> first | (cases h; done) | skip
    rw [eqKind_eq h.1, eqSE_eq h.2]
  | .sb a, y, h => by
    unfold eqMV at h; cases y <;> simp only at h <;> first | (cases h; done) | skip
    rw [eqSB_eq h]
  | .ustr a, y, h => by
    unfold eqMV at h; cases y <;> simp only at h <;> first | (cases h; done) | skip
    rw [eqSE_eq h]
  | .usl a n, y, h => by
    unfold eqMV at h; cases y <;> simp only [Bool.and_eq_true] at h <;> first | (cases h; done) | skip
    rw [Nat.eq_of_beq_eq_true h.1, eqSE_eq h.2]
  | .uptr a z i o, y, h => by
    unfold eqMV at h; cases y <;> simp only [Bool.and_eq_true] at h <;> first | (cases h; done) | skip
    rw [Nat.eq_of_beq_eq_true h.1, Nat.eq_of_beq_eq_true h.2.1, eqSE_eq h.2.2.1, Nat.eq_of_beq_eq_true h.2.2.2]
theorem eqMVs_eq : ∀ (x y : List MV), eqMVs x y = true → x = y
  | [], y, h => by unfold eqMVs at h; cases y <;> simp only at h <;> first | (cases h; done) | rfl
  | a :: l, y, h => by
    unfold eqMVs at h; cases y <;> simp only [Bool.and_eq_true] at h <;> first | (cases h; done) | skip
    rw [eqMV_eq a _ h.1, eqMVs_eq l _ h.2]
end

def eqEs : List (MV × MV × Nat) → List (MV × MV × Nat) → Bool
  | [], [] => true
  | a :: l, b :: m => eqMV a.1 b.1 && (eqMV a.2.1 b.2.1 && (Nat.beq a.2.2 b.2.2 && eqEs l m))
  | _, _ => false
theorem eqEs_eq : ∀ {l m : List (MV × MV × Nat)}, eqEs l m = true → l = m
  | [], [], _ => rfl
  | (a1, a2, a3) :: l, (b1, b2, b3) :: m, h => by
    simp only [eqEs, Bool.and_eq_true] at h
    rw [eqMV_eq _ _ h.1, eqMV_eq _ _ h.2.1, Nat.eq_of_beq_eq_true h.2.2.1, eqEs_eq h.2.2.2]
  | [], _ :: _, h => by simp [eqEs] at h
  | _ :: _, [], h => by simp [eqEs] at h

def eqMO : MO → MO → Bool
  | .cells a, .cells b => eqMVs a b
  | .ro a, .ro b => eqMVs a b
  | .grow a s, .grow b t => Nat.beq s t && eqMVs a b
  | .map a c, .map b d => Nat.beq c d && eqEs a b
  | _, _ => false
theorem eqMO_eq {a b : MO} (h : eqMO a b = true) : a = b := by
  unfold eqMO at h
  split at h
  · rw [eqMVs_eq _ _ h]
  · rw [eqMVs_eq _ _ h]
  · rw [Bool.and_eq_true] at h; rw [Nat.eq_of_beq_eq_true h.1, eqMVs_eq _ _ h.2]
  · rw [Bool.and_eq_true] at h; rw [Nat.eq_of_beq_eq_true h.1, eqEs_eq h.2]
  · cases h

def eqTr : Tr MO → Tr MO → Bool
  | .nil, .nil => true
  | .node v l r, .node v' l' r' => (match v, v' with | none, none => true | some a, some b => eqMO a b | _, _ => false) && (eqTr l l' && eqTr r r')
  | _, _ => false
theorem eqTr_eq : ∀ {a b : Tr MO}, eqTr a b = true → a = b
  | .nil, .nil, _ => rfl
  | .node v l r, .node v' l' r', h => by
    simp only [eqTr, Bool.and_eq_true] at h
    rw [eqTr_eq h.2.1, eqTr_eq h.2.2]
    have : v = v' := by
      have h1 := h.1
      cases v <;> cases v' <;> simp only at h1 <;> first | rfl | (cases h1; done) | rw [eqMO_eq h1]
    rw [this]
  | .nil, .node .., h => by simp [eqTr] at h
  | .node .., .nil, h => by simp [eqTr] at h

def eqRet (a b : MV × MS) : Bool := eqMV a.1 b.1 && (eqPos a.2.next b.2.next && eqTr a.2.objs b.2.objs)
theorem eqRet_eq {a b : MV × MS} (h : eqRet a b = true) : a = b := by
  obtain ⟨v, n, o⟩ := a; obtain ⟨v', n', o'⟩ := b
  simp only [eqRet, Bool.and_eq_true] at h
  rw [eqMV_eq _ _ h.1, eqPos_eq h.2.1, eqTr_eq h.2.2]

def anyEq (a : MV × MS) : List (MV × MS) → Bool
  | [] => false
  | b :: l => match eqRet a b with | true => true | false => anyEq a l
theorem anyEq_mem {a : MV × MS} : ∀ {l : List (MV × MS)}, anyEq a l = true → a ∈ l
  | [], h => by simp [anyEq] at h
  | b :: l, h => by
    simp only [anyEq] at h
    split at h
    · rename_i hb; rw [eqRet_eq hb]; exact List.mem_cons_self ..
    · exact List.mem_cons_of_mem _ (anyEq_mem h)

/-- Equal outcomes once. -/
def merged : List (MV × MS) → List (MV × MS)
  | [] => []
  | [a] => [a]
  | a :: l => match anyEq a (merged l) with | true => merged l | false => a :: merged l
theorem merged_mem : ∀ (l : List (MV × MS)), ∀ r ∈ l, r ∈ merged l
  | [], _, h => h
  | [_], _, h => h
  | a :: b :: l, r, h => by
    simp only [merged]
    split
    · rename_i hb
      rcases List.mem_cons.1 h with rfl | h
      · exact anyEq_mem hb
      · exact merged_mem (b :: l) r h
    · rcases List.mem_cons.1 h with rfl | h
      · exact List.mem_cons_self ..
      · exact List.mem_cons_of_mem _ (merged_mem (b :: l) r h)

end Go.Mir
