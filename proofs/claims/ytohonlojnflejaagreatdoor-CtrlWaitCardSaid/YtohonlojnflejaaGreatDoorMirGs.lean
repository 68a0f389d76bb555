/- What contracts give, of numbers that are not known. -/
import Derived.Test.YtohonlojnflejaaGreatDoorMirSat
namespace Go.Mir
def k_refSeq (R : List Nat) : List MV → Option MV := g1 .u64 (fun x => rngE R x) (fun x => .sx .u64 (.bin .and .u64 x (.lit 281474976710655)))
def k_refStep (R : List Nat) : List MV → Option MV := g2 .u64 .i64 (fun x _y => rngE R x) (fun x y => .sx .u64 (.bin .and .u64 (.bin .add .u64 x (.wrap .u64 y)) (.lit 281474976710655)))
def k_seqLess (_R : List Nat) : List MV → Option MV := g2 .u64 .u64 (fun _x _y => true) (fun x y => .sb (.cmp .geq (.bin .and .u64 (.bin .sub .u64 x y) (.lit 281474976710655)) (.lit 140737488355328)))
def k_refLess (R : List Nat) : List MV → Option MV := g2 .u64 .u64 (fun x y => rngE R x && rngE R y) (fun x y => .sb (.cmp .geq (.bin .and .u64 (.bin .sub .u64 x y) (.lit 281474976710655)) (.lit 140737488355328)))
def k_refIn (R : List Nat) : List MV → Option MV := g3 .u64 .u64 .u64 (fun x y z => rngE R x && (rngE R y && rngE R z)) (fun x y z => .sb (.cmp .leq (.bin .and .u64 (.bin .sub .u64 y x) (.lit 281474976710655)) (.bin .and .u64 (.bin .sub .u64 z x) (.lit 281474976710655))))
def k_seqLong (R : List Nat) : List MV → Option MV := g2 .u32 .u64 (fun x y => rng32 x && rngE R y) (fun x y => .sx .u64 (.bin .and .u64 (.bin .add .u64 y (.bin .sub .u64 (.bin .and .u64 (.bin .add .u64 (.bin .sub .u64 (.wrap .u64 x) y) (.lit 8388608)) (.lit 16777215)) (.lit 8388608))) (.lit 281474976710655)))
def k_fixAdd (R : List Nat) : List MV → Option MV := g2 .u64 .u64 (fun x y => rngE R x && rngE R y) (fun x y => .sx .u64 (.app 41 x y (.lit 0)))
def k_fixSub (R : List Nat) : List MV → Option MV := g2 .u64 .u64 (fun x y => rngE R x && rngE R y) (fun x y => .sx .u64 (.app 42 x y (.lit 0)))
def k_fixMul (R : List Nat) : List MV → Option MV := g2 .u64 .u64 (fun x y => rngE R x && rngE R y) (fun x y => .sx .u64 (.app 40 x y (.lit 0)))
def k_refAdd (R : List Nat) : List MV → Option MV := g2 .u64 .u64 (fun x y => rngE R x && rngE R y) (fun x y => .sx .u64 (.app 41 x y (.lit 0)))
def k_refSub (R : List Nat) : List MV → Option MV := g2 .u64 .u64 (fun x y => rngE R x && rngE R y) (fun x y => .sx .u64 (.app 42 x y (.lit 0)))
def k_refMul (R : List Nat) : List MV → Option MV := g2 .u64 .u64 (fun x y => rngE R x && rngE R y) (fun x y => .sx .u64 (.app 40 x y (.lit 0)))
def k_refWide (R : List Nat) : List MV → Option MV := g2 .u64 .u64 (fun x y => rngE R x && rngE R y) (fun x y => .tuple [.sx .u64 (.app 45 x y (.lit 0)), .sx .u64 (.app 46 x y (.lit 0))])
def k_bitsMul64 (R : List Nat) : List MV → Option MV := g2 .u64 .u64 (fun x y => rngE R x && rngE R y) (fun x y => .tuple [.sx .u64 (.app 45 x y (.lit 0)), .sx .u64 (.app 46 x y (.lit 0))])
def k_refMulDiv (R : List Nat) : List MV → Option MV := g3 .u64 .u64 .u64 (fun x y z => rngE R x && (rngE R y && rngE R z)) (fun x y z => .sx .u64 (.app 43 x y z))
def k_fixMulDiv (R : List Nat) : List MV → Option MV := g3 .u64 .u64 .u64 (fun x y z => rngE R x && (rngE R y && rngE R z)) (fun x y z => .sx .u64 (.app 43 x y z))
end Go.Mir
