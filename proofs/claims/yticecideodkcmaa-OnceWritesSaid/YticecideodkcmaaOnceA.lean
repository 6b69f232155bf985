/-
  Layer 14, part A: the data; which of them may be; few bytes.
-/
import Derived.Test.YticecideodkcmaaVarC
namespace Go.Proofs.Yticecideodkcmaa
open Sx Go
set_option maxRecDepth 100000
set_option linter.unusedSimpArgs false
set_option linter.unusedVariables false
set_option linter.unnecessarySimpa false
attribute [local simp] execOps guardB isCall opStep Opd.ev put upd readAt aBin aUn args0 V.celled V.ones V.one V.cells Res.run Res.all putAt bounds bound1 elemsOf srcOf appendV fillAt fillEl V.pures V.pure unwind evs ARes.ev mkRes V.ren V.renL O.ren Br.ok eqCells eq1 aEq aMM mmGo

/-- on to the next region, branch, loop or return -/


structure Seen where
  client : Int
  seq : Int
  err : Int
  value : List UInt8
  has : Bool
  pairs : List (List UInt8 × List UInt8)
  upto : List UInt8
  deriving DecidableEq

def encP (p : List UInt8 × List UInt8) : List V := [.str p.1, .str p.2]
def encR (x : Seen) : List V := [.int .i64 x.err, .str x.value, .bool x.has, .vs (x.pairs.map encP) 2, .str x.upto]
def encS (x : Seen) : List V := [.int .i64 x.client, .int .i64 x.seq, .int .i64 x.err, .str x.value, .bool x.has, .vs (x.pairs.map encP) 2, .str x.upto]

def mayB (x : Seen) : Bool := decide (0 ≤ x.client) && decide (x.client < 8) && decide (1 ≤ x.seq) && decide (x.seq ≤ 1099511627775) && decide (x.value = []) && decide (x.pairs.length = 0) && decide (x.upto = []) && decide (0 ≤ x.err) && decide (x.err ≤ 999)

theorem may_tri (x : Seen) : Tri Try.prog 28 [.agg (encS x)] [] (fun v H => v = .bool (mayB x) ∧ H = []) := by
  refine Tri.of_run' Try.func28 rfl c28_ok (by simp [Try.ntmps28]) ?_
  unfold c28
  refine Run.seq (Run.region ?_)
  simp -implicitDefEqProofs [c28r0, encS]
  refine Run.seq (Run.region ?_)
  simp -implicitDefEqProofs [c28r1]
  refine Run.seq (Run.region ?_)
  refine Res.cut (fun t _ => t 2 = .bool (mayB x)) ?_ (fun t h ht => ?_)
  · by_cases a1 : 0 ≤ x.client
    rotate_left
    · simp -implicitDefEqProofs [c28r2, mayB, a1]
    by_cases a2 : x.client < 8
    rotate_left
    · simp -implicitDefEqProofs [c28r2, mayB, a1, a2]
    by_cases a3 : 1 ≤ x.seq
    rotate_left
    · simp -implicitDefEqProofs [c28r2, mayB, a1, a2, a3]
    by_cases a4 : x.seq ≤ 1099511627775
    rotate_left
    · simp -implicitDefEqProofs [c28r2, mayB, a1, a2, a3, a4]
    by_cases a5 : x.value = []
    rotate_left
    · simp -implicitDefEqProofs [c28r2, mayB, a1, a2, a3, a4, a5]
    by_cases a6 : x.pairs.length = 0
    rotate_left
    · simp -implicitDefEqProofs [c28r2, mayB, a1, a2, a3, a4, a5, a6]
    by_cases a7 : x.upto = []
    rotate_left
    · simp -implicitDefEqProofs [c28r2, mayB, a1, a2, a3, a4, a5, a6, a7]
    by_cases a8 : 0 ≤ x.err
    rotate_left
    · simp -implicitDefEqProofs [c28r2, mayB, a1, a2, a3, a4, a5, a6, a7, a8]
    by_cases a9 : x.err ≤ 999
    rotate_left
    · simp -implicitDefEqProofs [c28r2, mayB, a1, a2, a3, a4, a5, a6, a7, a8, a9]
    simp -implicitDefEqProofs [c28r2, mayB, a1, a2, a3, a4, a5, a6, a7, a8, a9]
  · exact Run.ret0 rfl Try.func28 r28_ok trivial (by simp [r28]; rfl) (by simp [ht]) (by simp [ht])

end Go.Proofs.Yticecideodkcmaa
