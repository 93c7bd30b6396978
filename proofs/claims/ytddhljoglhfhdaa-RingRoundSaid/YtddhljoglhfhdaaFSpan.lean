/- What each function of package span yields, for every span of 32-bit numbers. -/
import Derived.Test.YtddhljoglhfhdaaF0
namespace Go.Proofs.Ytddhljoglhfhdaa
open Go Go.GV
attribute [local irreducible] cw Go.GV.SpecM Go.GV.wpList Exit.then Exit.inBlock Go.GV.bodyPost wpPl wpPm wpPn TS rnd rPost YieldsB wpPT ptK
set_option maxRecDepth 10000

def pl1 (a b : Int) : Int := if b < a then 1 else a
def pl2 (a b : Int) : Int := if b < a then 0 else b
def mtOk (a b c d : Int) : Bool := decide (max a c ≤ min b d)
def mt1 (a b c d : Int) : Int := if max a c ≤ min b d then max a c else 0
def mt2 (a b c d : Int) : Int := if max a c ≤ min b d then min b d else 0
def cov (a b c d : Int) : Bool := decide (d < c) || (decide (a ≤ c) && decide (d ≤ b))
def hl1 (a b c d : Int) : Int := if b < a then (if d < c then 0 else c) else (if d < c then a else min a c)
def hl2 (a b c d : Int) : Int := if b < a then (if d < c then 0 else d) else (if d < c then b else max b d)
def ln (a b : Int) : Int := if b < a then 0 else min (b - a + 1) 4294967295

theorem eqPN (a b : Int) : eqL [.int .i32 (pl1 a b), .int .i32 (pl2 a b)] [.int .i32 1, .int .i32 0] = decide (b < a) := by
  rw [Bool.eq_iff_iff]
  simp only [eqL, eqV, pl1, pl2, Bool.and_eq_true, beq_iff_eq, decide_eq_true_eq]
  split <;> omega

end Go.Proofs.Ytddhljoglhfhdaa
