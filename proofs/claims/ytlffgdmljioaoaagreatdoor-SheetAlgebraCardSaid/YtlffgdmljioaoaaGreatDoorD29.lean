/- Part 29 of the walks of the golf union's program: S8j. -/
import Derived.Test.YtlffgdmljioaoaaGreatDoorD24
import Derived.Test.YtlffgdmljioaoaaGreatDoorD26
import Derived.Test.YtlffgdmljioaoaaGreatDoorD27
import Derived.Test.YtlffgdmljioaoaaGreatDoorD11
import Derived.Test.YtlffgdmljioaoaaGreatDoorD19
import Derived.Test.YtlffgdmljioaoaaGreatDoorD28
import Derived.Test.YtlffgdmljioaoaaGreatDoorD21
import Derived.Test.YtlffgdmljioaoaaGreatDoorD25
set_option linter.unusedVariables false
set_option linter.unusedSimpArgs false
set_option linter.unusedSectionVars false
set_option linter.constructorNameAsVariable false
/- The small example that awake tries: what the plain functions answer there. -/
namespace Go.Sheet
def rq0 : List RQ := [⟨[97, 110, 110], false, ws0⟩, ⟨[98, 101, 110], false, ws1⟩, ⟨[99, 97, 116], true, ws2⟩]
/-- the first request's first wish is dropped, and it is guaranteed -/
def rq1 : List RQ := [⟨[97, 110, 110], true, [⟨1, 3⟩]⟩, ⟨[98, 101, 110], false, ws1⟩, ⟨[99, 97, 116], true, ws2⟩]

def pc0 : PC := ⟨[0, 5], [[10, 12], [10, 12]], [1, 1]⟩
theorem awake_starts : starts 480 500 10 2 = ([⟨480, 1, 2⟩, ⟨490, 1, 2⟩, ⟨500, 1, 2⟩], 0) := by decide +kernel
theorem awake_daylight : daylight slots0 485 800 240 = ([1], 0) := by decide +kernel
theorem awake_withdraw : withdraw slots0 rq0 [0, -1, 1] 0 = ([-1, 0, 1], 0) := by decide +kernel
theorem awake_excluded : excluded slots0 rq1 = ([0, 2], 0) := by decide +kernel
theorem awake_ends : ends pc0 = ([[10, 22], [20, 34]], 0) := by decide +kernel
theorem awake_delays : delays pc0 = ([0, 7], 0) := by decide +kernel
theorem awake_bottleneck : bottleneck pc0 = ((0, 5), 0) := by decide +kernel
theorem awake_holes : holes [10, 12] = ([[10, NONE], [22, 12]], 0) := by decide +kernel
theorem awake_apply : applyM [[10, NONE], [22, 12]] [10, 22] = ([20, 34], 0) := by decide +kernel
theorem awake_mat : matE [[10, NONE], [22, 12]] = 0 := by decide +kernel
theorem awake_greatest : greatestF (insideM [[10, NONE], [22, 12]]) = ⟨12, 1, true⟩ := by decide +kernel
theorem awake_tight : tightF (lessM [[10, NONE], [22, 12]] ⟨12, 1, true⟩) (topF (lessM [[10, NONE], [22, 12]] ⟨12, 1, true⟩) 2) = [1] := by decide +kernel
theorem awake_proof : checkProof slots0 rq0 6 ⟨[1, 0, -1], [4, 2]⟩ = 0 := by decide +kernel
theorem awake_best : best slots0 rq0 = (6, 0) := by decide +kernel
theorem awake_most : most slots0 rq0 = (2, 0) := by decide +kernel
end Go.Sheet
