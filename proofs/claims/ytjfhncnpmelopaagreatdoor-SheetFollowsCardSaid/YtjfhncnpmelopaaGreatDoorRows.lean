/-
  NARROWER THAN 'FOR EVERY INPUT', by the rows' own cells (each row's printed sentence says how): SheetBest: laid · SheetGrows: laid · SheetPaces: laid · SheetFollows: laid · SheetProofs: laid · SheetCertain: laid · SheetMeans: laid · SheetMatrices: laid · SheetAlgebra: laid.
  DERIVED. THE GIVEN ROWS OF THIS SEAT. 9 by the template 'for every input the law returns true; each argument reads behind the call as it read before'; 0 by the template 'total and deterministic' (their statements: YtjfhncnpmelopaaGreatDoorTotals.lean).
  GIVEN WITH THE SEED: the statements are not yours to turn. If you find one false, say at which input.
  Laid BY PROGRAM, IN A SANDBOX (cutbox-rows.mjs): the forced cells as the released guide's own fill.sh prints them over the translation 660f6493c4f7e62e… (all of the seat's roots in one cut). By AI agents, Wed Nov 11 2026. No macro, syntax, notation, axiom, sorry.
-/
import Derived.Test.YtjfhncnpmelopaaGreatDoorChecked
import GoSem.Claim
import GoSem.ClaimJoined
import GoSem.ClaimMapViews
import Derived.JoinedTies
import Derived.KernelRfl
namespace Go.Proofs.YtjfhncnpmelopaaGreatDoor
/- THE CELL 'sum', in the pinned program and in every row, IS THE sha256 OF THE DUMP (.gsa) THAT YtjfhncnpmelopaaGreatDoorProg.lean LOADS. Nothing in Lean hashes anything: it is a label: what it is worth is what the hold of that sum in a sandbox is worth. -/
noncomputable def Tryz.pinned : Pinned := { name := "ytjfhncnpmelopaagreatdoor", sum := "660f6493c4f7e62e2e081da7093a7f77d77ecc0be631b36df21f9a0f540c092a", checked := Tryz.checked }
namespace Rows
def none {H : Type} : Left H := { results := [], args := [] }

/- WHAT THE LISTED PACKAGE-LEVEL VARIABLES READ AS WHEN THE CALL BEGINS. Each datum BY PROGRAM (the guide's laid-datum.mjs) off the statement by which the dump's own 'gosem.cut.vars' lays the variable. In a bare row this is a premise. The card (YtjfhncnpmelopaaGreatDoorCards.lean) ties it to the program's text. -/
def laid_math_bits_deBruijn32tab {H : Type} : DataW H := .agg [.lit (.int .u8 0), .lit (.int .u8 1), .lit (.int .u8 28), .lit (.int .u8 2), .lit (.int .u8 29), .lit (.int .u8 14), .lit (.int .u8 24), .lit (.int .u8 3), .lit (.int .u8 30), .lit (.int .u8 22), .lit (.int .u8 20), .lit (.int .u8 15), .lit (.int .u8 25), .lit (.int .u8 17), .lit (.int .u8 4), .lit (.int .u8 8), .lit (.int .u8 31), .lit (.int .u8 27), .lit (.int .u8 13), .lit (.int .u8 23), .lit (.int .u8 21), .lit (.int .u8 19), .lit (.int .u8 16), .lit (.int .u8 7), .lit (.int .u8 26), .lit (.int .u8 12), .lit (.int .u8 18), .lit (.int .u8 6), .lit (.int .u8 11), .lit (.int .u8 5), .lit (.int .u8 10), .lit (.int .u8 9)]
def laid_math_bits_deBruijn64tab {H : Type} : DataW H := .agg [.lit (.int .u8 0), .lit (.int .u8 1), .lit (.int .u8 56), .lit (.int .u8 2), .lit (.int .u8 57), .lit (.int .u8 49), .lit (.int .u8 28), .lit (.int .u8 3), .lit (.int .u8 61), .lit (.int .u8 58), .lit (.int .u8 42), .lit (.int .u8 50), .lit (.int .u8 38), .lit (.int .u8 29), .lit (.int .u8 17), .lit (.int .u8 4), .lit (.int .u8 62), .lit (.int .u8 47), .lit (.int .u8 59), .lit (.int .u8 36), .lit (.int .u8 45), .lit (.int .u8 43), .lit (.int .u8 51), .lit (.int .u8 22), .lit (.int .u8 53), .lit (.int .u8 39), .lit (.int .u8 33), .lit (.int .u8 30), .lit (.int .u8 24), .lit (.int .u8 18), .lit (.int .u8 12), .lit (.int .u8 5), .lit (.int .u8 63), .lit (.int .u8 55), .lit (.int .u8 48), .lit (.int .u8 27), .lit (.int .u8 60), .lit (.int .u8 41), .lit (.int .u8 37), .lit (.int .u8 16), .lit (.int .u8 46), .lit (.int .u8 35), .lit (.int .u8 44), .lit (.int .u8 21), .lit (.int .u8 52), .lit (.int .u8 32), .lit (.int .u8 23), .lit (.int .u8 11), .lit (.int .u8 54), .lit (.int .u8 26), .lit (.int .u8 40), .lit (.int .u8 15), .lit (.int .u8 34), .lit (.int .u8 20), .lit (.int .u8 31), .lit (.int .u8 10), .lit (.int .u8 25), .lit (.int .u8 14), .lit (.int .u8 19), .lit (.int .u8 9), .lit (.int .u8 13), .lit (.int .u8 8), .lit (.int .u8 7), .lit (.int .u8 6)]
def laid_internal_strconv_uint64pow10 {H : Type} : DataW H := .agg [.lit (.int .u64 1), .lit (.int .u64 10), .lit (.int .u64 100), .lit (.int .u64 1000), .lit (.int .u64 10000), .lit (.int .u64 100000), .lit (.int .u64 1000000), .lit (.int .u64 10000000), .lit (.int .u64 100000000), .lit (.int .u64 1000000000), .lit (.int .u64 10000000000), .lit (.int .u64 100000000000), .lit (.int .u64 1000000000000), .lit (.int .u64 10000000000000), .lit (.int .u64 100000000000000), .lit (.int .u64 1000000000000000), .lit (.int .u64 10000000000000000), .lit (.int .u64 100000000000000000), .lit (.int .u64 1000000000000000000), .lit (.int .u64 10000000000000000000)]

/-- 'niblicklaw08.SheetBest': WHATEVER THE INPUT: true; the input reads as it did. -/
def sheetBestSpec : ChangeSpec := { name := "sheetBest", fn := fun _ => fun
  | [d1, d2] => { results := [.lit (.bool true)], args := [d1, d2] }
  | _ => none }
def sheetBestRow : OpenClaim := { program := "ytjfhncnpmelopaagreatdoor", sum := "660f6493c4f7e62e2e081da7093a7f77d77ecc0be631b36df21f9a0f540c092a", func := "niblick/niblicklaw08.SheetBest", spec := "sheetBest", inPlace := ["math/bits.Add64", "math/bits.Sub64", "internal/abi.NoEscape", "internal/bytealg.MakeNoZero"], unfollowed := true, recurses := true, named := ["math/bits.divideError", "math/bits.overflowError", "internal/strconv.uint64pow10", "math/bits.deBruijn32tab", "math/bits.deBruijn64tab"], apart := false, laid := [("math/bits.deBruijn32tab", laid_math_bits_deBruijn32tab), ("math/bits.deBruijn64tab", laid_math_bits_deBruijn64tab), ("internal/strconv.uint64pow10", laid_internal_strconv_uint64pow10)] }
def SheetBestSaid : Prop := sheetBestRow.holds Tryz.pinned (OpenSpec.ofChange sheetBestSpec)

/-- ITS FALSE NEIGHBOUR: 'it returns false'. Refute it at one input. -/
def sheetBestWrong : ChangeSpec := { name := "sheetBest", fn := fun _ => fun
  | [d1, d2] => { results := [.lit (.bool false)], args := [d1, d2] }
  | _ => none }
def SheetBestWrongFalsely : Prop := sheetBestRow.holds Tryz.pinned (OpenSpec.ofChange sheetBestWrong)

/-- 'niblicklaw08.SheetGrows': WHATEVER THE INPUT: true; the input reads as it did. -/
def sheetGrowsSpec : ChangeSpec := { name := "sheetGrows", fn := fun _ => fun
  | [d1, d2, d3] => { results := [.lit (.bool true)], args := [d1, d2, d3] }
  | _ => none }
def sheetGrowsRow : OpenClaim := { program := "ytjfhncnpmelopaagreatdoor", sum := "660f6493c4f7e62e2e081da7093a7f77d77ecc0be631b36df21f9a0f540c092a", func := "niblick/niblicklaw08.SheetGrows", spec := "sheetGrows", inPlace := ["math/bits.Add64", "math/bits.Sub64", "internal/abi.NoEscape", "internal/bytealg.MakeNoZero"], unfollowed := true, recurses := true, named := ["math/bits.divideError", "math/bits.overflowError", "internal/strconv.uint64pow10", "math/bits.deBruijn32tab", "math/bits.deBruijn64tab"], apart := false, laid := [("math/bits.deBruijn32tab", laid_math_bits_deBruijn32tab), ("math/bits.deBruijn64tab", laid_math_bits_deBruijn64tab), ("internal/strconv.uint64pow10", laid_internal_strconv_uint64pow10)] }
def SheetGrowsSaid : Prop := sheetGrowsRow.holds Tryz.pinned (OpenSpec.ofChange sheetGrowsSpec)

/-- ITS FALSE NEIGHBOUR: 'it returns false'. Refute it at one input. -/
def sheetGrowsWrong : ChangeSpec := { name := "sheetGrows", fn := fun _ => fun
  | [d1, d2, d3] => { results := [.lit (.bool false)], args := [d1, d2, d3] }
  | _ => none }
def SheetGrowsWrongFalsely : Prop := sheetGrowsRow.holds Tryz.pinned (OpenSpec.ofChange sheetGrowsWrong)

/-- 'niblicklaw08.SheetPaces': WHATEVER THE INPUT: true; the input reads as it did. -/
def sheetPacesSpec : ChangeSpec := { name := "sheetPaces", fn := fun _ => fun
  | [d] => { results := [.lit (.bool true)], args := [d] }
  | _ => none }
def sheetPacesRow : OpenClaim := { program := "ytjfhncnpmelopaagreatdoor", sum := "660f6493c4f7e62e2e081da7093a7f77d77ecc0be631b36df21f9a0f540c092a", func := "niblick/niblicklaw08.SheetPaces", spec := "sheetPaces", inPlace := ["math/bits.Add64", "math/bits.Sub64", "internal/abi.NoEscape", "internal/bytealg.MakeNoZero"], unfollowed := true, recurses := true, named := ["math/bits.divideError", "math/bits.overflowError", "internal/strconv.uint64pow10", "math/bits.deBruijn32tab", "math/bits.deBruijn64tab"], apart := false, laid := [("math/bits.deBruijn32tab", laid_math_bits_deBruijn32tab), ("math/bits.deBruijn64tab", laid_math_bits_deBruijn64tab), ("internal/strconv.uint64pow10", laid_internal_strconv_uint64pow10)] }
def SheetPacesSaid : Prop := sheetPacesRow.holds Tryz.pinned (OpenSpec.ofChange sheetPacesSpec)

/-- ITS FALSE NEIGHBOUR: 'it returns false'. Refute it at one input. -/
def sheetPacesWrong : ChangeSpec := { name := "sheetPaces", fn := fun _ => fun
  | [d] => { results := [.lit (.bool false)], args := [d] }
  | _ => none }
def SheetPacesWrongFalsely : Prop := sheetPacesRow.holds Tryz.pinned (OpenSpec.ofChange sheetPacesWrong)

/-- 'niblicklaw08.SheetFollows': WHATEVER THE INPUT: true; the input reads as it did. -/
def sheetFollowsSpec : ChangeSpec := { name := "sheetFollows", fn := fun _ => fun
  | [d1, d2, d3] => { results := [.lit (.bool true)], args := [d1, d2, d3] }
  | _ => none }
def sheetFollowsRow : OpenClaim := { program := "ytjfhncnpmelopaagreatdoor", sum := "660f6493c4f7e62e2e081da7093a7f77d77ecc0be631b36df21f9a0f540c092a", func := "niblick/niblicklaw08.SheetFollows", spec := "sheetFollows", inPlace := ["math/bits.Add64", "math/bits.Sub64", "internal/abi.NoEscape", "internal/bytealg.MakeNoZero"], unfollowed := true, recurses := true, named := ["math/bits.divideError", "math/bits.overflowError", "internal/strconv.uint64pow10", "math/bits.deBruijn32tab", "math/bits.deBruijn64tab"], apart := false, laid := [("math/bits.deBruijn32tab", laid_math_bits_deBruijn32tab), ("math/bits.deBruijn64tab", laid_math_bits_deBruijn64tab), ("internal/strconv.uint64pow10", laid_internal_strconv_uint64pow10)] }
def SheetFollowsSaid : Prop := sheetFollowsRow.holds Tryz.pinned (OpenSpec.ofChange sheetFollowsSpec)

/-- ITS FALSE NEIGHBOUR: 'it returns false'. Refute it at one input. -/
def sheetFollowsWrong : ChangeSpec := { name := "sheetFollows", fn := fun _ => fun
  | [d1, d2, d3] => { results := [.lit (.bool false)], args := [d1, d2, d3] }
  | _ => none }
def SheetFollowsWrongFalsely : Prop := sheetFollowsRow.holds Tryz.pinned (OpenSpec.ofChange sheetFollowsWrong)

/-- 'niblicklaw08.SheetProofs': WHATEVER THE INPUT: true; the input reads as it did. -/
def sheetProofsSpec : ChangeSpec := { name := "sheetProofs", fn := fun _ => fun
  | [d1, d2, d3] => { results := [.lit (.bool true)], args := [d1, d2, d3] }
  | _ => none }
def sheetProofsRow : OpenClaim := { program := "ytjfhncnpmelopaagreatdoor", sum := "660f6493c4f7e62e2e081da7093a7f77d77ecc0be631b36df21f9a0f540c092a", func := "niblick/niblicklaw08.SheetProofs", spec := "sheetProofs", inPlace := ["math/bits.Add64", "math/bits.Sub64", "internal/abi.NoEscape", "internal/bytealg.MakeNoZero"], unfollowed := true, recurses := true, named := ["math/bits.divideError", "math/bits.overflowError", "internal/strconv.uint64pow10", "math/bits.deBruijn32tab", "math/bits.deBruijn64tab"], apart := false, laid := [("math/bits.deBruijn32tab", laid_math_bits_deBruijn32tab), ("math/bits.deBruijn64tab", laid_math_bits_deBruijn64tab), ("internal/strconv.uint64pow10", laid_internal_strconv_uint64pow10)] }
def SheetProofsSaid : Prop := sheetProofsRow.holds Tryz.pinned (OpenSpec.ofChange sheetProofsSpec)

/-- ITS FALSE NEIGHBOUR: 'it returns false'. Refute it at one input. -/
def sheetProofsWrong : ChangeSpec := { name := "sheetProofs", fn := fun _ => fun
  | [d1, d2, d3] => { results := [.lit (.bool false)], args := [d1, d2, d3] }
  | _ => none }
def SheetProofsWrongFalsely : Prop := sheetProofsRow.holds Tryz.pinned (OpenSpec.ofChange sheetProofsWrong)

/-- 'niblicklaw08.SheetCertain': WHATEVER THE INPUT: true; the input reads as it did. -/
def sheetCertainSpec : ChangeSpec := { name := "sheetCertain", fn := fun _ => fun
  | [d1, d2, d3] => { results := [.lit (.bool true)], args := [d1, d2, d3] }
  | _ => none }
def sheetCertainRow : OpenClaim := { program := "ytjfhncnpmelopaagreatdoor", sum := "660f6493c4f7e62e2e081da7093a7f77d77ecc0be631b36df21f9a0f540c092a", func := "niblick/niblicklaw08.SheetCertain", spec := "sheetCertain", inPlace := ["math/bits.Add64", "math/bits.Sub64", "internal/abi.NoEscape", "internal/bytealg.MakeNoZero"], unfollowed := true, recurses := true, named := ["math/bits.divideError", "math/bits.overflowError", "internal/strconv.uint64pow10", "math/bits.deBruijn32tab", "math/bits.deBruijn64tab"], apart := false, laid := [("math/bits.deBruijn32tab", laid_math_bits_deBruijn32tab), ("math/bits.deBruijn64tab", laid_math_bits_deBruijn64tab), ("internal/strconv.uint64pow10", laid_internal_strconv_uint64pow10)] }
def SheetCertainSaid : Prop := sheetCertainRow.holds Tryz.pinned (OpenSpec.ofChange sheetCertainSpec)

/-- ITS FALSE NEIGHBOUR: 'it returns false'. Refute it at one input. -/
def sheetCertainWrong : ChangeSpec := { name := "sheetCertain", fn := fun _ => fun
  | [d1, d2, d3] => { results := [.lit (.bool false)], args := [d1, d2, d3] }
  | _ => none }
def SheetCertainWrongFalsely : Prop := sheetCertainRow.holds Tryz.pinned (OpenSpec.ofChange sheetCertainWrong)

/-- 'niblicklaw08.SheetMeans': WHATEVER THE INPUT: true; the input reads as it did. -/
def sheetMeansSpec : ChangeSpec := { name := "sheetMeans", fn := fun _ => fun
  | [d1, d2, d3] => { results := [.lit (.bool true)], args := [d1, d2, d3] }
  | _ => none }
def sheetMeansRow : OpenClaim := { program := "ytjfhncnpmelopaagreatdoor", sum := "660f6493c4f7e62e2e081da7093a7f77d77ecc0be631b36df21f9a0f540c092a", func := "niblick/niblicklaw08.SheetMeans", spec := "sheetMeans", inPlace := ["math/bits.Add64", "math/bits.Sub64", "internal/abi.NoEscape", "internal/bytealg.MakeNoZero"], unfollowed := true, recurses := true, named := ["math/bits.divideError", "math/bits.overflowError", "internal/strconv.uint64pow10", "math/bits.deBruijn32tab", "math/bits.deBruijn64tab"], apart := false, laid := [("math/bits.deBruijn32tab", laid_math_bits_deBruijn32tab), ("math/bits.deBruijn64tab", laid_math_bits_deBruijn64tab), ("internal/strconv.uint64pow10", laid_internal_strconv_uint64pow10)] }
def SheetMeansSaid : Prop := sheetMeansRow.holds Tryz.pinned (OpenSpec.ofChange sheetMeansSpec)

/-- ITS FALSE NEIGHBOUR: 'it returns false'. Refute it at one input. -/
def sheetMeansWrong : ChangeSpec := { name := "sheetMeans", fn := fun _ => fun
  | [d1, d2, d3] => { results := [.lit (.bool false)], args := [d1, d2, d3] }
  | _ => none }
def SheetMeansWrongFalsely : Prop := sheetMeansRow.holds Tryz.pinned (OpenSpec.ofChange sheetMeansWrong)

/-- 'niblicklaw08.SheetMatrices': WHATEVER THE INPUT: true; the input reads as it did. -/
def sheetMatricesSpec : ChangeSpec := { name := "sheetMatrices", fn := fun _ => fun
  | [d1, d2, d3] => { results := [.lit (.bool true)], args := [d1, d2, d3] }
  | _ => none }
def sheetMatricesRow : OpenClaim := { program := "ytjfhncnpmelopaagreatdoor", sum := "660f6493c4f7e62e2e081da7093a7f77d77ecc0be631b36df21f9a0f540c092a", func := "niblick/niblicklaw08.SheetMatrices", spec := "sheetMatrices", inPlace := ["math/bits.Add64", "math/bits.Sub64", "internal/abi.NoEscape", "internal/bytealg.MakeNoZero"], unfollowed := true, recurses := true, named := ["math/bits.divideError", "math/bits.overflowError", "internal/strconv.uint64pow10", "math/bits.deBruijn32tab", "math/bits.deBruijn64tab"], apart := false, laid := [("math/bits.deBruijn32tab", laid_math_bits_deBruijn32tab), ("math/bits.deBruijn64tab", laid_math_bits_deBruijn64tab), ("internal/strconv.uint64pow10", laid_internal_strconv_uint64pow10)] }
def SheetMatricesSaid : Prop := sheetMatricesRow.holds Tryz.pinned (OpenSpec.ofChange sheetMatricesSpec)

/-- ITS FALSE NEIGHBOUR: 'it returns false'. Refute it at one input. -/
def sheetMatricesWrong : ChangeSpec := { name := "sheetMatrices", fn := fun _ => fun
  | [d1, d2, d3] => { results := [.lit (.bool false)], args := [d1, d2, d3] }
  | _ => none }
def SheetMatricesWrongFalsely : Prop := sheetMatricesRow.holds Tryz.pinned (OpenSpec.ofChange sheetMatricesWrong)

/-- 'niblicklaw08.SheetAlgebra': WHATEVER THE INPUT: true; the input reads as it did. -/
def sheetAlgebraSpec : ChangeSpec := { name := "sheetAlgebra", fn := fun _ => fun
  | [d1, d2, d3] => { results := [.lit (.bool true)], args := [d1, d2, d3] }
  | _ => none }
def sheetAlgebraRow : OpenClaim := { program := "ytjfhncnpmelopaagreatdoor", sum := "660f6493c4f7e62e2e081da7093a7f77d77ecc0be631b36df21f9a0f540c092a", func := "niblick/niblicklaw08.SheetAlgebra", spec := "sheetAlgebra", inPlace := ["math/bits.Add64", "math/bits.Sub64", "internal/abi.NoEscape", "internal/bytealg.MakeNoZero"], unfollowed := true, recurses := true, named := ["math/bits.divideError", "math/bits.overflowError", "internal/strconv.uint64pow10", "math/bits.deBruijn32tab", "math/bits.deBruijn64tab"], apart := false, laid := [("math/bits.deBruijn32tab", laid_math_bits_deBruijn32tab), ("math/bits.deBruijn64tab", laid_math_bits_deBruijn64tab), ("internal/strconv.uint64pow10", laid_internal_strconv_uint64pow10)] }
def SheetAlgebraSaid : Prop := sheetAlgebraRow.holds Tryz.pinned (OpenSpec.ofChange sheetAlgebraSpec)

/-- ITS FALSE NEIGHBOUR: 'it returns false'. Refute it at one input. -/
def sheetAlgebraWrong : ChangeSpec := { name := "sheetAlgebra", fn := fun _ => fun
  | [d1, d2, d3] => { results := [.lit (.bool false)], args := [d1, d2, d3] }
  | _ => none }
def SheetAlgebraWrongFalsely : Prop := sheetAlgebraRow.holds Tryz.pinned (OpenSpec.ofChange sheetAlgebraWrong)

/- THE SECOND FORM. 'bulk': how many values and letters a reading holds, each counted each time it is reached (what is shared counts as often as it is met; a slice's spare places count too). A statement '..UptoSaid' is the law's where the arguments, and the package variables that the reading takes, are together of bulk at most 1048576: NARROWER than '..Said'. Prove '..Said' where nothing that the law and all that it calls make is longer than what came in: it says more and counts as full. Else prove '..UptoSaid'. A law counts once. -/
mutual
def uptoBulk {H : Type} : DataW H → Nat
  | .lit (.string bytes) => bytes.length + 1
  | .lit _ => 1
  | .nil => 1
  | .ptr d => uptoBulk d + 1
  | .slice elems spare => uptoBulkAll elems + uptoBulkAll spare + 1
  | .agg parts => uptoBulkAll parts + 1
  | .iface _ d => uptoBulk d + 1
  | .map entries => uptoBulkEntries entries + 1
  | .held _ => 1
def uptoBulkAll {H : Type} : List (DataW H) → Nat
  | [] => 0
  | d :: r => uptoBulk d + uptoBulkAll r
def uptoBulkEntries {H : Type} : List (Lit × DataW H) → Nat
  | [] => 0
  | x :: r => uptoBulkEntry x + uptoBulkEntries r
def uptoBulkEntry {H : Type} : Lit × DataW H → Nat
  | (.string bytes, d) => bytes.length + uptoBulk d + 1
  | (_, d) => uptoBulk d + 1
 end
def uptoSmall : (H : Type) → List (DataW H) → Bool := fun _ ds => decide (uptoBulkAll ds ≤ 1048576)
def OpenSpec.upto (s : _root_.Go.ChangeSpec) : _root_.Go.OpenSpec := { _root_.Go.OpenSpec.ofChange s with cond := some uptoSmall }

/-- 'niblicklaw08.SheetBest', WHERE WHAT IT READS IS OF BULK AT MOST 1048576: true; the input reads as it did. -/
def sheetBestUptoRow : OpenClaim := { program := "ytjfhncnpmelopaagreatdoor", sum := "660f6493c4f7e62e2e081da7093a7f77d77ecc0be631b36df21f9a0f540c092a", func := "niblick/niblicklaw08.SheetBest", spec := "sheetBest", inPlace := ["math/bits.Add64", "math/bits.Sub64", "internal/abi.NoEscape", "internal/bytealg.MakeNoZero"], unfollowed := true, recurses := true, named := ["math/bits.divideError", "math/bits.overflowError", "internal/strconv.uint64pow10", "math/bits.deBruijn32tab", "math/bits.deBruijn64tab"], apart := false, laid := [("math/bits.deBruijn32tab", laid_math_bits_deBruijn32tab), ("math/bits.deBruijn64tab", laid_math_bits_deBruijn64tab), ("internal/strconv.uint64pow10", laid_internal_strconv_uint64pow10)], narrowed := true }
def SheetBestUptoSaid : Prop := sheetBestUptoRow.holds Tryz.pinned (OpenSpec.upto sheetBestSpec)

/-- 'niblicklaw08.SheetGrows', WHERE WHAT IT READS IS OF BULK AT MOST 1048576: true; the input reads as it did. -/
def sheetGrowsUptoRow : OpenClaim := { program := "ytjfhncnpmelopaagreatdoor", sum := "660f6493c4f7e62e2e081da7093a7f77d77ecc0be631b36df21f9a0f540c092a", func := "niblick/niblicklaw08.SheetGrows", spec := "sheetGrows", inPlace := ["math/bits.Add64", "math/bits.Sub64", "internal/abi.NoEscape", "internal/bytealg.MakeNoZero"], unfollowed := true, recurses := true, named := ["math/bits.divideError", "math/bits.overflowError", "internal/strconv.uint64pow10", "math/bits.deBruijn32tab", "math/bits.deBruijn64tab"], apart := false, laid := [("math/bits.deBruijn32tab", laid_math_bits_deBruijn32tab), ("math/bits.deBruijn64tab", laid_math_bits_deBruijn64tab), ("internal/strconv.uint64pow10", laid_internal_strconv_uint64pow10)], narrowed := true }
def SheetGrowsUptoSaid : Prop := sheetGrowsUptoRow.holds Tryz.pinned (OpenSpec.upto sheetGrowsSpec)

/-- 'niblicklaw08.SheetPaces', WHERE WHAT IT READS IS OF BULK AT MOST 1048576: true; the input reads as it did. -/
def sheetPacesUptoRow : OpenClaim := { program := "ytjfhncnpmelopaagreatdoor", sum := "660f6493c4f7e62e2e081da7093a7f77d77ecc0be631b36df21f9a0f540c092a", func := "niblick/niblicklaw08.SheetPaces", spec := "sheetPaces", inPlace := ["math/bits.Add64", "math/bits.Sub64", "internal/abi.NoEscape", "internal/bytealg.MakeNoZero"], unfollowed := true, recurses := true, named := ["math/bits.divideError", "math/bits.overflowError", "internal/strconv.uint64pow10", "math/bits.deBruijn32tab", "math/bits.deBruijn64tab"], apart := false, laid := [("math/bits.deBruijn32tab", laid_math_bits_deBruijn32tab), ("math/bits.deBruijn64tab", laid_math_bits_deBruijn64tab), ("internal/strconv.uint64pow10", laid_internal_strconv_uint64pow10)], narrowed := true }
def SheetPacesUptoSaid : Prop := sheetPacesUptoRow.holds Tryz.pinned (OpenSpec.upto sheetPacesSpec)

/-- 'niblicklaw08.SheetFollows', WHERE WHAT IT READS IS OF BULK AT MOST 1048576: true; the input reads as it did. -/
def sheetFollowsUptoRow : OpenClaim := { program := "ytjfhncnpmelopaagreatdoor", sum := "660f6493c4f7e62e2e081da7093a7f77d77ecc0be631b36df21f9a0f540c092a", func := "niblick/niblicklaw08.SheetFollows", spec := "sheetFollows", inPlace := ["math/bits.Add64", "math/bits.Sub64", "internal/abi.NoEscape", "internal/bytealg.MakeNoZero"], unfollowed := true, recurses := true, named := ["math/bits.divideError", "math/bits.overflowError", "internal/strconv.uint64pow10", "math/bits.deBruijn32tab", "math/bits.deBruijn64tab"], apart := false, laid := [("math/bits.deBruijn32tab", laid_math_bits_deBruijn32tab), ("math/bits.deBruijn64tab", laid_math_bits_deBruijn64tab), ("internal/strconv.uint64pow10", laid_internal_strconv_uint64pow10)], narrowed := true }
def SheetFollowsUptoSaid : Prop := sheetFollowsUptoRow.holds Tryz.pinned (OpenSpec.upto sheetFollowsSpec)

/-- 'niblicklaw08.SheetProofs', WHERE WHAT IT READS IS OF BULK AT MOST 1048576: true; the input reads as it did. -/
def sheetProofsUptoRow : OpenClaim := { program := "ytjfhncnpmelopaagreatdoor", sum := "660f6493c4f7e62e2e081da7093a7f77d77ecc0be631b36df21f9a0f540c092a", func := "niblick/niblicklaw08.SheetProofs", spec := "sheetProofs", inPlace := ["math/bits.Add64", "math/bits.Sub64", "internal/abi.NoEscape", "internal/bytealg.MakeNoZero"], unfollowed := true, recurses := true, named := ["math/bits.divideError", "math/bits.overflowError", "internal/strconv.uint64pow10", "math/bits.deBruijn32tab", "math/bits.deBruijn64tab"], apart := false, laid := [("math/bits.deBruijn32tab", laid_math_bits_deBruijn32tab), ("math/bits.deBruijn64tab", laid_math_bits_deBruijn64tab), ("internal/strconv.uint64pow10", laid_internal_strconv_uint64pow10)], narrowed := true }
def SheetProofsUptoSaid : Prop := sheetProofsUptoRow.holds Tryz.pinned (OpenSpec.upto sheetProofsSpec)

/-- 'niblicklaw08.SheetCertain', WHERE WHAT IT READS IS OF BULK AT MOST 1048576: true; the input reads as it did. -/
def sheetCertainUptoRow : OpenClaim := { program := "ytjfhncnpmelopaagreatdoor", sum := "660f6493c4f7e62e2e081da7093a7f77d77ecc0be631b36df21f9a0f540c092a", func := "niblick/niblicklaw08.SheetCertain", spec := "sheetCertain", inPlace := ["math/bits.Add64", "math/bits.Sub64", "internal/abi.NoEscape", "internal/bytealg.MakeNoZero"], unfollowed := true, recurses := true, named := ["math/bits.divideError", "math/bits.overflowError", "internal/strconv.uint64pow10", "math/bits.deBruijn32tab", "math/bits.deBruijn64tab"], apart := false, laid := [("math/bits.deBruijn32tab", laid_math_bits_deBruijn32tab), ("math/bits.deBruijn64tab", laid_math_bits_deBruijn64tab), ("internal/strconv.uint64pow10", laid_internal_strconv_uint64pow10)], narrowed := true }
def SheetCertainUptoSaid : Prop := sheetCertainUptoRow.holds Tryz.pinned (OpenSpec.upto sheetCertainSpec)

/-- 'niblicklaw08.SheetMeans', WHERE WHAT IT READS IS OF BULK AT MOST 1048576: true; the input reads as it did. -/
def sheetMeansUptoRow : OpenClaim := { program := "ytjfhncnpmelopaagreatdoor", sum := "660f6493c4f7e62e2e081da7093a7f77d77ecc0be631b36df21f9a0f540c092a", func := "niblick/niblicklaw08.SheetMeans", spec := "sheetMeans", inPlace := ["math/bits.Add64", "math/bits.Sub64", "internal/abi.NoEscape", "internal/bytealg.MakeNoZero"], unfollowed := true, recurses := true, named := ["math/bits.divideError", "math/bits.overflowError", "internal/strconv.uint64pow10", "math/bits.deBruijn32tab", "math/bits.deBruijn64tab"], apart := false, laid := [("math/bits.deBruijn32tab", laid_math_bits_deBruijn32tab), ("math/bits.deBruijn64tab", laid_math_bits_deBruijn64tab), ("internal/strconv.uint64pow10", laid_internal_strconv_uint64pow10)], narrowed := true }
def SheetMeansUptoSaid : Prop := sheetMeansUptoRow.holds Tryz.pinned (OpenSpec.upto sheetMeansSpec)

/-- 'niblicklaw08.SheetMatrices', WHERE WHAT IT READS IS OF BULK AT MOST 1048576: true; the input reads as it did. -/
def sheetMatricesUptoRow : OpenClaim := { program := "ytjfhncnpmelopaagreatdoor", sum := "660f6493c4f7e62e2e081da7093a7f77d77ecc0be631b36df21f9a0f540c092a", func := "niblick/niblicklaw08.SheetMatrices", spec := "sheetMatrices", inPlace := ["math/bits.Add64", "math/bits.Sub64", "internal/abi.NoEscape", "internal/bytealg.MakeNoZero"], unfollowed := true, recurses := true, named := ["math/bits.divideError", "math/bits.overflowError", "internal/strconv.uint64pow10", "math/bits.deBruijn32tab", "math/bits.deBruijn64tab"], apart := false, laid := [("math/bits.deBruijn32tab", laid_math_bits_deBruijn32tab), ("math/bits.deBruijn64tab", laid_math_bits_deBruijn64tab), ("internal/strconv.uint64pow10", laid_internal_strconv_uint64pow10)], narrowed := true }
def SheetMatricesUptoSaid : Prop := sheetMatricesUptoRow.holds Tryz.pinned (OpenSpec.upto sheetMatricesSpec)

/-- 'niblicklaw08.SheetAlgebra', WHERE WHAT IT READS IS OF BULK AT MOST 1048576: true; the input reads as it did. -/
def sheetAlgebraUptoRow : OpenClaim := { program := "ytjfhncnpmelopaagreatdoor", sum := "660f6493c4f7e62e2e081da7093a7f77d77ecc0be631b36df21f9a0f540c092a", func := "niblick/niblicklaw08.SheetAlgebra", spec := "sheetAlgebra", inPlace := ["math/bits.Add64", "math/bits.Sub64", "internal/abi.NoEscape", "internal/bytealg.MakeNoZero"], unfollowed := true, recurses := true, named := ["math/bits.divideError", "math/bits.overflowError", "internal/strconv.uint64pow10", "math/bits.deBruijn32tab", "math/bits.deBruijn64tab"], apart := false, laid := [("math/bits.deBruijn32tab", laid_math_bits_deBruijn32tab), ("math/bits.deBruijn64tab", laid_math_bits_deBruijn64tab), ("internal/strconv.uint64pow10", laid_internal_strconv_uint64pow10)], narrowed := true }
def SheetAlgebraUptoSaid : Prop := sheetAlgebraUptoRow.holds Tryz.pinned (OpenSpec.upto sheetAlgebraSpec)

end Rows
end Go.Proofs.YtjfhncnpmelopaaGreatDoor
