/-
  NARROWER THAN 'FOR EVERY INPUT', by the rows' own cells (each row's printed sentence says how): FnExactEvenRates: laid · FnExactEvenChain: laid · FnExactGroupQueue: laid · FnExactGapQueue: laid · FnExactBreakQueue: laid · FnExactTwoClasses: laid · FnExactBatchQueue: laid · FnExactTransformAt: laid · FnExactMomentOfService: laid · FnExactSpreadOf: laid · FnExactRestMean: laid · FnExactFirstChance: laid.
  DERIVED. THE GIVEN ROWS OF THIS SEAT. 12 by the template 'for every input the law returns true; each argument reads behind the call as it read before'; 0 by the template 'total and deterministic' (their statements: YtjmflicajplclaaGreatDoorTotals.lean).
  GIVEN WITH THE SEED: the statements are not yours to turn. If you find one false, say at which input.
  Laid BY PROGRAM, IN A SANDBOX (cutbox-rows.mjs): the forced cells as the released guide's own fill.sh prints them over the translation 11aaa425bb5ffed7… (all of the seat's roots in one cut). By AI agents, Wed Nov 11 2026. No macro, syntax, notation, axiom, sorry.
-/
import Derived.Test.YtjmflicajplclaaGreatDoorChecked
import GoSem.Claim
import GoSem.ClaimJoined
import GoSem.ClaimMapViews
import Derived.JoinedTies
import Derived.KernelRfl
namespace Go.Proofs.YtjmflicajplclaaGreatDoor
/- THE CELL 'sum', in the pinned program and in every row, IS THE sha256 OF THE DUMP (.gsa) THAT YtjmflicajplclaaGreatDoorProg.lean LOADS. Nothing in Lean hashes anything: it is a label: what it is worth is what the hold of that sum in a sandbox is worth. -/
noncomputable def Tryz.pinned : Pinned := { name := "ytjmflicajplclaagreatdoor", sum := "11aaa425bb5ffed794637a2e9b0232eb545a0e8277035c2d166a1d10cf2118b1", checked := Tryz.checked }
namespace Rows
def none {H : Type} : Left H := { results := [], args := [] }

/- WHAT THE LISTED PACKAGE-LEVEL VARIABLES READ AS WHEN THE CALL BEGINS. Each datum BY PROGRAM (the guide's laid-datum.mjs) off the statement by which the dump's own 'gosem.cut.vars' lays the variable. In a bare row this is a premise. The card (YtjmflicajplclaaGreatDoorCards.lean) ties it to the program's text. -/
def laid_math_bits_deBruijn32tab {H : Type} : DataW H := .agg [.lit (.int .u8 0), .lit (.int .u8 1), .lit (.int .u8 28), .lit (.int .u8 2), .lit (.int .u8 29), .lit (.int .u8 14), .lit (.int .u8 24), .lit (.int .u8 3), .lit (.int .u8 30), .lit (.int .u8 22), .lit (.int .u8 20), .lit (.int .u8 15), .lit (.int .u8 25), .lit (.int .u8 17), .lit (.int .u8 4), .lit (.int .u8 8), .lit (.int .u8 31), .lit (.int .u8 27), .lit (.int .u8 13), .lit (.int .u8 23), .lit (.int .u8 21), .lit (.int .u8 19), .lit (.int .u8 16), .lit (.int .u8 7), .lit (.int .u8 26), .lit (.int .u8 12), .lit (.int .u8 18), .lit (.int .u8 6), .lit (.int .u8 11), .lit (.int .u8 5), .lit (.int .u8 10), .lit (.int .u8 9)]
def laid_math_bits_deBruijn64tab {H : Type} : DataW H := .agg [.lit (.int .u8 0), .lit (.int .u8 1), .lit (.int .u8 56), .lit (.int .u8 2), .lit (.int .u8 57), .lit (.int .u8 49), .lit (.int .u8 28), .lit (.int .u8 3), .lit (.int .u8 61), .lit (.int .u8 58), .lit (.int .u8 42), .lit (.int .u8 50), .lit (.int .u8 38), .lit (.int .u8 29), .lit (.int .u8 17), .lit (.int .u8 4), .lit (.int .u8 62), .lit (.int .u8 47), .lit (.int .u8 59), .lit (.int .u8 36), .lit (.int .u8 45), .lit (.int .u8 43), .lit (.int .u8 51), .lit (.int .u8 22), .lit (.int .u8 53), .lit (.int .u8 39), .lit (.int .u8 33), .lit (.int .u8 30), .lit (.int .u8 24), .lit (.int .u8 18), .lit (.int .u8 12), .lit (.int .u8 5), .lit (.int .u8 63), .lit (.int .u8 55), .lit (.int .u8 48), .lit (.int .u8 27), .lit (.int .u8 60), .lit (.int .u8 41), .lit (.int .u8 37), .lit (.int .u8 16), .lit (.int .u8 46), .lit (.int .u8 35), .lit (.int .u8 44), .lit (.int .u8 21), .lit (.int .u8 52), .lit (.int .u8 32), .lit (.int .u8 23), .lit (.int .u8 11), .lit (.int .u8 54), .lit (.int .u8 26), .lit (.int .u8 40), .lit (.int .u8 15), .lit (.int .u8 34), .lit (.int .u8 20), .lit (.int .u8 31), .lit (.int .u8 10), .lit (.int .u8 25), .lit (.int .u8 14), .lit (.int .u8 19), .lit (.int .u8 9), .lit (.int .u8 13), .lit (.int .u8 8), .lit (.int .u8 7), .lit (.int .u8 6)]
def laid_internal_strconv_uint64pow10 {H : Type} : DataW H := .agg [.lit (.int .u64 1), .lit (.int .u64 10), .lit (.int .u64 100), .lit (.int .u64 1000), .lit (.int .u64 10000), .lit (.int .u64 100000), .lit (.int .u64 1000000), .lit (.int .u64 10000000), .lit (.int .u64 100000000), .lit (.int .u64 1000000000), .lit (.int .u64 10000000000), .lit (.int .u64 100000000000), .lit (.int .u64 1000000000000), .lit (.int .u64 10000000000000), .lit (.int .u64 100000000000000), .lit (.int .u64 1000000000000000), .lit (.int .u64 10000000000000000), .lit (.int .u64 100000000000000000), .lit (.int .u64 1000000000000000000), .lit (.int .u64 10000000000000000000)]
def laid_strconv_ErrRange {H : Type} : DataW H := .iface "*errors.errorString" (.ptr (.agg [.lit (.string [118, 97, 108, 117, 101, 32, 111, 117, 116, 32, 111, 102, 32, 114, 97, 110, 103, 101])]))
def laid_strconv_ErrSyntax {H : Type} : DataW H := .iface "*errors.errorString" (.ptr (.agg [.lit (.string [105, 110, 118, 97, 108, 105, 100, 32, 115, 121, 110, 116, 97, 120])]))

/-- 'laws.FnExactEvenRates': WHATEVER THE INPUT: true; the input reads as it did. -/
def fnExactEvenRatesSpec : ChangeSpec := { name := "fnExactEvenRates", fn := fun _ => fun
  | [d] => { results := [.lit (.bool true)], args := [d] }
  | _ => none }
def fnExactEvenRatesRow : OpenClaim := { program := "ytjmflicajplclaagreatdoor", sum := "11aaa425bb5ffed794637a2e9b0232eb545a0e8277035c2d166a1d10cf2118b1", func := "loop.example/g01211/laws.FnExactEvenRates", spec := "fnExactEvenRates", inPlace := ["internal/bytealg.IndexByteString", "internal/bytealg.IndexString", "internal/abi.NoEscape", "internal/bytealg.MakeNoZero"], unfollowed := true, recurses := true, named := ["internal/bytealg.MaxLen", "strconv.ErrSyntax", "strconv.ErrRange", "internal/strconv.uint64pow10", "math/bits.deBruijn32tab", "math/bits.deBruijn64tab"], apart := false, laid := [("math/bits.deBruijn32tab", laid_math_bits_deBruijn32tab), ("math/bits.deBruijn64tab", laid_math_bits_deBruijn64tab), ("internal/strconv.uint64pow10", laid_internal_strconv_uint64pow10), ("strconv.ErrRange", laid_strconv_ErrRange), ("strconv.ErrSyntax", laid_strconv_ErrSyntax)] }
def FnExactEvenRatesSaid : Prop := fnExactEvenRatesRow.holds Tryz.pinned (OpenSpec.ofChange fnExactEvenRatesSpec)

/-- ITS FALSE NEIGHBOUR: 'it returns false'. Refute it at one input. -/
def fnExactEvenRatesWrong : ChangeSpec := { name := "fnExactEvenRates", fn := fun _ => fun
  | [d] => { results := [.lit (.bool false)], args := [d] }
  | _ => none }
def FnExactEvenRatesWrongFalsely : Prop := fnExactEvenRatesRow.holds Tryz.pinned (OpenSpec.ofChange fnExactEvenRatesWrong)

/-- 'laws.FnExactEvenChain': WHATEVER THE INPUT: true; the input reads as it did. -/
def fnExactEvenChainSpec : ChangeSpec := { name := "fnExactEvenChain", fn := fun _ => fun
  | [d] => { results := [.lit (.bool true)], args := [d] }
  | _ => none }
def fnExactEvenChainRow : OpenClaim := { program := "ytjmflicajplclaagreatdoor", sum := "11aaa425bb5ffed794637a2e9b0232eb545a0e8277035c2d166a1d10cf2118b1", func := "loop.example/g01211/laws.FnExactEvenChain", spec := "fnExactEvenChain", inPlace := ["internal/bytealg.IndexByteString", "internal/bytealg.IndexString", "internal/abi.NoEscape", "internal/bytealg.MakeNoZero"], unfollowed := true, recurses := true, named := ["internal/bytealg.MaxLen", "strconv.ErrSyntax", "strconv.ErrRange", "internal/strconv.uint64pow10", "math/bits.deBruijn32tab", "math/bits.deBruijn64tab"], apart := false, laid := [("math/bits.deBruijn32tab", laid_math_bits_deBruijn32tab), ("math/bits.deBruijn64tab", laid_math_bits_deBruijn64tab), ("internal/strconv.uint64pow10", laid_internal_strconv_uint64pow10), ("strconv.ErrRange", laid_strconv_ErrRange), ("strconv.ErrSyntax", laid_strconv_ErrSyntax)] }
def FnExactEvenChainSaid : Prop := fnExactEvenChainRow.holds Tryz.pinned (OpenSpec.ofChange fnExactEvenChainSpec)

/-- ITS FALSE NEIGHBOUR: 'it returns false'. Refute it at one input. -/
def fnExactEvenChainWrong : ChangeSpec := { name := "fnExactEvenChain", fn := fun _ => fun
  | [d] => { results := [.lit (.bool false)], args := [d] }
  | _ => none }
def FnExactEvenChainWrongFalsely : Prop := fnExactEvenChainRow.holds Tryz.pinned (OpenSpec.ofChange fnExactEvenChainWrong)

/-- 'laws.FnExactGroupQueue': WHATEVER THE INPUT: true; the input reads as it did. -/
def fnExactGroupQueueSpec : ChangeSpec := { name := "fnExactGroupQueue", fn := fun _ => fun
  | [d1, d2, d3, d4] => { results := [.lit (.bool true)], args := [d1, d2, d3, d4] }
  | _ => none }
def fnExactGroupQueueRow : OpenClaim := { program := "ytjmflicajplclaagreatdoor", sum := "11aaa425bb5ffed794637a2e9b0232eb545a0e8277035c2d166a1d10cf2118b1", func := "loop.example/g01211/laws.FnExactGroupQueue", spec := "fnExactGroupQueue", inPlace := ["internal/bytealg.IndexByteString", "internal/bytealg.IndexString", "internal/abi.NoEscape", "internal/bytealg.MakeNoZero"], named := ["internal/bytealg.MaxLen", "strconv.ErrSyntax", "strconv.ErrRange", "internal/strconv.uint64pow10", "math/bits.deBruijn32tab", "math/bits.deBruijn64tab"], apart := false, laid := [("math/bits.deBruijn32tab", laid_math_bits_deBruijn32tab), ("math/bits.deBruijn64tab", laid_math_bits_deBruijn64tab), ("internal/strconv.uint64pow10", laid_internal_strconv_uint64pow10), ("strconv.ErrRange", laid_strconv_ErrRange), ("strconv.ErrSyntax", laid_strconv_ErrSyntax)] }
def FnExactGroupQueueSaid : Prop := fnExactGroupQueueRow.holds Tryz.pinned (OpenSpec.ofChange fnExactGroupQueueSpec)

/-- ITS FALSE NEIGHBOUR: 'it returns false'. Refute it at one input. -/
def fnExactGroupQueueWrong : ChangeSpec := { name := "fnExactGroupQueue", fn := fun _ => fun
  | [d1, d2, d3, d4] => { results := [.lit (.bool false)], args := [d1, d2, d3, d4] }
  | _ => none }
def FnExactGroupQueueWrongFalsely : Prop := fnExactGroupQueueRow.holds Tryz.pinned (OpenSpec.ofChange fnExactGroupQueueWrong)

/-- 'laws.FnExactGapQueue': WHATEVER THE INPUT: true; the input reads as it did. -/
def fnExactGapQueueSpec : ChangeSpec := { name := "fnExactGapQueue", fn := fun _ => fun
  | [d1, d2] => { results := [.lit (.bool true)], args := [d1, d2] }
  | _ => none }
def fnExactGapQueueRow : OpenClaim := { program := "ytjmflicajplclaagreatdoor", sum := "11aaa425bb5ffed794637a2e9b0232eb545a0e8277035c2d166a1d10cf2118b1", func := "loop.example/g01211/laws.FnExactGapQueue", spec := "fnExactGapQueue", inPlace := ["internal/bytealg.IndexByteString", "internal/bytealg.IndexString", "internal/abi.NoEscape", "internal/bytealg.MakeNoZero"], unfollowed := true, recurses := true, named := ["internal/bytealg.MaxLen", "strconv.ErrSyntax", "strconv.ErrRange", "internal/strconv.uint64pow10", "math/bits.deBruijn32tab", "math/bits.deBruijn64tab"], apart := false, laid := [("math/bits.deBruijn32tab", laid_math_bits_deBruijn32tab), ("math/bits.deBruijn64tab", laid_math_bits_deBruijn64tab), ("internal/strconv.uint64pow10", laid_internal_strconv_uint64pow10), ("strconv.ErrRange", laid_strconv_ErrRange), ("strconv.ErrSyntax", laid_strconv_ErrSyntax)] }
def FnExactGapQueueSaid : Prop := fnExactGapQueueRow.holds Tryz.pinned (OpenSpec.ofChange fnExactGapQueueSpec)

/-- ITS FALSE NEIGHBOUR: 'it returns false'. Refute it at one input. -/
def fnExactGapQueueWrong : ChangeSpec := { name := "fnExactGapQueue", fn := fun _ => fun
  | [d1, d2] => { results := [.lit (.bool false)], args := [d1, d2] }
  | _ => none }
def FnExactGapQueueWrongFalsely : Prop := fnExactGapQueueRow.holds Tryz.pinned (OpenSpec.ofChange fnExactGapQueueWrong)

/-- 'laws.FnExactBreakQueue': WHATEVER THE INPUT: true; the input reads as it did. -/
def fnExactBreakQueueSpec : ChangeSpec := { name := "fnExactBreakQueue", fn := fun _ => fun
  | [d1, d2, d3, d4, d5] => { results := [.lit (.bool true)], args := [d1, d2, d3, d4, d5] }
  | _ => none }
def fnExactBreakQueueRow : OpenClaim := { program := "ytjmflicajplclaagreatdoor", sum := "11aaa425bb5ffed794637a2e9b0232eb545a0e8277035c2d166a1d10cf2118b1", func := "loop.example/g01211/laws.FnExactBreakQueue", spec := "fnExactBreakQueue", inPlace := ["internal/bytealg.IndexByteString", "internal/bytealg.IndexString", "internal/abi.NoEscape", "internal/bytealg.MakeNoZero"], named := ["internal/bytealg.MaxLen", "strconv.ErrSyntax", "strconv.ErrRange", "internal/strconv.uint64pow10", "math/bits.deBruijn32tab", "math/bits.deBruijn64tab"], apart := false, laid := [("math/bits.deBruijn32tab", laid_math_bits_deBruijn32tab), ("math/bits.deBruijn64tab", laid_math_bits_deBruijn64tab), ("internal/strconv.uint64pow10", laid_internal_strconv_uint64pow10), ("strconv.ErrRange", laid_strconv_ErrRange), ("strconv.ErrSyntax", laid_strconv_ErrSyntax)] }
def FnExactBreakQueueSaid : Prop := fnExactBreakQueueRow.holds Tryz.pinned (OpenSpec.ofChange fnExactBreakQueueSpec)

/-- ITS FALSE NEIGHBOUR: 'it returns false'. Refute it at one input. -/
def fnExactBreakQueueWrong : ChangeSpec := { name := "fnExactBreakQueue", fn := fun _ => fun
  | [d1, d2, d3, d4, d5] => { results := [.lit (.bool false)], args := [d1, d2, d3, d4, d5] }
  | _ => none }
def FnExactBreakQueueWrongFalsely : Prop := fnExactBreakQueueRow.holds Tryz.pinned (OpenSpec.ofChange fnExactBreakQueueWrong)

/-- 'laws.FnExactTwoClasses': WHATEVER THE INPUT: true; the input reads as it did. -/
def fnExactTwoClassesSpec : ChangeSpec := { name := "fnExactTwoClasses", fn := fun _ => fun
  | [d1, d2, d3, d4, d5] => { results := [.lit (.bool true)], args := [d1, d2, d3, d4, d5] }
  | _ => none }
def fnExactTwoClassesRow : OpenClaim := { program := "ytjmflicajplclaagreatdoor", sum := "11aaa425bb5ffed794637a2e9b0232eb545a0e8277035c2d166a1d10cf2118b1", func := "loop.example/g01211/laws.FnExactTwoClasses", spec := "fnExactTwoClasses", inPlace := ["internal/bytealg.IndexByteString", "internal/bytealg.IndexString", "internal/abi.NoEscape", "internal/bytealg.MakeNoZero"], unfollowed := true, recurses := true, named := ["internal/bytealg.MaxLen", "strconv.ErrSyntax", "strconv.ErrRange", "internal/strconv.uint64pow10", "math/bits.deBruijn32tab", "math/bits.deBruijn64tab"], apart := false, laid := [("math/bits.deBruijn32tab", laid_math_bits_deBruijn32tab), ("math/bits.deBruijn64tab", laid_math_bits_deBruijn64tab), ("internal/strconv.uint64pow10", laid_internal_strconv_uint64pow10), ("strconv.ErrRange", laid_strconv_ErrRange), ("strconv.ErrSyntax", laid_strconv_ErrSyntax)] }
def FnExactTwoClassesSaid : Prop := fnExactTwoClassesRow.holds Tryz.pinned (OpenSpec.ofChange fnExactTwoClassesSpec)

/-- ITS FALSE NEIGHBOUR: 'it returns false'. Refute it at one input. -/
def fnExactTwoClassesWrong : ChangeSpec := { name := "fnExactTwoClasses", fn := fun _ => fun
  | [d1, d2, d3, d4, d5] => { results := [.lit (.bool false)], args := [d1, d2, d3, d4, d5] }
  | _ => none }
def FnExactTwoClassesWrongFalsely : Prop := fnExactTwoClassesRow.holds Tryz.pinned (OpenSpec.ofChange fnExactTwoClassesWrong)

/-- 'laws.FnExactBatchQueue': WHATEVER THE INPUT: true; the input reads as it did. -/
def fnExactBatchQueueSpec : ChangeSpec := { name := "fnExactBatchQueue", fn := fun _ => fun
  | [d1, d2, d3, d4, d5] => { results := [.lit (.bool true)], args := [d1, d2, d3, d4, d5] }
  | _ => none }
def fnExactBatchQueueRow : OpenClaim := { program := "ytjmflicajplclaagreatdoor", sum := "11aaa425bb5ffed794637a2e9b0232eb545a0e8277035c2d166a1d10cf2118b1", func := "loop.example/g01211/laws.FnExactBatchQueue", spec := "fnExactBatchQueue", inPlace := ["internal/bytealg.IndexByteString", "internal/bytealg.IndexString", "internal/abi.NoEscape", "internal/bytealg.MakeNoZero"], unfollowed := true, recurses := true, named := ["internal/bytealg.MaxLen", "strconv.ErrSyntax", "strconv.ErrRange", "internal/strconv.uint64pow10", "math/bits.deBruijn32tab", "math/bits.deBruijn64tab"], apart := false, laid := [("math/bits.deBruijn32tab", laid_math_bits_deBruijn32tab), ("math/bits.deBruijn64tab", laid_math_bits_deBruijn64tab), ("internal/strconv.uint64pow10", laid_internal_strconv_uint64pow10), ("strconv.ErrRange", laid_strconv_ErrRange), ("strconv.ErrSyntax", laid_strconv_ErrSyntax)] }
def FnExactBatchQueueSaid : Prop := fnExactBatchQueueRow.holds Tryz.pinned (OpenSpec.ofChange fnExactBatchQueueSpec)

/-- ITS FALSE NEIGHBOUR: 'it returns false'. Refute it at one input. -/
def fnExactBatchQueueWrong : ChangeSpec := { name := "fnExactBatchQueue", fn := fun _ => fun
  | [d1, d2, d3, d4, d5] => { results := [.lit (.bool false)], args := [d1, d2, d3, d4, d5] }
  | _ => none }
def FnExactBatchQueueWrongFalsely : Prop := fnExactBatchQueueRow.holds Tryz.pinned (OpenSpec.ofChange fnExactBatchQueueWrong)

/-- 'laws.FnExactTransformAt': WHATEVER THE INPUT: true; the input reads as it did. -/
def fnExactTransformAtSpec : ChangeSpec := { name := "fnExactTransformAt", fn := fun _ => fun
  | [d1, d2] => { results := [.lit (.bool true)], args := [d1, d2] }
  | _ => none }
def fnExactTransformAtRow : OpenClaim := { program := "ytjmflicajplclaagreatdoor", sum := "11aaa425bb5ffed794637a2e9b0232eb545a0e8277035c2d166a1d10cf2118b1", func := "loop.example/g01211/laws.FnExactTransformAt", spec := "fnExactTransformAt", inPlace := ["internal/bytealg.IndexByteString", "internal/bytealg.IndexString", "internal/abi.NoEscape", "internal/bytealg.MakeNoZero"], unfollowed := true, recurses := true, named := ["internal/bytealg.MaxLen", "strconv.ErrSyntax", "strconv.ErrRange", "internal/strconv.uint64pow10", "math/bits.deBruijn32tab", "math/bits.deBruijn64tab"], apart := false, laid := [("math/bits.deBruijn32tab", laid_math_bits_deBruijn32tab), ("math/bits.deBruijn64tab", laid_math_bits_deBruijn64tab), ("internal/strconv.uint64pow10", laid_internal_strconv_uint64pow10), ("strconv.ErrRange", laid_strconv_ErrRange), ("strconv.ErrSyntax", laid_strconv_ErrSyntax)] }
def FnExactTransformAtSaid : Prop := fnExactTransformAtRow.holds Tryz.pinned (OpenSpec.ofChange fnExactTransformAtSpec)

/-- ITS FALSE NEIGHBOUR: 'it returns false'. Refute it at one input. -/
def fnExactTransformAtWrong : ChangeSpec := { name := "fnExactTransformAt", fn := fun _ => fun
  | [d1, d2] => { results := [.lit (.bool false)], args := [d1, d2] }
  | _ => none }
def FnExactTransformAtWrongFalsely : Prop := fnExactTransformAtRow.holds Tryz.pinned (OpenSpec.ofChange fnExactTransformAtWrong)

/-- 'laws.FnExactMomentOfService': WHATEVER THE INPUT: true; the input reads as it did. -/
def fnExactMomentOfServiceSpec : ChangeSpec := { name := "fnExactMomentOfService", fn := fun _ => fun
  | [d1, d2] => { results := [.lit (.bool true)], args := [d1, d2] }
  | _ => none }
def fnExactMomentOfServiceRow : OpenClaim := { program := "ytjmflicajplclaagreatdoor", sum := "11aaa425bb5ffed794637a2e9b0232eb545a0e8277035c2d166a1d10cf2118b1", func := "loop.example/g01211/laws.FnExactMomentOfService", spec := "fnExactMomentOfService", inPlace := ["internal/bytealg.IndexByteString", "internal/bytealg.IndexString", "internal/abi.NoEscape", "internal/bytealg.MakeNoZero"], unfollowed := true, recurses := true, named := ["internal/bytealg.MaxLen", "strconv.ErrSyntax", "strconv.ErrRange", "internal/strconv.uint64pow10", "math/bits.deBruijn32tab", "math/bits.deBruijn64tab"], apart := false, laid := [("math/bits.deBruijn32tab", laid_math_bits_deBruijn32tab), ("math/bits.deBruijn64tab", laid_math_bits_deBruijn64tab), ("internal/strconv.uint64pow10", laid_internal_strconv_uint64pow10), ("strconv.ErrRange", laid_strconv_ErrRange), ("strconv.ErrSyntax", laid_strconv_ErrSyntax)] }
def FnExactMomentOfServiceSaid : Prop := fnExactMomentOfServiceRow.holds Tryz.pinned (OpenSpec.ofChange fnExactMomentOfServiceSpec)

/-- ITS FALSE NEIGHBOUR: 'it returns false'. Refute it at one input. -/
def fnExactMomentOfServiceWrong : ChangeSpec := { name := "fnExactMomentOfService", fn := fun _ => fun
  | [d1, d2] => { results := [.lit (.bool false)], args := [d1, d2] }
  | _ => none }
def FnExactMomentOfServiceWrongFalsely : Prop := fnExactMomentOfServiceRow.holds Tryz.pinned (OpenSpec.ofChange fnExactMomentOfServiceWrong)

/-- 'laws.FnExactSpreadOf': WHATEVER THE INPUT: true; the input reads as it did. -/
def fnExactSpreadOfSpec : ChangeSpec := { name := "fnExactSpreadOf", fn := fun _ => fun
  | [d] => { results := [.lit (.bool true)], args := [d] }
  | _ => none }
def fnExactSpreadOfRow : OpenClaim := { program := "ytjmflicajplclaagreatdoor", sum := "11aaa425bb5ffed794637a2e9b0232eb545a0e8277035c2d166a1d10cf2118b1", func := "loop.example/g01211/laws.FnExactSpreadOf", spec := "fnExactSpreadOf", inPlace := ["internal/bytealg.IndexByteString", "internal/bytealg.IndexString", "internal/abi.NoEscape", "internal/bytealg.MakeNoZero"], unfollowed := true, recurses := true, named := ["internal/bytealg.MaxLen", "strconv.ErrSyntax", "strconv.ErrRange", "internal/strconv.uint64pow10", "math/bits.deBruijn32tab", "math/bits.deBruijn64tab"], apart := false, laid := [("math/bits.deBruijn32tab", laid_math_bits_deBruijn32tab), ("math/bits.deBruijn64tab", laid_math_bits_deBruijn64tab), ("internal/strconv.uint64pow10", laid_internal_strconv_uint64pow10), ("strconv.ErrRange", laid_strconv_ErrRange), ("strconv.ErrSyntax", laid_strconv_ErrSyntax)] }
def FnExactSpreadOfSaid : Prop := fnExactSpreadOfRow.holds Tryz.pinned (OpenSpec.ofChange fnExactSpreadOfSpec)

/-- ITS FALSE NEIGHBOUR: 'it returns false'. Refute it at one input. -/
def fnExactSpreadOfWrong : ChangeSpec := { name := "fnExactSpreadOf", fn := fun _ => fun
  | [d] => { results := [.lit (.bool false)], args := [d] }
  | _ => none }
def FnExactSpreadOfWrongFalsely : Prop := fnExactSpreadOfRow.holds Tryz.pinned (OpenSpec.ofChange fnExactSpreadOfWrong)

/-- 'laws.FnExactRestMean': WHATEVER THE INPUT: true; the input reads as it did. -/
def fnExactRestMeanSpec : ChangeSpec := { name := "fnExactRestMean", fn := fun _ => fun
  | [d] => { results := [.lit (.bool true)], args := [d] }
  | _ => none }
def fnExactRestMeanRow : OpenClaim := { program := "ytjmflicajplclaagreatdoor", sum := "11aaa425bb5ffed794637a2e9b0232eb545a0e8277035c2d166a1d10cf2118b1", func := "loop.example/g01211/laws.FnExactRestMean", spec := "fnExactRestMean", inPlace := ["internal/bytealg.IndexByteString", "internal/bytealg.IndexString", "internal/abi.NoEscape", "internal/bytealg.MakeNoZero"], unfollowed := true, recurses := true, named := ["internal/bytealg.MaxLen", "strconv.ErrSyntax", "strconv.ErrRange", "internal/strconv.uint64pow10", "math/bits.deBruijn32tab", "math/bits.deBruijn64tab"], apart := false, laid := [("math/bits.deBruijn32tab", laid_math_bits_deBruijn32tab), ("math/bits.deBruijn64tab", laid_math_bits_deBruijn64tab), ("internal/strconv.uint64pow10", laid_internal_strconv_uint64pow10), ("strconv.ErrRange", laid_strconv_ErrRange), ("strconv.ErrSyntax", laid_strconv_ErrSyntax)] }
def FnExactRestMeanSaid : Prop := fnExactRestMeanRow.holds Tryz.pinned (OpenSpec.ofChange fnExactRestMeanSpec)

/-- ITS FALSE NEIGHBOUR: 'it returns false'. Refute it at one input. -/
def fnExactRestMeanWrong : ChangeSpec := { name := "fnExactRestMean", fn := fun _ => fun
  | [d] => { results := [.lit (.bool false)], args := [d] }
  | _ => none }
def FnExactRestMeanWrongFalsely : Prop := fnExactRestMeanRow.holds Tryz.pinned (OpenSpec.ofChange fnExactRestMeanWrong)

/-- 'laws.FnExactFirstChance': WHATEVER THE INPUT: true; the input reads as it did. -/
def fnExactFirstChanceSpec : ChangeSpec := { name := "fnExactFirstChance", fn := fun _ => fun
  | [d1, d2] => { results := [.lit (.bool true)], args := [d1, d2] }
  | _ => none }
def fnExactFirstChanceRow : OpenClaim := { program := "ytjmflicajplclaagreatdoor", sum := "11aaa425bb5ffed794637a2e9b0232eb545a0e8277035c2d166a1d10cf2118b1", func := "loop.example/g01211/laws.FnExactFirstChance", spec := "fnExactFirstChance", inPlace := ["internal/bytealg.IndexByteString", "internal/bytealg.IndexString", "internal/abi.NoEscape", "internal/bytealg.MakeNoZero"], unfollowed := true, recurses := true, named := ["internal/bytealg.MaxLen", "strconv.ErrSyntax", "strconv.ErrRange", "internal/strconv.uint64pow10", "math/bits.deBruijn32tab", "math/bits.deBruijn64tab"], apart := false, laid := [("math/bits.deBruijn32tab", laid_math_bits_deBruijn32tab), ("math/bits.deBruijn64tab", laid_math_bits_deBruijn64tab), ("internal/strconv.uint64pow10", laid_internal_strconv_uint64pow10), ("strconv.ErrRange", laid_strconv_ErrRange), ("strconv.ErrSyntax", laid_strconv_ErrSyntax)] }
def FnExactFirstChanceSaid : Prop := fnExactFirstChanceRow.holds Tryz.pinned (OpenSpec.ofChange fnExactFirstChanceSpec)

/-- ITS FALSE NEIGHBOUR: 'it returns false'. Refute it at one input. -/
def fnExactFirstChanceWrong : ChangeSpec := { name := "fnExactFirstChance", fn := fun _ => fun
  | [d1, d2] => { results := [.lit (.bool false)], args := [d1, d2] }
  | _ => none }
def FnExactFirstChanceWrongFalsely : Prop := fnExactFirstChanceRow.holds Tryz.pinned (OpenSpec.ofChange fnExactFirstChanceWrong)

/- THE SECOND FORM. 'bulk': how many values and letters a reading holds, each counted each time it is reached (what is shared counts as often as it is met; a slice's spare places count too). A statement '..UptoSaid' is the law's where the arguments, and the package variables that the reading takes, are together of bulk at most 1048576: NARROWER than '..Said'. Prove '..Said' where nothing that the law and all that it calls make is longer than what came in: it says more and counts as full. Else prove '..UptoSaid'. A law counts once. -/
mutual
def uptoBulk {H : Type} : DataW H → Nat
  | .lit (.string bytes) => bytes.length + 1
  | .lit _ => 1
  | .nil => 1
  | .ptr d => uptoBulk d + 1
  | .slice elems spare => uptoBulkAll elems + uptoBulkAll spare + 1
  | .agg parts => uptoBulkAll parts + 1
  | .iface _ d => uptoBulk d + 1
  | .map entries => uptoBulkEntries entries + 1
  | .held _ => 1
def uptoBulkAll {H : Type} : List (DataW H) → Nat
  | [] => 0
  | d :: r => uptoBulk d + uptoBulkAll r
def uptoBulkEntries {H : Type} : List (Lit × DataW H) → Nat
  | [] => 0
  | x :: r => uptoBulkEntry x + uptoBulkEntries r
def uptoBulkEntry {H : Type} : Lit × DataW H → Nat
  | (.string bytes, d) => bytes.length + uptoBulk d + 1
  | (_, d) => uptoBulk d + 1
 end
def uptoSmall : (H : Type) → List (DataW H) → Bool := fun _ ds => decide (uptoBulkAll ds ≤ 1048576)
def OpenSpec.upto (s : _root_.Go.ChangeSpec) : _root_.Go.OpenSpec := { _root_.Go.OpenSpec.ofChange s with cond := some uptoSmall }

/-- 'laws.FnExactEvenRates', WHERE WHAT IT READS IS OF BULK AT MOST 1048576: true; the input reads as it did. -/
def fnExactEvenRatesUptoRow : OpenClaim := { program := "ytjmflicajplclaagreatdoor", sum := "11aaa425bb5ffed794637a2e9b0232eb545a0e8277035c2d166a1d10cf2118b1", func := "loop.example/g01211/laws.FnExactEvenRates", spec := "fnExactEvenRates", inPlace := ["internal/bytealg.IndexByteString", "internal/bytealg.IndexString", "internal/abi.NoEscape", "internal/bytealg.MakeNoZero"], unfollowed := true, recurses := true, named := ["internal/bytealg.MaxLen", "strconv.ErrSyntax", "strconv.ErrRange", "internal/strconv.uint64pow10", "math/bits.deBruijn32tab", "math/bits.deBruijn64tab"], apart := false, laid := [("math/bits.deBruijn32tab", laid_math_bits_deBruijn32tab), ("math/bits.deBruijn64tab", laid_math_bits_deBruijn64tab), ("internal/strconv.uint64pow10", laid_internal_strconv_uint64pow10), ("strconv.ErrRange", laid_strconv_ErrRange), ("strconv.ErrSyntax", laid_strconv_ErrSyntax)], narrowed := true }
def FnExactEvenRatesUptoSaid : Prop := fnExactEvenRatesUptoRow.holds Tryz.pinned (OpenSpec.upto fnExactEvenRatesSpec)

/-- 'laws.FnExactEvenChain', WHERE WHAT IT READS IS OF BULK AT MOST 1048576: true; the input reads as it did. -/
def fnExactEvenChainUptoRow : OpenClaim := { program := "ytjmflicajplclaagreatdoor", sum := "11aaa425bb5ffed794637a2e9b0232eb545a0e8277035c2d166a1d10cf2118b1", func := "loop.example/g01211/laws.FnExactEvenChain", spec := "fnExactEvenChain", inPlace := ["internal/bytealg.IndexByteString", "internal/bytealg.IndexString", "internal/abi.NoEscape", "internal/bytealg.MakeNoZero"], unfollowed := true, recurses := true, named := ["internal/bytealg.MaxLen", "strconv.ErrSyntax", "strconv.ErrRange", "internal/strconv.uint64pow10", "math/bits.deBruijn32tab", "math/bits.deBruijn64tab"], apart := false, laid := [("math/bits.deBruijn32tab", laid_math_bits_deBruijn32tab), ("math/bits.deBruijn64tab", laid_math_bits_deBruijn64tab), ("internal/strconv.uint64pow10", laid_internal_strconv_uint64pow10), ("strconv.ErrRange", laid_strconv_ErrRange), ("strconv.ErrSyntax", laid_strconv_ErrSyntax)], narrowed := true }
def FnExactEvenChainUptoSaid : Prop := fnExactEvenChainUptoRow.holds Tryz.pinned (OpenSpec.upto fnExactEvenChainSpec)

/-- 'laws.FnExactGroupQueue', WHERE WHAT IT READS IS OF BULK AT MOST 1048576: true; the input reads as it did. -/
def fnExactGroupQueueUptoRow : OpenClaim := { program := "ytjmflicajplclaagreatdoor", sum := "11aaa425bb5ffed794637a2e9b0232eb545a0e8277035c2d166a1d10cf2118b1", func := "loop.example/g01211/laws.FnExactGroupQueue", spec := "fnExactGroupQueue", inPlace := ["internal/bytealg.IndexByteString", "internal/bytealg.IndexString", "internal/abi.NoEscape", "internal/bytealg.MakeNoZero"], named := ["internal/bytealg.MaxLen", "strconv.ErrSyntax", "strconv.ErrRange", "internal/strconv.uint64pow10", "math/bits.deBruijn32tab", "math/bits.deBruijn64tab"], apart := false, laid := [("math/bits.deBruijn32tab", laid_math_bits_deBruijn32tab), ("math/bits.deBruijn64tab", laid_math_bits_deBruijn64tab), ("internal/strconv.uint64pow10", laid_internal_strconv_uint64pow10), ("strconv.ErrRange", laid_strconv_ErrRange), ("strconv.ErrSyntax", laid_strconv_ErrSyntax)], narrowed := true }
def FnExactGroupQueueUptoSaid : Prop := fnExactGroupQueueUptoRow.holds Tryz.pinned (OpenSpec.upto fnExactGroupQueueSpec)

/-- 'laws.FnExactGapQueue', WHERE WHAT IT READS IS OF BULK AT MOST 1048576: true; the input reads as it did. -/
def fnExactGapQueueUptoRow : OpenClaim := { program := "ytjmflicajplclaagreatdoor", sum := "11aaa425bb5ffed794637a2e9b0232eb545a0e8277035c2d166a1d10cf2118b1", func := "loop.example/g01211/laws.FnExactGapQueue", spec := "fnExactGapQueue", inPlace := ["internal/bytealg.IndexByteString", "internal/bytealg.IndexString", "internal/abi.NoEscape", "internal/bytealg.MakeNoZero"], unfollowed := true, recurses := true, named := ["internal/bytealg.MaxLen", "strconv.ErrSyntax", "strconv.ErrRange", "internal/strconv.uint64pow10", "math/bits.deBruijn32tab", "math/bits.deBruijn64tab"], apart := false, laid := [("math/bits.deBruijn32tab", laid_math_bits_deBruijn32tab), ("math/bits.deBruijn64tab", laid_math_bits_deBruijn64tab), ("internal/strconv.uint64pow10", laid_internal_strconv_uint64pow10), ("strconv.ErrRange", laid_strconv_ErrRange), ("strconv.ErrSyntax", laid_strconv_ErrSyntax)], narrowed := true }
def FnExactGapQueueUptoSaid : Prop := fnExactGapQueueUptoRow.holds Tryz.pinned (OpenSpec.upto fnExactGapQueueSpec)

/-- 'laws.FnExactBreakQueue', WHERE WHAT IT READS IS OF BULK AT MOST 1048576: true; the input reads as it did. -/
def fnExactBreakQueueUptoRow : OpenClaim := { program := "ytjmflicajplclaagreatdoor", sum := "11aaa425bb5ffed794637a2e9b0232eb545a0e8277035c2d166a1d10cf2118b1", func := "loop.example/g01211/laws.FnExactBreakQueue", spec := "fnExactBreakQueue", inPlace := ["internal/bytealg.IndexByteString", "internal/bytealg.IndexString", "internal/abi.NoEscape", "internal/bytealg.MakeNoZero"], named := ["internal/bytealg.MaxLen", "strconv.ErrSyntax", "strconv.ErrRange", "internal/strconv.uint64pow10", "math/bits.deBruijn32tab", "math/bits.deBruijn64tab"], apart := false, laid := [("math/bits.deBruijn32tab", laid_math_bits_deBruijn32tab), ("math/bits.deBruijn64tab", laid_math_bits_deBruijn64tab), ("internal/strconv.uint64pow10", laid_internal_strconv_uint64pow10), ("strconv.ErrRange", laid_strconv_ErrRange), ("strconv.ErrSyntax", laid_strconv_ErrSyntax)], narrowed := true }
def FnExactBreakQueueUptoSaid : Prop := fnExactBreakQueueUptoRow.holds Tryz.pinned (OpenSpec.upto fnExactBreakQueueSpec)

/-- 'laws.FnExactTwoClasses', WHERE WHAT IT READS IS OF BULK AT MOST 1048576: true; the input reads as it did. -/
def fnExactTwoClassesUptoRow : OpenClaim := { program := "ytjmflicajplclaagreatdoor", sum := "11aaa425bb5ffed794637a2e9b0232eb545a0e8277035c2d166a1d10cf2118b1", func := "loop.example/g01211/laws.FnExactTwoClasses", spec := "fnExactTwoClasses", inPlace := ["internal/bytealg.IndexByteString", "internal/bytealg.IndexString", "internal/abi.NoEscape", "internal/bytealg.MakeNoZero"], unfollowed := true, recurses := true, named := ["internal/bytealg.MaxLen", "strconv.ErrSyntax", "strconv.ErrRange", "internal/strconv.uint64pow10", "math/bits.deBruijn32tab", "math/bits.deBruijn64tab"], apart := false, laid := [("math/bits.deBruijn32tab", laid_math_bits_deBruijn32tab), ("math/bits.deBruijn64tab", laid_math_bits_deBruijn64tab), ("internal/strconv.uint64pow10", laid_internal_strconv_uint64pow10), ("strconv.ErrRange", laid_strconv_ErrRange), ("strconv.ErrSyntax", laid_strconv_ErrSyntax)], narrowed := true }
def FnExactTwoClassesUptoSaid : Prop := fnExactTwoClassesUptoRow.holds Tryz.pinned (OpenSpec.upto fnExactTwoClassesSpec)

/-- 'laws.FnExactBatchQueue', WHERE WHAT IT READS IS OF BULK AT MOST 1048576: true; the input reads as it did. -/
def fnExactBatchQueueUptoRow : OpenClaim := { program := "ytjmflicajplclaagreatdoor", sum := "11aaa425bb5ffed794637a2e9b0232eb545a0e8277035c2d166a1d10cf2118b1", func := "loop.example/g01211/laws.FnExactBatchQueue", spec := "fnExactBatchQueue", inPlace := ["internal/bytealg.IndexByteString", "internal/bytealg.IndexString", "internal/abi.NoEscape", "internal/bytealg.MakeNoZero"], unfollowed := true, recurses := true, named := ["internal/bytealg.MaxLen", "strconv.ErrSyntax", "strconv.ErrRange", "internal/strconv.uint64pow10", "math/bits.deBruijn32tab", "math/bits.deBruijn64tab"], apart := false, laid := [("math/bits.deBruijn32tab", laid_math_bits_deBruijn32tab), ("math/bits.deBruijn64tab", laid_math_bits_deBruijn64tab), ("internal/strconv.uint64pow10", laid_internal_strconv_uint64pow10), ("strconv.ErrRange", laid_strconv_ErrRange), ("strconv.ErrSyntax", laid_strconv_ErrSyntax)], narrowed := true }
def FnExactBatchQueueUptoSaid : Prop := fnExactBatchQueueUptoRow.holds Tryz.pinned (OpenSpec.upto fnExactBatchQueueSpec)

/-- 'laws.FnExactTransformAt', WHERE WHAT IT READS IS OF BULK AT MOST 1048576: true; the input reads as it did. -/
def fnExactTransformAtUptoRow : OpenClaim := { program := "ytjmflicajplclaagreatdoor", sum := "11aaa425bb5ffed794637a2e9b0232eb545a0e8277035c2d166a1d10cf2118b1", func := "loop.example/g01211/laws.FnExactTransformAt", spec := "fnExactTransformAt", inPlace := ["internal/bytealg.IndexByteString", "internal/bytealg.IndexString", "internal/abi.NoEscape", "internal/bytealg.MakeNoZero"], unfollowed := true, recurses := true, named := ["internal/bytealg.MaxLen", "strconv.ErrSyntax", "strconv.ErrRange", "internal/strconv.uint64pow10", "math/bits.deBruijn32tab", "math/bits.deBruijn64tab"], apart := false, laid := [("math/bits.deBruijn32tab", laid_math_bits_deBruijn32tab), ("math/bits.deBruijn64tab", laid_math_bits_deBruijn64tab), ("internal/strconv.uint64pow10", laid_internal_strconv_uint64pow10), ("strconv.ErrRange", laid_strconv_ErrRange), ("strconv.ErrSyntax", laid_strconv_ErrSyntax)], narrowed := true }
def FnExactTransformAtUptoSaid : Prop := fnExactTransformAtUptoRow.holds Tryz.pinned (OpenSpec.upto fnExactTransformAtSpec)

/-- 'laws.FnExactMomentOfService', WHERE WHAT IT READS IS OF BULK AT MOST 1048576: true; the input reads as it did. -/
def fnExactMomentOfServiceUptoRow : OpenClaim := { program := "ytjmflicajplclaagreatdoor", sum := "11aaa425bb5ffed794637a2e9b0232eb545a0e8277035c2d166a1d10cf2118b1", func := "loop.example/g01211/laws.FnExactMomentOfService", spec := "fnExactMomentOfService", inPlace := ["internal/bytealg.IndexByteString", "internal/bytealg.IndexString", "internal/abi.NoEscape", "internal/bytealg.MakeNoZero"], unfollowed := true, recurses := true, named := ["internal/bytealg.MaxLen", "strconv.ErrSyntax", "strconv.ErrRange", "internal/strconv.uint64pow10", "math/bits.deBruijn32tab", "math/bits.deBruijn64tab"], apart := false, laid := [("math/bits.deBruijn32tab", laid_math_bits_deBruijn32tab), ("math/bits.deBruijn64tab", laid_math_bits_deBruijn64tab), ("internal/strconv.uint64pow10", laid_internal_strconv_uint64pow10), ("strconv.ErrRange", laid_strconv_ErrRange), ("strconv.ErrSyntax", laid_strconv_ErrSyntax)], narrowed := true }
def FnExactMomentOfServiceUptoSaid : Prop := fnExactMomentOfServiceUptoRow.holds Tryz.pinned (OpenSpec.upto fnExactMomentOfServiceSpec)

/-- 'laws.FnExactSpreadOf', WHERE WHAT IT READS IS OF BULK AT MOST 1048576: true; the input reads as it did. -/
def fnExactSpreadOfUptoRow : OpenClaim := { program := "ytjmflicajplclaagreatdoor", sum := "11aaa425bb5ffed794637a2e9b0232eb545a0e8277035c2d166a1d10cf2118b1", func := "loop.example/g01211/laws.FnExactSpreadOf", spec := "fnExactSpreadOf", inPlace := ["internal/bytealg.IndexByteString", "internal/bytealg.IndexString", "internal/abi.NoEscape", "internal/bytealg.MakeNoZero"], unfollowed := true, recurses := true, named := ["internal/bytealg.MaxLen", "strconv.ErrSyntax", "strconv.ErrRange", "internal/strconv.uint64pow10", "math/bits.deBruijn32tab", "math/bits.deBruijn64tab"], apart := false, laid := [("math/bits.deBruijn32tab", laid_math_bits_deBruijn32tab), ("math/bits.deBruijn64tab", laid_math_bits_deBruijn64tab), ("internal/strconv.uint64pow10", laid_internal_strconv_uint64pow10), ("strconv.ErrRange", laid_strconv_ErrRange), ("strconv.ErrSyntax", laid_strconv_ErrSyntax)], narrowed := true }
def FnExactSpreadOfUptoSaid : Prop := fnExactSpreadOfUptoRow.holds Tryz.pinned (OpenSpec.upto fnExactSpreadOfSpec)

/-- 'laws.FnExactRestMean', WHERE WHAT IT READS IS OF BULK AT MOST 1048576: true; the input reads as it did. -/
def fnExactRestMeanUptoRow : OpenClaim := { program := "ytjmflicajplclaagreatdoor", sum := "11aaa425bb5ffed794637a2e9b0232eb545a0e8277035c2d166a1d10cf2118b1", func := "loop.example/g01211/laws.FnExactRestMean", spec := "fnExactRestMean", inPlace := ["internal/bytealg.IndexByteString", "internal/bytealg.IndexString", "internal/abi.NoEscape", "internal/bytealg.MakeNoZero"], unfollowed := true, recurses := true, named := ["internal/bytealg.MaxLen", "strconv.ErrSyntax", "strconv.ErrRange", "internal/strconv.uint64pow10", "math/bits.deBruijn32tab", "math/bits.deBruijn64tab"], apart := false, laid := [("math/bits.deBruijn32tab", laid_math_bits_deBruijn32tab), ("math/bits.deBruijn64tab", laid_math_bits_deBruijn64tab), ("internal/strconv.uint64pow10", laid_internal_strconv_uint64pow10), ("strconv.ErrRange", laid_strconv_ErrRange), ("strconv.ErrSyntax", laid_strconv_ErrSyntax)], narrowed := true }
def FnExactRestMeanUptoSaid : Prop := fnExactRestMeanUptoRow.holds Tryz.pinned (OpenSpec.upto fnExactRestMeanSpec)

/-- 'laws.FnExactFirstChance', WHERE WHAT IT READS IS OF BULK AT MOST 1048576: true; the input reads as it did. -/
def fnExactFirstChanceUptoRow : OpenClaim := { program := "ytjmflicajplclaagreatdoor", sum := "11aaa425bb5ffed794637a2e9b0232eb545a0e8277035c2d166a1d10cf2118b1", func := "loop.example/g01211/laws.FnExactFirstChance", spec := "fnExactFirstChance", inPlace := ["internal/bytealg.IndexByteString", "internal/bytealg.IndexString", "internal/abi.NoEscape", "internal/bytealg.MakeNoZero"], unfollowed := true, recurses := true, named := ["internal/bytealg.MaxLen", "strconv.ErrSyntax", "strconv.ErrRange", "internal/strconv.uint64pow10", "math/bits.deBruijn32tab", "math/bits.deBruijn64tab"], apart := false, laid := [("math/bits.deBruijn32tab", laid_math_bits_deBruijn32tab), ("math/bits.deBruijn64tab", laid_math_bits_deBruijn64tab), ("internal/strconv.uint64pow10", laid_internal_strconv_uint64pow10), ("strconv.ErrRange", laid_strconv_ErrRange), ("strconv.ErrSyntax", laid_strconv_ErrSyntax)], narrowed := true }
def FnExactFirstChanceUptoSaid : Prop := fnExactFirstChanceUptoRow.holds Tryz.pinned (OpenSpec.upto fnExactFirstChanceSpec)

end Rows
end Go.Proofs.YtjmflicajplclaaGreatDoor
