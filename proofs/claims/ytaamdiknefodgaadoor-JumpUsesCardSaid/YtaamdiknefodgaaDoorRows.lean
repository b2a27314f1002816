/-
  NARROWER THAN 'FOR EVERY INPUT', by the rows' own cells (each row's printed sentence says how): JumpNames: laid · JumpTells: laid · JumpTargets: laid · JumpOrder: laid · JumpTexts: laid · JumpUses: laid · StmtNames: laid · StmtTells: laid · StmtOnce: laid · StmtRvalue: laid · StmtTexts: laid · StmtPlace: laid.
  DERIVED. THE GIVEN ROWS OF THIS SEAT. 12 by the template 'for every input the law returns true; each argument reads behind the call as it read before'; 0 by the template 'total and deterministic' (their statements: YtaamdiknefodgaaDoorTotals.lean).
  GIVEN WITH THE SEED: the statements are not yours to turn. If you find one false, say at which input.
  Laid BY PROGRAM, IN A SANDBOX (cutbox-rows.mjs): the forced cells as the released guide's own fill.sh prints them over the translation ecc9d27cfcc59835… (all of the seat's roots in one cut). By AI agents, Wed Nov 11 2026. No macro, syntax, notation, axiom, sorry.
-/
import Derived.Test.YtaamdiknefodgaaDoorChecked
import GoSem.Claim
import GoSem.ClaimJoined
import GoSem.ClaimMapViews
import Derived.JoinedTies
import Derived.KernelRfl
namespace Go.Proofs.YtaamdiknefodgaaDoor
/- THE CELL 'sum', in the pinned program and in every row, IS THE sha256 OF THE DUMP (.gsa) THAT YtaamdiknefodgaaDoorProg.lean LOADS. Nothing in Lean hashes anything: it is a label: what it is worth is what the hold of that sum in a sandbox is worth. -/
noncomputable def Tryd.pinned : Pinned := { name := "ytaamdiknefodgaadoor", sum := "ecc9d27cfcc598353b81063fe8904a2344ecafb966213fc2fce098ac58ec46ab", checked := Tryd.checked }
namespace Rows
def none {H : Type} : Left H := { results := [], args := [] }

/- WHAT THE LISTED PACKAGE-LEVEL VARIABLES READ AS WHEN THE CALL BEGINS. Each datum BY PROGRAM (the guide's laid-datum.mjs) off the statement by which the dump's own 'gosem.cut.vars' lays the variable. In a bare row this is a premise. The card (YtaamdiknefodgaaDoorCards.lean) ties it to the program's text. -/
def laid_math_bits_deBruijn32tab {H : Type} : DataW H := .agg [.lit (.int .u8 0), .lit (.int .u8 1), .lit (.int .u8 28), .lit (.int .u8 2), .lit (.int .u8 29), .lit (.int .u8 14), .lit (.int .u8 24), .lit (.int .u8 3), .lit (.int .u8 30), .lit (.int .u8 22), .lit (.int .u8 20), .lit (.int .u8 15), .lit (.int .u8 25), .lit (.int .u8 17), .lit (.int .u8 4), .lit (.int .u8 8), .lit (.int .u8 31), .lit (.int .u8 27), .lit (.int .u8 13), .lit (.int .u8 23), .lit (.int .u8 21), .lit (.int .u8 19), .lit (.int .u8 16), .lit (.int .u8 7), .lit (.int .u8 26), .lit (.int .u8 12), .lit (.int .u8 18), .lit (.int .u8 6), .lit (.int .u8 11), .lit (.int .u8 5), .lit (.int .u8 10), .lit (.int .u8 9)]
def laid_math_bits_deBruijn64tab {H : Type} : DataW H := .agg [.lit (.int .u8 0), .lit (.int .u8 1), .lit (.int .u8 56), .lit (.int .u8 2), .lit (.int .u8 57), .lit (.int .u8 49), .lit (.int .u8 28), .lit (.int .u8 3), .lit (.int .u8 61), .lit (.int .u8 58), .lit (.int .u8 42), .lit (.int .u8 50), .lit (.int .u8 38), .lit (.int .u8 29), .lit (.int .u8 17), .lit (.int .u8 4), .lit (.int .u8 62), .lit (.int .u8 47), .lit (.int .u8 59), .lit (.int .u8 36), .lit (.int .u8 45), .lit (.int .u8 43), .lit (.int .u8 51), .lit (.int .u8 22), .lit (.int .u8 53), .lit (.int .u8 39), .lit (.int .u8 33), .lit (.int .u8 30), .lit (.int .u8 24), .lit (.int .u8 18), .lit (.int .u8 12), .lit (.int .u8 5), .lit (.int .u8 63), .lit (.int .u8 55), .lit (.int .u8 48), .lit (.int .u8 27), .lit (.int .u8 60), .lit (.int .u8 41), .lit (.int .u8 37), .lit (.int .u8 16), .lit (.int .u8 46), .lit (.int .u8 35), .lit (.int .u8 44), .lit (.int .u8 21), .lit (.int .u8 52), .lit (.int .u8 32), .lit (.int .u8 23), .lit (.int .u8 11), .lit (.int .u8 54), .lit (.int .u8 26), .lit (.int .u8 40), .lit (.int .u8 15), .lit (.int .u8 34), .lit (.int .u8 20), .lit (.int .u8 31), .lit (.int .u8 10), .lit (.int .u8 25), .lit (.int .u8 14), .lit (.int .u8 19), .lit (.int .u8 9), .lit (.int .u8 13), .lit (.int .u8 8), .lit (.int .u8 7), .lit (.int .u8 6)]
def laid_internal_strconv_uint64pow10 {H : Type} : DataW H := .agg [.lit (.int .u64 1), .lit (.int .u64 10), .lit (.int .u64 100), .lit (.int .u64 1000), .lit (.int .u64 10000), .lit (.int .u64 100000), .lit (.int .u64 1000000), .lit (.int .u64 10000000), .lit (.int .u64 100000000), .lit (.int .u64 1000000000), .lit (.int .u64 10000000000), .lit (.int .u64 100000000000), .lit (.int .u64 1000000000000), .lit (.int .u64 10000000000000), .lit (.int .u64 100000000000000), .lit (.int .u64 1000000000000000), .lit (.int .u64 10000000000000000), .lit (.int .u64 100000000000000000), .lit (.int .u64 1000000000000000000), .lit (.int .u64 10000000000000000000)]

/-- 'pawnshoplaw06.JumpNames': WHATEVER THE INPUT: true; the input reads as it did. -/
def jumpNamesSpec : ChangeSpec := { name := "jumpNames", fn := fun _ => fun
  | [] => { results := [.lit (.bool true)], args := [] }
  | _ => none }
def jumpNamesRow : OpenClaim := { program := "ytaamdiknefodgaadoor", sum := "ecc9d27cfcc598353b81063fe8904a2344ecafb966213fc2fce098ac58ec46ab", func := "pawnshop/pawnshoplaw06.JumpNames", spec := "jumpNames", inPlace := ["internal/abi.NoEscape", "internal/bytealg.MakeNoZero"], unfollowed := true, recurses := true, named := ["internal/strconv.uint64pow10", "math/bits.deBruijn32tab", "math/bits.deBruijn64tab"], apart := false, laid := [("math/bits.deBruijn32tab", laid_math_bits_deBruijn32tab), ("math/bits.deBruijn64tab", laid_math_bits_deBruijn64tab), ("internal/strconv.uint64pow10", laid_internal_strconv_uint64pow10)] }
def JumpNamesSaid : Prop := jumpNamesRow.holds Tryd.pinned (OpenSpec.ofChange jumpNamesSpec)

/-- ITS FALSE NEIGHBOUR: 'it returns false'. Refute it at one input. -/
def jumpNamesWrong : ChangeSpec := { name := "jumpNames", fn := fun _ => fun
  | [] => { results := [.lit (.bool false)], args := [] }
  | _ => none }
def JumpNamesWrongFalsely : Prop := jumpNamesRow.holds Tryd.pinned (OpenSpec.ofChange jumpNamesWrong)

/-- 'pawnshoplaw06.JumpTells': WHATEVER THE INPUT: true; the input reads as it did. -/
def jumpTellsSpec : ChangeSpec := { name := "jumpTells", fn := fun _ => fun
  | [d] => { results := [.lit (.bool true)], args := [d] }
  | _ => none }
def jumpTellsRow : OpenClaim := { program := "ytaamdiknefodgaadoor", sum := "ecc9d27cfcc598353b81063fe8904a2344ecafb966213fc2fce098ac58ec46ab", func := "pawnshop/pawnshoplaw06.JumpTells", spec := "jumpTells", inPlace := ["internal/abi.NoEscape", "internal/bytealg.MakeNoZero"], unfollowed := true, recurses := true, named := ["internal/strconv.uint64pow10", "math/bits.deBruijn32tab", "math/bits.deBruijn64tab"], apart := false, laid := [("math/bits.deBruijn32tab", laid_math_bits_deBruijn32tab), ("math/bits.deBruijn64tab", laid_math_bits_deBruijn64tab), ("internal/strconv.uint64pow10", laid_internal_strconv_uint64pow10)] }
def JumpTellsSaid : Prop := jumpTellsRow.holds Tryd.pinned (OpenSpec.ofChange jumpTellsSpec)

/-- ITS FALSE NEIGHBOUR: 'it returns false'. Refute it at one input. -/
def jumpTellsWrong : ChangeSpec := { name := "jumpTells", fn := fun _ => fun
  | [d] => { results := [.lit (.bool false)], args := [d] }
  | _ => none }
def JumpTellsWrongFalsely : Prop := jumpTellsRow.holds Tryd.pinned (OpenSpec.ofChange jumpTellsWrong)

/-- 'pawnshoplaw06.JumpTargets': WHATEVER THE INPUT: true; the input reads as it did. -/
def jumpTargetsSpec : ChangeSpec := { name := "jumpTargets", fn := fun _ => fun
  | [d] => { results := [.lit (.bool true)], args := [d] }
  | _ => none }
def jumpTargetsRow : OpenClaim := { program := "ytaamdiknefodgaadoor", sum := "ecc9d27cfcc598353b81063fe8904a2344ecafb966213fc2fce098ac58ec46ab", func := "pawnshop/pawnshoplaw06.JumpTargets", spec := "jumpTargets", inPlace := ["internal/abi.NoEscape", "internal/bytealg.MakeNoZero"], unfollowed := true, recurses := true, named := ["internal/strconv.uint64pow10", "math/bits.deBruijn32tab", "math/bits.deBruijn64tab"], apart := false, laid := [("math/bits.deBruijn32tab", laid_math_bits_deBruijn32tab), ("math/bits.deBruijn64tab", laid_math_bits_deBruijn64tab), ("internal/strconv.uint64pow10", laid_internal_strconv_uint64pow10)] }
def JumpTargetsSaid : Prop := jumpTargetsRow.holds Tryd.pinned (OpenSpec.ofChange jumpTargetsSpec)

/-- ITS FALSE NEIGHBOUR: 'it returns false'. Refute it at one input. -/
def jumpTargetsWrong : ChangeSpec := { name := "jumpTargets", fn := fun _ => fun
  | [d] => { results := [.lit (.bool false)], args := [d] }
  | _ => none }
def JumpTargetsWrongFalsely : Prop := jumpTargetsRow.holds Tryd.pinned (OpenSpec.ofChange jumpTargetsWrong)

/-- 'pawnshoplaw06.JumpOrder': WHATEVER THE INPUT: true; the input reads as it did. -/
def jumpOrderSpec : ChangeSpec := { name := "jumpOrder", fn := fun _ => fun
  | [d1, d2] => { results := [.lit (.bool true)], args := [d1, d2] }
  | _ => none }
def jumpOrderRow : OpenClaim := { program := "ytaamdiknefodgaadoor", sum := "ecc9d27cfcc598353b81063fe8904a2344ecafb966213fc2fce098ac58ec46ab", func := "pawnshop/pawnshoplaw06.JumpOrder", spec := "jumpOrder", inPlace := ["internal/abi.NoEscape", "internal/bytealg.MakeNoZero"], unfollowed := true, recurses := true, named := ["internal/strconv.uint64pow10", "math/bits.deBruijn32tab", "math/bits.deBruijn64tab"], apart := false, laid := [("math/bits.deBruijn32tab", laid_math_bits_deBruijn32tab), ("math/bits.deBruijn64tab", laid_math_bits_deBruijn64tab), ("internal/strconv.uint64pow10", laid_internal_strconv_uint64pow10)] }
def JumpOrderSaid : Prop := jumpOrderRow.holds Tryd.pinned (OpenSpec.ofChange jumpOrderSpec)

/-- ITS FALSE NEIGHBOUR: 'it returns false'. Refute it at one input. -/
def jumpOrderWrong : ChangeSpec := { name := "jumpOrder", fn := fun _ => fun
  | [d1, d2] => { results := [.lit (.bool false)], args := [d1, d2] }
  | _ => none }
def JumpOrderWrongFalsely : Prop := jumpOrderRow.holds Tryd.pinned (OpenSpec.ofChange jumpOrderWrong)

/-- 'pawnshoplaw06.JumpTexts': WHATEVER THE INPUT: true; the input reads as it did. -/
def jumpTextsSpec : ChangeSpec := { name := "jumpTexts", fn := fun _ => fun
  | [d1, d2] => { results := [.lit (.bool true)], args := [d1, d2] }
  | _ => none }
def jumpTextsRow : OpenClaim := { program := "ytaamdiknefodgaadoor", sum := "ecc9d27cfcc598353b81063fe8904a2344ecafb966213fc2fce098ac58ec46ab", func := "pawnshop/pawnshoplaw06.JumpTexts", spec := "jumpTexts", inPlace := ["internal/abi.NoEscape", "internal/bytealg.MakeNoZero"], unfollowed := true, recurses := true, named := ["internal/strconv.uint64pow10", "math/bits.deBruijn32tab", "math/bits.deBruijn64tab"], apart := false, laid := [("math/bits.deBruijn32tab", laid_math_bits_deBruijn32tab), ("math/bits.deBruijn64tab", laid_math_bits_deBruijn64tab), ("internal/strconv.uint64pow10", laid_internal_strconv_uint64pow10)] }
def JumpTextsSaid : Prop := jumpTextsRow.holds Tryd.pinned (OpenSpec.ofChange jumpTextsSpec)

/-- ITS FALSE NEIGHBOUR: 'it returns false'. Refute it at one input. -/
def jumpTextsWrong : ChangeSpec := { name := "jumpTexts", fn := fun _ => fun
  | [d1, d2] => { results := [.lit (.bool false)], args := [d1, d2] }
  | _ => none }
def JumpTextsWrongFalsely : Prop := jumpTextsRow.holds Tryd.pinned (OpenSpec.ofChange jumpTextsWrong)

/-- 'pawnshoplaw06.JumpUses': WHATEVER THE INPUT: true; the input reads as it did. -/
def jumpUsesSpec : ChangeSpec := { name := "jumpUses", fn := fun _ => fun
  | [d] => { results := [.lit (.bool true)], args := [d] }
  | _ => none }
def jumpUsesRow : OpenClaim := { program := "ytaamdiknefodgaadoor", sum := "ecc9d27cfcc598353b81063fe8904a2344ecafb966213fc2fce098ac58ec46ab", func := "pawnshop/pawnshoplaw06.JumpUses", spec := "jumpUses", inPlace := ["internal/abi.NoEscape", "internal/bytealg.MakeNoZero"], unfollowed := true, recurses := true, named := ["internal/strconv.uint64pow10", "math/bits.deBruijn32tab", "math/bits.deBruijn64tab"], apart := false, laid := [("math/bits.deBruijn32tab", laid_math_bits_deBruijn32tab), ("math/bits.deBruijn64tab", laid_math_bits_deBruijn64tab), ("internal/strconv.uint64pow10", laid_internal_strconv_uint64pow10)] }
def JumpUsesSaid : Prop := jumpUsesRow.holds Tryd.pinned (OpenSpec.ofChange jumpUsesSpec)

/-- ITS FALSE NEIGHBOUR: 'it returns false'. Refute it at one input. -/
def jumpUsesWrong : ChangeSpec := { name := "jumpUses", fn := fun _ => fun
  | [d] => { results := [.lit (.bool false)], args := [d] }
  | _ => none }
def JumpUsesWrongFalsely : Prop := jumpUsesRow.holds Tryd.pinned (OpenSpec.ofChange jumpUsesWrong)

/-- 'pawnshoplaw05.StmtNames': WHATEVER THE INPUT: true; the input reads as it did. -/
def stmtNamesSpec : ChangeSpec := { name := "stmtNames", fn := fun _ => fun
  | [] => { results := [.lit (.bool true)], args := [] }
  | _ => none }
def stmtNamesRow : OpenClaim := { program := "ytaamdiknefodgaadoor", sum := "ecc9d27cfcc598353b81063fe8904a2344ecafb966213fc2fce098ac58ec46ab", func := "pawnshop/pawnshoplaw05.StmtNames", spec := "stmtNames", inPlace := ["slices.overlaps[int]"], unfollowed := true, recurses := true, named := ["internal/strconv.uint64pow10", "math/bits.deBruijn32tab", "math/bits.deBruijn64tab"], apart := false, laid := [("math/bits.deBruijn32tab", laid_math_bits_deBruijn32tab), ("math/bits.deBruijn64tab", laid_math_bits_deBruijn64tab), ("internal/strconv.uint64pow10", laid_internal_strconv_uint64pow10)] }
def StmtNamesSaid : Prop := stmtNamesRow.holds Tryd.pinned (OpenSpec.ofChange stmtNamesSpec)

/-- ITS FALSE NEIGHBOUR: 'it returns false'. Refute it at one input. -/
def stmtNamesWrong : ChangeSpec := { name := "stmtNames", fn := fun _ => fun
  | [] => { results := [.lit (.bool false)], args := [] }
  | _ => none }
def StmtNamesWrongFalsely : Prop := stmtNamesRow.holds Tryd.pinned (OpenSpec.ofChange stmtNamesWrong)

/-- 'pawnshoplaw05.StmtTells': WHATEVER THE INPUT: true; the input reads as it did. -/
def stmtTellsSpec : ChangeSpec := { name := "stmtTells", fn := fun _ => fun
  | [d] => { results := [.lit (.bool true)], args := [d] }
  | _ => none }
def stmtTellsRow : OpenClaim := { program := "ytaamdiknefodgaadoor", sum := "ecc9d27cfcc598353b81063fe8904a2344ecafb966213fc2fce098ac58ec46ab", func := "pawnshop/pawnshoplaw05.StmtTells", spec := "stmtTells", inPlace := ["slices.overlaps[int]"], unfollowed := true, recurses := true, named := ["internal/strconv.uint64pow10", "math/bits.deBruijn32tab", "math/bits.deBruijn64tab"], apart := false, laid := [("math/bits.deBruijn32tab", laid_math_bits_deBruijn32tab), ("math/bits.deBruijn64tab", laid_math_bits_deBruijn64tab), ("internal/strconv.uint64pow10", laid_internal_strconv_uint64pow10)] }
def StmtTellsSaid : Prop := stmtTellsRow.holds Tryd.pinned (OpenSpec.ofChange stmtTellsSpec)

/-- ITS FALSE NEIGHBOUR: 'it returns false'. Refute it at one input. -/
def stmtTellsWrong : ChangeSpec := { name := "stmtTells", fn := fun _ => fun
  | [d] => { results := [.lit (.bool false)], args := [d] }
  | _ => none }
def StmtTellsWrongFalsely : Prop := stmtTellsRow.holds Tryd.pinned (OpenSpec.ofChange stmtTellsWrong)

/-- 'pawnshoplaw05.StmtOnce': WHATEVER THE INPUT: true; the input reads as it did. -/
def stmtOnceSpec : ChangeSpec := { name := "stmtOnce", fn := fun _ => fun
  | [d] => { results := [.lit (.bool true)], args := [d] }
  | _ => none }
def stmtOnceRow : OpenClaim := { program := "ytaamdiknefodgaadoor", sum := "ecc9d27cfcc598353b81063fe8904a2344ecafb966213fc2fce098ac58ec46ab", func := "pawnshop/pawnshoplaw05.StmtOnce", spec := "stmtOnce", inPlace := ["slices.overlaps[int]"], unfollowed := true, recurses := true, named := ["internal/strconv.uint64pow10", "math/bits.deBruijn32tab", "math/bits.deBruijn64tab"], apart := false, laid := [("math/bits.deBruijn32tab", laid_math_bits_deBruijn32tab), ("math/bits.deBruijn64tab", laid_math_bits_deBruijn64tab), ("internal/strconv.uint64pow10", laid_internal_strconv_uint64pow10)] }
def StmtOnceSaid : Prop := stmtOnceRow.holds Tryd.pinned (OpenSpec.ofChange stmtOnceSpec)

/-- ITS FALSE NEIGHBOUR: 'it returns false'. Refute it at one input. -/
def stmtOnceWrong : ChangeSpec := { name := "stmtOnce", fn := fun _ => fun
  | [d] => { results := [.lit (.bool false)], args := [d] }
  | _ => none }
def StmtOnceWrongFalsely : Prop := stmtOnceRow.holds Tryd.pinned (OpenSpec.ofChange stmtOnceWrong)

/-- 'pawnshoplaw05.StmtRvalue': WHATEVER THE INPUT: true; the input reads as it did. -/
def stmtRvalueSpec : ChangeSpec := { name := "stmtRvalue", fn := fun _ => fun
  | [d] => { results := [.lit (.bool true)], args := [d] }
  | _ => none }
def stmtRvalueRow : OpenClaim := { program := "ytaamdiknefodgaadoor", sum := "ecc9d27cfcc598353b81063fe8904a2344ecafb966213fc2fce098ac58ec46ab", func := "pawnshop/pawnshoplaw05.StmtRvalue", spec := "stmtRvalue", inPlace := ["slices.overlaps[int]"], unfollowed := true, recurses := true, named := ["internal/strconv.uint64pow10", "math/bits.deBruijn32tab", "math/bits.deBruijn64tab"], apart := false, laid := [("math/bits.deBruijn32tab", laid_math_bits_deBruijn32tab), ("math/bits.deBruijn64tab", laid_math_bits_deBruijn64tab), ("internal/strconv.uint64pow10", laid_internal_strconv_uint64pow10)] }
def StmtRvalueSaid : Prop := stmtRvalueRow.holds Tryd.pinned (OpenSpec.ofChange stmtRvalueSpec)

/-- ITS FALSE NEIGHBOUR: 'it returns false'. Refute it at one input. -/
def stmtRvalueWrong : ChangeSpec := { name := "stmtRvalue", fn := fun _ => fun
  | [d] => { results := [.lit (.bool false)], args := [d] }
  | _ => none }
def StmtRvalueWrongFalsely : Prop := stmtRvalueRow.holds Tryd.pinned (OpenSpec.ofChange stmtRvalueWrong)

/-- 'pawnshoplaw05.StmtTexts': WHATEVER THE INPUT: true; the input reads as it did. -/
def stmtTextsSpec : ChangeSpec := { name := "stmtTexts", fn := fun _ => fun
  | [d1, d2] => { results := [.lit (.bool true)], args := [d1, d2] }
  | _ => none }
def stmtTextsRow : OpenClaim := { program := "ytaamdiknefodgaadoor", sum := "ecc9d27cfcc598353b81063fe8904a2344ecafb966213fc2fce098ac58ec46ab", func := "pawnshop/pawnshoplaw05.StmtTexts", spec := "stmtTexts", inPlace := ["slices.overlaps[int]"], unfollowed := true, recurses := true, named := ["internal/strconv.uint64pow10", "math/bits.deBruijn32tab", "math/bits.deBruijn64tab"], apart := false, laid := [("math/bits.deBruijn32tab", laid_math_bits_deBruijn32tab), ("math/bits.deBruijn64tab", laid_math_bits_deBruijn64tab), ("internal/strconv.uint64pow10", laid_internal_strconv_uint64pow10)] }
def StmtTextsSaid : Prop := stmtTextsRow.holds Tryd.pinned (OpenSpec.ofChange stmtTextsSpec)

/-- ITS FALSE NEIGHBOUR: 'it returns false'. Refute it at one input. -/
def stmtTextsWrong : ChangeSpec := { name := "stmtTexts", fn := fun _ => fun
  | [d1, d2] => { results := [.lit (.bool false)], args := [d1, d2] }
  | _ => none }
def StmtTextsWrongFalsely : Prop := stmtTextsRow.holds Tryd.pinned (OpenSpec.ofChange stmtTextsWrong)

/-- 'pawnshoplaw05.StmtPlace': WHATEVER THE INPUT: true; the input reads as it did. -/
def stmtPlaceSpec : ChangeSpec := { name := "stmtPlace", fn := fun _ => fun
  | [d] => { results := [.lit (.bool true)], args := [d] }
  | _ => none }
def stmtPlaceRow : OpenClaim := { program := "ytaamdiknefodgaadoor", sum := "ecc9d27cfcc598353b81063fe8904a2344ecafb966213fc2fce098ac58ec46ab", func := "pawnshop/pawnshoplaw05.StmtPlace", spec := "stmtPlace", inPlace := ["slices.overlaps[int]"], unfollowed := true, recurses := true, named := ["internal/strconv.uint64pow10", "math/bits.deBruijn32tab", "math/bits.deBruijn64tab"], apart := false, laid := [("math/bits.deBruijn32tab", laid_math_bits_deBruijn32tab), ("math/bits.deBruijn64tab", laid_math_bits_deBruijn64tab), ("internal/strconv.uint64pow10", laid_internal_strconv_uint64pow10)] }
def StmtPlaceSaid : Prop := stmtPlaceRow.holds Tryd.pinned (OpenSpec.ofChange stmtPlaceSpec)

/-- ITS FALSE NEIGHBOUR: 'it returns false'. Refute it at one input. -/
def stmtPlaceWrong : ChangeSpec := { name := "stmtPlace", fn := fun _ => fun
  | [d] => { results := [.lit (.bool false)], args := [d] }
  | _ => none }
def StmtPlaceWrongFalsely : Prop := stmtPlaceRow.holds Tryd.pinned (OpenSpec.ofChange stmtPlaceWrong)

/- THE SECOND FORM. 'bulk': how many values and letters a reading holds, each counted each time it is reached (what is shared counts as often as it is met; a slice's spare places count too). A statement '..UptoSaid' is the law's where the arguments, and the package variables that the reading takes, are together of bulk at most 1048576: NARROWER than '..Said'. Prove '..Said' where nothing that the law and all that it calls make is longer than what came in: it says more and counts as full. Else prove '..UptoSaid'. A law counts once. -/
mutual
def uptoBulk {H : Type} : DataW H → Nat
  | .lit (.string bytes) => bytes.length + 1
  | .lit _ => 1
  | .nil => 1
  | .ptr d => uptoBulk d + 1
  | .slice elems spare => uptoBulkAll elems + uptoBulkAll spare + 1
  | .agg parts => uptoBulkAll parts + 1
  | .iface _ d => uptoBulk d + 1
  | .map entries => uptoBulkEntries entries + 1
  | .held _ => 1
def uptoBulkAll {H : Type} : List (DataW H) → Nat
  | [] => 0
  | d :: r => uptoBulk d + uptoBulkAll r
def uptoBulkEntries {H : Type} : List (Lit × DataW H) → Nat
  | [] => 0
  | x :: r => uptoBulkEntry x + uptoBulkEntries r
def uptoBulkEntry {H : Type} : Lit × DataW H → Nat
  | (.string bytes, d) => bytes.length + uptoBulk d + 1
  | (_, d) => uptoBulk d + 1
 end
def uptoSmall : (H : Type) → List (DataW H) → Bool := fun _ ds => decide (uptoBulkAll ds ≤ 1048576)
def OpenSpec.upto (s : _root_.Go.ChangeSpec) : _root_.Go.OpenSpec := { _root_.Go.OpenSpec.ofChange s with cond := some uptoSmall }

/-- 'pawnshoplaw06.JumpNames', WHERE WHAT IT READS IS OF BULK AT MOST 1048576: true; the input reads as it did. -/
def jumpNamesUptoRow : OpenClaim := { program := "ytaamdiknefodgaadoor", sum := "ecc9d27cfcc598353b81063fe8904a2344ecafb966213fc2fce098ac58ec46ab", func := "pawnshop/pawnshoplaw06.JumpNames", spec := "jumpNames", inPlace := ["internal/abi.NoEscape", "internal/bytealg.MakeNoZero"], unfollowed := true, recurses := true, named := ["internal/strconv.uint64pow10", "math/bits.deBruijn32tab", "math/bits.deBruijn64tab"], apart := false, laid := [("math/bits.deBruijn32tab", laid_math_bits_deBruijn32tab), ("math/bits.deBruijn64tab", laid_math_bits_deBruijn64tab), ("internal/strconv.uint64pow10", laid_internal_strconv_uint64pow10)], narrowed := true }
def JumpNamesUptoSaid : Prop := jumpNamesUptoRow.holds Tryd.pinned (OpenSpec.upto jumpNamesSpec)

/-- 'pawnshoplaw06.JumpTells', WHERE WHAT IT READS IS OF BULK AT MOST 1048576: true; the input reads as it did. -/
def jumpTellsUptoRow : OpenClaim := { program := "ytaamdiknefodgaadoor", sum := "ecc9d27cfcc598353b81063fe8904a2344ecafb966213fc2fce098ac58ec46ab", func := "pawnshop/pawnshoplaw06.JumpTells", spec := "jumpTells", inPlace := ["internal/abi.NoEscape", "internal/bytealg.MakeNoZero"], unfollowed := true, recurses := true, named := ["internal/strconv.uint64pow10", "math/bits.deBruijn32tab", "math/bits.deBruijn64tab"], apart := false, laid := [("math/bits.deBruijn32tab", laid_math_bits_deBruijn32tab), ("math/bits.deBruijn64tab", laid_math_bits_deBruijn64tab), ("internal/strconv.uint64pow10", laid_internal_strconv_uint64pow10)], narrowed := true }
def JumpTellsUptoSaid : Prop := jumpTellsUptoRow.holds Tryd.pinned (OpenSpec.upto jumpTellsSpec)

/-- 'pawnshoplaw06.JumpTargets', WHERE WHAT IT READS IS OF BULK AT MOST 1048576: true; the input reads as it did. -/
def jumpTargetsUptoRow : OpenClaim := { program := "ytaamdiknefodgaadoor", sum := "ecc9d27cfcc598353b81063fe8904a2344ecafb966213fc2fce098ac58ec46ab", func := "pawnshop/pawnshoplaw06.JumpTargets", spec := "jumpTargets", inPlace := ["internal/abi.NoEscape", "internal/bytealg.MakeNoZero"], unfollowed := true, recurses := true, named := ["internal/strconv.uint64pow10", "math/bits.deBruijn32tab", "math/bits.deBruijn64tab"], apart := false, laid := [("math/bits.deBruijn32tab", laid_math_bits_deBruijn32tab), ("math/bits.deBruijn64tab", laid_math_bits_deBruijn64tab), ("internal/strconv.uint64pow10", laid_internal_strconv_uint64pow10)], narrowed := true }
def JumpTargetsUptoSaid : Prop := jumpTargetsUptoRow.holds Tryd.pinned (OpenSpec.upto jumpTargetsSpec)

/-- 'pawnshoplaw06.JumpOrder', WHERE WHAT IT READS IS OF BULK AT MOST 1048576: true; the input reads as it did. -/
def jumpOrderUptoRow : OpenClaim := { program := "ytaamdiknefodgaadoor", sum := "ecc9d27cfcc598353b81063fe8904a2344ecafb966213fc2fce098ac58ec46ab", func := "pawnshop/pawnshoplaw06.JumpOrder", spec := "jumpOrder", inPlace := ["internal/abi.NoEscape", "internal/bytealg.MakeNoZero"], unfollowed := true, recurses := true, named := ["internal/strconv.uint64pow10", "math/bits.deBruijn32tab", "math/bits.deBruijn64tab"], apart := false, laid := [("math/bits.deBruijn32tab", laid_math_bits_deBruijn32tab), ("math/bits.deBruijn64tab", laid_math_bits_deBruijn64tab), ("internal/strconv.uint64pow10", laid_internal_strconv_uint64pow10)], narrowed := true }
def JumpOrderUptoSaid : Prop := jumpOrderUptoRow.holds Tryd.pinned (OpenSpec.upto jumpOrderSpec)

/-- 'pawnshoplaw06.JumpTexts', WHERE WHAT IT READS IS OF BULK AT MOST 1048576: true; the input reads as it did. -/
def jumpTextsUptoRow : OpenClaim := { program := "ytaamdiknefodgaadoor", sum := "ecc9d27cfcc598353b81063fe8904a2344ecafb966213fc2fce098ac58ec46ab", func := "pawnshop/pawnshoplaw06.JumpTexts", spec := "jumpTexts", inPlace := ["internal/abi.NoEscape", "internal/bytealg.MakeNoZero"], unfollowed := true, recurses := true, named := ["internal/strconv.uint64pow10", "math/bits.deBruijn32tab", "math/bits.deBruijn64tab"], apart := false, laid := [("math/bits.deBruijn32tab", laid_math_bits_deBruijn32tab), ("math/bits.deBruijn64tab", laid_math_bits_deBruijn64tab), ("internal/strconv.uint64pow10", laid_internal_strconv_uint64pow10)], narrowed := true }
def JumpTextsUptoSaid : Prop := jumpTextsUptoRow.holds Tryd.pinned (OpenSpec.upto jumpTextsSpec)

/-- 'pawnshoplaw06.JumpUses', WHERE WHAT IT READS IS OF BULK AT MOST 1048576: true; the input reads as it did. -/
def jumpUsesUptoRow : OpenClaim := { program := "ytaamdiknefodgaadoor", sum := "ecc9d27cfcc598353b81063fe8904a2344ecafb966213fc2fce098ac58ec46ab", func := "pawnshop/pawnshoplaw06.JumpUses", spec := "jumpUses", inPlace := ["internal/abi.NoEscape", "internal/bytealg.MakeNoZero"], unfollowed := true, recurses := true, named := ["internal/strconv.uint64pow10", "math/bits.deBruijn32tab", "math/bits.deBruijn64tab"], apart := false, laid := [("math/bits.deBruijn32tab", laid_math_bits_deBruijn32tab), ("math/bits.deBruijn64tab", laid_math_bits_deBruijn64tab), ("internal/strconv.uint64pow10", laid_internal_strconv_uint64pow10)], narrowed := true }
def JumpUsesUptoSaid : Prop := jumpUsesUptoRow.holds Tryd.pinned (OpenSpec.upto jumpUsesSpec)

/-- 'pawnshoplaw05.StmtNames', WHERE WHAT IT READS IS OF BULK AT MOST 1048576: true; the input reads as it did. -/
def stmtNamesUptoRow : OpenClaim := { program := "ytaamdiknefodgaadoor", sum := "ecc9d27cfcc598353b81063fe8904a2344ecafb966213fc2fce098ac58ec46ab", func := "pawnshop/pawnshoplaw05.StmtNames", spec := "stmtNames", inPlace := ["slices.overlaps[int]"], unfollowed := true, recurses := true, named := ["internal/strconv.uint64pow10", "math/bits.deBruijn32tab", "math/bits.deBruijn64tab"], apart := false, laid := [("math/bits.deBruijn32tab", laid_math_bits_deBruijn32tab), ("math/bits.deBruijn64tab", laid_math_bits_deBruijn64tab), ("internal/strconv.uint64pow10", laid_internal_strconv_uint64pow10)], narrowed := true }
def StmtNamesUptoSaid : Prop := stmtNamesUptoRow.holds Tryd.pinned (OpenSpec.upto stmtNamesSpec)

/-- 'pawnshoplaw05.StmtTells', WHERE WHAT IT READS IS OF BULK AT MOST 1048576: true; the input reads as it did. -/
def stmtTellsUptoRow : OpenClaim := { program := "ytaamdiknefodgaadoor", sum := "ecc9d27cfcc598353b81063fe8904a2344ecafb966213fc2fce098ac58ec46ab", func := "pawnshop/pawnshoplaw05.StmtTells", spec := "stmtTells", inPlace := ["slices.overlaps[int]"], unfollowed := true, recurses := true, named := ["internal/strconv.uint64pow10", "math/bits.deBruijn32tab", "math/bits.deBruijn64tab"], apart := false, laid := [("math/bits.deBruijn32tab", laid_math_bits_deBruijn32tab), ("math/bits.deBruijn64tab", laid_math_bits_deBruijn64tab), ("internal/strconv.uint64pow10", laid_internal_strconv_uint64pow10)], narrowed := true }
def StmtTellsUptoSaid : Prop := stmtTellsUptoRow.holds Tryd.pinned (OpenSpec.upto stmtTellsSpec)

/-- 'pawnshoplaw05.StmtOnce', WHERE WHAT IT READS IS OF BULK AT MOST 1048576: true; the input reads as it did. -/
def stmtOnceUptoRow : OpenClaim := { program := "ytaamdiknefodgaadoor", sum := "ecc9d27cfcc598353b81063fe8904a2344ecafb966213fc2fce098ac58ec46ab", func := "pawnshop/pawnshoplaw05.StmtOnce", spec := "stmtOnce", inPlace := ["slices.overlaps[int]"], unfollowed := true, recurses := true, named := ["internal/strconv.uint64pow10", "math/bits.deBruijn32tab", "math/bits.deBruijn64tab"], apart := false, laid := [("math/bits.deBruijn32tab", laid_math_bits_deBruijn32tab), ("math/bits.deBruijn64tab", laid_math_bits_deBruijn64tab), ("internal/strconv.uint64pow10", laid_internal_strconv_uint64pow10)], narrowed := true }
def StmtOnceUptoSaid : Prop := stmtOnceUptoRow.holds Tryd.pinned (OpenSpec.upto stmtOnceSpec)

/-- 'pawnshoplaw05.StmtRvalue', WHERE WHAT IT READS IS OF BULK AT MOST 1048576: true; the input reads as it did. -/
def stmtRvalueUptoRow : OpenClaim := { program := "ytaamdiknefodgaadoor", sum := "ecc9d27cfcc598353b81063fe8904a2344ecafb966213fc2fce098ac58ec46ab", func := "pawnshop/pawnshoplaw05.StmtRvalue", spec := "stmtRvalue", inPlace := ["slices.overlaps[int]"], unfollowed := true, recurses := true, named := ["internal/strconv.uint64pow10", "math/bits.deBruijn32tab", "math/bits.deBruijn64tab"], apart := false, laid := [("math/bits.deBruijn32tab", laid_math_bits_deBruijn32tab), ("math/bits.deBruijn64tab", laid_math_bits_deBruijn64tab), ("internal/strconv.uint64pow10", laid_internal_strconv_uint64pow10)], narrowed := true }
def StmtRvalueUptoSaid : Prop := stmtRvalueUptoRow.holds Tryd.pinned (OpenSpec.upto stmtRvalueSpec)

/-- 'pawnshoplaw05.StmtTexts', WHERE WHAT IT READS IS OF BULK AT MOST 1048576: true; the input reads as it did. -/
def stmtTextsUptoRow : OpenClaim := { program := "ytaamdiknefodgaadoor", sum := "ecc9d27cfcc598353b81063fe8904a2344ecafb966213fc2fce098ac58ec46ab", func := "pawnshop/pawnshoplaw05.StmtTexts", spec := "stmtTexts", inPlace := ["slices.overlaps[int]"], unfollowed := true, recurses := true, named := ["internal/strconv.uint64pow10", "math/bits.deBruijn32tab", "math/bits.deBruijn64tab"], apart := false, laid := [("math/bits.deBruijn32tab", laid_math_bits_deBruijn32tab), ("math/bits.deBruijn64tab", laid_math_bits_deBruijn64tab), ("internal/strconv.uint64pow10", laid_internal_strconv_uint64pow10)], narrowed := true }
def StmtTextsUptoSaid : Prop := stmtTextsUptoRow.holds Tryd.pinned (OpenSpec.upto stmtTextsSpec)

/-- 'pawnshoplaw05.StmtPlace', WHERE WHAT IT READS IS OF BULK AT MOST 1048576: true; the input reads as it did. -/
def stmtPlaceUptoRow : OpenClaim := { program := "ytaamdiknefodgaadoor", sum := "ecc9d27cfcc598353b81063fe8904a2344ecafb966213fc2fce098ac58ec46ab", func := "pawnshop/pawnshoplaw05.StmtPlace", spec := "stmtPlace", inPlace := ["slices.overlaps[int]"], unfollowed := true, recurses := true, named := ["internal/strconv.uint64pow10", "math/bits.deBruijn32tab", "math/bits.deBruijn64tab"], apart := false, laid := [("math/bits.deBruijn32tab", laid_math_bits_deBruijn32tab), ("math/bits.deBruijn64tab", laid_math_bits_deBruijn64tab), ("internal/strconv.uint64pow10", laid_internal_strconv_uint64pow10)], narrowed := true }
def StmtPlaceUptoSaid : Prop := stmtPlaceUptoRow.holds Tryd.pinned (OpenSpec.upto stmtPlaceSpec)

end Rows
end Go.Proofs.YtaamdiknefodgaaDoor
