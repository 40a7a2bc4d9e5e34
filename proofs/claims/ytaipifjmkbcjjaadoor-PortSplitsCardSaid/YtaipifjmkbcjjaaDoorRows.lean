/-
  NARROWER THAN 'FOR EVERY INPUT', by the rows' own cells (each row's printed sentence says how): PortParts: laid · PortSpoilt: laid · PortBack: laid · PortJudges: laid · PortSplits: laid · PortSplit: laid · PortKnown: laid · WireReads: laid · WireScans: laid · WireBack: laid · WireSpoilt: laid · WireKnown: laid · WireSums: laid · WireFinds: laid · WireWrites: laid.
  DERIVED. THE GIVEN ROWS OF THIS SEAT. 15 by the template 'for every input the law returns true; each argument reads behind the call as it read before'; 0 by the template 'total and deterministic' (their statements: YtaipifjmkbcjjaaDoorTotals.lean).
  GIVEN WITH THE SEED: the statements are not yours to turn. If you find one false, say at which input.
  Laid BY PROGRAM, IN A SANDBOX (cutbox-rows.mjs): the forced cells as the released guide's own fill.sh prints them over the translation 747244f80d4ef56b… (all of the seat's roots in one cut). By AI agents, Wed Nov 11 2026. No macro, syntax, notation, axiom, sorry.
-/
import Derived.Test.YtaipifjmkbcjjaaDoorChecked
import GoSem.Claim
import GoSem.ClaimJoined
import GoSem.ClaimMapViews
import Derived.JoinedTies
import Derived.KernelRfl
namespace Go.Proofs.YtaipifjmkbcjjaaDoor
/- THE CELL 'sum', in the pinned program and in every row, IS THE sha256 OF THE DUMP (.gsa) THAT YtaipifjmkbcjjaaDoorProg.lean LOADS. Nothing in Lean hashes anything: it is a label: what it is worth is what the hold of that sum in a sandbox is worth. -/
noncomputable def Tryd.pinned : Pinned := { name := "ytaipifjmkbcjjaadoor", sum := "747244f80d4ef56b28be385c650deb57338575578bceb489c6aecbfee21f17c1", checked := Tryd.checked }
namespace Rows
def none {H : Type} : Left H := { results := [], args := [] }

/- WHAT THE LISTED PACKAGE-LEVEL VARIABLES READ AS WHEN THE CALL BEGINS. Each datum BY PROGRAM (the guide's laid-datum.mjs) off the statement by which the dump's own 'gosem.cut.vars' lays the variable. In a bare row this is a premise. The card (YtaipifjmkbcjjaaDoorCards.lean) ties it to the program's text. -/
def laid_math_bits_deBruijn32tab {H : Type} : DataW H := .agg [.lit (.int .u8 0), .lit (.int .u8 1), .lit (.int .u8 28), .lit (.int .u8 2), .lit (.int .u8 29), .lit (.int .u8 14), .lit (.int .u8 24), .lit (.int .u8 3), .lit (.int .u8 30), .lit (.int .u8 22), .lit (.int .u8 20), .lit (.int .u8 15), .lit (.int .u8 25), .lit (.int .u8 17), .lit (.int .u8 4), .lit (.int .u8 8), .lit (.int .u8 31), .lit (.int .u8 27), .lit (.int .u8 13), .lit (.int .u8 23), .lit (.int .u8 21), .lit (.int .u8 19), .lit (.int .u8 16), .lit (.int .u8 7), .lit (.int .u8 26), .lit (.int .u8 12), .lit (.int .u8 18), .lit (.int .u8 6), .lit (.int .u8 11), .lit (.int .u8 5), .lit (.int .u8 10), .lit (.int .u8 9)]
def laid_math_bits_deBruijn64tab {H : Type} : DataW H := .agg [.lit (.int .u8 0), .lit (.int .u8 1), .lit (.int .u8 56), .lit (.int .u8 2), .lit (.int .u8 57), .lit (.int .u8 49), .lit (.int .u8 28), .lit (.int .u8 3), .lit (.int .u8 61), .lit (.int .u8 58), .lit (.int .u8 42), .lit (.int .u8 50), .lit (.int .u8 38), .lit (.int .u8 29), .lit (.int .u8 17), .lit (.int .u8 4), .lit (.int .u8 62), .lit (.int .u8 47), .lit (.int .u8 59), .lit (.int .u8 36), .lit (.int .u8 45), .lit (.int .u8 43), .lit (.int .u8 51), .lit (.int .u8 22), .lit (.int .u8 53), .lit (.int .u8 39), .lit (.int .u8 33), .lit (.int .u8 30), .lit (.int .u8 24), .lit (.int .u8 18), .lit (.int .u8 12), .lit (.int .u8 5), .lit (.int .u8 63), .lit (.int .u8 55), .lit (.int .u8 48), .lit (.int .u8 27), .lit (.int .u8 60), .lit (.int .u8 41), .lit (.int .u8 37), .lit (.int .u8 16), .lit (.int .u8 46), .lit (.int .u8 35), .lit (.int .u8 44), .lit (.int .u8 21), .lit (.int .u8 52), .lit (.int .u8 32), .lit (.int .u8 23), .lit (.int .u8 11), .lit (.int .u8 54), .lit (.int .u8 26), .lit (.int .u8 40), .lit (.int .u8 15), .lit (.int .u8 34), .lit (.int .u8 20), .lit (.int .u8 31), .lit (.int .u8 10), .lit (.int .u8 25), .lit (.int .u8 14), .lit (.int .u8 19), .lit (.int .u8 9), .lit (.int .u8 13), .lit (.int .u8 8), .lit (.int .u8 7), .lit (.int .u8 6)]
def laid_internal_strconv_uint64pow10 {H : Type} : DataW H := .agg [.lit (.int .u64 1), .lit (.int .u64 10), .lit (.int .u64 100), .lit (.int .u64 1000), .lit (.int .u64 10000), .lit (.int .u64 100000), .lit (.int .u64 1000000), .lit (.int .u64 10000000), .lit (.int .u64 100000000), .lit (.int .u64 1000000000), .lit (.int .u64 10000000000), .lit (.int .u64 100000000000), .lit (.int .u64 1000000000000), .lit (.int .u64 10000000000000), .lit (.int .u64 100000000000000), .lit (.int .u64 1000000000000000), .lit (.int .u64 10000000000000000), .lit (.int .u64 100000000000000000), .lit (.int .u64 1000000000000000000), .lit (.int .u64 10000000000000000000)]
def laid_tipstaff_crc_halves {H : Type} : DataW H := .agg [.lit (.int .u8 0), .lit (.int .u8 7), .lit (.int .u8 14), .lit (.int .u8 9), .lit (.int .u8 28), .lit (.int .u8 27), .lit (.int .u8 18), .lit (.int .u8 21), .lit (.int .u8 56), .lit (.int .u8 63), .lit (.int .u8 54), .lit (.int .u8 49), .lit (.int .u8 36), .lit (.int .u8 35), .lit (.int .u8 42), .lit (.int .u8 45)]

/-- 'tipstafflaw24.PortParts': WHATEVER THE INPUT: true; the input reads as it did. -/
def portPartsSpec : ChangeSpec := { name := "portParts", fn := fun _ => fun
  | [d] => { results := [.lit (.bool true)], args := [d] }
  | _ => none }
def portPartsRow : OpenClaim := { program := "ytaipifjmkbcjjaadoor", sum := "747244f80d4ef56b28be385c650deb57338575578bceb489c6aecbfee21f17c1", func := "tipstaff/tipstafflaw24.PortParts", spec := "portParts", inPlace := ["internal/bytealg.IndexByteString"], unfollowed := true, recurses := true, named := ["internal/strconv.uint64pow10", "math/bits.deBruijn32tab", "math/bits.deBruijn64tab", "tipstaff/crc.halves"], apart := false, laid := [("math/bits.deBruijn32tab", laid_math_bits_deBruijn32tab), ("math/bits.deBruijn64tab", laid_math_bits_deBruijn64tab), ("internal/strconv.uint64pow10", laid_internal_strconv_uint64pow10), ("tipstaff/crc.halves", laid_tipstaff_crc_halves)] }
def PortPartsSaid : Prop := portPartsRow.holds Tryd.pinned (OpenSpec.ofChange portPartsSpec)

/-- ITS FALSE NEIGHBOUR: 'it returns false'. Refute it at one input. -/
def portPartsWrong : ChangeSpec := { name := "portParts", fn := fun _ => fun
  | [d] => { results := [.lit (.bool false)], args := [d] }
  | _ => none }
def PortPartsWrongFalsely : Prop := portPartsRow.holds Tryd.pinned (OpenSpec.ofChange portPartsWrong)

/-- 'tipstafflaw24.PortSpoilt': WHATEVER THE INPUT: true; the input reads as it did. -/
def portSpoiltSpec : ChangeSpec := { name := "portSpoilt", fn := fun _ => fun
  | [d1, d2, d3, d4] => { results := [.lit (.bool true)], args := [d1, d2, d3, d4] }
  | _ => none }
def portSpoiltRow : OpenClaim := { program := "ytaipifjmkbcjjaadoor", sum := "747244f80d4ef56b28be385c650deb57338575578bceb489c6aecbfee21f17c1", func := "tipstaff/tipstafflaw24.PortSpoilt", spec := "portSpoilt", inPlace := ["internal/bytealg.IndexByteString"], unfollowed := true, recurses := true, named := ["internal/strconv.uint64pow10", "math/bits.deBruijn32tab", "math/bits.deBruijn64tab", "tipstaff/crc.halves"], apart := false, laid := [("math/bits.deBruijn32tab", laid_math_bits_deBruijn32tab), ("math/bits.deBruijn64tab", laid_math_bits_deBruijn64tab), ("internal/strconv.uint64pow10", laid_internal_strconv_uint64pow10), ("tipstaff/crc.halves", laid_tipstaff_crc_halves)] }
def PortSpoiltSaid : Prop := portSpoiltRow.holds Tryd.pinned (OpenSpec.ofChange portSpoiltSpec)

/-- ITS FALSE NEIGHBOUR: 'it returns false'. Refute it at one input. -/
def portSpoiltWrong : ChangeSpec := { name := "portSpoilt", fn := fun _ => fun
  | [d1, d2, d3, d4] => { results := [.lit (.bool false)], args := [d1, d2, d3, d4] }
  | _ => none }
def PortSpoiltWrongFalsely : Prop := portSpoiltRow.holds Tryd.pinned (OpenSpec.ofChange portSpoiltWrong)

/-- 'tipstafflaw24.PortBack': WHATEVER THE INPUT: true; the input reads as it did. -/
def portBackSpec : ChangeSpec := { name := "portBack", fn := fun _ => fun
  | [d1, d2] => { results := [.lit (.bool true)], args := [d1, d2] }
  | _ => none }
def portBackRow : OpenClaim := { program := "ytaipifjmkbcjjaadoor", sum := "747244f80d4ef56b28be385c650deb57338575578bceb489c6aecbfee21f17c1", func := "tipstaff/tipstafflaw24.PortBack", spec := "portBack", inPlace := ["internal/bytealg.IndexByteString"], unfollowed := true, recurses := true, named := ["internal/strconv.uint64pow10", "math/bits.deBruijn32tab", "math/bits.deBruijn64tab", "tipstaff/crc.halves"], apart := false, laid := [("math/bits.deBruijn32tab", laid_math_bits_deBruijn32tab), ("math/bits.deBruijn64tab", laid_math_bits_deBruijn64tab), ("internal/strconv.uint64pow10", laid_internal_strconv_uint64pow10), ("tipstaff/crc.halves", laid_tipstaff_crc_halves)] }
def PortBackSaid : Prop := portBackRow.holds Tryd.pinned (OpenSpec.ofChange portBackSpec)

/-- ITS FALSE NEIGHBOUR: 'it returns false'. Refute it at one input. -/
def portBackWrong : ChangeSpec := { name := "portBack", fn := fun _ => fun
  | [d1, d2] => { results := [.lit (.bool false)], args := [d1, d2] }
  | _ => none }
def PortBackWrongFalsely : Prop := portBackRow.holds Tryd.pinned (OpenSpec.ofChange portBackWrong)

/-- 'tipstafflaw24.PortJudges': WHATEVER THE INPUT: true; the input reads as it did. -/
def portJudgesSpec : ChangeSpec := { name := "portJudges", fn := fun _ => fun
  | [d1, d2, d3, d4, d5] => { results := [.lit (.bool true)], args := [d1, d2, d3, d4, d5] }
  | _ => none }
def portJudgesRow : OpenClaim := { program := "ytaipifjmkbcjjaadoor", sum := "747244f80d4ef56b28be385c650deb57338575578bceb489c6aecbfee21f17c1", func := "tipstaff/tipstafflaw24.PortJudges", spec := "portJudges", inPlace := ["internal/bytealg.IndexByteString"], unfollowed := true, recurses := true, named := ["internal/strconv.uint64pow10", "math/bits.deBruijn32tab", "math/bits.deBruijn64tab", "tipstaff/crc.halves"], apart := false, laid := [("math/bits.deBruijn32tab", laid_math_bits_deBruijn32tab), ("math/bits.deBruijn64tab", laid_math_bits_deBruijn64tab), ("internal/strconv.uint64pow10", laid_internal_strconv_uint64pow10), ("tipstaff/crc.halves", laid_tipstaff_crc_halves)] }
def PortJudgesSaid : Prop := portJudgesRow.holds Tryd.pinned (OpenSpec.ofChange portJudgesSpec)

/-- ITS FALSE NEIGHBOUR: 'it returns false'. Refute it at one input. -/
def portJudgesWrong : ChangeSpec := { name := "portJudges", fn := fun _ => fun
  | [d1, d2, d3, d4, d5] => { results := [.lit (.bool false)], args := [d1, d2, d3, d4, d5] }
  | _ => none }
def PortJudgesWrongFalsely : Prop := portJudgesRow.holds Tryd.pinned (OpenSpec.ofChange portJudgesWrong)

/-- 'tipstafflaw24.PortSplits': WHATEVER THE INPUT: true; the input reads as it did. -/
def portSplitsSpec : ChangeSpec := { name := "portSplits", fn := fun _ => fun
  | [d1, d2] => { results := [.lit (.bool true)], args := [d1, d2] }
  | _ => none }
def portSplitsRow : OpenClaim := { program := "ytaipifjmkbcjjaadoor", sum := "747244f80d4ef56b28be385c650deb57338575578bceb489c6aecbfee21f17c1", func := "tipstaff/tipstafflaw24.PortSplits", spec := "portSplits", inPlace := ["internal/bytealg.IndexByteString"], unfollowed := true, recurses := true, named := ["internal/strconv.uint64pow10", "math/bits.deBruijn32tab", "math/bits.deBruijn64tab", "tipstaff/crc.halves"], apart := false, laid := [("math/bits.deBruijn32tab", laid_math_bits_deBruijn32tab), ("math/bits.deBruijn64tab", laid_math_bits_deBruijn64tab), ("internal/strconv.uint64pow10", laid_internal_strconv_uint64pow10), ("tipstaff/crc.halves", laid_tipstaff_crc_halves)] }
def PortSplitsSaid : Prop := portSplitsRow.holds Tryd.pinned (OpenSpec.ofChange portSplitsSpec)

/-- ITS FALSE NEIGHBOUR: 'it returns false'. Refute it at one input. -/
def portSplitsWrong : ChangeSpec := { name := "portSplits", fn := fun _ => fun
  | [d1, d2] => { results := [.lit (.bool false)], args := [d1, d2] }
  | _ => none }
def PortSplitsWrongFalsely : Prop := portSplitsRow.holds Tryd.pinned (OpenSpec.ofChange portSplitsWrong)

/-- 'tipstafflaw24.PortSplit': WHATEVER THE INPUT: true; the input reads as it did. -/
def portSplitSpec : ChangeSpec := { name := "portSplit", fn := fun _ => fun
  | [d] => { results := [.lit (.bool true)], args := [d] }
  | _ => none }
def portSplitRow : OpenClaim := { program := "ytaipifjmkbcjjaadoor", sum := "747244f80d4ef56b28be385c650deb57338575578bceb489c6aecbfee21f17c1", func := "tipstaff/tipstafflaw24.PortSplit", spec := "portSplit", inPlace := ["internal/bytealg.IndexByteString"], unfollowed := true, recurses := true, named := ["internal/strconv.uint64pow10", "math/bits.deBruijn32tab", "math/bits.deBruijn64tab", "tipstaff/crc.halves"], apart := false, laid := [("math/bits.deBruijn32tab", laid_math_bits_deBruijn32tab), ("math/bits.deBruijn64tab", laid_math_bits_deBruijn64tab), ("internal/strconv.uint64pow10", laid_internal_strconv_uint64pow10), ("tipstaff/crc.halves", laid_tipstaff_crc_halves)] }
def PortSplitSaid : Prop := portSplitRow.holds Tryd.pinned (OpenSpec.ofChange portSplitSpec)

/-- ITS FALSE NEIGHBOUR: 'it returns false'. Refute it at one input. -/
def portSplitWrong : ChangeSpec := { name := "portSplit", fn := fun _ => fun
  | [d] => { results := [.lit (.bool false)], args := [d] }
  | _ => none }
def PortSplitWrongFalsely : Prop := portSplitRow.holds Tryd.pinned (OpenSpec.ofChange portSplitWrong)

/-- 'tipstafflaw24.PortKnown': WHATEVER THE INPUT: true; the input reads as it did. -/
def portKnownSpec : ChangeSpec := { name := "portKnown", fn := fun _ => fun
  | [] => { results := [.lit (.bool true)], args := [] }
  | _ => none }
def portKnownRow : OpenClaim := { program := "ytaipifjmkbcjjaadoor", sum := "747244f80d4ef56b28be385c650deb57338575578bceb489c6aecbfee21f17c1", func := "tipstaff/tipstafflaw24.PortKnown", spec := "portKnown", inPlace := ["internal/bytealg.IndexByteString"], unfollowed := true, recurses := true, named := ["internal/strconv.uint64pow10", "math/bits.deBruijn32tab", "math/bits.deBruijn64tab", "tipstaff/crc.halves"], apart := false, laid := [("math/bits.deBruijn32tab", laid_math_bits_deBruijn32tab), ("math/bits.deBruijn64tab", laid_math_bits_deBruijn64tab), ("internal/strconv.uint64pow10", laid_internal_strconv_uint64pow10), ("tipstaff/crc.halves", laid_tipstaff_crc_halves)] }
def PortKnownSaid : Prop := portKnownRow.holds Tryd.pinned (OpenSpec.ofChange portKnownSpec)

/-- ITS FALSE NEIGHBOUR: 'it returns false'. Refute it at one input. -/
def portKnownWrong : ChangeSpec := { name := "portKnown", fn := fun _ => fun
  | [] => { results := [.lit (.bool false)], args := [] }
  | _ => none }
def PortKnownWrongFalsely : Prop := portKnownRow.holds Tryd.pinned (OpenSpec.ofChange portKnownWrong)

/-- 'tipstafflaw06.WireReads': WHATEVER THE INPUT: true; the input reads as it did. -/
def wireReadsSpec : ChangeSpec := { name := "wireReads", fn := fun _ => fun
  | [d] => { results := [.lit (.bool true)], args := [d] }
  | _ => none }
def wireReadsRow : OpenClaim := { program := "ytaipifjmkbcjjaadoor", sum := "747244f80d4ef56b28be385c650deb57338575578bceb489c6aecbfee21f17c1", func := "tipstaff/tipstafflaw06.WireReads", spec := "wireReads", inPlace := ["internal/bytealg.IndexByteString", "internal/bytealg.IndexString"], unfollowed := true, recurses := true, named := ["internal/strconv.uint64pow10", "math/bits.deBruijn32tab", "math/bits.deBruijn64tab", "tipstaff/crc.halves", "internal/bytealg.MaxLen"], apart := false, laid := [("math/bits.deBruijn32tab", laid_math_bits_deBruijn32tab), ("math/bits.deBruijn64tab", laid_math_bits_deBruijn64tab), ("internal/strconv.uint64pow10", laid_internal_strconv_uint64pow10), ("tipstaff/crc.halves", laid_tipstaff_crc_halves)] }
def WireReadsSaid : Prop := wireReadsRow.holds Tryd.pinned (OpenSpec.ofChange wireReadsSpec)

/-- ITS FALSE NEIGHBOUR: 'it returns false'. Refute it at one input. -/
def wireReadsWrong : ChangeSpec := { name := "wireReads", fn := fun _ => fun
  | [d] => { results := [.lit (.bool false)], args := [d] }
  | _ => none }
def WireReadsWrongFalsely : Prop := wireReadsRow.holds Tryd.pinned (OpenSpec.ofChange wireReadsWrong)

/-- 'tipstafflaw06.WireScans': WHATEVER THE INPUT: true; the input reads as it did. -/
def wireScansSpec : ChangeSpec := { name := "wireScans", fn := fun _ => fun
  | [d] => { results := [.lit (.bool true)], args := [d] }
  | _ => none }
def wireScansRow : OpenClaim := { program := "ytaipifjmkbcjjaadoor", sum := "747244f80d4ef56b28be385c650deb57338575578bceb489c6aecbfee21f17c1", func := "tipstaff/tipstafflaw06.WireScans", spec := "wireScans", inPlace := ["internal/bytealg.IndexByteString", "internal/bytealg.IndexString"], unfollowed := true, recurses := true, named := ["internal/strconv.uint64pow10", "math/bits.deBruijn32tab", "math/bits.deBruijn64tab", "tipstaff/crc.halves", "internal/bytealg.MaxLen"], apart := false, laid := [("math/bits.deBruijn32tab", laid_math_bits_deBruijn32tab), ("math/bits.deBruijn64tab", laid_math_bits_deBruijn64tab), ("internal/strconv.uint64pow10", laid_internal_strconv_uint64pow10), ("tipstaff/crc.halves", laid_tipstaff_crc_halves)] }
def WireScansSaid : Prop := wireScansRow.holds Tryd.pinned (OpenSpec.ofChange wireScansSpec)

/-- ITS FALSE NEIGHBOUR: 'it returns false'. Refute it at one input. -/
def wireScansWrong : ChangeSpec := { name := "wireScans", fn := fun _ => fun
  | [d] => { results := [.lit (.bool false)], args := [d] }
  | _ => none }
def WireScansWrongFalsely : Prop := wireScansRow.holds Tryd.pinned (OpenSpec.ofChange wireScansWrong)

/-- 'tipstafflaw06.WireBack': WHATEVER THE INPUT: true; the input reads as it did. -/
def wireBackSpec : ChangeSpec := { name := "wireBack", fn := fun _ => fun
  | [d1, d2] => { results := [.lit (.bool true)], args := [d1, d2] }
  | _ => none }
def wireBackRow : OpenClaim := { program := "ytaipifjmkbcjjaadoor", sum := "747244f80d4ef56b28be385c650deb57338575578bceb489c6aecbfee21f17c1", func := "tipstaff/tipstafflaw06.WireBack", spec := "wireBack", inPlace := ["internal/bytealg.IndexByteString", "internal/bytealg.IndexString"], unfollowed := true, recurses := true, named := ["internal/strconv.uint64pow10", "math/bits.deBruijn32tab", "math/bits.deBruijn64tab", "tipstaff/crc.halves", "internal/bytealg.MaxLen"], apart := false, laid := [("math/bits.deBruijn32tab", laid_math_bits_deBruijn32tab), ("math/bits.deBruijn64tab", laid_math_bits_deBruijn64tab), ("internal/strconv.uint64pow10", laid_internal_strconv_uint64pow10), ("tipstaff/crc.halves", laid_tipstaff_crc_halves)] }
def WireBackSaid : Prop := wireBackRow.holds Tryd.pinned (OpenSpec.ofChange wireBackSpec)

/-- ITS FALSE NEIGHBOUR: 'it returns false'. Refute it at one input. -/
def wireBackWrong : ChangeSpec := { name := "wireBack", fn := fun _ => fun
  | [d1, d2] => { results := [.lit (.bool false)], args := [d1, d2] }
  | _ => none }
def WireBackWrongFalsely : Prop := wireBackRow.holds Tryd.pinned (OpenSpec.ofChange wireBackWrong)

/-- 'tipstafflaw06.WireSpoilt': WHATEVER THE INPUT: true; the input reads as it did. -/
def wireSpoiltSpec : ChangeSpec := { name := "wireSpoilt", fn := fun _ => fun
  | [d1, d2, d3] => { results := [.lit (.bool true)], args := [d1, d2, d3] }
  | _ => none }
def wireSpoiltRow : OpenClaim := { program := "ytaipifjmkbcjjaadoor", sum := "747244f80d4ef56b28be385c650deb57338575578bceb489c6aecbfee21f17c1", func := "tipstaff/tipstafflaw06.WireSpoilt", spec := "wireSpoilt", inPlace := ["internal/bytealg.IndexByteString", "internal/bytealg.IndexString"], unfollowed := true, recurses := true, named := ["internal/strconv.uint64pow10", "math/bits.deBruijn32tab", "math/bits.deBruijn64tab", "tipstaff/crc.halves", "internal/bytealg.MaxLen"], apart := false, laid := [("math/bits.deBruijn32tab", laid_math_bits_deBruijn32tab), ("math/bits.deBruijn64tab", laid_math_bits_deBruijn64tab), ("internal/strconv.uint64pow10", laid_internal_strconv_uint64pow10), ("tipstaff/crc.halves", laid_tipstaff_crc_halves)] }
def WireSpoiltSaid : Prop := wireSpoiltRow.holds Tryd.pinned (OpenSpec.ofChange wireSpoiltSpec)

/-- ITS FALSE NEIGHBOUR: 'it returns false'. Refute it at one input. -/
def wireSpoiltWrong : ChangeSpec := { name := "wireSpoilt", fn := fun _ => fun
  | [d1, d2, d3] => { results := [.lit (.bool false)], args := [d1, d2, d3] }
  | _ => none }
def WireSpoiltWrongFalsely : Prop := wireSpoiltRow.holds Tryd.pinned (OpenSpec.ofChange wireSpoiltWrong)

/-- 'tipstafflaw06.WireKnown': WHATEVER THE INPUT: true; the input reads as it did. -/
def wireKnownSpec : ChangeSpec := { name := "wireKnown", fn := fun _ => fun
  | [] => { results := [.lit (.bool true)], args := [] }
  | _ => none }
def wireKnownRow : OpenClaim := { program := "ytaipifjmkbcjjaadoor", sum := "747244f80d4ef56b28be385c650deb57338575578bceb489c6aecbfee21f17c1", func := "tipstaff/tipstafflaw06.WireKnown", spec := "wireKnown", inPlace := ["internal/bytealg.IndexByteString", "internal/bytealg.IndexString"], unfollowed := true, recurses := true, named := ["internal/strconv.uint64pow10", "math/bits.deBruijn32tab", "math/bits.deBruijn64tab", "tipstaff/crc.halves", "internal/bytealg.MaxLen"], apart := false, laid := [("math/bits.deBruijn32tab", laid_math_bits_deBruijn32tab), ("math/bits.deBruijn64tab", laid_math_bits_deBruijn64tab), ("internal/strconv.uint64pow10", laid_internal_strconv_uint64pow10), ("tipstaff/crc.halves", laid_tipstaff_crc_halves)] }
def WireKnownSaid : Prop := wireKnownRow.holds Tryd.pinned (OpenSpec.ofChange wireKnownSpec)

/-- ITS FALSE NEIGHBOUR: 'it returns false'. Refute it at one input. -/
def wireKnownWrong : ChangeSpec := { name := "wireKnown", fn := fun _ => fun
  | [] => { results := [.lit (.bool false)], args := [] }
  | _ => none }
def WireKnownWrongFalsely : Prop := wireKnownRow.holds Tryd.pinned (OpenSpec.ofChange wireKnownWrong)

/-- 'tipstafflaw06.WireSums': WHATEVER THE INPUT: true; the input reads as it did. -/
def wireSumsSpec : ChangeSpec := { name := "wireSums", fn := fun _ => fun
  | [d1, d2, d3] => { results := [.lit (.bool true)], args := [d1, d2, d3] }
  | _ => none }
def wireSumsRow : OpenClaim := { program := "ytaipifjmkbcjjaadoor", sum := "747244f80d4ef56b28be385c650deb57338575578bceb489c6aecbfee21f17c1", func := "tipstaff/tipstafflaw06.WireSums", spec := "wireSums", inPlace := ["internal/bytealg.IndexByteString", "internal/bytealg.IndexString"], unfollowed := true, recurses := true, named := ["internal/strconv.uint64pow10", "math/bits.deBruijn32tab", "math/bits.deBruijn64tab", "tipstaff/crc.halves", "internal/bytealg.MaxLen"], apart := false, laid := [("math/bits.deBruijn32tab", laid_math_bits_deBruijn32tab), ("math/bits.deBruijn64tab", laid_math_bits_deBruijn64tab), ("internal/strconv.uint64pow10", laid_internal_strconv_uint64pow10), ("tipstaff/crc.halves", laid_tipstaff_crc_halves)] }
def WireSumsSaid : Prop := wireSumsRow.holds Tryd.pinned (OpenSpec.ofChange wireSumsSpec)

/-- ITS FALSE NEIGHBOUR: 'it returns false'. Refute it at one input. -/
def wireSumsWrong : ChangeSpec := { name := "wireSums", fn := fun _ => fun
  | [d1, d2, d3] => { results := [.lit (.bool false)], args := [d1, d2, d3] }
  | _ => none }
def WireSumsWrongFalsely : Prop := wireSumsRow.holds Tryd.pinned (OpenSpec.ofChange wireSumsWrong)

/-- 'tipstafflaw06.WireFinds': WHATEVER THE INPUT: true; the input reads as it did. -/
def wireFindsSpec : ChangeSpec := { name := "wireFinds", fn := fun _ => fun
  | [d1, d2] => { results := [.lit (.bool true)], args := [d1, d2] }
  | _ => none }
def wireFindsRow : OpenClaim := { program := "ytaipifjmkbcjjaadoor", sum := "747244f80d4ef56b28be385c650deb57338575578bceb489c6aecbfee21f17c1", func := "tipstaff/tipstafflaw06.WireFinds", spec := "wireFinds", inPlace := ["internal/bytealg.IndexByteString", "internal/bytealg.IndexString", "internal/abi.NoEscape"], unfollowed := true, recurses := true, named := ["internal/strconv.uint64pow10", "math/bits.deBruijn32tab", "math/bits.deBruijn64tab", "tipstaff/crc.halves", "internal/bytealg.MaxLen"], apart := false, laid := [("math/bits.deBruijn32tab", laid_math_bits_deBruijn32tab), ("math/bits.deBruijn64tab", laid_math_bits_deBruijn64tab), ("internal/strconv.uint64pow10", laid_internal_strconv_uint64pow10), ("tipstaff/crc.halves", laid_tipstaff_crc_halves)] }
def WireFindsSaid : Prop := wireFindsRow.holds Tryd.pinned (OpenSpec.ofChange wireFindsSpec)

/-- ITS FALSE NEIGHBOUR: 'it returns false'. Refute it at one input. -/
def wireFindsWrong : ChangeSpec := { name := "wireFinds", fn := fun _ => fun
  | [d1, d2] => { results := [.lit (.bool false)], args := [d1, d2] }
  | _ => none }
def WireFindsWrongFalsely : Prop := wireFindsRow.holds Tryd.pinned (OpenSpec.ofChange wireFindsWrong)

/-- 'tipstafflaw06.WireWrites': WHATEVER THE INPUT: true; the input reads as it did. -/
def wireWritesSpec : ChangeSpec := { name := "wireWrites", fn := fun _ => fun
  | [d1, d2] => { results := [.lit (.bool true)], args := [d1, d2] }
  | _ => none }
def wireWritesRow : OpenClaim := { program := "ytaipifjmkbcjjaadoor", sum := "747244f80d4ef56b28be385c650deb57338575578bceb489c6aecbfee21f17c1", func := "tipstaff/tipstafflaw06.WireWrites", spec := "wireWrites", inPlace := ["internal/bytealg.IndexByteString", "internal/bytealg.IndexString", "internal/abi.NoEscape"], unfollowed := true, recurses := true, named := ["internal/strconv.uint64pow10", "math/bits.deBruijn32tab", "math/bits.deBruijn64tab", "tipstaff/crc.halves", "internal/bytealg.MaxLen"], apart := false, laid := [("math/bits.deBruijn32tab", laid_math_bits_deBruijn32tab), ("math/bits.deBruijn64tab", laid_math_bits_deBruijn64tab), ("internal/strconv.uint64pow10", laid_internal_strconv_uint64pow10), ("tipstaff/crc.halves", laid_tipstaff_crc_halves)] }
def WireWritesSaid : Prop := wireWritesRow.holds Tryd.pinned (OpenSpec.ofChange wireWritesSpec)

/-- ITS FALSE NEIGHBOUR: 'it returns false'. Refute it at one input. -/
def wireWritesWrong : ChangeSpec := { name := "wireWrites", fn := fun _ => fun
  | [d1, d2] => { results := [.lit (.bool false)], args := [d1, d2] }
  | _ => none }
def WireWritesWrongFalsely : Prop := wireWritesRow.holds Tryd.pinned (OpenSpec.ofChange wireWritesWrong)

/- THE SECOND FORM. 'bulk': how many values and letters a reading holds, each counted each time it is reached (what is shared counts as often as it is met; a slice's spare places count too). A statement '..UptoSaid' is the law's where the arguments, and the package variables that the reading takes, are together of bulk at most 1048576: NARROWER than '..Said'. Prove '..Said' where nothing that the law and all that it calls make is longer than what came in: it says more and counts as full. Else prove '..UptoSaid'. A law counts once. -/
mutual
def uptoBulk {H : Type} : DataW H → Nat
  | .lit (.string bytes) => bytes.length + 1
  | .lit _ => 1
  | .nil => 1
  | .ptr d => uptoBulk d + 1
  | .slice elems spare => uptoBulkAll elems + uptoBulkAll spare + 1
  | .agg parts => uptoBulkAll parts + 1
  | .iface _ d => uptoBulk d + 1
  | .map entries => uptoBulkEntries entries + 1
  | .held _ => 1
def uptoBulkAll {H : Type} : List (DataW H) → Nat
  | [] => 0
  | d :: r => uptoBulk d + uptoBulkAll r
def uptoBulkEntries {H : Type} : List (Lit × DataW H) → Nat
  | [] => 0
  | x :: r => uptoBulkEntry x + uptoBulkEntries r
def uptoBulkEntry {H : Type} : Lit × DataW H → Nat
  | (.string bytes, d) => bytes.length + uptoBulk d + 1
  | (_, d) => uptoBulk d + 1
 end
def uptoSmall : (H : Type) → List (DataW H) → Bool := fun _ ds => decide (uptoBulkAll ds ≤ 1048576)
def OpenSpec.upto (s : _root_.Go.ChangeSpec) : _root_.Go.OpenSpec := { _root_.Go.OpenSpec.ofChange s with cond := some uptoSmall }

/-- 'tipstafflaw24.PortParts', WHERE WHAT IT READS IS OF BULK AT MOST 1048576: true; the input reads as it did. -/
def portPartsUptoRow : OpenClaim := { program := "ytaipifjmkbcjjaadoor", sum := "747244f80d4ef56b28be385c650deb57338575578bceb489c6aecbfee21f17c1", func := "tipstaff/tipstafflaw24.PortParts", spec := "portParts", inPlace := ["internal/bytealg.IndexByteString"], unfollowed := true, recurses := true, named := ["internal/strconv.uint64pow10", "math/bits.deBruijn32tab", "math/bits.deBruijn64tab", "tipstaff/crc.halves"], apart := false, laid := [("math/bits.deBruijn32tab", laid_math_bits_deBruijn32tab), ("math/bits.deBruijn64tab", laid_math_bits_deBruijn64tab), ("internal/strconv.uint64pow10", laid_internal_strconv_uint64pow10), ("tipstaff/crc.halves", laid_tipstaff_crc_halves)], narrowed := true }
def PortPartsUptoSaid : Prop := portPartsUptoRow.holds Tryd.pinned (OpenSpec.upto portPartsSpec)

/-- 'tipstafflaw24.PortSpoilt', WHERE WHAT IT READS IS OF BULK AT MOST 1048576: true; the input reads as it did. -/
def portSpoiltUptoRow : OpenClaim := { program := "ytaipifjmkbcjjaadoor", sum := "747244f80d4ef56b28be385c650deb57338575578bceb489c6aecbfee21f17c1", func := "tipstaff/tipstafflaw24.PortSpoilt", spec := "portSpoilt", inPlace := ["internal/bytealg.IndexByteString"], unfollowed := true, recurses := true, named := ["internal/strconv.uint64pow10", "math/bits.deBruijn32tab", "math/bits.deBruijn64tab", "tipstaff/crc.halves"], apart := false, laid := [("math/bits.deBruijn32tab", laid_math_bits_deBruijn32tab), ("math/bits.deBruijn64tab", laid_math_bits_deBruijn64tab), ("internal/strconv.uint64pow10", laid_internal_strconv_uint64pow10), ("tipstaff/crc.halves", laid_tipstaff_crc_halves)], narrowed := true }
def PortSpoiltUptoSaid : Prop := portSpoiltUptoRow.holds Tryd.pinned (OpenSpec.upto portSpoiltSpec)

/-- 'tipstafflaw24.PortBack', WHERE WHAT IT READS IS OF BULK AT MOST 1048576: true; the input reads as it did. -/
def portBackUptoRow : OpenClaim := { program := "ytaipifjmkbcjjaadoor", sum := "747244f80d4ef56b28be385c650deb57338575578bceb489c6aecbfee21f17c1", func := "tipstaff/tipstafflaw24.PortBack", spec := "portBack", inPlace := ["internal/bytealg.IndexByteString"], unfollowed := true, recurses := true, named := ["internal/strconv.uint64pow10", "math/bits.deBruijn32tab", "math/bits.deBruijn64tab", "tipstaff/crc.halves"], apart := false, laid := [("math/bits.deBruijn32tab", laid_math_bits_deBruijn32tab), ("math/bits.deBruijn64tab", laid_math_bits_deBruijn64tab), ("internal/strconv.uint64pow10", laid_internal_strconv_uint64pow10), ("tipstaff/crc.halves", laid_tipstaff_crc_halves)], narrowed := true }
def PortBackUptoSaid : Prop := portBackUptoRow.holds Tryd.pinned (OpenSpec.upto portBackSpec)

/-- 'tipstafflaw24.PortJudges', WHERE WHAT IT READS IS OF BULK AT MOST 1048576: true; the input reads as it did. -/
def portJudgesUptoRow : OpenClaim := { program := "ytaipifjmkbcjjaadoor", sum := "747244f80d4ef56b28be385c650deb57338575578bceb489c6aecbfee21f17c1", func := "tipstaff/tipstafflaw24.PortJudges", spec := "portJudges", inPlace := ["internal/bytealg.IndexByteString"], unfollowed := true, recurses := true, named := ["internal/strconv.uint64pow10", "math/bits.deBruijn32tab", "math/bits.deBruijn64tab", "tipstaff/crc.halves"], apart := false, laid := [("math/bits.deBruijn32tab", laid_math_bits_deBruijn32tab), ("math/bits.deBruijn64tab", laid_math_bits_deBruijn64tab), ("internal/strconv.uint64pow10", laid_internal_strconv_uint64pow10), ("tipstaff/crc.halves", laid_tipstaff_crc_halves)], narrowed := true }
def PortJudgesUptoSaid : Prop := portJudgesUptoRow.holds Tryd.pinned (OpenSpec.upto portJudgesSpec)

/-- 'tipstafflaw24.PortSplits', WHERE WHAT IT READS IS OF BULK AT MOST 1048576: true; the input reads as it did. -/
def portSplitsUptoRow : OpenClaim := { program := "ytaipifjmkbcjjaadoor", sum := "747244f80d4ef56b28be385c650deb57338575578bceb489c6aecbfee21f17c1", func := "tipstaff/tipstafflaw24.PortSplits", spec := "portSplits", inPlace := ["internal/bytealg.IndexByteString"], unfollowed := true, recurses := true, named := ["internal/strconv.uint64pow10", "math/bits.deBruijn32tab", "math/bits.deBruijn64tab", "tipstaff/crc.halves"], apart := false, laid := [("math/bits.deBruijn32tab", laid_math_bits_deBruijn32tab), ("math/bits.deBruijn64tab", laid_math_bits_deBruijn64tab), ("internal/strconv.uint64pow10", laid_internal_strconv_uint64pow10), ("tipstaff/crc.halves", laid_tipstaff_crc_halves)], narrowed := true }
def PortSplitsUptoSaid : Prop := portSplitsUptoRow.holds Tryd.pinned (OpenSpec.upto portSplitsSpec)

/-- 'tipstafflaw24.PortSplit', WHERE WHAT IT READS IS OF BULK AT MOST 1048576: true; the input reads as it did. -/
def portSplitUptoRow : OpenClaim := { program := "ytaipifjmkbcjjaadoor", sum := "747244f80d4ef56b28be385c650deb57338575578bceb489c6aecbfee21f17c1", func := "tipstaff/tipstafflaw24.PortSplit", spec := "portSplit", inPlace := ["internal/bytealg.IndexByteString"], unfollowed := true, recurses := true, named := ["internal/strconv.uint64pow10", "math/bits.deBruijn32tab", "math/bits.deBruijn64tab", "tipstaff/crc.halves"], apart := false, laid := [("math/bits.deBruijn32tab", laid_math_bits_deBruijn32tab), ("math/bits.deBruijn64tab", laid_math_bits_deBruijn64tab), ("internal/strconv.uint64pow10", laid_internal_strconv_uint64pow10), ("tipstaff/crc.halves", laid_tipstaff_crc_halves)], narrowed := true }
def PortSplitUptoSaid : Prop := portSplitUptoRow.holds Tryd.pinned (OpenSpec.upto portSplitSpec)

/-- 'tipstafflaw24.PortKnown', WHERE WHAT IT READS IS OF BULK AT MOST 1048576: true; the input reads as it did. -/
def portKnownUptoRow : OpenClaim := { program := "ytaipifjmkbcjjaadoor", sum := "747244f80d4ef56b28be385c650deb57338575578bceb489c6aecbfee21f17c1", func := "tipstaff/tipstafflaw24.PortKnown", spec := "portKnown", inPlace := ["internal/bytealg.IndexByteString"], unfollowed := true, recurses := true, named := ["internal/strconv.uint64pow10", "math/bits.deBruijn32tab", "math/bits.deBruijn64tab", "tipstaff/crc.halves"], apart := false, laid := [("math/bits.deBruijn32tab", laid_math_bits_deBruijn32tab), ("math/bits.deBruijn64tab", laid_math_bits_deBruijn64tab), ("internal/strconv.uint64pow10", laid_internal_strconv_uint64pow10), ("tipstaff/crc.halves", laid_tipstaff_crc_halves)], narrowed := true }
def PortKnownUptoSaid : Prop := portKnownUptoRow.holds Tryd.pinned (OpenSpec.upto portKnownSpec)

/-- 'tipstafflaw06.WireReads', WHERE WHAT IT READS IS OF BULK AT MOST 1048576: true; the input reads as it did. -/
def wireReadsUptoRow : OpenClaim := { program := "ytaipifjmkbcjjaadoor", sum := "747244f80d4ef56b28be385c650deb57338575578bceb489c6aecbfee21f17c1", func := "tipstaff/tipstafflaw06.WireReads", spec := "wireReads", inPlace := ["internal/bytealg.IndexByteString", "internal/bytealg.IndexString"], unfollowed := true, recurses := true, named := ["internal/strconv.uint64pow10", "math/bits.deBruijn32tab", "math/bits.deBruijn64tab", "tipstaff/crc.halves", "internal/bytealg.MaxLen"], apart := false, laid := [("math/bits.deBruijn32tab", laid_math_bits_deBruijn32tab), ("math/bits.deBruijn64tab", laid_math_bits_deBruijn64tab), ("internal/strconv.uint64pow10", laid_internal_strconv_uint64pow10), ("tipstaff/crc.halves", laid_tipstaff_crc_halves)], narrowed := true }
def WireReadsUptoSaid : Prop := wireReadsUptoRow.holds Tryd.pinned (OpenSpec.upto wireReadsSpec)

/-- 'tipstafflaw06.WireScans', WHERE WHAT IT READS IS OF BULK AT MOST 1048576: true; the input reads as it did. -/
def wireScansUptoRow : OpenClaim := { program := "ytaipifjmkbcjjaadoor", sum := "747244f80d4ef56b28be385c650deb57338575578bceb489c6aecbfee21f17c1", func := "tipstaff/tipstafflaw06.WireScans", spec := "wireScans", inPlace := ["internal/bytealg.IndexByteString", "internal/bytealg.IndexString"], unfollowed := true, recurses := true, named := ["internal/strconv.uint64pow10", "math/bits.deBruijn32tab", "math/bits.deBruijn64tab", "tipstaff/crc.halves", "internal/bytealg.MaxLen"], apart := false, laid := [("math/bits.deBruijn32tab", laid_math_bits_deBruijn32tab), ("math/bits.deBruijn64tab", laid_math_bits_deBruijn64tab), ("internal/strconv.uint64pow10", laid_internal_strconv_uint64pow10), ("tipstaff/crc.halves", laid_tipstaff_crc_halves)], narrowed := true }
def WireScansUptoSaid : Prop := wireScansUptoRow.holds Tryd.pinned (OpenSpec.upto wireScansSpec)

/-- 'tipstafflaw06.WireBack', WHERE WHAT IT READS IS OF BULK AT MOST 1048576: true; the input reads as it did. -/
def wireBackUptoRow : OpenClaim := { program := "ytaipifjmkbcjjaadoor", sum := "747244f80d4ef56b28be385c650deb57338575578bceb489c6aecbfee21f17c1", func := "tipstaff/tipstafflaw06.WireBack", spec := "wireBack", inPlace := ["internal/bytealg.IndexByteString", "internal/bytealg.IndexString"], unfollowed := true, recurses := true, named := ["internal/strconv.uint64pow10", "math/bits.deBruijn32tab", "math/bits.deBruijn64tab", "tipstaff/crc.halves", "internal/bytealg.MaxLen"], apart := false, laid := [("math/bits.deBruijn32tab", laid_math_bits_deBruijn32tab), ("math/bits.deBruijn64tab", laid_math_bits_deBruijn64tab), ("internal/strconv.uint64pow10", laid_internal_strconv_uint64pow10), ("tipstaff/crc.halves", laid_tipstaff_crc_halves)], narrowed := true }
def WireBackUptoSaid : Prop := wireBackUptoRow.holds Tryd.pinned (OpenSpec.upto wireBackSpec)

/-- 'tipstafflaw06.WireSpoilt', WHERE WHAT IT READS IS OF BULK AT MOST 1048576: true; the input reads as it did. -/
def wireSpoiltUptoRow : OpenClaim := { program := "ytaipifjmkbcjjaadoor", sum := "747244f80d4ef56b28be385c650deb57338575578bceb489c6aecbfee21f17c1", func := "tipstaff/tipstafflaw06.WireSpoilt", spec := "wireSpoilt", inPlace := ["internal/bytealg.IndexByteString", "internal/bytealg.IndexString"], unfollowed := true, recurses := true, named := ["internal/strconv.uint64pow10", "math/bits.deBruijn32tab", "math/bits.deBruijn64tab", "tipstaff/crc.halves", "internal/bytealg.MaxLen"], apart := false, laid := [("math/bits.deBruijn32tab", laid_math_bits_deBruijn32tab), ("math/bits.deBruijn64tab", laid_math_bits_deBruijn64tab), ("internal/strconv.uint64pow10", laid_internal_strconv_uint64pow10), ("tipstaff/crc.halves", laid_tipstaff_crc_halves)], narrowed := true }
def WireSpoiltUptoSaid : Prop := wireSpoiltUptoRow.holds Tryd.pinned (OpenSpec.upto wireSpoiltSpec)

/-- 'tipstafflaw06.WireKnown', WHERE WHAT IT READS IS OF BULK AT MOST 1048576: true; the input reads as it did. -/
def wireKnownUptoRow : OpenClaim := { program := "ytaipifjmkbcjjaadoor", sum := "747244f80d4ef56b28be385c650deb57338575578bceb489c6aecbfee21f17c1", func := "tipstaff/tipstafflaw06.WireKnown", spec := "wireKnown", inPlace := ["internal/bytealg.IndexByteString", "internal/bytealg.IndexString"], unfollowed := true, recurses := true, named := ["internal/strconv.uint64pow10", "math/bits.deBruijn32tab", "math/bits.deBruijn64tab", "tipstaff/crc.halves", "internal/bytealg.MaxLen"], apart := false, laid := [("math/bits.deBruijn32tab", laid_math_bits_deBruijn32tab), ("math/bits.deBruijn64tab", laid_math_bits_deBruijn64tab), ("internal/strconv.uint64pow10", laid_internal_strconv_uint64pow10), ("tipstaff/crc.halves", laid_tipstaff_crc_halves)], narrowed := true }
def WireKnownUptoSaid : Prop := wireKnownUptoRow.holds Tryd.pinned (OpenSpec.upto wireKnownSpec)

/-- 'tipstafflaw06.WireSums', WHERE WHAT IT READS IS OF BULK AT MOST 1048576: true; the input reads as it did. -/
def wireSumsUptoRow : OpenClaim := { program := "ytaipifjmkbcjjaadoor", sum := "747244f80d4ef56b28be385c650deb57338575578bceb489c6aecbfee21f17c1", func := "tipstaff/tipstafflaw06.WireSums", spec := "wireSums", inPlace := ["internal/bytealg.IndexByteString", "internal/bytealg.IndexString"], unfollowed := true, recurses := true, named := ["internal/strconv.uint64pow10", "math/bits.deBruijn32tab", "math/bits.deBruijn64tab", "tipstaff/crc.halves", "internal/bytealg.MaxLen"], apart := false, laid := [("math/bits.deBruijn32tab", laid_math_bits_deBruijn32tab), ("math/bits.deBruijn64tab", laid_math_bits_deBruijn64tab), ("internal/strconv.uint64pow10", laid_internal_strconv_uint64pow10), ("tipstaff/crc.halves", laid_tipstaff_crc_halves)], narrowed := true }
def WireSumsUptoSaid : Prop := wireSumsUptoRow.holds Tryd.pinned (OpenSpec.upto wireSumsSpec)

/-- 'tipstafflaw06.WireFinds', WHERE WHAT IT READS IS OF BULK AT MOST 1048576: true; the input reads as it did. -/
def wireFindsUptoRow : OpenClaim := { program := "ytaipifjmkbcjjaadoor", sum := "747244f80d4ef56b28be385c650deb57338575578bceb489c6aecbfee21f17c1", func := "tipstaff/tipstafflaw06.WireFinds", spec := "wireFinds", inPlace := ["internal/bytealg.IndexByteString", "internal/bytealg.IndexString", "internal/abi.NoEscape"], unfollowed := true, recurses := true, named := ["internal/strconv.uint64pow10", "math/bits.deBruijn32tab", "math/bits.deBruijn64tab", "tipstaff/crc.halves", "internal/bytealg.MaxLen"], apart := false, laid := [("math/bits.deBruijn32tab", laid_math_bits_deBruijn32tab), ("math/bits.deBruijn64tab", laid_math_bits_deBruijn64tab), ("internal/strconv.uint64pow10", laid_internal_strconv_uint64pow10), ("tipstaff/crc.halves", laid_tipstaff_crc_halves)], narrowed := true }
def WireFindsUptoSaid : Prop := wireFindsUptoRow.holds Tryd.pinned (OpenSpec.upto wireFindsSpec)

/-- 'tipstafflaw06.WireWrites', WHERE WHAT IT READS IS OF BULK AT MOST 1048576: true; the input reads as it did. -/
def wireWritesUptoRow : OpenClaim := { program := "ytaipifjmkbcjjaadoor", sum := "747244f80d4ef56b28be385c650deb57338575578bceb489c6aecbfee21f17c1", func := "tipstaff/tipstafflaw06.WireWrites", spec := "wireWrites", inPlace := ["internal/bytealg.IndexByteString", "internal/bytealg.IndexString", "internal/abi.NoEscape"], unfollowed := true, recurses := true, named := ["internal/strconv.uint64pow10", "math/bits.deBruijn32tab", "math/bits.deBruijn64tab", "tipstaff/crc.halves", "internal/bytealg.MaxLen"], apart := false, laid := [("math/bits.deBruijn32tab", laid_math_bits_deBruijn32tab), ("math/bits.deBruijn64tab", laid_math_bits_deBruijn64tab), ("internal/strconv.uint64pow10", laid_internal_strconv_uint64pow10), ("tipstaff/crc.halves", laid_tipstaff_crc_halves)], narrowed := true }
def WireWritesUptoSaid : Prop := wireWritesUptoRow.holds Tryd.pinned (OpenSpec.upto wireWritesSpec)

end Rows
end Go.Proofs.YtaipifjmkbcjjaaDoor
