/-
  NARROWER THAN 'FOR EVERY INPUT', by the rows' own cells (each row's printed sentence says how): GateReplies: laid · SessionNews: laid · GateRequests: laid · GateParses: laid.
  DERIVED. THE GIVEN ROWS OF THIS SEAT. 4 by the template 'for every input the law returns true; each argument reads behind the call as it read before'; 0 by the template 'total and deterministic' (their statements: YtconkncoohcdfaaDoorTotals.lean).
  GIVEN WITH THE SEED: the statements are not yours to turn. If you find one false, say at which input.
  Laid BY PROGRAM, IN A SANDBOX (cutbox-rows.mjs): the forced cells as the released guide's own fill.sh prints them over the translation 9b7749aa2ec96ced… (all of the seat's roots in one cut). By AI agents, Wed Nov 11 2026. No macro, syntax, notation, axiom, sorry.
-/
import Derived.Test.YtconkncoohcdfaaDoorChecked
import GoSem.PinnedTables
import GoSem.Claim
import GoSem.ClaimJoined
import GoSem.ClaimMapViews
import Derived.JoinedTies
import Derived.KernelRfl
namespace Go.Proofs.YtconkncoohcdfaaDoor
/- THE CELL 'sum', in the pinned program and in every row, IS THE sha256 OF THE DUMP (.gsa) THAT YtconkncoohcdfaaDoorProg.lean LOADS. Nothing in Lean hashes anything: it is a label: what it is worth is what the hold of that sum in a sandbox is worth. -/
noncomputable def Tryd.pinned : Pinned := { name := "ytconkncoohcdfaadoor", sum := "9b7749aa2ec96cede747378f9a5a9d9a7d3864c877f8e99e6f70881e5c165ba9", checked := Tryd.checked }
namespace Rows
def none {H : Type} : Left H := { results := [], args := [] }

/- WHAT THE LISTED PACKAGE-LEVEL VARIABLES READ AS WHEN THE CALL BEGINS. Each datum BY PROGRAM (the guide's laid-datum.mjs) off the statement by which the dump's own 'gosem.cut.vars' lays the variable. In a bare row this is a premise. The card (YtconkncoohcdfaaDoorCards.lean) ties it to the program's text. -/
def laid_math_bits_deBruijn32tab {H : Type} : DataW H := .agg [.lit (.int .u8 0), .lit (.int .u8 1), .lit (.int .u8 28), .lit (.int .u8 2), .lit (.int .u8 29), .lit (.int .u8 14), .lit (.int .u8 24), .lit (.int .u8 3), .lit (.int .u8 30), .lit (.int .u8 22), .lit (.int .u8 20), .lit (.int .u8 15), .lit (.int .u8 25), .lit (.int .u8 17), .lit (.int .u8 4), .lit (.int .u8 8), .lit (.int .u8 31), .lit (.int .u8 27), .lit (.int .u8 13), .lit (.int .u8 23), .lit (.int .u8 21), .lit (.int .u8 19), .lit (.int .u8 16), .lit (.int .u8 7), .lit (.int .u8 26), .lit (.int .u8 12), .lit (.int .u8 18), .lit (.int .u8 6), .lit (.int .u8 11), .lit (.int .u8 5), .lit (.int .u8 10), .lit (.int .u8 9)]
def laid_math_bits_deBruijn64tab {H : Type} : DataW H := .agg [.lit (.int .u8 0), .lit (.int .u8 1), .lit (.int .u8 56), .lit (.int .u8 2), .lit (.int .u8 57), .lit (.int .u8 49), .lit (.int .u8 28), .lit (.int .u8 3), .lit (.int .u8 61), .lit (.int .u8 58), .lit (.int .u8 42), .lit (.int .u8 50), .lit (.int .u8 38), .lit (.int .u8 29), .lit (.int .u8 17), .lit (.int .u8 4), .lit (.int .u8 62), .lit (.int .u8 47), .lit (.int .u8 59), .lit (.int .u8 36), .lit (.int .u8 45), .lit (.int .u8 43), .lit (.int .u8 51), .lit (.int .u8 22), .lit (.int .u8 53), .lit (.int .u8 39), .lit (.int .u8 33), .lit (.int .u8 30), .lit (.int .u8 24), .lit (.int .u8 18), .lit (.int .u8 12), .lit (.int .u8 5), .lit (.int .u8 63), .lit (.int .u8 55), .lit (.int .u8 48), .lit (.int .u8 27), .lit (.int .u8 60), .lit (.int .u8 41), .lit (.int .u8 37), .lit (.int .u8 16), .lit (.int .u8 46), .lit (.int .u8 35), .lit (.int .u8 44), .lit (.int .u8 21), .lit (.int .u8 52), .lit (.int .u8 32), .lit (.int .u8 23), .lit (.int .u8 11), .lit (.int .u8 54), .lit (.int .u8 26), .lit (.int .u8 40), .lit (.int .u8 15), .lit (.int .u8 34), .lit (.int .u8 20), .lit (.int .u8 31), .lit (.int .u8 10), .lit (.int .u8 25), .lit (.int .u8 14), .lit (.int .u8 19), .lit (.int .u8 9), .lit (.int .u8 13), .lit (.int .u8 8), .lit (.int .u8 7), .lit (.int .u8 6)]
def laid_internal_strconv_uint64pow10 {H : Type} : DataW H := .agg [.lit (.int .u64 1), .lit (.int .u64 10), .lit (.int .u64 100), .lit (.int .u64 1000), .lit (.int .u64 10000), .lit (.int .u64 100000), .lit (.int .u64 1000000), .lit (.int .u64 10000000), .lit (.int .u64 100000000), .lit (.int .u64 1000000000), .lit (.int .u64 10000000000), .lit (.int .u64 100000000000), .lit (.int .u64 1000000000000), .lit (.int .u64 10000000000000), .lit (.int .u64 100000000000000), .lit (.int .u64 1000000000000000), .lit (.int .u64 10000000000000000), .lit (.int .u64 100000000000000000), .lit (.int .u64 1000000000000000000), .lit (.int .u64 10000000000000000000)]
def laid_tidemark_gate_names {H : Type} : DataW H := .agg [.agg [.lit (.int .i64 1), .lit (.string [97, 114, 103])], .agg [.lit (.int .i64 11), .lit (.string [101, 120, 104, 97, 117, 115, 116, 101, 100])], .agg [.lit (.int .i64 40), .lit (.string [116, 111, 107, 101, 110])], .agg [.lit (.int .i64 60), .lit (.string [102, 117, 108, 108])], .agg [.lit (.int .i64 90), .lit (.string [111, 108, 100])], .agg [.lit (.int .i64 100), .lit (.string [99, 111, 110, 102, 108, 105, 99, 116])], .agg [.lit (.int .i64 140), .lit (.string [98, 117, 115, 121])], .agg [.lit (.int .i64 141), .lit (.string [115, 116, 97, 108, 101])], .agg [.lit (.int .i64 142), .lit (.string [109, 97, 110, 121])], .agg [.lit (.int .i64 160), .lit (.string [111, 112, 101, 110])], .agg [.lit (.int .i64 161), .lit (.string [110, 111, 110, 101])], .agg [.lit (.int .i64 162), .lit (.string [119, 97, 105, 116])], .agg [.lit (.int .i64 163), .lit (.string [114, 101, 97, 100, 111, 110, 108, 121])], .agg [.lit (.int .i64 164), .lit (.string [97, 98, 111, 114, 116, 101, 100])], .agg [.lit (.int .i64 210), .lit (.string [114, 101, 113, 117, 101, 115, 116])]]
def laid_tidemark_route_names {H : Type} : DataW H := .agg [.lit (.string [115, 104, 97, 114, 100, 115]), .lit (.string [99, 108, 105, 101, 110, 116, 115]), .lit (.string [99, 97, 112, 97, 99, 105, 116, 121]), .lit (.string [112, 97, 114, 107]), .lit (.string [119, 105, 110, 100, 111, 119])]
def laid_unicode_utf8_acceptRanges {H : Type} : DataW H := .agg [.agg [.lit (.int .u8 128), .lit (.int .u8 191)], .agg [.lit (.int .u8 160), .lit (.int .u8 191)], .agg [.lit (.int .u8 128), .lit (.int .u8 159)], .agg [.lit (.int .u8 144), .lit (.int .u8 191)], .agg [.lit (.int .u8 128), .lit (.int .u8 143)], .agg [.lit (.int .u8 0), .lit (.int .u8 0)], .agg [.lit (.int .u8 0), .lit (.int .u8 0)], .agg [.lit (.int .u8 0), .lit (.int .u8 0)], .agg [.lit (.int .u8 0), .lit (.int .u8 0)], .agg [.lit (.int .u8 0), .lit (.int .u8 0)], .agg [.lit (.int .u8 0), .lit (.int .u8 0)], .agg [.lit (.int .u8 0), .lit (.int .u8 0)], .agg [.lit (.int .u8 0), .lit (.int .u8 0)], .agg [.lit (.int .u8 0), .lit (.int .u8 0)], .agg [.lit (.int .u8 0), .lit (.int .u8 0)], .agg [.lit (.int .u8 0), .lit (.int .u8 0)]]
def laid_strconv_ErrRange {H : Type} : DataW H := .iface "*errors.errorString" (.ptr (.agg [.lit (.string [118, 97, 108, 117, 101, 32, 111, 117, 116, 32, 111, 102, 32, 114, 97, 110, 103, 101])]))
def laid_strconv_ErrSyntax {H : Type} : DataW H := .iface "*errors.errorString" (.ptr (.agg [.lit (.string [105, 110, 118, 97, 108, 105, 100, 32, 115, 121, 110, 116, 97, 120])]))
/-- One of Go's own tables, pinned by name: the form's constant. -/
def laid_unicode_utf8_first : DataW Unit := Go.Pinned.utf8First

/-- 'tidemarklaw21.GateReplies': WHATEVER THE INPUT: true; the input reads as it did. -/
def gateRepliesSpec : ChangeSpec := { name := "gateReplies", fn := fun _ => fun
  | [d] => { results := [.lit (.bool true)], args := [d] }
  | _ => none }
def gateRepliesRow : OpenClaim := { program := "ytconkncoohcdfaadoor", sum := "9b7749aa2ec96cede747378f9a5a9d9a7d3864c877f8e99e6f70881e5c165ba9", func := "tidemark/tidemarklaw21.GateReplies", spec := "gateReplies", inPlace := ["internal/abi.NoEscape", "internal/bytealg.MakeNoZero"], named := ["tidemark/gate.names", "internal/strconv.uint64pow10", "math/bits.deBruijn32tab", "math/bits.deBruijn64tab"], apart := false, laid := [("math/bits.deBruijn32tab", laid_math_bits_deBruijn32tab), ("math/bits.deBruijn64tab", laid_math_bits_deBruijn64tab), ("internal/strconv.uint64pow10", laid_internal_strconv_uint64pow10), ("tidemark/gate.names", laid_tidemark_gate_names)] }
def GateRepliesSaid : Prop := gateRepliesRow.holds Tryd.pinned (OpenSpec.ofChange gateRepliesSpec)

/-- ITS FALSE NEIGHBOUR: 'it returns false'. Refute it at one input. -/
def gateRepliesWrong : ChangeSpec := { name := "gateReplies", fn := fun _ => fun
  | [d] => { results := [.lit (.bool false)], args := [d] }
  | _ => none }
def GateRepliesWrongFalsely : Prop := gateRepliesRow.holds Tryd.pinned (OpenSpec.ofChange gateRepliesWrong)

/-- 'tidemarklaw16.SessionNews': WHATEVER THE INPUT: true; the input reads as it did. -/
def sessionNewsSpec : ChangeSpec := { name := "sessionNews", fn := fun _ => fun
  | [d] => { results := [.lit (.bool true)], args := [d] }
  | _ => none }
def sessionNewsRow : OpenClaim := { program := "ytconkncoohcdfaadoor", sum := "9b7749aa2ec96cede747378f9a5a9d9a7d3864c877f8e99e6f70881e5c165ba9", func := "tidemark/tidemarklaw16.SessionNews", spec := "sessionNews", inPlace := ["internal/abi.NoEscape"], unfollowed := true, recurses := true, named := ["tidemark/route.names", "internal/strconv.uint64pow10", "math/bits.deBruijn32tab", "math/bits.deBruijn64tab"], apart := false, laid := [("math/bits.deBruijn32tab", laid_math_bits_deBruijn32tab), ("math/bits.deBruijn64tab", laid_math_bits_deBruijn64tab), ("internal/strconv.uint64pow10", laid_internal_strconv_uint64pow10), ("tidemark/route.names", laid_tidemark_route_names)] }
def SessionNewsSaid : Prop := sessionNewsRow.holds Tryd.pinned (OpenSpec.ofChange sessionNewsSpec)

/-- ITS FALSE NEIGHBOUR: 'it returns false'. Refute it at one input. -/
def sessionNewsWrong : ChangeSpec := { name := "sessionNews", fn := fun _ => fun
  | [d] => { results := [.lit (.bool false)], args := [d] }
  | _ => none }
def SessionNewsWrongFalsely : Prop := sessionNewsRow.holds Tryd.pinned (OpenSpec.ofChange sessionNewsWrong)

/-- 'tidemarklaw21.GateRequests': WHATEVER THE INPUT: true; the input reads as it did. -/
def gateRequestsSpec : ChangeSpec := { name := "gateRequests", fn := fun _ => fun
  | [d] => { results := [.lit (.bool true)], args := [d] }
  | _ => none }
def gateRequestsRow : OpenClaim := { program := "ytconkncoohcdfaadoor", sum := "9b7749aa2ec96cede747378f9a5a9d9a7d3864c877f8e99e6f70881e5c165ba9", func := "tidemark/tidemarklaw21.GateRequests", spec := "gateRequests", inPlace := ["internal/abi.NoEscape", "internal/bytealg.CountString", "internal/bytealg.IndexByteString", "internal/bytealg.IndexString"], named := ["internal/strconv.uint64pow10", "math/bits.deBruijn32tab", "math/bits.deBruijn64tab", "unicode/utf8.first", "unicode/utf8.acceptRanges", "internal/bytealg.MaxLen", "strconv.ErrSyntax", "strconv.ErrRange"], apart := false, laid := [("math/bits.deBruijn32tab", laid_math_bits_deBruijn32tab), ("math/bits.deBruijn64tab", laid_math_bits_deBruijn64tab), ("internal/strconv.uint64pow10", laid_internal_strconv_uint64pow10), ("unicode/utf8.acceptRanges", laid_unicode_utf8_acceptRanges), ("strconv.ErrRange", laid_strconv_ErrRange), ("strconv.ErrSyntax", laid_strconv_ErrSyntax), ("unicode/utf8.first", laid_unicode_utf8_first)] }
def GateRequestsSaid : Prop := gateRequestsRow.holds Tryd.pinned (OpenSpec.ofChange gateRequestsSpec)

/-- ITS FALSE NEIGHBOUR: 'it returns false'. Refute it at one input. -/
def gateRequestsWrong : ChangeSpec := { name := "gateRequests", fn := fun _ => fun
  | [d] => { results := [.lit (.bool false)], args := [d] }
  | _ => none }
def GateRequestsWrongFalsely : Prop := gateRequestsRow.holds Tryd.pinned (OpenSpec.ofChange gateRequestsWrong)

/-- 'tidemarklaw21.GateParses': WHATEVER THE INPUT: true; the input reads as it did. -/
def gateParsesSpec : ChangeSpec := { name := "gateParses", fn := fun _ => fun
  | [d] => { results := [.lit (.bool true)], args := [d] }
  | _ => none }
def gateParsesRow : OpenClaim := { program := "ytconkncoohcdfaadoor", sum := "9b7749aa2ec96cede747378f9a5a9d9a7d3864c877f8e99e6f70881e5c165ba9", func := "tidemark/tidemarklaw21.GateParses", spec := "gateParses", inPlace := ["internal/bytealg.CountString", "internal/bytealg.IndexByteString", "internal/bytealg.IndexString", "internal/abi.NoEscape"], named := ["unicode/utf8.first", "unicode/utf8.acceptRanges", "internal/bytealg.MaxLen", "strconv.ErrSyntax", "strconv.ErrRange", "internal/strconv.uint64pow10", "math/bits.deBruijn32tab", "math/bits.deBruijn64tab"], apart := false, laid := [("math/bits.deBruijn32tab", laid_math_bits_deBruijn32tab), ("math/bits.deBruijn64tab", laid_math_bits_deBruijn64tab), ("internal/strconv.uint64pow10", laid_internal_strconv_uint64pow10), ("unicode/utf8.acceptRanges", laid_unicode_utf8_acceptRanges), ("strconv.ErrRange", laid_strconv_ErrRange), ("strconv.ErrSyntax", laid_strconv_ErrSyntax), ("unicode/utf8.first", laid_unicode_utf8_first)] }
def GateParsesSaid : Prop := gateParsesRow.holds Tryd.pinned (OpenSpec.ofChange gateParsesSpec)

/-- ITS FALSE NEIGHBOUR: 'it returns false'. Refute it at one input. -/
def gateParsesWrong : ChangeSpec := { name := "gateParses", fn := fun _ => fun
  | [d] => { results := [.lit (.bool false)], args := [d] }
  | _ => none }
def GateParsesWrongFalsely : Prop := gateParsesRow.holds Tryd.pinned (OpenSpec.ofChange gateParsesWrong)

/- THE SECOND FORM. 'bulk': how many values and letters a reading holds, each counted each time it is reached (what is shared counts as often as it is met; a slice's spare places count too). A statement '..UptoSaid' is the law's where the arguments, and the package variables that the reading takes, are together of bulk at most 1048576: NARROWER than '..Said'. Prove '..Said' where nothing that the law and all that it calls make is longer than what came in: it says more and counts as full. Else prove '..UptoSaid'. A law counts once. -/
mutual
def uptoBulk {H : Type} : DataW H → Nat
  | .lit (.string bytes) => bytes.length + 1
  | .lit _ => 1
  | .nil => 1
  | .ptr d => uptoBulk d + 1
  | .slice elems spare => uptoBulkAll elems + uptoBulkAll spare + 1
  | .agg parts => uptoBulkAll parts + 1
  | .iface _ d => uptoBulk d + 1
  | .map entries => uptoBulkEntries entries + 1
  | .held _ => 1
def uptoBulkAll {H : Type} : List (DataW H) → Nat
  | [] => 0
  | d :: r => uptoBulk d + uptoBulkAll r
def uptoBulkEntries {H : Type} : List (Lit × DataW H) → Nat
  | [] => 0
  | x :: r => uptoBulkEntry x + uptoBulkEntries r
def uptoBulkEntry {H : Type} : Lit × DataW H → Nat
  | (.string bytes, d) => bytes.length + uptoBulk d + 1
  | (_, d) => uptoBulk d + 1
 end
def uptoSmall : (H : Type) → List (DataW H) → Bool := fun _ ds => decide (uptoBulkAll ds ≤ 1048576)
def OpenSpec.upto (s : _root_.Go.ChangeSpec) : _root_.Go.OpenSpec := { _root_.Go.OpenSpec.ofChange s with cond := some uptoSmall }

/-- 'tidemarklaw21.GateReplies', WHERE WHAT IT READS IS OF BULK AT MOST 1048576: true; the input reads as it did. -/
def gateRepliesUptoRow : OpenClaim := { program := "ytconkncoohcdfaadoor", sum := "9b7749aa2ec96cede747378f9a5a9d9a7d3864c877f8e99e6f70881e5c165ba9", func := "tidemark/tidemarklaw21.GateReplies", spec := "gateReplies", inPlace := ["internal/abi.NoEscape", "internal/bytealg.MakeNoZero"], named := ["tidemark/gate.names", "internal/strconv.uint64pow10", "math/bits.deBruijn32tab", "math/bits.deBruijn64tab"], apart := false, laid := [("math/bits.deBruijn32tab", laid_math_bits_deBruijn32tab), ("math/bits.deBruijn64tab", laid_math_bits_deBruijn64tab), ("internal/strconv.uint64pow10", laid_internal_strconv_uint64pow10), ("tidemark/gate.names", laid_tidemark_gate_names)], narrowed := true }
def GateRepliesUptoSaid : Prop := gateRepliesUptoRow.holds Tryd.pinned (OpenSpec.upto gateRepliesSpec)

/-- 'tidemarklaw16.SessionNews', WHERE WHAT IT READS IS OF BULK AT MOST 1048576: true; the input reads as it did. -/
def sessionNewsUptoRow : OpenClaim := { program := "ytconkncoohcdfaadoor", sum := "9b7749aa2ec96cede747378f9a5a9d9a7d3864c877f8e99e6f70881e5c165ba9", func := "tidemark/tidemarklaw16.SessionNews", spec := "sessionNews", inPlace := ["internal/abi.NoEscape"], unfollowed := true, recurses := true, named := ["tidemark/route.names", "internal/strconv.uint64pow10", "math/bits.deBruijn32tab", "math/bits.deBruijn64tab"], apart := false, laid := [("math/bits.deBruijn32tab", laid_math_bits_deBruijn32tab), ("math/bits.deBruijn64tab", laid_math_bits_deBruijn64tab), ("internal/strconv.uint64pow10", laid_internal_strconv_uint64pow10), ("tidemark/route.names", laid_tidemark_route_names)], narrowed := true }
def SessionNewsUptoSaid : Prop := sessionNewsUptoRow.holds Tryd.pinned (OpenSpec.upto sessionNewsSpec)

/-- 'tidemarklaw21.GateRequests', WHERE WHAT IT READS IS OF BULK AT MOST 1048576: true; the input reads as it did. -/
def gateRequestsUptoRow : OpenClaim := { program := "ytconkncoohcdfaadoor", sum := "9b7749aa2ec96cede747378f9a5a9d9a7d3864c877f8e99e6f70881e5c165ba9", func := "tidemark/tidemarklaw21.GateRequests", spec := "gateRequests", inPlace := ["internal/abi.NoEscape", "internal/bytealg.CountString", "internal/bytealg.IndexByteString", "internal/bytealg.IndexString"], named := ["internal/strconv.uint64pow10", "math/bits.deBruijn32tab", "math/bits.deBruijn64tab", "unicode/utf8.first", "unicode/utf8.acceptRanges", "internal/bytealg.MaxLen", "strconv.ErrSyntax", "strconv.ErrRange"], apart := false, laid := [("math/bits.deBruijn32tab", laid_math_bits_deBruijn32tab), ("math/bits.deBruijn64tab", laid_math_bits_deBruijn64tab), ("internal/strconv.uint64pow10", laid_internal_strconv_uint64pow10), ("unicode/utf8.acceptRanges", laid_unicode_utf8_acceptRanges), ("strconv.ErrRange", laid_strconv_ErrRange), ("strconv.ErrSyntax", laid_strconv_ErrSyntax), ("unicode/utf8.first", laid_unicode_utf8_first)], narrowed := true }
def GateRequestsUptoSaid : Prop := gateRequestsUptoRow.holds Tryd.pinned (OpenSpec.upto gateRequestsSpec)

/-- 'tidemarklaw21.GateParses', WHERE WHAT IT READS IS OF BULK AT MOST 1048576: true; the input reads as it did. -/
def gateParsesUptoRow : OpenClaim := { program := "ytconkncoohcdfaadoor", sum := "9b7749aa2ec96cede747378f9a5a9d9a7d3864c877f8e99e6f70881e5c165ba9", func := "tidemark/tidemarklaw21.GateParses", spec := "gateParses", inPlace := ["internal/bytealg.CountString", "internal/bytealg.IndexByteString", "internal/bytealg.IndexString", "internal/abi.NoEscape"], named := ["unicode/utf8.first", "unicode/utf8.acceptRanges", "internal/bytealg.MaxLen", "strconv.ErrSyntax", "strconv.ErrRange", "internal/strconv.uint64pow10", "math/bits.deBruijn32tab", "math/bits.deBruijn64tab"], apart := false, laid := [("math/bits.deBruijn32tab", laid_math_bits_deBruijn32tab), ("math/bits.deBruijn64tab", laid_math_bits_deBruijn64tab), ("internal/strconv.uint64pow10", laid_internal_strconv_uint64pow10), ("unicode/utf8.acceptRanges", laid_unicode_utf8_acceptRanges), ("strconv.ErrRange", laid_strconv_ErrRange), ("strconv.ErrSyntax", laid_strconv_ErrSyntax), ("unicode/utf8.first", laid_unicode_utf8_first)], narrowed := true }
def GateParsesUptoSaid : Prop := gateParsesUptoRow.holds Tryd.pinned (OpenSpec.upto gateParsesSpec)

end Rows
end Go.Proofs.YtconkncoohcdfaaDoor
