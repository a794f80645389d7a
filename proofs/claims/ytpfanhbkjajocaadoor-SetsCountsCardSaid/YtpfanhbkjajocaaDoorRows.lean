/-
  NARROWER THAN 'FOR EVERY INPUT', by the rows' own cells (each row's printed sentence says how): SetsOnes: laid · SetsWalks: laid · SetsLeast: laid · WordTexts: laid · SetsLists: laid · WordBack: laid · WordLongest: laid · WordCodes: laid · SetsBack: laid · SetsCounts: laid.
  DERIVED. THE GIVEN ROWS OF THIS SEAT. 10 by the template 'for every input the law returns true; each argument reads behind the call as it read before'; 0 by the template 'total and deterministic' (their statements: YtpfanhbkjajocaaDoorTotals.lean).
  GIVEN WITH THE SEED: the statements are not yours to turn. If you find one false, say at which input.
  Laid BY PROGRAM, IN A SANDBOX (cutbox-rows.mjs): the forced cells as the released guide's own fill.sh prints them over the translation cbb51c5ee026f09e… (all of the seat's roots in one cut). By AI agents, Wed Nov 11 2026. No macro, syntax, notation, axiom, sorry.
-/
import Derived.Test.YtpfanhbkjajocaaDoorChecked
import GoSem.Claim
import GoSem.ClaimJoined
import GoSem.ClaimMapViews
import Derived.JoinedTies
import Derived.KernelRfl
namespace Go.Proofs.YtpfanhbkjajocaaDoor
/- THE CELL 'sum', in the pinned program and in every row, IS THE sha256 OF THE DUMP (.gsa) THAT YtpfanhbkjajocaaDoorProg.lean LOADS. Nothing in Lean hashes anything: it is a label: what it is worth is what the hold of that sum in a sandbox is worth. -/
noncomputable def Tryd.pinned : Pinned := { name := "ytpfanhbkjajocaadoor", sum := "cbb51c5ee026f09e9d554bc98479a00132be2a91af56cb760a927e3849c26467", checked := Tryd.checked }
namespace Rows
def none {H : Type} : Left H := { results := [], args := [] }

/- WHAT THE LISTED PACKAGE-LEVEL VARIABLES READ AS WHEN THE CALL BEGINS. Each datum BY PROGRAM (the guide's laid-datum.mjs) off the statement by which the dump's own 'gosem.cut.vars' lays the variable. In a bare row this is a premise. The card (YtpfanhbkjajocaaDoorCards.lean) ties it to the program's text. -/
def laid_math_bits_deBruijn64tab {H : Type} : DataW H := .agg [.lit (.int .u8 0), .lit (.int .u8 1), .lit (.int .u8 56), .lit (.int .u8 2), .lit (.int .u8 57), .lit (.int .u8 49), .lit (.int .u8 28), .lit (.int .u8 3), .lit (.int .u8 61), .lit (.int .u8 58), .lit (.int .u8 42), .lit (.int .u8 50), .lit (.int .u8 38), .lit (.int .u8 29), .lit (.int .u8 17), .lit (.int .u8 4), .lit (.int .u8 62), .lit (.int .u8 47), .lit (.int .u8 59), .lit (.int .u8 36), .lit (.int .u8 45), .lit (.int .u8 43), .lit (.int .u8 51), .lit (.int .u8 22), .lit (.int .u8 53), .lit (.int .u8 39), .lit (.int .u8 33), .lit (.int .u8 30), .lit (.int .u8 24), .lit (.int .u8 18), .lit (.int .u8 12), .lit (.int .u8 5), .lit (.int .u8 63), .lit (.int .u8 55), .lit (.int .u8 48), .lit (.int .u8 27), .lit (.int .u8 60), .lit (.int .u8 41), .lit (.int .u8 37), .lit (.int .u8 16), .lit (.int .u8 46), .lit (.int .u8 35), .lit (.int .u8 44), .lit (.int .u8 21), .lit (.int .u8 52), .lit (.int .u8 32), .lit (.int .u8 23), .lit (.int .u8 11), .lit (.int .u8 54), .lit (.int .u8 26), .lit (.int .u8 40), .lit (.int .u8 15), .lit (.int .u8 34), .lit (.int .u8 20), .lit (.int .u8 31), .lit (.int .u8 10), .lit (.int .u8 25), .lit (.int .u8 14), .lit (.int .u8 19), .lit (.int .u8 9), .lit (.int .u8 13), .lit (.int .u8 8), .lit (.int .u8 7), .lit (.int .u8 6)]
def laid_math_bits_deBruijn32tab {H : Type} : DataW H := .agg [.lit (.int .u8 0), .lit (.int .u8 1), .lit (.int .u8 28), .lit (.int .u8 2), .lit (.int .u8 29), .lit (.int .u8 14), .lit (.int .u8 24), .lit (.int .u8 3), .lit (.int .u8 30), .lit (.int .u8 22), .lit (.int .u8 20), .lit (.int .u8 15), .lit (.int .u8 25), .lit (.int .u8 17), .lit (.int .u8 4), .lit (.int .u8 8), .lit (.int .u8 31), .lit (.int .u8 27), .lit (.int .u8 13), .lit (.int .u8 23), .lit (.int .u8 21), .lit (.int .u8 19), .lit (.int .u8 16), .lit (.int .u8 7), .lit (.int .u8 26), .lit (.int .u8 12), .lit (.int .u8 18), .lit (.int .u8 6), .lit (.int .u8 11), .lit (.int .u8 5), .lit (.int .u8 10), .lit (.int .u8 9)]
def laid_internal_strconv_uint64pow10 {H : Type} : DataW H := .agg [.lit (.int .u64 1), .lit (.int .u64 10), .lit (.int .u64 100), .lit (.int .u64 1000), .lit (.int .u64 10000), .lit (.int .u64 100000), .lit (.int .u64 1000000), .lit (.int .u64 10000000), .lit (.int .u64 100000000), .lit (.int .u64 1000000000), .lit (.int .u64 10000000000), .lit (.int .u64 100000000000), .lit (.int .u64 1000000000000), .lit (.int .u64 10000000000000), .lit (.int .u64 100000000000000), .lit (.int .u64 1000000000000000), .lit (.int .u64 10000000000000000), .lit (.int .u64 100000000000000000), .lit (.int .u64 1000000000000000000), .lit (.int .u64 10000000000000000000)]

/-- 'weirlaw01.SetsOnes': WHATEVER THE INPUT: true; the input reads as it did. -/
def setsOnesSpec : ChangeSpec := { name := "setsOnes", fn := fun _ => fun
  | [d1, d2] => { results := [.lit (.bool true)], args := [d1, d2] }
  | _ => none }
def setsOnesRow : OpenClaim := { program := "ytpfanhbkjajocaadoor", sum := "cbb51c5ee026f09e9d554bc98479a00132be2a91af56cb760a927e3849c26467", func := "weir/weirlaw01.SetsOnes", spec := "setsOnes", unfollowed := true, recurses := true, named := ["math/bits.deBruijn64tab"], apart := false, laid := [("math/bits.deBruijn64tab", laid_math_bits_deBruijn64tab)] }
def SetsOnesSaid : Prop := setsOnesRow.holds Tryd.pinned (OpenSpec.ofChange setsOnesSpec)

/-- ITS FALSE NEIGHBOUR: 'it returns false'. Refute it at one input. -/
def setsOnesWrong : ChangeSpec := { name := "setsOnes", fn := fun _ => fun
  | [d1, d2] => { results := [.lit (.bool false)], args := [d1, d2] }
  | _ => none }
def SetsOnesWrongFalsely : Prop := setsOnesRow.holds Tryd.pinned (OpenSpec.ofChange setsOnesWrong)

/-- 'weirlaw01.SetsWalks': WHATEVER THE INPUT: true; the input reads as it did. -/
def setsWalksSpec : ChangeSpec := { name := "setsWalks", fn := fun _ => fun
  | [d1, d2, d3, d4] => { results := [.lit (.bool true)], args := [d1, d2, d3, d4] }
  | _ => none }
def setsWalksRow : OpenClaim := { program := "ytpfanhbkjajocaadoor", sum := "cbb51c5ee026f09e9d554bc98479a00132be2a91af56cb760a927e3849c26467", func := "weir/weirlaw01.SetsWalks", spec := "setsWalks", unfollowed := true, recurses := true, named := ["math/bits.deBruijn64tab"], apart := false, laid := [("math/bits.deBruijn64tab", laid_math_bits_deBruijn64tab)] }
def SetsWalksSaid : Prop := setsWalksRow.holds Tryd.pinned (OpenSpec.ofChange setsWalksSpec)

/-- ITS FALSE NEIGHBOUR: 'it returns false'. Refute it at one input. -/
def setsWalksWrong : ChangeSpec := { name := "setsWalks", fn := fun _ => fun
  | [d1, d2, d3, d4] => { results := [.lit (.bool false)], args := [d1, d2, d3, d4] }
  | _ => none }
def SetsWalksWrongFalsely : Prop := setsWalksRow.holds Tryd.pinned (OpenSpec.ofChange setsWalksWrong)

/-- 'weirlaw01.SetsLeast': WHATEVER THE INPUT: true; the input reads as it did. -/
def setsLeastSpec : ChangeSpec := { name := "setsLeast", fn := fun _ => fun
  | [d1, d2, d3] => { results := [.lit (.bool true)], args := [d1, d2, d3] }
  | _ => none }
def setsLeastRow : OpenClaim := { program := "ytpfanhbkjajocaadoor", sum := "cbb51c5ee026f09e9d554bc98479a00132be2a91af56cb760a927e3849c26467", func := "weir/weirlaw01.SetsLeast", spec := "setsLeast", unfollowed := true, recurses := true, named := ["math/bits.deBruijn64tab"], apart := false, laid := [("math/bits.deBruijn64tab", laid_math_bits_deBruijn64tab)] }
def SetsLeastSaid : Prop := setsLeastRow.holds Tryd.pinned (OpenSpec.ofChange setsLeastSpec)

/-- ITS FALSE NEIGHBOUR: 'it returns false'. Refute it at one input. -/
def setsLeastWrong : ChangeSpec := { name := "setsLeast", fn := fun _ => fun
  | [d1, d2, d3] => { results := [.lit (.bool false)], args := [d1, d2, d3] }
  | _ => none }
def SetsLeastWrongFalsely : Prop := setsLeastRow.holds Tryd.pinned (OpenSpec.ofChange setsLeastWrong)

/-- 'weirlaw04.WordTexts': WHATEVER THE INPUT: true; the input reads as it did. -/
def wordTextsSpec : ChangeSpec := { name := "wordTexts", fn := fun _ => fun
  | [d] => { results := [.lit (.bool true)], args := [d] }
  | _ => none }
def wordTextsRow : OpenClaim := { program := "ytpfanhbkjajocaadoor", sum := "cbb51c5ee026f09e9d554bc98479a00132be2a91af56cb760a927e3849c26467", func := "weir/weirlaw04.WordTexts", spec := "wordTexts", named := ["internal/strconv.uint64pow10", "math/bits.deBruijn32tab", "math/bits.deBruijn64tab"], apart := false, laid := [("math/bits.deBruijn32tab", laid_math_bits_deBruijn32tab), ("math/bits.deBruijn64tab", laid_math_bits_deBruijn64tab), ("internal/strconv.uint64pow10", laid_internal_strconv_uint64pow10)] }
def WordTextsSaid : Prop := wordTextsRow.holds Tryd.pinned (OpenSpec.ofChange wordTextsSpec)

/-- ITS FALSE NEIGHBOUR: 'it returns false'. Refute it at one input. -/
def wordTextsWrong : ChangeSpec := { name := "wordTexts", fn := fun _ => fun
  | [d] => { results := [.lit (.bool false)], args := [d] }
  | _ => none }
def WordTextsWrongFalsely : Prop := wordTextsRow.holds Tryd.pinned (OpenSpec.ofChange wordTextsWrong)

/-- 'weirlaw01.SetsLists': WHATEVER THE INPUT: true; the input reads as it did. -/
def setsListsSpec : ChangeSpec := { name := "setsLists", fn := fun _ => fun
  | [d1, d2] => { results := [.lit (.bool true)], args := [d1, d2] }
  | _ => none }
def setsListsRow : OpenClaim := { program := "ytpfanhbkjajocaadoor", sum := "cbb51c5ee026f09e9d554bc98479a00132be2a91af56cb760a927e3849c26467", func := "weir/weirlaw01.SetsLists", spec := "setsLists", inPlace := ["internal/abi.NoEscape", "internal/bytealg.MakeNoZero"], unfollowed := true, recurses := true, named := ["math/bits.deBruijn64tab", "internal/strconv.uint64pow10", "math/bits.deBruijn32tab"], apart := false, laid := [("math/bits.deBruijn32tab", laid_math_bits_deBruijn32tab), ("math/bits.deBruijn64tab", laid_math_bits_deBruijn64tab), ("internal/strconv.uint64pow10", laid_internal_strconv_uint64pow10)] }
def SetsListsSaid : Prop := setsListsRow.holds Tryd.pinned (OpenSpec.ofChange setsListsSpec)

/-- ITS FALSE NEIGHBOUR: 'it returns false'. Refute it at one input. -/
def setsListsWrong : ChangeSpec := { name := "setsLists", fn := fun _ => fun
  | [d1, d2] => { results := [.lit (.bool false)], args := [d1, d2] }
  | _ => none }
def SetsListsWrongFalsely : Prop := setsListsRow.holds Tryd.pinned (OpenSpec.ofChange setsListsWrong)

/-- 'weirlaw04.WordBack': WHATEVER THE INPUT: true; the input reads as it did. -/
def wordBackSpec : ChangeSpec := { name := "wordBack", fn := fun _ => fun
  | [d1, d2] => { results := [.lit (.bool true)], args := [d1, d2] }
  | _ => none }
def wordBackRow : OpenClaim := { program := "ytpfanhbkjajocaadoor", sum := "cbb51c5ee026f09e9d554bc98479a00132be2a91af56cb760a927e3849c26467", func := "weir/weirlaw04.WordBack", spec := "wordBack", inPlace := ["math/bits.Add64"], named := ["internal/strconv.uint64pow10", "math/bits.deBruijn32tab", "math/bits.deBruijn64tab"], apart := false, laid := [("math/bits.deBruijn32tab", laid_math_bits_deBruijn32tab), ("math/bits.deBruijn64tab", laid_math_bits_deBruijn64tab), ("internal/strconv.uint64pow10", laid_internal_strconv_uint64pow10)] }
def WordBackSaid : Prop := wordBackRow.holds Tryd.pinned (OpenSpec.ofChange wordBackSpec)

/-- ITS FALSE NEIGHBOUR: 'it returns false'. Refute it at one input. -/
def wordBackWrong : ChangeSpec := { name := "wordBack", fn := fun _ => fun
  | [d1, d2] => { results := [.lit (.bool false)], args := [d1, d2] }
  | _ => none }
def WordBackWrongFalsely : Prop := wordBackRow.holds Tryd.pinned (OpenSpec.ofChange wordBackWrong)

/-- 'weirlaw04.WordLongest': WHATEVER THE INPUT: true; the input reads as it did. -/
def wordLongestSpec : ChangeSpec := { name := "wordLongest", fn := fun _ => fun
  | [d1, d2] => { results := [.lit (.bool true)], args := [d1, d2] }
  | _ => none }
def wordLongestRow : OpenClaim := { program := "ytpfanhbkjajocaadoor", sum := "cbb51c5ee026f09e9d554bc98479a00132be2a91af56cb760a927e3849c26467", func := "weir/weirlaw04.WordLongest", spec := "wordLongest", inPlace := ["math/bits.Add64"], named := ["internal/strconv.uint64pow10", "math/bits.deBruijn32tab", "math/bits.deBruijn64tab"], apart := false, laid := [("math/bits.deBruijn32tab", laid_math_bits_deBruijn32tab), ("math/bits.deBruijn64tab", laid_math_bits_deBruijn64tab), ("internal/strconv.uint64pow10", laid_internal_strconv_uint64pow10)] }
def WordLongestSaid : Prop := wordLongestRow.holds Tryd.pinned (OpenSpec.ofChange wordLongestSpec)

/-- ITS FALSE NEIGHBOUR: 'it returns false'. Refute it at one input. -/
def wordLongestWrong : ChangeSpec := { name := "wordLongest", fn := fun _ => fun
  | [d1, d2] => { results := [.lit (.bool false)], args := [d1, d2] }
  | _ => none }
def WordLongestWrongFalsely : Prop := wordLongestRow.holds Tryd.pinned (OpenSpec.ofChange wordLongestWrong)

/-- 'weirlaw04.WordCodes': WHATEVER THE INPUT: true; the input reads as it did. -/
def wordCodesSpec : ChangeSpec := { name := "wordCodes", fn := fun _ => fun
  | [d1, d2, d3] => { results := [.lit (.bool true)], args := [d1, d2, d3] }
  | _ => none }
def wordCodesRow : OpenClaim := { program := "ytpfanhbkjajocaadoor", sum := "cbb51c5ee026f09e9d554bc98479a00132be2a91af56cb760a927e3849c26467", func := "weir/weirlaw04.WordCodes", spec := "wordCodes", inPlace := ["math/bits.Add64"], named := ["internal/strconv.uint64pow10", "math/bits.deBruijn32tab", "math/bits.deBruijn64tab"], apart := false, laid := [("math/bits.deBruijn32tab", laid_math_bits_deBruijn32tab), ("math/bits.deBruijn64tab", laid_math_bits_deBruijn64tab), ("internal/strconv.uint64pow10", laid_internal_strconv_uint64pow10)] }
def WordCodesSaid : Prop := wordCodesRow.holds Tryd.pinned (OpenSpec.ofChange wordCodesSpec)

/-- ITS FALSE NEIGHBOUR: 'it returns false'. Refute it at one input. -/
def wordCodesWrong : ChangeSpec := { name := "wordCodes", fn := fun _ => fun
  | [d1, d2, d3] => { results := [.lit (.bool false)], args := [d1, d2, d3] }
  | _ => none }
def WordCodesWrongFalsely : Prop := wordCodesRow.holds Tryd.pinned (OpenSpec.ofChange wordCodesWrong)

/-- 'weirlaw01.SetsBack': WHATEVER THE INPUT: true; the input reads as it did. -/
def setsBackSpec : ChangeSpec := { name := "setsBack", fn := fun _ => fun
  | [d1, d2] => { results := [.lit (.bool true)], args := [d1, d2] }
  | _ => none }
def setsBackRow : OpenClaim := { program := "ytpfanhbkjajocaadoor", sum := "cbb51c5ee026f09e9d554bc98479a00132be2a91af56cb760a927e3849c26467", func := "weir/weirlaw01.SetsBack", spec := "setsBack", inPlace := ["internal/abi.NoEscape", "internal/bytealg.MakeNoZero"], unfollowed := true, recurses := true, named := ["math/bits.deBruijn64tab", "internal/strconv.uint64pow10", "math/bits.deBruijn32tab"], apart := false, laid := [("math/bits.deBruijn32tab", laid_math_bits_deBruijn32tab), ("math/bits.deBruijn64tab", laid_math_bits_deBruijn64tab), ("internal/strconv.uint64pow10", laid_internal_strconv_uint64pow10)] }
def SetsBackSaid : Prop := setsBackRow.holds Tryd.pinned (OpenSpec.ofChange setsBackSpec)

/-- ITS FALSE NEIGHBOUR: 'it returns false'. Refute it at one input. -/
def setsBackWrong : ChangeSpec := { name := "setsBack", fn := fun _ => fun
  | [d1, d2] => { results := [.lit (.bool false)], args := [d1, d2] }
  | _ => none }
def SetsBackWrongFalsely : Prop := setsBackRow.holds Tryd.pinned (OpenSpec.ofChange setsBackWrong)

/-- 'weirlaw01.SetsCounts': WHATEVER THE INPUT: true; the input reads as it did. -/
def setsCountsSpec : ChangeSpec := { name := "setsCounts", fn := fun _ => fun
  | [d] => { results := [.lit (.bool true)], args := [d] }
  | _ => none }
def setsCountsRow : OpenClaim := { program := "ytpfanhbkjajocaadoor", sum := "cbb51c5ee026f09e9d554bc98479a00132be2a91af56cb760a927e3849c26467", func := "weir/weirlaw01.SetsCounts", spec := "setsCounts", inPlace := ["internal/abi.NoEscape", "internal/bytealg.MakeNoZero"], unfollowed := true, recurses := true, named := ["math/bits.deBruijn64tab", "internal/strconv.uint64pow10", "math/bits.deBruijn32tab"], apart := false, laid := [("math/bits.deBruijn32tab", laid_math_bits_deBruijn32tab), ("math/bits.deBruijn64tab", laid_math_bits_deBruijn64tab), ("internal/strconv.uint64pow10", laid_internal_strconv_uint64pow10)] }
def SetsCountsSaid : Prop := setsCountsRow.holds Tryd.pinned (OpenSpec.ofChange setsCountsSpec)

/-- ITS FALSE NEIGHBOUR: 'it returns false'. Refute it at one input. -/
def setsCountsWrong : ChangeSpec := { name := "setsCounts", fn := fun _ => fun
  | [d] => { results := [.lit (.bool false)], args := [d] }
  | _ => none }
def SetsCountsWrongFalsely : Prop := setsCountsRow.holds Tryd.pinned (OpenSpec.ofChange setsCountsWrong)

/- THE SECOND FORM. 'bulk': how many values and letters a reading holds, each counted each time it is reached (what is shared counts as often as it is met; a slice's spare places count too). A statement '..UptoSaid' is the law's where the arguments, and the package variables that the reading takes, are together of bulk at most 1048576: NARROWER than '..Said'. Prove '..Said' where nothing that the law and all that it calls make is longer than what came in: it says more and counts as full. Else prove '..UptoSaid'. A law counts once. -/
mutual
def uptoBulk {H : Type} : DataW H → Nat
  | .lit (.string bytes) => bytes.length + 1
  | .lit _ => 1
  | .nil => 1
  | .ptr d => uptoBulk d + 1
  | .slice elems spare => uptoBulkAll elems + uptoBulkAll spare + 1
  | .agg parts => uptoBulkAll parts + 1
  | .iface _ d => uptoBulk d + 1
  | .map entries => uptoBulkEntries entries + 1
  | .held _ => 1
def uptoBulkAll {H : Type} : List (DataW H) → Nat
  | [] => 0
  | d :: r => uptoBulk d + uptoBulkAll r
def uptoBulkEntries {H : Type} : List (Lit × DataW H) → Nat
  | [] => 0
  | x :: r => uptoBulkEntry x + uptoBulkEntries r
def uptoBulkEntry {H : Type} : Lit × DataW H → Nat
  | (.string bytes, d) => bytes.length + uptoBulk d + 1
  | (_, d) => uptoBulk d + 1
 end
def uptoSmall : (H : Type) → List (DataW H) → Bool := fun _ ds => decide (uptoBulkAll ds ≤ 1048576)
def OpenSpec.upto (s : _root_.Go.ChangeSpec) : _root_.Go.OpenSpec := { _root_.Go.OpenSpec.ofChange s with cond := some uptoSmall }

/-- 'weirlaw01.SetsOnes', WHERE WHAT IT READS IS OF BULK AT MOST 1048576: true; the input reads as it did. -/
def setsOnesUptoRow : OpenClaim := { program := "ytpfanhbkjajocaadoor", sum := "cbb51c5ee026f09e9d554bc98479a00132be2a91af56cb760a927e3849c26467", func := "weir/weirlaw01.SetsOnes", spec := "setsOnes", unfollowed := true, recurses := true, named := ["math/bits.deBruijn64tab"], apart := false, laid := [("math/bits.deBruijn64tab", laid_math_bits_deBruijn64tab)], narrowed := true }
def SetsOnesUptoSaid : Prop := setsOnesUptoRow.holds Tryd.pinned (OpenSpec.upto setsOnesSpec)

/-- 'weirlaw01.SetsWalks', WHERE WHAT IT READS IS OF BULK AT MOST 1048576: true; the input reads as it did. -/
def setsWalksUptoRow : OpenClaim := { program := "ytpfanhbkjajocaadoor", sum := "cbb51c5ee026f09e9d554bc98479a00132be2a91af56cb760a927e3849c26467", func := "weir/weirlaw01.SetsWalks", spec := "setsWalks", unfollowed := true, recurses := true, named := ["math/bits.deBruijn64tab"], apart := false, laid := [("math/bits.deBruijn64tab", laid_math_bits_deBruijn64tab)], narrowed := true }
def SetsWalksUptoSaid : Prop := setsWalksUptoRow.holds Tryd.pinned (OpenSpec.upto setsWalksSpec)

/-- 'weirlaw01.SetsLeast', WHERE WHAT IT READS IS OF BULK AT MOST 1048576: true; the input reads as it did. -/
def setsLeastUptoRow : OpenClaim := { program := "ytpfanhbkjajocaadoor", sum := "cbb51c5ee026f09e9d554bc98479a00132be2a91af56cb760a927e3849c26467", func := "weir/weirlaw01.SetsLeast", spec := "setsLeast", unfollowed := true, recurses := true, named := ["math/bits.deBruijn64tab"], apart := false, laid := [("math/bits.deBruijn64tab", laid_math_bits_deBruijn64tab)], narrowed := true }
def SetsLeastUptoSaid : Prop := setsLeastUptoRow.holds Tryd.pinned (OpenSpec.upto setsLeastSpec)

/-- 'weirlaw04.WordTexts', WHERE WHAT IT READS IS OF BULK AT MOST 1048576: true; the input reads as it did. -/
def wordTextsUptoRow : OpenClaim := { program := "ytpfanhbkjajocaadoor", sum := "cbb51c5ee026f09e9d554bc98479a00132be2a91af56cb760a927e3849c26467", func := "weir/weirlaw04.WordTexts", spec := "wordTexts", named := ["internal/strconv.uint64pow10", "math/bits.deBruijn32tab", "math/bits.deBruijn64tab"], apart := false, laid := [("math/bits.deBruijn32tab", laid_math_bits_deBruijn32tab), ("math/bits.deBruijn64tab", laid_math_bits_deBruijn64tab), ("internal/strconv.uint64pow10", laid_internal_strconv_uint64pow10)], narrowed := true }
def WordTextsUptoSaid : Prop := wordTextsUptoRow.holds Tryd.pinned (OpenSpec.upto wordTextsSpec)

/-- 'weirlaw01.SetsLists', WHERE WHAT IT READS IS OF BULK AT MOST 1048576: true; the input reads as it did. -/
def setsListsUptoRow : OpenClaim := { program := "ytpfanhbkjajocaadoor", sum := "cbb51c5ee026f09e9d554bc98479a00132be2a91af56cb760a927e3849c26467", func := "weir/weirlaw01.SetsLists", spec := "setsLists", inPlace := ["internal/abi.NoEscape", "internal/bytealg.MakeNoZero"], unfollowed := true, recurses := true, named := ["math/bits.deBruijn64tab", "internal/strconv.uint64pow10", "math/bits.deBruijn32tab"], apart := false, laid := [("math/bits.deBruijn32tab", laid_math_bits_deBruijn32tab), ("math/bits.deBruijn64tab", laid_math_bits_deBruijn64tab), ("internal/strconv.uint64pow10", laid_internal_strconv_uint64pow10)], narrowed := true }
def SetsListsUptoSaid : Prop := setsListsUptoRow.holds Tryd.pinned (OpenSpec.upto setsListsSpec)

/-- 'weirlaw04.WordBack', WHERE WHAT IT READS IS OF BULK AT MOST 1048576: true; the input reads as it did. -/
def wordBackUptoRow : OpenClaim := { program := "ytpfanhbkjajocaadoor", sum := "cbb51c5ee026f09e9d554bc98479a00132be2a91af56cb760a927e3849c26467", func := "weir/weirlaw04.WordBack", spec := "wordBack", inPlace := ["math/bits.Add64"], named := ["internal/strconv.uint64pow10", "math/bits.deBruijn32tab", "math/bits.deBruijn64tab"], apart := false, laid := [("math/bits.deBruijn32tab", laid_math_bits_deBruijn32tab), ("math/bits.deBruijn64tab", laid_math_bits_deBruijn64tab), ("internal/strconv.uint64pow10", laid_internal_strconv_uint64pow10)], narrowed := true }
def WordBackUptoSaid : Prop := wordBackUptoRow.holds Tryd.pinned (OpenSpec.upto wordBackSpec)

/-- 'weirlaw04.WordLongest', WHERE WHAT IT READS IS OF BULK AT MOST 1048576: true; the input reads as it did. -/
def wordLongestUptoRow : OpenClaim := { program := "ytpfanhbkjajocaadoor", sum := "cbb51c5ee026f09e9d554bc98479a00132be2a91af56cb760a927e3849c26467", func := "weir/weirlaw04.WordLongest", spec := "wordLongest", inPlace := ["math/bits.Add64"], named := ["internal/strconv.uint64pow10", "math/bits.deBruijn32tab", "math/bits.deBruijn64tab"], apart := false, laid := [("math/bits.deBruijn32tab", laid_math_bits_deBruijn32tab), ("math/bits.deBruijn64tab", laid_math_bits_deBruijn64tab), ("internal/strconv.uint64pow10", laid_internal_strconv_uint64pow10)], narrowed := true }
def WordLongestUptoSaid : Prop := wordLongestUptoRow.holds Tryd.pinned (OpenSpec.upto wordLongestSpec)

/-- 'weirlaw04.WordCodes', WHERE WHAT IT READS IS OF BULK AT MOST 1048576: true; the input reads as it did. -/
def wordCodesUptoRow : OpenClaim := { program := "ytpfanhbkjajocaadoor", sum := "cbb51c5ee026f09e9d554bc98479a00132be2a91af56cb760a927e3849c26467", func := "weir/weirlaw04.WordCodes", spec := "wordCodes", inPlace := ["math/bits.Add64"], named := ["internal/strconv.uint64pow10", "math/bits.deBruijn32tab", "math/bits.deBruijn64tab"], apart := false, laid := [("math/bits.deBruijn32tab", laid_math_bits_deBruijn32tab), ("math/bits.deBruijn64tab", laid_math_bits_deBruijn64tab), ("internal/strconv.uint64pow10", laid_internal_strconv_uint64pow10)], narrowed := true }
def WordCodesUptoSaid : Prop := wordCodesUptoRow.holds Tryd.pinned (OpenSpec.upto wordCodesSpec)

/-- 'weirlaw01.SetsBack', WHERE WHAT IT READS IS OF BULK AT MOST 1048576: true; the input reads as it did. -/
def setsBackUptoRow : OpenClaim := { program := "ytpfanhbkjajocaadoor", sum := "cbb51c5ee026f09e9d554bc98479a00132be2a91af56cb760a927e3849c26467", func := "weir/weirlaw01.SetsBack", spec := "setsBack", inPlace := ["internal/abi.NoEscape", "internal/bytealg.MakeNoZero"], unfollowed := true, recurses := true, named := ["math/bits.deBruijn64tab", "internal/strconv.uint64pow10", "math/bits.deBruijn32tab"], apart := false, laid := [("math/bits.deBruijn32tab", laid_math_bits_deBruijn32tab), ("math/bits.deBruijn64tab", laid_math_bits_deBruijn64tab), ("internal/strconv.uint64pow10", laid_internal_strconv_uint64pow10)], narrowed := true }
def SetsBackUptoSaid : Prop := setsBackUptoRow.holds Tryd.pinned (OpenSpec.upto setsBackSpec)

/-- 'weirlaw01.SetsCounts', WHERE WHAT IT READS IS OF BULK AT MOST 1048576: true; the input reads as it did. -/
def setsCountsUptoRow : OpenClaim := { program := "ytpfanhbkjajocaadoor", sum := "cbb51c5ee026f09e9d554bc98479a00132be2a91af56cb760a927e3849c26467", func := "weir/weirlaw01.SetsCounts", spec := "setsCounts", inPlace := ["internal/abi.NoEscape", "internal/bytealg.MakeNoZero"], unfollowed := true, recurses := true, named := ["math/bits.deBruijn64tab", "internal/strconv.uint64pow10", "math/bits.deBruijn32tab"], apart := false, laid := [("math/bits.deBruijn32tab", laid_math_bits_deBruijn32tab), ("math/bits.deBruijn64tab", laid_math_bits_deBruijn64tab), ("internal/strconv.uint64pow10", laid_internal_strconv_uint64pow10)], narrowed := true }
def SetsCountsUptoSaid : Prop := setsCountsUptoRow.holds Tryd.pinned (OpenSpec.upto setsCountsSpec)

end Rows
end Go.Proofs.YtpfanhbkjajocaaDoor
