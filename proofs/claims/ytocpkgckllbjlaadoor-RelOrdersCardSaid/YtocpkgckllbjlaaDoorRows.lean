/-
  NARROWER THAN 'FOR EVERY INPUT', by the rows' own cells (each row's printed sentence says how): RelWalks: laid · RelOperates: laid · RelCloses: laid · RelOrders: laid · RelCycles: laid · RelLeast: laid · RelReduces: laid · RelExtends: laid · RelLaws: laid · RelRound: laid.
  DERIVED. THE GIVEN ROWS OF THIS SEAT. 10 by the template 'for every input the law returns true; each argument reads behind the call as it read before'; 0 by the template 'total and deterministic' (their statements: YtocpkgckllbjlaaDoorTotals.lean).
  GIVEN WITH THE SEED: the statements are not yours to turn. If you find one false, say at which input.
  Laid BY PROGRAM, IN A SANDBOX (cutbox-rows.mjs): the forced cells as the released guide's own fill.sh prints them over the translation db9398ac7da33102… (all of the seat's roots in one cut). By AI agents, Wed Nov 11 2026. No macro, syntax, notation, axiom, sorry.
-/
import Derived.Test.YtocpkgckllbjlaaDoorChecked
import GoSem.Claim
import GoSem.ClaimJoined
import GoSem.ClaimMapViews
import Derived.JoinedTies
import Derived.KernelRfl
namespace Go.Proofs.YtocpkgckllbjlaaDoor
/- THE CELL 'sum', in the pinned program and in every row, IS THE sha256 OF THE DUMP (.gsa) THAT YtocpkgckllbjlaaDoorProg.lean LOADS. Nothing in Lean hashes anything: it is a label: what it is worth is what the hold of that sum in a sandbox is worth. -/
noncomputable def Tryd.pinned : Pinned := { name := "ytocpkgckllbjlaadoor", sum := "db9398ac7da33102c6e186ca463bdb48cca5c330ff07f445d32949eafb1abeaa", checked := Tryd.checked }
namespace Rows
def none {H : Type} : Left H := { results := [], args := [] }

/- WHAT THE LISTED PACKAGE-LEVEL VARIABLES READ AS WHEN THE CALL BEGINS. Each datum BY PROGRAM (the guide's laid-datum.mjs) off the statement by which the dump's own 'gosem.cut.vars' lays the variable. In a bare row this is a premise. The card (YtocpkgckllbjlaaDoorCards.lean) ties it to the program's text. -/
def laid_math_bits_deBruijn64tab {H : Type} : DataW H := .agg [.lit (.int .u8 0), .lit (.int .u8 1), .lit (.int .u8 56), .lit (.int .u8 2), .lit (.int .u8 57), .lit (.int .u8 49), .lit (.int .u8 28), .lit (.int .u8 3), .lit (.int .u8 61), .lit (.int .u8 58), .lit (.int .u8 42), .lit (.int .u8 50), .lit (.int .u8 38), .lit (.int .u8 29), .lit (.int .u8 17), .lit (.int .u8 4), .lit (.int .u8 62), .lit (.int .u8 47), .lit (.int .u8 59), .lit (.int .u8 36), .lit (.int .u8 45), .lit (.int .u8 43), .lit (.int .u8 51), .lit (.int .u8 22), .lit (.int .u8 53), .lit (.int .u8 39), .lit (.int .u8 33), .lit (.int .u8 30), .lit (.int .u8 24), .lit (.int .u8 18), .lit (.int .u8 12), .lit (.int .u8 5), .lit (.int .u8 63), .lit (.int .u8 55), .lit (.int .u8 48), .lit (.int .u8 27), .lit (.int .u8 60), .lit (.int .u8 41), .lit (.int .u8 37), .lit (.int .u8 16), .lit (.int .u8 46), .lit (.int .u8 35), .lit (.int .u8 44), .lit (.int .u8 21), .lit (.int .u8 52), .lit (.int .u8 32), .lit (.int .u8 23), .lit (.int .u8 11), .lit (.int .u8 54), .lit (.int .u8 26), .lit (.int .u8 40), .lit (.int .u8 15), .lit (.int .u8 34), .lit (.int .u8 20), .lit (.int .u8 31), .lit (.int .u8 10), .lit (.int .u8 25), .lit (.int .u8 14), .lit (.int .u8 19), .lit (.int .u8 9), .lit (.int .u8 13), .lit (.int .u8 8), .lit (.int .u8 7), .lit (.int .u8 6)]

/-- 'weirlaw02.RelWalks': WHATEVER THE INPUT: true; the input reads as it did. -/
def relWalksSpec : ChangeSpec := { name := "relWalks", fn := fun _ => fun
  | [d1, d2, d3, d4] => { results := [.lit (.bool true)], args := [d1, d2, d3, d4] }
  | _ => none }
def relWalksRow : OpenClaim := { program := "ytocpkgckllbjlaadoor", sum := "db9398ac7da33102c6e186ca463bdb48cca5c330ff07f445d32949eafb1abeaa", func := "weir/weirlaw02.RelWalks", spec := "relWalks", unfollowed := true, recurses := true, named := ["math/bits.deBruijn64tab"], apart := false, laid := [("math/bits.deBruijn64tab", laid_math_bits_deBruijn64tab)] }
def RelWalksSaid : Prop := relWalksRow.holds Tryd.pinned (OpenSpec.ofChange relWalksSpec)

/-- ITS FALSE NEIGHBOUR: 'it returns false'. Refute it at one input. -/
def relWalksWrong : ChangeSpec := { name := "relWalks", fn := fun _ => fun
  | [d1, d2, d3, d4] => { results := [.lit (.bool false)], args := [d1, d2, d3, d4] }
  | _ => none }
def RelWalksWrongFalsely : Prop := relWalksRow.holds Tryd.pinned (OpenSpec.ofChange relWalksWrong)

/-- 'weirlaw02.RelOperates': WHATEVER THE INPUT: true; the input reads as it did. -/
def relOperatesSpec : ChangeSpec := { name := "relOperates", fn := fun _ => fun
  | [d1, d2, d3, d4] => { results := [.lit (.bool true)], args := [d1, d2, d3, d4] }
  | _ => none }
def relOperatesRow : OpenClaim := { program := "ytocpkgckllbjlaadoor", sum := "db9398ac7da33102c6e186ca463bdb48cca5c330ff07f445d32949eafb1abeaa", func := "weir/weirlaw02.RelOperates", spec := "relOperates", unfollowed := true, recurses := true, named := ["math/bits.deBruijn64tab"], apart := false, laid := [("math/bits.deBruijn64tab", laid_math_bits_deBruijn64tab)] }
def RelOperatesSaid : Prop := relOperatesRow.holds Tryd.pinned (OpenSpec.ofChange relOperatesSpec)

/-- ITS FALSE NEIGHBOUR: 'it returns false'. Refute it at one input. -/
def relOperatesWrong : ChangeSpec := { name := "relOperates", fn := fun _ => fun
  | [d1, d2, d3, d4] => { results := [.lit (.bool false)], args := [d1, d2, d3, d4] }
  | _ => none }
def RelOperatesWrongFalsely : Prop := relOperatesRow.holds Tryd.pinned (OpenSpec.ofChange relOperatesWrong)

/-- 'weirlaw02.RelCloses': WHATEVER THE INPUT: true; the input reads as it did. -/
def relClosesSpec : ChangeSpec := { name := "relCloses", fn := fun _ => fun
  | [d] => { results := [.lit (.bool true)], args := [d] }
  | _ => none }
def relClosesRow : OpenClaim := { program := "ytocpkgckllbjlaadoor", sum := "db9398ac7da33102c6e186ca463bdb48cca5c330ff07f445d32949eafb1abeaa", func := "weir/weirlaw02.RelCloses", spec := "relCloses", unfollowed := true, recurses := true, named := ["math/bits.deBruijn64tab"], apart := false, laid := [("math/bits.deBruijn64tab", laid_math_bits_deBruijn64tab)] }
def RelClosesSaid : Prop := relClosesRow.holds Tryd.pinned (OpenSpec.ofChange relClosesSpec)

/-- ITS FALSE NEIGHBOUR: 'it returns false'. Refute it at one input. -/
def relClosesWrong : ChangeSpec := { name := "relCloses", fn := fun _ => fun
  | [d] => { results := [.lit (.bool false)], args := [d] }
  | _ => none }
def RelClosesWrongFalsely : Prop := relClosesRow.holds Tryd.pinned (OpenSpec.ofChange relClosesWrong)

/-- 'weirlaw02.RelOrders': WHATEVER THE INPUT: true; the input reads as it did. -/
def relOrdersSpec : ChangeSpec := { name := "relOrders", fn := fun _ => fun
  | [d1, d2] => { results := [.lit (.bool true)], args := [d1, d2] }
  | _ => none }
def relOrdersRow : OpenClaim := { program := "ytocpkgckllbjlaadoor", sum := "db9398ac7da33102c6e186ca463bdb48cca5c330ff07f445d32949eafb1abeaa", func := "weir/weirlaw02.RelOrders", spec := "relOrders", unfollowed := true, recurses := true, named := ["math/bits.deBruijn64tab"], apart := false, laid := [("math/bits.deBruijn64tab", laid_math_bits_deBruijn64tab)] }
def RelOrdersSaid : Prop := relOrdersRow.holds Tryd.pinned (OpenSpec.ofChange relOrdersSpec)

/-- ITS FALSE NEIGHBOUR: 'it returns false'. Refute it at one input. -/
def relOrdersWrong : ChangeSpec := { name := "relOrders", fn := fun _ => fun
  | [d1, d2] => { results := [.lit (.bool false)], args := [d1, d2] }
  | _ => none }
def RelOrdersWrongFalsely : Prop := relOrdersRow.holds Tryd.pinned (OpenSpec.ofChange relOrdersWrong)

/-- 'weirlaw02.RelCycles': WHATEVER THE INPUT: true; the input reads as it did. -/
def relCyclesSpec : ChangeSpec := { name := "relCycles", fn := fun _ => fun
  | [d] => { results := [.lit (.bool true)], args := [d] }
  | _ => none }
def relCyclesRow : OpenClaim := { program := "ytocpkgckllbjlaadoor", sum := "db9398ac7da33102c6e186ca463bdb48cca5c330ff07f445d32949eafb1abeaa", func := "weir/weirlaw02.RelCycles", spec := "relCycles", unfollowed := true, recurses := true, named := ["math/bits.deBruijn64tab"], apart := false, laid := [("math/bits.deBruijn64tab", laid_math_bits_deBruijn64tab)] }
def RelCyclesSaid : Prop := relCyclesRow.holds Tryd.pinned (OpenSpec.ofChange relCyclesSpec)

/-- ITS FALSE NEIGHBOUR: 'it returns false'. Refute it at one input. -/
def relCyclesWrong : ChangeSpec := { name := "relCycles", fn := fun _ => fun
  | [d] => { results := [.lit (.bool false)], args := [d] }
  | _ => none }
def RelCyclesWrongFalsely : Prop := relCyclesRow.holds Tryd.pinned (OpenSpec.ofChange relCyclesWrong)

/-- 'weirlaw02.RelLeast': WHATEVER THE INPUT: true; the input reads as it did. -/
def relLeastSpec : ChangeSpec := { name := "relLeast", fn := fun _ => fun
  | [d1, d2] => { results := [.lit (.bool true)], args := [d1, d2] }
  | _ => none }
def relLeastRow : OpenClaim := { program := "ytocpkgckllbjlaadoor", sum := "db9398ac7da33102c6e186ca463bdb48cca5c330ff07f445d32949eafb1abeaa", func := "weir/weirlaw02.RelLeast", spec := "relLeast", unfollowed := true, recurses := true, named := ["math/bits.deBruijn64tab"], apart := false, laid := [("math/bits.deBruijn64tab", laid_math_bits_deBruijn64tab)] }
def RelLeastSaid : Prop := relLeastRow.holds Tryd.pinned (OpenSpec.ofChange relLeastSpec)

/-- ITS FALSE NEIGHBOUR: 'it returns false'. Refute it at one input. -/
def relLeastWrong : ChangeSpec := { name := "relLeast", fn := fun _ => fun
  | [d1, d2] => { results := [.lit (.bool false)], args := [d1, d2] }
  | _ => none }
def RelLeastWrongFalsely : Prop := relLeastRow.holds Tryd.pinned (OpenSpec.ofChange relLeastWrong)

/-- 'weirlaw02.RelReduces': WHATEVER THE INPUT: true; the input reads as it did. -/
def relReducesSpec : ChangeSpec := { name := "relReduces", fn := fun _ => fun
  | [d] => { results := [.lit (.bool true)], args := [d] }
  | _ => none }
def relReducesRow : OpenClaim := { program := "ytocpkgckllbjlaadoor", sum := "db9398ac7da33102c6e186ca463bdb48cca5c330ff07f445d32949eafb1abeaa", func := "weir/weirlaw02.RelReduces", spec := "relReduces", unfollowed := true, recurses := true, named := ["math/bits.deBruijn64tab"], apart := false, laid := [("math/bits.deBruijn64tab", laid_math_bits_deBruijn64tab)] }
def RelReducesSaid : Prop := relReducesRow.holds Tryd.pinned (OpenSpec.ofChange relReducesSpec)

/-- ITS FALSE NEIGHBOUR: 'it returns false'. Refute it at one input. -/
def relReducesWrong : ChangeSpec := { name := "relReduces", fn := fun _ => fun
  | [d] => { results := [.lit (.bool false)], args := [d] }
  | _ => none }
def RelReducesWrongFalsely : Prop := relReducesRow.holds Tryd.pinned (OpenSpec.ofChange relReducesWrong)

/-- 'weirlaw02.RelExtends': WHATEVER THE INPUT: true; the input reads as it did. -/
def relExtendsSpec : ChangeSpec := { name := "relExtends", fn := fun _ => fun
  | [d1, d2] => { results := [.lit (.bool true)], args := [d1, d2] }
  | _ => none }
def relExtendsRow : OpenClaim := { program := "ytocpkgckllbjlaadoor", sum := "db9398ac7da33102c6e186ca463bdb48cca5c330ff07f445d32949eafb1abeaa", func := "weir/weirlaw02.RelExtends", spec := "relExtends", unfollowed := true, recurses := true, named := ["math/bits.deBruijn64tab"], apart := false, laid := [("math/bits.deBruijn64tab", laid_math_bits_deBruijn64tab)] }
def RelExtendsSaid : Prop := relExtendsRow.holds Tryd.pinned (OpenSpec.ofChange relExtendsSpec)

/-- ITS FALSE NEIGHBOUR: 'it returns false'. Refute it at one input. -/
def relExtendsWrong : ChangeSpec := { name := "relExtends", fn := fun _ => fun
  | [d1, d2] => { results := [.lit (.bool false)], args := [d1, d2] }
  | _ => none }
def RelExtendsWrongFalsely : Prop := relExtendsRow.holds Tryd.pinned (OpenSpec.ofChange relExtendsWrong)

/-- 'weirlaw02.RelLaws': WHATEVER THE INPUT: true; the input reads as it did. -/
def relLawsSpec : ChangeSpec := { name := "relLaws", fn := fun _ => fun
  | [d1, d2, d3] => { results := [.lit (.bool true)], args := [d1, d2, d3] }
  | _ => none }
def relLawsRow : OpenClaim := { program := "ytocpkgckllbjlaadoor", sum := "db9398ac7da33102c6e186ca463bdb48cca5c330ff07f445d32949eafb1abeaa", func := "weir/weirlaw02.RelLaws", spec := "relLaws", unfollowed := true, recurses := true, named := ["math/bits.deBruijn64tab"], apart := false, laid := [("math/bits.deBruijn64tab", laid_math_bits_deBruijn64tab)] }
def RelLawsSaid : Prop := relLawsRow.holds Tryd.pinned (OpenSpec.ofChange relLawsSpec)

/-- ITS FALSE NEIGHBOUR: 'it returns false'. Refute it at one input. -/
def relLawsWrong : ChangeSpec := { name := "relLaws", fn := fun _ => fun
  | [d1, d2, d3] => { results := [.lit (.bool false)], args := [d1, d2, d3] }
  | _ => none }
def RelLawsWrongFalsely : Prop := relLawsRow.holds Tryd.pinned (OpenSpec.ofChange relLawsWrong)

/-- 'weirlaw02.RelRound': WHATEVER THE INPUT: true; the input reads as it did. -/
def relRoundSpec : ChangeSpec := { name := "relRound", fn := fun _ => fun
  | [d] => { results := [.lit (.bool true)], args := [d] }
  | _ => none }
def relRoundRow : OpenClaim := { program := "ytocpkgckllbjlaadoor", sum := "db9398ac7da33102c6e186ca463bdb48cca5c330ff07f445d32949eafb1abeaa", func := "weir/weirlaw02.RelRound", spec := "relRound", unfollowed := true, recurses := true, named := ["math/bits.deBruijn64tab"], apart := false, laid := [("math/bits.deBruijn64tab", laid_math_bits_deBruijn64tab)] }
def RelRoundSaid : Prop := relRoundRow.holds Tryd.pinned (OpenSpec.ofChange relRoundSpec)

/-- ITS FALSE NEIGHBOUR: 'it returns false'. Refute it at one input. -/
def relRoundWrong : ChangeSpec := { name := "relRound", fn := fun _ => fun
  | [d] => { results := [.lit (.bool false)], args := [d] }
  | _ => none }
def RelRoundWrongFalsely : Prop := relRoundRow.holds Tryd.pinned (OpenSpec.ofChange relRoundWrong)

/- THE SECOND FORM. 'bulk': how many values and letters a reading holds, each counted each time it is reached (what is shared counts as often as it is met; a slice's spare places count too). A statement '..UptoSaid' is the law's where the arguments, and the package variables that the reading takes, are together of bulk at most 1048576: NARROWER than '..Said'. Prove '..Said' where nothing that the law and all that it calls make is longer than what came in: it says more and counts as full. Else prove '..UptoSaid'. A law counts once. -/
mutual
def uptoBulk {H : Type} : DataW H → Nat
  | .lit (.string bytes) => bytes.length + 1
  | .lit _ => 1
  | .nil => 1
  | .ptr d => uptoBulk d + 1
  | .slice elems spare => uptoBulkAll elems + uptoBulkAll spare + 1
  | .agg parts => uptoBulkAll parts + 1
  | .iface _ d => uptoBulk d + 1
  | .map entries => uptoBulkEntries entries + 1
  | .held _ => 1
def uptoBulkAll {H : Type} : List (DataW H) → Nat
  | [] => 0
  | d :: r => uptoBulk d + uptoBulkAll r
def uptoBulkEntries {H : Type} : List (Lit × DataW H) → Nat
  | [] => 0
  | x :: r => uptoBulkEntry x + uptoBulkEntries r
def uptoBulkEntry {H : Type} : Lit × DataW H → Nat
  | (.string bytes, d) => bytes.length + uptoBulk d + 1
  | (_, d) => uptoBulk d + 1
 end
def uptoSmall : (H : Type) → List (DataW H) → Bool := fun _ ds => decide (uptoBulkAll ds ≤ 1048576)
def OpenSpec.upto (s : _root_.Go.ChangeSpec) : _root_.Go.OpenSpec := { _root_.Go.OpenSpec.ofChange s with cond := some uptoSmall }

/-- 'weirlaw02.RelWalks', WHERE WHAT IT READS IS OF BULK AT MOST 1048576: true; the input reads as it did. -/
def relWalksUptoRow : OpenClaim := { program := "ytocpkgckllbjlaadoor", sum := "db9398ac7da33102c6e186ca463bdb48cca5c330ff07f445d32949eafb1abeaa", func := "weir/weirlaw02.RelWalks", spec := "relWalks", unfollowed := true, recurses := true, named := ["math/bits.deBruijn64tab"], apart := false, laid := [("math/bits.deBruijn64tab", laid_math_bits_deBruijn64tab)], narrowed := true }
def RelWalksUptoSaid : Prop := relWalksUptoRow.holds Tryd.pinned (OpenSpec.upto relWalksSpec)

/-- 'weirlaw02.RelOperates', WHERE WHAT IT READS IS OF BULK AT MOST 1048576: true; the input reads as it did. -/
def relOperatesUptoRow : OpenClaim := { program := "ytocpkgckllbjlaadoor", sum := "db9398ac7da33102c6e186ca463bdb48cca5c330ff07f445d32949eafb1abeaa", func := "weir/weirlaw02.RelOperates", spec := "relOperates", unfollowed := true, recurses := true, named := ["math/bits.deBruijn64tab"], apart := false, laid := [("math/bits.deBruijn64tab", laid_math_bits_deBruijn64tab)], narrowed := true }
def RelOperatesUptoSaid : Prop := relOperatesUptoRow.holds Tryd.pinned (OpenSpec.upto relOperatesSpec)

/-- 'weirlaw02.RelCloses', WHERE WHAT IT READS IS OF BULK AT MOST 1048576: true; the input reads as it did. -/
def relClosesUptoRow : OpenClaim := { program := "ytocpkgckllbjlaadoor", sum := "db9398ac7da33102c6e186ca463bdb48cca5c330ff07f445d32949eafb1abeaa", func := "weir/weirlaw02.RelCloses", spec := "relCloses", unfollowed := true, recurses := true, named := ["math/bits.deBruijn64tab"], apart := false, laid := [("math/bits.deBruijn64tab", laid_math_bits_deBruijn64tab)], narrowed := true }
def RelClosesUptoSaid : Prop := relClosesUptoRow.holds Tryd.pinned (OpenSpec.upto relClosesSpec)

/-- 'weirlaw02.RelOrders', WHERE WHAT IT READS IS OF BULK AT MOST 1048576: true; the input reads as it did. -/
def relOrdersUptoRow : OpenClaim := { program := "ytocpkgckllbjlaadoor", sum := "db9398ac7da33102c6e186ca463bdb48cca5c330ff07f445d32949eafb1abeaa", func := "weir/weirlaw02.RelOrders", spec := "relOrders", unfollowed := true, recurses := true, named := ["math/bits.deBruijn64tab"], apart := false, laid := [("math/bits.deBruijn64tab", laid_math_bits_deBruijn64tab)], narrowed := true }
def RelOrdersUptoSaid : Prop := relOrdersUptoRow.holds Tryd.pinned (OpenSpec.upto relOrdersSpec)

/-- 'weirlaw02.RelCycles', WHERE WHAT IT READS IS OF BULK AT MOST 1048576: true; the input reads as it did. -/
def relCyclesUptoRow : OpenClaim := { program := "ytocpkgckllbjlaadoor", sum := "db9398ac7da33102c6e186ca463bdb48cca5c330ff07f445d32949eafb1abeaa", func := "weir/weirlaw02.RelCycles", spec := "relCycles", unfollowed := true, recurses := true, named := ["math/bits.deBruijn64tab"], apart := false, laid := [("math/bits.deBruijn64tab", laid_math_bits_deBruijn64tab)], narrowed := true }
def RelCyclesUptoSaid : Prop := relCyclesUptoRow.holds Tryd.pinned (OpenSpec.upto relCyclesSpec)

/-- 'weirlaw02.RelLeast', WHERE WHAT IT READS IS OF BULK AT MOST 1048576: true; the input reads as it did. -/
def relLeastUptoRow : OpenClaim := { program := "ytocpkgckllbjlaadoor", sum := "db9398ac7da33102c6e186ca463bdb48cca5c330ff07f445d32949eafb1abeaa", func := "weir/weirlaw02.RelLeast", spec := "relLeast", unfollowed := true, recurses := true, named := ["math/bits.deBruijn64tab"], apart := false, laid := [("math/bits.deBruijn64tab", laid_math_bits_deBruijn64tab)], narrowed := true }
def RelLeastUptoSaid : Prop := relLeastUptoRow.holds Tryd.pinned (OpenSpec.upto relLeastSpec)

/-- 'weirlaw02.RelReduces', WHERE WHAT IT READS IS OF BULK AT MOST 1048576: true; the input reads as it did. -/
def relReducesUptoRow : OpenClaim := { program := "ytocpkgckllbjlaadoor", sum := "db9398ac7da33102c6e186ca463bdb48cca5c330ff07f445d32949eafb1abeaa", func := "weir/weirlaw02.RelReduces", spec := "relReduces", unfollowed := true, recurses := true, named := ["math/bits.deBruijn64tab"], apart := false, laid := [("math/bits.deBruijn64tab", laid_math_bits_deBruijn64tab)], narrowed := true }
def RelReducesUptoSaid : Prop := relReducesUptoRow.holds Tryd.pinned (OpenSpec.upto relReducesSpec)

/-- 'weirlaw02.RelExtends', WHERE WHAT IT READS IS OF BULK AT MOST 1048576: true; the input reads as it did. -/
def relExtendsUptoRow : OpenClaim := { program := "ytocpkgckllbjlaadoor", sum := "db9398ac7da33102c6e186ca463bdb48cca5c330ff07f445d32949eafb1abeaa", func := "weir/weirlaw02.RelExtends", spec := "relExtends", unfollowed := true, recurses := true, named := ["math/bits.deBruijn64tab"], apart := false, laid := [("math/bits.deBruijn64tab", laid_math_bits_deBruijn64tab)], narrowed := true }
def RelExtendsUptoSaid : Prop := relExtendsUptoRow.holds Tryd.pinned (OpenSpec.upto relExtendsSpec)

/-- 'weirlaw02.RelLaws', WHERE WHAT IT READS IS OF BULK AT MOST 1048576: true; the input reads as it did. -/
def relLawsUptoRow : OpenClaim := { program := "ytocpkgckllbjlaadoor", sum := "db9398ac7da33102c6e186ca463bdb48cca5c330ff07f445d32949eafb1abeaa", func := "weir/weirlaw02.RelLaws", spec := "relLaws", unfollowed := true, recurses := true, named := ["math/bits.deBruijn64tab"], apart := false, laid := [("math/bits.deBruijn64tab", laid_math_bits_deBruijn64tab)], narrowed := true }
def RelLawsUptoSaid : Prop := relLawsUptoRow.holds Tryd.pinned (OpenSpec.upto relLawsSpec)

/-- 'weirlaw02.RelRound', WHERE WHAT IT READS IS OF BULK AT MOST 1048576: true; the input reads as it did. -/
def relRoundUptoRow : OpenClaim := { program := "ytocpkgckllbjlaadoor", sum := "db9398ac7da33102c6e186ca463bdb48cca5c330ff07f445d32949eafb1abeaa", func := "weir/weirlaw02.RelRound", spec := "relRound", unfollowed := true, recurses := true, named := ["math/bits.deBruijn64tab"], apart := false, laid := [("math/bits.deBruijn64tab", laid_math_bits_deBruijn64tab)], narrowed := true }
def RelRoundUptoSaid : Prop := relRoundUptoRow.holds Tryd.pinned (OpenSpec.upto relRoundSpec)

end Rows
end Go.Proofs.YtocpkgckllbjlaaDoor
