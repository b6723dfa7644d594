/-
  No cell of these rows narrows 'for every input' (looked for: loops, veiled, ifaces, maps, wideKeys, modest, calm, conditions, laid).
  DERIVED. THE GIVEN ROWS OF THIS SEAT. 9 by the template 'for every input the law returns true; each argument reads behind the call as it read before'; 0 by the template 'total and deterministic' (their statements: YtigbfankkmmnbaaTotals.lean).
  GIVEN WITH THE SEED: the statements are not yours to turn. If you find one false, say at which input.
  Laid BY PROGRAM, IN A SANDBOX (cutbox-rows.mjs): the forced cells as the released guide's own fill.sh prints them over the translation 6d700055856b6f60… (all of the seat's roots in one cut). By AI agents, Wed Nov 11 2026. No macro, syntax, notation, axiom, sorry.
-/
import Derived.Test.YtigbfankkmmnbaaChecked
import GoSem.Claim
import GoSem.ClaimJoined
import GoSem.ClaimMapViews
import Derived.JoinedTies
import Derived.KernelRfl
namespace Go.Proofs.Ytigbfankkmmnbaa
/- THE CELL 'sum', in the pinned program and in every row, IS THE sha256 OF THE DUMP (.gsa) THAT YtigbfankkmmnbaaProg.lean LOADS. Nothing in Lean hashes anything: it is a label: what it is worth is what the hold of that sum in a sandbox is worth. -/
noncomputable def Try.pinned : Pinned := { name := "ytigbfankkmmnbaa", sum := "6d700055856b6f60189f8fa01c0cd95588c93c9a73a38c808ca128778aa32ac9", checked := Try.checked }
namespace Rows
def none {H : Type} : Left H := { results := [], args := [] }

/-- 'quincunxlaw09.SetsTell': WHATEVER THE INPUT: true; the input reads as it did. -/
def setsTellSpec : ChangeSpec := { name := "setsTell", fn := fun _ => fun
  | [d] => { results := [.lit (.bool true)], args := [d] }
  | _ => none }
def setsTellRow : OpenClaim := { program := "ytigbfankkmmnbaa", sum := "6d700055856b6f60189f8fa01c0cd95588c93c9a73a38c808ca128778aa32ac9", func := "quincunx/quincunxlaw09.SetsTell", spec := "setsTell", unfollowed := true, recurses := true, apart := false }
def SetsTellSaid : Prop := setsTellRow.holds Try.pinned (OpenSpec.ofChange setsTellSpec)

/-- ITS FALSE NEIGHBOUR: 'it returns false'. Refute it at one input. -/
def setsTellWrong : ChangeSpec := { name := "setsTell", fn := fun _ => fun
  | [d] => { results := [.lit (.bool false)], args := [d] }
  | _ => none }
def SetsTellWrongFalsely : Prop := setsTellRow.holds Try.pinned (OpenSpec.ofChange setsTellWrong)

/-- 'quincunxlaw09.SetsLead': WHATEVER THE INPUT: true; the input reads as it did. -/
def setsLeadSpec : ChangeSpec := { name := "setsLead", fn := fun _ => fun
  | [d1, d2] => { results := [.lit (.bool true)], args := [d1, d2] }
  | _ => none }
def setsLeadRow : OpenClaim := { program := "ytigbfankkmmnbaa", sum := "6d700055856b6f60189f8fa01c0cd95588c93c9a73a38c808ca128778aa32ac9", func := "quincunx/quincunxlaw09.SetsLead", spec := "setsLead", unfollowed := true, recurses := true, apart := false }
def SetsLeadSaid : Prop := setsLeadRow.holds Try.pinned (OpenSpec.ofChange setsLeadSpec)

/-- ITS FALSE NEIGHBOUR: 'it returns false'. Refute it at one input. -/
def setsLeadWrong : ChangeSpec := { name := "setsLead", fn := fun _ => fun
  | [d1, d2] => { results := [.lit (.bool false)], args := [d1, d2] }
  | _ => none }
def SetsLeadWrongFalsely : Prop := setsLeadRow.holds Try.pinned (OpenSpec.ofChange setsLeadWrong)

/-- 'quincunxlaw09.SetsGrow': WHATEVER THE INPUT: true; the input reads as it did. -/
def setsGrowSpec : ChangeSpec := { name := "setsGrow", fn := fun _ => fun
  | [d] => { results := [.lit (.bool true)], args := [d] }
  | _ => none }
def setsGrowRow : OpenClaim := { program := "ytigbfankkmmnbaa", sum := "6d700055856b6f60189f8fa01c0cd95588c93c9a73a38c808ca128778aa32ac9", func := "quincunx/quincunxlaw09.SetsGrow", spec := "setsGrow", unfollowed := true, recurses := true, apart := false }
def SetsGrowSaid : Prop := setsGrowRow.holds Try.pinned (OpenSpec.ofChange setsGrowSpec)

/-- ITS FALSE NEIGHBOUR: 'it returns false'. Refute it at one input. -/
def setsGrowWrong : ChangeSpec := { name := "setsGrow", fn := fun _ => fun
  | [d] => { results := [.lit (.bool false)], args := [d] }
  | _ => none }
def SetsGrowWrongFalsely : Prop := setsGrowRow.holds Try.pinned (OpenSpec.ofChange setsGrowWrong)

/-- 'quincunxlaw09.SetsSplit': WHATEVER THE INPUT: true; the input reads as it did. -/
def setsSplitSpec : ChangeSpec := { name := "setsSplit", fn := fun _ => fun
  | [d1, d2, d3] => { results := [.lit (.bool true)], args := [d1, d2, d3] }
  | _ => none }
def setsSplitRow : OpenClaim := { program := "ytigbfankkmmnbaa", sum := "6d700055856b6f60189f8fa01c0cd95588c93c9a73a38c808ca128778aa32ac9", func := "quincunx/quincunxlaw09.SetsSplit", spec := "setsSplit", unfollowed := true, recurses := true, apart := false }
def SetsSplitSaid : Prop := setsSplitRow.holds Try.pinned (OpenSpec.ofChange setsSplitSpec)

/-- ITS FALSE NEIGHBOUR: 'it returns false'. Refute it at one input. -/
def setsSplitWrong : ChangeSpec := { name := "setsSplit", fn := fun _ => fun
  | [d1, d2, d3] => { results := [.lit (.bool false)], args := [d1, d2, d3] }
  | _ => none }
def SetsSplitWrongFalsely : Prop := setsSplitRow.holds Try.pinned (OpenSpec.ofChange setsSplitWrong)

/-- 'quincunxlaw09.SetsShort': WHATEVER THE INPUT: true; the input reads as it did. -/
def setsShortSpec : ChangeSpec := { name := "setsShort", fn := fun _ => fun
  | [d] => { results := [.lit (.bool true)], args := [d] }
  | _ => none }
def setsShortRow : OpenClaim := { program := "ytigbfankkmmnbaa", sum := "6d700055856b6f60189f8fa01c0cd95588c93c9a73a38c808ca128778aa32ac9", func := "quincunx/quincunxlaw09.SetsShort", spec := "setsShort", unfollowed := true, recurses := true, apart := false }
def SetsShortSaid : Prop := setsShortRow.holds Try.pinned (OpenSpec.ofChange setsShortSpec)

/-- ITS FALSE NEIGHBOUR: 'it returns false'. Refute it at one input. -/
def setsShortWrong : ChangeSpec := { name := "setsShort", fn := fun _ => fun
  | [d] => { results := [.lit (.bool false)], args := [d] }
  | _ => none }
def SetsShortWrongFalsely : Prop := setsShortRow.holds Try.pinned (OpenSpec.ofChange setsShortWrong)

/-- 'quincunxlaw10.TablePredicts': WHATEVER THE INPUT: true; the input reads as it did. -/
def tablePredictsSpec : ChangeSpec := { name := "tablePredicts", fn := fun _ => fun
  | [d1, d2, d3] => { results := [.lit (.bool true)], args := [d1, d2, d3] }
  | _ => none }
def tablePredictsRow : OpenClaim := { program := "ytigbfankkmmnbaa", sum := "6d700055856b6f60189f8fa01c0cd95588c93c9a73a38c808ca128778aa32ac9", func := "quincunx/quincunxlaw10.TablePredicts", spec := "tablePredicts", unfollowed := true, recurses := true, apart := false }
def TablePredictsSaid : Prop := tablePredictsRow.holds Try.pinned (OpenSpec.ofChange tablePredictsSpec)

/-- ITS FALSE NEIGHBOUR: 'it returns false'. Refute it at one input. -/
def tablePredictsWrong : ChangeSpec := { name := "tablePredicts", fn := fun _ => fun
  | [d1, d2, d3] => { results := [.lit (.bool false)], args := [d1, d2, d3] }
  | _ => none }
def TablePredictsWrongFalsely : Prop := tablePredictsRow.holds Try.pinned (OpenSpec.ofChange tablePredictsWrong)

/-- 'quincunxlaw10.TableBuilds': WHATEVER THE INPUT: true; the input reads as it did. -/
def tableBuildsSpec : ChangeSpec := { name := "tableBuilds", fn := fun _ => fun
  | [d] => { results := [.lit (.bool true)], args := [d] }
  | _ => none }
def tableBuildsRow : OpenClaim := { program := "ytigbfankkmmnbaa", sum := "6d700055856b6f60189f8fa01c0cd95588c93c9a73a38c808ca128778aa32ac9", func := "quincunx/quincunxlaw10.TableBuilds", spec := "tableBuilds", unfollowed := true, recurses := true, apart := false }
def TableBuildsSaid : Prop := tableBuildsRow.holds Try.pinned (OpenSpec.ofChange tableBuildsSpec)

/-- ITS FALSE NEIGHBOUR: 'it returns false'. Refute it at one input. -/
def tableBuildsWrong : ChangeSpec := { name := "tableBuilds", fn := fun _ => fun
  | [d] => { results := [.lit (.bool false)], args := [d] }
  | _ => none }
def TableBuildsWrongFalsely : Prop := tableBuildsRow.holds Try.pinned (OpenSpec.ofChange tableBuildsWrong)

/-- 'quincunxlaw10.TableTextbook': WHATEVER THE INPUT: true; the input reads as it did. -/
def tableTextbookSpec : ChangeSpec := { name := "tableTextbook", fn := fun _ => fun
  | [d] => { results := [.lit (.bool true)], args := [d] }
  | _ => none }
def tableTextbookRow : OpenClaim := { program := "ytigbfankkmmnbaa", sum := "6d700055856b6f60189f8fa01c0cd95588c93c9a73a38c808ca128778aa32ac9", func := "quincunx/quincunxlaw10.TableTextbook", spec := "tableTextbook", unfollowed := true, recurses := true, apart := false }
def TableTextbookSaid : Prop := tableTextbookRow.holds Try.pinned (OpenSpec.ofChange tableTextbookSpec)

/-- ITS FALSE NEIGHBOUR: 'it returns false'. Refute it at one input. -/
def tableTextbookWrong : ChangeSpec := { name := "tableTextbook", fn := fun _ => fun
  | [d] => { results := [.lit (.bool false)], args := [d] }
  | _ => none }
def TableTextbookWrongFalsely : Prop := tableTextbookRow.holds Try.pinned (OpenSpec.ofChange tableTextbookWrong)

/-- 'quincunxlaw10.TableRows': WHATEVER THE INPUT: true; the input reads as it did. -/
def tableRowsSpec : ChangeSpec := { name := "tableRows", fn := fun _ => fun
  | [d] => { results := [.lit (.bool true)], args := [d] }
  | _ => none }
def tableRowsRow : OpenClaim := { program := "ytigbfankkmmnbaa", sum := "6d700055856b6f60189f8fa01c0cd95588c93c9a73a38c808ca128778aa32ac9", func := "quincunx/quincunxlaw10.TableRows", spec := "tableRows", unfollowed := true, recurses := true, apart := false }
def TableRowsSaid : Prop := tableRowsRow.holds Try.pinned (OpenSpec.ofChange tableRowsSpec)

/-- ITS FALSE NEIGHBOUR: 'it returns false'. Refute it at one input. -/
def tableRowsWrong : ChangeSpec := { name := "tableRows", fn := fun _ => fun
  | [d] => { results := [.lit (.bool false)], args := [d] }
  | _ => none }
def TableRowsWrongFalsely : Prop := tableRowsRow.holds Try.pinned (OpenSpec.ofChange tableRowsWrong)

/- THE SECOND FORM. 'bulk': how many values and letters a reading holds, each counted each time it is reached (what is shared counts as often as it is met; a slice's spare places count too). A statement '..UptoSaid' is the law's where the arguments, and the package variables that the reading takes, are together of bulk at most 1048576: NARROWER than '..Said'. Prove '..Said' where nothing that the law and all that it calls make is longer than what came in: it says more and counts as full. Else prove '..UptoSaid'. A law counts once. -/
mutual
def uptoBulk {H : Type} : DataW H → Nat
  | .lit (.string bytes) => bytes.length + 1
  | .lit _ => 1
  | .nil => 1
  | .ptr d => uptoBulk d + 1
  | .slice elems spare => uptoBulkAll elems + uptoBulkAll spare + 1
  | .agg parts => uptoBulkAll parts + 1
  | .iface _ d => uptoBulk d + 1
  | .map entries => uptoBulkEntries entries + 1
  | .held _ => 1
def uptoBulkAll {H : Type} : List (DataW H) → Nat
  | [] => 0
  | d :: r => uptoBulk d + uptoBulkAll r
def uptoBulkEntries {H : Type} : List (Lit × DataW H) → Nat
  | [] => 0
  | x :: r => uptoBulkEntry x + uptoBulkEntries r
def uptoBulkEntry {H : Type} : Lit × DataW H → Nat
  | (.string bytes, d) => bytes.length + uptoBulk d + 1
  | (_, d) => uptoBulk d + 1
 end
def uptoSmall : (H : Type) → List (DataW H) → Bool := fun _ ds => decide (uptoBulkAll ds ≤ 1048576)
def OpenSpec.upto (s : _root_.Go.ChangeSpec) : _root_.Go.OpenSpec := { _root_.Go.OpenSpec.ofChange s with cond := some uptoSmall }

/-- 'quincunxlaw09.SetsTell', WHERE WHAT IT READS IS OF BULK AT MOST 1048576: true; the input reads as it did. -/
def setsTellUptoRow : OpenClaim := { program := "ytigbfankkmmnbaa", sum := "6d700055856b6f60189f8fa01c0cd95588c93c9a73a38c808ca128778aa32ac9", func := "quincunx/quincunxlaw09.SetsTell", spec := "setsTell", unfollowed := true, recurses := true, apart := false, narrowed := true }
def SetsTellUptoSaid : Prop := setsTellUptoRow.holds Try.pinned (OpenSpec.upto setsTellSpec)

/-- 'quincunxlaw09.SetsLead', WHERE WHAT IT READS IS OF BULK AT MOST 1048576: true; the input reads as it did. -/
def setsLeadUptoRow : OpenClaim := { program := "ytigbfankkmmnbaa", sum := "6d700055856b6f60189f8fa01c0cd95588c93c9a73a38c808ca128778aa32ac9", func := "quincunx/quincunxlaw09.SetsLead", spec := "setsLead", unfollowed := true, recurses := true, apart := false, narrowed := true }
def SetsLeadUptoSaid : Prop := setsLeadUptoRow.holds Try.pinned (OpenSpec.upto setsLeadSpec)

/-- 'quincunxlaw09.SetsGrow', WHERE WHAT IT READS IS OF BULK AT MOST 1048576: true; the input reads as it did. -/
def setsGrowUptoRow : OpenClaim := { program := "ytigbfankkmmnbaa", sum := "6d700055856b6f60189f8fa01c0cd95588c93c9a73a38c808ca128778aa32ac9", func := "quincunx/quincunxlaw09.SetsGrow", spec := "setsGrow", unfollowed := true, recurses := true, apart := false, narrowed := true }
def SetsGrowUptoSaid : Prop := setsGrowUptoRow.holds Try.pinned (OpenSpec.upto setsGrowSpec)

/-- 'quincunxlaw09.SetsSplit', WHERE WHAT IT READS IS OF BULK AT MOST 1048576: true; the input reads as it did. -/
def setsSplitUptoRow : OpenClaim := { program := "ytigbfankkmmnbaa", sum := "6d700055856b6f60189f8fa01c0cd95588c93c9a73a38c808ca128778aa32ac9", func := "quincunx/quincunxlaw09.SetsSplit", spec := "setsSplit", unfollowed := true, recurses := true, apart := false, narrowed := true }
def SetsSplitUptoSaid : Prop := setsSplitUptoRow.holds Try.pinned (OpenSpec.upto setsSplitSpec)

/-- 'quincunxlaw09.SetsShort', WHERE WHAT IT READS IS OF BULK AT MOST 1048576: true; the input reads as it did. -/
def setsShortUptoRow : OpenClaim := { program := "ytigbfankkmmnbaa", sum := "6d700055856b6f60189f8fa01c0cd95588c93c9a73a38c808ca128778aa32ac9", func := "quincunx/quincunxlaw09.SetsShort", spec := "setsShort", unfollowed := true, recurses := true, apart := false, narrowed := true }
def SetsShortUptoSaid : Prop := setsShortUptoRow.holds Try.pinned (OpenSpec.upto setsShortSpec)

/-- 'quincunxlaw10.TablePredicts', WHERE WHAT IT READS IS OF BULK AT MOST 1048576: true; the input reads as it did. -/
def tablePredictsUptoRow : OpenClaim := { program := "ytigbfankkmmnbaa", sum := "6d700055856b6f60189f8fa01c0cd95588c93c9a73a38c808ca128778aa32ac9", func := "quincunx/quincunxlaw10.TablePredicts", spec := "tablePredicts", unfollowed := true, recurses := true, apart := false, narrowed := true }
def TablePredictsUptoSaid : Prop := tablePredictsUptoRow.holds Try.pinned (OpenSpec.upto tablePredictsSpec)

/-- 'quincunxlaw10.TableBuilds', WHERE WHAT IT READS IS OF BULK AT MOST 1048576: true; the input reads as it did. -/
def tableBuildsUptoRow : OpenClaim := { program := "ytigbfankkmmnbaa", sum := "6d700055856b6f60189f8fa01c0cd95588c93c9a73a38c808ca128778aa32ac9", func := "quincunx/quincunxlaw10.TableBuilds", spec := "tableBuilds", unfollowed := true, recurses := true, apart := false, narrowed := true }
def TableBuildsUptoSaid : Prop := tableBuildsUptoRow.holds Try.pinned (OpenSpec.upto tableBuildsSpec)

/-- 'quincunxlaw10.TableTextbook', WHERE WHAT IT READS IS OF BULK AT MOST 1048576: true; the input reads as it did. -/
def tableTextbookUptoRow : OpenClaim := { program := "ytigbfankkmmnbaa", sum := "6d700055856b6f60189f8fa01c0cd95588c93c9a73a38c808ca128778aa32ac9", func := "quincunx/quincunxlaw10.TableTextbook", spec := "tableTextbook", unfollowed := true, recurses := true, apart := false, narrowed := true }
def TableTextbookUptoSaid : Prop := tableTextbookUptoRow.holds Try.pinned (OpenSpec.upto tableTextbookSpec)

/-- 'quincunxlaw10.TableRows', WHERE WHAT IT READS IS OF BULK AT MOST 1048576: true; the input reads as it did. -/
def tableRowsUptoRow : OpenClaim := { program := "ytigbfankkmmnbaa", sum := "6d700055856b6f60189f8fa01c0cd95588c93c9a73a38c808ca128778aa32ac9", func := "quincunx/quincunxlaw10.TableRows", spec := "tableRows", unfollowed := true, recurses := true, apart := false, narrowed := true }
def TableRowsUptoSaid : Prop := tableRowsUptoRow.holds Try.pinned (OpenSpec.upto tableRowsSpec)

end Rows
end Go.Proofs.Ytigbfankkmmnbaa
