/-
  No cell of these rows narrows 'for every input' (looked for: loops, veiled, ifaces, maps, wideKeys, modest, calm, conditions, laid).
  DERIVED. THE GIVEN ROWS OF THIS SEAT. 4 by the template 'for every input the law returns true; each argument reads behind the call as it read before'; 0 by the template 'total and deterministic' (their statements: YtgjobbapnileiaaTotals.lean).
  GIVEN WITH THE SEED: the statements are not yours to turn. If you find one false, say at which input.
  Laid BY PROGRAM, IN A SANDBOX (cutbox-rows.mjs): the forced cells as the released guide's own fill.sh prints them over the translation e45a90970101d1d8… (all of the seat's roots in one cut). By AI agents, Wed Nov 11 2026. No macro, syntax, notation, axiom, sorry.
-/
import Derived.Test.YtgjobbapnileiaaChecked
import GoSem.Claim
import GoSem.ClaimJoined
import GoSem.ClaimMapViews
import Derived.JoinedTies
import Derived.KernelRfl
namespace Go.Proofs.Ytgjobbapnileiaa
/- THE CELL 'sum', in the pinned program and in every row, IS THE sha256 OF THE DUMP (.gsa) THAT YtgjobbapnileiaaProg.lean LOADS. Nothing in Lean hashes anything: it is a label: what it is worth is what the hold of that sum in a sandbox is worth. -/
noncomputable def Try.pinned : Pinned := { name := "ytgjobbapnileiaa", sum := "e45a90970101d1d81ac3fb1abdf8211b6694b69a2260bae2fe80b4e005c54482", checked := Try.checked }
namespace Rows
def none {H : Type} : Left H := { results := [], args := [] }

/-- 'quincunxlaw12.DeriveAll': WHATEVER THE INPUT: true; the input reads as it did. -/
def deriveAllSpec : ChangeSpec := { name := "deriveAll", fn := fun _ => fun
  | [d1, d2, d3] => { results := [.lit (.bool true)], args := [d1, d2, d3] }
  | _ => none }
def deriveAllRow : OpenClaim := { program := "ytgjobbapnileiaa", sum := "e45a90970101d1d81ac3fb1abdf8211b6694b69a2260bae2fe80b4e005c54482", func := "quincunx/quincunxlaw12.DeriveAll", spec := "deriveAll", inPlace := ["slices.overlaps[[]int]"], unfollowed := true, recurses := true, plainKeys := false, apart := false }
def DeriveAllSaid : Prop := deriveAllRow.holds Try.pinned (OpenSpec.ofChange deriveAllSpec)

/-- ITS FALSE NEIGHBOUR: 'it returns false'. Refute it at one input. -/
def deriveAllWrong : ChangeSpec := { name := "deriveAll", fn := fun _ => fun
  | [d1, d2, d3] => { results := [.lit (.bool false)], args := [d1, d2, d3] }
  | _ => none }
def DeriveAllWrongFalsely : Prop := deriveAllRow.holds Try.pinned (OpenSpec.ofChange deriveAllWrong)

/-- 'quincunxlaw12.DeriveBoth': WHATEVER THE INPUT: true; the input reads as it did. -/
def deriveBothSpec : ChangeSpec := { name := "deriveBoth", fn := fun _ => fun
  | [d1, d2, d3, d4] => { results := [.lit (.bool true)], args := [d1, d2, d3, d4] }
  | _ => none }
def deriveBothRow : OpenClaim := { program := "ytgjobbapnileiaa", sum := "e45a90970101d1d81ac3fb1abdf8211b6694b69a2260bae2fe80b4e005c54482", func := "quincunx/quincunxlaw12.DeriveBoth", spec := "deriveBoth", inPlace := ["slices.overlaps[[]int]"], unfollowed := true, recurses := true, plainKeys := false, apart := false }
def DeriveBothSaid : Prop := deriveBothRow.holds Try.pinned (OpenSpec.ofChange deriveBothSpec)

/-- ITS FALSE NEIGHBOUR: 'it returns false'. Refute it at one input. -/
def deriveBothWrong : ChangeSpec := { name := "deriveBoth", fn := fun _ => fun
  | [d1, d2, d3, d4] => { results := [.lit (.bool false)], args := [d1, d2, d3, d4] }
  | _ => none }
def DeriveBothWrongFalsely : Prop := deriveBothRow.holds Try.pinned (OpenSpec.ofChange deriveBothWrong)

/-- 'quincunxlaw12.DeriveSplits': WHATEVER THE INPUT: true; the input reads as it did. -/
def deriveSplitsSpec : ChangeSpec := { name := "deriveSplits", fn := fun _ => fun
  | [d1, d2, d3, d4] => { results := [.lit (.bool true)], args := [d1, d2, d3, d4] }
  | _ => none }
def deriveSplitsRow : OpenClaim := { program := "ytgjobbapnileiaa", sum := "e45a90970101d1d81ac3fb1abdf8211b6694b69a2260bae2fe80b4e005c54482", func := "quincunx/quincunxlaw12.DeriveSplits", spec := "deriveSplits", inPlace := ["slices.overlaps[[]int]"], unfollowed := true, recurses := true, plainKeys := false, apart := false }
def DeriveSplitsSaid : Prop := deriveSplitsRow.holds Try.pinned (OpenSpec.ofChange deriveSplitsSpec)

/-- ITS FALSE NEIGHBOUR: 'it returns false'. Refute it at one input. -/
def deriveSplitsWrong : ChangeSpec := { name := "deriveSplits", fn := fun _ => fun
  | [d1, d2, d3, d4] => { results := [.lit (.bool false)], args := [d1, d2, d3, d4] }
  | _ => none }
def DeriveSplitsWrongFalsely : Prop := deriveSplitsRow.holds Try.pinned (OpenSpec.ofChange deriveSplitsWrong)

/-- 'quincunxlaw12.DeriveSelf': WHATEVER THE INPUT: true; the input reads as it did. -/
def deriveSelfSpec : ChangeSpec := { name := "deriveSelf", fn := fun _ => fun
  | [d1, d2, d3, d4] => { results := [.lit (.bool true)], args := [d1, d2, d3, d4] }
  | _ => none }
def deriveSelfRow : OpenClaim := { program := "ytgjobbapnileiaa", sum := "e45a90970101d1d81ac3fb1abdf8211b6694b69a2260bae2fe80b4e005c54482", func := "quincunx/quincunxlaw12.DeriveSelf", spec := "deriveSelf", inPlace := ["slices.overlaps[[]int]"], unfollowed := true, recurses := true, plainKeys := false, apart := false }
def DeriveSelfSaid : Prop := deriveSelfRow.holds Try.pinned (OpenSpec.ofChange deriveSelfSpec)

/-- ITS FALSE NEIGHBOUR: 'it returns false'. Refute it at one input. -/
def deriveSelfWrong : ChangeSpec := { name := "deriveSelf", fn := fun _ => fun
  | [d1, d2, d3, d4] => { results := [.lit (.bool false)], args := [d1, d2, d3, d4] }
  | _ => none }
def DeriveSelfWrongFalsely : Prop := deriveSelfRow.holds Try.pinned (OpenSpec.ofChange deriveSelfWrong)

/- THE SECOND FORM. 'bulk': how many values and letters a reading holds, each counted each time it is reached (what is shared counts as often as it is met; a slice's spare places count too). A statement '..UptoSaid' is the law's where the arguments, and the package variables that the reading takes, are together of bulk at most 1048576: NARROWER than '..Said'. Prove '..Said' where nothing that the law and all that it calls make is longer than what came in: it says more and counts as full. Else prove '..UptoSaid'. A law counts once. -/
mutual
def uptoBulk {H : Type} : DataW H → Nat
  | .lit (.string bytes) => bytes.length + 1
  | .lit _ => 1
  | .nil => 1
  | .ptr d => uptoBulk d + 1
  | .slice elems spare => uptoBulkAll elems + uptoBulkAll spare + 1
  | .agg parts => uptoBulkAll parts + 1
  | .iface _ d => uptoBulk d + 1
  | .map entries => uptoBulkEntries entries + 1
  | .held _ => 1
def uptoBulkAll {H : Type} : List (DataW H) → Nat
  | [] => 0
  | d :: r => uptoBulk d + uptoBulkAll r
def uptoBulkEntries {H : Type} : List (Lit × DataW H) → Nat
  | [] => 0
  | x :: r => uptoBulkEntry x + uptoBulkEntries r
def uptoBulkEntry {H : Type} : Lit × DataW H → Nat
  | (.string bytes, d) => bytes.length + uptoBulk d + 1
  | (_, d) => uptoBulk d + 1
 end
def uptoSmall : (H : Type) → List (DataW H) → Bool := fun _ ds => decide (uptoBulkAll ds ≤ 1048576)
def OpenSpec.upto (s : _root_.Go.ChangeSpec) : _root_.Go.OpenSpec := { _root_.Go.OpenSpec.ofChange s with cond := some uptoSmall }

/-- 'quincunxlaw12.DeriveAll', WHERE WHAT IT READS IS OF BULK AT MOST 1048576: true; the input reads as it did. -/
def deriveAllUptoRow : OpenClaim := { program := "ytgjobbapnileiaa", sum := "e45a90970101d1d81ac3fb1abdf8211b6694b69a2260bae2fe80b4e005c54482", func := "quincunx/quincunxlaw12.DeriveAll", spec := "deriveAll", inPlace := ["slices.overlaps[[]int]"], unfollowed := true, recurses := true, plainKeys := false, apart := false, narrowed := true }
def DeriveAllUptoSaid : Prop := deriveAllUptoRow.holds Try.pinned (OpenSpec.upto deriveAllSpec)

/-- 'quincunxlaw12.DeriveBoth', WHERE WHAT IT READS IS OF BULK AT MOST 1048576: true; the input reads as it did. -/
def deriveBothUptoRow : OpenClaim := { program := "ytgjobbapnileiaa", sum := "e45a90970101d1d81ac3fb1abdf8211b6694b69a2260bae2fe80b4e005c54482", func := "quincunx/quincunxlaw12.DeriveBoth", spec := "deriveBoth", inPlace := ["slices.overlaps[[]int]"], unfollowed := true, recurses := true, plainKeys := false, apart := false, narrowed := true }
def DeriveBothUptoSaid : Prop := deriveBothUptoRow.holds Try.pinned (OpenSpec.upto deriveBothSpec)

/-- 'quincunxlaw12.DeriveSplits', WHERE WHAT IT READS IS OF BULK AT MOST 1048576: true; the input reads as it did. -/
def deriveSplitsUptoRow : OpenClaim := { program := "ytgjobbapnileiaa", sum := "e45a90970101d1d81ac3fb1abdf8211b6694b69a2260bae2fe80b4e005c54482", func := "quincunx/quincunxlaw12.DeriveSplits", spec := "deriveSplits", inPlace := ["slices.overlaps[[]int]"], unfollowed := true, recurses := true, plainKeys := false, apart := false, narrowed := true }
def DeriveSplitsUptoSaid : Prop := deriveSplitsUptoRow.holds Try.pinned (OpenSpec.upto deriveSplitsSpec)

/-- 'quincunxlaw12.DeriveSelf', WHERE WHAT IT READS IS OF BULK AT MOST 1048576: true; the input reads as it did. -/
def deriveSelfUptoRow : OpenClaim := { program := "ytgjobbapnileiaa", sum := "e45a90970101d1d81ac3fb1abdf8211b6694b69a2260bae2fe80b4e005c54482", func := "quincunx/quincunxlaw12.DeriveSelf", spec := "deriveSelf", inPlace := ["slices.overlaps[[]int]"], unfollowed := true, recurses := true, plainKeys := false, apart := false, narrowed := true }
def DeriveSelfUptoSaid : Prop := deriveSelfUptoRow.holds Try.pinned (OpenSpec.upto deriveSelfSpec)

end Rows
end Go.Proofs.Ytgjobbapnileiaa
