/-
  No cell of these rows narrows 'for every input' (looked for: loops, veiled, ifaces, maps, wideKeys, modest, calm, conditions, laid).
  DERIVED. THE GIVEN ROWS OF THIS SEAT. 3 by the template 'for every input the law returns true; each argument reads behind the call as it read before'; 0 by the template 'total and deterministic' (their statements: YtbdjdkfjbbhoeaaTotals.lean).
  GIVEN WITH THE SEED: the statements are not yours to turn. If you find one false, say at which input.
  Laid BY PROGRAM, IN A SANDBOX (cutbox-rows.mjs): the forced cells as the released guide's own fill.sh prints them over the translation ad05d736c873cf8c… (all of the seat's roots in one cut). By AI agents, Wed Nov 11 2026. No macro, syntax, notation, axiom, sorry.
-/
import Derived.Test.YtbdjdkfjbbhoeaaChecked
import GoSem.Claim
import GoSem.ClaimJoined
import GoSem.ClaimMapViews
import Derived.JoinedTies
import Derived.KernelRfl
namespace Go.Proofs.Ytbdjdkfjbbhoeaa
/- THE CELL 'sum', in the pinned program and in every row, IS THE sha256 OF THE DUMP (.gsa) THAT YtbdjdkfjbbhoeaaProg.lean LOADS. Nothing in Lean hashes anything: it is a label: what it is worth is what the hold of that sum in a sandbox is worth. -/
noncomputable def Try.pinned : Pinned := { name := "ytbdjdkfjbbhoeaa", sum := "ad05d736c873cf8c1c775dda6f0c157caea3c0e82fb2ba6f27b16f8972f579a6", checked := Try.checked }
namespace Rows
def none {H : Type} : Left H := { results := [], args := [] }

/-- 'rhizomelaw12.CostSizes': WHATEVER THE INPUT: true; the input reads as it did. -/
def costSizesSpec : ChangeSpec := { name := "costSizes", fn := fun _ => fun
  | [d1, d2] => { results := [.lit (.bool true)], args := [d1, d2] }
  | _ => none }
def costSizesRow : OpenClaim := { program := "ytbdjdkfjbbhoeaa", sum := "ad05d736c873cf8c1c775dda6f0c157caea3c0e82fb2ba6f27b16f8972f579a6", func := "rhizome/rhizomelaw12.CostSizes", spec := "costSizes", inPlace := ["math.Float64bits"], unfollowed := true, recurses := true, apart := false }
def CostSizesSaid : Prop := costSizesRow.holds Try.pinned (OpenSpec.ofChange costSizesSpec)

/-- ITS FALSE NEIGHBOUR: 'it returns false'. Refute it at one input. -/
def costSizesWrong : ChangeSpec := { name := "costSizes", fn := fun _ => fun
  | [d1, d2] => { results := [.lit (.bool false)], args := [d1, d2] }
  | _ => none }
def CostSizesWrongFalsely : Prop := costSizesRow.holds Try.pinned (OpenSpec.ofChange costSizesWrong)

/-- 'rhizomelaw12.CostLess': WHATEVER THE INPUT: true; the input reads as it did. -/
def costLessSpec : ChangeSpec := { name := "costLess", fn := fun _ => fun
  | [d1, d2, d3] => { results := [.lit (.bool true)], args := [d1, d2, d3] }
  | _ => none }
def costLessRow : OpenClaim := { program := "ytbdjdkfjbbhoeaa", sum := "ad05d736c873cf8c1c775dda6f0c157caea3c0e82fb2ba6f27b16f8972f579a6", func := "rhizome/rhizomelaw12.CostLess", spec := "costLess", unfollowed := true, recurses := true, apart := false }
def CostLessSaid : Prop := costLessRow.holds Try.pinned (OpenSpec.ofChange costLessSpec)

/-- ITS FALSE NEIGHBOUR: 'it returns false'. Refute it at one input. -/
def costLessWrong : ChangeSpec := { name := "costLess", fn := fun _ => fun
  | [d1, d2, d3] => { results := [.lit (.bool false)], args := [d1, d2, d3] }
  | _ => none }
def CostLessWrongFalsely : Prop := costLessRow.holds Try.pinned (OpenSpec.ofChange costLessWrong)

/-- 'rhizomelaw12.CostMore': WHATEVER THE INPUT: true; the input reads as it did. -/
def costMoreSpec : ChangeSpec := { name := "costMore", fn := fun _ => fun
  | [d1, d2, d3] => { results := [.lit (.bool true)], args := [d1, d2, d3] }
  | _ => none }
def costMoreRow : OpenClaim := { program := "ytbdjdkfjbbhoeaa", sum := "ad05d736c873cf8c1c775dda6f0c157caea3c0e82fb2ba6f27b16f8972f579a6", func := "rhizome/rhizomelaw12.CostMore", spec := "costMore", unfollowed := true, recurses := true, apart := false }
def CostMoreSaid : Prop := costMoreRow.holds Try.pinned (OpenSpec.ofChange costMoreSpec)

/-- ITS FALSE NEIGHBOUR: 'it returns false'. Refute it at one input. -/
def costMoreWrong : ChangeSpec := { name := "costMore", fn := fun _ => fun
  | [d1, d2, d3] => { results := [.lit (.bool false)], args := [d1, d2, d3] }
  | _ => none }
def CostMoreWrongFalsely : Prop := costMoreRow.holds Try.pinned (OpenSpec.ofChange costMoreWrong)

/- THE SECOND FORM. 'bulk': how many values and letters a reading holds, each counted each time it is reached (what is shared counts as often as it is met; a slice's spare places count too). A statement '..UptoSaid' is the law's where the arguments, and the package variables that the reading takes, are together of bulk at most 1048576: NARROWER than '..Said'. Prove '..Said' where nothing that the law and all that it calls make is longer than what came in: it says more and counts as full. Else prove '..UptoSaid'. A law counts once. -/
mutual
def uptoBulk {H : Type} : DataW H → Nat
  | .lit (.string bytes) => bytes.length + 1
  | .lit _ => 1
  | .nil => 1
  | .ptr d => uptoBulk d + 1
  | .slice elems spare => uptoBulkAll elems + uptoBulkAll spare + 1
  | .agg parts => uptoBulkAll parts + 1
  | .iface _ d => uptoBulk d + 1
  | .map entries => uptoBulkEntries entries + 1
  | .held _ => 1
def uptoBulkAll {H : Type} : List (DataW H) → Nat
  | [] => 0
  | d :: r => uptoBulk d + uptoBulkAll r
def uptoBulkEntries {H : Type} : List (Lit × DataW H) → Nat
  | [] => 0
  | x :: r => uptoBulkEntry x + uptoBulkEntries r
def uptoBulkEntry {H : Type} : Lit × DataW H → Nat
  | (.string bytes, d) => bytes.length + uptoBulk d + 1
  | (_, d) => uptoBulk d + 1
 end
def uptoSmall : (H : Type) → List (DataW H) → Bool := fun _ ds => decide (uptoBulkAll ds ≤ 1048576)
def OpenSpec.upto (s : _root_.Go.ChangeSpec) : _root_.Go.OpenSpec := { _root_.Go.OpenSpec.ofChange s with cond := some uptoSmall }

/-- 'rhizomelaw12.CostSizes', WHERE WHAT IT READS IS OF BULK AT MOST 1048576: true; the input reads as it did. -/
def costSizesUptoRow : OpenClaim := { program := "ytbdjdkfjbbhoeaa", sum := "ad05d736c873cf8c1c775dda6f0c157caea3c0e82fb2ba6f27b16f8972f579a6", func := "rhizome/rhizomelaw12.CostSizes", spec := "costSizes", inPlace := ["math.Float64bits"], unfollowed := true, recurses := true, apart := false, narrowed := true }
def CostSizesUptoSaid : Prop := costSizesUptoRow.holds Try.pinned (OpenSpec.upto costSizesSpec)

/-- 'rhizomelaw12.CostLess', WHERE WHAT IT READS IS OF BULK AT MOST 1048576: true; the input reads as it did. -/
def costLessUptoRow : OpenClaim := { program := "ytbdjdkfjbbhoeaa", sum := "ad05d736c873cf8c1c775dda6f0c157caea3c0e82fb2ba6f27b16f8972f579a6", func := "rhizome/rhizomelaw12.CostLess", spec := "costLess", unfollowed := true, recurses := true, apart := false, narrowed := true }
def CostLessUptoSaid : Prop := costLessUptoRow.holds Try.pinned (OpenSpec.upto costLessSpec)

/-- 'rhizomelaw12.CostMore', WHERE WHAT IT READS IS OF BULK AT MOST 1048576: true; the input reads as it did. -/
def costMoreUptoRow : OpenClaim := { program := "ytbdjdkfjbbhoeaa", sum := "ad05d736c873cf8c1c775dda6f0c157caea3c0e82fb2ba6f27b16f8972f579a6", func := "rhizome/rhizomelaw12.CostMore", spec := "costMore", unfollowed := true, recurses := true, apart := false, narrowed := true }
def CostMoreUptoSaid : Prop := costMoreUptoRow.holds Try.pinned (OpenSpec.upto costMoreSpec)

end Rows
end Go.Proofs.Ytbdjdkfjbbhoeaa
