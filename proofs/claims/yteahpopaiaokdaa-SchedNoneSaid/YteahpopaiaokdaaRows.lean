/-
  No cell of these rows narrows 'for every input' (looked for: loops, veiled, ifaces, maps, wideKeys, modest, calm, conditions, laid).
  DERIVED. THE GIVEN ROWS OF THIS SEAT. 11 by the template 'for every input the law returns true; each argument reads behind the call as it read before'; 0 by the template 'total and deterministic' (their statements: YteahpopaiaokdaaTotals.lean).
  GIVEN WITH THE SEED: the statements are not yours to turn. If you find one false, say at which input.
  Laid BY PROGRAM, IN A SANDBOX (cutbox-rows.mjs): the forced cells as the released guide's own fill.sh prints them over the translation 5b025ea8851e6b3d… (all of the seat's roots in one cut). By AI agents, Wed Nov 11 2026. No macro, syntax, notation, axiom, sorry.
-/
import Derived.Test.YteahpopaiaokdaaChecked
import GoSem.Claim
import GoSem.ClaimJoined
import GoSem.ClaimMapViews
import Derived.JoinedTies
import Derived.KernelRfl
namespace Go.Proofs.Yteahpopaiaokdaa
/- THE CELL 'sum', in the pinned program and in every row, IS THE sha256 OF THE DUMP (.gsa) THAT YteahpopaiaokdaaProg.lean LOADS. Nothing in Lean hashes anything: it is a label: what it is worth is what the hold of that sum in a sandbox is worth. -/
noncomputable def Try.pinned : Pinned := { name := "yteahpopaiaokdaa", sum := "5b025ea8851e6b3d7dfb3e1ed0a5a1aacf0d9047f29f2534eabefe039ec40b77", checked := Try.checked }
namespace Rows
def none {H : Type} : Left H := { results := [], args := [] }

/-- 'fairwaylaw22.HistoryNone': WHATEVER THE INPUT: true; the input reads as it did. -/
def historyNoneSpec : ChangeSpec := { name := "historyNone", fn := fun _ => fun
  | [d] => { results := [.lit (.bool true)], args := [d] }
  | _ => none }
def historyNoneRow : OpenClaim := { program := "yteahpopaiaokdaa", sum := "5b025ea8851e6b3d7dfb3e1ed0a5a1aacf0d9047f29f2534eabefe039ec40b77", func := "fairway/fairwaylaw22.HistoryNone", spec := "historyNone", apart := false }
def HistoryNoneSaid : Prop := historyNoneRow.holds Try.pinned (OpenSpec.ofChange historyNoneSpec)

/-- ITS FALSE NEIGHBOUR: 'it returns false'. Refute it at one input. -/
def historyNoneWrong : ChangeSpec := { name := "historyNone", fn := fun _ => fun
  | [d] => { results := [.lit (.bool false)], args := [d] }
  | _ => none }
def HistoryNoneWrongFalsely : Prop := historyNoneRow.holds Try.pinned (OpenSpec.ofChange historyNoneWrong)

/-- 'fairwaylaw22.HistoryOrder': WHATEVER THE INPUT: true; the input reads as it did. -/
def historyOrderSpec : ChangeSpec := { name := "historyOrder", fn := fun _ => fun
  | [d] => { results := [.lit (.bool true)], args := [d] }
  | _ => none }
def historyOrderRow : OpenClaim := { program := "yteahpopaiaokdaa", sum := "5b025ea8851e6b3d7dfb3e1ed0a5a1aacf0d9047f29f2534eabefe039ec40b77", func := "fairway/fairwaylaw22.HistoryOrder", spec := "historyOrder", apart := false }
def HistoryOrderSaid : Prop := historyOrderRow.holds Try.pinned (OpenSpec.ofChange historyOrderSpec)

/-- ITS FALSE NEIGHBOUR: 'it returns false'. Refute it at one input. -/
def historyOrderWrong : ChangeSpec := { name := "historyOrder", fn := fun _ => fun
  | [d] => { results := [.lit (.bool false)], args := [d] }
  | _ => none }
def HistoryOrderWrongFalsely : Prop := historyOrderRow.holds Try.pinned (OpenSpec.ofChange historyOrderWrong)

/-- 'fairwaylaw22.HistoryGrows': WHATEVER THE INPUT: true; the input reads as it did. -/
def historyGrowsSpec : ChangeSpec := { name := "historyGrows", fn := fun _ => fun
  | [d] => { results := [.lit (.bool true)], args := [d] }
  | _ => none }
def historyGrowsRow : OpenClaim := { program := "yteahpopaiaokdaa", sum := "5b025ea8851e6b3d7dfb3e1ed0a5a1aacf0d9047f29f2534eabefe039ec40b77", func := "fairway/fairwaylaw22.HistoryGrows", spec := "historyGrows", apart := false }
def HistoryGrowsSaid : Prop := historyGrowsRow.holds Try.pinned (OpenSpec.ofChange historyGrowsSpec)

/-- ITS FALSE NEIGHBOUR: 'it returns false'. Refute it at one input. -/
def historyGrowsWrong : ChangeSpec := { name := "historyGrows", fn := fun _ => fun
  | [d] => { results := [.lit (.bool false)], args := [d] }
  | _ => none }
def HistoryGrowsWrongFalsely : Prop := historyGrowsRow.holds Try.pinned (OpenSpec.ofChange historyGrowsWrong)

/-- 'fairwaylaw04.WindowsBounds': WHATEVER THE INPUT: true; the input reads as it did. -/
def windowsBoundsSpec : ChangeSpec := { name := "windowsBounds", fn := fun _ => fun
  | [d1, d2] => { results := [.lit (.bool true)], args := [d1, d2] }
  | _ => none }
def windowsBoundsRow : OpenClaim := { program := "yteahpopaiaokdaa", sum := "5b025ea8851e6b3d7dfb3e1ed0a5a1aacf0d9047f29f2534eabefe039ec40b77", func := "fairway/fairwaylaw04.WindowsBounds", spec := "windowsBounds", apart := false }
def WindowsBoundsSaid : Prop := windowsBoundsRow.holds Try.pinned (OpenSpec.ofChange windowsBoundsSpec)

/-- ITS FALSE NEIGHBOUR: 'it returns false'. Refute it at one input. -/
def windowsBoundsWrong : ChangeSpec := { name := "windowsBounds", fn := fun _ => fun
  | [d1, d2] => { results := [.lit (.bool false)], args := [d1, d2] }
  | _ => none }
def WindowsBoundsWrongFalsely : Prop := windowsBoundsRow.holds Try.pinned (OpenSpec.ofChange windowsBoundsWrong)

/-- 'fairwaylaw04.WindowsPlay': WHATEVER THE INPUT: true; the input reads as it did. -/
def windowsPlaySpec : ChangeSpec := { name := "windowsPlay", fn := fun _ => fun
  | [d1, d2, d3] => { results := [.lit (.bool true)], args := [d1, d2, d3] }
  | _ => none }
def windowsPlayRow : OpenClaim := { program := "yteahpopaiaokdaa", sum := "5b025ea8851e6b3d7dfb3e1ed0a5a1aacf0d9047f29f2534eabefe039ec40b77", func := "fairway/fairwaylaw04.WindowsPlay", spec := "windowsPlay", apart := false }
def WindowsPlaySaid : Prop := windowsPlayRow.holds Try.pinned (OpenSpec.ofChange windowsPlaySpec)

/-- ITS FALSE NEIGHBOUR: 'it returns false'. Refute it at one input. -/
def windowsPlayWrong : ChangeSpec := { name := "windowsPlay", fn := fun _ => fun
  | [d1, d2, d3] => { results := [.lit (.bool false)], args := [d1, d2, d3] }
  | _ => none }
def WindowsPlayWrongFalsely : Prop := windowsPlayRow.holds Try.pinned (OpenSpec.ofChange windowsPlayWrong)

/-- 'fairwaylaw04.WindowsNone': WHATEVER THE INPUT: true; the input reads as it did. -/
def windowsNoneSpec : ChangeSpec := { name := "windowsNone", fn := fun _ => fun
  | [d] => { results := [.lit (.bool true)], args := [d] }
  | _ => none }
def windowsNoneRow : OpenClaim := { program := "yteahpopaiaokdaa", sum := "5b025ea8851e6b3d7dfb3e1ed0a5a1aacf0d9047f29f2534eabefe039ec40b77", func := "fairway/fairwaylaw04.WindowsNone", spec := "windowsNone", apart := false }
def WindowsNoneSaid : Prop := windowsNoneRow.holds Try.pinned (OpenSpec.ofChange windowsNoneSpec)

/-- ITS FALSE NEIGHBOUR: 'it returns false'. Refute it at one input. -/
def windowsNoneWrong : ChangeSpec := { name := "windowsNone", fn := fun _ => fun
  | [d] => { results := [.lit (.bool false)], args := [d] }
  | _ => none }
def WindowsNoneWrongFalsely : Prop := windowsNoneRow.holds Try.pinned (OpenSpec.ofChange windowsNoneWrong)

/-- 'fairwaylaw16.SchedCredit': WHATEVER THE INPUT: true; the input reads as it did. -/
def schedCreditSpec : ChangeSpec := { name := "schedCredit", fn := fun _ => fun
  | [d1, d2] => { results := [.lit (.bool true)], args := [d1, d2] }
  | _ => none }
def schedCreditRow : OpenClaim := { program := "yteahpopaiaokdaa", sum := "5b025ea8851e6b3d7dfb3e1ed0a5a1aacf0d9047f29f2534eabefe039ec40b77", func := "fairway/fairwaylaw16.SchedCredit", spec := "schedCredit", unfollowed := true, recurses := true, apart := false }
def SchedCreditSaid : Prop := schedCreditRow.holds Try.pinned (OpenSpec.ofChange schedCreditSpec)

/-- ITS FALSE NEIGHBOUR: 'it returns false'. Refute it at one input. -/
def schedCreditWrong : ChangeSpec := { name := "schedCredit", fn := fun _ => fun
  | [d1, d2] => { results := [.lit (.bool false)], args := [d1, d2] }
  | _ => none }
def SchedCreditWrongFalsely : Prop := schedCreditRow.holds Try.pinned (OpenSpec.ofChange schedCreditWrong)

/-- 'fairwaylaw16.SchedAll': WHATEVER THE INPUT: true; the input reads as it did. -/
def schedAllSpec : ChangeSpec := { name := "schedAll", fn := fun _ => fun
  | [d1, d2] => { results := [.lit (.bool true)], args := [d1, d2] }
  | _ => none }
def schedAllRow : OpenClaim := { program := "yteahpopaiaokdaa", sum := "5b025ea8851e6b3d7dfb3e1ed0a5a1aacf0d9047f29f2534eabefe039ec40b77", func := "fairway/fairwaylaw16.SchedAll", spec := "schedAll", unfollowed := true, recurses := true, apart := false }
def SchedAllSaid : Prop := schedAllRow.holds Try.pinned (OpenSpec.ofChange schedAllSpec)

/-- ITS FALSE NEIGHBOUR: 'it returns false'. Refute it at one input. -/
def schedAllWrong : ChangeSpec := { name := "schedAll", fn := fun _ => fun
  | [d1, d2] => { results := [.lit (.bool false)], args := [d1, d2] }
  | _ => none }
def SchedAllWrongFalsely : Prop := schedAllRow.holds Try.pinned (OpenSpec.ofChange schedAllWrong)

/-- 'fairwaylaw16.SchedWorks': WHATEVER THE INPUT: true; the input reads as it did. -/
def schedWorksSpec : ChangeSpec := { name := "schedWorks", fn := fun _ => fun
  | [d1, d2] => { results := [.lit (.bool true)], args := [d1, d2] }
  | _ => none }
def schedWorksRow : OpenClaim := { program := "yteahpopaiaokdaa", sum := "5b025ea8851e6b3d7dfb3e1ed0a5a1aacf0d9047f29f2534eabefe039ec40b77", func := "fairway/fairwaylaw16.SchedWorks", spec := "schedWorks", unfollowed := true, recurses := true, apart := false }
def SchedWorksSaid : Prop := schedWorksRow.holds Try.pinned (OpenSpec.ofChange schedWorksSpec)

/-- ITS FALSE NEIGHBOUR: 'it returns false'. Refute it at one input. -/
def schedWorksWrong : ChangeSpec := { name := "schedWorks", fn := fun _ => fun
  | [d1, d2] => { results := [.lit (.bool false)], args := [d1, d2] }
  | _ => none }
def SchedWorksWrongFalsely : Prop := schedWorksRow.holds Try.pinned (OpenSpec.ofChange schedWorksWrong)

/-- 'fairwaylaw16.SchedPlays': WHATEVER THE INPUT: true; the input reads as it did. -/
def schedPlaysSpec : ChangeSpec := { name := "schedPlays", fn := fun _ => fun
  | [d1, d2, d3] => { results := [.lit (.bool true)], args := [d1, d2, d3] }
  | _ => none }
def schedPlaysRow : OpenClaim := { program := "yteahpopaiaokdaa", sum := "5b025ea8851e6b3d7dfb3e1ed0a5a1aacf0d9047f29f2534eabefe039ec40b77", func := "fairway/fairwaylaw16.SchedPlays", spec := "schedPlays", unfollowed := true, recurses := true, apart := false }
def SchedPlaysSaid : Prop := schedPlaysRow.holds Try.pinned (OpenSpec.ofChange schedPlaysSpec)

/-- ITS FALSE NEIGHBOUR: 'it returns false'. Refute it at one input. -/
def schedPlaysWrong : ChangeSpec := { name := "schedPlays", fn := fun _ => fun
  | [d1, d2, d3] => { results := [.lit (.bool false)], args := [d1, d2, d3] }
  | _ => none }
def SchedPlaysWrongFalsely : Prop := schedPlaysRow.holds Try.pinned (OpenSpec.ofChange schedPlaysWrong)

/-- 'fairwaylaw16.SchedNone': WHATEVER THE INPUT: true; the input reads as it did. -/
def schedNoneSpec : ChangeSpec := { name := "schedNone", fn := fun _ => fun
  | [d] => { results := [.lit (.bool true)], args := [d] }
  | _ => none }
def schedNoneRow : OpenClaim := { program := "yteahpopaiaokdaa", sum := "5b025ea8851e6b3d7dfb3e1ed0a5a1aacf0d9047f29f2534eabefe039ec40b77", func := "fairway/fairwaylaw16.SchedNone", spec := "schedNone", unfollowed := true, recurses := true, apart := false }
def SchedNoneSaid : Prop := schedNoneRow.holds Try.pinned (OpenSpec.ofChange schedNoneSpec)

/-- ITS FALSE NEIGHBOUR: 'it returns false'. Refute it at one input. -/
def schedNoneWrong : ChangeSpec := { name := "schedNone", fn := fun _ => fun
  | [d] => { results := [.lit (.bool false)], args := [d] }
  | _ => none }
def SchedNoneWrongFalsely : Prop := schedNoneRow.holds Try.pinned (OpenSpec.ofChange schedNoneWrong)

/- THE SECOND FORM. 'bulk': how many values and letters a reading holds, each counted each time it is reached (what is shared counts as often as it is met; a slice's spare places count too). A statement '..UptoSaid' is the law's where the arguments, and the package variables that the reading takes, are together of bulk at most 1048576: NARROWER than '..Said'. Prove '..Said' where nothing that the law and all that it calls make is longer than what came in: it says more and counts as full. Else prove '..UptoSaid'. A law counts once. -/
mutual
def uptoBulk {H : Type} : DataW H → Nat
  | .lit (.string bytes) => bytes.length + 1
  | .lit _ => 1
  | .nil => 1
  | .ptr d => uptoBulk d + 1
  | .slice elems spare => uptoBulkAll elems + uptoBulkAll spare + 1
  | .agg parts => uptoBulkAll parts + 1
  | .iface _ d => uptoBulk d + 1
  | .map entries => uptoBulkEntries entries + 1
  | .held _ => 1
def uptoBulkAll {H : Type} : List (DataW H) → Nat
  | [] => 0
  | d :: r => uptoBulk d + uptoBulkAll r
def uptoBulkEntries {H : Type} : List (Lit × DataW H) → Nat
  | [] => 0
  | x :: r => uptoBulkEntry x + uptoBulkEntries r
def uptoBulkEntry {H : Type} : Lit × DataW H → Nat
  | (.string bytes, d) => bytes.length + uptoBulk d + 1
  | (_, d) => uptoBulk d + 1
 end
def uptoSmall : (H : Type) → List (DataW H) → Bool := fun _ ds => decide (uptoBulkAll ds ≤ 1048576)
def OpenSpec.upto (s : _root_.Go.ChangeSpec) : _root_.Go.OpenSpec := { _root_.Go.OpenSpec.ofChange s with cond := some uptoSmall }

/-- 'fairwaylaw22.HistoryNone', WHERE WHAT IT READS IS OF BULK AT MOST 1048576: true; the input reads as it did. -/
def historyNoneUptoRow : OpenClaim := { program := "yteahpopaiaokdaa", sum := "5b025ea8851e6b3d7dfb3e1ed0a5a1aacf0d9047f29f2534eabefe039ec40b77", func := "fairway/fairwaylaw22.HistoryNone", spec := "historyNone", apart := false, narrowed := true }
def HistoryNoneUptoSaid : Prop := historyNoneUptoRow.holds Try.pinned (OpenSpec.upto historyNoneSpec)

/-- 'fairwaylaw22.HistoryOrder', WHERE WHAT IT READS IS OF BULK AT MOST 1048576: true; the input reads as it did. -/
def historyOrderUptoRow : OpenClaim := { program := "yteahpopaiaokdaa", sum := "5b025ea8851e6b3d7dfb3e1ed0a5a1aacf0d9047f29f2534eabefe039ec40b77", func := "fairway/fairwaylaw22.HistoryOrder", spec := "historyOrder", apart := false, narrowed := true }
def HistoryOrderUptoSaid : Prop := historyOrderUptoRow.holds Try.pinned (OpenSpec.upto historyOrderSpec)

/-- 'fairwaylaw22.HistoryGrows', WHERE WHAT IT READS IS OF BULK AT MOST 1048576: true; the input reads as it did. -/
def historyGrowsUptoRow : OpenClaim := { program := "yteahpopaiaokdaa", sum := "5b025ea8851e6b3d7dfb3e1ed0a5a1aacf0d9047f29f2534eabefe039ec40b77", func := "fairway/fairwaylaw22.HistoryGrows", spec := "historyGrows", apart := false, narrowed := true }
def HistoryGrowsUptoSaid : Prop := historyGrowsUptoRow.holds Try.pinned (OpenSpec.upto historyGrowsSpec)

/-- 'fairwaylaw04.WindowsBounds', WHERE WHAT IT READS IS OF BULK AT MOST 1048576: true; the input reads as it did. -/
def windowsBoundsUptoRow : OpenClaim := { program := "yteahpopaiaokdaa", sum := "5b025ea8851e6b3d7dfb3e1ed0a5a1aacf0d9047f29f2534eabefe039ec40b77", func := "fairway/fairwaylaw04.WindowsBounds", spec := "windowsBounds", apart := false, narrowed := true }
def WindowsBoundsUptoSaid : Prop := windowsBoundsUptoRow.holds Try.pinned (OpenSpec.upto windowsBoundsSpec)

/-- 'fairwaylaw04.WindowsPlay', WHERE WHAT IT READS IS OF BULK AT MOST 1048576: true; the input reads as it did. -/
def windowsPlayUptoRow : OpenClaim := { program := "yteahpopaiaokdaa", sum := "5b025ea8851e6b3d7dfb3e1ed0a5a1aacf0d9047f29f2534eabefe039ec40b77", func := "fairway/fairwaylaw04.WindowsPlay", spec := "windowsPlay", apart := false, narrowed := true }
def WindowsPlayUptoSaid : Prop := windowsPlayUptoRow.holds Try.pinned (OpenSpec.upto windowsPlaySpec)

/-- 'fairwaylaw04.WindowsNone', WHERE WHAT IT READS IS OF BULK AT MOST 1048576: true; the input reads as it did. -/
def windowsNoneUptoRow : OpenClaim := { program := "yteahpopaiaokdaa", sum := "5b025ea8851e6b3d7dfb3e1ed0a5a1aacf0d9047f29f2534eabefe039ec40b77", func := "fairway/fairwaylaw04.WindowsNone", spec := "windowsNone", apart := false, narrowed := true }
def WindowsNoneUptoSaid : Prop := windowsNoneUptoRow.holds Try.pinned (OpenSpec.upto windowsNoneSpec)

/-- 'fairwaylaw16.SchedCredit', WHERE WHAT IT READS IS OF BULK AT MOST 1048576: true; the input reads as it did. -/
def schedCreditUptoRow : OpenClaim := { program := "yteahpopaiaokdaa", sum := "5b025ea8851e6b3d7dfb3e1ed0a5a1aacf0d9047f29f2534eabefe039ec40b77", func := "fairway/fairwaylaw16.SchedCredit", spec := "schedCredit", unfollowed := true, recurses := true, apart := false, narrowed := true }
def SchedCreditUptoSaid : Prop := schedCreditUptoRow.holds Try.pinned (OpenSpec.upto schedCreditSpec)

/-- 'fairwaylaw16.SchedAll', WHERE WHAT IT READS IS OF BULK AT MOST 1048576: true; the input reads as it did. -/
def schedAllUptoRow : OpenClaim := { program := "yteahpopaiaokdaa", sum := "5b025ea8851e6b3d7dfb3e1ed0a5a1aacf0d9047f29f2534eabefe039ec40b77", func := "fairway/fairwaylaw16.SchedAll", spec := "schedAll", unfollowed := true, recurses := true, apart := false, narrowed := true }
def SchedAllUptoSaid : Prop := schedAllUptoRow.holds Try.pinned (OpenSpec.upto schedAllSpec)

/-- 'fairwaylaw16.SchedWorks', WHERE WHAT IT READS IS OF BULK AT MOST 1048576: true; the input reads as it did. -/
def schedWorksUptoRow : OpenClaim := { program := "yteahpopaiaokdaa", sum := "5b025ea8851e6b3d7dfb3e1ed0a5a1aacf0d9047f29f2534eabefe039ec40b77", func := "fairway/fairwaylaw16.SchedWorks", spec := "schedWorks", unfollowed := true, recurses := true, apart := false, narrowed := true }
def SchedWorksUptoSaid : Prop := schedWorksUptoRow.holds Try.pinned (OpenSpec.upto schedWorksSpec)

/-- 'fairwaylaw16.SchedPlays', WHERE WHAT IT READS IS OF BULK AT MOST 1048576: true; the input reads as it did. -/
def schedPlaysUptoRow : OpenClaim := { program := "yteahpopaiaokdaa", sum := "5b025ea8851e6b3d7dfb3e1ed0a5a1aacf0d9047f29f2534eabefe039ec40b77", func := "fairway/fairwaylaw16.SchedPlays", spec := "schedPlays", unfollowed := true, recurses := true, apart := false, narrowed := true }
def SchedPlaysUptoSaid : Prop := schedPlaysUptoRow.holds Try.pinned (OpenSpec.upto schedPlaysSpec)

/-- 'fairwaylaw16.SchedNone', WHERE WHAT IT READS IS OF BULK AT MOST 1048576: true; the input reads as it did. -/
def schedNoneUptoRow : OpenClaim := { program := "yteahpopaiaokdaa", sum := "5b025ea8851e6b3d7dfb3e1ed0a5a1aacf0d9047f29f2534eabefe039ec40b77", func := "fairway/fairwaylaw16.SchedNone", spec := "schedNone", unfollowed := true, recurses := true, apart := false, narrowed := true }
def SchedNoneUptoSaid : Prop := schedNoneUptoRow.holds Try.pinned (OpenSpec.upto schedNoneSpec)

end Rows
end Go.Proofs.Yteahpopaiaokdaa
