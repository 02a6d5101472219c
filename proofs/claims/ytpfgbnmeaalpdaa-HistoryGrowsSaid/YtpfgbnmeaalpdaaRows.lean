/-
  No cell of these rows narrows 'for every input' (looked for: loops, veiled, ifaces, maps, wideKeys, modest, calm, conditions, laid).
  DERIVED. THE GIVEN ROWS OF THIS SEAT. 6 by the template 'for every input the law returns true; each argument reads behind the call as it read before'; 0 by the template 'total and deterministic' (their statements: YtpfgbnmeaalpdaaTotals.lean).
  GIVEN WITH THE SEED: the statements are not yours to turn. If you find one false, say at which input.
  Laid BY PROGRAM, IN A SANDBOX (cutbox-rows.mjs): the forced cells as the released guide's own fill.sh prints them over the translation 153f12094b9d68ca… (all of the seat's roots in one cut). By AI agents, Wed Nov 11 2026. No macro, syntax, notation, axiom, sorry.
-/
import Derived.Test.YtpfgbnmeaalpdaaChecked
import GoSem.Claim
import GoSem.ClaimJoined
import GoSem.ClaimMapViews
import Derived.JoinedTies
import Derived.KernelRfl
namespace Go.Proofs.Ytpfgbnmeaalpdaa
/- THE CELL 'sum', in the pinned program and in every row, IS THE sha256 OF THE DUMP (.gsa) THAT YtpfgbnmeaalpdaaProg.lean LOADS. Nothing in Lean hashes anything: it is a label: what it is worth is what the hold of that sum in a sandbox is worth. -/
noncomputable def Try.pinned : Pinned := { name := "ytpfgbnmeaalpdaa", sum := "153f12094b9d68cac66545bb9fc4f0ac92020faa2c6c5367e52b586493ff2fa6", checked := Try.checked }
namespace Rows
def none {H : Type} : Left H := { results := [], args := [] }

/-- 'fairwaylaw18.ReadsOnce': WHATEVER THE INPUT: true; the input reads as it did. -/
def readsOnceSpec : ChangeSpec := { name := "readsOnce", fn := fun _ => fun
  | [d1, d2] => { results := [.lit (.bool true)], args := [d1, d2] }
  | _ => none }
def readsOnceRow : OpenClaim := { program := "ytpfgbnmeaalpdaa", sum := "153f12094b9d68cac66545bb9fc4f0ac92020faa2c6c5367e52b586493ff2fa6", func := "fairway/fairwaylaw18.ReadsOnce", spec := "readsOnce", unfollowed := true, recurses := true, apart := false }
def ReadsOnceSaid : Prop := readsOnceRow.holds Try.pinned (OpenSpec.ofChange readsOnceSpec)

/-- ITS FALSE NEIGHBOUR: 'it returns false'. Refute it at one input. -/
def readsOnceWrong : ChangeSpec := { name := "readsOnce", fn := fun _ => fun
  | [d1, d2] => { results := [.lit (.bool false)], args := [d1, d2] }
  | _ => none }
def ReadsOnceWrongFalsely : Prop := readsOnceRow.holds Try.pinned (OpenSpec.ofChange readsOnceWrong)

/-- 'fairwaylaw18.ReadsPlay': WHATEVER THE INPUT: true; the input reads as it did. -/
def readsPlaySpec : ChangeSpec := { name := "readsPlay", fn := fun _ => fun
  | [d1, d2] => { results := [.lit (.bool true)], args := [d1, d2] }
  | _ => none }
def readsPlayRow : OpenClaim := { program := "ytpfgbnmeaalpdaa", sum := "153f12094b9d68cac66545bb9fc4f0ac92020faa2c6c5367e52b586493ff2fa6", func := "fairway/fairwaylaw18.ReadsPlay", spec := "readsPlay", unfollowed := true, recurses := true, apart := false }
def ReadsPlaySaid : Prop := readsPlayRow.holds Try.pinned (OpenSpec.ofChange readsPlaySpec)

/-- ITS FALSE NEIGHBOUR: 'it returns false'. Refute it at one input. -/
def readsPlayWrong : ChangeSpec := { name := "readsPlay", fn := fun _ => fun
  | [d1, d2] => { results := [.lit (.bool false)], args := [d1, d2] }
  | _ => none }
def ReadsPlayWrongFalsely : Prop := readsPlayRow.holds Try.pinned (OpenSpec.ofChange readsPlayWrong)

/-- 'fairwaylaw22.HistoryOrder': WHATEVER THE INPUT: true; the input reads as it did. -/
def historyOrderSpec : ChangeSpec := { name := "historyOrder", fn := fun _ => fun
  | [d] => { results := [.lit (.bool true)], args := [d] }
  | _ => none }
def historyOrderRow : OpenClaim := { program := "ytpfgbnmeaalpdaa", sum := "153f12094b9d68cac66545bb9fc4f0ac92020faa2c6c5367e52b586493ff2fa6", func := "fairway/fairwaylaw22.HistoryOrder", spec := "historyOrder", apart := false }
def HistoryOrderSaid : Prop := historyOrderRow.holds Try.pinned (OpenSpec.ofChange historyOrderSpec)

/-- ITS FALSE NEIGHBOUR: 'it returns false'. Refute it at one input. -/
def historyOrderWrong : ChangeSpec := { name := "historyOrder", fn := fun _ => fun
  | [d] => { results := [.lit (.bool false)], args := [d] }
  | _ => none }
def HistoryOrderWrongFalsely : Prop := historyOrderRow.holds Try.pinned (OpenSpec.ofChange historyOrderWrong)

/-- 'fairwaylaw22.HistoryGrows': WHATEVER THE INPUT: true; the input reads as it did. -/
def historyGrowsSpec : ChangeSpec := { name := "historyGrows", fn := fun _ => fun
  | [d] => { results := [.lit (.bool true)], args := [d] }
  | _ => none }
def historyGrowsRow : OpenClaim := { program := "ytpfgbnmeaalpdaa", sum := "153f12094b9d68cac66545bb9fc4f0ac92020faa2c6c5367e52b586493ff2fa6", func := "fairway/fairwaylaw22.HistoryGrows", spec := "historyGrows", apart := false }
def HistoryGrowsSaid : Prop := historyGrowsRow.holds Try.pinned (OpenSpec.ofChange historyGrowsSpec)

/-- ITS FALSE NEIGHBOUR: 'it returns false'. Refute it at one input. -/
def historyGrowsWrong : ChangeSpec := { name := "historyGrows", fn := fun _ => fun
  | [d] => { results := [.lit (.bool false)], args := [d] }
  | _ => none }
def HistoryGrowsWrongFalsely : Prop := historyGrowsRow.holds Try.pinned (OpenSpec.ofChange historyGrowsWrong)

/-- 'fairwaylaw04.WindowsBounds': WHATEVER THE INPUT: true; the input reads as it did. -/
def windowsBoundsSpec : ChangeSpec := { name := "windowsBounds", fn := fun _ => fun
  | [d1, d2] => { results := [.lit (.bool true)], args := [d1, d2] }
  | _ => none }
def windowsBoundsRow : OpenClaim := { program := "ytpfgbnmeaalpdaa", sum := "153f12094b9d68cac66545bb9fc4f0ac92020faa2c6c5367e52b586493ff2fa6", func := "fairway/fairwaylaw04.WindowsBounds", spec := "windowsBounds", apart := false }
def WindowsBoundsSaid : Prop := windowsBoundsRow.holds Try.pinned (OpenSpec.ofChange windowsBoundsSpec)

/-- ITS FALSE NEIGHBOUR: 'it returns false'. Refute it at one input. -/
def windowsBoundsWrong : ChangeSpec := { name := "windowsBounds", fn := fun _ => fun
  | [d1, d2] => { results := [.lit (.bool false)], args := [d1, d2] }
  | _ => none }
def WindowsBoundsWrongFalsely : Prop := windowsBoundsRow.holds Try.pinned (OpenSpec.ofChange windowsBoundsWrong)

/-- 'fairwaylaw04.WindowsPlay': WHATEVER THE INPUT: true; the input reads as it did. -/
def windowsPlaySpec : ChangeSpec := { name := "windowsPlay", fn := fun _ => fun
  | [d1, d2, d3] => { results := [.lit (.bool true)], args := [d1, d2, d3] }
  | _ => none }
def windowsPlayRow : OpenClaim := { program := "ytpfgbnmeaalpdaa", sum := "153f12094b9d68cac66545bb9fc4f0ac92020faa2c6c5367e52b586493ff2fa6", func := "fairway/fairwaylaw04.WindowsPlay", spec := "windowsPlay", apart := false }
def WindowsPlaySaid : Prop := windowsPlayRow.holds Try.pinned (OpenSpec.ofChange windowsPlaySpec)

/-- ITS FALSE NEIGHBOUR: 'it returns false'. Refute it at one input. -/
def windowsPlayWrong : ChangeSpec := { name := "windowsPlay", fn := fun _ => fun
  | [d1, d2, d3] => { results := [.lit (.bool false)], args := [d1, d2, d3] }
  | _ => none }
def WindowsPlayWrongFalsely : Prop := windowsPlayRow.holds Try.pinned (OpenSpec.ofChange windowsPlayWrong)

/- THE SECOND FORM. 'bulk': how many values and letters a reading holds, each counted each time it is reached (what is shared counts as often as it is met; a slice's spare places count too). A statement '..UptoSaid' is the law's where the arguments, and the package variables that the reading takes, are together of bulk at most 1048576: NARROWER than '..Said'. Prove '..Said' where nothing that the law and all that it calls make is longer than what came in: it says more and counts as full. Else prove '..UptoSaid'. A law counts once. -/
mutual
def uptoBulk {H : Type} : DataW H → Nat
  | .lit (.string bytes) => bytes.length + 1
  | .lit _ => 1
  | .nil => 1
  | .ptr d => uptoBulk d + 1
  | .slice elems spare => uptoBulkAll elems + uptoBulkAll spare + 1
  | .agg parts => uptoBulkAll parts + 1
  | .iface _ d => uptoBulk d + 1
  | .map entries => uptoBulkEntries entries + 1
  | .held _ => 1
def uptoBulkAll {H : Type} : List (DataW H) → Nat
  | [] => 0
  | d :: r => uptoBulk d + uptoBulkAll r
def uptoBulkEntries {H : Type} : List (Lit × DataW H) → Nat
  | [] => 0
  | x :: r => uptoBulkEntry x + uptoBulkEntries r
def uptoBulkEntry {H : Type} : Lit × DataW H → Nat
  | (.string bytes, d) => bytes.length + uptoBulk d + 1
  | (_, d) => uptoBulk d + 1
 end
def uptoSmall : (H : Type) → List (DataW H) → Bool := fun _ ds => decide (uptoBulkAll ds ≤ 1048576)
def OpenSpec.upto (s : _root_.Go.ChangeSpec) : _root_.Go.OpenSpec := { _root_.Go.OpenSpec.ofChange s with cond := some uptoSmall }

/-- 'fairwaylaw18.ReadsOnce', WHERE WHAT IT READS IS OF BULK AT MOST 1048576: true; the input reads as it did. -/
def readsOnceUptoRow : OpenClaim := { program := "ytpfgbnmeaalpdaa", sum := "153f12094b9d68cac66545bb9fc4f0ac92020faa2c6c5367e52b586493ff2fa6", func := "fairway/fairwaylaw18.ReadsOnce", spec := "readsOnce", unfollowed := true, recurses := true, apart := false, narrowed := true }
def ReadsOnceUptoSaid : Prop := readsOnceUptoRow.holds Try.pinned (OpenSpec.upto readsOnceSpec)

/-- 'fairwaylaw18.ReadsPlay', WHERE WHAT IT READS IS OF BULK AT MOST 1048576: true; the input reads as it did. -/
def readsPlayUptoRow : OpenClaim := { program := "ytpfgbnmeaalpdaa", sum := "153f12094b9d68cac66545bb9fc4f0ac92020faa2c6c5367e52b586493ff2fa6", func := "fairway/fairwaylaw18.ReadsPlay", spec := "readsPlay", unfollowed := true, recurses := true, apart := false, narrowed := true }
def ReadsPlayUptoSaid : Prop := readsPlayUptoRow.holds Try.pinned (OpenSpec.upto readsPlaySpec)

/-- 'fairwaylaw22.HistoryOrder', WHERE WHAT IT READS IS OF BULK AT MOST 1048576: true; the input reads as it did. -/
def historyOrderUptoRow : OpenClaim := { program := "ytpfgbnmeaalpdaa", sum := "153f12094b9d68cac66545bb9fc4f0ac92020faa2c6c5367e52b586493ff2fa6", func := "fairway/fairwaylaw22.HistoryOrder", spec := "historyOrder", apart := false, narrowed := true }
def HistoryOrderUptoSaid : Prop := historyOrderUptoRow.holds Try.pinned (OpenSpec.upto historyOrderSpec)

/-- 'fairwaylaw22.HistoryGrows', WHERE WHAT IT READS IS OF BULK AT MOST 1048576: true; the input reads as it did. -/
def historyGrowsUptoRow : OpenClaim := { program := "ytpfgbnmeaalpdaa", sum := "153f12094b9d68cac66545bb9fc4f0ac92020faa2c6c5367e52b586493ff2fa6", func := "fairway/fairwaylaw22.HistoryGrows", spec := "historyGrows", apart := false, narrowed := true }
def HistoryGrowsUptoSaid : Prop := historyGrowsUptoRow.holds Try.pinned (OpenSpec.upto historyGrowsSpec)

/-- 'fairwaylaw04.WindowsBounds', WHERE WHAT IT READS IS OF BULK AT MOST 1048576: true; the input reads as it did. -/
def windowsBoundsUptoRow : OpenClaim := { program := "ytpfgbnmeaalpdaa", sum := "153f12094b9d68cac66545bb9fc4f0ac92020faa2c6c5367e52b586493ff2fa6", func := "fairway/fairwaylaw04.WindowsBounds", spec := "windowsBounds", apart := false, narrowed := true }
def WindowsBoundsUptoSaid : Prop := windowsBoundsUptoRow.holds Try.pinned (OpenSpec.upto windowsBoundsSpec)

/-- 'fairwaylaw04.WindowsPlay', WHERE WHAT IT READS IS OF BULK AT MOST 1048576: true; the input reads as it did. -/
def windowsPlayUptoRow : OpenClaim := { program := "ytpfgbnmeaalpdaa", sum := "153f12094b9d68cac66545bb9fc4f0ac92020faa2c6c5367e52b586493ff2fa6", func := "fairway/fairwaylaw04.WindowsPlay", spec := "windowsPlay", apart := false, narrowed := true }
def WindowsPlayUptoSaid : Prop := windowsPlayUptoRow.holds Try.pinned (OpenSpec.upto windowsPlaySpec)

end Rows
end Go.Proofs.Ytpfgbnmeaalpdaa
