/-
  No cell of these rows narrows 'for every input' (looked for: loops, veiled, ifaces, maps, wideKeys, modest, calm, conditions, laid).
  DERIVED. THE GIVEN ROWS OF THIS SEAT. 10 by the template 'for every input the law returns true; each argument reads behind the call as it read before'; 0 by the template 'total and deterministic' (their statements: YtdncenepmkbolaaTotals.lean).
  GIVEN WITH THE SEED: the statements are not yours to turn. If you find one false, say at which input.
  Laid BY PROGRAM, IN A SANDBOX (cutbox-rows.mjs): the forced cells as the released guide's own fill.sh prints them over the translation 614a1418ce427462… (all of the seat's roots in one cut). By AI agents, Wed Nov 11 2026. No macro, syntax, notation, axiom, sorry.
-/
import Derived.Test.YtdncenepmkbolaaChecked
import GoSem.Claim
import GoSem.ClaimJoined
import GoSem.ClaimMapViews
import Derived.JoinedTies
import Derived.KernelRfl
namespace Go.Proofs.Ytdncenepmkbolaa
/- THE CELL 'sum', in the pinned program and in every row, IS THE sha256 OF THE DUMP (.gsa) THAT YtdncenepmkbolaaProg.lean LOADS. Nothing in Lean hashes anything: it is a label: what it is worth is what the hold of that sum in a sandbox is worth. -/
noncomputable def Try.pinned : Pinned := { name := "ytdncenepmkbolaa", sum := "614a1418ce4274626ecc7f9784155ab588d3e314c0efb9e6a1c151559dda3582", checked := Try.checked }
namespace Rows
def none {H : Type} : Left H := { results := [], args := [] }

/-- 'fairwaylaw03.RingsOrder': WHATEVER THE INPUT: true; the input reads as it did. -/
def ringsOrderSpec : ChangeSpec := { name := "ringsOrder", fn := fun _ => fun
  | [d1, d2] => { results := [.lit (.bool true)], args := [d1, d2] }
  | _ => none }
def ringsOrderRow : OpenClaim := { program := "ytdncenepmkbolaa", sum := "614a1418ce4274626ecc7f9784155ab588d3e314c0efb9e6a1c151559dda3582", func := "fairway/fairwaylaw03.RingsOrder", spec := "ringsOrder", apart := false }
def RingsOrderSaid : Prop := ringsOrderRow.holds Try.pinned (OpenSpec.ofChange ringsOrderSpec)

/-- ITS FALSE NEIGHBOUR: 'it returns false'. Refute it at one input. -/
def ringsOrderWrong : ChangeSpec := { name := "ringsOrder", fn := fun _ => fun
  | [d1, d2] => { results := [.lit (.bool false)], args := [d1, d2] }
  | _ => none }
def RingsOrderWrongFalsely : Prop := ringsOrderRow.holds Try.pinned (OpenSpec.ofChange ringsOrderWrong)

/-- 'fairwaylaw03.RingsPlay': WHATEVER THE INPUT: true; the input reads as it did. -/
def ringsPlaySpec : ChangeSpec := { name := "ringsPlay", fn := fun _ => fun
  | [d1, d2] => { results := [.lit (.bool true)], args := [d1, d2] }
  | _ => none }
def ringsPlayRow : OpenClaim := { program := "ytdncenepmkbolaa", sum := "614a1418ce4274626ecc7f9784155ab588d3e314c0efb9e6a1c151559dda3582", func := "fairway/fairwaylaw03.RingsPlay", spec := "ringsPlay", apart := false }
def RingsPlaySaid : Prop := ringsPlayRow.holds Try.pinned (OpenSpec.ofChange ringsPlaySpec)

/-- ITS FALSE NEIGHBOUR: 'it returns false'. Refute it at one input. -/
def ringsPlayWrong : ChangeSpec := { name := "ringsPlay", fn := fun _ => fun
  | [d1, d2] => { results := [.lit (.bool false)], args := [d1, d2] }
  | _ => none }
def RingsPlayWrongFalsely : Prop := ringsPlayRow.holds Try.pinned (OpenSpec.ofChange ringsPlayWrong)

/-- 'fairwaylaw16.SchedCredit': WHATEVER THE INPUT: true; the input reads as it did. -/
def schedCreditSpec : ChangeSpec := { name := "schedCredit", fn := fun _ => fun
  | [d1, d2] => { results := [.lit (.bool true)], args := [d1, d2] }
  | _ => none }
def schedCreditRow : OpenClaim := { program := "ytdncenepmkbolaa", sum := "614a1418ce4274626ecc7f9784155ab588d3e314c0efb9e6a1c151559dda3582", func := "fairway/fairwaylaw16.SchedCredit", spec := "schedCredit", unfollowed := true, recurses := true, apart := false }
def SchedCreditSaid : Prop := schedCreditRow.holds Try.pinned (OpenSpec.ofChange schedCreditSpec)

/-- ITS FALSE NEIGHBOUR: 'it returns false'. Refute it at one input. -/
def schedCreditWrong : ChangeSpec := { name := "schedCredit", fn := fun _ => fun
  | [d1, d2] => { results := [.lit (.bool false)], args := [d1, d2] }
  | _ => none }
def SchedCreditWrongFalsely : Prop := schedCreditRow.holds Try.pinned (OpenSpec.ofChange schedCreditWrong)

/-- 'fairwaylaw16.SchedAll': WHATEVER THE INPUT: true; the input reads as it did. -/
def schedAllSpec : ChangeSpec := { name := "schedAll", fn := fun _ => fun
  | [d1, d2] => { results := [.lit (.bool true)], args := [d1, d2] }
  | _ => none }
def schedAllRow : OpenClaim := { program := "ytdncenepmkbolaa", sum := "614a1418ce4274626ecc7f9784155ab588d3e314c0efb9e6a1c151559dda3582", func := "fairway/fairwaylaw16.SchedAll", spec := "schedAll", unfollowed := true, recurses := true, apart := false }
def SchedAllSaid : Prop := schedAllRow.holds Try.pinned (OpenSpec.ofChange schedAllSpec)

/-- ITS FALSE NEIGHBOUR: 'it returns false'. Refute it at one input. -/
def schedAllWrong : ChangeSpec := { name := "schedAll", fn := fun _ => fun
  | [d1, d2] => { results := [.lit (.bool false)], args := [d1, d2] }
  | _ => none }
def SchedAllWrongFalsely : Prop := schedAllRow.holds Try.pinned (OpenSpec.ofChange schedAllWrong)

/-- 'fairwaylaw16.SchedWorks': WHATEVER THE INPUT: true; the input reads as it did. -/
def schedWorksSpec : ChangeSpec := { name := "schedWorks", fn := fun _ => fun
  | [d1, d2] => { results := [.lit (.bool true)], args := [d1, d2] }
  | _ => none }
def schedWorksRow : OpenClaim := { program := "ytdncenepmkbolaa", sum := "614a1418ce4274626ecc7f9784155ab588d3e314c0efb9e6a1c151559dda3582", func := "fairway/fairwaylaw16.SchedWorks", spec := "schedWorks", unfollowed := true, recurses := true, apart := false }
def SchedWorksSaid : Prop := schedWorksRow.holds Try.pinned (OpenSpec.ofChange schedWorksSpec)

/-- ITS FALSE NEIGHBOUR: 'it returns false'. Refute it at one input. -/
def schedWorksWrong : ChangeSpec := { name := "schedWorks", fn := fun _ => fun
  | [d1, d2] => { results := [.lit (.bool false)], args := [d1, d2] }
  | _ => none }
def SchedWorksWrongFalsely : Prop := schedWorksRow.holds Try.pinned (OpenSpec.ofChange schedWorksWrong)

/-- 'fairwaylaw16.SchedPlays': WHATEVER THE INPUT: true; the input reads as it did. -/
def schedPlaysSpec : ChangeSpec := { name := "schedPlays", fn := fun _ => fun
  | [d1, d2, d3] => { results := [.lit (.bool true)], args := [d1, d2, d3] }
  | _ => none }
def schedPlaysRow : OpenClaim := { program := "ytdncenepmkbolaa", sum := "614a1418ce4274626ecc7f9784155ab588d3e314c0efb9e6a1c151559dda3582", func := "fairway/fairwaylaw16.SchedPlays", spec := "schedPlays", unfollowed := true, recurses := true, apart := false }
def SchedPlaysSaid : Prop := schedPlaysRow.holds Try.pinned (OpenSpec.ofChange schedPlaysSpec)

/-- ITS FALSE NEIGHBOUR: 'it returns false'. Refute it at one input. -/
def schedPlaysWrong : ChangeSpec := { name := "schedPlays", fn := fun _ => fun
  | [d1, d2, d3] => { results := [.lit (.bool false)], args := [d1, d2, d3] }
  | _ => none }
def SchedPlaysWrongFalsely : Prop := schedPlaysRow.holds Try.pinned (OpenSpec.ofChange schedPlaysWrong)

/-- 'fairwaylaw17.AdmitBars': WHATEVER THE INPUT: true; the input reads as it did. -/
def admitBarsSpec : ChangeSpec := { name := "admitBars", fn := fun _ => fun
  | [d1, d2] => { results := [.lit (.bool true)], args := [d1, d2] }
  | _ => none }
def admitBarsRow : OpenClaim := { program := "ytdncenepmkbolaa", sum := "614a1418ce4274626ecc7f9784155ab588d3e314c0efb9e6a1c151559dda3582", func := "fairway/fairwaylaw17.AdmitBars", spec := "admitBars", unfollowed := true, recurses := true, apart := false }
def AdmitBarsSaid : Prop := admitBarsRow.holds Try.pinned (OpenSpec.ofChange admitBarsSpec)

/-- ITS FALSE NEIGHBOUR: 'it returns false'. Refute it at one input. -/
def admitBarsWrong : ChangeSpec := { name := "admitBars", fn := fun _ => fun
  | [d1, d2] => { results := [.lit (.bool false)], args := [d1, d2] }
  | _ => none }
def AdmitBarsWrongFalsely : Prop := admitBarsRow.holds Try.pinned (OpenSpec.ofChange admitBarsWrong)

/-- 'fairwaylaw17.AdmitTimely': WHATEVER THE INPUT: true; the input reads as it did. -/
def admitTimelySpec : ChangeSpec := { name := "admitTimely", fn := fun _ => fun
  | [d1, d2] => { results := [.lit (.bool true)], args := [d1, d2] }
  | _ => none }
def admitTimelyRow : OpenClaim := { program := "ytdncenepmkbolaa", sum := "614a1418ce4274626ecc7f9784155ab588d3e314c0efb9e6a1c151559dda3582", func := "fairway/fairwaylaw17.AdmitTimely", spec := "admitTimely", unfollowed := true, recurses := true, apart := false }
def AdmitTimelySaid : Prop := admitTimelyRow.holds Try.pinned (OpenSpec.ofChange admitTimelySpec)

/-- ITS FALSE NEIGHBOUR: 'it returns false'. Refute it at one input. -/
def admitTimelyWrong : ChangeSpec := { name := "admitTimely", fn := fun _ => fun
  | [d1, d2] => { results := [.lit (.bool false)], args := [d1, d2] }
  | _ => none }
def AdmitTimelyWrongFalsely : Prop := admitTimelyRow.holds Try.pinned (OpenSpec.ofChange admitTimelyWrong)

/-- 'fairwaylaw17.AdmitSticks': WHATEVER THE INPUT: true; the input reads as it did. -/
def admitSticksSpec : ChangeSpec := { name := "admitSticks", fn := fun _ => fun
  | [d1, d2] => { results := [.lit (.bool true)], args := [d1, d2] }
  | _ => none }
def admitSticksRow : OpenClaim := { program := "ytdncenepmkbolaa", sum := "614a1418ce4274626ecc7f9784155ab588d3e314c0efb9e6a1c151559dda3582", func := "fairway/fairwaylaw17.AdmitSticks", spec := "admitSticks", unfollowed := true, recurses := true, apart := false }
def AdmitSticksSaid : Prop := admitSticksRow.holds Try.pinned (OpenSpec.ofChange admitSticksSpec)

/-- ITS FALSE NEIGHBOUR: 'it returns false'. Refute it at one input. -/
def admitSticksWrong : ChangeSpec := { name := "admitSticks", fn := fun _ => fun
  | [d1, d2] => { results := [.lit (.bool false)], args := [d1, d2] }
  | _ => none }
def AdmitSticksWrongFalsely : Prop := admitSticksRow.holds Try.pinned (OpenSpec.ofChange admitSticksWrong)

/-- 'fairwaylaw17.AdmitNone': WHATEVER THE INPUT: true; the input reads as it did. -/
def admitNoneSpec : ChangeSpec := { name := "admitNone", fn := fun _ => fun
  | [d1, d2] => { results := [.lit (.bool true)], args := [d1, d2] }
  | _ => none }
def admitNoneRow : OpenClaim := { program := "ytdncenepmkbolaa", sum := "614a1418ce4274626ecc7f9784155ab588d3e314c0efb9e6a1c151559dda3582", func := "fairway/fairwaylaw17.AdmitNone", spec := "admitNone", unfollowed := true, recurses := true, apart := false }
def AdmitNoneSaid : Prop := admitNoneRow.holds Try.pinned (OpenSpec.ofChange admitNoneSpec)

/-- ITS FALSE NEIGHBOUR: 'it returns false'. Refute it at one input. -/
def admitNoneWrong : ChangeSpec := { name := "admitNone", fn := fun _ => fun
  | [d1, d2] => { results := [.lit (.bool false)], args := [d1, d2] }
  | _ => none }
def AdmitNoneWrongFalsely : Prop := admitNoneRow.holds Try.pinned (OpenSpec.ofChange admitNoneWrong)

/- THE SECOND FORM. 'bulk': how many values and letters a reading holds, each counted each time it is reached (what is shared counts as often as it is met; a slice's spare places count too). A statement '..UptoSaid' is the law's where the arguments, and the package variables that the reading takes, are together of bulk at most 1048576: NARROWER than '..Said'. Prove '..Said' where nothing that the law and all that it calls make is longer than what came in: it says more and counts as full. Else prove '..UptoSaid'. A law counts once. -/
mutual
def uptoBulk {H : Type} : DataW H → Nat
  | .lit (.string bytes) => bytes.length + 1
  | .lit _ => 1
  | .nil => 1
  | .ptr d => uptoBulk d + 1
  | .slice elems spare => uptoBulkAll elems + uptoBulkAll spare + 1
  | .agg parts => uptoBulkAll parts + 1
  | .iface _ d => uptoBulk d + 1
  | .map entries => uptoBulkEntries entries + 1
  | .held _ => 1
def uptoBulkAll {H : Type} : List (DataW H) → Nat
  | [] => 0
  | d :: r => uptoBulk d + uptoBulkAll r
def uptoBulkEntries {H : Type} : List (Lit × DataW H) → Nat
  | [] => 0
  | x :: r => uptoBulkEntry x + uptoBulkEntries r
def uptoBulkEntry {H : Type} : Lit × DataW H → Nat
  | (.string bytes, d) => bytes.length + uptoBulk d + 1
  | (_, d) => uptoBulk d + 1
 end
def uptoSmall : (H : Type) → List (DataW H) → Bool := fun _ ds => decide (uptoBulkAll ds ≤ 1048576)
def OpenSpec.upto (s : _root_.Go.ChangeSpec) : _root_.Go.OpenSpec := { _root_.Go.OpenSpec.ofChange s with cond := some uptoSmall }

/-- 'fairwaylaw03.RingsOrder', WHERE WHAT IT READS IS OF BULK AT MOST 1048576: true; the input reads as it did. -/
def ringsOrderUptoRow : OpenClaim := { program := "ytdncenepmkbolaa", sum := "614a1418ce4274626ecc7f9784155ab588d3e314c0efb9e6a1c151559dda3582", func := "fairway/fairwaylaw03.RingsOrder", spec := "ringsOrder", apart := false, narrowed := true }
def RingsOrderUptoSaid : Prop := ringsOrderUptoRow.holds Try.pinned (OpenSpec.upto ringsOrderSpec)

/-- 'fairwaylaw03.RingsPlay', WHERE WHAT IT READS IS OF BULK AT MOST 1048576: true; the input reads as it did. -/
def ringsPlayUptoRow : OpenClaim := { program := "ytdncenepmkbolaa", sum := "614a1418ce4274626ecc7f9784155ab588d3e314c0efb9e6a1c151559dda3582", func := "fairway/fairwaylaw03.RingsPlay", spec := "ringsPlay", apart := false, narrowed := true }
def RingsPlayUptoSaid : Prop := ringsPlayUptoRow.holds Try.pinned (OpenSpec.upto ringsPlaySpec)

/-- 'fairwaylaw16.SchedCredit', WHERE WHAT IT READS IS OF BULK AT MOST 1048576: true; the input reads as it did. -/
def schedCreditUptoRow : OpenClaim := { program := "ytdncenepmkbolaa", sum := "614a1418ce4274626ecc7f9784155ab588d3e314c0efb9e6a1c151559dda3582", func := "fairway/fairwaylaw16.SchedCredit", spec := "schedCredit", unfollowed := true, recurses := true, apart := false, narrowed := true }
def SchedCreditUptoSaid : Prop := schedCreditUptoRow.holds Try.pinned (OpenSpec.upto schedCreditSpec)

/-- 'fairwaylaw16.SchedAll', WHERE WHAT IT READS IS OF BULK AT MOST 1048576: true; the input reads as it did. -/
def schedAllUptoRow : OpenClaim := { program := "ytdncenepmkbolaa", sum := "614a1418ce4274626ecc7f9784155ab588d3e314c0efb9e6a1c151559dda3582", func := "fairway/fairwaylaw16.SchedAll", spec := "schedAll", unfollowed := true, recurses := true, apart := false, narrowed := true }
def SchedAllUptoSaid : Prop := schedAllUptoRow.holds Try.pinned (OpenSpec.upto schedAllSpec)

/-- 'fairwaylaw16.SchedWorks', WHERE WHAT IT READS IS OF BULK AT MOST 1048576: true; the input reads as it did. -/
def schedWorksUptoRow : OpenClaim := { program := "ytdncenepmkbolaa", sum := "614a1418ce4274626ecc7f9784155ab588d3e314c0efb9e6a1c151559dda3582", func := "fairway/fairwaylaw16.SchedWorks", spec := "schedWorks", unfollowed := true, recurses := true, apart := false, narrowed := true }
def SchedWorksUptoSaid : Prop := schedWorksUptoRow.holds Try.pinned (OpenSpec.upto schedWorksSpec)

/-- 'fairwaylaw16.SchedPlays', WHERE WHAT IT READS IS OF BULK AT MOST 1048576: true; the input reads as it did. -/
def schedPlaysUptoRow : OpenClaim := { program := "ytdncenepmkbolaa", sum := "614a1418ce4274626ecc7f9784155ab588d3e314c0efb9e6a1c151559dda3582", func := "fairway/fairwaylaw16.SchedPlays", spec := "schedPlays", unfollowed := true, recurses := true, apart := false, narrowed := true }
def SchedPlaysUptoSaid : Prop := schedPlaysUptoRow.holds Try.pinned (OpenSpec.upto schedPlaysSpec)

/-- 'fairwaylaw17.AdmitBars', WHERE WHAT IT READS IS OF BULK AT MOST 1048576: true; the input reads as it did. -/
def admitBarsUptoRow : OpenClaim := { program := "ytdncenepmkbolaa", sum := "614a1418ce4274626ecc7f9784155ab588d3e314c0efb9e6a1c151559dda3582", func := "fairway/fairwaylaw17.AdmitBars", spec := "admitBars", unfollowed := true, recurses := true, apart := false, narrowed := true }
def AdmitBarsUptoSaid : Prop := admitBarsUptoRow.holds Try.pinned (OpenSpec.upto admitBarsSpec)

/-- 'fairwaylaw17.AdmitTimely', WHERE WHAT IT READS IS OF BULK AT MOST 1048576: true; the input reads as it did. -/
def admitTimelyUptoRow : OpenClaim := { program := "ytdncenepmkbolaa", sum := "614a1418ce4274626ecc7f9784155ab588d3e314c0efb9e6a1c151559dda3582", func := "fairway/fairwaylaw17.AdmitTimely", spec := "admitTimely", unfollowed := true, recurses := true, apart := false, narrowed := true }
def AdmitTimelyUptoSaid : Prop := admitTimelyUptoRow.holds Try.pinned (OpenSpec.upto admitTimelySpec)

/-- 'fairwaylaw17.AdmitSticks', WHERE WHAT IT READS IS OF BULK AT MOST 1048576: true; the input reads as it did. -/
def admitSticksUptoRow : OpenClaim := { program := "ytdncenepmkbolaa", sum := "614a1418ce4274626ecc7f9784155ab588d3e314c0efb9e6a1c151559dda3582", func := "fairway/fairwaylaw17.AdmitSticks", spec := "admitSticks", unfollowed := true, recurses := true, apart := false, narrowed := true }
def AdmitSticksUptoSaid : Prop := admitSticksUptoRow.holds Try.pinned (OpenSpec.upto admitSticksSpec)

/-- 'fairwaylaw17.AdmitNone', WHERE WHAT IT READS IS OF BULK AT MOST 1048576: true; the input reads as it did. -/
def admitNoneUptoRow : OpenClaim := { program := "ytdncenepmkbolaa", sum := "614a1418ce4274626ecc7f9784155ab588d3e314c0efb9e6a1c151559dda3582", func := "fairway/fairwaylaw17.AdmitNone", spec := "admitNone", unfollowed := true, recurses := true, apart := false, narrowed := true }
def AdmitNoneUptoSaid : Prop := admitNoneUptoRow.holds Try.pinned (OpenSpec.upto admitNoneSpec)

end Rows
end Go.Proofs.Ytdncenepmkbolaa
