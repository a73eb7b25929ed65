/-
  No cell of these rows narrows 'for every input' (looked for: loops, veiled, ifaces, maps, wideKeys, modest, calm, conditions, laid).
  DERIVED. THE GIVEN ROWS OF THIS SEAT. 6 by the template 'for every input the law returns true; each argument reads behind the call as it read before'; 0 by the template 'total and deterministic' (their statements: YtamghofogkdafaaTotals.lean).
  GIVEN WITH THE SEED: the statements are not yours to turn. If you find one false, say at which input.
  Laid BY PROGRAM, IN A SANDBOX (cutbox-rows.mjs): the forced cells as the released guide's own fill.sh prints them over the translation 30a41ff19f4cacdc… (all of the seat's roots in one cut). By AI agents, Wed Nov 11 2026. No macro, syntax, notation, axiom, sorry.
-/
import Derived.Test.YtamghofogkdafaaChecked
import GoSem.Claim
import GoSem.ClaimJoined
import GoSem.ClaimMapViews
import Derived.JoinedTies
import Derived.KernelRfl
namespace Go.Proofs.Ytamghofogkdafaa
/- THE CELL 'sum', in the pinned program and in every row, IS THE sha256 OF THE DUMP (.gsa) THAT YtamghofogkdafaaProg.lean LOADS. Nothing in Lean hashes anything: it is a label: what it is worth is what the hold of that sum in a sandbox is worth. -/
noncomputable def Try.pinned : Pinned := { name := "ytamghofogkdafaa", sum := "30a41ff19f4cacdc8c0c34c6c7fbe946450bc64febb47a0c4ac2974655a4acad", checked := Try.checked }
namespace Rows
def none {H : Type} : Left H := { results := [], args := [] }

/-- 'blazonlaw14.JournalReads': WHATEVER THE INPUT: true; the input reads as it did. -/
def journalReadsSpec : ChangeSpec := { name := "journalReads", fn := fun _ => fun
  | [d1, d2, d3, d4] => { results := [.lit (.bool true)], args := [d1, d2, d3, d4] }
  | _ => none }
def journalReadsRow : OpenClaim := { program := "ytamghofogkdafaa", sum := "30a41ff19f4cacdc8c0c34c6c7fbe946450bc64febb47a0c4ac2974655a4acad", func := "blazon/blazonlaw14.JournalReads", spec := "journalReads", unfollowed := true, recurses := true, plainKeys := false, apart := false }
def JournalReadsSaid : Prop := journalReadsRow.holds Try.pinned (OpenSpec.ofChange journalReadsSpec)

/-- ITS FALSE NEIGHBOUR: 'it returns false'. Refute it at one input. -/
def journalReadsWrong : ChangeSpec := { name := "journalReads", fn := fun _ => fun
  | [d1, d2, d3, d4] => { results := [.lit (.bool false)], args := [d1, d2, d3, d4] }
  | _ => none }
def JournalReadsWrongFalsely : Prop := journalReadsRow.holds Try.pinned (OpenSpec.ofChange journalReadsWrong)

/-- 'blazonlaw18.ReapNeeds': WHATEVER THE INPUT: true; the input reads as it did. -/
def reapNeedsSpec : ChangeSpec := { name := "reapNeeds", fn := fun _ => fun
  | [d1, d2] => { results := [.lit (.bool true)], args := [d1, d2] }
  | _ => none }
def reapNeedsRow : OpenClaim := { program := "ytamghofogkdafaa", sum := "30a41ff19f4cacdc8c0c34c6c7fbe946450bc64febb47a0c4ac2974655a4acad", func := "blazon/blazonlaw18.ReapNeeds", spec := "reapNeeds", inPlace := ["internal/bytealg.Compare"], unfollowed := true, recurses := true, plainKeys := false, apart := false }
def ReapNeedsSaid : Prop := reapNeedsRow.holds Try.pinned (OpenSpec.ofChange reapNeedsSpec)

/-- ITS FALSE NEIGHBOUR: 'it returns false'. Refute it at one input. -/
def reapNeedsWrong : ChangeSpec := { name := "reapNeeds", fn := fun _ => fun
  | [d1, d2] => { results := [.lit (.bool false)], args := [d1, d2] }
  | _ => none }
def ReapNeedsWrongFalsely : Prop := reapNeedsRow.holds Try.pinned (OpenSpec.ofChange reapNeedsWrong)

/-- 'blazonlaw18.ReapAgain': WHATEVER THE INPUT: true; the input reads as it did. -/
def reapAgainSpec : ChangeSpec := { name := "reapAgain", fn := fun _ => fun
  | [d] => { results := [.lit (.bool true)], args := [d] }
  | _ => none }
def reapAgainRow : OpenClaim := { program := "ytamghofogkdafaa", sum := "30a41ff19f4cacdc8c0c34c6c7fbe946450bc64febb47a0c4ac2974655a4acad", func := "blazon/blazonlaw18.ReapAgain", spec := "reapAgain", inPlace := ["internal/bytealg.Compare"], unfollowed := true, recurses := true, plainKeys := false, apart := false }
def ReapAgainSaid : Prop := reapAgainRow.holds Try.pinned (OpenSpec.ofChange reapAgainSpec)

/-- ITS FALSE NEIGHBOUR: 'it returns false'. Refute it at one input. -/
def reapAgainWrong : ChangeSpec := { name := "reapAgain", fn := fun _ => fun
  | [d] => { results := [.lit (.bool false)], args := [d] }
  | _ => none }
def ReapAgainWrongFalsely : Prop := reapAgainRow.holds Try.pinned (OpenSpec.ofChange reapAgainWrong)

/-- 'blazonlaw18.ReapBound': WHATEVER THE INPUT: true; the input reads as it did. -/
def reapBoundSpec : ChangeSpec := { name := "reapBound", fn := fun _ => fun
  | [d] => { results := [.lit (.bool true)], args := [d] }
  | _ => none }
def reapBoundRow : OpenClaim := { program := "ytamghofogkdafaa", sum := "30a41ff19f4cacdc8c0c34c6c7fbe946450bc64febb47a0c4ac2974655a4acad", func := "blazon/blazonlaw18.ReapBound", spec := "reapBound", inPlace := ["internal/bytealg.Compare"], unfollowed := true, recurses := true, plainKeys := false, apart := false }
def ReapBoundSaid : Prop := reapBoundRow.holds Try.pinned (OpenSpec.ofChange reapBoundSpec)

/-- ITS FALSE NEIGHBOUR: 'it returns false'. Refute it at one input. -/
def reapBoundWrong : ChangeSpec := { name := "reapBound", fn := fun _ => fun
  | [d] => { results := [.lit (.bool false)], args := [d] }
  | _ => none }
def ReapBoundWrongFalsely : Prop := reapBoundRow.holds Try.pinned (OpenSpec.ofChange reapBoundWrong)

/-- 'blazonlaw18.ReapKeeps': WHATEVER THE INPUT: true; the input reads as it did. -/
def reapKeepsSpec : ChangeSpec := { name := "reapKeeps", fn := fun _ => fun
  | [d] => { results := [.lit (.bool true)], args := [d] }
  | _ => none }
def reapKeepsRow : OpenClaim := { program := "ytamghofogkdafaa", sum := "30a41ff19f4cacdc8c0c34c6c7fbe946450bc64febb47a0c4ac2974655a4acad", func := "blazon/blazonlaw18.ReapKeeps", spec := "reapKeeps", inPlace := ["internal/bytealg.Compare"], unfollowed := true, recurses := true, plainKeys := false, apart := false }
def ReapKeepsSaid : Prop := reapKeepsRow.holds Try.pinned (OpenSpec.ofChange reapKeepsSpec)

/-- ITS FALSE NEIGHBOUR: 'it returns false'. Refute it at one input. -/
def reapKeepsWrong : ChangeSpec := { name := "reapKeeps", fn := fun _ => fun
  | [d] => { results := [.lit (.bool false)], args := [d] }
  | _ => none }
def ReapKeepsWrongFalsely : Prop := reapKeepsRow.holds Try.pinned (OpenSpec.ofChange reapKeepsWrong)

/-- 'blazonlaw15.StoreOrders': WHATEVER THE INPUT: true; the input reads as it did. -/
def storeOrdersSpec : ChangeSpec := { name := "storeOrders", fn := fun _ => fun
  | [d1, d2, d3] => { results := [.lit (.bool true)], args := [d1, d2, d3] }
  | _ => none }
def storeOrdersRow : OpenClaim := { program := "ytamghofogkdafaa", sum := "30a41ff19f4cacdc8c0c34c6c7fbe946450bc64febb47a0c4ac2974655a4acad", func := "blazon/blazonlaw15.StoreOrders", spec := "storeOrders", inPlace := ["maps.clone", "internal/bytealg.Compare"], unfollowed := true, recurses := true, plainKeys := false, apart := false }
def StoreOrdersSaid : Prop := storeOrdersRow.holds Try.pinned (OpenSpec.ofChange storeOrdersSpec)

/-- ITS FALSE NEIGHBOUR: 'it returns false'. Refute it at one input. -/
def storeOrdersWrong : ChangeSpec := { name := "storeOrders", fn := fun _ => fun
  | [d1, d2, d3] => { results := [.lit (.bool false)], args := [d1, d2, d3] }
  | _ => none }
def StoreOrdersWrongFalsely : Prop := storeOrdersRow.holds Try.pinned (OpenSpec.ofChange storeOrdersWrong)

/- THE SECOND FORM. 'bulk': how many values and letters a reading holds, each counted each time it is reached (what is shared counts as often as it is met; a slice's spare places count too). A statement '..UptoSaid' is the law's where the arguments, and the package variables that the reading takes, are together of bulk at most 1048576: NARROWER than '..Said'. Prove '..Said' where nothing that the law and all that it calls make is longer than what came in: it says more and counts as full. Else prove '..UptoSaid'. A law counts once. -/
mutual
def uptoBulk {H : Type} : DataW H → Nat
  | .lit (.string bytes) => bytes.length + 1
  | .lit _ => 1
  | .nil => 1
  | .ptr d => uptoBulk d + 1
  | .slice elems spare => uptoBulkAll elems + uptoBulkAll spare + 1
  | .agg parts => uptoBulkAll parts + 1
  | .iface _ d => uptoBulk d + 1
  | .map entries => uptoBulkEntries entries + 1
  | .held _ => 1
def uptoBulkAll {H : Type} : List (DataW H) → Nat
  | [] => 0
  | d :: r => uptoBulk d + uptoBulkAll r
def uptoBulkEntries {H : Type} : List (Lit × DataW H) → Nat
  | [] => 0
  | x :: r => uptoBulkEntry x + uptoBulkEntries r
def uptoBulkEntry {H : Type} : Lit × DataW H → Nat
  | (.string bytes, d) => bytes.length + uptoBulk d + 1
  | (_, d) => uptoBulk d + 1
 end
def uptoSmall : (H : Type) → List (DataW H) → Bool := fun _ ds => decide (uptoBulkAll ds ≤ 1048576)
def OpenSpec.upto (s : _root_.Go.ChangeSpec) : _root_.Go.OpenSpec := { _root_.Go.OpenSpec.ofChange s with cond := some uptoSmall }

/-- 'blazonlaw14.JournalReads', WHERE WHAT IT READS IS OF BULK AT MOST 1048576: true; the input reads as it did. -/
def journalReadsUptoRow : OpenClaim := { program := "ytamghofogkdafaa", sum := "30a41ff19f4cacdc8c0c34c6c7fbe946450bc64febb47a0c4ac2974655a4acad", func := "blazon/blazonlaw14.JournalReads", spec := "journalReads", unfollowed := true, recurses := true, plainKeys := false, apart := false, narrowed := true }
def JournalReadsUptoSaid : Prop := journalReadsUptoRow.holds Try.pinned (OpenSpec.upto journalReadsSpec)

/-- 'blazonlaw18.ReapNeeds', WHERE WHAT IT READS IS OF BULK AT MOST 1048576: true; the input reads as it did. -/
def reapNeedsUptoRow : OpenClaim := { program := "ytamghofogkdafaa", sum := "30a41ff19f4cacdc8c0c34c6c7fbe946450bc64febb47a0c4ac2974655a4acad", func := "blazon/blazonlaw18.ReapNeeds", spec := "reapNeeds", inPlace := ["internal/bytealg.Compare"], unfollowed := true, recurses := true, plainKeys := false, apart := false, narrowed := true }
def ReapNeedsUptoSaid : Prop := reapNeedsUptoRow.holds Try.pinned (OpenSpec.upto reapNeedsSpec)

/-- 'blazonlaw18.ReapAgain', WHERE WHAT IT READS IS OF BULK AT MOST 1048576: true; the input reads as it did. -/
def reapAgainUptoRow : OpenClaim := { program := "ytamghofogkdafaa", sum := "30a41ff19f4cacdc8c0c34c6c7fbe946450bc64febb47a0c4ac2974655a4acad", func := "blazon/blazonlaw18.ReapAgain", spec := "reapAgain", inPlace := ["internal/bytealg.Compare"], unfollowed := true, recurses := true, plainKeys := false, apart := false, narrowed := true }
def ReapAgainUptoSaid : Prop := reapAgainUptoRow.holds Try.pinned (OpenSpec.upto reapAgainSpec)

/-- 'blazonlaw18.ReapBound', WHERE WHAT IT READS IS OF BULK AT MOST 1048576: true; the input reads as it did. -/
def reapBoundUptoRow : OpenClaim := { program := "ytamghofogkdafaa", sum := "30a41ff19f4cacdc8c0c34c6c7fbe946450bc64febb47a0c4ac2974655a4acad", func := "blazon/blazonlaw18.ReapBound", spec := "reapBound", inPlace := ["internal/bytealg.Compare"], unfollowed := true, recurses := true, plainKeys := false, apart := false, narrowed := true }
def ReapBoundUptoSaid : Prop := reapBoundUptoRow.holds Try.pinned (OpenSpec.upto reapBoundSpec)

/-- 'blazonlaw18.ReapKeeps', WHERE WHAT IT READS IS OF BULK AT MOST 1048576: true; the input reads as it did. -/
def reapKeepsUptoRow : OpenClaim := { program := "ytamghofogkdafaa", sum := "30a41ff19f4cacdc8c0c34c6c7fbe946450bc64febb47a0c4ac2974655a4acad", func := "blazon/blazonlaw18.ReapKeeps", spec := "reapKeeps", inPlace := ["internal/bytealg.Compare"], unfollowed := true, recurses := true, plainKeys := false, apart := false, narrowed := true }
def ReapKeepsUptoSaid : Prop := reapKeepsUptoRow.holds Try.pinned (OpenSpec.upto reapKeepsSpec)

/-- 'blazonlaw15.StoreOrders', WHERE WHAT IT READS IS OF BULK AT MOST 1048576: true; the input reads as it did. -/
def storeOrdersUptoRow : OpenClaim := { program := "ytamghofogkdafaa", sum := "30a41ff19f4cacdc8c0c34c6c7fbe946450bc64febb47a0c4ac2974655a4acad", func := "blazon/blazonlaw15.StoreOrders", spec := "storeOrders", inPlace := ["maps.clone", "internal/bytealg.Compare"], unfollowed := true, recurses := true, plainKeys := false, apart := false, narrowed := true }
def StoreOrdersUptoSaid : Prop := storeOrdersUptoRow.holds Try.pinned (OpenSpec.upto storeOrdersSpec)

end Rows
end Go.Proofs.Ytamghofogkdafaa
