/-
  No cell of these rows narrows 'for every input' (looked for: loops, veiled, ifaces, maps, wideKeys, modest, calm, conditions, laid).
  DERIVED. THE GIVEN ROWS OF THIS SEAT. 8 by the template 'for every input the law returns true; each argument reads behind the call as it read before'; 0 by the template 'total and deterministic' (their statements: YtacedadenbinmaaTotals.lean).
  GIVEN WITH THE SEED: the statements are not yours to turn. If you find one false, say at which input.
  Laid BY PROGRAM, IN A SANDBOX (cutbox-rows.mjs): the forced cells as the released guide's own fill.sh prints them over the translation 5310cf7f63221efc… (all of the seat's roots in one cut). By AI agents, Wed Nov 11 2026. No macro, syntax, notation, axiom, sorry.
-/
import Derived.Test.YtacedadenbinmaaChecked
import GoSem.Claim
import GoSem.ClaimJoined
import GoSem.ClaimMapViews
import Derived.JoinedTies
import Derived.KernelRfl
namespace Go.Proofs.Ytacedadenbinmaa
/- THE CELL 'sum', in the pinned program and in every row, IS THE sha256 OF THE DUMP (.gsa) THAT YtacedadenbinmaaProg.lean LOADS. Nothing in Lean hashes anything: it is a label: what it is worth is what the hold of that sum in a sandbox is worth. -/
noncomputable def Try.pinned : Pinned := { name := "ytacedadenbinmaa", sum := "5310cf7f63221efce076997f237e1199eb0dc7019169d6a54bde3bf13ebf096a", checked := Try.checked }
namespace Rows
def none {H : Type} : Left H := { results := [], args := [] }

/-- 'laws.FnExactLoadLeast': WHATEVER THE INPUT: true; the input reads as it did. -/
def fnExactLoadLeastSpec : ChangeSpec := { name := "fnExactLoadLeast", fn := fun _ => fun
  | [d1, d2] => { results := [.lit (.bool true)], args := [d1, d2] }
  | _ => none }
def fnExactLoadLeastRow : OpenClaim := { program := "ytacedadenbinmaa", sum := "5310cf7f63221efce076997f237e1199eb0dc7019169d6a54bde3bf13ebf096a", func := "loop.example/chosensums/laws.FnExactLoadLeast", spec := "fnExactLoadLeast", inPlace := ["(*sync.WaitGroup).Add", "internal/race.ReleaseMerge", "internal/race.Disable", "internal/race.Enable", "internal/synctest.IsInBubble", "internal/synctest.Associate[sync.WaitGroup]", "sync.fatal", "sync/atomic.OrUint64", "sync/atomic.AddUint64", "internal/race.Read", "sync/atomic.LoadUint64", "sync/atomic.StoreUint64", "internal/synctest.Disassociate[sync.WaitGroup]", "sync.runtime_Semrelease", "(*sync.WaitGroup).Done", "(*sync.WaitGroup).Wait", "internal/race.Acquire", "internal/synctest.IsAssociated[sync.WaitGroup]", "sync/atomic.CompareAndSwapUint64", "internal/race.Write", "sync.runtime_SemacquireWaitGroup"], unfollowed := true, recurses := true, leaving := true, apart := false }
def FnExactLoadLeastSaid : Prop := fnExactLoadLeastRow.holds Try.pinned (OpenSpec.ofChange fnExactLoadLeastSpec)

/-- ITS FALSE NEIGHBOUR: 'it returns false'. Refute it at one input. -/
def fnExactLoadLeastWrong : ChangeSpec := { name := "fnExactLoadLeast", fn := fun _ => fun
  | [d1, d2] => { results := [.lit (.bool false)], args := [d1, d2] }
  | _ => none }
def FnExactLoadLeastWrongFalsely : Prop := fnExactLoadLeastRow.holds Try.pinned (OpenSpec.ofChange fnExactLoadLeastWrong)

/-- 'laws.FnExactLoadEven': WHATEVER THE INPUT: true; the input reads as it did. -/
def fnExactLoadEvenSpec : ChangeSpec := { name := "fnExactLoadEven", fn := fun _ => fun
  | [d1, d2] => { results := [.lit (.bool true)], args := [d1, d2] }
  | _ => none }
def fnExactLoadEvenRow : OpenClaim := { program := "ytacedadenbinmaa", sum := "5310cf7f63221efce076997f237e1199eb0dc7019169d6a54bde3bf13ebf096a", func := "loop.example/chosensums/laws.FnExactLoadEven", spec := "fnExactLoadEven", inPlace := ["(*sync.WaitGroup).Add", "internal/race.ReleaseMerge", "internal/race.Disable", "internal/race.Enable", "internal/synctest.IsInBubble", "internal/synctest.Associate[sync.WaitGroup]", "sync.fatal", "sync/atomic.OrUint64", "sync/atomic.AddUint64", "internal/race.Read", "sync/atomic.LoadUint64", "sync/atomic.StoreUint64", "internal/synctest.Disassociate[sync.WaitGroup]", "sync.runtime_Semrelease", "(*sync.WaitGroup).Done", "(*sync.WaitGroup).Wait", "internal/race.Acquire", "internal/synctest.IsAssociated[sync.WaitGroup]", "sync/atomic.CompareAndSwapUint64", "internal/race.Write", "sync.runtime_SemacquireWaitGroup"], unfollowed := true, recurses := true, leaving := true, apart := false }
def FnExactLoadEvenSaid : Prop := fnExactLoadEvenRow.holds Try.pinned (OpenSpec.ofChange fnExactLoadEvenSpec)

/-- ITS FALSE NEIGHBOUR: 'it returns false'. Refute it at one input. -/
def fnExactLoadEvenWrong : ChangeSpec := { name := "fnExactLoadEven", fn := fun _ => fun
  | [d1, d2] => { results := [.lit (.bool false)], args := [d1, d2] }
  | _ => none }
def FnExactLoadEvenWrongFalsely : Prop := fnExactLoadEvenRow.holds Try.pinned (OpenSpec.ofChange fnExactLoadEvenWrong)

/-- 'laws.FnEven': WHATEVER THE INPUT: true; the input reads as it did. -/
def fnEvenSpec : ChangeSpec := { name := "fnEven", fn := fun _ => fun
  | [d] => { results := [.lit (.bool true)], args := [d] }
  | _ => none }
def fnEvenRow : OpenClaim := { program := "ytacedadenbinmaa", sum := "5310cf7f63221efce076997f237e1199eb0dc7019169d6a54bde3bf13ebf096a", func := "loop.example/chosensums/laws.FnEven", spec := "fnEven", inPlace := ["(*sync.WaitGroup).Add", "internal/race.ReleaseMerge", "internal/race.Disable", "internal/race.Enable", "internal/synctest.IsInBubble", "internal/synctest.Associate[sync.WaitGroup]", "sync.fatal", "sync/atomic.OrUint64", "sync/atomic.AddUint64", "internal/race.Read", "sync/atomic.LoadUint64", "sync/atomic.StoreUint64", "internal/synctest.Disassociate[sync.WaitGroup]", "sync.runtime_Semrelease", "(*sync.WaitGroup).Done", "(*sync.WaitGroup).Wait", "internal/race.Acquire", "internal/synctest.IsAssociated[sync.WaitGroup]", "sync/atomic.CompareAndSwapUint64", "internal/race.Write", "sync.runtime_SemacquireWaitGroup"], unfollowed := true, recurses := true, leaving := true, apart := false }
def FnEvenSaid : Prop := fnEvenRow.holds Try.pinned (OpenSpec.ofChange fnEvenSpec)

/-- ITS FALSE NEIGHBOUR: 'it returns false'. Refute it at one input. -/
def fnEvenWrong : ChangeSpec := { name := "fnEven", fn := fun _ => fun
  | [d] => { results := [.lit (.bool false)], args := [d] }
  | _ => none }
def FnEvenWrongFalsely : Prop := fnEvenRow.holds Try.pinned (OpenSpec.ofChange fnEvenWrong)

/-- 'laws.FnLoadOf': WHATEVER THE INPUT: true; the input reads as it did. -/
def fnLoadOfSpec : ChangeSpec := { name := "fnLoadOf", fn := fun _ => fun
  | [d] => { results := [.lit (.bool true)], args := [d] }
  | _ => none }
def fnLoadOfRow : OpenClaim := { program := "ytacedadenbinmaa", sum := "5310cf7f63221efce076997f237e1199eb0dc7019169d6a54bde3bf13ebf096a", func := "loop.example/chosensums/laws.FnLoadOf", spec := "fnLoadOf", inPlace := ["(*sync.WaitGroup).Add", "internal/race.ReleaseMerge", "internal/race.Disable", "internal/race.Enable", "internal/synctest.IsInBubble", "internal/synctest.Associate[sync.WaitGroup]", "sync.fatal", "sync/atomic.OrUint64", "sync/atomic.AddUint64", "internal/race.Read", "sync/atomic.LoadUint64", "sync/atomic.StoreUint64", "internal/synctest.Disassociate[sync.WaitGroup]", "sync.runtime_Semrelease", "(*sync.WaitGroup).Done", "(*sync.WaitGroup).Wait", "internal/race.Acquire", "internal/synctest.IsAssociated[sync.WaitGroup]", "sync/atomic.CompareAndSwapUint64", "internal/race.Write", "sync.runtime_SemacquireWaitGroup"], unfollowed := true, recurses := true, leaving := true, apart := false }
def FnLoadOfSaid : Prop := fnLoadOfRow.holds Try.pinned (OpenSpec.ofChange fnLoadOfSpec)

/-- ITS FALSE NEIGHBOUR: 'it returns false'. Refute it at one input. -/
def fnLoadOfWrong : ChangeSpec := { name := "fnLoadOf", fn := fun _ => fun
  | [d] => { results := [.lit (.bool false)], args := [d] }
  | _ => none }
def FnLoadOfWrongFalsely : Prop := fnLoadOfRow.holds Try.pinned (OpenSpec.ofChange fnLoadOfWrong)

/-- 'laws.FnSpan': WHATEVER THE INPUT: true; the input reads as it did. -/
def fnSpanSpec : ChangeSpec := { name := "fnSpan", fn := fun _ => fun
  | [d] => { results := [.lit (.bool true)], args := [d] }
  | _ => none }
def fnSpanRow : OpenClaim := { program := "ytacedadenbinmaa", sum := "5310cf7f63221efce076997f237e1199eb0dc7019169d6a54bde3bf13ebf096a", func := "loop.example/chosensums/laws.FnSpan", spec := "fnSpan", inPlace := ["(*sync.WaitGroup).Add", "internal/race.ReleaseMerge", "internal/race.Disable", "internal/race.Enable", "internal/synctest.IsInBubble", "internal/synctest.Associate[sync.WaitGroup]", "sync.fatal", "sync/atomic.OrUint64", "sync/atomic.AddUint64", "internal/race.Read", "sync/atomic.LoadUint64", "sync/atomic.StoreUint64", "internal/synctest.Disassociate[sync.WaitGroup]", "sync.runtime_Semrelease", "(*sync.WaitGroup).Done", "(*sync.WaitGroup).Wait", "internal/race.Acquire", "internal/synctest.IsAssociated[sync.WaitGroup]", "sync/atomic.CompareAndSwapUint64", "internal/race.Write", "sync.runtime_SemacquireWaitGroup"], unfollowed := true, recurses := true, leaving := true, apart := false }
def FnSpanSaid : Prop := fnSpanRow.holds Try.pinned (OpenSpec.ofChange fnSpanSpec)

/-- ITS FALSE NEIGHBOUR: 'it returns false'. Refute it at one input. -/
def fnSpanWrong : ChangeSpec := { name := "fnSpan", fn := fun _ => fun
  | [d] => { results := [.lit (.bool false)], args := [d] }
  | _ => none }
def FnSpanWrongFalsely : Prop := fnSpanRow.holds Try.pinned (OpenSpec.ofChange fnSpanWrong)

/-- 'laws.FnWorst': WHATEVER THE INPUT: true; the input reads as it did. -/
def fnWorstSpec : ChangeSpec := { name := "fnWorst", fn := fun _ => fun
  | [d] => { results := [.lit (.bool true)], args := [d] }
  | _ => none }
def fnWorstRow : OpenClaim := { program := "ytacedadenbinmaa", sum := "5310cf7f63221efce076997f237e1199eb0dc7019169d6a54bde3bf13ebf096a", func := "loop.example/chosensums/laws.FnWorst", spec := "fnWorst", inPlace := ["(*sync.WaitGroup).Add", "internal/race.ReleaseMerge", "internal/race.Disable", "internal/race.Enable", "internal/synctest.IsInBubble", "internal/synctest.Associate[sync.WaitGroup]", "sync.fatal", "sync/atomic.OrUint64", "sync/atomic.AddUint64", "internal/race.Read", "sync/atomic.LoadUint64", "sync/atomic.StoreUint64", "internal/synctest.Disassociate[sync.WaitGroup]", "sync.runtime_Semrelease", "(*sync.WaitGroup).Done", "(*sync.WaitGroup).Wait", "internal/race.Acquire", "internal/synctest.IsAssociated[sync.WaitGroup]", "sync/atomic.CompareAndSwapUint64", "internal/race.Write", "sync.runtime_SemacquireWaitGroup"], unfollowed := true, recurses := true, leaving := true, apart := false }
def FnWorstSaid : Prop := fnWorstRow.holds Try.pinned (OpenSpec.ofChange fnWorstSpec)

/-- ITS FALSE NEIGHBOUR: 'it returns false'. Refute it at one input. -/
def fnWorstWrong : ChangeSpec := { name := "fnWorst", fn := fun _ => fun
  | [d] => { results := [.lit (.bool false)], args := [d] }
  | _ => none }
def FnWorstWrongFalsely : Prop := fnWorstRow.holds Try.pinned (OpenSpec.ofChange fnWorstWrong)

/-- 'laws.FnLoadLeast': WHATEVER THE INPUT: true; the input reads as it did. -/
def fnLoadLeastSpec : ChangeSpec := { name := "fnLoadLeast", fn := fun _ => fun
  | [d] => { results := [.lit (.bool true)], args := [d] }
  | _ => none }
def fnLoadLeastRow : OpenClaim := { program := "ytacedadenbinmaa", sum := "5310cf7f63221efce076997f237e1199eb0dc7019169d6a54bde3bf13ebf096a", func := "loop.example/chosensums/laws.FnLoadLeast", spec := "fnLoadLeast", inPlace := ["(*sync.WaitGroup).Add", "internal/race.ReleaseMerge", "internal/race.Disable", "internal/race.Enable", "internal/synctest.IsInBubble", "internal/synctest.Associate[sync.WaitGroup]", "sync.fatal", "sync/atomic.OrUint64", "sync/atomic.AddUint64", "internal/race.Read", "sync/atomic.LoadUint64", "sync/atomic.StoreUint64", "internal/synctest.Disassociate[sync.WaitGroup]", "sync.runtime_Semrelease", "(*sync.WaitGroup).Done", "(*sync.WaitGroup).Wait", "internal/race.Acquire", "internal/synctest.IsAssociated[sync.WaitGroup]", "sync/atomic.CompareAndSwapUint64", "internal/race.Write", "sync.runtime_SemacquireWaitGroup"], unfollowed := true, recurses := true, leaving := true, apart := false }
def FnLoadLeastSaid : Prop := fnLoadLeastRow.holds Try.pinned (OpenSpec.ofChange fnLoadLeastSpec)

/-- ITS FALSE NEIGHBOUR: 'it returns false'. Refute it at one input. -/
def fnLoadLeastWrong : ChangeSpec := { name := "fnLoadLeast", fn := fun _ => fun
  | [d] => { results := [.lit (.bool false)], args := [d] }
  | _ => none }
def FnLoadLeastWrongFalsely : Prop := fnLoadLeastRow.holds Try.pinned (OpenSpec.ofChange fnLoadLeastWrong)

/-- 'laws.FnLong': WHATEVER THE INPUT: true; the input reads as it did. -/
def fnLongSpec : ChangeSpec := { name := "fnLong", fn := fun _ => fun
  | [d] => { results := [.lit (.bool true)], args := [d] }
  | _ => none }
def fnLongRow : OpenClaim := { program := "ytacedadenbinmaa", sum := "5310cf7f63221efce076997f237e1199eb0dc7019169d6a54bde3bf13ebf096a", func := "loop.example/chosensums/laws.FnLong", spec := "fnLong", inPlace := ["(*sync.WaitGroup).Add", "internal/race.ReleaseMerge", "internal/race.Disable", "internal/race.Enable", "internal/synctest.IsInBubble", "internal/synctest.Associate[sync.WaitGroup]", "sync.fatal", "sync/atomic.OrUint64", "sync/atomic.AddUint64", "internal/race.Read", "sync/atomic.LoadUint64", "sync/atomic.StoreUint64", "internal/synctest.Disassociate[sync.WaitGroup]", "sync.runtime_Semrelease", "(*sync.WaitGroup).Done", "(*sync.WaitGroup).Wait", "internal/race.Acquire", "internal/synctest.IsAssociated[sync.WaitGroup]", "sync/atomic.CompareAndSwapUint64", "internal/race.Write", "sync.runtime_SemacquireWaitGroup"], unfollowed := true, recurses := true, leaving := true, apart := false }
def FnLongSaid : Prop := fnLongRow.holds Try.pinned (OpenSpec.ofChange fnLongSpec)

/-- ITS FALSE NEIGHBOUR: 'it returns false'. Refute it at one input. -/
def fnLongWrong : ChangeSpec := { name := "fnLong", fn := fun _ => fun
  | [d] => { results := [.lit (.bool false)], args := [d] }
  | _ => none }
def FnLongWrongFalsely : Prop := fnLongRow.holds Try.pinned (OpenSpec.ofChange fnLongWrong)

/- THE SECOND FORM. 'bulk': how many values and letters a reading holds, each counted each time it is reached (what is shared counts as often as it is met; a slice's spare places count too). A statement '..UptoSaid' is the law's where the arguments, and the package variables that the reading takes, are together of bulk at most 1048576: NARROWER than '..Said'. Prove '..Said' where nothing that the law and all that it calls make is longer than what came in: it says more and counts as full. Else prove '..UptoSaid'. A law counts once. -/
mutual
def uptoBulk {H : Type} : DataW H → Nat
  | .lit (.string bytes) => bytes.length + 1
  | .lit _ => 1
  | .nil => 1
  | .ptr d => uptoBulk d + 1
  | .slice elems spare => uptoBulkAll elems + uptoBulkAll spare + 1
  | .agg parts => uptoBulkAll parts + 1
  | .iface _ d => uptoBulk d + 1
  | .map entries => uptoBulkEntries entries + 1
  | .held _ => 1
def uptoBulkAll {H : Type} : List (DataW H) → Nat
  | [] => 0
  | d :: r => uptoBulk d + uptoBulkAll r
def uptoBulkEntries {H : Type} : List (Lit × DataW H) → Nat
  | [] => 0
  | x :: r => uptoBulkEntry x + uptoBulkEntries r
def uptoBulkEntry {H : Type} : Lit × DataW H → Nat
  | (.string bytes, d) => bytes.length + uptoBulk d + 1
  | (_, d) => uptoBulk d + 1
 end
def uptoSmall : (H : Type) → List (DataW H) → Bool := fun _ ds => decide (uptoBulkAll ds ≤ 1048576)
def OpenSpec.upto (s : _root_.Go.ChangeSpec) : _root_.Go.OpenSpec := { _root_.Go.OpenSpec.ofChange s with cond := some uptoSmall }

/-- 'laws.FnExactLoadLeast', WHERE WHAT IT READS IS OF BULK AT MOST 1048576: true; the input reads as it did. -/
def fnExactLoadLeastUptoRow : OpenClaim := { program := "ytacedadenbinmaa", sum := "5310cf7f63221efce076997f237e1199eb0dc7019169d6a54bde3bf13ebf096a", func := "loop.example/chosensums/laws.FnExactLoadLeast", spec := "fnExactLoadLeast", inPlace := ["(*sync.WaitGroup).Add", "internal/race.ReleaseMerge", "internal/race.Disable", "internal/race.Enable", "internal/synctest.IsInBubble", "internal/synctest.Associate[sync.WaitGroup]", "sync.fatal", "sync/atomic.OrUint64", "sync/atomic.AddUint64", "internal/race.Read", "sync/atomic.LoadUint64", "sync/atomic.StoreUint64", "internal/synctest.Disassociate[sync.WaitGroup]", "sync.runtime_Semrelease", "(*sync.WaitGroup).Done", "(*sync.WaitGroup).Wait", "internal/race.Acquire", "internal/synctest.IsAssociated[sync.WaitGroup]", "sync/atomic.CompareAndSwapUint64", "internal/race.Write", "sync.runtime_SemacquireWaitGroup"], unfollowed := true, recurses := true, leaving := true, apart := false, narrowed := true }
def FnExactLoadLeastUptoSaid : Prop := fnExactLoadLeastUptoRow.holds Try.pinned (OpenSpec.upto fnExactLoadLeastSpec)

/-- 'laws.FnExactLoadEven', WHERE WHAT IT READS IS OF BULK AT MOST 1048576: true; the input reads as it did. -/
def fnExactLoadEvenUptoRow : OpenClaim := { program := "ytacedadenbinmaa", sum := "5310cf7f63221efce076997f237e1199eb0dc7019169d6a54bde3bf13ebf096a", func := "loop.example/chosensums/laws.FnExactLoadEven", spec := "fnExactLoadEven", inPlace := ["(*sync.WaitGroup).Add", "internal/race.ReleaseMerge", "internal/race.Disable", "internal/race.Enable", "internal/synctest.IsInBubble", "internal/synctest.Associate[sync.WaitGroup]", "sync.fatal", "sync/atomic.OrUint64", "sync/atomic.AddUint64", "internal/race.Read", "sync/atomic.LoadUint64", "sync/atomic.StoreUint64", "internal/synctest.Disassociate[sync.WaitGroup]", "sync.runtime_Semrelease", "(*sync.WaitGroup).Done", "(*sync.WaitGroup).Wait", "internal/race.Acquire", "internal/synctest.IsAssociated[sync.WaitGroup]", "sync/atomic.CompareAndSwapUint64", "internal/race.Write", "sync.runtime_SemacquireWaitGroup"], unfollowed := true, recurses := true, leaving := true, apart := false, narrowed := true }
def FnExactLoadEvenUptoSaid : Prop := fnExactLoadEvenUptoRow.holds Try.pinned (OpenSpec.upto fnExactLoadEvenSpec)

/-- 'laws.FnEven', WHERE WHAT IT READS IS OF BULK AT MOST 1048576: true; the input reads as it did. -/
def fnEvenUptoRow : OpenClaim := { program := "ytacedadenbinmaa", sum := "5310cf7f63221efce076997f237e1199eb0dc7019169d6a54bde3bf13ebf096a", func := "loop.example/chosensums/laws.FnEven", spec := "fnEven", inPlace := ["(*sync.WaitGroup).Add", "internal/race.ReleaseMerge", "internal/race.Disable", "internal/race.Enable", "internal/synctest.IsInBubble", "internal/synctest.Associate[sync.WaitGroup]", "sync.fatal", "sync/atomic.OrUint64", "sync/atomic.AddUint64", "internal/race.Read", "sync/atomic.LoadUint64", "sync/atomic.StoreUint64", "internal/synctest.Disassociate[sync.WaitGroup]", "sync.runtime_Semrelease", "(*sync.WaitGroup).Done", "(*sync.WaitGroup).Wait", "internal/race.Acquire", "internal/synctest.IsAssociated[sync.WaitGroup]", "sync/atomic.CompareAndSwapUint64", "internal/race.Write", "sync.runtime_SemacquireWaitGroup"], unfollowed := true, recurses := true, leaving := true, apart := false, narrowed := true }
def FnEvenUptoSaid : Prop := fnEvenUptoRow.holds Try.pinned (OpenSpec.upto fnEvenSpec)

/-- 'laws.FnLoadOf', WHERE WHAT IT READS IS OF BULK AT MOST 1048576: true; the input reads as it did. -/
def fnLoadOfUptoRow : OpenClaim := { program := "ytacedadenbinmaa", sum := "5310cf7f63221efce076997f237e1199eb0dc7019169d6a54bde3bf13ebf096a", func := "loop.example/chosensums/laws.FnLoadOf", spec := "fnLoadOf", inPlace := ["(*sync.WaitGroup).Add", "internal/race.ReleaseMerge", "internal/race.Disable", "internal/race.Enable", "internal/synctest.IsInBubble", "internal/synctest.Associate[sync.WaitGroup]", "sync.fatal", "sync/atomic.OrUint64", "sync/atomic.AddUint64", "internal/race.Read", "sync/atomic.LoadUint64", "sync/atomic.StoreUint64", "internal/synctest.Disassociate[sync.WaitGroup]", "sync.runtime_Semrelease", "(*sync.WaitGroup).Done", "(*sync.WaitGroup).Wait", "internal/race.Acquire", "internal/synctest.IsAssociated[sync.WaitGroup]", "sync/atomic.CompareAndSwapUint64", "internal/race.Write", "sync.runtime_SemacquireWaitGroup"], unfollowed := true, recurses := true, leaving := true, apart := false, narrowed := true }
def FnLoadOfUptoSaid : Prop := fnLoadOfUptoRow.holds Try.pinned (OpenSpec.upto fnLoadOfSpec)

/-- 'laws.FnSpan', WHERE WHAT IT READS IS OF BULK AT MOST 1048576: true; the input reads as it did. -/
def fnSpanUptoRow : OpenClaim := { program := "ytacedadenbinmaa", sum := "5310cf7f63221efce076997f237e1199eb0dc7019169d6a54bde3bf13ebf096a", func := "loop.example/chosensums/laws.FnSpan", spec := "fnSpan", inPlace := ["(*sync.WaitGroup).Add", "internal/race.ReleaseMerge", "internal/race.Disable", "internal/race.Enable", "internal/synctest.IsInBubble", "internal/synctest.Associate[sync.WaitGroup]", "sync.fatal", "sync/atomic.OrUint64", "sync/atomic.AddUint64", "internal/race.Read", "sync/atomic.LoadUint64", "sync/atomic.StoreUint64", "internal/synctest.Disassociate[sync.WaitGroup]", "sync.runtime_Semrelease", "(*sync.WaitGroup).Done", "(*sync.WaitGroup).Wait", "internal/race.Acquire", "internal/synctest.IsAssociated[sync.WaitGroup]", "sync/atomic.CompareAndSwapUint64", "internal/race.Write", "sync.runtime_SemacquireWaitGroup"], unfollowed := true, recurses := true, leaving := true, apart := false, narrowed := true }
def FnSpanUptoSaid : Prop := fnSpanUptoRow.holds Try.pinned (OpenSpec.upto fnSpanSpec)

/-- 'laws.FnWorst', WHERE WHAT IT READS IS OF BULK AT MOST 1048576: true; the input reads as it did. -/
def fnWorstUptoRow : OpenClaim := { program := "ytacedadenbinmaa", sum := "5310cf7f63221efce076997f237e1199eb0dc7019169d6a54bde3bf13ebf096a", func := "loop.example/chosensums/laws.FnWorst", spec := "fnWorst", inPlace := ["(*sync.WaitGroup).Add", "internal/race.ReleaseMerge", "internal/race.Disable", "internal/race.Enable", "internal/synctest.IsInBubble", "internal/synctest.Associate[sync.WaitGroup]", "sync.fatal", "sync/atomic.OrUint64", "sync/atomic.AddUint64", "internal/race.Read", "sync/atomic.LoadUint64", "sync/atomic.StoreUint64", "internal/synctest.Disassociate[sync.WaitGroup]", "sync.runtime_Semrelease", "(*sync.WaitGroup).Done", "(*sync.WaitGroup).Wait", "internal/race.Acquire", "internal/synctest.IsAssociated[sync.WaitGroup]", "sync/atomic.CompareAndSwapUint64", "internal/race.Write", "sync.runtime_SemacquireWaitGroup"], unfollowed := true, recurses := true, leaving := true, apart := false, narrowed := true }
def FnWorstUptoSaid : Prop := fnWorstUptoRow.holds Try.pinned (OpenSpec.upto fnWorstSpec)

/-- 'laws.FnLoadLeast', WHERE WHAT IT READS IS OF BULK AT MOST 1048576: true; the input reads as it did. -/
def fnLoadLeastUptoRow : OpenClaim := { program := "ytacedadenbinmaa", sum := "5310cf7f63221efce076997f237e1199eb0dc7019169d6a54bde3bf13ebf096a", func := "loop.example/chosensums/laws.FnLoadLeast", spec := "fnLoadLeast", inPlace := ["(*sync.WaitGroup).Add", "internal/race.ReleaseMerge", "internal/race.Disable", "internal/race.Enable", "internal/synctest.IsInBubble", "internal/synctest.Associate[sync.WaitGroup]", "sync.fatal", "sync/atomic.OrUint64", "sync/atomic.AddUint64", "internal/race.Read", "sync/atomic.LoadUint64", "sync/atomic.StoreUint64", "internal/synctest.Disassociate[sync.WaitGroup]", "sync.runtime_Semrelease", "(*sync.WaitGroup).Done", "(*sync.WaitGroup).Wait", "internal/race.Acquire", "internal/synctest.IsAssociated[sync.WaitGroup]", "sync/atomic.CompareAndSwapUint64", "internal/race.Write", "sync.runtime_SemacquireWaitGroup"], unfollowed := true, recurses := true, leaving := true, apart := false, narrowed := true }
def FnLoadLeastUptoSaid : Prop := fnLoadLeastUptoRow.holds Try.pinned (OpenSpec.upto fnLoadLeastSpec)

/-- 'laws.FnLong', WHERE WHAT IT READS IS OF BULK AT MOST 1048576: true; the input reads as it did. -/
def fnLongUptoRow : OpenClaim := { program := "ytacedadenbinmaa", sum := "5310cf7f63221efce076997f237e1199eb0dc7019169d6a54bde3bf13ebf096a", func := "loop.example/chosensums/laws.FnLong", spec := "fnLong", inPlace := ["(*sync.WaitGroup).Add", "internal/race.ReleaseMerge", "internal/race.Disable", "internal/race.Enable", "internal/synctest.IsInBubble", "internal/synctest.Associate[sync.WaitGroup]", "sync.fatal", "sync/atomic.OrUint64", "sync/atomic.AddUint64", "internal/race.Read", "sync/atomic.LoadUint64", "sync/atomic.StoreUint64", "internal/synctest.Disassociate[sync.WaitGroup]", "sync.runtime_Semrelease", "(*sync.WaitGroup).Done", "(*sync.WaitGroup).Wait", "internal/race.Acquire", "internal/synctest.IsAssociated[sync.WaitGroup]", "sync/atomic.CompareAndSwapUint64", "internal/race.Write", "sync.runtime_SemacquireWaitGroup"], unfollowed := true, recurses := true, leaving := true, apart := false, narrowed := true }
def FnLongUptoSaid : Prop := fnLongUptoRow.holds Try.pinned (OpenSpec.upto fnLongSpec)

end Rows
end Go.Proofs.Ytacedadenbinmaa
