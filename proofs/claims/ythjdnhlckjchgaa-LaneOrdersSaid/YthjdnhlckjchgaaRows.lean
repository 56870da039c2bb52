/-
  No cell of these rows narrows 'for every input' (looked for: loops, veiled, ifaces, maps, wideKeys, modest, calm, conditions, laid).
  DERIVED. THE GIVEN ROWS OF THIS SEAT. 6 by the template 'for every input the law returns true; each argument reads behind the call as it read before'; 0 by the template 'total and deterministic' (their statements: YthjdnhlckjchgaaTotals.lean).
  GIVEN WITH THE SEED: the statements are not yours to turn. If you find one false, say at which input.
  Laid BY PROGRAM, IN A SANDBOX (cutbox-rows.mjs): the forced cells as the released guide's own fill.sh prints them over the translation c2ab9dc8a8f94bd2… (all of the seat's roots in one cut). By AI agents, Wed Nov 11 2026. No macro, syntax, notation, axiom, sorry.
-/
import Derived.Test.YthjdnhlckjchgaaChecked
import GoSem.Claim
import GoSem.ClaimJoined
import GoSem.ClaimMapViews
import Derived.JoinedTies
import Derived.KernelRfl
namespace Go.Proofs.Ythjdnhlckjchgaa
/- THE CELL 'sum', in the pinned program and in every row, IS THE sha256 OF THE DUMP (.gsa) THAT YthjdnhlckjchgaaProg.lean LOADS. Nothing in Lean hashes anything: it is a label: what it is worth is what the hold of that sum in a sandbox is worth. -/
noncomputable def Try.pinned : Pinned := { name := "ythjdnhlckjchgaa", sum := "c2ab9dc8a8f94bd2cf5b614ab13054813e141e385f76ad785872ac89088e9e42", checked := Try.checked }
namespace Rows
def none {H : Type} : Left H := { results := [], args := [] }

/-- 'patchbaylaw25.LaneOrders': WHATEVER THE INPUT: true; the input reads as it did. -/
def laneOrdersSpec : ChangeSpec := { name := "laneOrders", fn := fun _ => fun
  | [d1, d2, d3] => { results := [.lit (.bool true)], args := [d1, d2, d3] }
  | _ => none }
def laneOrdersRow : OpenClaim := { program := "ythjdnhlckjchgaa", sum := "c2ab9dc8a8f94bd2cf5b614ab13054813e141e385f76ad785872ac89088e9e42", func := "patchbay/patchbaylaw25.LaneOrders", spec := "laneOrders", inPlace := ["sync/atomic.AddUint64"], unfollowed := true, recurses := true, plainKeys := false, leaving := true, apart := false }
def LaneOrdersSaid : Prop := laneOrdersRow.holds Try.pinned (OpenSpec.ofChange laneOrdersSpec)

/-- ITS FALSE NEIGHBOUR: 'it returns false'. Refute it at one input. -/
def laneOrdersWrong : ChangeSpec := { name := "laneOrders", fn := fun _ => fun
  | [d1, d2, d3] => { results := [.lit (.bool false)], args := [d1, d2, d3] }
  | _ => none }
def LaneOrdersWrongFalsely : Prop := laneOrdersRow.holds Try.pinned (OpenSpec.ofChange laneOrdersWrong)

/-- 'patchbaylaw25.LaneKepts': WHATEVER THE INPUT: true; the input reads as it did. -/
def laneKeptsSpec : ChangeSpec := { name := "laneKepts", fn := fun _ => fun
  | [d1, d2] => { results := [.lit (.bool true)], args := [d1, d2] }
  | _ => none }
def laneKeptsRow : OpenClaim := { program := "ythjdnhlckjchgaa", sum := "c2ab9dc8a8f94bd2cf5b614ab13054813e141e385f76ad785872ac89088e9e42", func := "patchbay/patchbaylaw25.LaneKepts", spec := "laneKepts", inPlace := ["sync/atomic.AddUint64"], unfollowed := true, recurses := true, plainKeys := false, leaving := true, apart := false }
def LaneKeptsSaid : Prop := laneKeptsRow.holds Try.pinned (OpenSpec.ofChange laneKeptsSpec)

/-- ITS FALSE NEIGHBOUR: 'it returns false'. Refute it at one input. -/
def laneKeptsWrong : ChangeSpec := { name := "laneKepts", fn := fun _ => fun
  | [d1, d2] => { results := [.lit (.bool false)], args := [d1, d2] }
  | _ => none }
def LaneKeptsWrongFalsely : Prop := laneKeptsRow.holds Try.pinned (OpenSpec.ofChange laneKeptsWrong)

/-- 'patchbaylaw25.LaneOut': WHATEVER THE INPUT: true; the input reads as it did. -/
def laneOutSpec : ChangeSpec := { name := "laneOut", fn := fun _ => fun
  | [d1, d2, d3] => { results := [.lit (.bool true)], args := [d1, d2, d3] }
  | _ => none }
def laneOutRow : OpenClaim := { program := "ythjdnhlckjchgaa", sum := "c2ab9dc8a8f94bd2cf5b614ab13054813e141e385f76ad785872ac89088e9e42", func := "patchbay/patchbaylaw25.LaneOut", spec := "laneOut", inPlace := ["sync/atomic.AddUint64"], unfollowed := true, recurses := true, plainKeys := false, leaving := true, apart := false }
def LaneOutSaid : Prop := laneOutRow.holds Try.pinned (OpenSpec.ofChange laneOutSpec)

/-- ITS FALSE NEIGHBOUR: 'it returns false'. Refute it at one input. -/
def laneOutWrong : ChangeSpec := { name := "laneOut", fn := fun _ => fun
  | [d1, d2, d3] => { results := [.lit (.bool false)], args := [d1, d2, d3] }
  | _ => none }
def LaneOutWrongFalsely : Prop := laneOutRow.holds Try.pinned (OpenSpec.ofChange laneOutWrong)

/-- 'patchbaylaw25.LaneStamps': WHATEVER THE INPUT: true; the input reads as it did. -/
def laneStampsSpec : ChangeSpec := { name := "laneStamps", fn := fun _ => fun
  | [d1, d2, d3] => { results := [.lit (.bool true)], args := [d1, d2, d3] }
  | _ => none }
def laneStampsRow : OpenClaim := { program := "ythjdnhlckjchgaa", sum := "c2ab9dc8a8f94bd2cf5b614ab13054813e141e385f76ad785872ac89088e9e42", func := "patchbay/patchbaylaw25.LaneStamps", spec := "laneStamps", inPlace := ["sync/atomic.AddUint64", "(*sync.WaitGroup).Add", "internal/race.ReleaseMerge", "internal/race.Disable", "internal/race.Enable", "internal/synctest.IsInBubble", "internal/synctest.Associate[sync.WaitGroup]", "sync.fatal", "sync/atomic.OrUint64", "internal/race.Read", "sync/atomic.LoadUint64", "sync/atomic.StoreUint64", "internal/synctest.Disassociate[sync.WaitGroup]", "sync.runtime_Semrelease", "(*sync.WaitGroup).Done", "(*sync.WaitGroup).Wait", "internal/race.Acquire", "internal/synctest.IsAssociated[sync.WaitGroup]", "sync/atomic.CompareAndSwapUint64", "internal/race.Write", "sync.runtime_SemacquireWaitGroup"], unfollowed := true, recurses := true, plainKeys := false, leaving := true, apart := false }
def LaneStampsSaid : Prop := laneStampsRow.holds Try.pinned (OpenSpec.ofChange laneStampsSpec)

/-- ITS FALSE NEIGHBOUR: 'it returns false'. Refute it at one input. -/
def laneStampsWrong : ChangeSpec := { name := "laneStamps", fn := fun _ => fun
  | [d1, d2, d3] => { results := [.lit (.bool false)], args := [d1, d2, d3] }
  | _ => none }
def LaneStampsWrongFalsely : Prop := laneStampsRow.holds Try.pinned (OpenSpec.ofChange laneStampsWrong)

/-- 'patchbaylaw25.LaneEach': WHATEVER THE INPUT: true; the input reads as it did. -/
def laneEachSpec : ChangeSpec := { name := "laneEach", fn := fun _ => fun
  | [d1, d2, d3] => { results := [.lit (.bool true)], args := [d1, d2, d3] }
  | _ => none }
def laneEachRow : OpenClaim := { program := "ythjdnhlckjchgaa", sum := "c2ab9dc8a8f94bd2cf5b614ab13054813e141e385f76ad785872ac89088e9e42", func := "patchbay/patchbaylaw25.LaneEach", spec := "laneEach", inPlace := ["sync/atomic.AddUint64", "(*sync.WaitGroup).Add", "internal/race.ReleaseMerge", "internal/race.Disable", "internal/race.Enable", "internal/synctest.IsInBubble", "internal/synctest.Associate[sync.WaitGroup]", "sync.fatal", "sync/atomic.OrUint64", "internal/race.Read", "sync/atomic.LoadUint64", "sync/atomic.StoreUint64", "internal/synctest.Disassociate[sync.WaitGroup]", "sync.runtime_Semrelease", "(*sync.WaitGroup).Done", "(*sync.WaitGroup).Wait", "internal/race.Acquire", "internal/synctest.IsAssociated[sync.WaitGroup]", "sync/atomic.CompareAndSwapUint64", "internal/race.Write", "sync.runtime_SemacquireWaitGroup"], unfollowed := true, recurses := true, plainKeys := false, leaving := true, apart := false }
def LaneEachSaid : Prop := laneEachRow.holds Try.pinned (OpenSpec.ofChange laneEachSpec)

/-- ITS FALSE NEIGHBOUR: 'it returns false'. Refute it at one input. -/
def laneEachWrong : ChangeSpec := { name := "laneEach", fn := fun _ => fun
  | [d1, d2, d3] => { results := [.lit (.bool false)], args := [d1, d2, d3] }
  | _ => none }
def LaneEachWrongFalsely : Prop := laneEachRow.holds Try.pinned (OpenSpec.ofChange laneEachWrong)

/-- 'patchbaylaw25.LaneKnown': WHATEVER THE INPUT: true; the input reads as it did. -/
def laneKnownSpec : ChangeSpec := { name := "laneKnown", fn := fun _ => fun
  | [] => { results := [.lit (.bool true)], args := [] }
  | _ => none }
def laneKnownRow : OpenClaim := { program := "ythjdnhlckjchgaa", sum := "c2ab9dc8a8f94bd2cf5b614ab13054813e141e385f76ad785872ac89088e9e42", func := "patchbay/patchbaylaw25.LaneKnown", spec := "laneKnown", inPlace := ["sync/atomic.AddUint64", "(*sync.WaitGroup).Add", "internal/race.ReleaseMerge", "internal/race.Disable", "internal/race.Enable", "internal/synctest.IsInBubble", "internal/synctest.Associate[sync.WaitGroup]", "sync.fatal", "sync/atomic.OrUint64", "internal/race.Read", "sync/atomic.LoadUint64", "sync/atomic.StoreUint64", "internal/synctest.Disassociate[sync.WaitGroup]", "sync.runtime_Semrelease", "(*sync.WaitGroup).Done", "(*sync.WaitGroup).Wait", "internal/race.Acquire", "internal/synctest.IsAssociated[sync.WaitGroup]", "sync/atomic.CompareAndSwapUint64", "internal/race.Write", "sync.runtime_SemacquireWaitGroup"], unfollowed := true, recurses := true, plainKeys := false, leaving := true, apart := false }
def LaneKnownSaid : Prop := laneKnownRow.holds Try.pinned (OpenSpec.ofChange laneKnownSpec)

/-- ITS FALSE NEIGHBOUR: 'it returns false'. Refute it at one input. -/
def laneKnownWrong : ChangeSpec := { name := "laneKnown", fn := fun _ => fun
  | [] => { results := [.lit (.bool false)], args := [] }
  | _ => none }
def LaneKnownWrongFalsely : Prop := laneKnownRow.holds Try.pinned (OpenSpec.ofChange laneKnownWrong)

/- THE SECOND FORM. 'bulk': how many values and letters a reading holds, each counted each time it is reached (what is shared counts as often as it is met; a slice's spare places count too). A statement '..UptoSaid' is the law's where the arguments, and the package variables that the reading takes, are together of bulk at most 1048576: NARROWER than '..Said'. Prove '..Said' where nothing that the law and all that it calls make is longer than what came in: it says more and counts as full. Else prove '..UptoSaid'. A law counts once. -/
mutual
def uptoBulk {H : Type} : DataW H → Nat
  | .lit (.string bytes) => bytes.length + 1
  | .lit _ => 1
  | .nil => 1
  | .ptr d => uptoBulk d + 1
  | .slice elems spare => uptoBulkAll elems + uptoBulkAll spare + 1
  | .agg parts => uptoBulkAll parts + 1
  | .iface _ d => uptoBulk d + 1
  | .map entries => uptoBulkEntries entries + 1
  | .held _ => 1
def uptoBulkAll {H : Type} : List (DataW H) → Nat
  | [] => 0
  | d :: r => uptoBulk d + uptoBulkAll r
def uptoBulkEntries {H : Type} : List (Lit × DataW H) → Nat
  | [] => 0
  | x :: r => uptoBulkEntry x + uptoBulkEntries r
def uptoBulkEntry {H : Type} : Lit × DataW H → Nat
  | (.string bytes, d) => bytes.length + uptoBulk d + 1
  | (_, d) => uptoBulk d + 1
 end
def uptoSmall : (H : Type) → List (DataW H) → Bool := fun _ ds => decide (uptoBulkAll ds ≤ 1048576)
def OpenSpec.upto (s : _root_.Go.ChangeSpec) : _root_.Go.OpenSpec := { _root_.Go.OpenSpec.ofChange s with cond := some uptoSmall }

/-- 'patchbaylaw25.LaneOrders', WHERE WHAT IT READS IS OF BULK AT MOST 1048576: true; the input reads as it did. -/
def laneOrdersUptoRow : OpenClaim := { program := "ythjdnhlckjchgaa", sum := "c2ab9dc8a8f94bd2cf5b614ab13054813e141e385f76ad785872ac89088e9e42", func := "patchbay/patchbaylaw25.LaneOrders", spec := "laneOrders", inPlace := ["sync/atomic.AddUint64"], unfollowed := true, recurses := true, plainKeys := false, leaving := true, apart := false, narrowed := true }
def LaneOrdersUptoSaid : Prop := laneOrdersUptoRow.holds Try.pinned (OpenSpec.upto laneOrdersSpec)

/-- 'patchbaylaw25.LaneKepts', WHERE WHAT IT READS IS OF BULK AT MOST 1048576: true; the input reads as it did. -/
def laneKeptsUptoRow : OpenClaim := { program := "ythjdnhlckjchgaa", sum := "c2ab9dc8a8f94bd2cf5b614ab13054813e141e385f76ad785872ac89088e9e42", func := "patchbay/patchbaylaw25.LaneKepts", spec := "laneKepts", inPlace := ["sync/atomic.AddUint64"], unfollowed := true, recurses := true, plainKeys := false, leaving := true, apart := false, narrowed := true }
def LaneKeptsUptoSaid : Prop := laneKeptsUptoRow.holds Try.pinned (OpenSpec.upto laneKeptsSpec)

/-- 'patchbaylaw25.LaneOut', WHERE WHAT IT READS IS OF BULK AT MOST 1048576: true; the input reads as it did. -/
def laneOutUptoRow : OpenClaim := { program := "ythjdnhlckjchgaa", sum := "c2ab9dc8a8f94bd2cf5b614ab13054813e141e385f76ad785872ac89088e9e42", func := "patchbay/patchbaylaw25.LaneOut", spec := "laneOut", inPlace := ["sync/atomic.AddUint64"], unfollowed := true, recurses := true, plainKeys := false, leaving := true, apart := false, narrowed := true }
def LaneOutUptoSaid : Prop := laneOutUptoRow.holds Try.pinned (OpenSpec.upto laneOutSpec)

/-- 'patchbaylaw25.LaneStamps', WHERE WHAT IT READS IS OF BULK AT MOST 1048576: true; the input reads as it did. -/
def laneStampsUptoRow : OpenClaim := { program := "ythjdnhlckjchgaa", sum := "c2ab9dc8a8f94bd2cf5b614ab13054813e141e385f76ad785872ac89088e9e42", func := "patchbay/patchbaylaw25.LaneStamps", spec := "laneStamps", inPlace := ["sync/atomic.AddUint64", "(*sync.WaitGroup).Add", "internal/race.ReleaseMerge", "internal/race.Disable", "internal/race.Enable", "internal/synctest.IsInBubble", "internal/synctest.Associate[sync.WaitGroup]", "sync.fatal", "sync/atomic.OrUint64", "internal/race.Read", "sync/atomic.LoadUint64", "sync/atomic.StoreUint64", "internal/synctest.Disassociate[sync.WaitGroup]", "sync.runtime_Semrelease", "(*sync.WaitGroup).Done", "(*sync.WaitGroup).Wait", "internal/race.Acquire", "internal/synctest.IsAssociated[sync.WaitGroup]", "sync/atomic.CompareAndSwapUint64", "internal/race.Write", "sync.runtime_SemacquireWaitGroup"], unfollowed := true, recurses := true, plainKeys := false, leaving := true, apart := false, narrowed := true }
def LaneStampsUptoSaid : Prop := laneStampsUptoRow.holds Try.pinned (OpenSpec.upto laneStampsSpec)

/-- 'patchbaylaw25.LaneEach', WHERE WHAT IT READS IS OF BULK AT MOST 1048576: true; the input reads as it did. -/
def laneEachUptoRow : OpenClaim := { program := "ythjdnhlckjchgaa", sum := "c2ab9dc8a8f94bd2cf5b614ab13054813e141e385f76ad785872ac89088e9e42", func := "patchbay/patchbaylaw25.LaneEach", spec := "laneEach", inPlace := ["sync/atomic.AddUint64", "(*sync.WaitGroup).Add", "internal/race.ReleaseMerge", "internal/race.Disable", "internal/race.Enable", "internal/synctest.IsInBubble", "internal/synctest.Associate[sync.WaitGroup]", "sync.fatal", "sync/atomic.OrUint64", "internal/race.Read", "sync/atomic.LoadUint64", "sync/atomic.StoreUint64", "internal/synctest.Disassociate[sync.WaitGroup]", "sync.runtime_Semrelease", "(*sync.WaitGroup).Done", "(*sync.WaitGroup).Wait", "internal/race.Acquire", "internal/synctest.IsAssociated[sync.WaitGroup]", "sync/atomic.CompareAndSwapUint64", "internal/race.Write", "sync.runtime_SemacquireWaitGroup"], unfollowed := true, recurses := true, plainKeys := false, leaving := true, apart := false, narrowed := true }
def LaneEachUptoSaid : Prop := laneEachUptoRow.holds Try.pinned (OpenSpec.upto laneEachSpec)

/-- 'patchbaylaw25.LaneKnown', WHERE WHAT IT READS IS OF BULK AT MOST 1048576: true; the input reads as it did. -/
def laneKnownUptoRow : OpenClaim := { program := "ythjdnhlckjchgaa", sum := "c2ab9dc8a8f94bd2cf5b614ab13054813e141e385f76ad785872ac89088e9e42", func := "patchbay/patchbaylaw25.LaneKnown", spec := "laneKnown", inPlace := ["sync/atomic.AddUint64", "(*sync.WaitGroup).Add", "internal/race.ReleaseMerge", "internal/race.Disable", "internal/race.Enable", "internal/synctest.IsInBubble", "internal/synctest.Associate[sync.WaitGroup]", "sync.fatal", "sync/atomic.OrUint64", "internal/race.Read", "sync/atomic.LoadUint64", "sync/atomic.StoreUint64", "internal/synctest.Disassociate[sync.WaitGroup]", "sync.runtime_Semrelease", "(*sync.WaitGroup).Done", "(*sync.WaitGroup).Wait", "internal/race.Acquire", "internal/synctest.IsAssociated[sync.WaitGroup]", "sync/atomic.CompareAndSwapUint64", "internal/race.Write", "sync.runtime_SemacquireWaitGroup"], unfollowed := true, recurses := true, plainKeys := false, leaving := true, apart := false, narrowed := true }
def LaneKnownUptoSaid : Prop := laneKnownUptoRow.holds Try.pinned (OpenSpec.upto laneKnownSpec)

end Rows
end Go.Proofs.Ythjdnhlckjchgaa
