/-
  No cell of these rows narrows 'for every input' (looked for: loops, veiled, ifaces, maps, wideKeys, modest, calm, conditions, laid).
  DERIVED. THE GIVEN ROWS OF THIS SEAT. 10 by the template 'for every input the law returns true; each argument reads behind the call as it read before'; 0 by the template 'total and deterministic' (their statements: YtmlkmhonpmnenaaTotals.lean).
  GIVEN WITH THE SEED: the statements are not yours to turn. If you find one false, say at which input.
  Laid BY PROGRAM, IN A SANDBOX (cutbox-rows.mjs): the forced cells as the released guide's own fill.sh prints them over the translation da3ef61f372f8c0f… (all of the seat's roots in one cut). By AI agents, Wed Nov 11 2026. No macro, syntax, notation, axiom, sorry.
-/
import Derived.Test.YtmlkmhonpmnenaaChecked
import GoSem.Claim
import GoSem.ClaimJoined
import GoSem.ClaimMapViews
import Derived.JoinedTies
import Derived.KernelRfl
namespace Go.Proofs.Ytmlkmhonpmnenaa
/- THE CELL 'sum', in the pinned program and in every row, IS THE sha256 OF THE DUMP (.gsa) THAT YtmlkmhonpmnenaaProg.lean LOADS. Nothing in Lean hashes anything: it is a label: what it is worth is what the hold of that sum in a sandbox is worth. -/
noncomputable def Try.pinned : Pinned := { name := "ytmlkmhonpmnenaa", sum := "da3ef61f372f8c0f489be6a4aac474c91eeb8dcd64d5708c873c05229437dee0", checked := Try.checked }
namespace Rows
def none {H : Type} : Left H := { results := [], args := [] }

/-- 'incipitlaw21.TagsRead': WHATEVER THE INPUT: true; the input reads as it did. -/
def tagsReadSpec : ChangeSpec := { name := "tagsRead", fn := fun _ => fun
  | [d] => { results := [.lit (.bool true)], args := [d] }
  | _ => none }
def tagsReadRow : OpenClaim := { program := "ytmlkmhonpmnenaa", sum := "da3ef61f372f8c0f489be6a4aac474c91eeb8dcd64d5708c873c05229437dee0", func := "incipit/incipitlaw21.TagsRead", spec := "tagsRead", inPlace := ["internal/bytealg.IndexByteString", "internal/bytealg.IndexString", "internal/abi.NoEscape"], unfollowed := true, recurses := true, named := ["internal/bytealg.MaxLen"], apart := false }
def TagsReadSaid : Prop := tagsReadRow.holds Try.pinned (OpenSpec.ofChange tagsReadSpec)

/-- ITS FALSE NEIGHBOUR: 'it returns false'. Refute it at one input. -/
def tagsReadWrong : ChangeSpec := { name := "tagsRead", fn := fun _ => fun
  | [d] => { results := [.lit (.bool false)], args := [d] }
  | _ => none }
def TagsReadWrongFalsely : Prop := tagsReadRow.holds Try.pinned (OpenSpec.ofChange tagsReadWrong)

/-- 'incipitlaw21.TagsJoin': WHATEVER THE INPUT: true; the input reads as it did. -/
def tagsJoinSpec : ChangeSpec := { name := "tagsJoin", fn := fun _ => fun
  | [d1, d2, d3] => { results := [.lit (.bool true)], args := [d1, d2, d3] }
  | _ => none }
def tagsJoinRow : OpenClaim := { program := "ytmlkmhonpmnenaa", sum := "da3ef61f372f8c0f489be6a4aac474c91eeb8dcd64d5708c873c05229437dee0", func := "incipit/incipitlaw21.TagsJoin", spec := "tagsJoin", inPlace := ["internal/bytealg.IndexByteString", "internal/bytealg.IndexString", "internal/abi.NoEscape"], unfollowed := true, recurses := true, named := ["internal/bytealg.MaxLen"], apart := false }
def TagsJoinSaid : Prop := tagsJoinRow.holds Try.pinned (OpenSpec.ofChange tagsJoinSpec)

/-- ITS FALSE NEIGHBOUR: 'it returns false'. Refute it at one input. -/
def tagsJoinWrong : ChangeSpec := { name := "tagsJoin", fn := fun _ => fun
  | [d1, d2, d3] => { results := [.lit (.bool false)], args := [d1, d2, d3] }
  | _ => none }
def TagsJoinWrongFalsely : Prop := tagsJoinRow.holds Try.pinned (OpenSpec.ofChange tagsJoinWrong)

/-- 'incipitlaw21.TagsPlain': WHATEVER THE INPUT: true; the input reads as it did. -/
def tagsPlainSpec : ChangeSpec := { name := "tagsPlain", fn := fun _ => fun
  | [d] => { results := [.lit (.bool true)], args := [d] }
  | _ => none }
def tagsPlainRow : OpenClaim := { program := "ytmlkmhonpmnenaa", sum := "da3ef61f372f8c0f489be6a4aac474c91eeb8dcd64d5708c873c05229437dee0", func := "incipit/incipitlaw21.TagsPlain", spec := "tagsPlain", inPlace := ["internal/bytealg.IndexByteString", "internal/bytealg.IndexString", "internal/abi.NoEscape"], unfollowed := true, recurses := true, named := ["internal/bytealg.MaxLen"], apart := false }
def TagsPlainSaid : Prop := tagsPlainRow.holds Try.pinned (OpenSpec.ofChange tagsPlainSpec)

/-- ITS FALSE NEIGHBOUR: 'it returns false'. Refute it at one input. -/
def tagsPlainWrong : ChangeSpec := { name := "tagsPlain", fn := fun _ => fun
  | [d] => { results := [.lit (.bool false)], args := [d] }
  | _ => none }
def TagsPlainWrongFalsely : Prop := tagsPlainRow.holds Try.pinned (OpenSpec.ofChange tagsPlainWrong)

/-- 'incipitlaw21.TagsIds': WHATEVER THE INPUT: true; the input reads as it did. -/
def tagsIdsSpec : ChangeSpec := { name := "tagsIds", fn := fun _ => fun
  | [d1, d2, d3] => { results := [.lit (.bool true)], args := [d1, d2, d3] }
  | _ => none }
def tagsIdsRow : OpenClaim := { program := "ytmlkmhonpmnenaa", sum := "da3ef61f372f8c0f489be6a4aac474c91eeb8dcd64d5708c873c05229437dee0", func := "incipit/incipitlaw21.TagsIds", spec := "tagsIds", inPlace := ["internal/bytealg.IndexByteString", "internal/bytealg.IndexString", "internal/abi.NoEscape"], unfollowed := true, recurses := true, named := ["internal/bytealg.MaxLen"], apart := false }
def TagsIdsSaid : Prop := tagsIdsRow.holds Try.pinned (OpenSpec.ofChange tagsIdsSpec)

/-- ITS FALSE NEIGHBOUR: 'it returns false'. Refute it at one input. -/
def tagsIdsWrong : ChangeSpec := { name := "tagsIds", fn := fun _ => fun
  | [d1, d2, d3] => { results := [.lit (.bool false)], args := [d1, d2, d3] }
  | _ => none }
def TagsIdsWrongFalsely : Prop := tagsIdsRow.holds Try.pinned (OpenSpec.ofChange tagsIdsWrong)

/-- 'incipitlaw07.RegistryCore': WHATEVER THE INPUT: true; the input reads as it did. -/
def registryCoreSpec : ChangeSpec := { name := "registryCore", fn := fun _ => fun
  | [d] => { results := [.lit (.bool true)], args := [d] }
  | _ => none }
def registryCoreRow : OpenClaim := { program := "ytmlkmhonpmnenaa", sum := "da3ef61f372f8c0f489be6a4aac474c91eeb8dcd64d5708c873c05229437dee0", func := "incipit/incipitlaw07.RegistryCore", spec := "registryCore", inPlace := ["sync/atomic.LoadUint32", "(*internal/sync.Mutex).Lock", "internal/race.Disable", "sync/atomic.CompareAndSwapInt32", "internal/race.Enable", "internal/race.Acquire", "(*internal/sync.Mutex).lockSlow", "internal/sync.runtime_canSpin", "internal/sync.runtime_doSpin", "internal/sync.throw", "internal/sync.runtime_nanotime", "internal/sync.runtime_SemacquireMutex", "sync/atomic.AddInt32", "(*internal/sync.Mutex).Unlock", "internal/race.ReleaseMerge", "(*internal/sync.Mutex).unlockSlow", "internal/sync.fatal", "internal/sync.runtime_Semrelease", "sync/atomic.StoreUint32"], unfollowed := true, recurses := true, apart := false }
def RegistryCoreSaid : Prop := registryCoreRow.holds Try.pinned (OpenSpec.ofChange registryCoreSpec)

/-- ITS FALSE NEIGHBOUR: 'it returns false'. Refute it at one input. -/
def registryCoreWrong : ChangeSpec := { name := "registryCore", fn := fun _ => fun
  | [d] => { results := [.lit (.bool false)], args := [d] }
  | _ => none }
def RegistryCoreWrongFalsely : Prop := registryCoreRow.holds Try.pinned (OpenSpec.ofChange registryCoreWrong)

/-- 'incipitlaw07.RegistryBits': WHATEVER THE INPUT: true; the input reads as it did. -/
def registryBitsSpec : ChangeSpec := { name := "registryBits", fn := fun _ => fun
  | [d1, d2] => { results := [.lit (.bool true)], args := [d1, d2] }
  | _ => none }
def registryBitsRow : OpenClaim := { program := "ytmlkmhonpmnenaa", sum := "da3ef61f372f8c0f489be6a4aac474c91eeb8dcd64d5708c873c05229437dee0", func := "incipit/incipitlaw07.RegistryBits", spec := "registryBits", inPlace := ["sync/atomic.LoadUint32", "(*internal/sync.Mutex).Lock", "internal/race.Disable", "sync/atomic.CompareAndSwapInt32", "internal/race.Enable", "internal/race.Acquire", "(*internal/sync.Mutex).lockSlow", "internal/sync.runtime_canSpin", "internal/sync.runtime_doSpin", "internal/sync.throw", "internal/sync.runtime_nanotime", "internal/sync.runtime_SemacquireMutex", "sync/atomic.AddInt32", "(*internal/sync.Mutex).Unlock", "internal/race.ReleaseMerge", "(*internal/sync.Mutex).unlockSlow", "internal/sync.fatal", "internal/sync.runtime_Semrelease", "sync/atomic.StoreUint32"], unfollowed := true, recurses := true, apart := false }
def RegistryBitsSaid : Prop := registryBitsRow.holds Try.pinned (OpenSpec.ofChange registryBitsSpec)

/-- ITS FALSE NEIGHBOUR: 'it returns false'. Refute it at one input. -/
def registryBitsWrong : ChangeSpec := { name := "registryBits", fn := fun _ => fun
  | [d1, d2] => { results := [.lit (.bool false)], args := [d1, d2] }
  | _ => none }
def RegistryBitsWrongFalsely : Prop := registryBitsRow.holds Try.pinned (OpenSpec.ofChange registryBitsWrong)

/-- 'incipitlaw07.RegistryCounts': WHATEVER THE INPUT: true; the input reads as it did. -/
def registryCountsSpec : ChangeSpec := { name := "registryCounts", fn := fun _ => fun
  | [d] => { results := [.lit (.bool true)], args := [d] }
  | _ => none }
def registryCountsRow : OpenClaim := { program := "ytmlkmhonpmnenaa", sum := "da3ef61f372f8c0f489be6a4aac474c91eeb8dcd64d5708c873c05229437dee0", func := "incipit/incipitlaw07.RegistryCounts", spec := "registryCounts", inPlace := ["sync/atomic.LoadUint32", "(*internal/sync.Mutex).Lock", "internal/race.Disable", "sync/atomic.CompareAndSwapInt32", "internal/race.Enable", "internal/race.Acquire", "(*internal/sync.Mutex).lockSlow", "internal/sync.runtime_canSpin", "internal/sync.runtime_doSpin", "internal/sync.throw", "internal/sync.runtime_nanotime", "internal/sync.runtime_SemacquireMutex", "sync/atomic.AddInt32", "(*internal/sync.Mutex).Unlock", "internal/race.ReleaseMerge", "(*internal/sync.Mutex).unlockSlow", "internal/sync.fatal", "internal/sync.runtime_Semrelease", "sync/atomic.StoreUint32", "sync/atomic.LoadInt64", "sync/atomic.AddInt64"], unfollowed := true, recurses := true, apart := false }
def RegistryCountsSaid : Prop := registryCountsRow.holds Try.pinned (OpenSpec.ofChange registryCountsSpec)

/-- ITS FALSE NEIGHBOUR: 'it returns false'. Refute it at one input. -/
def registryCountsWrong : ChangeSpec := { name := "registryCounts", fn := fun _ => fun
  | [d] => { results := [.lit (.bool false)], args := [d] }
  | _ => none }
def RegistryCountsWrongFalsely : Prop := registryCountsRow.holds Try.pinned (OpenSpec.ofChange registryCountsWrong)

/-- 'incipitlaw07.RegistryOrder': WHATEVER THE INPUT: true; the input reads as it did. -/
def registryOrderSpec : ChangeSpec := { name := "registryOrder", fn := fun _ => fun
  | [d1, d2, d3, d4] => { results := [.lit (.bool true)], args := [d1, d2, d3, d4] }
  | _ => none }
def registryOrderRow : OpenClaim := { program := "ytmlkmhonpmnenaa", sum := "da3ef61f372f8c0f489be6a4aac474c91eeb8dcd64d5708c873c05229437dee0", func := "incipit/incipitlaw07.RegistryOrder", spec := "registryOrder", inPlace := ["sync/atomic.LoadUint32", "(*internal/sync.Mutex).Lock", "internal/race.Disable", "sync/atomic.CompareAndSwapInt32", "internal/race.Enable", "internal/race.Acquire", "(*internal/sync.Mutex).lockSlow", "internal/sync.runtime_canSpin", "internal/sync.runtime_doSpin", "internal/sync.throw", "internal/sync.runtime_nanotime", "internal/sync.runtime_SemacquireMutex", "sync/atomic.AddInt32", "(*internal/sync.Mutex).Unlock", "internal/race.ReleaseMerge", "(*internal/sync.Mutex).unlockSlow", "internal/sync.fatal", "internal/sync.runtime_Semrelease", "sync/atomic.StoreUint32", "internal/bytealg.IndexByteString"], unfollowed := true, recurses := true, apart := false }
def RegistryOrderSaid : Prop := registryOrderRow.holds Try.pinned (OpenSpec.ofChange registryOrderSpec)

/-- ITS FALSE NEIGHBOUR: 'it returns false'. Refute it at one input. -/
def registryOrderWrong : ChangeSpec := { name := "registryOrder", fn := fun _ => fun
  | [d1, d2, d3, d4] => { results := [.lit (.bool false)], args := [d1, d2, d3, d4] }
  | _ => none }
def RegistryOrderWrongFalsely : Prop := registryOrderRow.holds Try.pinned (OpenSpec.ofChange registryOrderWrong)

/-- 'incipitlaw07.RegistrySorted': WHATEVER THE INPUT: true; the input reads as it did. -/
def registrySortedSpec : ChangeSpec := { name := "registrySorted", fn := fun _ => fun
  | [d1, d2, d3, d4] => { results := [.lit (.bool true)], args := [d1, d2, d3, d4] }
  | _ => none }
def registrySortedRow : OpenClaim := { program := "ytmlkmhonpmnenaa", sum := "da3ef61f372f8c0f489be6a4aac474c91eeb8dcd64d5708c873c05229437dee0", func := "incipit/incipitlaw07.RegistrySorted", spec := "registrySorted", inPlace := ["sync/atomic.LoadUint32", "(*internal/sync.Mutex).Lock", "internal/race.Disable", "sync/atomic.CompareAndSwapInt32", "internal/race.Enable", "internal/race.Acquire", "(*internal/sync.Mutex).lockSlow", "internal/sync.runtime_canSpin", "internal/sync.runtime_doSpin", "internal/sync.throw", "internal/sync.runtime_nanotime", "internal/sync.runtime_SemacquireMutex", "sync/atomic.AddInt32", "(*internal/sync.Mutex).Unlock", "internal/race.ReleaseMerge", "(*internal/sync.Mutex).unlockSlow", "internal/sync.fatal", "internal/sync.runtime_Semrelease", "sync/atomic.StoreUint32", "internal/bytealg.IndexByteString"], unfollowed := true, recurses := true, apart := false }
def RegistrySortedSaid : Prop := registrySortedRow.holds Try.pinned (OpenSpec.ofChange registrySortedSpec)

/-- ITS FALSE NEIGHBOUR: 'it returns false'. Refute it at one input. -/
def registrySortedWrong : ChangeSpec := { name := "registrySorted", fn := fun _ => fun
  | [d1, d2, d3, d4] => { results := [.lit (.bool false)], args := [d1, d2, d3, d4] }
  | _ => none }
def RegistrySortedWrongFalsely : Prop := registrySortedRow.holds Try.pinned (OpenSpec.ofChange registrySortedWrong)

/-- 'incipitlaw07.RegistryPlays': WHATEVER THE INPUT: true; the input reads as it did. -/
def registryPlaysSpec : ChangeSpec := { name := "registryPlays", fn := fun _ => fun
  | [d1, d2] => { results := [.lit (.bool true)], args := [d1, d2] }
  | _ => none }
def registryPlaysRow : OpenClaim := { program := "ytmlkmhonpmnenaa", sum := "da3ef61f372f8c0f489be6a4aac474c91eeb8dcd64d5708c873c05229437dee0", func := "incipit/incipitlaw07.RegistryPlays", spec := "registryPlays", inPlace := ["sync/atomic.LoadUint32", "(*internal/sync.Mutex).Lock", "internal/race.Disable", "sync/atomic.CompareAndSwapInt32", "internal/race.Enable", "internal/race.Acquire", "(*internal/sync.Mutex).lockSlow", "internal/sync.runtime_canSpin", "internal/sync.runtime_doSpin", "internal/sync.throw", "internal/sync.runtime_nanotime", "internal/sync.runtime_SemacquireMutex", "sync/atomic.AddInt32", "(*internal/sync.Mutex).Unlock", "internal/race.ReleaseMerge", "(*internal/sync.Mutex).unlockSlow", "internal/sync.fatal", "internal/sync.runtime_Semrelease", "sync/atomic.StoreUint32", "internal/bytealg.IndexByteString", "sync/atomic.LoadInt64", "sync/atomic.AddInt64"], unfollowed := true, recurses := true, apart := false }
def RegistryPlaysSaid : Prop := registryPlaysRow.holds Try.pinned (OpenSpec.ofChange registryPlaysSpec)

/-- ITS FALSE NEIGHBOUR: 'it returns false'. Refute it at one input. -/
def registryPlaysWrong : ChangeSpec := { name := "registryPlays", fn := fun _ => fun
  | [d1, d2] => { results := [.lit (.bool false)], args := [d1, d2] }
  | _ => none }
def RegistryPlaysWrongFalsely : Prop := registryPlaysRow.holds Try.pinned (OpenSpec.ofChange registryPlaysWrong)

/- THE SECOND FORM. 'bulk': how many values and letters a reading holds, each counted each time it is reached (what is shared counts as often as it is met; a slice's spare places count too). A statement '..UptoSaid' is the law's where the arguments, and the package variables that the reading takes, are together of bulk at most 1048576: NARROWER than '..Said'. Prove '..Said' where nothing that the law and all that it calls make is longer than what came in: it says more and counts as full. Else prove '..UptoSaid'. A law counts once. -/
mutual
def uptoBulk {H : Type} : DataW H → Nat
  | .lit (.string bytes) => bytes.length + 1
  | .lit _ => 1
  | .nil => 1
  | .ptr d => uptoBulk d + 1
  | .slice elems spare => uptoBulkAll elems + uptoBulkAll spare + 1
  | .agg parts => uptoBulkAll parts + 1
  | .iface _ d => uptoBulk d + 1
  | .map entries => uptoBulkEntries entries + 1
  | .held _ => 1
def uptoBulkAll {H : Type} : List (DataW H) → Nat
  | [] => 0
  | d :: r => uptoBulk d + uptoBulkAll r
def uptoBulkEntries {H : Type} : List (Lit × DataW H) → Nat
  | [] => 0
  | x :: r => uptoBulkEntry x + uptoBulkEntries r
def uptoBulkEntry {H : Type} : Lit × DataW H → Nat
  | (.string bytes, d) => bytes.length + uptoBulk d + 1
  | (_, d) => uptoBulk d + 1
 end
def uptoSmall : (H : Type) → List (DataW H) → Bool := fun _ ds => decide (uptoBulkAll ds ≤ 1048576)
def OpenSpec.upto (s : _root_.Go.ChangeSpec) : _root_.Go.OpenSpec := { _root_.Go.OpenSpec.ofChange s with cond := some uptoSmall }

/-- 'incipitlaw21.TagsRead', WHERE WHAT IT READS IS OF BULK AT MOST 1048576: true; the input reads as it did. -/
def tagsReadUptoRow : OpenClaim := { program := "ytmlkmhonpmnenaa", sum := "da3ef61f372f8c0f489be6a4aac474c91eeb8dcd64d5708c873c05229437dee0", func := "incipit/incipitlaw21.TagsRead", spec := "tagsRead", inPlace := ["internal/bytealg.IndexByteString", "internal/bytealg.IndexString", "internal/abi.NoEscape"], unfollowed := true, recurses := true, named := ["internal/bytealg.MaxLen"], apart := false, narrowed := true }
def TagsReadUptoSaid : Prop := tagsReadUptoRow.holds Try.pinned (OpenSpec.upto tagsReadSpec)

/-- 'incipitlaw21.TagsJoin', WHERE WHAT IT READS IS OF BULK AT MOST 1048576: true; the input reads as it did. -/
def tagsJoinUptoRow : OpenClaim := { program := "ytmlkmhonpmnenaa", sum := "da3ef61f372f8c0f489be6a4aac474c91eeb8dcd64d5708c873c05229437dee0", func := "incipit/incipitlaw21.TagsJoin", spec := "tagsJoin", inPlace := ["internal/bytealg.IndexByteString", "internal/bytealg.IndexString", "internal/abi.NoEscape"], unfollowed := true, recurses := true, named := ["internal/bytealg.MaxLen"], apart := false, narrowed := true }
def TagsJoinUptoSaid : Prop := tagsJoinUptoRow.holds Try.pinned (OpenSpec.upto tagsJoinSpec)

/-- 'incipitlaw21.TagsPlain', WHERE WHAT IT READS IS OF BULK AT MOST 1048576: true; the input reads as it did. -/
def tagsPlainUptoRow : OpenClaim := { program := "ytmlkmhonpmnenaa", sum := "da3ef61f372f8c0f489be6a4aac474c91eeb8dcd64d5708c873c05229437dee0", func := "incipit/incipitlaw21.TagsPlain", spec := "tagsPlain", inPlace := ["internal/bytealg.IndexByteString", "internal/bytealg.IndexString", "internal/abi.NoEscape"], unfollowed := true, recurses := true, named := ["internal/bytealg.MaxLen"], apart := false, narrowed := true }
def TagsPlainUptoSaid : Prop := tagsPlainUptoRow.holds Try.pinned (OpenSpec.upto tagsPlainSpec)

/-- 'incipitlaw21.TagsIds', WHERE WHAT IT READS IS OF BULK AT MOST 1048576: true; the input reads as it did. -/
def tagsIdsUptoRow : OpenClaim := { program := "ytmlkmhonpmnenaa", sum := "da3ef61f372f8c0f489be6a4aac474c91eeb8dcd64d5708c873c05229437dee0", func := "incipit/incipitlaw21.TagsIds", spec := "tagsIds", inPlace := ["internal/bytealg.IndexByteString", "internal/bytealg.IndexString", "internal/abi.NoEscape"], unfollowed := true, recurses := true, named := ["internal/bytealg.MaxLen"], apart := false, narrowed := true }
def TagsIdsUptoSaid : Prop := tagsIdsUptoRow.holds Try.pinned (OpenSpec.upto tagsIdsSpec)

/-- 'incipitlaw07.RegistryCore', WHERE WHAT IT READS IS OF BULK AT MOST 1048576: true; the input reads as it did. -/
def registryCoreUptoRow : OpenClaim := { program := "ytmlkmhonpmnenaa", sum := "da3ef61f372f8c0f489be6a4aac474c91eeb8dcd64d5708c873c05229437dee0", func := "incipit/incipitlaw07.RegistryCore", spec := "registryCore", inPlace := ["sync/atomic.LoadUint32", "(*internal/sync.Mutex).Lock", "internal/race.Disable", "sync/atomic.CompareAndSwapInt32", "internal/race.Enable", "internal/race.Acquire", "(*internal/sync.Mutex).lockSlow", "internal/sync.runtime_canSpin", "internal/sync.runtime_doSpin", "internal/sync.throw", "internal/sync.runtime_nanotime", "internal/sync.runtime_SemacquireMutex", "sync/atomic.AddInt32", "(*internal/sync.Mutex).Unlock", "internal/race.ReleaseMerge", "(*internal/sync.Mutex).unlockSlow", "internal/sync.fatal", "internal/sync.runtime_Semrelease", "sync/atomic.StoreUint32"], unfollowed := true, recurses := true, apart := false, narrowed := true }
def RegistryCoreUptoSaid : Prop := registryCoreUptoRow.holds Try.pinned (OpenSpec.upto registryCoreSpec)

/-- 'incipitlaw07.RegistryBits', WHERE WHAT IT READS IS OF BULK AT MOST 1048576: true; the input reads as it did. -/
def registryBitsUptoRow : OpenClaim := { program := "ytmlkmhonpmnenaa", sum := "da3ef61f372f8c0f489be6a4aac474c91eeb8dcd64d5708c873c05229437dee0", func := "incipit/incipitlaw07.RegistryBits", spec := "registryBits", inPlace := ["sync/atomic.LoadUint32", "(*internal/sync.Mutex).Lock", "internal/race.Disable", "sync/atomic.CompareAndSwapInt32", "internal/race.Enable", "internal/race.Acquire", "(*internal/sync.Mutex).lockSlow", "internal/sync.runtime_canSpin", "internal/sync.runtime_doSpin", "internal/sync.throw", "internal/sync.runtime_nanotime", "internal/sync.runtime_SemacquireMutex", "sync/atomic.AddInt32", "(*internal/sync.Mutex).Unlock", "internal/race.ReleaseMerge", "(*internal/sync.Mutex).unlockSlow", "internal/sync.fatal", "internal/sync.runtime_Semrelease", "sync/atomic.StoreUint32"], unfollowed := true, recurses := true, apart := false, narrowed := true }
def RegistryBitsUptoSaid : Prop := registryBitsUptoRow.holds Try.pinned (OpenSpec.upto registryBitsSpec)

/-- 'incipitlaw07.RegistryCounts', WHERE WHAT IT READS IS OF BULK AT MOST 1048576: true; the input reads as it did. -/
def registryCountsUptoRow : OpenClaim := { program := "ytmlkmhonpmnenaa", sum := "da3ef61f372f8c0f489be6a4aac474c91eeb8dcd64d5708c873c05229437dee0", func := "incipit/incipitlaw07.RegistryCounts", spec := "registryCounts", inPlace := ["sync/atomic.LoadUint32", "(*internal/sync.Mutex).Lock", "internal/race.Disable", "sync/atomic.CompareAndSwapInt32", "internal/race.Enable", "internal/race.Acquire", "(*internal/sync.Mutex).lockSlow", "internal/sync.runtime_canSpin", "internal/sync.runtime_doSpin", "internal/sync.throw", "internal/sync.runtime_nanotime", "internal/sync.runtime_SemacquireMutex", "sync/atomic.AddInt32", "(*internal/sync.Mutex).Unlock", "internal/race.ReleaseMerge", "(*internal/sync.Mutex).unlockSlow", "internal/sync.fatal", "internal/sync.runtime_Semrelease", "sync/atomic.StoreUint32", "sync/atomic.LoadInt64", "sync/atomic.AddInt64"], unfollowed := true, recurses := true, apart := false, narrowed := true }
def RegistryCountsUptoSaid : Prop := registryCountsUptoRow.holds Try.pinned (OpenSpec.upto registryCountsSpec)

/-- 'incipitlaw07.RegistryOrder', WHERE WHAT IT READS IS OF BULK AT MOST 1048576: true; the input reads as it did. -/
def registryOrderUptoRow : OpenClaim := { program := "ytmlkmhonpmnenaa", sum := "da3ef61f372f8c0f489be6a4aac474c91eeb8dcd64d5708c873c05229437dee0", func := "incipit/incipitlaw07.RegistryOrder", spec := "registryOrder", inPlace := ["sync/atomic.LoadUint32", "(*internal/sync.Mutex).Lock", "internal/race.Disable", "sync/atomic.CompareAndSwapInt32", "internal/race.Enable", "internal/race.Acquire", "(*internal/sync.Mutex).lockSlow", "internal/sync.runtime_canSpin", "internal/sync.runtime_doSpin", "internal/sync.throw", "internal/sync.runtime_nanotime", "internal/sync.runtime_SemacquireMutex", "sync/atomic.AddInt32", "(*internal/sync.Mutex).Unlock", "internal/race.ReleaseMerge", "(*internal/sync.Mutex).unlockSlow", "internal/sync.fatal", "internal/sync.runtime_Semrelease", "sync/atomic.StoreUint32", "internal/bytealg.IndexByteString"], unfollowed := true, recurses := true, apart := false, narrowed := true }
def RegistryOrderUptoSaid : Prop := registryOrderUptoRow.holds Try.pinned (OpenSpec.upto registryOrderSpec)

/-- 'incipitlaw07.RegistrySorted', WHERE WHAT IT READS IS OF BULK AT MOST 1048576: true; the input reads as it did. -/
def registrySortedUptoRow : OpenClaim := { program := "ytmlkmhonpmnenaa", sum := "da3ef61f372f8c0f489be6a4aac474c91eeb8dcd64d5708c873c05229437dee0", func := "incipit/incipitlaw07.RegistrySorted", spec := "registrySorted", inPlace := ["sync/atomic.LoadUint32", "(*internal/sync.Mutex).Lock", "internal/race.Disable", "sync/atomic.CompareAndSwapInt32", "internal/race.Enable", "internal/race.Acquire", "(*internal/sync.Mutex).lockSlow", "internal/sync.runtime_canSpin", "internal/sync.runtime_doSpin", "internal/sync.throw", "internal/sync.runtime_nanotime", "internal/sync.runtime_SemacquireMutex", "sync/atomic.AddInt32", "(*internal/sync.Mutex).Unlock", "internal/race.ReleaseMerge", "(*internal/sync.Mutex).unlockSlow", "internal/sync.fatal", "internal/sync.runtime_Semrelease", "sync/atomic.StoreUint32", "internal/bytealg.IndexByteString"], unfollowed := true, recurses := true, apart := false, narrowed := true }
def RegistrySortedUptoSaid : Prop := registrySortedUptoRow.holds Try.pinned (OpenSpec.upto registrySortedSpec)

/-- 'incipitlaw07.RegistryPlays', WHERE WHAT IT READS IS OF BULK AT MOST 1048576: true; the input reads as it did. -/
def registryPlaysUptoRow : OpenClaim := { program := "ytmlkmhonpmnenaa", sum := "da3ef61f372f8c0f489be6a4aac474c91eeb8dcd64d5708c873c05229437dee0", func := "incipit/incipitlaw07.RegistryPlays", spec := "registryPlays", inPlace := ["sync/atomic.LoadUint32", "(*internal/sync.Mutex).Lock", "internal/race.Disable", "sync/atomic.CompareAndSwapInt32", "internal/race.Enable", "internal/race.Acquire", "(*internal/sync.Mutex).lockSlow", "internal/sync.runtime_canSpin", "internal/sync.runtime_doSpin", "internal/sync.throw", "internal/sync.runtime_nanotime", "internal/sync.runtime_SemacquireMutex", "sync/atomic.AddInt32", "(*internal/sync.Mutex).Unlock", "internal/race.ReleaseMerge", "(*internal/sync.Mutex).unlockSlow", "internal/sync.fatal", "internal/sync.runtime_Semrelease", "sync/atomic.StoreUint32", "internal/bytealg.IndexByteString", "sync/atomic.LoadInt64", "sync/atomic.AddInt64"], unfollowed := true, recurses := true, apart := false, narrowed := true }
def RegistryPlaysUptoSaid : Prop := registryPlaysUptoRow.holds Try.pinned (OpenSpec.upto registryPlaysSpec)

end Rows
end Go.Proofs.Ytmlkmhonpmnenaa
