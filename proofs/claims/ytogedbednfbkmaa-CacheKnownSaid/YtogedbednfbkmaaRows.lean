/-
  No cell of these rows narrows 'for every input' (looked for: loops, veiled, ifaces, maps, wideKeys, modest, calm, conditions, laid).
  DERIVED. THE GIVEN ROWS OF THIS SEAT. 7 by the template 'for every input the law returns true; each argument reads behind the call as it read before'; 0 by the template 'total and deterministic' (their statements: YtogedbednfbkmaaTotals.lean).
  GIVEN WITH THE SEED: the statements are not yours to turn. If you find one false, say at which input.
  Laid BY PROGRAM, IN A SANDBOX (cutbox-rows.mjs): the forced cells as the released guide's own fill.sh prints them over the translation e8d5ab5fed37b986… (all of the seat's roots in one cut). By AI agents, Wed Nov 11 2026. No macro, syntax, notation, axiom, sorry.
-/
import Derived.Test.YtogedbednfbkmaaChecked
import GoSem.Claim
import GoSem.ClaimJoined
import GoSem.ClaimMapViews
import Derived.JoinedTies
import Derived.KernelRfl
namespace Go.Proofs.Ytogedbednfbkmaa
/- THE CELL 'sum', in the pinned program and in every row, IS THE sha256 OF THE DUMP (.gsa) THAT YtogedbednfbkmaaProg.lean LOADS. Nothing in Lean hashes anything: it is a label: what it is worth is what the hold of that sum in a sandbox is worth. -/
noncomputable def Try.pinned : Pinned := { name := "ytogedbednfbkmaa", sum := "e8d5ab5fed37b986875a3d5b6acf532e4368c19f1f0690ce2f867c57b7f16f75", checked := Try.checked }
namespace Rows
def none {H : Type} : Left H := { results := [], args := [] }

/-- 'armillarylaw22.CacheOld': WHATEVER THE INPUT: true; the input reads as it did. -/
def cacheOldSpec : ChangeSpec := { name := "cacheOld", fn := fun _ => fun
  | [d1, d2] => { results := [.lit (.bool true)], args := [d1, d2] }
  | _ => none }
def cacheOldRow : OpenClaim := { program := "ytogedbednfbkmaa", sum := "e8d5ab5fed37b986875a3d5b6acf532e4368c19f1f0690ce2f867c57b7f16f75", func := "armillary/armillarylaw22.CacheOld", spec := "cacheOld", unfollowed := true, recurses := true, apart := false }
def CacheOldSaid : Prop := cacheOldRow.holds Try.pinned (OpenSpec.ofChange cacheOldSpec)

/-- ITS FALSE NEIGHBOUR: 'it returns false'. Refute it at one input. -/
def cacheOldWrong : ChangeSpec := { name := "cacheOld", fn := fun _ => fun
  | [d1, d2] => { results := [.lit (.bool false)], args := [d1, d2] }
  | _ => none }
def CacheOldWrongFalsely : Prop := cacheOldRow.holds Try.pinned (OpenSpec.ofChange cacheOldWrong)

/-- 'armillarylaw22.CacheDear': WHATEVER THE INPUT: true; the input reads as it did. -/
def cacheDearSpec : ChangeSpec := { name := "cacheDear", fn := fun _ => fun
  | [d1, d2, d3] => { results := [.lit (.bool true)], args := [d1, d2, d3] }
  | _ => none }
def cacheDearRow : OpenClaim := { program := "ytogedbednfbkmaa", sum := "e8d5ab5fed37b986875a3d5b6acf532e4368c19f1f0690ce2f867c57b7f16f75", func := "armillary/armillarylaw22.CacheDear", spec := "cacheDear", unfollowed := true, recurses := true, apart := false }
def CacheDearSaid : Prop := cacheDearRow.holds Try.pinned (OpenSpec.ofChange cacheDearSpec)

/-- ITS FALSE NEIGHBOUR: 'it returns false'. Refute it at one input. -/
def cacheDearWrong : ChangeSpec := { name := "cacheDear", fn := fun _ => fun
  | [d1, d2, d3] => { results := [.lit (.bool false)], args := [d1, d2, d3] }
  | _ => none }
def CacheDearWrongFalsely : Prop := cacheDearRow.holds Try.pinned (OpenSpec.ofChange cacheDearWrong)

/-- 'armillarylaw22.CacheOrder': WHATEVER THE INPUT: true; the input reads as it did. -/
def cacheOrderSpec : ChangeSpec := { name := "cacheOrder", fn := fun _ => fun
  | [d1, d2, d3] => { results := [.lit (.bool true)], args := [d1, d2, d3] }
  | _ => none }
def cacheOrderRow : OpenClaim := { program := "ytogedbednfbkmaa", sum := "e8d5ab5fed37b986875a3d5b6acf532e4368c19f1f0690ce2f867c57b7f16f75", func := "armillary/armillarylaw22.CacheOrder", spec := "cacheOrder", unfollowed := true, recurses := true, apart := false }
def CacheOrderSaid : Prop := cacheOrderRow.holds Try.pinned (OpenSpec.ofChange cacheOrderSpec)

/-- ITS FALSE NEIGHBOUR: 'it returns false'. Refute it at one input. -/
def cacheOrderWrong : ChangeSpec := { name := "cacheOrder", fn := fun _ => fun
  | [d1, d2, d3] => { results := [.lit (.bool false)], args := [d1, d2, d3] }
  | _ => none }
def CacheOrderWrongFalsely : Prop := cacheOrderRow.holds Try.pinned (OpenSpec.ofChange cacheOrderWrong)

/-- 'armillarylaw22.CacheCounts': WHATEVER THE INPUT: true; the input reads as it did. -/
def cacheCountsSpec : ChangeSpec := { name := "cacheCounts", fn := fun _ => fun
  | [d1, d2] => { results := [.lit (.bool true)], args := [d1, d2] }
  | _ => none }
def cacheCountsRow : OpenClaim := { program := "ytogedbednfbkmaa", sum := "e8d5ab5fed37b986875a3d5b6acf532e4368c19f1f0690ce2f867c57b7f16f75", func := "armillary/armillarylaw22.CacheCounts", spec := "cacheCounts", unfollowed := true, recurses := true, apart := false }
def CacheCountsSaid : Prop := cacheCountsRow.holds Try.pinned (OpenSpec.ofChange cacheCountsSpec)

/-- ITS FALSE NEIGHBOUR: 'it returns false'. Refute it at one input. -/
def cacheCountsWrong : ChangeSpec := { name := "cacheCounts", fn := fun _ => fun
  | [d1, d2] => { results := [.lit (.bool false)], args := [d1, d2] }
  | _ => none }
def CacheCountsWrongFalsely : Prop := cacheCountsRow.holds Try.pinned (OpenSpec.ofChange cacheCountsWrong)

/-- 'armillarylaw22.CachePlays': WHATEVER THE INPUT: true; the input reads as it did. -/
def cachePlaysSpec : ChangeSpec := { name := "cachePlays", fn := fun _ => fun
  | [d1, d2] => { results := [.lit (.bool true)], args := [d1, d2] }
  | _ => none }
def cachePlaysRow : OpenClaim := { program := "ytogedbednfbkmaa", sum := "e8d5ab5fed37b986875a3d5b6acf532e4368c19f1f0690ce2f867c57b7f16f75", func := "armillary/armillarylaw22.CachePlays", spec := "cachePlays", unfollowed := true, recurses := true, apart := false }
def CachePlaysSaid : Prop := cachePlaysRow.holds Try.pinned (OpenSpec.ofChange cachePlaysSpec)

/-- ITS FALSE NEIGHBOUR: 'it returns false'. Refute it at one input. -/
def cachePlaysWrong : ChangeSpec := { name := "cachePlays", fn := fun _ => fun
  | [d1, d2] => { results := [.lit (.bool false)], args := [d1, d2] }
  | _ => none }
def CachePlaysWrongFalsely : Prop := cachePlaysRow.holds Try.pinned (OpenSpec.ofChange cachePlaysWrong)

/-- 'armillarylaw22.CacheTrue': WHATEVER THE INPUT: true; the input reads as it did. -/
def cacheTrueSpec : ChangeSpec := { name := "cacheTrue", fn := fun _ => fun
  | [d1, d2] => { results := [.lit (.bool true)], args := [d1, d2] }
  | _ => none }
def cacheTrueRow : OpenClaim := { program := "ytogedbednfbkmaa", sum := "e8d5ab5fed37b986875a3d5b6acf532e4368c19f1f0690ce2f867c57b7f16f75", func := "armillary/armillarylaw22.CacheTrue", spec := "cacheTrue", unfollowed := true, recurses := true, apart := false }
def CacheTrueSaid : Prop := cacheTrueRow.holds Try.pinned (OpenSpec.ofChange cacheTrueSpec)

/-- ITS FALSE NEIGHBOUR: 'it returns false'. Refute it at one input. -/
def cacheTrueWrong : ChangeSpec := { name := "cacheTrue", fn := fun _ => fun
  | [d1, d2] => { results := [.lit (.bool false)], args := [d1, d2] }
  | _ => none }
def CacheTrueWrongFalsely : Prop := cacheTrueRow.holds Try.pinned (OpenSpec.ofChange cacheTrueWrong)

/-- 'armillarylaw22.CacheKnown': WHATEVER THE INPUT: true; the input reads as it did. -/
def cacheKnownSpec : ChangeSpec := { name := "cacheKnown", fn := fun _ => fun
  | [] => { results := [.lit (.bool true)], args := [] }
  | _ => none }
def cacheKnownRow : OpenClaim := { program := "ytogedbednfbkmaa", sum := "e8d5ab5fed37b986875a3d5b6acf532e4368c19f1f0690ce2f867c57b7f16f75", func := "armillary/armillarylaw22.CacheKnown", spec := "cacheKnown", unfollowed := true, recurses := true, apart := false }
def CacheKnownSaid : Prop := cacheKnownRow.holds Try.pinned (OpenSpec.ofChange cacheKnownSpec)

/-- ITS FALSE NEIGHBOUR: 'it returns false'. Refute it at one input. -/
def cacheKnownWrong : ChangeSpec := { name := "cacheKnown", fn := fun _ => fun
  | [] => { results := [.lit (.bool false)], args := [] }
  | _ => none }
def CacheKnownWrongFalsely : Prop := cacheKnownRow.holds Try.pinned (OpenSpec.ofChange cacheKnownWrong)

/- THE SECOND FORM. 'bulk': how many values and letters a reading holds, each counted each time it is reached (what is shared counts as often as it is met; a slice's spare places count too). A statement '..UptoSaid' is the law's where the arguments, and the package variables that the reading takes, are together of bulk at most 1048576: NARROWER than '..Said'. Prove '..Said' where nothing that the law and all that it calls make is longer than what came in: it says more and counts as full. Else prove '..UptoSaid'. A law counts once. -/
mutual
def uptoBulk {H : Type} : DataW H → Nat
  | .lit (.string bytes) => bytes.length + 1
  | .lit _ => 1
  | .nil => 1
  | .ptr d => uptoBulk d + 1
  | .slice elems spare => uptoBulkAll elems + uptoBulkAll spare + 1
  | .agg parts => uptoBulkAll parts + 1
  | .iface _ d => uptoBulk d + 1
  | .map entries => uptoBulkEntries entries + 1
  | .held _ => 1
def uptoBulkAll {H : Type} : List (DataW H) → Nat
  | [] => 0
  | d :: r => uptoBulk d + uptoBulkAll r
def uptoBulkEntries {H : Type} : List (Lit × DataW H) → Nat
  | [] => 0
  | x :: r => uptoBulkEntry x + uptoBulkEntries r
def uptoBulkEntry {H : Type} : Lit × DataW H → Nat
  | (.string bytes, d) => bytes.length + uptoBulk d + 1
  | (_, d) => uptoBulk d + 1
 end
def uptoSmall : (H : Type) → List (DataW H) → Bool := fun _ ds => decide (uptoBulkAll ds ≤ 1048576)
def OpenSpec.upto (s : _root_.Go.ChangeSpec) : _root_.Go.OpenSpec := { _root_.Go.OpenSpec.ofChange s with cond := some uptoSmall }

/-- 'armillarylaw22.CacheOld', WHERE WHAT IT READS IS OF BULK AT MOST 1048576: true; the input reads as it did. -/
def cacheOldUptoRow : OpenClaim := { program := "ytogedbednfbkmaa", sum := "e8d5ab5fed37b986875a3d5b6acf532e4368c19f1f0690ce2f867c57b7f16f75", func := "armillary/armillarylaw22.CacheOld", spec := "cacheOld", unfollowed := true, recurses := true, apart := false, narrowed := true }
def CacheOldUptoSaid : Prop := cacheOldUptoRow.holds Try.pinned (OpenSpec.upto cacheOldSpec)

/-- 'armillarylaw22.CacheDear', WHERE WHAT IT READS IS OF BULK AT MOST 1048576: true; the input reads as it did. -/
def cacheDearUptoRow : OpenClaim := { program := "ytogedbednfbkmaa", sum := "e8d5ab5fed37b986875a3d5b6acf532e4368c19f1f0690ce2f867c57b7f16f75", func := "armillary/armillarylaw22.CacheDear", spec := "cacheDear", unfollowed := true, recurses := true, apart := false, narrowed := true }
def CacheDearUptoSaid : Prop := cacheDearUptoRow.holds Try.pinned (OpenSpec.upto cacheDearSpec)

/-- 'armillarylaw22.CacheOrder', WHERE WHAT IT READS IS OF BULK AT MOST 1048576: true; the input reads as it did. -/
def cacheOrderUptoRow : OpenClaim := { program := "ytogedbednfbkmaa", sum := "e8d5ab5fed37b986875a3d5b6acf532e4368c19f1f0690ce2f867c57b7f16f75", func := "armillary/armillarylaw22.CacheOrder", spec := "cacheOrder", unfollowed := true, recurses := true, apart := false, narrowed := true }
def CacheOrderUptoSaid : Prop := cacheOrderUptoRow.holds Try.pinned (OpenSpec.upto cacheOrderSpec)

/-- 'armillarylaw22.CacheCounts', WHERE WHAT IT READS IS OF BULK AT MOST 1048576: true; the input reads as it did. -/
def cacheCountsUptoRow : OpenClaim := { program := "ytogedbednfbkmaa", sum := "e8d5ab5fed37b986875a3d5b6acf532e4368c19f1f0690ce2f867c57b7f16f75", func := "armillary/armillarylaw22.CacheCounts", spec := "cacheCounts", unfollowed := true, recurses := true, apart := false, narrowed := true }
def CacheCountsUptoSaid : Prop := cacheCountsUptoRow.holds Try.pinned (OpenSpec.upto cacheCountsSpec)

/-- 'armillarylaw22.CachePlays', WHERE WHAT IT READS IS OF BULK AT MOST 1048576: true; the input reads as it did. -/
def cachePlaysUptoRow : OpenClaim := { program := "ytogedbednfbkmaa", sum := "e8d5ab5fed37b986875a3d5b6acf532e4368c19f1f0690ce2f867c57b7f16f75", func := "armillary/armillarylaw22.CachePlays", spec := "cachePlays", unfollowed := true, recurses := true, apart := false, narrowed := true }
def CachePlaysUptoSaid : Prop := cachePlaysUptoRow.holds Try.pinned (OpenSpec.upto cachePlaysSpec)

/-- 'armillarylaw22.CacheTrue', WHERE WHAT IT READS IS OF BULK AT MOST 1048576: true; the input reads as it did. -/
def cacheTrueUptoRow : OpenClaim := { program := "ytogedbednfbkmaa", sum := "e8d5ab5fed37b986875a3d5b6acf532e4368c19f1f0690ce2f867c57b7f16f75", func := "armillary/armillarylaw22.CacheTrue", spec := "cacheTrue", unfollowed := true, recurses := true, apart := false, narrowed := true }
def CacheTrueUptoSaid : Prop := cacheTrueUptoRow.holds Try.pinned (OpenSpec.upto cacheTrueSpec)

/-- 'armillarylaw22.CacheKnown', WHERE WHAT IT READS IS OF BULK AT MOST 1048576: true; the input reads as it did. -/
def cacheKnownUptoRow : OpenClaim := { program := "ytogedbednfbkmaa", sum := "e8d5ab5fed37b986875a3d5b6acf532e4368c19f1f0690ce2f867c57b7f16f75", func := "armillary/armillarylaw22.CacheKnown", spec := "cacheKnown", unfollowed := true, recurses := true, apart := false, narrowed := true }
def CacheKnownUptoSaid : Prop := cacheKnownUptoRow.holds Try.pinned (OpenSpec.upto cacheKnownSpec)

end Rows
end Go.Proofs.Ytogedbednfbkmaa
