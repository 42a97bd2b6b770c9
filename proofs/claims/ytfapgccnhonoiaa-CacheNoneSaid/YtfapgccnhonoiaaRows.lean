/-
  No cell of these rows narrows 'for every input' (looked for: loops, veiled, ifaces, maps, wideKeys, modest, calm, conditions, laid).
  DERIVED. THE GIVEN ROWS OF THIS SEAT. 4 by the template 'for every input the law returns true; each argument reads behind the call as it read before'; 0 by the template 'total and deterministic' (their statements: YtfapgccnhonoiaaTotals.lean).
  GIVEN WITH THE SEED: the statements are not yours to turn. If you find one false, say at which input.
  Laid BY PROGRAM, IN A SANDBOX (cutbox-rows.mjs): the forced cells as the released guide's own fill.sh prints them over the translation 7796b2ce9d2f6e22… (all of the seat's roots in one cut). By AI agents, Wed Nov 11 2026. No macro, syntax, notation, axiom, sorry.
-/
import Derived.Test.YtfapgccnhonoiaaChecked
import GoSem.Claim
import GoSem.ClaimJoined
import GoSem.ClaimMapViews
import Derived.JoinedTies
import Derived.KernelRfl
namespace Go.Proofs.Ytfapgccnhonoiaa
/- THE CELL 'sum', in the pinned program and in every row, IS THE sha256 OF THE DUMP (.gsa) THAT YtfapgccnhonoiaaProg.lean LOADS. Nothing in Lean hashes anything: it is a label: what it is worth is what the hold of that sum in a sandbox is worth. -/
noncomputable def Try.pinned : Pinned := { name := "ytfapgccnhonoiaa", sum := "7796b2ce9d2f6e221184375ea74a369d0abc2d94a9338fc797cd99ae4d9e7e51", checked := Try.checked }
namespace Rows
def none {H : Type} : Left H := { results := [], args := [] }

/-- 'incipitlaw05.CachePinned': WHATEVER THE INPUT: true; the input reads as it did. -/
def cachePinnedSpec : ChangeSpec := { name := "cachePinned", fn := fun _ => fun
  | [d1, d2] => { results := [.lit (.bool true)], args := [d1, d2] }
  | _ => none }
def cachePinnedRow : OpenClaim := { program := "ytfapgccnhonoiaa", sum := "7796b2ce9d2f6e221184375ea74a369d0abc2d94a9338fc797cd99ae4d9e7e51", func := "incipit/incipitlaw05.CachePinned", spec := "cachePinned", unfollowed := true, recurses := true, apart := false }
def CachePinnedSaid : Prop := cachePinnedRow.holds Try.pinned (OpenSpec.ofChange cachePinnedSpec)

/-- ITS FALSE NEIGHBOUR: 'it returns false'. Refute it at one input. -/
def cachePinnedWrong : ChangeSpec := { name := "cachePinned", fn := fun _ => fun
  | [d1, d2] => { results := [.lit (.bool false)], args := [d1, d2] }
  | _ => none }
def CachePinnedWrongFalsely : Prop := cachePinnedRow.holds Try.pinned (OpenSpec.ofChange cachePinnedWrong)

/-- 'incipitlaw05.CacheFlushed': WHATEVER THE INPUT: true; the input reads as it did. -/
def cacheFlushedSpec : ChangeSpec := { name := "cacheFlushed", fn := fun _ => fun
  | [d1, d2] => { results := [.lit (.bool true)], args := [d1, d2] }
  | _ => none }
def cacheFlushedRow : OpenClaim := { program := "ytfapgccnhonoiaa", sum := "7796b2ce9d2f6e221184375ea74a369d0abc2d94a9338fc797cd99ae4d9e7e51", func := "incipit/incipitlaw05.CacheFlushed", spec := "cacheFlushed", unfollowed := true, recurses := true, apart := false }
def CacheFlushedSaid : Prop := cacheFlushedRow.holds Try.pinned (OpenSpec.ofChange cacheFlushedSpec)

/-- ITS FALSE NEIGHBOUR: 'it returns false'. Refute it at one input. -/
def cacheFlushedWrong : ChangeSpec := { name := "cacheFlushed", fn := fun _ => fun
  | [d1, d2] => { results := [.lit (.bool false)], args := [d1, d2] }
  | _ => none }
def CacheFlushedWrongFalsely : Prop := cacheFlushedRow.holds Try.pinned (OpenSpec.ofChange cacheFlushedWrong)

/-- 'incipitlaw05.CacheShows': WHATEVER THE INPUT: true; the input reads as it did. -/
def cacheShowsSpec : ChangeSpec := { name := "cacheShows", fn := fun _ => fun
  | [d1, d2] => { results := [.lit (.bool true)], args := [d1, d2] }
  | _ => none }
def cacheShowsRow : OpenClaim := { program := "ytfapgccnhonoiaa", sum := "7796b2ce9d2f6e221184375ea74a369d0abc2d94a9338fc797cd99ae4d9e7e51", func := "incipit/incipitlaw05.CacheShows", spec := "cacheShows", unfollowed := true, recurses := true, apart := false }
def CacheShowsSaid : Prop := cacheShowsRow.holds Try.pinned (OpenSpec.ofChange cacheShowsSpec)

/-- ITS FALSE NEIGHBOUR: 'it returns false'. Refute it at one input. -/
def cacheShowsWrong : ChangeSpec := { name := "cacheShows", fn := fun _ => fun
  | [d1, d2] => { results := [.lit (.bool false)], args := [d1, d2] }
  | _ => none }
def CacheShowsWrongFalsely : Prop := cacheShowsRow.holds Try.pinned (OpenSpec.ofChange cacheShowsWrong)

/-- 'incipitlaw05.CacheNone': WHATEVER THE INPUT: true; the input reads as it did. -/
def cacheNoneSpec : ChangeSpec := { name := "cacheNone", fn := fun _ => fun
  | [d1, d2] => { results := [.lit (.bool true)], args := [d1, d2] }
  | _ => none }
def cacheNoneRow : OpenClaim := { program := "ytfapgccnhonoiaa", sum := "7796b2ce9d2f6e221184375ea74a369d0abc2d94a9338fc797cd99ae4d9e7e51", func := "incipit/incipitlaw05.CacheNone", spec := "cacheNone", unfollowed := true, recurses := true, apart := false }
def CacheNoneSaid : Prop := cacheNoneRow.holds Try.pinned (OpenSpec.ofChange cacheNoneSpec)

/-- ITS FALSE NEIGHBOUR: 'it returns false'. Refute it at one input. -/
def cacheNoneWrong : ChangeSpec := { name := "cacheNone", fn := fun _ => fun
  | [d1, d2] => { results := [.lit (.bool false)], args := [d1, d2] }
  | _ => none }
def CacheNoneWrongFalsely : Prop := cacheNoneRow.holds Try.pinned (OpenSpec.ofChange cacheNoneWrong)

/- THE SECOND FORM. 'bulk': how many values and letters a reading holds, each counted each time it is reached (what is shared counts as often as it is met; a slice's spare places count too). A statement '..UptoSaid' is the law's where the arguments, and the package variables that the reading takes, are together of bulk at most 1048576: NARROWER than '..Said'. Prove '..Said' where nothing that the law and all that it calls make is longer than what came in: it says more and counts as full. Else prove '..UptoSaid'. A law counts once. -/
mutual
def uptoBulk {H : Type} : DataW H → Nat
  | .lit (.string bytes) => bytes.length + 1
  | .lit _ => 1
  | .nil => 1
  | .ptr d => uptoBulk d + 1
  | .slice elems spare => uptoBulkAll elems + uptoBulkAll spare + 1
  | .agg parts => uptoBulkAll parts + 1
  | .iface _ d => uptoBulk d + 1
  | .map entries => uptoBulkEntries entries + 1
  | .held _ => 1
def uptoBulkAll {H : Type} : List (DataW H) → Nat
  | [] => 0
  | d :: r => uptoBulk d + uptoBulkAll r
def uptoBulkEntries {H : Type} : List (Lit × DataW H) → Nat
  | [] => 0
  | x :: r => uptoBulkEntry x + uptoBulkEntries r
def uptoBulkEntry {H : Type} : Lit × DataW H → Nat
  | (.string bytes, d) => bytes.length + uptoBulk d + 1
  | (_, d) => uptoBulk d + 1
 end
def uptoSmall : (H : Type) → List (DataW H) → Bool := fun _ ds => decide (uptoBulkAll ds ≤ 1048576)
def OpenSpec.upto (s : _root_.Go.ChangeSpec) : _root_.Go.OpenSpec := { _root_.Go.OpenSpec.ofChange s with cond := some uptoSmall }

/-- 'incipitlaw05.CachePinned', WHERE WHAT IT READS IS OF BULK AT MOST 1048576: true; the input reads as it did. -/
def cachePinnedUptoRow : OpenClaim := { program := "ytfapgccnhonoiaa", sum := "7796b2ce9d2f6e221184375ea74a369d0abc2d94a9338fc797cd99ae4d9e7e51", func := "incipit/incipitlaw05.CachePinned", spec := "cachePinned", unfollowed := true, recurses := true, apart := false, narrowed := true }
def CachePinnedUptoSaid : Prop := cachePinnedUptoRow.holds Try.pinned (OpenSpec.upto cachePinnedSpec)

/-- 'incipitlaw05.CacheFlushed', WHERE WHAT IT READS IS OF BULK AT MOST 1048576: true; the input reads as it did. -/
def cacheFlushedUptoRow : OpenClaim := { program := "ytfapgccnhonoiaa", sum := "7796b2ce9d2f6e221184375ea74a369d0abc2d94a9338fc797cd99ae4d9e7e51", func := "incipit/incipitlaw05.CacheFlushed", spec := "cacheFlushed", unfollowed := true, recurses := true, apart := false, narrowed := true }
def CacheFlushedUptoSaid : Prop := cacheFlushedUptoRow.holds Try.pinned (OpenSpec.upto cacheFlushedSpec)

/-- 'incipitlaw05.CacheShows', WHERE WHAT IT READS IS OF BULK AT MOST 1048576: true; the input reads as it did. -/
def cacheShowsUptoRow : OpenClaim := { program := "ytfapgccnhonoiaa", sum := "7796b2ce9d2f6e221184375ea74a369d0abc2d94a9338fc797cd99ae4d9e7e51", func := "incipit/incipitlaw05.CacheShows", spec := "cacheShows", unfollowed := true, recurses := true, apart := false, narrowed := true }
def CacheShowsUptoSaid : Prop := cacheShowsUptoRow.holds Try.pinned (OpenSpec.upto cacheShowsSpec)

/-- 'incipitlaw05.CacheNone', WHERE WHAT IT READS IS OF BULK AT MOST 1048576: true; the input reads as it did. -/
def cacheNoneUptoRow : OpenClaim := { program := "ytfapgccnhonoiaa", sum := "7796b2ce9d2f6e221184375ea74a369d0abc2d94a9338fc797cd99ae4d9e7e51", func := "incipit/incipitlaw05.CacheNone", spec := "cacheNone", unfollowed := true, recurses := true, apart := false, narrowed := true }
def CacheNoneUptoSaid : Prop := cacheNoneUptoRow.holds Try.pinned (OpenSpec.upto cacheNoneSpec)

end Rows
end Go.Proofs.Ytfapgccnhonoiaa
