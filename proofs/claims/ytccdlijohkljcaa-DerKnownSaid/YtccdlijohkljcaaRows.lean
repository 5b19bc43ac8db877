/-
  No cell of these rows narrows 'for every input' (looked for: loops, veiled, ifaces, maps, wideKeys, modest, calm, conditions, laid).
  DERIVED. THE GIVEN ROWS OF THIS SEAT. 7 by the template 'for every input the law returns true; each argument reads behind the call as it read before'; 0 by the template 'total and deterministic' (their statements: YtccdlijohkljcaaTotals.lean).
  GIVEN WITH THE SEED: the statements are not yours to turn. If you find one false, say at which input.
  Laid BY PROGRAM, IN A SANDBOX (cutbox-rows.mjs): the forced cells as the released guide's own fill.sh prints them over the translation bd09a26a3625a48f… (all of the seat's roots in one cut). By AI agents, Wed Nov 11 2026. No macro, syntax, notation, axiom, sorry.
-/
import Derived.Test.YtccdlijohkljcaaChecked
import GoSem.Claim
import GoSem.ClaimJoined
import GoSem.ClaimMapViews
import Derived.JoinedTies
import Derived.KernelRfl
namespace Go.Proofs.Ytccdlijohkljcaa
/- THE CELL 'sum', in the pinned program and in every row, IS THE sha256 OF THE DUMP (.gsa) THAT YtccdlijohkljcaaProg.lean LOADS. Nothing in Lean hashes anything: it is a label: what it is worth is what the hold of that sum in a sandbox is worth. -/
noncomputable def Try.pinned : Pinned := { name := "ytccdlijohkljcaa", sum := "bd09a26a3625a48f91fadf5978bfed80e2dbc3827405a66b7c2e8e198f7267b9", checked := Try.checked }
namespace Rows
def none {H : Type} : Left H := { results := [], args := [] }

/-- 'vouchlaw07.DerReads': WHATEVER THE INPUT: true; the input reads as it did. -/
def derReadsSpec : ChangeSpec := { name := "derReads", fn := fun _ => fun
  | [d] => { results := [.lit (.bool true)], args := [d] }
  | _ => none }
def derReadsRow : OpenClaim := { program := "ytccdlijohkljcaa", sum := "bd09a26a3625a48f91fadf5978bfed80e2dbc3827405a66b7c2e8e198f7267b9", func := "vouch/vouchlaw07.DerReads", spec := "derReads", unfollowed := true, recurses := true, apart := false }
def DerReadsSaid : Prop := derReadsRow.holds Try.pinned (OpenSpec.ofChange derReadsSpec)

/-- ITS FALSE NEIGHBOUR: 'it returns false'. Refute it at one input. -/
def derReadsWrong : ChangeSpec := { name := "derReads", fn := fun _ => fun
  | [d] => { results := [.lit (.bool false)], args := [d] }
  | _ => none }
def DerReadsWrongFalsely : Prop := derReadsRow.holds Try.pinned (OpenSpec.ofChange derReadsWrong)

/-- 'vouchlaw07.DerTells': WHATEVER THE INPUT: true; the input reads as it did. -/
def derTellsSpec : ChangeSpec := { name := "derTells", fn := fun _ => fun
  | [d] => { results := [.lit (.bool true)], args := [d] }
  | _ => none }
def derTellsRow : OpenClaim := { program := "ytccdlijohkljcaa", sum := "bd09a26a3625a48f91fadf5978bfed80e2dbc3827405a66b7c2e8e198f7267b9", func := "vouch/vouchlaw07.DerTells", spec := "derTells", unfollowed := true, recurses := true, apart := false }
def DerTellsSaid : Prop := derTellsRow.holds Try.pinned (OpenSpec.ofChange derTellsSpec)

/-- ITS FALSE NEIGHBOUR: 'it returns false'. Refute it at one input. -/
def derTellsWrong : ChangeSpec := { name := "derTells", fn := fun _ => fun
  | [d] => { results := [.lit (.bool false)], args := [d] }
  | _ => none }
def DerTellsWrongFalsely : Prop := derTellsRow.holds Try.pinned (OpenSpec.ofChange derTellsWrong)

/-- 'vouchlaw07.DerOnce': WHATEVER THE INPUT: true; the input reads as it did. -/
def derOnceSpec : ChangeSpec := { name := "derOnce", fn := fun _ => fun
  | [d] => { results := [.lit (.bool true)], args := [d] }
  | _ => none }
def derOnceRow : OpenClaim := { program := "ytccdlijohkljcaa", sum := "bd09a26a3625a48f91fadf5978bfed80e2dbc3827405a66b7c2e8e198f7267b9", func := "vouch/vouchlaw07.DerOnce", spec := "derOnce", unfollowed := true, recurses := true, apart := false }
def DerOnceSaid : Prop := derOnceRow.holds Try.pinned (OpenSpec.ofChange derOnceSpec)

/-- ITS FALSE NEIGHBOUR: 'it returns false'. Refute it at one input. -/
def derOnceWrong : ChangeSpec := { name := "derOnce", fn := fun _ => fun
  | [d] => { results := [.lit (.bool false)], args := [d] }
  | _ => none }
def DerOnceWrongFalsely : Prop := derOnceRow.holds Try.pinned (OpenSpec.ofChange derOnceWrong)

/-- 'vouchlaw07.DerLies': WHATEVER THE INPUT: true; the input reads as it did. -/
def derLiesSpec : ChangeSpec := { name := "derLies", fn := fun _ => fun
  | [d1, d2, d3] => { results := [.lit (.bool true)], args := [d1, d2, d3] }
  | _ => none }
def derLiesRow : OpenClaim := { program := "ytccdlijohkljcaa", sum := "bd09a26a3625a48f91fadf5978bfed80e2dbc3827405a66b7c2e8e198f7267b9", func := "vouch/vouchlaw07.DerLies", spec := "derLies", unfollowed := true, recurses := true, apart := false }
def DerLiesSaid : Prop := derLiesRow.holds Try.pinned (OpenSpec.ofChange derLiesSpec)

/-- ITS FALSE NEIGHBOUR: 'it returns false'. Refute it at one input. -/
def derLiesWrong : ChangeSpec := { name := "derLies", fn := fun _ => fun
  | [d1, d2, d3] => { results := [.lit (.bool false)], args := [d1, d2, d3] }
  | _ => none }
def DerLiesWrongFalsely : Prop := derLiesRow.holds Try.pinned (OpenSpec.ofChange derLiesWrong)

/-- 'vouchlaw07.DerItems': WHATEVER THE INPUT: true; the input reads as it did. -/
def derItemsSpec : ChangeSpec := { name := "derItems", fn := fun _ => fun
  | [d1, d2] => { results := [.lit (.bool true)], args := [d1, d2] }
  | _ => none }
def derItemsRow : OpenClaim := { program := "ytccdlijohkljcaa", sum := "bd09a26a3625a48f91fadf5978bfed80e2dbc3827405a66b7c2e8e198f7267b9", func := "vouch/vouchlaw07.DerItems", spec := "derItems", unfollowed := true, recurses := true, apart := false }
def DerItemsSaid : Prop := derItemsRow.holds Try.pinned (OpenSpec.ofChange derItemsSpec)

/-- ITS FALSE NEIGHBOUR: 'it returns false'. Refute it at one input. -/
def derItemsWrong : ChangeSpec := { name := "derItems", fn := fun _ => fun
  | [d1, d2] => { results := [.lit (.bool false)], args := [d1, d2] }
  | _ => none }
def DerItemsWrongFalsely : Prop := derItemsRow.holds Try.pinned (OpenSpec.ofChange derItemsWrong)

/-- 'vouchlaw07.DerBack': WHATEVER THE INPUT: true; the input reads as it did. -/
def derBackSpec : ChangeSpec := { name := "derBack", fn := fun _ => fun
  | [d1, d2, d3] => { results := [.lit (.bool true)], args := [d1, d2, d3] }
  | _ => none }
def derBackRow : OpenClaim := { program := "ytccdlijohkljcaa", sum := "bd09a26a3625a48f91fadf5978bfed80e2dbc3827405a66b7c2e8e198f7267b9", func := "vouch/vouchlaw07.DerBack", spec := "derBack", unfollowed := true, recurses := true, apart := false }
def DerBackSaid : Prop := derBackRow.holds Try.pinned (OpenSpec.ofChange derBackSpec)

/-- ITS FALSE NEIGHBOUR: 'it returns false'. Refute it at one input. -/
def derBackWrong : ChangeSpec := { name := "derBack", fn := fun _ => fun
  | [d1, d2, d3] => { results := [.lit (.bool false)], args := [d1, d2, d3] }
  | _ => none }
def DerBackWrongFalsely : Prop := derBackRow.holds Try.pinned (OpenSpec.ofChange derBackWrong)

/-- 'vouchlaw07.DerKnown': WHATEVER THE INPUT: true; the input reads as it did. -/
def derKnownSpec : ChangeSpec := { name := "derKnown", fn := fun _ => fun
  | [] => { results := [.lit (.bool true)], args := [] }
  | _ => none }
def derKnownRow : OpenClaim := { program := "ytccdlijohkljcaa", sum := "bd09a26a3625a48f91fadf5978bfed80e2dbc3827405a66b7c2e8e198f7267b9", func := "vouch/vouchlaw07.DerKnown", spec := "derKnown", unfollowed := true, recurses := true, apart := false }
def DerKnownSaid : Prop := derKnownRow.holds Try.pinned (OpenSpec.ofChange derKnownSpec)

/-- ITS FALSE NEIGHBOUR: 'it returns false'. Refute it at one input. -/
def derKnownWrong : ChangeSpec := { name := "derKnown", fn := fun _ => fun
  | [] => { results := [.lit (.bool false)], args := [] }
  | _ => none }
def DerKnownWrongFalsely : Prop := derKnownRow.holds Try.pinned (OpenSpec.ofChange derKnownWrong)

/- THE SECOND FORM. 'bulk': how many values and letters a reading holds, each counted each time it is reached (what is shared counts as often as it is met; a slice's spare places count too). A statement '..UptoSaid' is the law's where the arguments, and the package variables that the reading takes, are together of bulk at most 1048576: NARROWER than '..Said'. Prove '..Said' where nothing that the law and all that it calls make is longer than what came in: it says more and counts as full. Else prove '..UptoSaid'. A law counts once. -/
mutual
def uptoBulk {H : Type} : DataW H → Nat
  | .lit (.string bytes) => bytes.length + 1
  | .lit _ => 1
  | .nil => 1
  | .ptr d => uptoBulk d + 1
  | .slice elems spare => uptoBulkAll elems + uptoBulkAll spare + 1
  | .agg parts => uptoBulkAll parts + 1
  | .iface _ d => uptoBulk d + 1
  | .map entries => uptoBulkEntries entries + 1
  | .held _ => 1
def uptoBulkAll {H : Type} : List (DataW H) → Nat
  | [] => 0
  | d :: r => uptoBulk d + uptoBulkAll r
def uptoBulkEntries {H : Type} : List (Lit × DataW H) → Nat
  | [] => 0
  | x :: r => uptoBulkEntry x + uptoBulkEntries r
def uptoBulkEntry {H : Type} : Lit × DataW H → Nat
  | (.string bytes, d) => bytes.length + uptoBulk d + 1
  | (_, d) => uptoBulk d + 1
 end
def uptoSmall : (H : Type) → List (DataW H) → Bool := fun _ ds => decide (uptoBulkAll ds ≤ 1048576)
def OpenSpec.upto (s : _root_.Go.ChangeSpec) : _root_.Go.OpenSpec := { _root_.Go.OpenSpec.ofChange s with cond := some uptoSmall }

/-- 'vouchlaw07.DerReads', WHERE WHAT IT READS IS OF BULK AT MOST 1048576: true; the input reads as it did. -/
def derReadsUptoRow : OpenClaim := { program := "ytccdlijohkljcaa", sum := "bd09a26a3625a48f91fadf5978bfed80e2dbc3827405a66b7c2e8e198f7267b9", func := "vouch/vouchlaw07.DerReads", spec := "derReads", unfollowed := true, recurses := true, apart := false, narrowed := true }
def DerReadsUptoSaid : Prop := derReadsUptoRow.holds Try.pinned (OpenSpec.upto derReadsSpec)

/-- 'vouchlaw07.DerTells', WHERE WHAT IT READS IS OF BULK AT MOST 1048576: true; the input reads as it did. -/
def derTellsUptoRow : OpenClaim := { program := "ytccdlijohkljcaa", sum := "bd09a26a3625a48f91fadf5978bfed80e2dbc3827405a66b7c2e8e198f7267b9", func := "vouch/vouchlaw07.DerTells", spec := "derTells", unfollowed := true, recurses := true, apart := false, narrowed := true }
def DerTellsUptoSaid : Prop := derTellsUptoRow.holds Try.pinned (OpenSpec.upto derTellsSpec)

/-- 'vouchlaw07.DerOnce', WHERE WHAT IT READS IS OF BULK AT MOST 1048576: true; the input reads as it did. -/
def derOnceUptoRow : OpenClaim := { program := "ytccdlijohkljcaa", sum := "bd09a26a3625a48f91fadf5978bfed80e2dbc3827405a66b7c2e8e198f7267b9", func := "vouch/vouchlaw07.DerOnce", spec := "derOnce", unfollowed := true, recurses := true, apart := false, narrowed := true }
def DerOnceUptoSaid : Prop := derOnceUptoRow.holds Try.pinned (OpenSpec.upto derOnceSpec)

/-- 'vouchlaw07.DerLies', WHERE WHAT IT READS IS OF BULK AT MOST 1048576: true; the input reads as it did. -/
def derLiesUptoRow : OpenClaim := { program := "ytccdlijohkljcaa", sum := "bd09a26a3625a48f91fadf5978bfed80e2dbc3827405a66b7c2e8e198f7267b9", func := "vouch/vouchlaw07.DerLies", spec := "derLies", unfollowed := true, recurses := true, apart := false, narrowed := true }
def DerLiesUptoSaid : Prop := derLiesUptoRow.holds Try.pinned (OpenSpec.upto derLiesSpec)

/-- 'vouchlaw07.DerItems', WHERE WHAT IT READS IS OF BULK AT MOST 1048576: true; the input reads as it did. -/
def derItemsUptoRow : OpenClaim := { program := "ytccdlijohkljcaa", sum := "bd09a26a3625a48f91fadf5978bfed80e2dbc3827405a66b7c2e8e198f7267b9", func := "vouch/vouchlaw07.DerItems", spec := "derItems", unfollowed := true, recurses := true, apart := false, narrowed := true }
def DerItemsUptoSaid : Prop := derItemsUptoRow.holds Try.pinned (OpenSpec.upto derItemsSpec)

/-- 'vouchlaw07.DerBack', WHERE WHAT IT READS IS OF BULK AT MOST 1048576: true; the input reads as it did. -/
def derBackUptoRow : OpenClaim := { program := "ytccdlijohkljcaa", sum := "bd09a26a3625a48f91fadf5978bfed80e2dbc3827405a66b7c2e8e198f7267b9", func := "vouch/vouchlaw07.DerBack", spec := "derBack", unfollowed := true, recurses := true, apart := false, narrowed := true }
def DerBackUptoSaid : Prop := derBackUptoRow.holds Try.pinned (OpenSpec.upto derBackSpec)

/-- 'vouchlaw07.DerKnown', WHERE WHAT IT READS IS OF BULK AT MOST 1048576: true; the input reads as it did. -/
def derKnownUptoRow : OpenClaim := { program := "ytccdlijohkljcaa", sum := "bd09a26a3625a48f91fadf5978bfed80e2dbc3827405a66b7c2e8e198f7267b9", func := "vouch/vouchlaw07.DerKnown", spec := "derKnown", unfollowed := true, recurses := true, apart := false, narrowed := true }
def DerKnownUptoSaid : Prop := derKnownUptoRow.holds Try.pinned (OpenSpec.upto derKnownSpec)

end Rows
end Go.Proofs.Ytccdlijohkljcaa
