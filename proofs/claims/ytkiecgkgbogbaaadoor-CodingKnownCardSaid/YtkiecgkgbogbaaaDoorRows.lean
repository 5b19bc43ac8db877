/-
  NARROWER THAN 'FOR EVERY INPUT', by the rows' own cells (each row's printed sentence says how): CodingTells: laid · CodingReads: laid · CodingBack: laid · CodingOnce: laid · CodingKnown: laid.
  DERIVED. THE GIVEN ROWS OF THIS SEAT. 5 by the template 'for every input the law returns true; each argument reads behind the call as it read before'; 0 by the template 'total and deterministic' (their statements: YtkiecgkgbogbaaaDoorTotals.lean).
  GIVEN WITH THE SEED: the statements are not yours to turn. If you find one false, say at which input.
  Laid BY PROGRAM, IN A SANDBOX (cutbox-rows.mjs): the forced cells as the released guide's own fill.sh prints them over the translation cb12ad0cff256daf… (all of the seat's roots in one cut). By AI agents, Wed Nov 11 2026. No macro, syntax, notation, axiom, sorry.
-/
import Derived.Test.YtkiecgkgbogbaaaDoorChecked
import GoSem.Claim
import GoSem.ClaimJoined
import GoSem.ClaimMapViews
import Derived.JoinedTies
import Derived.KernelRfl
namespace Go.Proofs.YtkiecgkgbogbaaaDoor
/- THE CELL 'sum', in the pinned program and in every row, IS THE sha256 OF THE DUMP (.gsa) THAT YtkiecgkgbogbaaaDoorProg.lean LOADS. Nothing in Lean hashes anything: it is a label: what it is worth is what the hold of that sum in a sandbox is worth. -/
noncomputable def Tryd.pinned : Pinned := { name := "ytkiecgkgbogbaaadoor", sum := "cb12ad0cff256daf8f18e9c880ca4c36d834c869ae863c91091fadf2436c7dac", checked := Tryd.checked }
namespace Rows
def none {H : Type} : Left H := { results := [], args := [] }

/- WHAT THE LISTED PACKAGE-LEVEL VARIABLES READ AS WHEN THE CALL BEGINS. Each datum BY PROGRAM (the guide's laid-datum.mjs) off the statement by which the dump's own 'gosem.cut.vars' lays the variable. In a bare row this is a premise. The card (YtkiecgkgbogbaaaDoorCards.lean) ties it to the program's text. -/
def laid_vouch_coding_rows {H : Type} : DataW H := .agg [.agg [.lit (.int .i32 65), .lit (.int .i32 90), .lit (.int .i64 0)], .agg [.lit (.int .i32 97), .lit (.int .i32 122), .lit (.int .i64 26)], .agg [.lit (.int .i32 48), .lit (.int .i32 57), .lit (.int .i64 52)], .agg [.lit (.int .i32 43), .lit (.int .i32 43), .lit (.int .i64 62)], .agg [.lit (.int .i32 47), .lit (.int .i32 47), .lit (.int .i64 63)]]

/-- 'vouchlaw06.CodingTells': WHATEVER THE INPUT: true; the input reads as it did. -/
def codingTellsSpec : ChangeSpec := { name := "codingTells", fn := fun _ => fun
  | [d] => { results := [.lit (.bool true)], args := [d] }
  | _ => none }
def codingTellsRow : OpenClaim := { program := "ytkiecgkgbogbaaadoor", sum := "cb12ad0cff256daf8f18e9c880ca4c36d834c869ae863c91091fadf2436c7dac", func := "vouch/vouchlaw06.CodingTells", spec := "codingTells", inPlace := ["internal/abi.NoEscape", "internal/bytealg.IndexByteString", "internal/bytealg.IndexString"], named := ["vouch/coding.rows", "internal/bytealg.MaxLen"], apart := false, laid := [("vouch/coding.rows", laid_vouch_coding_rows)] }
def CodingTellsSaid : Prop := codingTellsRow.holds Tryd.pinned (OpenSpec.ofChange codingTellsSpec)

/-- ITS FALSE NEIGHBOUR: 'it returns false'. Refute it at one input. -/
def codingTellsWrong : ChangeSpec := { name := "codingTells", fn := fun _ => fun
  | [d] => { results := [.lit (.bool false)], args := [d] }
  | _ => none }
def CodingTellsWrongFalsely : Prop := codingTellsRow.holds Tryd.pinned (OpenSpec.ofChange codingTellsWrong)

/-- 'vouchlaw06.CodingReads': WHATEVER THE INPUT: true; the input reads as it did. -/
def codingReadsSpec : ChangeSpec := { name := "codingReads", fn := fun _ => fun
  | [d] => { results := [.lit (.bool true)], args := [d] }
  | _ => none }
def codingReadsRow : OpenClaim := { program := "ytkiecgkgbogbaaadoor", sum := "cb12ad0cff256daf8f18e9c880ca4c36d834c869ae863c91091fadf2436c7dac", func := "vouch/vouchlaw06.CodingReads", spec := "codingReads", inPlace := ["internal/bytealg.IndexByteString", "internal/bytealg.IndexString", "internal/abi.NoEscape"], named := ["vouch/coding.rows", "internal/bytealg.MaxLen"], apart := false, laid := [("vouch/coding.rows", laid_vouch_coding_rows)] }
def CodingReadsSaid : Prop := codingReadsRow.holds Tryd.pinned (OpenSpec.ofChange codingReadsSpec)

/-- ITS FALSE NEIGHBOUR: 'it returns false'. Refute it at one input. -/
def codingReadsWrong : ChangeSpec := { name := "codingReads", fn := fun _ => fun
  | [d] => { results := [.lit (.bool false)], args := [d] }
  | _ => none }
def CodingReadsWrongFalsely : Prop := codingReadsRow.holds Tryd.pinned (OpenSpec.ofChange codingReadsWrong)

/-- 'vouchlaw06.CodingBack': WHATEVER THE INPUT: true; the input reads as it did. -/
def codingBackSpec : ChangeSpec := { name := "codingBack", fn := fun _ => fun
  | [d1, d2] => { results := [.lit (.bool true)], args := [d1, d2] }
  | _ => none }
def codingBackRow : OpenClaim := { program := "ytkiecgkgbogbaaadoor", sum := "cb12ad0cff256daf8f18e9c880ca4c36d834c869ae863c91091fadf2436c7dac", func := "vouch/vouchlaw06.CodingBack", spec := "codingBack", inPlace := ["internal/abi.NoEscape", "internal/bytealg.IndexByteString", "internal/bytealg.IndexString"], named := ["vouch/coding.rows", "internal/bytealg.MaxLen"], apart := false, laid := [("vouch/coding.rows", laid_vouch_coding_rows)] }
def CodingBackSaid : Prop := codingBackRow.holds Tryd.pinned (OpenSpec.ofChange codingBackSpec)

/-- ITS FALSE NEIGHBOUR: 'it returns false'. Refute it at one input. -/
def codingBackWrong : ChangeSpec := { name := "codingBack", fn := fun _ => fun
  | [d1, d2] => { results := [.lit (.bool false)], args := [d1, d2] }
  | _ => none }
def CodingBackWrongFalsely : Prop := codingBackRow.holds Tryd.pinned (OpenSpec.ofChange codingBackWrong)

/-- 'vouchlaw06.CodingOnce': WHATEVER THE INPUT: true; the input reads as it did. -/
def codingOnceSpec : ChangeSpec := { name := "codingOnce", fn := fun _ => fun
  | [d] => { results := [.lit (.bool true)], args := [d] }
  | _ => none }
def codingOnceRow : OpenClaim := { program := "ytkiecgkgbogbaaadoor", sum := "cb12ad0cff256daf8f18e9c880ca4c36d834c869ae863c91091fadf2436c7dac", func := "vouch/vouchlaw06.CodingOnce", spec := "codingOnce", inPlace := ["internal/abi.NoEscape", "internal/bytealg.IndexByteString", "internal/bytealg.IndexString"], named := ["vouch/coding.rows", "internal/bytealg.MaxLen"], apart := false, laid := [("vouch/coding.rows", laid_vouch_coding_rows)] }
def CodingOnceSaid : Prop := codingOnceRow.holds Tryd.pinned (OpenSpec.ofChange codingOnceSpec)

/-- ITS FALSE NEIGHBOUR: 'it returns false'. Refute it at one input. -/
def codingOnceWrong : ChangeSpec := { name := "codingOnce", fn := fun _ => fun
  | [d] => { results := [.lit (.bool false)], args := [d] }
  | _ => none }
def CodingOnceWrongFalsely : Prop := codingOnceRow.holds Tryd.pinned (OpenSpec.ofChange codingOnceWrong)

/-- 'vouchlaw06.CodingKnown': WHATEVER THE INPUT: true; the input reads as it did. -/
def codingKnownSpec : ChangeSpec := { name := "codingKnown", fn := fun _ => fun
  | [] => { results := [.lit (.bool true)], args := [] }
  | _ => none }
def codingKnownRow : OpenClaim := { program := "ytkiecgkgbogbaaadoor", sum := "cb12ad0cff256daf8f18e9c880ca4c36d834c869ae863c91091fadf2436c7dac", func := "vouch/vouchlaw06.CodingKnown", spec := "codingKnown", inPlace := ["internal/bytealg.IndexByteString", "internal/bytealg.IndexString", "internal/abi.NoEscape"], named := ["vouch/coding.rows", "internal/bytealg.MaxLen"], apart := false, laid := [("vouch/coding.rows", laid_vouch_coding_rows)] }
def CodingKnownSaid : Prop := codingKnownRow.holds Tryd.pinned (OpenSpec.ofChange codingKnownSpec)

/-- ITS FALSE NEIGHBOUR: 'it returns false'. Refute it at one input. -/
def codingKnownWrong : ChangeSpec := { name := "codingKnown", fn := fun _ => fun
  | [] => { results := [.lit (.bool false)], args := [] }
  | _ => none }
def CodingKnownWrongFalsely : Prop := codingKnownRow.holds Tryd.pinned (OpenSpec.ofChange codingKnownWrong)

/- THE SECOND FORM. 'bulk': how many values and letters a reading holds, each counted each time it is reached (what is shared counts as often as it is met; a slice's spare places count too). A statement '..UptoSaid' is the law's where the arguments, and the package variables that the reading takes, are together of bulk at most 1048576: NARROWER than '..Said'. Prove '..Said' where nothing that the law and all that it calls make is longer than what came in: it says more and counts as full. Else prove '..UptoSaid'. A law counts once. -/
mutual
def uptoBulk {H : Type} : DataW H → Nat
  | .lit (.string bytes) => bytes.length + 1
  | .lit _ => 1
  | .nil => 1
  | .ptr d => uptoBulk d + 1
  | .slice elems spare => uptoBulkAll elems + uptoBulkAll spare + 1
  | .agg parts => uptoBulkAll parts + 1
  | .iface _ d => uptoBulk d + 1
  | .map entries => uptoBulkEntries entries + 1
  | .held _ => 1
def uptoBulkAll {H : Type} : List (DataW H) → Nat
  | [] => 0
  | d :: r => uptoBulk d + uptoBulkAll r
def uptoBulkEntries {H : Type} : List (Lit × DataW H) → Nat
  | [] => 0
  | x :: r => uptoBulkEntry x + uptoBulkEntries r
def uptoBulkEntry {H : Type} : Lit × DataW H → Nat
  | (.string bytes, d) => bytes.length + uptoBulk d + 1
  | (_, d) => uptoBulk d + 1
 end
def uptoSmall : (H : Type) → List (DataW H) → Bool := fun _ ds => decide (uptoBulkAll ds ≤ 1048576)
def OpenSpec.upto (s : _root_.Go.ChangeSpec) : _root_.Go.OpenSpec := { _root_.Go.OpenSpec.ofChange s with cond := some uptoSmall }

/-- 'vouchlaw06.CodingTells', WHERE WHAT IT READS IS OF BULK AT MOST 1048576: true; the input reads as it did. -/
def codingTellsUptoRow : OpenClaim := { program := "ytkiecgkgbogbaaadoor", sum := "cb12ad0cff256daf8f18e9c880ca4c36d834c869ae863c91091fadf2436c7dac", func := "vouch/vouchlaw06.CodingTells", spec := "codingTells", inPlace := ["internal/abi.NoEscape", "internal/bytealg.IndexByteString", "internal/bytealg.IndexString"], named := ["vouch/coding.rows", "internal/bytealg.MaxLen"], apart := false, laid := [("vouch/coding.rows", laid_vouch_coding_rows)], narrowed := true }
def CodingTellsUptoSaid : Prop := codingTellsUptoRow.holds Tryd.pinned (OpenSpec.upto codingTellsSpec)

/-- 'vouchlaw06.CodingReads', WHERE WHAT IT READS IS OF BULK AT MOST 1048576: true; the input reads as it did. -/
def codingReadsUptoRow : OpenClaim := { program := "ytkiecgkgbogbaaadoor", sum := "cb12ad0cff256daf8f18e9c880ca4c36d834c869ae863c91091fadf2436c7dac", func := "vouch/vouchlaw06.CodingReads", spec := "codingReads", inPlace := ["internal/bytealg.IndexByteString", "internal/bytealg.IndexString", "internal/abi.NoEscape"], named := ["vouch/coding.rows", "internal/bytealg.MaxLen"], apart := false, laid := [("vouch/coding.rows", laid_vouch_coding_rows)], narrowed := true }
def CodingReadsUptoSaid : Prop := codingReadsUptoRow.holds Tryd.pinned (OpenSpec.upto codingReadsSpec)

/-- 'vouchlaw06.CodingBack', WHERE WHAT IT READS IS OF BULK AT MOST 1048576: true; the input reads as it did. -/
def codingBackUptoRow : OpenClaim := { program := "ytkiecgkgbogbaaadoor", sum := "cb12ad0cff256daf8f18e9c880ca4c36d834c869ae863c91091fadf2436c7dac", func := "vouch/vouchlaw06.CodingBack", spec := "codingBack", inPlace := ["internal/abi.NoEscape", "internal/bytealg.IndexByteString", "internal/bytealg.IndexString"], named := ["vouch/coding.rows", "internal/bytealg.MaxLen"], apart := false, laid := [("vouch/coding.rows", laid_vouch_coding_rows)], narrowed := true }
def CodingBackUptoSaid : Prop := codingBackUptoRow.holds Tryd.pinned (OpenSpec.upto codingBackSpec)

/-- 'vouchlaw06.CodingOnce', WHERE WHAT IT READS IS OF BULK AT MOST 1048576: true; the input reads as it did. -/
def codingOnceUptoRow : OpenClaim := { program := "ytkiecgkgbogbaaadoor", sum := "cb12ad0cff256daf8f18e9c880ca4c36d834c869ae863c91091fadf2436c7dac", func := "vouch/vouchlaw06.CodingOnce", spec := "codingOnce", inPlace := ["internal/abi.NoEscape", "internal/bytealg.IndexByteString", "internal/bytealg.IndexString"], named := ["vouch/coding.rows", "internal/bytealg.MaxLen"], apart := false, laid := [("vouch/coding.rows", laid_vouch_coding_rows)], narrowed := true }
def CodingOnceUptoSaid : Prop := codingOnceUptoRow.holds Tryd.pinned (OpenSpec.upto codingOnceSpec)

/-- 'vouchlaw06.CodingKnown', WHERE WHAT IT READS IS OF BULK AT MOST 1048576: true; the input reads as it did. -/
def codingKnownUptoRow : OpenClaim := { program := "ytkiecgkgbogbaaadoor", sum := "cb12ad0cff256daf8f18e9c880ca4c36d834c869ae863c91091fadf2436c7dac", func := "vouch/vouchlaw06.CodingKnown", spec := "codingKnown", inPlace := ["internal/bytealg.IndexByteString", "internal/bytealg.IndexString", "internal/abi.NoEscape"], named := ["vouch/coding.rows", "internal/bytealg.MaxLen"], apart := false, laid := [("vouch/coding.rows", laid_vouch_coding_rows)], narrowed := true }
def CodingKnownUptoSaid : Prop := codingKnownUptoRow.holds Tryd.pinned (OpenSpec.upto codingKnownSpec)

end Rows
end Go.Proofs.YtkiecgkgbogbaaaDoor
