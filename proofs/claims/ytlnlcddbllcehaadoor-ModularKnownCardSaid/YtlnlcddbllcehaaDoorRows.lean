/-
  NARROWER THAN 'FOR EVERY INPUT', by the rows' own cells (each row's printed sentence says how): ModularPowers: laid · ModularSteps: laid · ModularPrimes: laid · ModularReckons: laid · ModularLeaves: laid · ModularInverts: laid · ModularKnown: laid.
  DERIVED. THE GIVEN ROWS OF THIS SEAT. 7 by the template 'for every input the law returns true; each argument reads behind the call as it read before'; 0 by the template 'total and deterministic' (their statements: YtlnlcddbllcehaaDoorTotals.lean).
  GIVEN WITH THE SEED: the statements are not yours to turn. If you find one false, say at which input.
  Laid BY PROGRAM, IN A SANDBOX (cutbox-rows.mjs): the forced cells as the released guide's own fill.sh prints them over the translation 6776c3c179d358ef… (all of the seat's roots in one cut). By AI agents, Wed Nov 11 2026. No macro, syntax, notation, axiom, sorry.
-/
import Derived.Test.YtlnlcddbllcehaaDoorChecked
import GoSem.Claim
import GoSem.ClaimJoined
import GoSem.ClaimMapViews
import Derived.JoinedTies
import Derived.KernelRfl
namespace Go.Proofs.YtlnlcddbllcehaaDoor
/- THE CELL 'sum', in the pinned program and in every row, IS THE sha256 OF THE DUMP (.gsa) THAT YtlnlcddbllcehaaDoorProg.lean LOADS. Nothing in Lean hashes anything: it is a label: what it is worth is what the hold of that sum in a sandbox is worth. -/
noncomputable def Tryd.pinned : Pinned := { name := "ytlnlcddbllcehaadoor", sum := "6776c3c179d358ef8f62355fe659808899e2445ccb77c931536c9130d4ea2fbf", checked := Tryd.checked }
namespace Rows
def none {H : Type} : Left H := { results := [], args := [] }

/- WHAT THE LISTED PACKAGE-LEVEL VARIABLES READ AS WHEN THE CALL BEGINS. Each datum BY PROGRAM (the guide's laid-datum.mjs) off the statement by which the dump's own 'gosem.cut.vars' lays the variable. In a bare row this is a premise. The card (YtlnlcddbllcehaaDoorCards.lean) ties it to the program's text. -/
def laid_math_sin {H : Type} : DataW H := .agg [.lit (.float .f64 4460209587652500685), .lit (.float .f64 13716528389658582877), .lit (.float .f64 4523617212962785441), .lit (.float .f64 13774824197404483331), .lit (.float .f64 4575957461383575504), .lit (.float .f64 13818544856648471880)]
def laid_math_cos {H : Type} : DataW H := .agg [.lit (.float .f64 13666448263388469915), .lit (.float .f64 4477121864728985349), .lit (.float .f64 13732177093698800582), .lit (.float .f64 4537941361668146421), .lit (.float .f64 13787419979223748497), .lit (.float .f64 4586165620538955083)]
def laid_math_mPi4 {H : Type} : DataW H := .agg [.lit (.int .u64 1), .lit (.int .u64 5040379952546458195), .lit (.int .u64 17892431488136887169), .lit (.int .u64 13169980181085364355), .lit (.int .u64 18204331823439776451), .lit (.int .u64 7946843935494350272), .lit (.int .u64 905889640498799673), .lit (.int .u64 18175356263134875261), .lit (.int .u64 15061281708168349961), .lit (.int .u64 15220161563773041794), .lit (.int .u64 8296664548579374057), .lit (.int .u64 4109744767560208502), .lit (.int .u64 4607516669194743839), .lit (.int .u64 16023283104648321598), .lit (.int .u64 15739233654134936430), .lit (.int .u64 11424645774684705882), .lit (.int .u64 16883842788696515318), .lit (.int .u64 8795094592981902804), .lit (.int .u64 15561835991111744016), .lit (.int .u64 12395701187267450711)]

/-- 'vouchlaw04.ModularPowers': WHATEVER THE INPUT: true; the input reads as it did. -/
def modularPowersSpec : ChangeSpec := { name := "modularPowers", fn := fun _ => fun
  | [d1, d2, d3] => { results := [.lit (.bool true)], args := [d1, d2, d3] }
  | _ => none }
def modularPowersRow : OpenClaim := { program := "ytlnlcddbllcehaadoor", sum := "6776c3c179d358ef8f62355fe659808899e2445ccb77c931536c9130d4ea2fbf", func := "vouch/vouchlaw04.ModularPowers", spec := "modularPowers", inPlace := ["math/bits.Add64", "math/bits.Sub64", "math.Float64bits", "math.Float64frombits", "math.archFloor", "math.archTrunc"], unfollowed := true, recurses := true, named := ["math/bits.divideError", "math/bits.overflowError", "math._cos", "math._sin", "math.mPi4"], apart := false, laid := [("math._sin", laid_math_sin), ("math._cos", laid_math_cos), ("math.mPi4", laid_math_mPi4)] }
def ModularPowersSaid : Prop := modularPowersRow.holds Tryd.pinned (OpenSpec.ofChange modularPowersSpec)

/-- ITS FALSE NEIGHBOUR: 'it returns false'. Refute it at one input. -/
def modularPowersWrong : ChangeSpec := { name := "modularPowers", fn := fun _ => fun
  | [d1, d2, d3] => { results := [.lit (.bool false)], args := [d1, d2, d3] }
  | _ => none }
def ModularPowersWrongFalsely : Prop := modularPowersRow.holds Tryd.pinned (OpenSpec.ofChange modularPowersWrong)

/-- 'vouchlaw04.ModularSteps': WHATEVER THE INPUT: true; the input reads as it did. -/
def modularStepsSpec : ChangeSpec := { name := "modularSteps", fn := fun _ => fun
  | [d1, d2, d3, d4] => { results := [.lit (.bool true)], args := [d1, d2, d3, d4] }
  | _ => none }
def modularStepsRow : OpenClaim := { program := "ytlnlcddbllcehaadoor", sum := "6776c3c179d358ef8f62355fe659808899e2445ccb77c931536c9130d4ea2fbf", func := "vouch/vouchlaw04.ModularSteps", spec := "modularSteps", inPlace := ["math/bits.Add64", "math/bits.Sub64", "math.Float64bits", "math.Float64frombits", "math.archFloor", "math.archTrunc"], unfollowed := true, recurses := true, named := ["math/bits.divideError", "math/bits.overflowError", "math._cos", "math._sin", "math.mPi4"], apart := false, laid := [("math._sin", laid_math_sin), ("math._cos", laid_math_cos), ("math.mPi4", laid_math_mPi4)] }
def ModularStepsSaid : Prop := modularStepsRow.holds Tryd.pinned (OpenSpec.ofChange modularStepsSpec)

/-- ITS FALSE NEIGHBOUR: 'it returns false'. Refute it at one input. -/
def modularStepsWrong : ChangeSpec := { name := "modularSteps", fn := fun _ => fun
  | [d1, d2, d3, d4] => { results := [.lit (.bool false)], args := [d1, d2, d3, d4] }
  | _ => none }
def ModularStepsWrongFalsely : Prop := modularStepsRow.holds Tryd.pinned (OpenSpec.ofChange modularStepsWrong)

/-- 'vouchlaw04.ModularPrimes': WHATEVER THE INPUT: true; the input reads as it did. -/
def modularPrimesSpec : ChangeSpec := { name := "modularPrimes", fn := fun _ => fun
  | [d] => { results := [.lit (.bool true)], args := [d] }
  | _ => none }
def modularPrimesRow : OpenClaim := { program := "ytlnlcddbllcehaadoor", sum := "6776c3c179d358ef8f62355fe659808899e2445ccb77c931536c9130d4ea2fbf", func := "vouch/vouchlaw04.ModularPrimes", spec := "modularPrimes", inPlace := ["math/bits.Add64", "math/bits.Sub64", "math.Float64bits", "math.Float64frombits", "math.archFloor", "math.archTrunc"], unfollowed := true, recurses := true, named := ["math/bits.divideError", "math/bits.overflowError", "math._cos", "math._sin", "math.mPi4"], apart := false, laid := [("math._sin", laid_math_sin), ("math._cos", laid_math_cos), ("math.mPi4", laid_math_mPi4)] }
def ModularPrimesSaid : Prop := modularPrimesRow.holds Tryd.pinned (OpenSpec.ofChange modularPrimesSpec)

/-- ITS FALSE NEIGHBOUR: 'it returns false'. Refute it at one input. -/
def modularPrimesWrong : ChangeSpec := { name := "modularPrimes", fn := fun _ => fun
  | [d] => { results := [.lit (.bool false)], args := [d] }
  | _ => none }
def ModularPrimesWrongFalsely : Prop := modularPrimesRow.holds Tryd.pinned (OpenSpec.ofChange modularPrimesWrong)

/-- 'vouchlaw04.ModularReckons': WHATEVER THE INPUT: true; the input reads as it did. -/
def modularReckonsSpec : ChangeSpec := { name := "modularReckons", fn := fun _ => fun
  | [d1, d2, d3] => { results := [.lit (.bool true)], args := [d1, d2, d3] }
  | _ => none }
def modularReckonsRow : OpenClaim := { program := "ytlnlcddbllcehaadoor", sum := "6776c3c179d358ef8f62355fe659808899e2445ccb77c931536c9130d4ea2fbf", func := "vouch/vouchlaw04.ModularReckons", spec := "modularReckons", inPlace := ["math/bits.Add64", "math/bits.Sub64", "math.Float64bits", "math.Float64frombits", "math.archFloor", "math.archTrunc"], unfollowed := true, recurses := true, named := ["math/bits.divideError", "math/bits.overflowError", "math._cos", "math._sin", "math.mPi4"], apart := false, laid := [("math._sin", laid_math_sin), ("math._cos", laid_math_cos), ("math.mPi4", laid_math_mPi4)] }
def ModularReckonsSaid : Prop := modularReckonsRow.holds Tryd.pinned (OpenSpec.ofChange modularReckonsSpec)

/-- ITS FALSE NEIGHBOUR: 'it returns false'. Refute it at one input. -/
def modularReckonsWrong : ChangeSpec := { name := "modularReckons", fn := fun _ => fun
  | [d1, d2, d3] => { results := [.lit (.bool false)], args := [d1, d2, d3] }
  | _ => none }
def ModularReckonsWrongFalsely : Prop := modularReckonsRow.holds Tryd.pinned (OpenSpec.ofChange modularReckonsWrong)

/-- 'vouchlaw04.ModularLeaves': WHATEVER THE INPUT: true; the input reads as it did. -/
def modularLeavesSpec : ChangeSpec := { name := "modularLeaves", fn := fun _ => fun
  | [d1, d2, d3] => { results := [.lit (.bool true)], args := [d1, d2, d3] }
  | _ => none }
def modularLeavesRow : OpenClaim := { program := "ytlnlcddbllcehaadoor", sum := "6776c3c179d358ef8f62355fe659808899e2445ccb77c931536c9130d4ea2fbf", func := "vouch/vouchlaw04.ModularLeaves", spec := "modularLeaves", inPlace := ["math/bits.Add64", "math/bits.Sub64", "math.Float64bits", "math.Float64frombits", "math.archFloor", "math.archTrunc"], unfollowed := true, recurses := true, named := ["math/bits.divideError", "math/bits.overflowError", "math._cos", "math._sin", "math.mPi4"], apart := false, laid := [("math._sin", laid_math_sin), ("math._cos", laid_math_cos), ("math.mPi4", laid_math_mPi4)] }
def ModularLeavesSaid : Prop := modularLeavesRow.holds Tryd.pinned (OpenSpec.ofChange modularLeavesSpec)

/-- ITS FALSE NEIGHBOUR: 'it returns false'. Refute it at one input. -/
def modularLeavesWrong : ChangeSpec := { name := "modularLeaves", fn := fun _ => fun
  | [d1, d2, d3] => { results := [.lit (.bool false)], args := [d1, d2, d3] }
  | _ => none }
def ModularLeavesWrongFalsely : Prop := modularLeavesRow.holds Tryd.pinned (OpenSpec.ofChange modularLeavesWrong)

/-- 'vouchlaw04.ModularInverts': WHATEVER THE INPUT: true; the input reads as it did. -/
def modularInvertsSpec : ChangeSpec := { name := "modularInverts", fn := fun _ => fun
  | [d1, d2] => { results := [.lit (.bool true)], args := [d1, d2] }
  | _ => none }
def modularInvertsRow : OpenClaim := { program := "ytlnlcddbllcehaadoor", sum := "6776c3c179d358ef8f62355fe659808899e2445ccb77c931536c9130d4ea2fbf", func := "vouch/vouchlaw04.ModularInverts", spec := "modularInverts", inPlace := ["math/bits.Add64", "math/bits.Sub64", "math.Float64bits", "math.Float64frombits", "math.archFloor", "math.archTrunc"], unfollowed := true, recurses := true, named := ["math/bits.divideError", "math/bits.overflowError", "math._cos", "math._sin", "math.mPi4"], apart := false, laid := [("math._sin", laid_math_sin), ("math._cos", laid_math_cos), ("math.mPi4", laid_math_mPi4)] }
def ModularInvertsSaid : Prop := modularInvertsRow.holds Tryd.pinned (OpenSpec.ofChange modularInvertsSpec)

/-- ITS FALSE NEIGHBOUR: 'it returns false'. Refute it at one input. -/
def modularInvertsWrong : ChangeSpec := { name := "modularInverts", fn := fun _ => fun
  | [d1, d2] => { results := [.lit (.bool false)], args := [d1, d2] }
  | _ => none }
def ModularInvertsWrongFalsely : Prop := modularInvertsRow.holds Tryd.pinned (OpenSpec.ofChange modularInvertsWrong)

/-- 'vouchlaw04.ModularKnown': WHATEVER THE INPUT: true; the input reads as it did. -/
def modularKnownSpec : ChangeSpec := { name := "modularKnown", fn := fun _ => fun
  | [] => { results := [.lit (.bool true)], args := [] }
  | _ => none }
def modularKnownRow : OpenClaim := { program := "ytlnlcddbllcehaadoor", sum := "6776c3c179d358ef8f62355fe659808899e2445ccb77c931536c9130d4ea2fbf", func := "vouch/vouchlaw04.ModularKnown", spec := "modularKnown", inPlace := ["math/bits.Add64", "math/bits.Sub64", "math.Float64bits", "math.Float64frombits", "math.archFloor", "math.archTrunc"], unfollowed := true, recurses := true, named := ["math/bits.divideError", "math/bits.overflowError", "math._cos", "math._sin", "math.mPi4"], apart := false, laid := [("math._sin", laid_math_sin), ("math._cos", laid_math_cos), ("math.mPi4", laid_math_mPi4)] }
def ModularKnownSaid : Prop := modularKnownRow.holds Tryd.pinned (OpenSpec.ofChange modularKnownSpec)

/-- ITS FALSE NEIGHBOUR: 'it returns false'. Refute it at one input. -/
def modularKnownWrong : ChangeSpec := { name := "modularKnown", fn := fun _ => fun
  | [] => { results := [.lit (.bool false)], args := [] }
  | _ => none }
def ModularKnownWrongFalsely : Prop := modularKnownRow.holds Tryd.pinned (OpenSpec.ofChange modularKnownWrong)

/- THE SECOND FORM. 'bulk': how many values and letters a reading holds, each counted each time it is reached (what is shared counts as often as it is met; a slice's spare places count too). A statement '..UptoSaid' is the law's where the arguments, and the package variables that the reading takes, are together of bulk at most 1048576: NARROWER than '..Said'. Prove '..Said' where nothing that the law and all that it calls make is longer than what came in: it says more and counts as full. Else prove '..UptoSaid'. A law counts once. -/
mutual
def uptoBulk {H : Type} : DataW H → Nat
  | .lit (.string bytes) => bytes.length + 1
  | .lit _ => 1
  | .nil => 1
  | .ptr d => uptoBulk d + 1
  | .slice elems spare => uptoBulkAll elems + uptoBulkAll spare + 1
  | .agg parts => uptoBulkAll parts + 1
  | .iface _ d => uptoBulk d + 1
  | .map entries => uptoBulkEntries entries + 1
  | .held _ => 1
def uptoBulkAll {H : Type} : List (DataW H) → Nat
  | [] => 0
  | d :: r => uptoBulk d + uptoBulkAll r
def uptoBulkEntries {H : Type} : List (Lit × DataW H) → Nat
  | [] => 0
  | x :: r => uptoBulkEntry x + uptoBulkEntries r
def uptoBulkEntry {H : Type} : Lit × DataW H → Nat
  | (.string bytes, d) => bytes.length + uptoBulk d + 1
  | (_, d) => uptoBulk d + 1
 end
def uptoSmall : (H : Type) → List (DataW H) → Bool := fun _ ds => decide (uptoBulkAll ds ≤ 1048576)
def OpenSpec.upto (s : _root_.Go.ChangeSpec) : _root_.Go.OpenSpec := { _root_.Go.OpenSpec.ofChange s with cond := some uptoSmall }

/-- 'vouchlaw04.ModularPowers', WHERE WHAT IT READS IS OF BULK AT MOST 1048576: true; the input reads as it did. -/
def modularPowersUptoRow : OpenClaim := { program := "ytlnlcddbllcehaadoor", sum := "6776c3c179d358ef8f62355fe659808899e2445ccb77c931536c9130d4ea2fbf", func := "vouch/vouchlaw04.ModularPowers", spec := "modularPowers", inPlace := ["math/bits.Add64", "math/bits.Sub64", "math.Float64bits", "math.Float64frombits", "math.archFloor", "math.archTrunc"], unfollowed := true, recurses := true, named := ["math/bits.divideError", "math/bits.overflowError", "math._cos", "math._sin", "math.mPi4"], apart := false, laid := [("math._sin", laid_math_sin), ("math._cos", laid_math_cos), ("math.mPi4", laid_math_mPi4)], narrowed := true }
def ModularPowersUptoSaid : Prop := modularPowersUptoRow.holds Tryd.pinned (OpenSpec.upto modularPowersSpec)

/-- 'vouchlaw04.ModularSteps', WHERE WHAT IT READS IS OF BULK AT MOST 1048576: true; the input reads as it did. -/
def modularStepsUptoRow : OpenClaim := { program := "ytlnlcddbllcehaadoor", sum := "6776c3c179d358ef8f62355fe659808899e2445ccb77c931536c9130d4ea2fbf", func := "vouch/vouchlaw04.ModularSteps", spec := "modularSteps", inPlace := ["math/bits.Add64", "math/bits.Sub64", "math.Float64bits", "math.Float64frombits", "math.archFloor", "math.archTrunc"], unfollowed := true, recurses := true, named := ["math/bits.divideError", "math/bits.overflowError", "math._cos", "math._sin", "math.mPi4"], apart := false, laid := [("math._sin", laid_math_sin), ("math._cos", laid_math_cos), ("math.mPi4", laid_math_mPi4)], narrowed := true }
def ModularStepsUptoSaid : Prop := modularStepsUptoRow.holds Tryd.pinned (OpenSpec.upto modularStepsSpec)

/-- 'vouchlaw04.ModularPrimes', WHERE WHAT IT READS IS OF BULK AT MOST 1048576: true; the input reads as it did. -/
def modularPrimesUptoRow : OpenClaim := { program := "ytlnlcddbllcehaadoor", sum := "6776c3c179d358ef8f62355fe659808899e2445ccb77c931536c9130d4ea2fbf", func := "vouch/vouchlaw04.ModularPrimes", spec := "modularPrimes", inPlace := ["math/bits.Add64", "math/bits.Sub64", "math.Float64bits", "math.Float64frombits", "math.archFloor", "math.archTrunc"], unfollowed := true, recurses := true, named := ["math/bits.divideError", "math/bits.overflowError", "math._cos", "math._sin", "math.mPi4"], apart := false, laid := [("math._sin", laid_math_sin), ("math._cos", laid_math_cos), ("math.mPi4", laid_math_mPi4)], narrowed := true }
def ModularPrimesUptoSaid : Prop := modularPrimesUptoRow.holds Tryd.pinned (OpenSpec.upto modularPrimesSpec)

/-- 'vouchlaw04.ModularReckons', WHERE WHAT IT READS IS OF BULK AT MOST 1048576: true; the input reads as it did. -/
def modularReckonsUptoRow : OpenClaim := { program := "ytlnlcddbllcehaadoor", sum := "6776c3c179d358ef8f62355fe659808899e2445ccb77c931536c9130d4ea2fbf", func := "vouch/vouchlaw04.ModularReckons", spec := "modularReckons", inPlace := ["math/bits.Add64", "math/bits.Sub64", "math.Float64bits", "math.Float64frombits", "math.archFloor", "math.archTrunc"], unfollowed := true, recurses := true, named := ["math/bits.divideError", "math/bits.overflowError", "math._cos", "math._sin", "math.mPi4"], apart := false, laid := [("math._sin", laid_math_sin), ("math._cos", laid_math_cos), ("math.mPi4", laid_math_mPi4)], narrowed := true }
def ModularReckonsUptoSaid : Prop := modularReckonsUptoRow.holds Tryd.pinned (OpenSpec.upto modularReckonsSpec)

/-- 'vouchlaw04.ModularLeaves', WHERE WHAT IT READS IS OF BULK AT MOST 1048576: true; the input reads as it did. -/
def modularLeavesUptoRow : OpenClaim := { program := "ytlnlcddbllcehaadoor", sum := "6776c3c179d358ef8f62355fe659808899e2445ccb77c931536c9130d4ea2fbf", func := "vouch/vouchlaw04.ModularLeaves", spec := "modularLeaves", inPlace := ["math/bits.Add64", "math/bits.Sub64", "math.Float64bits", "math.Float64frombits", "math.archFloor", "math.archTrunc"], unfollowed := true, recurses := true, named := ["math/bits.divideError", "math/bits.overflowError", "math._cos", "math._sin", "math.mPi4"], apart := false, laid := [("math._sin", laid_math_sin), ("math._cos", laid_math_cos), ("math.mPi4", laid_math_mPi4)], narrowed := true }
def ModularLeavesUptoSaid : Prop := modularLeavesUptoRow.holds Tryd.pinned (OpenSpec.upto modularLeavesSpec)

/-- 'vouchlaw04.ModularInverts', WHERE WHAT IT READS IS OF BULK AT MOST 1048576: true; the input reads as it did. -/
def modularInvertsUptoRow : OpenClaim := { program := "ytlnlcddbllcehaadoor", sum := "6776c3c179d358ef8f62355fe659808899e2445ccb77c931536c9130d4ea2fbf", func := "vouch/vouchlaw04.ModularInverts", spec := "modularInverts", inPlace := ["math/bits.Add64", "math/bits.Sub64", "math.Float64bits", "math.Float64frombits", "math.archFloor", "math.archTrunc"], unfollowed := true, recurses := true, named := ["math/bits.divideError", "math/bits.overflowError", "math._cos", "math._sin", "math.mPi4"], apart := false, laid := [("math._sin", laid_math_sin), ("math._cos", laid_math_cos), ("math.mPi4", laid_math_mPi4)], narrowed := true }
def ModularInvertsUptoSaid : Prop := modularInvertsUptoRow.holds Tryd.pinned (OpenSpec.upto modularInvertsSpec)

/-- 'vouchlaw04.ModularKnown', WHERE WHAT IT READS IS OF BULK AT MOST 1048576: true; the input reads as it did. -/
def modularKnownUptoRow : OpenClaim := { program := "ytlnlcddbllcehaadoor", sum := "6776c3c179d358ef8f62355fe659808899e2445ccb77c931536c9130d4ea2fbf", func := "vouch/vouchlaw04.ModularKnown", spec := "modularKnown", inPlace := ["math/bits.Add64", "math/bits.Sub64", "math.Float64bits", "math.Float64frombits", "math.archFloor", "math.archTrunc"], unfollowed := true, recurses := true, named := ["math/bits.divideError", "math/bits.overflowError", "math._cos", "math._sin", "math.mPi4"], apart := false, laid := [("math._sin", laid_math_sin), ("math._cos", laid_math_cos), ("math.mPi4", laid_math_mPi4)], narrowed := true }
def ModularKnownUptoSaid : Prop := modularKnownUptoRow.holds Tryd.pinned (OpenSpec.upto modularKnownSpec)

end Rows
end Go.Proofs.YtlnlcddbllcehaaDoor
