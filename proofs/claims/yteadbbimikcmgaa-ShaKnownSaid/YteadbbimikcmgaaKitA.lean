/- The small functions that statements share: marks, picks. Conditions: none. -/
import Derived.Test.YteadbbimikcmgaaNum
import Derived.Test.YteadbbimikcmgaaChecked
import Derived.KernelRfl
set_option linter.unusedSimpArgs false
set_option linter.unusedVariables false
set_option maxRecDepth 100000
namespace Go.Proofs.Yteadbbimikcmgaa
open Go
variable {G : Nat} {Ext : FuncId → List Value → Mem → Outc → Mem → Prop}

def mk (k i : Int) : BitVec 64 := (BitVec.ofInt 64 (k + 1) * 11400714819323198485#64) ^^^ (BitVec.ofInt 64 (i + 1) * 15074714826142052245#64)
theorem mark_C (k i : Int) (S : Mem) : C Try.prog G Ext 25 [.int .i64 k, .int .i64 i] S fun v S' => v = v64 (mk k i) ∧ S' = S := by
  refine C.fn Try.func25 rfl (by kernel_rfl) rfl ?_
  repeat (first | refine W.seq ?_ | refine W.block ?_ | refine W.reg ?_ | refine W.skip ?_ | refine W.exit ?_ | refine W.ret ?_ | refine L.nil ?_ | refine L.p rfl rfl ?_ | refine L.skip rfl ?_)
  refine ⟨.inr rfl, _, rfl, ?_, rfl⟩
  refine (force_eq rfl).trans ?_
  simp only [v64, Value.int.injEq, true_and, wrap_u64, bits_u64, ofInt_toNat, BitVec.ofInt_mul, ofInt_wrap64, mk]
  rfl
def pick (i n : Int) : Int := if n < 1 then 0 else if i.tmod n < 0 then i.tmod n + n else i.tmod n
theorem pick_C (i n : Int) (hn : n < 9223372036854775808) (S : Mem) : C Try.prog G Ext 24 [.int .i64 i, .int .i64 n] S fun v S' => v = .int .i64 (pick i n) ∧ S' = S := by
  refine C.fn Try.func24 rfl (by kernel_rfl) rfl ?_
  repeat (first | refine W.seq ?_ | refine W.block ?_ | refine W.reg ?_ | refine W.skip ?_ | refine W.exit ?_ | refine W.ret ?_ | refine L.nil ?_ | refine L.p rfl rfl ?_ | refine L.skip rfl ?_)
  refine W.ite rfl (fun h => ?_) (fun h => ?_)
  · repeat (first | refine W.seq ?_ | refine W.block ?_ | refine W.reg ?_ | refine W.skip ?_ | refine W.exit ?_ | refine W.ret ?_ | refine L.nil ?_ | refine L.p rfl rfl ?_ | refine L.skip rfl ?_)
    refine ⟨.inr rfl, _, rfl, ?_, rfl⟩
    refine (force_eq rfl).trans ?_
    rw [pick, if_pos (of_decide_eq_true h)]
  · have h1 : ¬ n < 1 := of_decide_eq_false h
    repeat (first | refine W.seq ?_ | refine W.block ?_ | refine W.reg ?_ | refine W.skip ?_ | refine W.exit ?_ | refine W.ret ?_ | refine L.nil ?_ | refine L.p rfl rfl ?_ | refine L.skip rfl ?_)
    refine L.rem rfl rfl (by omega) rfl ?_
    repeat (first | refine W.seq ?_ | refine W.block ?_ | refine W.reg ?_ | refine W.skip ?_ | refine W.exit ?_ | refine W.ret ?_ | refine L.nil ?_ | refine L.p rfl rfl ?_ | refine L.skip rfl ?_)
    have hb := Int.tmod_lt_of_pos i (show 0 < n by omega)
    have hb' : - n < i.tmod n := by exact Int.lt_tmod_of_pos i (show 0 < n by omega)
    refine W.ite rfl (fun h => ?_) (fun h => ?_)
    · have h2 : i.tmod n < 0 := of_decide_eq_true h
      repeat (first | refine W.seq ?_ | refine W.block ?_ | refine W.reg ?_ | refine W.skip ?_ | refine W.exit ?_ | refine W.ret ?_ | refine L.nil ?_ | refine L.p rfl rfl ?_ | refine L.skip rfl ?_)
      refine ⟨.inr rfl, _, rfl, ?_, rfl⟩
      refine (force_eq rfl).trans ?_
      rw [pick, if_neg h1, if_pos h2, wrap64 (by omega) (by omega)]
    · have h2 : ¬ i.tmod n < 0 := of_decide_eq_false h
      repeat (first | refine W.seq ?_ | refine W.block ?_ | refine W.reg ?_ | refine W.skip ?_ | refine W.exit ?_ | refine W.ret ?_ | refine L.nil ?_ | refine L.p rfl rfl ?_ | refine L.skip rfl ?_)
      refine ⟨.inr rfl, _, rfl, ?_, rfl⟩
      refine (force_eq rfl).trans ?_
      rw [pick, if_neg h1, if_neg h2]
end Go.Proofs.Yteadbbimikcmgaa
