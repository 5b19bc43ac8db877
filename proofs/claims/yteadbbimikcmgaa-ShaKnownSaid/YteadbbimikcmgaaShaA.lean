/- The small functions of the hash: turning a word, the step's function. Conditions: none. -/
import Derived.Test.YteadbbimikcmgaaKitA
import Derived.KernelRfl
set_option linter.unusedSimpArgs false
set_option linter.unusedVariables false
set_option maxRecDepth 100000
namespace Go.Proofs.Yteadbbimikcmgaa
open Go
variable {G : Nat} {Ext : FuncId → List Value → Mem → Outc → Mem → Prop}

theorem rot_C (x : BitVec 32) (n : Nat) (h : n = 1 ∨ n = 5 ∨ n = 30) (S : Mem) : C Try.prog G Ext 30 [v32 x, vi n] S fun v S' => v = v32 (x <<< n ||| x >>> (32 - n)) ∧ S' = S := by
  rcases h with rfl | rfl | rfl <;>
  · refine C.fn Try.func30 rfl (by kernel_rfl) rfl ?_
    repeat (first | refine W.seq ?_ | refine W.block ?_ | refine W.reg ?_ | refine W.skip ?_ | refine W.exit ?_ | refine W.ret ?_ | refine L.nil ?_ | refine L.p rfl rfl ?_ | refine L.skip rfl ?_)
    refine ⟨.inr rfl, _, rfl, ?_, rfl⟩
    refine (force_eq rfl).trans ?_
    simp only [v32, Value.int.injEq, true_and, wrap_u32, bits_u32, bits_u64, ofInt_toNat, ofInt_shl, fdiv_shr]
    rfl
theorem turn_C (x : BitVec 32) (n : Nat) (h : n = 1 ∨ n = 5 ∨ n = 30) (S : Mem) : C Try.prog G Ext 28 [v32 x, vi n] S fun v S' => v = v32 (x <<< n ||| x >>> (32 - n)) ∧ S' = S := by
  rcases h with rfl | rfl | rfl <;>
  · refine C.fn Try.func28 rfl (by kernel_rfl) rfl ?_
    repeat (first | refine W.seq ?_ | refine W.block ?_ | refine W.reg ?_ | refine W.skip ?_ | refine W.exit ?_ | refine W.ret ?_ | refine L.nil ?_ | refine L.p rfl rfl ?_ | refine L.skip rfl ?_)
    refine ⟨.inr rfl, _, rfl, ?_, rfl⟩
    refine (force_eq rfl).trans ?_
    simp only [v32, Value.int.injEq, true_and, wrap_u32, bits_u32, bits_u64, ofInt_toNat, ofInt_shl, fdiv_shr]
    rfl
def fR (t : Nat) (b c d : BitVec 32) : BitVec 32 := if t < 20 then (b &&& c) ||| (~~~b &&& d) else if t < 40 then b ^^^ c ^^^ d else if t < 60 then (b &&& c) ||| (b &&& d) ||| (c &&& d) else b ^^^ c ^^^ d
def kR (t : Nat) : BitVec 32 := if t < 20 then 0x5a827999#32 else if t < 40 then 0x6ed9eba1#32 else if t < 60 then 0x8f1bbcdc#32 else 0xca62c1d6#32
theorem mixed_C (t : Nat) (b c d : BitVec 32) (S : Mem) : C Try.prog G Ext 29 [vi t, v32 b, v32 c, v32 d] S fun v S' => v = .tuple #[v32 (fR t b c d), v32 (kR t)] ∧ S' = S := by
  refine C.fn Try.func29 rfl (by kernel_rfl) rfl ?_
  have fin : ∀ {a b a' b' : Value}, a = a' → b = b' → Value.tuple #[a, b] = .tuple #[a', b'] := by rintro _ _ _ _ rfl rfl; rfl
  repeat (first | refine W.seq ?_ | refine W.block ?_ | refine W.reg ?_ | refine W.skip ?_ | refine W.exit ?_ | refine W.ret ?_ | refine L.nil ?_ | refine L.p rfl rfl ?_ | refine L.skip rfl ?_)
  refine W.ite rfl (fun h => ?_) (fun h => ?_)
  · repeat (first | refine W.seq ?_ | refine W.block ?_ | refine W.reg ?_ | refine W.skip ?_ | refine W.exit ?_ | refine W.ret ?_ | refine L.nil ?_ | refine L.p rfl rfl ?_ | refine L.skip rfl ?_)
    refine ⟨.inr rfl, _, rfl, (fin (force_eq rfl) (force_eq rfl)).trans ?_, rfl⟩
    have ht : t < 20 := by have := of_decide_eq_true h; omega
    simp only [fR, kR, ht, if_true, v32, wrap_u32, bits_u32, ofInt_toNat, not_u32]
    rfl
  · have h1 : ¬ t < 20 := by have := of_decide_eq_false h; omega
    repeat (first | refine W.seq ?_ | refine W.block ?_ | refine W.reg ?_ | refine W.skip ?_ | refine W.exit ?_ | refine W.ret ?_ | refine L.nil ?_ | refine L.p rfl rfl ?_ | refine L.skip rfl ?_)
    refine W.ite rfl (fun h => ?_) (fun h => ?_)
    · repeat (first | refine W.seq ?_ | refine W.block ?_ | refine W.reg ?_ | refine W.skip ?_ | refine W.exit ?_ | refine W.ret ?_ | refine L.nil ?_ | refine L.p rfl rfl ?_ | refine L.skip rfl ?_)
      refine ⟨.inr rfl, _, rfl, (fin (force_eq rfl) (force_eq rfl)).trans ?_, rfl⟩
      have ht : t < 40 := by have := of_decide_eq_true h; omega
      simp only [fR, kR, h1, ht, if_true, if_false, v32, wrap_u32, bits_u32, ofInt_toNat, not_u32]
      rfl
    · have h2 : ¬ t < 40 := by have := of_decide_eq_false h; omega
      repeat (first | refine W.seq ?_ | refine W.block ?_ | refine W.reg ?_ | refine W.skip ?_ | refine W.exit ?_ | refine W.ret ?_ | refine L.nil ?_ | refine L.p rfl rfl ?_ | refine L.skip rfl ?_)
      refine W.ite rfl (fun h => ?_) (fun h => ?_)
      · repeat (first | refine W.seq ?_ | refine W.block ?_ | refine W.reg ?_ | refine W.skip ?_ | refine W.exit ?_ | refine W.ret ?_ | refine L.nil ?_ | refine L.p rfl rfl ?_ | refine L.skip rfl ?_)
        refine ⟨.inr rfl, _, rfl, (fin (force_eq rfl) (force_eq rfl)).trans ?_, rfl⟩
        have ht : t < 60 := by have := of_decide_eq_true h; omega
        simp only [fR, kR, h1, h2, ht, if_true, if_false, v32, wrap_u32, bits_u32, ofInt_toNat, not_u32]
        rfl
      · have h3 : ¬ t < 60 := by have := of_decide_eq_false h; omega
        repeat (first | refine W.seq ?_ | refine W.block ?_ | refine W.reg ?_ | refine W.skip ?_ | refine W.exit ?_ | refine W.ret ?_ | refine L.nil ?_ | refine L.p rfl rfl ?_ | refine L.skip rfl ?_)
        refine ⟨.inr rfl, _, rfl, (fin (force_eq rfl) (force_eq rfl)).trans ?_, rfl⟩
        simp only [fR, kR, h1, h2, h3, if_true, if_false, v32, wrap_u32, bits_u32, ofInt_toNat, not_u32]
        rfl
end Go.Proofs.Yteadbbimikcmgaa
