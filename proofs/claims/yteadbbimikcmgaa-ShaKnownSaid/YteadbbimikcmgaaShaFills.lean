/- The law of what stands behind a message. Conditions: none. -/
import Derived.Test.YteadbbimikcmgaaShaJ
import Derived.Test.YteadbbimikcmgaaRows
import Derived.WalkKit
import Derived.ProofKit
import Derived.OpenShut
import Derived.ShutString
import Derived.ChangeOld
import Derived.Below
set_option linter.unusedSimpArgs false
set_option linter.unusedVariables false
set_option maxRecDepth 100000
set_option maxHeartbeats 4000000
namespace Go.Proofs.Yteadbbimikcmgaa
open Go
variable {G : Nat} {Ext : FuncId → List Value → Mem → Outc → Mem → Prop}

theorem pad_zero (n : BitVec 64) {i : Nat} (h1 : 1 ≤ i) (h2 : i ≤ padK n) : (bv (padL n))[i]? = some (v8 0#8) := by
  refine bv_get ?_
  obtain ⟨j, rfl⟩ : ∃ j, i = j + 1 := ⟨i - 1, by omega⟩
  show (0x80#8 :: (List.replicate (padK n) 0#8 ++ tailL (n <<< 3) 8))[j + 1]? = _
  rw [List.getElem?_cons_succ]
  rw [List.getElem?_append_left (by simp; omega), List.getElem?_replicate, if_pos (by omega)]
theorem pad_be (n : BitVec 64) {i : Nat} (h1 : padK n < i) (h2 : i < padK n + 9) : (bv (padL n))[i]? = some (v8 (be (n <<< 3) (padK n + 8 - i))) := by
  refine bv_get ?_
  obtain ⟨j, rfl⟩ : ∃ j, i = j + 1 := ⟨i - 1, by omega⟩
  show (0x80#8 :: (List.replicate (padK n) 0#8 ++ tailL (n <<< 3) 8))[j + 1]? = _
  rw [List.getElem?_cons_succ]
  rw [List.getElem?_append_right (by simp; omega), List.length_replicate, padL_take _ _ (by omega)]
  congr 2; omega
theorem be_step (x : BitVec 64) (j : Nat) (h : j < 8) : (x >>> (8 * (j + 1))) <<< 8 ||| (be x j).setWidth 64 = x >>> (8 * j) := by
  apply BitVec.eq_of_toNat_eq
  have hx := x.isLt
  simp only [be, BitVec.toNat_or, BitVec.toNat_shiftLeft, BitVec.toNat_ushiftRight, BitVec.toNat_setWidth, Nat.shiftLeft_eq, Nat.shiftRight_eq_div_pow]
  have e1 : x.toNat / 2 ^ (8 * (j + 1)) = x.toNat / 2 ^ (8 * j) / 256 := by
    rw [Nat.div_div_eq_div_mul, show 8 * (j + 1) = 8 * j + 8 by omega, Nat.pow_add]
  rw [e1]
  have hy : x.toNat / 2 ^ (8 * j) ≤ x.toNat := Nat.div_le_self _ _
  generalize x.toNat / 2 ^ (8 * j) = y at *
  have hlt : y < 2 ^ 64 := by omega
  have := Nat.two_pow_add_eq_or_of_lt (i := 8) (b := y % 256) (by omega) (y / 256)
  have e2 : y / 256 * 2 ^ 8 % 2 ^ 64 = 2 ^ 8 * (y / 256) := by omega
  have e3 : y % 2 ^ 8 % 2 ^ 64 = y % 256 := by omega
  rw [e2, e3, ← this]
  omega
theorem ofInt_8_64 (x : BitVec 8) : BitVec.ofInt 64 (x.toNat : Int) = x.setWidth 64 := by apply BitVec.eq_of_toNat_eq; simp [BitVec.toNat_ofInt]
theorem fills_C (n : BitVec 64) (S : Mem) : C Try.prog G Ext 7 [v64 n] S fun v S' => v = .bool true ∧ Cons S S' := by
  have hk : padK n < 64 := Nat.mod_lt _ (by decide)
  refine C.fn Try.func7 rfl (by kernel_rfl) rfl ?_
  repeat (first | refine W.seq ?_ | refine W.block ?_ | refine W.reg ?_ | refine W.skip ?_ | refine W.exit ?_ | refine W.ret ?_ | refine L.nil ?_ | refine L.p rfl rfl ?_ | refine L.skip rfl ?_)
  refine L.cl (pad_C n S) rfl rfl ?_
  rintro _ _ ⟨rfl, rfl⟩
  refine ⟨nofun, ?_⟩
  have hs : Slv (S ++ [newR (bv (padL n)) 5]) 1 (.slice (some ⟨S.length, 0, none⟩) (padK n + 9) (padK n + 9)) (padK n + 9) (bv (padL n)) := Slv.all (row_push_new rfl) rfl (by rw [bv_len, padL_len]; omega)
  have hc : Cons S (S ++ [newR (bv (padL n)) 5]) := Cons.push _ _
  generalize S ++ [newR (bv (padL n)) 5] = M at *
  repeat (first | refine W.seq ?_ | refine W.block ?_ | refine W.reg ?_ | refine W.skip ?_ | refine W.exit ?_ | refine W.ret ?_ | refine L.nil ?_ | refine L.p rfl rfl ?_ | refine L.skip rfl ?_)
  rw [show decide (((padK n + 9 : Nat) : Int) < 9) = false by simp; omega]
  repeat (first | refine W.seq ?_ | refine W.block ?_ | refine W.reg ?_ | refine W.skip ?_ | refine W.exit ?_ | refine W.ret ?_ | refine L.nil ?_ | refine L.p rfl rfl ?_ | refine L.skip rfl ?_)
  rw [show decide (((padK n + 9 : Nat) : Int) > 72) = false by simp; omega]
  repeat (first | refine W.seq ?_ | refine W.block ?_ | refine W.reg ?_ | refine W.skip ?_ | refine W.exit ?_ | refine W.ret ?_ | refine L.nil ?_ | refine L.p rfl rfl ?_ | refine L.skip rfl ?_)
  have hm : ((IntKind.u64.wrap ((n.toNat : Int).tmod 64 + IntKind.u64.wrap ((padK n + 9 : Nat) : Int))).tmod 64 != 0) = false := by
    have h1 : (n.toNat : Int).tmod 64 = ((n.toNat % 64 : Nat) : Int) := tmod_nat n.toNat 64
    rw [h1, wrapU64 (x := ((padK n + 9 : Nat) : Int)) (by omega) (by omega), wrapU64 (by omega) (by omega)]
    have h2 := tmod_nat (n.toNat % 64 + (padK n + 9)) 64
    rw [show ((64 : Nat) : Int) = 64 from rfl] at h2
    rw [show (((n.toNat % 64 : Nat) : Int) + ((padK n + 9 : Nat) : Int)) = ((n.toNat % 64 + (padK n + 9) : Nat) : Int) by omega, h2]
    have h3 : (n.toNat % 64 + (padK n + 9)) % 64 = 0 := by unfold padK; omega
    rw [h3]; rfl
  rw [hm]
  repeat (first | refine W.seq ?_ | refine W.block ?_ | refine W.reg ?_ | refine W.skip ?_ | refine W.exit ?_ | refine W.ret ?_ | refine L.nil ?_ | refine L.p rfl rfl ?_ | refine L.skip rfl ?_)
  refine L.el (k := 0) (w := v8 0x80#8) hs rfl rfl rfl rfl rfl rfl (fun _ => rfl) rfl (fun p => ?_)
  repeat (first | refine W.seq ?_ | refine W.block ?_ | refine W.reg ?_ | refine W.skip ?_ | refine W.exit ?_ | refine W.ret ?_ | refine L.nil ?_ | refine L.p rfl rfl ?_ | refine L.skip rfl ?_)
  refine W.ite rfl (fun h => ?_) (fun h => ?_)
  · exact absurd h (by decide)
  repeat (first | refine W.seq ?_ | refine W.block ?_ | refine W.reg ?_ | refine W.skip ?_ | refine W.exit ?_ | refine W.ret ?_ | refine L.nil ?_ | refine L.p rfl rfl ?_ | refine L.skip rfl ?_)
  refine W.loop (fun j e S' => ∃ i, j = padK n + 9 - i ∧ 1 ≤ i ∧ i ≤ padK n + 9 ∧ S' = M ∧ e 0 = v64 n ∧ e 3 = .slice (some ⟨S.length, 0, none⟩) (padK n + 9) (padK n + 9) ∧ e 5 = vi i ∧ e 4 = v64 ((n <<< 3) >>> (8 * min 8 (padK n + 9 - i)))) (padK n + 8) ⟨1, by omega, by omega, by omega, rfl, rfl, rfl, rfl, ?_⟩ ?_
  · rw [show min 8 (padK n + 9 - 1) = 8 by omega, show (n <<< 3) >>> (8 * 8) = 0#64 by apply BitVec.eq_of_toNat_eq; rw [BitVec.toNat_ushiftRight, Nat.shiftRight_eq_div_pow]; have := (n <<< 3).isLt; rw [Nat.div_eq_of_lt (by omega)]; rfl]
    rfl
  clear h p
  rintro j e S' ⟨i, rfl, hi1, hi, rfl, e0, e3, e5, e4⟩
  refine W.env4 e0 e3 e5 e4 ?_
  repeat (first | refine W.seq ?_ | refine W.block ?_ | refine W.reg ?_ | refine W.skip ?_ | refine W.exit ?_ | refine W.ret ?_ | refine L.nil ?_ | refine L.p rfl rfl ?_ | refine L.skip rfl ?_)
  refine W.ite rfl (fun h => ?_) (fun h => ?_)
  · have hin : i < padK n + 9 := by simp at h; omega
    repeat (first | refine W.seq ?_ | refine W.block ?_ | refine W.reg ?_ | refine W.skip ?_ | refine W.exit ?_ | refine W.ret ?_ | refine L.nil ?_ | refine L.p rfl rfl ?_ | refine L.skip rfl ?_)
    have hsub : IntKind.i64.wrap (((padK n + 9 : Nat) : Int) - 8) = ((padK n + 1 : Nat) : Int) := by rw [wrap64 (by omega) (by omega)]; omega
    rw [hsub]
    by_cases hz : i ≤ padK n
    · rw [show decide ((i : Int) < ((padK n + 1 : Nat) : Int)) = true by simp; omega]
      repeat (first | refine W.seq ?_ | refine W.block ?_ | refine W.reg ?_ | refine W.skip ?_ | refine W.exit ?_ | refine W.ret ?_ | refine L.nil ?_ | refine L.p rfl rfl ?_ | refine L.skip rfl ?_)
      refine L.el (k := i) (w := v8 0#8) hs rfl (pad_zero n hi1 hz) rfl rfl rfl rfl (fun _ => rfl) rfl (fun p => ?_)
      repeat (first | refine W.seq ?_ | refine W.block ?_ | refine W.reg ?_ | refine W.skip ?_ | refine W.exit ?_ | refine W.ret ?_ | refine L.nil ?_ | refine L.p rfl rfl ?_ | refine L.skip rfl ?_)
      refine W.ite rfl (fun h => ?_) (fun h => ?_)
      · exact absurd h (by decide)
      repeat (first | refine W.seq ?_ | refine W.block ?_ | refine W.reg ?_ | refine W.skip ?_ | refine W.exit ?_ | refine W.ret ?_ | refine L.nil ?_ | refine L.p rfl rfl ?_ | refine L.skip rfl ?_)
      refine L.el (k := i) (w := v8 0#8) hs rfl (pad_zero n hi1 hz) rfl rfl rfl rfl (fun _ => rfl) rfl (fun p => ?_)
      repeat (first | refine W.seq ?_ | refine W.block ?_ | refine W.reg ?_ | refine W.skip ?_ | refine W.exit ?_ | refine W.ret ?_ | refine L.nil ?_ | refine L.p rfl rfl ?_ | refine L.skip rfl ?_)
      refine ⟨padK n + 9 - (i + 1), by omega, i + 1, rfl, by omega, by omega, rfl, rfl, rfl, ?_, ?_⟩
      · refine (force_eq rfl).trans ?_
        rw [wrap64 (by omega) (by omega)]; rfl
      · refine (force_eq rfl).trans ?_
        rw [show min 8 (padK n + 9 - (i + 1)) = 8 by omega, show min 8 (padK n + 9 - i) = 8 by omega]
        have hx8 : (n <<< 3) >>> (8 * 8) = 0#64 := by apply BitVec.eq_of_toNat_eq; rw [BitVec.toNat_ushiftRight, Nat.shiftRight_eq_div_pow]; have := (n <<< 3).isLt; rw [Nat.div_eq_of_lt (by omega)]; rfl
        rw [hx8]
        rfl
    · rw [show decide ((i : Int) < ((padK n + 1 : Nat) : Int)) = false by simp; omega]
      repeat (first | refine W.seq ?_ | refine W.block ?_ | refine W.reg ?_ | refine W.skip ?_ | refine W.exit ?_ | refine W.ret ?_ | refine L.nil ?_ | refine L.p rfl rfl ?_ | refine L.skip rfl ?_)
      refine W.ite rfl (fun h => ?_) (fun h => ?_)
      · cases h
      repeat (first | refine W.seq ?_ | refine W.block ?_ | refine W.reg ?_ | refine W.skip ?_ | refine W.exit ?_ | refine W.ret ?_ | refine L.nil ?_ | refine L.p rfl rfl ?_ | refine L.skip rfl ?_)
      refine L.el (k := i) (w := v8 (be (n <<< 3) (padK n + 8 - i))) hs rfl (pad_be n (by omega) hin) rfl rfl rfl rfl (fun _ => rfl) rfl (fun p => ?_)
      repeat (first | refine W.seq ?_ | refine W.block ?_ | refine W.reg ?_ | refine W.skip ?_ | refine W.exit ?_ | refine W.ret ?_ | refine L.nil ?_ | refine L.p rfl rfl ?_ | refine L.skip rfl ?_)
      refine ⟨padK n + 9 - (i + 1), by omega, i + 1, rfl, by omega, by omega, rfl, rfl, rfl, ?_, ?_⟩
      · refine (force_eq rfl).trans ?_
        rw [wrap64 (by omega) (by omega)]; rfl
      · refine (force_eq rfl).trans ?_
        rw [show min 8 (padK n + 9 - (i + 1)) = padK n + 8 - i by omega, show min 8 (padK n + 9 - i) = (padK n + 8 - i) + 1 by omega]
        rw [← be_step (n <<< 3) (padK n + 8 - i) (by omega)]
        generalize n <<< 3 = x
        simp only [v64, Value.int.injEq, true_and, wrap_u64, bits_u64, ofInt_toNat, ofInt_8_64, ofInt_shl]
        rfl
  · have hin : i = padK n + 9 := by simp at h; omega
    subst hin
    repeat (first | refine W.seq ?_ | refine W.block ?_ | refine W.reg ?_ | refine W.skip ?_ | refine W.exit ?_ | refine W.ret ?_ | refine L.nil ?_ | refine L.p rfl rfl ?_ | refine L.skip rfl ?_)
    rw [show (((n <<< 3) >>> (8 * min 8 (padK n + 9 - (padK n + 9)))).toNat : Int) = ((n <<< 3).toNat : Int) by rw [show 8 * min 8 (padK n + 9 - (padK n + 9)) = 0 by omega]; rfl]
    have hsh : IntKind.u64.wrap ((n.toNat : Int) * 2 ^ min (Int.toNat 3) IntKind.u64.bits) = ((n <<< 3).toNat : Int) := by
      rw [show min (Int.toNat 3) IntKind.u64.bits = 3 from rfl, wrap_u64, ofInt_shl]
    rw [hsh, show (((n <<< 3).toNat : Int) == ((n <<< 3).toNat : Int)) = true from beq_self_eq_true _]
    repeat (first | refine W.seq ?_ | refine W.block ?_ | refine W.reg ?_ | refine W.skip ?_ | refine W.exit ?_ | refine W.ret ?_ | refine L.nil ?_ | refine L.p rfl rfl ?_ | refine L.skip rfl ?_)
    refine L.cl (works_C _) rfl rfl ?_
    rintro _ M2 ⟨rfl, hc2⟩
    refine ⟨fun _ => hc2, ?_⟩
    repeat (first | refine W.seq ?_ | refine W.block ?_ | refine W.reg ?_ | refine W.skip ?_ | refine W.exit ?_ | refine W.ret ?_ | refine L.nil ?_ | refine L.p rfl rfl ?_ | refine L.skip rfl ?_)
    exact ⟨.inr rfl, _, rfl, rfl, hc.trans hc2⟩
end Go.Proofs.Yteadbbimikcmgaa
