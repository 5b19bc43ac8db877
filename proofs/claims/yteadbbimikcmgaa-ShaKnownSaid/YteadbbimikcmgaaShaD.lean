/- The reference's padding; new hashes. Conditions: none. -/
import Derived.Test.YteadbbimikcmgaaShaC
set_option linter.unusedSimpArgs false
set_option linter.unusedVariables false
set_option maxRecDepth 100000
namespace Go.Proofs.Yteadbbimikcmgaa
open Go
variable {G : Nat} {Ext : FuncId → List Value → Mem → Outc → Mem → Prop}

theorem padL_take (x : BitVec 64) (q : Nat) (h : q < 8) : (tailL x 8)[q]? = some (be x (7 - q)) := by
  simp only [tailL, List.getElem?_map]
  rw [List.getElem?_reverse (by simpa using h)]
  simp [List.getElem?_range, show 8 - 1 - q < 8 by omega, show 8 - 1 - q = 7 - q by omega]
theorem refpad_C (n : BitVec 64) (S : Mem) : C Try.prog G Ext 20 [v64 n] S fun v S' => Cons S S' ∧ ∃ a c, v = .slice a (padK n + 9) c ∧ Slv S' 1 v (padK n + 9) (bv (padL n)) := by
  have hk : padK n < 64 := Nat.mod_lt _ (by decide)
  have hn : n.toNat < 18446744073709551616 := n.isLt
  refine C.fn Try.func20 rfl (by kernel_rfl) rfl ?_
  repeat (first | refine W.seq ?_ | refine W.block ?_ | refine W.reg ?_ | refine W.skip ?_ | refine W.exit ?_ | refine W.ret ?_ | refine L.nil ?_ | refine L.p rfl rfl ?_ | refine L.skip rfl ?_)
  refine L.bs [v8 0x80#8] rfl rfl rfl rfl rfl rfl ?_
  repeat (first | refine W.seq ?_ | refine W.block ?_ | refine W.reg ?_ | refine W.skip ?_ | refine W.exit ?_ | refine W.ret ?_ | refine L.nil ?_ | refine L.p rfl rfl ?_ | refine L.skip rfl ?_)
  refine W.loop (fun j e S' => ∃ i a c, j = padK n - i ∧ i ≤ padK n ∧ Cons S S' ∧ e 0 = v64 n ∧ e 3 = .slice a (1 + i) c ∧ GrowF S.length S' 5 1 (.slice a (1 + i) c) (1 + i) (bv (0x80#8 :: List.replicate i 0#8))) (padK n) ⟨0, _, _, by omega, by omega, Cons.push _ _, rfl, rfl, .inr ⟨S.length, _, Nat.le_refl _, rfl, row_push_new rfl, rfl, rfl, rfl⟩⟩ ?_
  rintro j e S' ⟨i, a, c, rfl, hi, hc, e0, e3, hg⟩
  refine W.env2 e0 e3 ?_
  repeat (first | refine W.seq ?_ | refine W.block ?_ | refine W.reg ?_ | refine W.skip ?_ | refine W.exit ?_ | refine W.ret ?_ | refine L.nil ?_ | refine L.p rfl rfl ?_ | refine L.skip rfl ?_)
  have hcond : (IntKind.u64.wrap ((n.toNat : Int) + IntKind.u64.wrap ((1 + i : Nat) : Int))).tmod 64 = (((n.toNat + 1 + i) % 64 : Nat) : Int) := by
    rw [wrapU64 (x := ((1 + i : Nat) : Int)) (by omega) (by omega)]
    have : IntKind.u64.wrap ((n.toNat : Int) + ((1 + i : Nat) : Int)) = (((n.toNat + 1 + i) % 18446744073709551616 : Nat) : Int) := by
      simp only [IntKind.wrap, IntKind.bits, IntKind.signed, Bool.false_and, Bool.false_eq_true, if_false]
      omega
    rw [this]
    have h64 := tmod_nat ((n.toNat + 1 + i) % 18446744073709551616) 64
    rw [show ((64 : Nat) : Int) = 64 from rfl] at h64
    rw [h64]
    omega
  refine W.ite rfl (fun h => ?_) (fun h => ?_)
  · have hlt : i < padK n := by
      rw [hcond] at h
      unfold padK at hi hk ⊢
      simp at h
      omega
    repeat (first | refine W.seq ?_ | refine W.block ?_ | refine W.reg ?_ | refine W.skip ?_ | refine W.exit ?_ | refine W.ret ?_ | refine L.nil ?_ | refine L.p rfl rfl ?_ | refine L.skip rfl ?_)
    refine L.push1 rfl hc.len hg rfl rfl rfl rfl rfl (by omega) rfl (fun _ => rfl) (fun p a c S1 h2 h3 h4 => ?_)
    repeat (first | refine W.seq ?_ | refine W.block ?_ | refine W.reg ?_ | refine W.skip ?_ | refine W.exit ?_ | refine W.ret ?_ | refine L.nil ?_ | refine L.p rfl rfl ?_ | refine L.skip rfl ?_)
    refine ⟨padK n - (i + 1), by omega, i + 1, a, c, rfl, by omega, hc.trans' h4, rfl, rfl, ?_⟩
    refine .inl ?_
    rw [show (0x80#8 :: List.replicate (i + 1) 0#8) = (0x80#8 :: List.replicate i 0#8) ++ [0#8] by rw [List.replicate_succ']; rfl, bv_app]
    exact h2
  · have hlt : i = padK n := by
      rw [hcond] at h
      unfold padK at hi hk ⊢
      simp at h
      omega
    subst hlt
    repeat (first | refine W.seq ?_ | refine W.block ?_ | refine W.reg ?_ | refine W.skip ?_ | refine W.exit ?_ | refine W.ret ?_ | refine L.nil ?_ | refine L.p rfl rfl ?_ | refine L.skip rfl ?_)
    refine W.loop (fun j e S' => ∃ q a c, j = 8 - q ∧ q ≤ 8 ∧ Cons S S' ∧ e 0 = v64 n ∧ e 3 = .slice a (1 + padK n + q) c ∧ e 4 = .int .i64 (56 - 8 * (q : Int)) ∧ GrowF S.length S' 5 1 (.slice a (1 + padK n + q) c) (1 + padK n + q) (bv ((0x80#8 :: List.replicate (padK n) 0#8) ++ (tailL (n <<< 3) 8).take q))) 8 ⟨0, _, _, by omega, by omega, hc, rfl, rfl, rfl, by simpa using hg⟩ ?_
    clear hg hc hi e0 e3 h hcond S' e a c
    rintro j e S' ⟨q, a, c, rfl, hq, hc, e0, e3, e4, hg⟩
    refine W.env3 e0 e3 e4 ?_
    repeat (first | refine W.seq ?_ | refine W.block ?_ | refine W.reg ?_ | refine W.skip ?_ | refine W.exit ?_ | refine W.ret ?_ | refine L.nil ?_ | refine L.p rfl rfl ?_ | refine L.skip rfl ?_)
    refine W.ite rfl (fun h => ?_) (fun h => ?_)
    · have hlt : q < 8 := by simp at h; omega
      repeat (first | refine W.seq ?_ | refine W.block ?_ | refine W.reg ?_ | refine W.skip ?_ | refine W.exit ?_ | refine W.ret ?_ | refine L.nil ?_ | refine L.p rfl rfl ?_ | refine L.skip rfl ?_)
      refine L.shr (56 - 8 * q) rfl rfl (by omega) (by show 56 - 8 * q ≤ 64; omega) rfl ?_
      repeat (first | refine W.seq ?_ | refine W.block ?_ | refine W.reg ?_ | refine W.skip ?_ | refine W.exit ?_ | refine W.ret ?_ | refine L.nil ?_ | refine L.p rfl rfl ?_ | refine L.skip rfl ?_)
      refine L.push1 rfl hc.len hg rfl rfl rfl rfl rfl (by omega) rfl (fun _ => rfl) (fun p a c S1 h2 h3 h4 => ?_)
      repeat (first | refine W.seq ?_ | refine W.block ?_ | refine W.reg ?_ | refine W.skip ?_ | refine W.exit ?_ | refine W.ret ?_ | refine L.nil ?_ | refine L.p rfl rfl ?_ | refine L.skip rfl ?_)
      refine ⟨8 - (q + 1), by omega, q + 1, a, c, rfl, by omega, hc.trans' h4, rfl, rfl, ?_, .inl ?_⟩
      · refine (force_eq rfl).trans ?_
        rw [wrap64 (by omega) (by omega)]; congr 1; omega
      · rw [List.take_add_one, padL_take _ _ hlt, ← List.append_assoc, bv_app]
        have hv : (IntKind.u8.wrap (Int.fdiv (IntKind.u64.wrap ((n.toNat : Int) * 8)) (2 ^ (56 - 8 * q)))) = (((be (n <<< 3) (7 - q)).toNat : Nat) : Int) := by
          have h8 := ofInt_shl n 3
          rw [show ((2 : Int) ^ 3) = 8 by rfl] at h8
          rw [wrap_u64, h8, fdiv_shr, u8_of_v64, be, show 56 - 8 * q = 8 * (7 - q) by omega]
        rw [hv] at h2
        exact h2
    · have hlt : q = 8 := by simp at h; omega
      subst hlt
      rw [List.take_of_length_le (by simp [tailL_len])] at hg
      rw [show 1 + padK n + 8 = padK n + 9 by omega] at hg ⊢
      repeat (first | refine W.seq ?_ | refine W.block ?_ | refine W.reg ?_ | refine W.skip ?_ | refine W.exit ?_ | refine W.ret ?_ | refine L.nil ?_ | refine L.p rfl rfl ?_ | refine L.skip rfl ?_)
      exact ⟨.inr rfl, _, rfl, hc, a, c, rfl, hg.slv⟩
theorem len_C (b : Nat) (r : Row) (n : BitVec 64) (S : Mem) (hr : S.row? b = some r) (hn : r.cells[69]? = some (v64 n)) (hro : r.ro = none := by exact rfl) : C Try.prog G Ext 18 [.pointer (some ⟨b, 0, none⟩)] S fun v S' => v = v64 n ∧ S' = S := by
  refine C.fn Try.func18 rfl (by kernel_rfl) rfl ?_
  repeat (first | refine W.seq ?_ | refine W.block ?_ | refine W.reg ?_ | refine W.skip ?_ | refine W.exit ?_ | refine W.ret ?_ | refine L.nil ?_ | refine L.p rfl rfl ?_ | refine L.skip rfl ?_)
  refine L.ld (cell_of hr hn (.inl hro)) rfl rfl rfl ?_
  repeat (first | refine W.seq ?_ | refine W.block ?_ | refine W.reg ?_ | refine W.skip ?_ | refine W.exit ?_ | refine W.ret ?_ | refine L.nil ?_ | refine L.p rfl rfl ?_ | refine L.skip rfl ?_)
  exact ⟨.inr rfl, _, rfl, rfl, rfl⟩
abbrev St := Nat → BitVec 32
def cells5 (st : St) : List Value := [v32 (st 0), v32 (st 1), v32 (st 2), v32 (st 3), v32 (st 4)]
def hashCells (st : St) (blk : BL) (n : BitVec 64) : List Value := cells5 st ++ (bv blk ++ [v64 n])
def st0 : St := fun i => match i with | 0 => 0x67452301#32 | 1 => 0xefcdab89#32 | 2 => 0x98badcfe#32 | 3 => 0x10325476#32 | _ => 0xc3d2e1f0#32
theorem reset_C (b : Nat) (r : Row) (S : Mem) (hr : S.row? b = some r) (hro : r.ro = none) (hl : r.cells.length = 70) : C Try.prog G Ext 16 [.pointer (some ⟨b, 0, none⟩)] S fun v S' => S' = S.set b { r with cells := hashCells st0 (List.replicate 64 0#8) 0#64 } := by
  refine C.fn Try.func16 rfl (by kernel_rfl) rfl ?_
  repeat (first | refine W.seq ?_ | refine W.block ?_ | refine W.reg ?_ | refine W.skip ?_ | refine W.exit ?_ | refine W.ret ?_ | refine L.nil ?_ | refine L.p rfl rfl ?_ | refine L.skip rfl ?_)
  refine L.bd #[v32 0x67452301#32, v32 0xefcdab89#32, v32 0x98badcfe#32, v32 0x10325476#32, v32 0xc3d2e1f0#32] rfl rfl rfl rfl rfl ?_
  refine L.bd (hashCells st0 (List.replicate 64 0#8) 0#64).toArray rfl rfl rfl rfl rfl ?_
  repeat (first | refine W.seq ?_ | refine W.block ?_ | refine W.reg ?_ | refine W.skip ?_ | refine W.exit ?_ | refine W.ret ?_ | refine L.nil ?_ | refine L.p rfl rfl ?_ | refine L.skip rfl ?_)
  have hw := write_of (S := S) (b := b) (o := 0) (l := hashCells st0 (List.replicate 64 0#8) 0#64) hr hro (by rw [hl]; decide) (by decide)
  refine L.st hw rfl rfl rfl rfl ?_
  repeat (first | refine W.seq ?_ | refine W.block ?_ | refine W.reg ?_ | refine W.skip ?_ | refine W.exit ?_ | refine W.ret ?_ | refine L.nil ?_ | refine L.p rfl rfl ?_ | refine L.skip rfl ?_)
  refine ⟨.inl rfl, _, rfl, ?_⟩
  have : putFrom r.cells 0 (hashCells st0 (List.replicate 64 0#8) 0#64) = hashCells st0 (List.replicate 64 0#8) 0#64 := by
    unfold putFrom
    rw [List.drop_eq_nil_of_le (by rw [hl]; decide)]
    simp
  rw [this]
theorem new_C (S : Mem) : C Try.prog G Ext 14 [] S fun v S' => v = .pointer (some ⟨S.length, 0, none⟩) ∧ S' = S ++ [newR (hashCells st0 (List.replicate 64 0#8) 0#64) 55] := by
  refine C.fn Try.func14 rfl (by kernel_rfl) rfl ?_
  repeat (first | refine W.seq ?_ | refine W.block ?_ | refine W.reg ?_ | refine W.skip ?_ | refine W.exit ?_ | refine W.ret ?_ | refine L.nil ?_ | refine L.p rfl rfl ?_ | refine L.skip rfl ?_)
  refine L.bd (hashCells (fun _ => 0#32) (List.replicate 64 0#8) 0#64).toArray rfl rfl rfl rfl rfl ?_
  refine L.eff (v := .pointer (some ⟨S.length, 0, none⟩)) (S1 := S ++ [newR (hashCells (fun _ => 0#32) (List.replicate 64 0#8) 0#64) 55]) rfl rfl ?_
  repeat (first | refine W.seq ?_ | refine W.block ?_ | refine W.reg ?_ | refine W.skip ?_ | refine W.exit ?_ | refine W.ret ?_ | refine L.nil ?_ | refine L.p rfl rfl ?_ | refine L.skip rfl ?_)
  refine L.cl (reset_C S.length _ _ (row_push_new rfl) rfl rfl) rfl rfl ?_
  rintro v _ rfl
  refine ⟨nofun, ?_⟩
  repeat (first | refine W.seq ?_ | refine W.block ?_ | refine W.reg ?_ | refine W.skip ?_ | refine W.exit ?_ | refine W.ret ?_ | refine L.nil ?_ | refine L.p rfl rfl ?_ | refine L.skip rfl ?_)
  refine ⟨.inr rfl, _, rfl, rfl, ?_⟩
  rw [set_push]; rfl
end Go.Proofs.Yteadbbimikcmgaa
