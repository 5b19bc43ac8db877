/- What stands behind a message. Conditions: none. -/
import Derived.Test.YteadbbimikcmgaaKitB
import Derived.Test.YteadbbimikcmgaaShaA
set_option linter.unusedSimpArgs false
set_option linter.unusedVariables false
set_option maxRecDepth 100000
namespace Go.Proofs.Yteadbbimikcmgaa
open Go
variable {G : Nat} {Ext : FuncId → List Value → Mem → Outc → Mem → Prop}

theorem tmod_nat (a b : Nat) : Int.tmod (a : Int) (b : Int) = ((a % b : Nat) : Int) := (Int.ofNat_tmod a b).symm
def be (x : BitVec 64) (i : Nat) : BitVec 8 := (x >>> (8 * i)).setWidth 8
def padK (n : BitVec 64) : Nat := (119 - n.toNat % 64) % 64
/-- the first i bytes from behind -/
def tailL (x : BitVec 64) (i : Nat) : BL := (List.range i).reverse.map (be x)
def padL (n : BitVec 64) : BL := 0x80#8 :: (List.replicate (padK n) 0#8 ++ tailL (n <<< 3) 8)
theorem tailL_len (x : BitVec 64) (i : Nat) : (tailL x i).length = i := by simp [tailL]
theorem tailL_succ (x : BitVec 64) (i : Nat) : tailL x (i + 1) = be x i :: tailL x i := by simp [tailL, List.range_succ]
theorem padL_len (n : BitVec 64) : (padL n).length = padK n + 9 := by simp [padL, tailL_len]
theorem set_last {α : Type} (A T : List α) (z x : α) (m : Nat) : (A ++ (List.replicate (m + 1) z ++ T)).set (A.length + m) x = A ++ (List.replicate m z ++ x :: T) := by
  rw [List.set_append_right _ _ (by omega), show A.length + m - A.length = m by omega, List.set_append_left _ _ (by simp), List.replicate_succ', List.set_append_right _ _ (by simp)]
  simp

theorem set_push (S : Mem) (x y : Row) : List.set (S ++ [x]) S.length y = S ++ [y] := by rw [List.set_append_right _ _ (Nat.le_refl _)]; simp
theorem pad_C (n : BitVec 64) (S : Mem) : C Try.prog G Ext 19 [v64 n] S fun v S' => v = .slice (some ⟨S.length, 0, none⟩) (padK n + 9) (padK n + 9) ∧ S' = S ++ [newR (bv (padL n)) 5] := by
  have hk : padK n < 64 := Nat.mod_lt _ (by decide)
  refine C.fn Try.func19 rfl (by kernel_rfl) rfl ?_
  repeat (first | refine W.seq ?_ | refine W.block ?_ | refine W.reg ?_ | refine W.skip ?_ | refine W.exit ?_ | refine W.ret ?_ | refine L.nil ?_ | refine L.p rfl rfl ?_ | refine L.skip rfl ?_)
  have hlen : ∀ x : Int, x = IntKind.u64.wrap (IntKind.u64.wrap (1 + (IntKind.u64.wrap (119 - (n.toNat : Int).tmod 64)).tmod 64) + 8) → x = ((padK n + 9 : Nat) : Int) := by
    rintro x rfl
    have h1 : (n.toNat : Int).tmod 64 = ((n.toNat % 64 : Nat) : Int) := tmod_nat n.toNat 64
    have h2 : n.toNat % 64 < 64 := Nat.mod_lt _ (by decide)
    rw [h1, wrapU64 (x := 119 - _) (by omega) (by omega), show (119 - ((n.toNat % 64 : Nat) : Int)) = ((119 - n.toNat % 64 : Nat) : Int) by omega]
    have h3 : ((119 - n.toNat % 64 : Nat) : Int).tmod 64 = ((padK n : Nat) : Int) := tmod_nat _ 64
    rw [h3, wrapU64 (x := 1 + _) (by omega) (by omega), wrapU64 (by omega) (by omega)]
    omega
  refine L.mk (n := padK n + 9) (m := padK n + 9) rfl rfl (hlen _ rfl) rfl (hlen _ rfl) (Nat.le_refl _) (by omega) rfl rfl ?_
  repeat (first | refine W.seq ?_ | refine W.block ?_ | refine W.reg ?_ | refine W.skip ?_ | refine W.exit ?_ | refine W.ret ?_ | refine L.nil ?_ | refine L.p rfl rfl ?_ | refine L.skip rfl ?_)
  refine L.elst (k := 0) (row_push_new rfl) rfl (by simp [newR]) rfl (by omega) rfl rfl rfl rfl (fun _ => rfl) (fun _ => rfl) rfl rfl rfl (fun p => ?_)
  rw [set_push]
  repeat (first | refine W.seq ?_ | refine W.block ?_ | refine W.reg ?_ | refine W.skip ?_ | refine W.exit ?_ | refine W.ret ?_ | refine L.nil ?_ | refine L.p rfl rfl ?_ | refine L.skip rfl ?_)
  have hinit : (newR (List.replicate (padK n + 9) (Value.int .u8 0)) 5).cells.set (0 + 0) (.int .u8 128) = bv ((0x80#8 :: List.replicate (padK n) 0#8) ++ (List.replicate (8 - 0) 0#8 ++ tailL (n <<< 3) 0)) := by
    have e1 : List.replicate (padK n + 9) (Value.int .u8 0) = v8 0#8 :: (List.replicate (padK n) (v8 0#8) ++ List.replicate 8 (v8 0#8)) := by rw [List.replicate_append_replicate]; rfl
    have hrep : ∀ m, bv (List.replicate m 0#8) = List.replicate m (v8 0#8) := fun m => by simp [bv]
    show (List.replicate (padK n + 9) (Value.int .u8 0)).set 0 _ = _
    rw [e1, List.set_cons_zero, List.cons_append]
    show _ = v8 0x80#8 :: bv _
    rw [bv_app, bv_app, hrep, hrep, show bv (tailL (n <<< 3) 0) = [] from rfl, List.append_nil]
    rfl
  refine W.loop (fun j e S' => ∃ i, j = 8 - i ∧ i ≤ 8 ∧ e 0 = v64 n ∧ e 3 = .slice (some ⟨S.length, 0, none⟩) (padK n + 9) (padK n + 9) ∧ e 14 = vi i ∧ S' = S ++ [newR (bv ((0x80#8 :: List.replicate (padK n) 0#8) ++ (List.replicate (8 - i) 0#8 ++ tailL (n <<< 3) i))) 5]) 8 ⟨0, by omega, by omega, rfl, rfl, rfl, by rw [← hinit]; rfl⟩ ?_
  rintro j e S' ⟨i, rfl, hi, e0, e3, e14, rfl⟩
  refine W.env3 e0 e3 e14 ?_
  repeat (first | refine W.seq ?_ | refine W.block ?_ | refine W.reg ?_ | refine W.skip ?_ | refine W.exit ?_ | refine W.ret ?_ | refine L.nil ?_ | refine L.p rfl rfl ?_ | refine L.skip rfl ?_)
  refine W.ite rfl (fun h => ?_) (fun h => ?_)
  · have hin : i < 8 := by simp at h; omega
    repeat (first | refine W.seq ?_ | refine W.block ?_ | refine W.reg ?_ | refine W.skip ?_ | refine W.exit ?_ | refine W.ret ?_ | refine L.nil ?_ | refine L.p rfl rfl ?_ | refine L.skip rfl ?_)
    refine L.shr (8 * i) rfl rfl ?_ (by show 8 * i ≤ 64; omega) rfl ?_
    · rw [wrap64 (by omega) (by omega)]; omega
    repeat (first | refine W.seq ?_ | refine W.block ?_ | refine W.reg ?_ | refine W.skip ?_ | refine W.exit ?_ | refine W.ret ?_ | refine L.nil ?_ | refine L.p rfl rfl ?_ | refine L.skip rfl ?_)
    refine L.elst (k := padK n + 9 - 1 - i) (row_push_new rfl) rfl ?_ ?_ (by omega) rfl rfl rfl rfl (fun _ => rfl) (fun _ => rfl) rfl rfl rfl (fun p => ?_)
    · simp only [newR]; rw [bv_len]; simp [tailL_len]; omega
    · rw [wrap64 (x := _ - 1) (by omega) (by omega), wrap64 (by omega) (by omega)]; omega
    rw [set_push]
    repeat (first | refine W.seq ?_ | refine W.block ?_ | refine W.reg ?_ | refine W.skip ?_ | refine W.exit ?_ | refine W.ret ?_ | refine L.nil ?_ | refine L.p rfl rfl ?_ | refine L.skip rfl ?_)
    refine ⟨8 - (i + 1), by omega, i + 1, rfl, by omega, rfl, rfl, ?_, ?_⟩
    · refine (force_eq rfl).trans ?_
      rw [wrap64 (by omega) (by omega)]; rfl
    · refine congrArg (fun c => S ++ [newR c 5]) ?_
      show List.set (bv _) (0 + (padK n + 9 - 1 - i)) _ = _
      have hs := set_last (bv (0x80#8 :: List.replicate (padK n) 0#8)) (bv (tailL (n <<< 3) i)) (v8 0#8) (v8 (be (n <<< 3) i)) (8 - (i + 1))
      rw [show 8 - (i + 1) + 1 = 8 - i by omega, bv_len] at hs
      have hv : (Value.int .u8 (IntKind.u8.wrap (Int.fdiv (IntKind.u64.wrap ((n.toNat : Int) * 2 ^ min (Int.toNat 3) IntKind.u64.bits)) (2 ^ (8 * i))))) = v8 (be (n <<< 3) i) := by
        rw [show min (Int.toNat 3) IntKind.u64.bits = 3 from rfl]
        simp only [wrap_u64, bits_u64, ofInt_shl, fdiv_shr, u8_of_v64, be]
      have hrep : ∀ m, bv (List.replicate m 0#8) = List.replicate m (v8 0#8) := fun m => by simp [bv]
      simp only [tailL_succ]
      rw [bv_app, bv_app, bv_app, bv_app, hrep (8 - i), hrep (8 - (i + 1))]
      refine Eq.trans ?_ hs
      congr 1
      simp; omega
  · have hin : i = 8 := by simp at h; omega
    subst hin
    repeat (first | refine W.seq ?_ | refine W.block ?_ | refine W.reg ?_ | refine W.skip ?_ | refine W.exit ?_ | refine W.ret ?_ | refine L.nil ?_ | refine L.p rfl rfl ?_ | refine L.skip rfl ?_)
    exact ⟨.inr rfl, _, rfl, rfl, rfl⟩
end Go.Proofs.Yteadbbimikcmgaa
