/- The closed law of the hash, walked. Conditions: none. -/
import Derived.Test.YteadbbimikcmgaaShaCuts
import Derived.Test.YteadbbimikcmgaaShaPads
import Derived.Test.YteadbbimikcmgaaShaFills
import Derived.Test.YteadbbimikcmgaaShaPieces
set_option linter.unusedSimpArgs false
set_option linter.unusedVariables false
set_option maxRecDepth 100000
set_option maxHeartbeats 4000000
namespace Go.Proofs.Yteadbbimikcmgaa
open Go
variable {G : Nat} {Ext : FuncId → List Value → Mem → Outc → Mem → Prop}

def abcd : BL := [97#8, 98#8, 99#8, 100#8, 98#8, 99#8, 100#8, 101#8, 99#8, 100#8, 101#8, 102#8, 100#8, 101#8, 102#8, 103#8, 101#8, 102#8, 103#8, 104#8, 102#8, 103#8, 104#8, 105#8, 103#8, 104#8, 105#8, 106#8, 104#8, 105#8, 106#8, 107#8, 105#8, 106#8, 107#8, 108#8, 106#8, 107#8, 108#8, 109#8, 107#8, 108#8, 109#8, 110#8, 108#8, 109#8, 110#8, 111#8, 109#8, 110#8, 111#8, 112#8, 110#8, 111#8, 112#8, 113#8]
theorem sum_nil : (sumL [])[0]? = some 0xda#8 ∧ (sumL [])[19]? = some 0x09#8 := ⟨by kernel_rfl, by kernel_rfl⟩
theorem sum_abcd : (sumL abcd)[0]? = some 0x84#8 ∧ (sumL abcd)[1]? = some 0x98#8 ∧ (sumL abcd)[19]? = some 0xf1#8 := ⟨by kernel_rfl, by kernel_rfl, by kernel_rfl⟩
theorem u64_nat {n : Nat} (h : n < 18446744073709551616) : IntKind.u64.wrap (n : Int) = ((BitVec.ofNat 64 n).toNat : Int) := by rw [wrapU64 (by omega) (by omega), ofNat_toNat h]
theorem known_C (S : Mem) : C Try.prog G Ext 8 [] S fun v S' => v = .bool true ∧ Cons S S' := by
  refine C.fn Try.func8 rfl (by kernel_rfl) rfl ?_
  repeat (first | refine W.seq ?_ | refine W.block ?_ | refine W.reg ?_ | refine W.skip ?_ | refine W.exit ?_ | refine W.ret ?_ | refine L.nil ?_ | refine L.p rfl rfl ?_ | refine L.skip rfl ?_)
  refine L.cl (sum_C [] none 0 S (Slv.nil _ _ _ _) (.of (by decide)) (by decide)) rfl rfl ?_
  rintro _ S1 ⟨rfl, hc1⟩
  refine ⟨nofun, ?_⟩
  repeat (first | refine W.seq ?_ | refine W.block ?_ | refine W.reg ?_ | refine W.skip ?_ | refine W.exit ?_ | refine W.ret ?_ | refine L.nil ?_ | refine L.p rfl rfl ?_ | refine L.skip rfl ?_)
  refine L.eff (v := .slice (some ⟨S1.length, 0, none⟩) 56 (UNK + 56)) (S1 := S1 ++ [grownR (bv abcd) 5 1]) rfl rfl ?_
  have hc2 : Cons S1 (S1 ++ [grownR (bv abcd) 5 1]) := Cons.push _ _
  have hab : Slv (S1 ++ [grownR (bv abcd) 5 1]) 1 (.slice (some ⟨S1.length, 0, none⟩) 56 (UNK + 56)) 56 (bv abcd) := Slv.all (row_push_new rfl) rfl rfl
  have hcS := hc1.trans hc2
  generalize S1 ++ [grownR (bv abcd) 5 1] = S2 at *
  generalize S1.length = b1 at *
  clear hc1 hc2
  refine L.cl (sum_C abcd _ _ S2 hab (.of (by decide)) (by decide)) rfl rfl ?_
  rintro _ S3 ⟨rfl, hc3⟩
  refine ⟨nofun, ?_⟩
  refine L.eff (v := .pointer (some ⟨S3.length, 0, none⟩)) (S1 := S3 ++ [newR (bv (List.replicate 20 0#8)) 24]) rfl rfl ?_
  have hr1 : Mem.row? (S3 ++ [newR (bv (List.replicate 20 0#8)) 24]) S3.length = some (newR (bv (List.replicate 20 0#8)) 24) := row_push_new rfl
  have hS3 : S.length ≤ S3.length := (hcS.trans hc3).len
  have hcS := (hcS.trans hc3).trans (Cons.push S3 (newR (bv (List.replicate 20 0#8)) 24))
  generalize S3 ++ [newR (bv (List.replicate 20 0#8)) 24] = S4 at *
  obtain ⟨ra, hra⟩ : ∃ ra, ra = S3.length := ⟨_, rfl⟩
  rw [← hra] at hr1 hS3 ⊢
  have hS34 := row_lt hr1
  refine L.eff (v := .pointer (some ⟨S4.length, 0, none⟩)) (S1 := S4 ++ [newR (bv (List.replicate 20 0#8)) 24]) rfl rfl ?_
  have hr2 : Mem.row? (S4 ++ [newR (bv (List.replicate 20 0#8)) 24]) S4.length = some (newR (bv (List.replicate 20 0#8)) 24) := row_push_new rfl
  have hr1 := row_fresh (x := newR (bv (List.replicate 20 0#8)) 24) rfl hr1
  have hcS := hcS.trans (Cons.push S4 (newR (bv (List.replicate 20 0#8)) 24))
  generalize S4 ++ [newR (bv (List.replicate 20 0#8)) 24] = S5 at *
  obtain ⟨rc, hrc⟩ : ∃ rc, rc = S4.length := ⟨_, rfl⟩
  rw [← hrc] at hr2 hS34 ⊢
  clear hra hrc hab hc3
  refine L.st (ad := ⟨ra, 0, none⟩) (vs := bv (sumL [])) (write_of (o := 0) hr1 rfl (by simp [newR, bv_len, sumL_len]) (bv_one _)) rfl rfl rfl (by simp [bv_len, sumL_len]; rfl) ?_
  rw [put20 (by simp) (sumL_len _)]
  have h1 := row_set_same (x := newR (bv (sumL [])) 24) hr1 rfl
  have h2 := (row_set_other (S := S5) (x := newR (bv (sumL [])) 24) rc (show ra ≠ rc by omega)).trans hr2
  have hcS := hcS.set ra (newR (bv (sumL [])) 24) hS3
  refine L.st (ad := ⟨rc, 0, none⟩) (vs := bv (sumL abcd)) (write_of (o := 0) h2 rfl (by simp [newR, bv_len, sumL_len]) (bv_one _)) rfl rfl rfl (by simp [bv_len, sumL_len]; rfl) ?_
  rw [put20 (by simp) (sumL_len _)]
  have h3 := row_set_same (x := newR (bv (sumL abcd)) 24) h2 rfl
  have h4 := (row_set_other (S := List.set S5 ra (newR (bv (sumL [])) 24)) (x := newR (bv (sumL abcd)) 24) ra (show rc ≠ ra by omega)).trans h1
  have hcS := hcS.set rc (newR (bv (sumL abcd)) 24) (by omega)
  clear hr1 hr2 h1 h2
  dsimp only [newR] at h3 h4 hcS ⊢
  generalize List.set (List.set S5 ra _) rc _ = S6 at *
  repeat (first | refine W.seq ?_ | refine W.block ?_ | refine W.reg ?_ | refine W.skip ?_ | refine W.exit ?_ | refine W.ret ?_ | refine L.nil ?_ | refine L.p rfl rfl ?_ | refine L.skip rfl ?_)
  refine L.ld (a := ⟨_, 0, none⟩) (cell_of (o := 0) h4 (bv_get sum_nil.1)) rfl rfl rfl ?_
  repeat (first | refine W.seq ?_ | refine W.block ?_ | refine W.reg ?_ | refine W.skip ?_ | refine W.exit ?_ | refine W.ret ?_ | refine L.nil ?_ | refine L.p rfl rfl ?_ | refine L.skip rfl ?_)
  refine L.ld (a := ⟨_, 19, none⟩) (cell_of (o := 19) h4 (bv_get sum_nil.2)) rfl rfl rfl ?_
  repeat (first | refine W.seq ?_ | refine W.block ?_ | refine W.reg ?_ | refine W.skip ?_ | refine W.exit ?_ | refine W.ret ?_ | refine L.nil ?_ | refine L.p rfl rfl ?_ | refine L.skip rfl ?_)
  refine L.ld (a := ⟨_, 0, none⟩) (cell_of (o := 0) h3 (bv_get sum_abcd.1)) rfl rfl rfl ?_
  repeat (first | refine W.seq ?_ | refine W.block ?_ | refine W.reg ?_ | refine W.skip ?_ | refine W.exit ?_ | refine W.ret ?_ | refine L.nil ?_ | refine L.p rfl rfl ?_ | refine L.skip rfl ?_)
  refine L.ld (a := ⟨_, 1, none⟩) (cell_of (o := 1) h3 (bv_get sum_abcd.2.1)) rfl rfl rfl ?_
  repeat (first | refine W.seq ?_ | refine W.block ?_ | refine W.reg ?_ | refine W.skip ?_ | refine W.exit ?_ | refine W.ret ?_ | refine L.nil ?_ | refine L.p rfl rfl ?_ | refine L.skip rfl ?_)
  refine L.ld (a := ⟨_, 19, none⟩) (cell_of (o := 19) h3 (bv_get sum_abcd.2.2)) rfl rfl rfl ?_
  repeat (first | refine W.seq ?_ | refine W.block ?_ | refine W.reg ?_ | refine W.skip ?_ | refine W.exit ?_ | refine W.ret ?_ | refine L.nil ?_ | refine L.p rfl rfl ?_ | refine L.skip rfl ?_)
  refine W.ite rfl (fun h => ?_) (fun h => ?_)
  · cases h
  clear h h3 h4
  repeat (first | refine W.seq ?_ | refine W.block ?_ | refine W.reg ?_ | refine W.skip ?_ | refine W.exit ?_ | refine W.ret ?_ | refine L.nil ?_ | refine L.p rfl rfl ?_ | refine L.skip rfl ?_)
  refine L.mk (n := 200) (m := 200) (bytes := 1) (zv := v8 0#8) rfl rfl rfl rfl rfl (by decide) (by decide) rfl rfl ?_
  have hrm : Mem.row? (S6 ++ [newR (List.replicate 200 (v8 0#8)) 5]) S6.length = some (newR (List.replicate 200 (v8 0#8)) 5) := row_push_new rfl
  have hSm : S.length ≤ S6.length := hcS.len
  have hcS := hcS.trans (Cons.push S6 (newR (List.replicate 200 (v8 0#8)) 5))
  generalize S6 ++ [newR (List.replicate 200 (v8 0#8)) 5] = S7 at *
  obtain ⟨rm, hrm0⟩ : ∃ rm, rm = S6.length := ⟨_, rfl⟩
  rw [← hrm0] at hrm hSm ⊢
  clear hrm0
  repeat (first | refine W.seq ?_ | refine W.block ?_ | refine W.reg ?_ | refine W.skip ?_ | refine W.exit ?_ | refine W.ret ?_ | refine L.nil ?_ | refine L.p rfl rfl ?_ | refine L.skip rfl ?_)
  refine W.loop (fun j e S' => ∃ (i : Nat) (l : BL), j = 200 - i ∧ i ≤ 200 ∧ e 4 = .slice (some ⟨rm, 0, none⟩) 200 200 ∧ e 5 = vi i ∧ Cons S S' ∧ S'.row? rm = some (newR (bv l) 5) ∧ l.length = 200) 200
    ⟨0, List.replicate 200 0#8, by omega, by omega, rfl, rfl, hcS, by rw [hrm]; rfl, by simp⟩ ?_
  clear hcS hrm
  rintro j e S8 ⟨i, l, rfl, hi, e4, e5, hc8, hr8, hl8⟩
  refine W.env2 e4 e5 ?_
  repeat (first | refine W.seq ?_ | refine W.block ?_ | refine W.reg ?_ | refine W.skip ?_ | refine W.exit ?_ | refine W.ret ?_ | refine L.nil ?_ | refine L.p rfl rfl ?_ | refine L.skip rfl ?_)
  refine W.ite rfl (fun h => ?_) (fun h => ?_)
  · have hin : i < 200 := by simp at h; omega
    repeat (first | refine W.seq ?_ | refine W.block ?_ | refine W.reg ?_ | refine W.skip ?_ | refine W.exit ?_ | refine W.ret ?_ | refine L.nil ?_ | refine L.p rfl rfl ?_ | refine L.skip rfl ?_)
    refine L.elst hr8 rfl (by simp [newR, bv_len, hl8]) rfl hin rfl rfl rfl rfl (fun _ => rfl) (fun _ => rfl) rfl rfl rfl (fun p => ?_)
    repeat (first | refine W.seq ?_ | refine W.block ?_ | refine W.reg ?_ | refine W.skip ?_ | refine W.exit ?_ | refine W.ret ?_ | refine L.nil ?_ | refine L.p rfl rfl ?_ | refine L.skip rfl ?_)
    refine ⟨200 - (i + 1), by omega, i + 1, l.set i (BitVec.ofInt 8 (IntKind.i64.wrap (IntKind.i64.wrap ((i : Int) * 7) + 1))), rfl, by omega, rfl, ?_, hc8.set _ _ hSm, ?_, by simpa using hl8⟩
    · refine (force_eq rfl).trans ?_
      rw [wrap64 (by omega) (by omega)]; rfl
    · rw [row_set_same hr8 rfl, wrap_u8, Nat.zero_add]
      simp only [newR, bv, List.map_set]
  clear h hi
  rename Mem => S8
  have hm0 : Slv S8 1 (.slice (some ⟨rm, 0, none⟩) l.length 200) l.length (bv l) := Slv.all hr8 rfl (by rw [bv_len, Nat.mul_one])
  have hlt8 := row_lt hr8
  have hcap : 200 < UNK ∧ l.length ≤ 200 := ⟨by decide, by omega⟩
  repeat (first | refine W.seq ?_ | refine W.block ?_ | refine W.reg ?_ | refine W.skip ?_ | refine W.exit ?_ | refine W.ret ?_ | refine L.nil ?_ | refine L.p rfl rfl ?_ | refine L.skip rfl ?_)
  refine W.loop (fun j e S' => ∃ n : Nat, j = 201 - n ∧ n ≤ 201 ∧ e 4 = .slice (some ⟨rm, 0, none⟩) l.length 200 ∧ e 6 = vi n ∧ Cons S8 S') 201
    ⟨0, by omega, by omega, by rw [hl8]; rfl, rfl, Cons.refl _⟩ ?_
  rintro j e S9 ⟨n, rfl, hn, e4, e6, hc9⟩
  refine W.env2 e4 e6 ?_
  repeat (first | refine W.seq ?_ | refine W.block ?_ | refine W.reg ?_ | refine W.skip ?_ | refine W.exit ?_ | refine W.ret ?_ | refine L.nil ?_ | refine L.p rfl rfl ?_ | refine L.skip rfl ?_)
  refine W.ite rfl (fun h => ?_) (fun h => ?_)
  · have hnl : n ≤ l.length := by simp at h; omega
    clear h
    repeat (first | refine W.seq ?_ | refine W.block ?_ | refine W.reg ?_ | refine W.skip ?_ | refine W.exit ?_ | refine W.ret ?_ | refine L.nil ?_ | refine L.p rfl rfl ?_ | refine L.skip rfl ?_)
    obtain ⟨a1, c1, q1, s1, k1, f1⟩ := part_b (k := 0) (h := n) (lo := none) (hi := some (vi n)) (hm0.cons hc9) (.inl ⟨rfl, rfl⟩) (.inr ⟨.i64, rfl⟩) (by omega) (by omega) hcap
    refine L.is (.slice a1 ((l.drop 0).take (n - 0)).length c1) ?_ rfl ?_
    · rw [slice_at (a := some ⟨rm, 0, none⟩) (n := l.length) (c := 200) rfl rfl rfl (fun _ => by decide)]
      exact q1
    refine L.cl (sums_C _ _ _ S9 s1) rfl rfl ?_
    rintro _ S10 ⟨rfl, hc10⟩
    refine ⟨nofun, ?_⟩
    repeat (first | refine W.seq ?_ | refine W.block ?_ | refine W.reg ?_ | refine W.skip ?_ | refine W.exit ?_ | refine W.ret ?_ | refine L.nil ?_ | refine L.p rfl rfl ?_ | refine L.skip rfl ?_)
    rw [u64_nat (by omega)]
    refine L.cl (pads_C _ S10) rfl rfl ?_
    rintro _ S11 ⟨rfl, hc11⟩
    refine ⟨nofun, ?_⟩
    repeat (first | refine W.seq ?_ | refine W.block ?_ | refine W.reg ?_ | refine W.skip ?_ | refine W.exit ?_ | refine W.ret ?_ | refine L.nil ?_ | refine L.p rfl rfl ?_ | refine L.skip rfl ?_)
    rw [u64_nat (by omega)]
    refine L.cl (fills_C _ S11) rfl rfl ?_
    rintro _ S12 ⟨rfl, hc12⟩
    refine ⟨nofun, ?_⟩
    repeat (first | refine W.seq ?_ | refine W.block ?_ | refine W.reg ?_ | refine W.skip ?_ | refine W.exit ?_ | refine W.ret ?_ | refine L.nil ?_ | refine L.p rfl rfl ?_ | refine L.skip rfl ?_)
    refine W.ite rfl (fun h => ?_) (fun h => ?_)
    · cases h
    repeat (first | refine W.seq ?_ | refine W.block ?_ | refine W.reg ?_ | refine W.skip ?_ | refine W.exit ?_ | refine W.ret ?_ | refine L.nil ?_ | refine L.p rfl rfl ?_ | refine L.skip rfl ?_)
    refine ⟨201 - (n + 1), by omega, n + 1, rfl, by omega, rfl, ?_, ((hc9.trans hc10).trans hc11).trans hc12⟩
    refine (force_eq rfl).trans ?_
    rw [wrap64 (by omega) (by omega)]; rfl
  clear h hn
  rename Mem => S9
  repeat (first | refine W.seq ?_ | refine W.block ?_ | refine W.reg ?_ | refine W.skip ?_ | refine W.exit ?_ | refine W.ret ?_ | refine L.nil ?_ | refine L.p rfl rfl ?_ | refine L.skip rfl ?_)
  refine W.loop (fun j e S' => ∃ i : Nat, j = 140 - i ∧ 50 ≤ i ∧ i ≤ 140 ∧ e 4 = .slice (some ⟨rm, 0, none⟩) l.length 200 ∧ e 7 = vi i ∧ Cons S8 S') 90
    ⟨50, by omega, by omega, by omega, rfl, rfl, hc9⟩ ?_
  clear hc9
  rintro j e S10 ⟨i, rfl, hi0, hi, e4, e7, hc10⟩
  refine W.env2 e4 e7 ?_
  repeat (first | refine W.seq ?_ | refine W.block ?_ | refine W.reg ?_ | refine W.skip ?_ | refine W.exit ?_ | refine W.ret ?_ | refine L.nil ?_ | refine L.p rfl rfl ?_ | refine L.skip rfl ?_)
  refine W.ite rfl (fun h => ?_) (fun h => ?_)
  · have hin : i < 140 := by simp at h; omega
    clear h
    repeat (first | refine W.seq ?_ | refine W.block ?_ | refine W.reg ?_ | refine W.skip ?_ | refine W.exit ?_ | refine W.ret ?_ | refine L.nil ?_ | refine L.p rfl rfl ?_ | refine L.skip rfl ?_)
    refine L.cl (cuts_C l _ _ (i : Int) 128 S10 (hm0.cons hc10) hcap (by rintro x ⟨⟩; show rm < S10.length; have := hc10.len; omega)) rfl rfl ?_
    rintro _ S11 ⟨rfl, hc11⟩
    refine ⟨fun _ => hc11, ?_⟩
    have hc8' := hc10.trans hc11
    repeat (first | refine W.seq ?_ | refine W.block ?_ | refine W.reg ?_ | refine W.skip ?_ | refine W.exit ?_ | refine W.ret ?_ | refine L.nil ?_ | refine L.p rfl rfl ?_ | refine L.skip rfl ?_)
    obtain ⟨a1, c1, q1, s1, k1, f1⟩ := part_b (k := 0) (h := i) (lo := none) (hi := some (vi i)) (hm0.cons hc8') (.inl ⟨rfl, rfl⟩) (.inr ⟨.i64, rfl⟩) (by omega) (by omega) hcap
    obtain ⟨a2, c2, q2, s2, k2, f2⟩ := part_b (k := i) (h := l.length) (lo := some (vi i)) (hi := none) (hm0.cons hc8') (.inr ⟨.i64, rfl⟩) (.inl ⟨rfl, rfl⟩) (by omega) (Nat.le_refl _) hcap
    refine L.is (.slice a1 ((l.drop 0).take (i - 0)).length c1) ?_ rfl ?_
    · rw [slice_at (a := some ⟨rm, 0, none⟩) (n := l.length) (c := 200) rfl rfl rfl (fun _ => by decide)]
      exact q1
    repeat (first | refine W.seq ?_ | refine W.block ?_ | refine W.reg ?_ | refine W.skip ?_ | refine W.exit ?_ | refine W.ret ?_ | refine L.nil ?_ | refine L.p rfl rfl ?_ | refine L.skip rfl ?_)
    refine L.bd #[.int .i64 0, (.slice a1 ((l.drop 0).take (i - 0)).length c1)] rfl rfl rfl rfl rfl ?_
    repeat (first | refine W.seq ?_ | refine W.block ?_ | refine W.reg ?_ | refine W.skip ?_ | refine W.exit ?_ | refine W.ret ?_ | refine L.nil ?_ | refine L.p rfl rfl ?_ | refine L.skip rfl ?_)
    refine L.bd #[.int .i64 1, .slice none 0 0] rfl rfl rfl rfl rfl ?_
    repeat (first | refine W.seq ?_ | refine W.block ?_ | refine W.reg ?_ | refine W.skip ?_ | refine W.exit ?_ | refine W.ret ?_ | refine L.nil ?_ | refine L.p rfl rfl ?_ | refine L.skip rfl ?_)
    refine L.bd #[.int .i64 3, .slice none 0 0] rfl rfl rfl rfl rfl ?_
    repeat (first | refine W.seq ?_ | refine W.block ?_ | refine W.reg ?_ | refine W.skip ?_ | refine W.exit ?_ | refine W.ret ?_ | refine L.nil ?_ | refine L.p rfl rfl ?_ | refine L.skip rfl ?_)
    refine L.is (.slice a2 ((l.drop i).take (l.length - i)).length c2) ?_ rfl ?_
    · rw [slice_at (a := some ⟨rm, 0, none⟩) (n := l.length) (c := 200) rfl rfl rfl (fun _ => by decide)]
      exact q2
    repeat (first | refine W.seq ?_ | refine W.block ?_ | refine W.reg ?_ | refine W.skip ?_ | refine W.exit ?_ | refine W.ret ?_ | refine L.nil ?_ | refine L.p rfl rfl ?_ | refine L.skip rfl ?_)
    refine L.bd #[.int .i64 0, (.slice a2 ((l.drop i).take (l.length - i)).length c2)] rfl rfl rfl rfl rfl ?_
    repeat (first | refine W.seq ?_ | refine W.block ?_ | refine W.reg ?_ | refine W.skip ?_ | refine W.exit ?_ | refine W.ret ?_ | refine L.nil ?_ | refine L.p rfl rfl ?_ | refine L.skip rfl ?_)
    refine L.bd #[.int .i64 3, .slice none 0 0] rfl rfl rfl rfl rfl ?_
    repeat (first | refine W.seq ?_ | refine W.block ?_ | refine W.reg ?_ | refine W.skip ?_ | refine W.exit ?_ | refine W.ret ?_ | refine L.nil ?_ | refine L.p rfl rfl ?_ | refine L.skip rfl ?_)
    refine L.is (.slice a1 ((l.drop 0).take (i - 0)).length c1) ?_ rfl ?_
    · rw [slice_at (a := some ⟨rm, 0, none⟩) (n := l.length) (c := 200) rfl rfl rfl (fun _ => by decide)]
      exact q1
    repeat (first | refine W.seq ?_ | refine W.block ?_ | refine W.reg ?_ | refine W.skip ?_ | refine W.exit ?_ | refine W.ret ?_ | refine L.nil ?_ | refine L.p rfl rfl ?_ | refine L.skip rfl ?_)
    refine L.bd #[.int .i64 0, (.slice a1 ((l.drop 0).take (i - 0)).length c1)] rfl rfl rfl rfl rfl ?_
    repeat (first | refine W.seq ?_ | refine W.block ?_ | refine W.reg ?_ | refine W.skip ?_ | refine W.exit ?_ | refine W.ret ?_ | refine L.nil ?_ | refine L.p rfl rfl ?_ | refine L.skip rfl ?_)
    refine L.bd #[.int .i64 1, .slice none 0 0] rfl rfl rfl rfl rfl ?_
    repeat (first | refine W.seq ?_ | refine W.block ?_ | refine W.reg ?_ | refine W.skip ?_ | refine W.exit ?_ | refine W.ret ?_ | refine L.nil ?_ | refine L.p rfl rfl ?_ | refine L.skip rfl ?_)
    refine L.bd #[.int .i64 2, .slice none 0 0] rfl rfl rfl rfl rfl ?_
    repeat (first | refine W.seq ?_ | refine W.block ?_ | refine W.reg ?_ | refine W.skip ?_ | refine W.exit ?_ | refine W.ret ?_ | refine L.nil ?_ | refine L.p rfl rfl ?_ | refine L.skip rfl ?_)
    refine L.bd #[.int .i64 1, .slice none 0 0] rfl rfl rfl rfl rfl ?_
    repeat (first | refine W.seq ?_ | refine W.block ?_ | refine W.reg ?_ | refine W.skip ?_ | refine W.exit ?_ | refine W.ret ?_ | refine L.nil ?_ | refine L.p rfl rfl ?_ | refine L.skip rfl ?_)
    refine L.bd #[.int .i64 0, (.slice (some ⟨rm, 0, none⟩) l.length 200)] rfl rfl rfl rfl rfl ?_
    repeat (first | refine W.seq ?_ | refine W.block ?_ | refine W.reg ?_ | refine W.skip ?_ | refine W.exit ?_ | refine W.ret ?_ | refine L.nil ?_ | refine L.p rfl rfl ?_ | refine L.skip rfl ?_)
    obtain ⟨ss, hss⟩ : ∃ ss : List SStep, ss = [⟨0, a1, c1, (l.drop 0).take (i - 0)⟩, ⟨1, none, 0, []⟩, ⟨3, none, 0, []⟩, ⟨0, a2, c2, (l.drop i).take (l.length - i)⟩, ⟨3, none, 0, []⟩, ⟨0, a1, c1, (l.drop 0).take (i - 0)⟩, ⟨1, none, 0, []⟩, ⟨2, none, 0, []⟩, ⟨1, none, 0, []⟩, ⟨0, some ⟨rm, 0, none⟩, 200, l⟩] := ⟨_, rfl⟩
    refine L.bsN (ss.map fun s => .agg s.cells.toArray) rfl (by rw [hss]; rfl) rfl rfl (by rw [hss]; rfl) (fun w hw => by obtain ⟨s, _, rfl⟩ := List.mem_map.1 hw; rfl) rfl ?_
    rw [show ((ss.map fun s => Value.agg s.cells.toArray).flatMap fun w => w.cells.toList) = ss.flatMap SStep.cells by rw [List.flatMap_map]; rfl]
    have hlen : ss.length = 10 := by rw [hss]; rfl
    have hp11 : Cons S11 (S11 ++ [newR (ss.flatMap SStep.cells) 33]) := Cons.push _ _
    have hlt11 := hc8'.len
    have hSt : StepsIn (S11 ++ [newR (ss.flatMap SStep.cells) 33]) (.slice (some ⟨S11.length, 0, none⟩) ss.length 10) ss := by
      refine ⟨Slv.all (row_push_new rfl) rfl ?_, fun s hs => ?_⟩
      · rw [hss]; rfl
      · have hn : ∀ k, s = ⟨k, none, 0, []⟩ → Slv (S11 ++ [newR (ss.flatMap SStep.cells) 33]) 1 (.slice s.a s.l.length s.c) s.l.length (bv s.l) ∧ Cut s.l.length s.c ∧ ∀ x, s.a = some x → x.block < List.length (S11 ++ [newR (ss.flatMap SStep.cells) 33]) := by
          rintro k rfl; exact ⟨Slv.nil _ _ _ _, .of (Nat.zero_le _), nofun⟩
        have hn1 : s = ⟨0, a1, c1, (l.drop 0).take (i - 0)⟩ → Slv (S11 ++ [newR (ss.flatMap SStep.cells) 33]) 1 (.slice s.a s.l.length s.c) s.l.length (bv s.l) ∧ Cut s.l.length s.c ∧ ∀ x, s.a = some x → x.block < List.length (S11 ++ [newR (ss.flatMap SStep.cells) 33]) := by
          rintro rfl
          refine ⟨s1.cons hp11, k1, fun x hx => ?_⟩
          obtain ⟨y, hy, hyb⟩ := f1 x hx
          cases hy; rw [← hyb, List.length_append]; show rm < _; omega
        have hn2 : s = ⟨0, a2, c2, (l.drop i).take (l.length - i)⟩ → Slv (S11 ++ [newR (ss.flatMap SStep.cells) 33]) 1 (.slice s.a s.l.length s.c) s.l.length (bv s.l) ∧ Cut s.l.length s.c ∧ ∀ x, s.a = some x → x.block < List.length (S11 ++ [newR (ss.flatMap SStep.cells) 33]) := by
          rintro rfl
          refine ⟨s2.cons hp11, k2, fun x hx => ?_⟩
          obtain ⟨y, hy, hyb⟩ := f2 x hx
          cases hy; rw [← hyb, List.length_append]; show rm < _; omega
        have hn3 : s = ⟨0, some ⟨rm, 0, none⟩, 200, l⟩ → Slv (S11 ++ [newR (ss.flatMap SStep.cells) 33]) 1 (.slice s.a s.l.length s.c) s.l.length (bv s.l) ∧ Cut s.l.length s.c ∧ ∀ x, s.a = some x → x.block < List.length (S11 ++ [newR (ss.flatMap SStep.cells) 33]) := by
          rintro rfl
          refine ⟨(hm0.cons hc8').cons hp11, .inl hcap, fun x hx => ?_⟩
          cases hx; rw [List.length_append]; show rm < _; omega
        rw [hss] at hs
        simp only [List.mem_cons, List.not_mem_nil, or_false] at hs
        rcases hs with h | h | h | h | h | h | h | h | h | h <;> first | exact hn _ h | exact hn1 h | exact hn2 h | exact hn3 h
    have hc12 := hc8'.trans hp11
    rw [hlen] at hSt
    clear hss
    generalize S11 ++ [newR (ss.flatMap SStep.cells) 33] = S12 at *
    refine L.cl (pieces_C _ ss S12 hSt) rfl rfl ?_
    rintro _ S13 ⟨rfl, hc13⟩
    refine ⟨fun _ => hc13, ?_⟩
    repeat (first | refine W.seq ?_ | refine W.block ?_ | refine W.reg ?_ | refine W.skip ?_ | refine W.exit ?_ | refine W.ret ?_ | refine L.nil ?_ | refine L.p rfl rfl ?_ | refine L.skip rfl ?_)
    refine W.ite rfl (fun h => ?_) (fun h => ?_)
    · cases h
    repeat (first | refine W.seq ?_ | refine W.block ?_ | refine W.reg ?_ | refine W.skip ?_ | refine W.exit ?_ | refine W.ret ?_ | refine L.nil ?_ | refine L.p rfl rfl ?_ | refine L.skip rfl ?_)
    refine ⟨140 - (i + 1), by omega, i + 1, rfl, by omega, by omega, rfl, ?_, hc12.trans hc13⟩
    refine (force_eq rfl).trans ?_
    rw [wrap64 (by omega) (by omega)]; rfl
  clear h hi0 hi
  rename Mem => S10
  obtain ⟨ks, hks⟩ : ∃ ks : List (BitVec 64), ks = [4294967295#64, 4294967296#64, 2305843009213693951#64, 2305843009213693952#64, 2305843009213694007#64, 2305843009213694008#64, 9223372036854775807#64, 9223372036854775808#64, 18446744073709551615#64, 18446744073709551607#64] := ⟨_, rfl⟩
  repeat (first | refine W.seq ?_ | refine W.block ?_ | refine W.reg ?_ | refine W.skip ?_ | refine W.exit ?_ | refine W.ret ?_ | refine L.nil ?_ | refine L.p rfl rfl ?_ | refine L.skip rfl ?_)
  refine L.bs (ks.map v64) rfl (by rw [hks]; rfl) rfl (by rw [hks]; rfl) (by rw [hks]; rfl) rfl ?_
  have hk10 : ks.length = 10 := by rw [hks]; rfl
  have hsl : Slv (S10 ++ [newR (ks.map v64) 36]) 1 (.slice (some ⟨S10.length, 0, none⟩) 10 10) 10 (ks.map v64) := Slv.all (row_push_new rfl) rfl (by simp [hk10])
  have hcS := (hc8.trans hc10).trans (Cons.push S10 (newR (ks.map v64) 36))
  generalize S10 ++ [newR (ks.map v64) 36] = S11 at *
  generalize S10.length = rk at *
  clear hks
  repeat (first | refine W.seq ?_ | refine W.block ?_ | refine W.reg ?_ | refine W.skip ?_ | refine W.exit ?_ | refine W.ret ?_ | refine L.nil ?_ | refine L.p rfl rfl ?_ | refine L.skip rfl ?_)
  refine W.loop (fun j e S' => ∃ i : Nat, j = 10 - i ∧ i ≤ 10 ∧ e 107 = .slice (some ⟨rk, 0, none⟩) 10 10 ∧ e 108 = vi 10 ∧ e 109 = vi i ∧ Cons S11 S') 10
    ⟨0, by omega, by omega, rfl, rfl, rfl, Cons.refl _⟩ ?_
  rintro j e S12 ⟨i, rfl, hi, e1, e2, e3, hc12⟩
  refine W.env3 e1 e2 e3 ?_
  repeat (first | refine W.seq ?_ | refine W.block ?_ | refine W.reg ?_ | refine W.skip ?_ | refine W.exit ?_ | refine W.ret ?_ | refine L.nil ?_ | refine L.p rfl rfl ?_ | refine L.skip rfl ?_)
  refine W.ite rfl (fun h => ?_) (fun h => ?_)
  · have hin : i < 10 := by simp at h; omega
    obtain ⟨x, hx⟩ : ∃ x, ks[i]? = some x := ⟨_, List.getElem?_eq_getElem (by omega)⟩
    clear h
    repeat (first | refine W.seq ?_ | refine W.block ?_ | refine W.reg ?_ | refine W.skip ?_ | refine W.exit ?_ | refine W.ret ?_ | refine L.nil ?_ | refine L.p rfl rfl ?_ | refine L.skip rfl ?_)
    refine L.el (hsl.cons hc12) rfl (by rw [List.getElem?_map, hx]; rfl : (ks.map v64)[i]? = some (v64 x)) rfl rfl rfl rfl (fun _ => rfl) rfl (fun p => ?_)
    repeat (first | refine W.seq ?_ | refine W.block ?_ | refine W.reg ?_ | refine W.skip ?_ | refine W.exit ?_ | refine W.ret ?_ | refine L.nil ?_ | refine L.p rfl rfl ?_ | refine L.skip rfl ?_)
    refine L.cl (pads_C x S12) rfl rfl ?_
    rintro _ S13 ⟨rfl, hc13⟩
    refine ⟨nofun, ?_⟩
    repeat (first | refine W.seq ?_ | refine W.block ?_ | refine W.reg ?_ | refine W.skip ?_ | refine W.exit ?_ | refine W.ret ?_ | refine L.nil ?_ | refine L.p rfl rfl ?_ | refine L.skip rfl ?_)
    refine L.cl (fills_C x S13) rfl rfl ?_
    rintro _ S14 ⟨rfl, hc14⟩
    refine ⟨nofun, ?_⟩
    repeat (first | refine W.seq ?_ | refine W.block ?_ | refine W.reg ?_ | refine W.skip ?_ | refine W.exit ?_ | refine W.ret ?_ | refine L.nil ?_ | refine L.p rfl rfl ?_ | refine L.skip rfl ?_)
    refine W.ite rfl (fun h => ?_) (fun h => ?_)
    · cases h
    repeat (first | refine W.seq ?_ | refine W.block ?_ | refine W.reg ?_ | refine W.skip ?_ | refine W.exit ?_ | refine W.ret ?_ | refine L.nil ?_ | refine L.p rfl rfl ?_ | refine L.skip rfl ?_)
    refine ⟨10 - (i + 1), by omega, i + 1, rfl, by omega, rfl, rfl, ?_, (hc12.trans hc13).trans hc14⟩
    refine (force_eq rfl).trans ?_
    rw [wrap64 (by omega) (by omega)]; rfl
  repeat (first | refine W.seq ?_ | refine W.block ?_ | refine W.reg ?_ | refine W.skip ?_ | refine W.exit ?_ | refine W.ret ?_ | refine L.nil ?_ | refine L.p rfl rfl ?_ | refine L.skip rfl ?_)
  refine L.cl (works_C _) rfl rfl ?_
  rintro _ S13 ⟨rfl, hc13⟩
  refine ⟨nofun, ?_⟩
  repeat (first | refine W.seq ?_ | refine W.block ?_ | refine W.reg ?_ | refine W.skip ?_ | refine W.exit ?_ | refine W.ret ?_ | refine L.nil ?_ | refine L.p rfl rfl ?_ | refine L.skip rfl ?_)
  exact ⟨.inr rfl, _, rfl, rfl, (hcS.trans hc12).trans hc13⟩
end Go.Proofs.Yteadbbimikcmgaa
