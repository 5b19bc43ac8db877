/- The law of sums, walked. Conditions: none. -/
import Derived.Test.YteadbbimikcmgaaShaJ
set_option linter.unusedSimpArgs false
set_option linter.unusedVariables false
set_option maxRecDepth 100000
set_option maxHeartbeats 4000000
namespace Go.Proofs.Yteadbbimikcmgaa
open Go
variable {G : Nat} {Ext : FuncId → List Value → Mem → Outc → Mem → Prop}

theorem slv_lent {S : Mem} {b : Nat} {l x : BL} {el : TypeId} (c : Nat) (h : S.row? b = some (grownR (bv (l ++ x)) el 1)) : Slv S 1 (.slice (some ⟨b, 0, none⟩) l.length c) l.length (bv l) := by
  have := Slv.of (sz := 1) (n := l.length) (o := 0) (c := c) h (by simp [grownR, bv_len]) (.inl rfl)
  rwa [show ((grownR (bv (l ++ x)) el 1).cells.drop 0).take (l.length * 1) = bv l by
    show ((bv (l ++ x)).drop 0).take _ = _
    rw [List.drop_zero, Nat.mul_one, bv_app, List.take_append_of_le_length (by rw [bv_len]; exact Nat.le_refl _), List.take_of_length_le (by rw [bv_len]; exact Nat.le_refl _)]] at this
theorem bytes_of (zs : List Int) (len : Nat) (hwf : ∀ n ∈ zs, (Lit.int .u8 n).wf = true) (hl : (zs.take len).length = len) : ∃ l : BL, l.length = len ∧ bv l = (zs.take len).map (Value.int .u8) := by
  refine ⟨(zs.take len).map (BitVec.ofInt 8), by rw [List.length_map, hl], ?_⟩
  unfold bv
  rw [List.map_map]
  refine List.map_congr_left fun n hn => ?_
  have h := hwf n (List.mem_of_mem_take hn)
  have hx : 0 ≤ n ∧ n ≤ 255 := by simpa [Lit.wf, IntKind.min, IntKind.max, IntKind.signed, IntKind.bits] using h
  show v8 (BitVec.ofInt 8 n) = _
  rw [v8, ← wrap_u8, wrapU8 (by omega) (by omega)]
theorem sums_C (l : BL) (a : Option Addr) (c : Nat) (S : Mem) (hs : Slv S 1 (.slice a l.length c) l.length (bv l)) :
    C Try.prog G Ext 3 [.slice a l.length c] S fun v S' => v = .bool true ∧ Cons S S' := by
  refine C.fn Try.func3 rfl (by kernel_rfl) rfl ?_
  repeat (first | refine W.seq ?_ | refine W.block ?_ | refine W.reg ?_ | refine W.skip ?_ | refine W.exit ?_ | refine W.ret ?_ | refine L.nil ?_ | refine L.p rfl rfl ?_ | refine L.skip rfl ?_)
  refine W.ite rfl (fun h => ?_) (fun h => ?_)
  · repeat (first | refine W.seq ?_ | refine W.block ?_ | refine W.reg ?_ | refine W.skip ?_ | refine W.exit ?_ | refine W.ret ?_ | refine L.nil ?_ | refine L.p rfl rfl ?_ | refine L.skip rfl ?_)
    exact ⟨.inr rfl, _, rfl, rfl, Cons.refl _⟩
  have hl : l.length ≤ 16384 := by simp at h; omega
  repeat (first | refine W.seq ?_ | refine W.block ?_ | refine W.reg ?_ | refine W.skip ?_ | refine W.exit ?_ | refine W.ret ?_ | refine L.nil ?_ | refine L.p rfl rfl ?_ | refine L.skip rfl ?_)
  refine L.cl (lent_C _ l S hs (by omega)) rfl rfl ?_
  rintro _ M1 ⟨hc1, b, hb, rfl, hr1⟩
  refine ⟨nofun, ?_⟩
  repeat (first | refine W.seq ?_ | refine W.block ?_ | refine W.reg ?_ | refine W.skip ?_ | refine W.exit ?_ | refine W.ret ?_ | refine L.nil ?_ | refine L.p rfl rfl ?_ | refine L.skip rfl ?_)
  refine L.cl (refsum_C l a c M1 (hs.cons hc1) (by omega)) rfl rfl ?_
  rintro _ M2 ⟨rfl, hc2⟩
  refine ⟨nofun, ?_⟩
  refine L.eff (v := .pointer (some ⟨M2.length, 0, none⟩)) (S1 := M2 ++ [newR (bv (List.replicate 20 0#8)) 24]) rfl rfl ?_
  refine L.st (ad := ⟨M2.length, 0, none⟩) (vs := bv (sumL l)) (write_of (o := 0) (row_push_new rfl) rfl (by simp [newR, bv_len, sumL_len]) (bv_one _)) rfl rfl rfl (by simp [bv_len, sumL_len]; rfl) ?_
  rw [set_push, put20 (by simp) (sumL_len _)]
  have hg : (M2 ++ [{ newR (bv (List.replicate 20 0#8)) 24 with cells := bv (sumL l) }]) = M2 ++ [newR (bv (sumL l)) 24] := rfl
  rw [hg]
  have h23 : Cons M2 (M2 ++ [newR (bv (sumL l)) 24]) := Cons.push _ _
  have hw3 : Mem.row? (M2 ++ [newR (bv (sumL l)) 24]) M2.length = some (newR (bv (sumL l)) 24) := row_push_new rfl
  have hr3 := (hc2.trans h23).row' hr1
  have hc3 := (hc1.trans hc2).trans h23
  clear hg h23 hr1 hc1 hc2
  generalize M2 ++ [newR (bv (sumL l)) 24] = M3 at *
  generalize M2.length = rw at *
  have hcut : Cut l.length (UNK + (l.length + 16)) := .inr ⟨by omega, by rw [knownCap_unk]; omega⟩
  repeat (first | refine W.seq ?_ | refine W.block ?_ | refine W.reg ?_ | refine W.skip ?_ | refine W.exit ?_ | refine W.ret ?_ | refine L.nil ?_ | refine L.p rfl rfl ?_ | refine L.skip rfl ?_)
  refine L.cl (sum_C l _ _ M3 (slv_lent _ hr3) hcut (by omega)) rfl rfl ?_
  rintro _ M4 ⟨rfl, hc4⟩
  refine ⟨fun _ => hc4, ?_⟩
  refine L.ldA (a := ⟨rw, 0, none⟩) (load20 (hc4.row' hw3) (sumL_len _)) rfl rfl rfl ?_
  refine L.eq20 rfl rfl (sumL_len _) (sumL_len _) rfl ?_
  rw [show (sumL l == sumL l) = true from beq_self_eq_true _]
  repeat (first | refine W.seq ?_ | refine W.block ?_ | refine W.reg ?_ | refine W.skip ?_ | refine W.exit ?_ | refine W.ret ?_ | refine L.nil ?_ | refine L.p rfl rfl ?_ | refine L.skip rfl ?_)
  refine L.cl (sum_C l _ _ M4 (slv_lent _ (hc4.row' hr3)) hcut (by omega)) rfl rfl ?_
  rintro _ M5 ⟨rfl, hc5⟩
  refine ⟨fun _ => hc5, ?_⟩
  have hc45 := hc4.trans hc5
  refine L.ldA (a := ⟨rw, 0, none⟩) (load20 (hc45.row' hw3) (sumL_len _)) rfl rfl rfl ?_
  refine L.eq20 rfl rfl (sumL_len _) (sumL_len _) rfl ?_
  rw [show (sumL l == sumL l) = true from beq_self_eq_true _]
  repeat (first | refine W.seq ?_ | refine W.block ?_ | refine W.reg ?_ | refine W.skip ?_ | refine W.exit ?_ | refine W.ret ?_ | refine L.nil ?_ | refine L.p rfl rfl ?_ | refine L.skip rfl ?_)
  refine L.cl (kept_C _ l b _ M5 (hc45.row' hr3) rfl rfl (hs.cons (hc3.trans hc45)) (by omega)) rfl rfl ?_
  rintro _ _ ⟨rfl, rfl⟩
  refine ⟨fun _ => Cons.refl _, ?_⟩
  repeat (first | refine W.seq ?_ | refine W.block ?_ | refine W.reg ?_ | refine W.skip ?_ | refine W.exit ?_ | refine W.ret ?_ | refine L.nil ?_ | refine L.p rfl rfl ?_ | refine L.skip rfl ?_)
  refine L.cl (works_C _) rfl rfl ?_
  rintro _ M6 ⟨rfl, hc6⟩
  refine ⟨fun _ => hc6, ?_⟩
  repeat (first | refine W.seq ?_ | refine W.block ?_ | refine W.reg ?_ | refine W.skip ?_ | refine W.exit ?_ | refine W.ret ?_ | refine L.nil ?_ | refine L.p rfl rfl ?_ | refine L.skip rfl ?_)
  exact ⟨.inr rfl, _, rfl, rfl, (hc3.trans hc45).trans hc6⟩
end Go.Proofs.Yteadbbimikcmgaa
