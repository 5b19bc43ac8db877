/- The short calls that stand in each statement; the law of sums. Conditions: none. -/
import Derived.Test.YteadbbimikcmgaaShaI
import Derived.Test.YteadbbimikcmgaaEq
set_option linter.unusedSimpArgs false
set_option linter.unusedVariables false
set_option maxRecDepth 100000
set_option maxHeartbeats 4000000
namespace Go.Proofs.Yteadbbimikcmgaa
open Go
variable {G : Nat} {Ext : FuncId → List Value → Mem → Outc → Mem → Prop}

def ints (l : BL) : List Int := l.map fun x => (x.toNat : Int)
theorem bv_ints (l : BL) : bv l = (ints l).map (Value.int .u8) := by simp [bv, ints]
theorem ints_beq (l m : BL) : (ints l == ints m) = (l == m) := by
  rw [Bool.eq_iff_iff, beq_iff_eq, beq_iff_eq]
  refine ⟨fun h => ?_, fun h => by rw [h]⟩
  unfold ints at h
  refine (List.map_inj_right ?_).1 h
  intro x y hxy
  exact BitVec.eq_of_toNat_eq (by omega)
section
variable {G : Nat} {Ext : FuncId → List Value → Mem → Outc → Mem → Prop} {e : Env} {S : Mem} {fl : Bool} {ops : Array Oper} {K : Env → Mem → Prop}
variable {rest : List Oper} {dst : Option Tmp} {ty : TypeId} {pos : String} {af : Array Edge} {gd : Option (Nat × Bool)}
theorem L.eq20 {x y : Operand} {yt : TypeId} {l m : BL} (hx : e.eval x = .agg (bv l).toArray) (hy : e.eval y = .agg (bv m).toArray) (hl : l.length = 20) (hm : m.length = 20) (hw : awanted ops ⟨dst, .binOp .eql 24 x y yt, ty, pos, af, gd⟩ e = true)
    (h : L Try.prog G Ext fl ops rest (e.put dst (.bool (l == m))) S K) : L Try.prog G Ext fl ops (⟨dst, .binOp .eql 24 x y yt, ty, pos, af, gd⟩ :: rest) e S K := by
  refine L.pure hw ?_ h
  have := apure_eqA (P := Try.prog) (t := 24) (el := 5) (yt := yt) (n := 20) (k := .u8) (k' := .u8) (dst := dst) (ty := ty) (pos := pos) (af := af) (gd := gd) (l := ints l) (m := ints m) (ev := e.eval) (x := x) (y := y) (.inl rfl) rfl rfl rfl rfl (by simp [ints, hl]) (by simp [ints, hm]) (by kernel_rfl) (by rw [← bv_ints]; exact hx) (by rw [← bv_ints]; exact hy)
  rw [this, ints_beq]; rfl
theorem L.ne20 {x y : Operand} {yt : TypeId} {l m : BL} (hx : e.eval x = .agg (bv l).toArray) (hy : e.eval y = .agg (bv m).toArray) (hl : l.length = 20) (hm : m.length = 20) (hw : awanted ops ⟨dst, .binOp .neq 24 x y yt, ty, pos, af, gd⟩ e = true)
    (h : L Try.prog G Ext fl ops rest (e.put dst (.bool (!(l == m)))) S K) : L Try.prog G Ext fl ops (⟨dst, .binOp .neq 24 x y yt, ty, pos, af, gd⟩ :: rest) e S K := by
  refine L.pure hw ?_ h
  have := apure_eqA (P := Try.prog) (t := 24) (el := 5) (yt := yt) (n := 20) (k := .u8) (k' := .u8) (dst := dst) (ty := ty) (pos := pos) (af := af) (gd := gd) (l := ints l) (m := ints m) (ev := e.eval) (x := x) (y := y) (.inr rfl) rfl rfl rfl rfl (by simp [ints, hl]) (by simp [ints, hm]) (by kernel_rfl) (by rw [← bv_ints]; exact hx) (by rw [← bv_ints]; exact hy)
  rw [this, ints_beq]; rfl
end
theorem sumL_len (l : BL) : (sumL l).length = 20 := dig_len _
def abc : BL := [0x61#8, 0x62#8, 0x63#8]
def abcSum : BL := [0xa9#8, 0x99#8, 0x3e#8, 0x36#8, 0x47#8, 0x06#8, 0x81#8, 0x6a#8, 0xba#8, 0x3e#8, 0x25#8, 0x71#8, 0x78#8, 0x50#8, 0xc2#8, 0x6c#8, 0x9c#8, 0xd0#8, 0xd8#8, 0x9d#8]
theorem abc_sum : sumL abc = abcSum := by kernel_rfl
theorem a_sum : (sumL [0x61#8] == abcSum) = false := by kernel_rfl
theorem load20 {S : Mem} {b : Nat} {l : BL} (h : S.row? b = some (newR (bv l) 24)) (hl : l.length = 20) : S.cellsAt ⟨b, 0, none⟩ 20 = some (bv l) := by
  refine (cellsAt_of (o := 0) (n := 20) h (by simp [newR, bv_len, hl])).trans ?_
  rw [List.drop_zero, List.take_of_length_le (by simp [newR, bv_len, hl])]; rfl
theorem put20 {l m : BL} (hl : l.length = 20) (hm : m.length = 20) : putFrom (newR (bv l) 24).cells 0 (bv m) = bv m := by
  unfold putFrom
  rw [List.drop_eq_nil_of_le (by simp [newR, bv_len, hl, hm])]
  simp
theorem works_C (S : Mem) : C Try.prog G Ext 13 [] S fun v S' => v = .bool true ∧ Cons S S' := by
  refine C.fn Try.func13 rfl (by kernel_rfl) rfl ?_
  repeat (first | refine W.seq ?_ | refine W.block ?_ | refine W.reg ?_ | refine W.skip ?_ | refine W.exit ?_ | refine W.ret ?_ | refine L.nil ?_ | refine L.p rfl rfl ?_ | refine L.skip rfl ?_)
  refine L.bd (bv abcSum).toArray rfl rfl rfl rfl rfl ?_
  refine L.eff (v := .pointer (some ⟨S.length, 0, none⟩)) (S1 := S ++ [newR (bv (List.replicate 20 0#8)) 24]) rfl rfl ?_
  refine L.st (ad := ⟨S.length, 0, none⟩) (vs := bv abcSum) (write_of (o := 0) (row_push_new rfl) rfl (by decide) (bv_one _)) rfl rfl rfl rfl ?_
  rw [set_push]
  have hg : (S ++ [{ newR (bv (List.replicate 20 0#8)) 24 with cells := putFrom (newR (bv (List.replicate 20 0#8)) 24).cells 0 (bv abcSum) }]) = S ++ [newR (bv abcSum) 24] := rfl
  rw [hg]
  have h1 : Mem.row? (S ++ [newR (bv abcSum) 24]) S.length = some (newR (bv abcSum) 24) := row_push_new rfl
  have hc1 : Cons S (S ++ [newR (bv abcSum) 24]) := Cons.push _ _
  have hlt1 : S.length < List.length (S ++ [newR (bv abcSum) 24]) := by simp
  clear hg
  generalize S ++ [newR (bv abcSum) 24] = M1 at *
  obtain ⟨rw, hrw⟩ : ∃ rw, rw = S.length := ⟨_, rfl⟩
  rw [← hrw] at h1 hlt1 ⊢
  repeat (first | refine W.seq ?_ | refine W.block ?_ | refine W.reg ?_ | refine W.skip ?_ | refine W.exit ?_ | refine W.ret ?_ | refine L.nil ?_ | refine L.p rfl rfl ?_ | refine L.skip rfl ?_)
  refine L.cl (new_C _) rfl rfl ?_
  rintro _ _ ⟨rfl, rfl⟩
  refine ⟨nofun, ?_⟩
  have h2 : Mem.row? (M1 ++ [newR (hashCells st0 (List.replicate 64 0#8) 0#64) 55]) M1.length = some (newR (hashCells st0 (List.replicate 64 0#8) 0#64) 55) := row_push_new rfl
  have h1 := row_fresh (x := newR (hashCells st0 (List.replicate 64 0#8) 0#64) 55) rfl h1
  have hc1 := hc1.pushr (newR (hashCells st0 (List.replicate 64 0#8) 0#64) 55)
  have hlt2 : M1.length < List.length (M1 ++ [newR (hashCells st0 (List.replicate 64 0#8) 0#64) 55]) := by simp
  generalize M1 ++ [newR (hashCells st0 (List.replicate 64 0#8) 0#64) 55] = M2 at *
  generalize M1.length = rh at *
  repeat (first | refine W.seq ?_ | refine W.block ?_ | refine W.reg ?_ | refine W.skip ?_ | refine W.exit ?_ | refine W.ret ?_ | refine L.nil ?_ | refine L.p rfl rfl ?_ | refine L.skip rfl ?_)
  refine W.ite rfl (fun h => ?_) (fun h => ?_)
  · cases h
  repeat (first | refine W.seq ?_ | refine W.block ?_ | refine W.reg ?_ | refine W.skip ?_ | refine W.exit ?_ | refine W.ret ?_ | refine L.nil ?_ | refine L.p rfl rfl ?_ | refine L.skip rfl ?_)
  refine L.bs [v8 0x61#8] rfl rfl rfl rfl rfl rfl ?_
  have hs1 : Slv (M2 ++ [newR [v8 0x61#8] 5]) 1 (.slice (some ⟨M2.length, 0, none⟩) 1 1) 1 (bv [0x61#8]) := Slv.all (row_push_new rfl) rfl rfl
  refine L.cl (write_C rh [] [0x61#8] _ _ 1 _ (row_fresh rfl h2) HS_new hs1 (.inl ⟨by decide, by decide⟩) (by rintro _ a' ⟨⟩; show M2.length ≠ rh; omega) (by decide)) rfl rfl ?_
  rintro v M3 ⟨hk3, r3, hr3, hm3⟩
  refine ⟨nofun, ?_⟩
  have h13 := hk3.row (row_fresh (x := newR [v8 0x61#8] 5) rfl h1) (by omega)
  have hc3 : Cons S M3 := Keep.mono (hc1.pushr _) (by omega) hk3
  repeat (first | refine W.seq ?_ | refine W.block ?_ | refine W.reg ?_ | refine W.skip ?_ | refine W.exit ?_ | refine W.ret ?_ | refine L.nil ?_ | refine L.p rfl rfl ?_ | refine L.skip rfl ?_)
  refine L.cl (hsum_C rh [0x61#8] r3 M3 hr3 hm3 (by decide)) rfl rfl ?_
  rintro _ M4 ⟨rfl, hc4⟩
  refine ⟨nofun, ?_⟩
  refine L.eff (v := .pointer (some ⟨M4.length, 0, none⟩)) (S1 := M4 ++ [newR (bv (List.replicate 20 0#8)) 24]) rfl rfl ?_
  refine L.st (ad := ⟨M4.length, 0, none⟩) (vs := bv (sumL [0x61#8])) (write_of (o := 0) (row_push_new rfl) rfl (by simp [newR, bv_len, sumL_len]) (bv_one _)) rfl rfl rfl (by simp [bv_len, sumL_len]; rfl) ?_
  rw [set_push, put20 (by simp) (sumL_len _)]
  have hg : (M4 ++ [{ newR (bv (List.replicate 20 0#8)) 24 with cells := bv (sumL [0x61#8]) }]) = M4 ++ [newR (bv (sumL [0x61#8])) 24] := rfl
  rw [hg]
  have h45 : Cons M4 (M4 ++ [newR (bv (sumL [0x61#8])) 24]) := Cons.push _ _
  have h15 := (hc4.trans h45).row' h13
  have hr5 := (hc4.trans h45).row' hr3
  have h35 : Mem.row? (M4 ++ [newR (bv (sumL [0x61#8])) 24]) M4.length = some (newR (bv (sumL [0x61#8])) 24) := row_push_new rfl
  have hc5 := (hc3.trans hc4).trans h45
  have hlt4 : rh < M4.length := by have := row_lt hr3; have := hc4.len; omega
  have hlt5 : M4.length < List.length (M4 ++ [newR (bv (sumL [0x61#8])) 24]) := by simp
  clear hg h45 h13 hr3 hc3 hc4 hk3 h1 h2 hs1
  generalize M4 ++ [newR (bv (sumL [0x61#8])) 24] = M5 at *
  generalize M4.length = ro at *
  repeat (first | refine W.seq ?_ | refine W.block ?_ | refine W.reg ?_ | refine W.skip ?_ | refine W.exit ?_ | refine W.ret ?_ | refine L.nil ?_ | refine L.p rfl rfl ?_ | refine L.skip rfl ?_)
  refine L.bs [v8 0x62#8, v8 0x63#8] rfl rfl rfl rfl rfl rfl ?_
  have hs1 : Slv (M5 ++ [newR [v8 0x62#8, v8 0x63#8] 5]) 1 (.slice (some ⟨M5.length, 0, none⟩) 2 2) 2 (bv [0x62#8, 0x63#8]) := Slv.all (row_push_new rfl) rfl rfl
  refine L.cl (write_C rh [0x61#8] [0x62#8, 0x63#8] _ _ 2 _ (row_fresh rfl hr5) hm3 hs1 (.inl ⟨by decide, by decide⟩) (by rintro _ a' ⟨⟩; show M5.length ≠ rh; omega) (by decide)) rfl rfl ?_
  rintro v M6 ⟨hk6, r6, hr6, hm6⟩
  refine ⟨nofun, ?_⟩
  have hm6 : HS abc r6 := hm6
  have h16 := hk6.row (row_fresh (x := newR [v8 0x62#8, v8 0x63#8] 5) rfl h15) (by omega)
  have h36 := hk6.row (row_fresh (x := newR [v8 0x62#8, v8 0x63#8] 5) rfl h35) (by omega)
  have hc6 : Cons S M6 := Keep.mono (hc5.pushr _) (by omega) hk6
  clear h15 h35 hr5 hc5 hk6 hs1
  repeat (first | refine W.seq ?_ | refine W.block ?_ | refine W.reg ?_ | refine W.skip ?_ | refine W.exit ?_ | refine W.ret ?_ | refine L.nil ?_ | refine L.p rfl rfl ?_ | refine L.skip rfl ?_)
  refine L.bs [v8 0x61#8, v8 0x62#8, v8 0x63#8] rfl rfl rfl rfl rfl rfl ?_
  have h67 : Cons M6 (M6 ++ [newR [v8 0x61#8, v8 0x62#8, v8 0x63#8] 5]) := Cons.push _ _
  have hs1 : Slv (M6 ++ [newR [v8 0x61#8, v8 0x62#8, v8 0x63#8] 5]) 1 (.slice (some ⟨M6.length, 0, none⟩) 3 3) 3 (bv abc) := Slv.all (row_push_new rfl) rfl rfl
  refine L.cl (sum_C abc _ 3 _ hs1 (.inl ⟨by decide, by decide⟩) (by decide)) rfl rfl ?_
  rintro _ M8 ⟨rfl, hc8⟩
  refine ⟨fun _ => hc8, ?_⟩
  have h68 := h67.trans hc8
  repeat (first | refine W.seq ?_ | refine W.block ?_ | refine W.reg ?_ | refine W.skip ?_ | refine W.exit ?_ | refine W.ret ?_ | refine L.nil ?_ | refine L.p rfl rfl ?_ | refine L.skip rfl ?_)
  refine L.ldA (a := ⟨rw, 0, none⟩) (load20 (h68.row' h16) rfl) rfl rfl rfl ?_
  refine L.eq20 rfl rfl (sumL_len _) rfl rfl ?_
  rw [show (sumL abc == abcSum) = true by rw [abc_sum]; decide]
  repeat (first | refine W.seq ?_ | refine W.block ?_ | refine W.reg ?_ | refine W.skip ?_ | refine W.exit ?_ | refine W.ret ?_ | refine L.nil ?_ | refine L.p rfl rfl ?_ | refine L.skip rfl ?_)
  refine L.cl (hsum_C rh abc r6 M8 (h68.row' hr6) hm6 (by decide)) rfl rfl ?_
  rintro _ M9 ⟨rfl, hc9⟩
  refine ⟨fun _ => hc9, ?_⟩
  have h69 := h68.trans hc9
  refine L.ldA (a := ⟨rw, 0, none⟩) (load20 (h69.row' h16) rfl) rfl rfl rfl ?_
  refine L.eq20 rfl rfl (sumL_len _) rfl rfl ?_
  rw [show (sumL abc == abcSum) = true by rw [abc_sum]; decide]
  repeat (first | refine W.seq ?_ | refine W.block ?_ | refine W.reg ?_ | refine W.skip ?_ | refine W.exit ?_ | refine W.ret ?_ | refine L.nil ?_ | refine L.p rfl rfl ?_ | refine L.skip rfl ?_)
  refine L.ldA (a := ⟨ro, 0, none⟩) (load20 (h69.row' h36) (sumL_len _)) rfl rfl rfl ?_
  refine L.ldA (a := ⟨rw, 0, none⟩) (load20 (h69.row' h16) rfl) rfl rfl rfl ?_
  refine L.ne20 rfl rfl (sumL_len _) rfl rfl ?_
  rw [a_sum]
  repeat (first | refine W.seq ?_ | refine W.block ?_ | refine W.reg ?_ | refine W.skip ?_ | refine W.exit ?_ | refine W.ret ?_ | refine L.nil ?_ | refine L.p rfl rfl ?_ | refine L.skip rfl ?_)
  obtain ⟨blk6, hb6, rfl, _⟩ := hm6
  refine L.cl (len_C rh _ (BitVec.ofNat 64 abc.length) M9 (h69.row' hr6) (hash_n _ _ hb6)) rfl rfl ?_
  rintro _ _ ⟨rfl, rfl⟩
  refine ⟨fun _ => Cons.refl _, ?_⟩
  refine L.is (.bool true) rfl rfl ?_
  repeat (first | refine W.seq ?_ | refine W.block ?_ | refine W.reg ?_ | refine W.skip ?_ | refine W.exit ?_ | refine W.ret ?_ | refine L.nil ?_ | refine L.p rfl rfl ?_ | refine L.skip rfl ?_)
  refine L.cl (pad_C 55#64 _) rfl rfl ?_
  rintro _ _ ⟨rfl, rfl⟩
  refine ⟨fun _ => Cons.push _ _, ?_⟩
  refine L.is (vi 9) rfl rfl ?_
  repeat (first | refine W.seq ?_ | refine W.block ?_ | refine W.reg ?_ | refine W.skip ?_ | refine W.exit ?_ | refine W.ret ?_ | refine L.nil ?_ | refine L.p rfl rfl ?_ | refine L.skip rfl ?_)
  refine ⟨.inr rfl, _, rfl, rfl, ?_⟩
  exact (hc6.trans h69).pushr _
end Go.Proofs.Yteadbbimikcmgaa
