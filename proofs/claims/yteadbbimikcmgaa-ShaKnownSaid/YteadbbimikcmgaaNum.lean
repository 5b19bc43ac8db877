/- Numbers of fixed width: the model's wrapped whole numbers as bit vectors. Conditions: none. -/
import Derived.Test.YteadbbimikcmgaaAbsFacts
set_option linter.unusedSimpArgs false
set_option linter.unusedVariables false
namespace Go.Proofs.Yteadbbimikcmgaa
open Go

theorem wrap64 {x : Int} (h : -9223372036854775808 ≤ x) (h' : x < 9223372036854775808) : IntKind.i64.wrap x = x := by
  simp only [IntKind.wrap, IntKind.bits, IntKind.signed, Bool.true_and, decide_eq_true_eq, ge_iff_le]
  split <;> omega
theorem wrapU64 {x : Int} (h : 0 ≤ x) (h' : x < 18446744073709551616) : IntKind.u64.wrap x = x := by
  simp only [IntKind.wrap, IntKind.bits, IntKind.signed, Bool.false_and, Bool.false_eq_true, if_false]
  omega
theorem wrapU32 {x : Int} (h : 0 ≤ x) (h' : x < 4294967296) : IntKind.u32.wrap x = x := by
  simp only [IntKind.wrap, IntKind.bits, IntKind.signed, Bool.false_and, Bool.false_eq_true, if_false]
  omega
theorem wrapU8 {x : Int} (h : 0 ≤ x) (h' : x < 256) : IntKind.u8.wrap x = x := by
  simp only [IntKind.wrap, IntKind.bits, IntKind.signed, Bool.false_and, Bool.false_eq_true, if_false]
  omega
theorem wrap_u (k : IntKind) (hk : k.signed = false) (x : Int) : k.wrap x = ((BitVec.ofInt k.bits x).toNat : Int) := by
  simp only [IntKind.wrap, hk, Bool.false_and, Bool.false_eq_true, if_false, BitVec.toNat_ofInt]
  have h2 : (0 : Int) < 2 ^ k.bits := Int.pow_pos (by decide)
  have := Int.emod_nonneg x (Int.ne_of_gt h2)
  rw [Int.toNat_of_nonneg (by simpa using this)]
  simp
theorem wrap_u8 (x : Int) : IntKind.u8.wrap x = ((BitVec.ofInt 8 x).toNat : Int) := wrap_u .u8 rfl x
theorem wrap_u32 (x : Int) : IntKind.u32.wrap x = ((BitVec.ofInt 32 x).toNat : Int) := wrap_u .u32 rfl x
theorem wrap_u64 (x : Int) : IntKind.u64.wrap x = ((BitVec.ofInt 64 x).toNat : Int) := wrap_u .u64 rfl x
theorem bits_u8 : IntKind.u8.bits = 8 := rfl
theorem bits_u32 : IntKind.u32.bits = 32 := rfl
theorem bits_u64 : IntKind.u64.bits = 64 := rfl
theorem bits_i64 : IntKind.i64.bits = 64 := rfl
theorem ofInt_toNat {w : Nat} (a : BitVec w) : BitVec.ofInt w (a.toNat : Int) = a := by simp
theorem ofInt_shl {w : Nat} (a : BitVec w) (n : Nat) : BitVec.ofInt w ((a.toNat : Int) * 2 ^ n) = a <<< n := by
  apply BitVec.eq_of_toNat_eq
  rw [BitVec.toNat_ofInt, BitVec.toNat_shiftLeft, Nat.shiftLeft_eq]
  rw [show ((a.toNat : Int) * 2 ^ n) = ((a.toNat * 2 ^ n : Nat) : Int) by push_cast; rfl]
  omega
theorem fdiv_shr {w : Nat} (a : BitVec w) (n : Nat) : Int.fdiv (a.toNat : Int) (2 ^ n) = ((a >>> n).toNat : Int) := by
  rw [BitVec.toNat_ushiftRight, Nat.shiftRight_eq_div_pow]
  rw [Int.fdiv_eq_ediv_of_nonneg _ (Int.le_of_lt (Int.pow_pos (by decide)))]
  push_cast; rfl
theorem ofInt_wrap64 (x : Int) : BitVec.ofInt 64 (IntKind.i64.wrap x) = BitVec.ofInt 64 x := by
  apply BitVec.eq_of_toNat_eq
  simp only [BitVec.toNat_ofInt, IntKind.wrap, IntKind.bits, IntKind.signed, Bool.true_and, decide_eq_true_eq]
  split <;> simp <;> omega
theorem not_u32 (b : BitVec 32) : BitVec.ofInt 32 IntKind.u32.max ^^^ b = ~~~b := by
  rw [show BitVec.ofInt 32 IntKind.u32.max = BitVec.allOnes 32 by decide]; exact BitVec.allOnes_xor
theorem natCast_pow2 (n : Nat) : ((2 ^ n : Nat) : Int) = 2 ^ n := by push_cast; rfl

/-- words in plain form -/
abbrev v8 (x : BitVec 8) : Value := .int .u8 (x.toNat : Int)
abbrev v32 (x : BitVec 32) : Value := .int .u32 (x.toNat : Int)
abbrev v64 (x : BitVec 64) : Value := .int .u64 (x.toNat : Int)
abbrev vi (n : Nat) : Value := .int .i64 (n : Int)

theorem Env.put_self {e : Env} {t : Nat} {v : Value} (h : e t = v) : e.put (some t) v = e := by
  funext s; simp only [Env.put]; split
  · rename_i hs; rw [hs, h]
  · rfl
theorem W.env {P : Program} {G : Nat} {Ext : FuncId → List Value → Mem → Outc → Mem → Prop} {Q : Xit → Env → Mem → Prop} {e : Env} {S : Mem} {c : Code} {t : Nat} {v : Value} (h : e t = v)
    (k : W P G Ext c (e.put (some t) v) S Q) : W P G Ext c e S Q := by rw [Env.put_self h] at k; exact k
theorem W.env2 {P : Program} {G : Nat} {Ext : FuncId → List Value → Mem → Outc → Mem → Prop} {Q : Xit → Env → Mem → Prop} {e : Env} {S : Mem} {c : Code} {t1 : Nat} {v1 : Value} {t2 : Nat} {v2 : Value} (h1 : e t1 = v1) (h2 : e t2 = v2)
    (k : W P G Ext c ((e.put (some t1) v1).put (some t2) v2) S Q) : W P G Ext c e S Q := by rw [Env.put_self h1, Env.put_self h2] at k; exact k
theorem W.env3 {P : Program} {G : Nat} {Ext : FuncId → List Value → Mem → Outc → Mem → Prop} {Q : Xit → Env → Mem → Prop} {e : Env} {S : Mem} {c : Code} {t1 : Nat} {v1 : Value} {t2 : Nat} {v2 : Value} {t3 : Nat} {v3 : Value} (h1 : e t1 = v1) (h2 : e t2 = v2) (h3 : e t3 = v3)
    (k : W P G Ext c (((e.put (some t1) v1).put (some t2) v2).put (some t3) v3) S Q) : W P G Ext c e S Q := by rw [Env.put_self h1, Env.put_self h2, Env.put_self h3] at k; exact k
theorem W.env4 {P : Program} {G : Nat} {Ext : FuncId → List Value → Mem → Outc → Mem → Prop} {Q : Xit → Env → Mem → Prop} {e : Env} {S : Mem} {c : Code} {t1 : Nat} {v1 : Value} {t2 : Nat} {v2 : Value} {t3 : Nat} {v3 : Value} {t4 : Nat} {v4 : Value} (h1 : e t1 = v1) (h2 : e t2 = v2) (h3 : e t3 = v3) (h4 : e t4 = v4)
    (k : W P G Ext c ((((e.put (some t1) v1).put (some t2) v2).put (some t3) v3).put (some t4) v4) S Q) : W P G Ext c e S Q := by rw [Env.put_self h1, Env.put_self h2, Env.put_self h3, Env.put_self h4] at k; exact k
theorem W.env5 {P : Program} {G : Nat} {Ext : FuncId → List Value → Mem → Outc → Mem → Prop} {Q : Xit → Env → Mem → Prop} {e : Env} {S : Mem} {c : Code} {t1 : Nat} {v1 : Value} {t2 : Nat} {v2 : Value} {t3 : Nat} {v3 : Value} {t4 : Nat} {v4 : Value} {t5 : Nat} {v5 : Value} (h1 : e t1 = v1) (h2 : e t2 = v2) (h3 : e t3 = v3) (h4 : e t4 = v4) (h5 : e t5 = v5)
    (k : W P G Ext c (((((e.put (some t1) v1).put (some t2) v2).put (some t3) v3).put (some t4) v4).put (some t5) v5) S Q) : W P G Ext c e S Q := by rw [Env.put_self h1, Env.put_self h2, Env.put_self h3, Env.put_self h4, Env.put_self h5] at k; exact k
theorem W.env6 {P : Program} {G : Nat} {Ext : FuncId → List Value → Mem → Outc → Mem → Prop} {Q : Xit → Env → Mem → Prop} {e : Env} {S : Mem} {c : Code} {t1 : Nat} {v1 : Value} {t2 : Nat} {v2 : Value} {t3 : Nat} {v3 : Value} {t4 : Nat} {v4 : Value} {t5 : Nat} {v5 : Value} {t6 : Nat} {v6 : Value} (h1 : e t1 = v1) (h2 : e t2 = v2) (h3 : e t3 = v3) (h4 : e t4 = v4) (h5 : e t5 = v5) (h6 : e t6 = v6)
    (k : W P G Ext c ((((((e.put (some t1) v1).put (some t2) v2).put (some t3) v3).put (some t4) v4).put (some t5) v5).put (some t6) v6) S Q) : W P G Ext c e S Q := by rw [Env.put_self h1, Env.put_self h2, Env.put_self h3, Env.put_self h4, Env.put_self h5, Env.put_self h6] at k; exact k
theorem W.env7 {P : Program} {G : Nat} {Ext : FuncId → List Value → Mem → Outc → Mem → Prop} {Q : Xit → Env → Mem → Prop} {e : Env} {S : Mem} {c : Code} {t1 : Nat} {v1 : Value} {t2 : Nat} {v2 : Value} {t3 : Nat} {v3 : Value} {t4 : Nat} {v4 : Value} {t5 : Nat} {v5 : Value} {t6 : Nat} {v6 : Value} {t7 : Nat} {v7 : Value} (h1 : e t1 = v1) (h2 : e t2 = v2) (h3 : e t3 = v3) (h4 : e t4 = v4) (h5 : e t5 = v5) (h6 : e t6 = v6) (h7 : e t7 = v7)
    (k : W P G Ext c (((((((e.put (some t1) v1).put (some t2) v2).put (some t3) v3).put (some t4) v4).put (some t5) v5).put (some t6) v6).put (some t7) v7) S Q) : W P G Ext c e S Q := by rw [Env.put_self h1, Env.put_self h2, Env.put_self h3, Env.put_self h4, Env.put_self h5, Env.put_self h6, Env.put_self h7] at k; exact k
theorem W.env8 {P : Program} {G : Nat} {Ext : FuncId → List Value → Mem → Outc → Mem → Prop} {Q : Xit → Env → Mem → Prop} {e : Env} {S : Mem} {c : Code} {t1 : Nat} {v1 : Value} {t2 : Nat} {v2 : Value} {t3 : Nat} {v3 : Value} {t4 : Nat} {v4 : Value} {t5 : Nat} {v5 : Value} {t6 : Nat} {v6 : Value} {t7 : Nat} {v7 : Value} {t8 : Nat} {v8 : Value} (h1 : e t1 = v1) (h2 : e t2 = v2) (h3 : e t3 = v3) (h4 : e t4 = v4) (h5 : e t5 = v5) (h6 : e t6 = v6) (h7 : e t7 = v7) (h8 : e t8 = v8)
    (k : W P G Ext c ((((((((e.put (some t1) v1).put (some t2) v2).put (some t3) v3).put (some t4) v4).put (some t5) v5).put (some t6) v6).put (some t7) v7).put (some t8) v8) S Q) : W P G Ext c e S Q := by rw [Env.put_self h1, Env.put_self h2, Env.put_self h3, Env.put_self h4, Env.put_self h5, Env.put_self h6, Env.put_self h7, Env.put_self h8] at k; exact k
theorem W.env9 {P : Program} {G : Nat} {Ext : FuncId → List Value → Mem → Outc → Mem → Prop} {Q : Xit → Env → Mem → Prop} {e : Env} {S : Mem} {c : Code} {t1 : Nat} {v1 : Value} {t2 : Nat} {v2 : Value} {t3 : Nat} {v3 : Value} {t4 : Nat} {v4 : Value} {t5 : Nat} {v5 : Value} {t6 : Nat} {v6 : Value} {t7 : Nat} {v7 : Value} {t8 : Nat} {v8 : Value} {t9 : Nat} {v9 : Value} (h1 : e t1 = v1) (h2 : e t2 = v2) (h3 : e t3 = v3) (h4 : e t4 = v4) (h5 : e t5 = v5) (h6 : e t6 = v6) (h7 : e t7 = v7) (h8 : e t8 = v8) (h9 : e t9 = v9)
    (k : W P G Ext c (((((((((e.put (some t1) v1).put (some t2) v2).put (some t3) v3).put (some t4) v4).put (some t5) v5).put (some t6) v6).put (some t7) v7).put (some t8) v8).put (some t9) v9) S Q) : W P G Ext c e S Q := by rw [Env.put_self h1, Env.put_self h2, Env.put_self h3, Env.put_self h4, Env.put_self h5, Env.put_self h6, Env.put_self h7, Env.put_self h8, Env.put_self h9] at k; exact k
theorem W.env10 {P : Program} {G : Nat} {Ext : FuncId → List Value → Mem → Outc → Mem → Prop} {Q : Xit → Env → Mem → Prop} {e : Env} {S : Mem} {c : Code} {t1 : Nat} {v1 : Value} {t2 : Nat} {v2 : Value} {t3 : Nat} {v3 : Value} {t4 : Nat} {v4 : Value} {t5 : Nat} {v5 : Value} {t6 : Nat} {v6 : Value} {t7 : Nat} {v7 : Value} {t8 : Nat} {v8 : Value} {t9 : Nat} {v9 : Value} {t10 : Nat} {v10 : Value} (h1 : e t1 = v1) (h2 : e t2 = v2) (h3 : e t3 = v3) (h4 : e t4 = v4) (h5 : e t5 = v5) (h6 : e t6 = v6) (h7 : e t7 = v7) (h8 : e t8 = v8) (h9 : e t9 = v9) (h10 : e t10 = v10)
    (k : W P G Ext c ((((((((((e.put (some t1) v1).put (some t2) v2).put (some t3) v3).put (some t4) v4).put (some t5) v5).put (some t6) v6).put (some t7) v7).put (some t8) v8).put (some t9) v9).put (some t10) v10) S Q) : W P G Ext c e S Q := by rw [Env.put_self h1, Env.put_self h2, Env.put_self h3, Env.put_self h4, Env.put_self h5, Env.put_self h6, Env.put_self h7, Env.put_self h8, Env.put_self h9, Env.put_self h10] at k; exact k
/-- no function is taken as given -/
def NoX : FuncId → List Value → Mem → Outc → Mem → Prop := fun _ _ _ _ _ => False

section
variable {P : Program} {G : Nat} {Ext : FuncId → List Value → Mem → Outc → Mem → Prop} {e : Env} {S : Mem} {fl : Bool} {ops : Array Oper} {K : Env → Mem → Prop}
variable {rest : List Oper} {dst : Option Tmp} {ty : TypeId} {pos : String} {af : Array Edge} {gd : Option (Nat × Bool)}
theorem apure_bin {op : BinOp} {xt yt : TypeId} {x y : Operand} {k k' : IntKind} {a b : Int} {v : Value} {ev : Operand → Value} (hx : ev x = .int k a) (hy : ev y = .int k' b)
    (hr : pureRun P (binOp op xt (.int k a) (.int k' b)) = some v) (hf : flat v = true) : apure P ⟨dst, .binOp op xt x y yt, ty, pos, af, gd⟩ ev = some v := by
  have h : aflat P ⟨dst, .binOp op xt x y yt, ty, pos, af, gd⟩ ev = some v := by
    unfold aflat
    rw [if_pos (by simp [Op.operands, hx, hy, flat]; exact ⟨rfl, rfl⟩)]
    have : pureRun P (execOp ev ⟨dst, .binOp op xt x y yt, ty, pos, af, gd⟩) = some (.value v) := by
      simp only [execOp, hx, hy, pureRun_bind]
      have hg : pureRun P (eqGuard op xt x y (.int k a) (.int k' b)) = some () := by unfold eqGuard; split <;> rfl
      simp [hg, hr]
    rw [this]; simp [hf]
  simp only [apure, h]
theorem L.rem {xt yt : TypeId} {x y : Operand} {k : IntKind} {a b : Int} (hx : e.eval x = .int k a) (hy : e.eval y = .int k b) (hb : b ≠ 0) (hw : awanted ops ⟨dst, .binOp .rem xt x y yt, ty, pos, af, gd⟩ e = true)
    (h : L P G Ext fl ops rest (e.put dst (.int k (a.tmod b))) S K) : L P G Ext fl ops (⟨dst, .binOp .rem xt x y yt, ty, pos, af, gd⟩ :: rest) e S K :=
  L.pure hw (apure_bin hx hy (by simp [binOp, Op.intDiv, hb]) rfl) h
theorem L.quo {xt yt : TypeId} {x y : Operand} {k : IntKind} {a b : Int} (hx : e.eval x = .int k a) (hy : e.eval y = .int k b) (hb : b ≠ 0) (hw : awanted ops ⟨dst, .binOp .quo xt x y yt, ty, pos, af, gd⟩ e = true)
    (h : L P G Ext fl ops rest (e.put dst (.int k (k.wrap (a.tdiv b)))) S K) : L P G Ext fl ops (⟨dst, .binOp .quo xt x y yt, ty, pos, af, gd⟩ :: rest) e S K :=
  L.pure hw (apure_bin hx hy (by simp [binOp, Op.intDiv, hb]) rfl) h
theorem L.shl {xt yt : TypeId} {x y : Operand} {k k' : IntKind} {a b : Int} (n : Nat) (hx : e.eval x = .int k a) (hy : e.eval y = .int k' b) (hb : b = n) (hn : n ≤ k.bits) (hw : awanted ops ⟨dst, .binOp .shl xt x y yt, ty, pos, af, gd⟩ e = true)
    (h : L P G Ext fl ops rest (e.put dst (.int k (k.wrap (a * 2 ^ n)))) S K) : L P G Ext fl ops (⟨dst, .binOp .shl xt x y yt, ty, pos, af, gd⟩ :: rest) e S K :=
  L.pure hw (apure_bin hx hy (by simp [binOp, Op.shift, hb, Nat.min_eq_left hn, show ¬ ((n : Int) < 0) from by omega]) rfl) h
theorem L.shr {xt yt : TypeId} {x y : Operand} {k k' : IntKind} {a b : Int} (n : Nat) (hx : e.eval x = .int k a) (hy : e.eval y = .int k' b) (hb : b = n) (hn : n ≤ k.bits) (hw : awanted ops ⟨dst, .binOp .shr xt x y yt, ty, pos, af, gd⟩ e = true)
    (h : L P G Ext fl ops rest (e.put dst (.int k (a.fdiv (2 ^ n)))) S K) : L P G Ext fl ops (⟨dst, .binOp .shr xt x y yt, ty, pos, af, gd⟩ :: rest) e S K :=
  L.pure hw (apure_bin hx hy (by simp [binOp, Op.shift, hb, Nat.min_eq_left hn, show ¬ ((n : Int) < 0) from by omega]) rfl) h
end
end Go.Proofs.Yteadbbimikcmgaa
