/- The law of cuts, walked. Conditions: none. -/
import Derived.Test.YteadbbimikcmgaaShaSums
import Derived.Test.YteadbbimikcmgaaSlD
set_option linter.unusedSimpArgs false
set_option linter.unusedVariables false
set_option maxRecDepth 100000
set_option maxHeartbeats 4000000
namespace Go.Proofs.Yteadbbimikcmgaa
open Go
variable {G : Nat} {Ext : FuncId → List Value → Mem → Outc → Mem → Prop}

theorem pick_nat (i : Int) (n : Nat) : ∃ k : Nat, pick i ((n + 1 : Nat) : Int) = (k : Int) ∧ k ≤ n := by
  have hb := Int.tmod_lt_of_pos i (show (0 : Int) < ((n + 1 : Nat) : Int) by omega)
  have hb' := Int.lt_tmod_of_pos i (show (0 : Int) < ((n + 1 : Nat) : Int) by omega)
  unfold pick
  rw [if_neg (by omega)]
  split
  · exact ⟨(i.tmod ((n + 1 : Nat) : Int) + ((n + 1 : Nat) : Int)).toNat, by omega, by omega⟩
  · exact ⟨(i.tmod ((n + 1 : Nat) : Int)).toNat, by omega, by omega⟩
/-- the part of a slice of bytes -/
theorem part_b {S : Mem} {a : Option Addr} {c k h : Nat} {l : BL} {lo hi : Option Value} (hs : Slv S 1 (.slice a l.length c) l.length (bv l)) (hl : LoIs lo k) (hh : HiIs hi l.length h) (hk : k ≤ h) (hn : h ≤ l.length) (hc : c < UNK ∧ l.length ≤ c) :
    ∃ a' c', aslice 1 a l.length c lo hi none = some (.slice a' ((l.drop k).take (h - k)).length c') ∧ Slv S 1 (.slice a' ((l.drop k).take (h - k)).length c') ((l.drop k).take (h - k)).length (bv ((l.drop k).take (h - k))) ∧ Cut ((l.drop k).take (h - k)).length c' ∧ ∀ x, a' = some x → ∃ y, a = some y ∧ y.block = x.block := by
  obtain ⟨a', c', h1, h2, h3, h4⟩ := slv_any hs hl hh hk hn hc.1 hc.2
  have hlen : ((l.drop k).take (h - k)).length = h - k := by rw [List.length_take, List.length_drop]; omega
  rw [hlen]
  refine ⟨a', c', h1, ?_, .inl h3, h4⟩
  rwa [show ((bv l).drop k).take (h - k) = bv ((l.drop k).take (h - k)) by simp [bv, List.map_take, List.map_drop]] at h2
section
variable {G : Nat} {Ext : FuncId → List Value → Mem → Outc → Mem → Prop} {e : Env} {S : Mem} {fl : Bool} {ops : Array Oper} {K : Env → Mem → Prop}
variable {rest : List Oper} {dst2 : Option Tmp} {d : Tmp} {ty ty2 : TypeId} {pos pos2 : String} {af af2 : Array Edge} {gd gd2 : Option (Nat × Bool)}
/-- a variable for a sum is made and written -/
theorem L.al20 {y : Operand} {s : BL} (hs : s.length = 20) (w1 : awanted ops ⟨some d, .alloc 24, ty, pos, af, gd⟩ e = true) (hy : ∀ p, (e.put (some d) p).eval y = .agg (bv s).toArray)
    (w2 : ∀ p, awanted ops ⟨dst2, .store 24 (.tmp d) y, ty2, pos2, af2, gd2⟩ (e.put (some d) p) = true)
    (h : L Try.prog G Ext fl ops rest ((e.put (some d) (.pointer (some ⟨S.length, 0, none⟩))).put dst2 undef) (S ++ [newR (bv s) 24]) K) :
    L Try.prog G Ext fl ops (⟨some d, .alloc 24, ty, pos, af, gd⟩ :: ⟨dst2, .store 24 (.tmp d) y, ty2, pos2, af2, gd2⟩ :: rest) e S K := by
  refine L.eff (v := .pointer (some ⟨S.length, 0, none⟩)) (S1 := S ++ [newR (bv (List.replicate 20 0#8)) 24]) w1 rfl ?_
  refine L.st (ad := ⟨S.length, 0, none⟩) (vs := bv s) (write_of (o := 0) (row_push_new rfl) rfl (by simp [newR, bv_len, hs]) (bv_one _)) (w2 _) (by simp [Env.eval, Env.put]) (by rw [hy]; rfl) (by rw [bv_len, hs]; rfl) ?_
  rw [set_push, put20 (by simp) hs]
  exact h
end
theorem cuts_C (l : BL) (a : Option Addr) (c : Nat) (i k : Int) (S : Mem) (hs : Slv S 1 (.slice a l.length c) l.length (bv l)) (hc : c < UNK ∧ l.length ≤ c) (hfar : ∀ x, a = some x → x.block < S.length) :
    C Try.prog G Ext 6 [.slice a l.length c, .int .i64 i, .int .i64 k] S fun v S' => v = .bool true ∧ Cons S S' := by
  refine C.fn Try.func6 rfl (by kernel_rfl) rfl ?_
  repeat (first | refine W.seq ?_ | refine W.block ?_ | refine W.reg ?_ | refine W.skip ?_ | refine W.exit ?_ | refine W.ret ?_ | refine L.nil ?_ | refine L.p rfl rfl ?_ | refine L.skip rfl ?_)
  refine W.ite rfl (fun h => ?_) (fun h => ?_)
  · repeat (first | refine W.seq ?_ | refine W.block ?_ | refine W.reg ?_ | refine W.skip ?_ | refine W.exit ?_ | refine W.ret ?_ | refine L.nil ?_ | refine L.p rfl rfl ?_ | refine L.skip rfl ?_)
    exact ⟨.inr rfl, _, rfl, rfl, Cons.refl _⟩
  have hl : l.length ≤ 16384 := by simp at h; omega
  have hw1 : IntKind.i64.wrap ((l.length : Int) + 1) = ((l.length + 1 : Nat) : Int) := by rw [wrap64 (by omega) (by omega)]; omega
  repeat (first | refine W.seq ?_ | refine W.block ?_ | refine W.reg ?_ | refine W.skip ?_ | refine W.exit ?_ | refine W.ret ?_ | refine L.nil ?_ | refine L.p rfl rfl ?_ | refine L.skip rfl ?_)
  rw [hw1]
  refine L.cl (pick_C i _ (by omega) S) rfl rfl ?_
  rintro _ _ ⟨rfl, rfl⟩
  refine ⟨nofun, ?_⟩
  repeat (first | refine W.seq ?_ | refine W.block ?_ | refine W.reg ?_ | refine W.skip ?_ | refine W.exit ?_ | refine W.ret ?_ | refine L.nil ?_ | refine L.p rfl rfl ?_ | refine L.skip rfl ?_)
  refine L.cl (pick_C k ((l.length + 1 : Nat) : Int) (by omega) _) rfl (by rw [← hw1]; rfl) ?_
  rintro _ _ ⟨rfl, rfl⟩
  refine ⟨nofun, ?_⟩
  obtain ⟨i', hi', hil⟩ := pick_nat i l.length
  obtain ⟨k', hk', hkl⟩ := pick_nat k l.length
  rw [hi', hk']
  repeat (first | refine W.seq ?_ | refine W.block ?_ | refine W.reg ?_ | refine W.skip ?_ | refine W.exit ?_ | refine W.ret ?_ | refine L.nil ?_ | refine L.p rfl rfl ?_ | refine L.skip rfl ?_)
  rename_i S0
  refine W.ite rfl (fun h => ?_) (fun h => ?_)
  · obtain ⟨p, hp⟩ : ∃ p, p = k' := ⟨_, rfl⟩
    obtain ⟨q, hq⟩ : ∃ q, q = i' := ⟨_, rfl⟩
    rw [← hp, ← hq] at h
    rw [← hp, ← hq]
    have hpq : p ≤ q := by simp at h; omega
    have hql : q ≤ l.length := by omega
    clear hi' hk' h
    repeat (first | refine W.seq ?_ | refine W.block ?_ | refine W.reg ?_ | refine W.skip ?_ | refine W.exit ?_ | refine W.ret ?_ | refine L.nil ?_ | refine L.p rfl rfl ?_ | refine L.skip rfl ?_)
    refine L.cl (new_C _) rfl rfl ?_
    rintro _ _ ⟨rfl, rfl⟩
    refine ⟨nofun, ?_⟩
    have hr0 : Mem.row? (S0 ++ [newR (hashCells st0 (List.replicate 64 0#8) 0#64) 55]) S0.length = some (newR (hashCells st0 (List.replicate 64 0#8) 0#64) 55) := row_push_new rfl
    have hc0 : Cons S0 (S0 ++ [newR (hashCells st0 (List.replicate 64 0#8) 0#64) 55]) := Cons.push _ _
    have hlt0 : S0.length < List.length (S0 ++ [newR (hashCells st0 (List.replicate 64 0#8) 0#64) 55]) := by simp
    obtain ⟨rh, hrh⟩ : ∃ rh, rh = S0.length := ⟨_, rfl⟩
    rw [← hrh] at hr0 hlt0 hfar
    generalize S0 ++ [newR (hashCells st0 (List.replicate 64 0#8) 0#64) 55] = M1 at *
    rw [← hrh]
    repeat (first | refine W.seq ?_ | refine W.block ?_ | refine W.reg ?_ | refine W.skip ?_ | refine W.exit ?_ | refine W.ret ?_ | refine L.nil ?_ | refine L.p rfl rfl ?_ | refine L.skip rfl ?_)
    refine W.ite rfl (fun h => ?_) (fun h => ?_)
    · cases h
    repeat (first | refine W.seq ?_ | refine W.block ?_ | refine W.reg ?_ | refine W.skip ?_ | refine W.exit ?_ | refine W.ret ?_ | refine L.nil ?_ | refine L.p rfl rfl ?_ | refine L.skip rfl ?_)
    obtain ⟨a1, c1, q1, s1, k1, f1⟩ := part_b (k := 0) (h := p) (lo := none) (hi := some (vi p)) (hs.cons hc0) (.inl ⟨rfl, rfl⟩) (.inr ⟨.i64, rfl⟩) (by omega) (by omega) hc
    refine L.is (.slice a1 ((l.drop 0).take (p - 0)).length c1) ?_ rfl ?_
    · rw [slice_at (a := a) (n := l.length) (c := c) rfl rfl rfl (fun _ => hc.1)]
      exact q1
    refine L.cl (write_C rh [] _ _ _ _ _ hr0 HS_new s1 k1 (fun _ x hx => by obtain ⟨y, hy, hyb⟩ := f1 x hx; have := hfar y hy; omega) (by simp; omega)) rfl rfl ?_
    rintro v M2 ⟨hk2, r2, hr2, hm2⟩
    refine ⟨nofun, ?_⟩
    have hx1 : [] ++ (l.drop 0).take (p - 0) = l.take p := by simp
    rw [hx1] at hm2
    have hc2 : Cons S0 M2 := Keep.mono hc0 (by omega) hk2
    repeat (first | refine W.seq ?_ | refine W.block ?_ | refine W.reg ?_ | refine W.skip ?_ | refine W.exit ?_ | refine W.ret ?_ | refine L.nil ?_ | refine L.p rfl rfl ?_ | refine L.skip rfl ?_)
    refine L.cl (hsum_C rh (l.take p) r2 M2 hr2 hm2 (by simp; omega)) rfl rfl ?_
    rintro _ M3 ⟨rfl, hc3⟩
    refine ⟨nofun, ?_⟩
    have hr3 := hc3.row' hr2
    refine L.al20 (sumL_len _) rfl (fun _ => rfl) (fun _ => rfl) ?_
    have h34 : Cons M3 (M3 ++ [newR (bv (sumL (l.take p))) 24]) := Cons.push _ _
    have hA4 : Mem.row? (M3 ++ [newR (bv (sumL (l.take p))) 24]) M3.length = some (newR (bv (sumL (l.take p))) 24) := row_push_new rfl
    have hr4 := h34.row' hr3
    have hc4 := (hc2.trans hc3).trans h34
    have hltA : rh < M3.length := row_lt hr3
    obtain ⟨rA, hrA⟩ : ∃ rA, rA = M3.length := ⟨_, rfl⟩
    rw [← hrA] at hA4 hltA ⊢
    clear hr2 hr3 hc2 hc3 h34 hk2 hrA s1 k1 q1 f1
    generalize M3 ++ [newR (bv (sumL (l.take p))) 24] = M4 at *
    repeat (first | refine W.seq ?_ | refine W.block ?_ | refine W.reg ?_ | refine W.skip ?_ | refine W.exit ?_ | refine W.ret ?_ | refine L.nil ?_ | refine L.p rfl rfl ?_ | refine L.skip rfl ?_)
    obtain ⟨a1, c1, q1, s1, k1, f1⟩ := part_b (k := p) (h := q) (lo := some (vi p)) (hi := some (vi q)) (hs.cons hc4) (.inr ⟨.i64, rfl⟩) (.inr ⟨.i64, rfl⟩) hpq hql hc
    refine L.is (.slice a1 ((l.drop p).take (q - p)).length c1) ?_ rfl ?_
    · rw [slice_at (a := a) (n := l.length) (c := c) rfl rfl rfl (fun _ => hc.1)]
      exact q1
    refine L.cl (write_C rh _ _ _ _ _ _ hr4 hm2 s1 k1 (fun _ x hx => by obtain ⟨y, hy, hyb⟩ := f1 x hx; have := hfar y hy; omega) (by simp; omega)) rfl rfl ?_
    rintro v M5 ⟨hk5, r5, hr5, hm5⟩
    refine ⟨nofun, ?_⟩
    have hx2 : l.take p ++ (l.drop p).take (q - p) = l.take q := by rw [← List.take_add, show p + (q - p) = q by omega]
    rw [hx2] at hm5
    have hc5 : Cons S0 M5 := Keep.mono hc4 (by omega) hk5
    have hA5 := hk5.row hA4 (by omega)
    repeat (first | refine W.seq ?_ | refine W.block ?_ | refine W.reg ?_ | refine W.skip ?_ | refine W.exit ?_ | refine W.ret ?_ | refine L.nil ?_ | refine L.p rfl rfl ?_ | refine L.skip rfl ?_)
    refine L.cl (write_C rh _ [] _ none 0 _ hr5 hm5 (Slv.nil _ _ _ _) (.inl ⟨by decide, by decide⟩) (fun h => by cases h) (by simp; omega)) rfl rfl ?_
    rintro v M6 ⟨hk6, r6, hr6, hm6⟩
    refine ⟨nofun, ?_⟩
    rw [List.append_nil] at hm6
    have hc6 : Cons S0 M6 := Keep.mono hc5 (by omega) hk6
    have hA6 := hk6.row hA5 (by omega)
    repeat (first | refine W.seq ?_ | refine W.block ?_ | refine W.reg ?_ | refine W.skip ?_ | refine W.exit ?_ | refine W.ret ?_ | refine L.nil ?_ | refine L.p rfl rfl ?_ | refine L.skip rfl ?_)
    refine L.cl (hsum_C rh (l.take q) r6 M6 hr6 hm6 (by simp; omega)) rfl rfl ?_
    rintro _ M7 ⟨rfl, hc7⟩
    refine ⟨nofun, ?_⟩
    have hr7 := hc7.row' hr6
    have hA7 := hc7.row' hA6
    refine L.al20 (sumL_len _) rfl (fun _ => rfl) (fun _ => rfl) ?_
    have h78 : Cons M7 (M7 ++ [newR (bv (sumL (l.take q))) 24]) := Cons.push _ _
    have hB8 : Mem.row? (M7 ++ [newR (bv (sumL (l.take q))) 24]) M7.length = some (newR (bv (sumL (l.take q))) 24) := row_push_new rfl
    have hr8 := h78.row' hr7
    have hA8 := h78.row' hA7
    have hc8 := (hc6.trans hc7).trans h78
    have hltB : rh < M7.length := row_lt hr7
    obtain ⟨rB, hrB⟩ : ∃ rB, rB = M7.length := ⟨_, rfl⟩
    rw [← hrB] at hB8 hltB ⊢
    clear hr7 hA7 hr6 hA6 hc6 hc7 h78 hk6 hk5 hrB s1 k1 q1 f1 hr5 hA5 hc5
    generalize M7 ++ [newR (bv (sumL (l.take q))) 24] = M8 at *
    repeat (first | refine W.seq ?_ | refine W.block ?_ | refine W.reg ?_ | refine W.skip ?_ | refine W.exit ?_ | refine W.ret ?_ | refine L.nil ?_ | refine L.p rfl rfl ?_ | refine L.skip rfl ?_)
    obtain ⟨a1, c1, q1, s1, k1, f1⟩ := part_b (k := q) (h := l.length) (lo := some (vi q)) (hi := none) (hs.cons hc8) (.inr ⟨.i64, rfl⟩) (.inl ⟨rfl, rfl⟩) hql (Nat.le_refl _) hc
    refine L.is (.slice a1 ((l.drop q).take (l.length - q)).length c1) ?_ rfl ?_
    · rw [slice_at (a := a) (n := l.length) (c := c) rfl rfl rfl (fun _ => hc.1)]
      exact q1
    refine L.cl (write_C rh _ _ _ _ _ _ hr8 hm6 s1 k1 (fun _ x hx => by obtain ⟨y, hy, hyb⟩ := f1 x hx; have := hfar y hy; omega) (by simp; omega)) rfl rfl ?_
    rintro v M9 ⟨hk9, r9, hr9, hm9⟩
    refine ⟨nofun, ?_⟩
    have hx3 : l.take q ++ (l.drop q).take (l.length - q) = l := by rw [← List.take_add, show q + (l.length - q) = l.length by omega, List.take_length]
    rw [hx3] at hm9
    have hc9 : Cons S0 M9 := Keep.mono hc8 (by omega) hk9
    have hA9 := hk9.row hA8 (by omega)
    have hB9 := hk9.row hB8 (by omega)
    clear s1 k1 q1 f1
    repeat (first | refine W.seq ?_ | refine W.block ?_ | refine W.reg ?_ | refine W.skip ?_ | refine W.exit ?_ | refine W.ret ?_ | refine L.nil ?_ | refine L.p rfl rfl ?_ | refine L.skip rfl ?_)
    refine L.ldA (a := ⟨rA, 0, none⟩) (load20 hA9 (sumL_len _)) rfl rfl rfl ?_
    repeat (first | refine W.seq ?_ | refine W.block ?_ | refine W.reg ?_ | refine W.skip ?_ | refine W.exit ?_ | refine W.ret ?_ | refine L.nil ?_ | refine L.p rfl rfl ?_ | refine L.skip rfl ?_)
    obtain ⟨a1, c1, q1, s1, k1, f1⟩ := part_b (k := 0) (h := p) (lo := none) (hi := some (vi p)) (hs.cons hc9) (.inl ⟨rfl, rfl⟩) (.inr ⟨.i64, rfl⟩) (by omega) (by omega) hc
    refine L.is (.slice a1 ((l.drop 0).take (p - 0)).length c1) ?_ rfl ?_
    · rw [slice_at (a := a) (n := l.length) (c := c) rfl rfl rfl (fun _ => hc.1)]
      exact q1
    refine L.cl (sum_C _ _ _ M9 s1 k1 (by simp; omega)) rfl rfl ?_
    rintro _ M10 ⟨rfl, hc10⟩
    refine ⟨fun _ => hc10, ?_⟩
    refine L.ne20 rfl rfl (sumL_len _) (sumL_len _) rfl ?_
    rw [show (!(sumL (l.take p) == sumL ((l.drop 0).take (p - 0)))) = false by simp]
    repeat (first | refine W.seq ?_ | refine W.block ?_ | refine W.reg ?_ | refine W.skip ?_ | refine W.exit ?_ | refine W.ret ?_ | refine L.nil ?_ | refine L.p rfl rfl ?_ | refine L.skip rfl ?_)
    refine L.ldA (a := ⟨rB, 0, none⟩) (load20 (hc10.row' hB9) (sumL_len _)) rfl rfl rfl ?_
    repeat (first | refine W.seq ?_ | refine W.block ?_ | refine W.reg ?_ | refine W.skip ?_ | refine W.exit ?_ | refine W.ret ?_ | refine L.nil ?_ | refine L.p rfl rfl ?_ | refine L.skip rfl ?_)
    clear s1 k1 q1 f1
    obtain ⟨a1, c1, q1, s1, k1, f1⟩ := part_b (k := 0) (h := q) (lo := none) (hi := some (vi q)) (hs.cons (hc9.trans hc10)) (.inl ⟨rfl, rfl⟩) (.inr ⟨.i64, rfl⟩) (by omega) (by omega) hc
    refine L.is (.slice a1 ((l.drop 0).take (q - 0)).length c1) ?_ rfl ?_
    · rw [slice_at (a := a) (n := l.length) (c := c) rfl rfl rfl (fun _ => hc.1)]
      exact q1
    refine L.cl (sum_C _ _ _ M10 s1 k1 (by simp; omega)) rfl rfl ?_
    rintro _ M11 ⟨rfl, hc11⟩
    refine ⟨fun _ => hc11, ?_⟩
    refine L.ne20 rfl rfl (sumL_len _) (sumL_len _) rfl ?_
    rw [show (!(sumL (l.take q) == sumL ((l.drop 0).take (q - 0)))) = false by simp]
    repeat (first | refine W.seq ?_ | refine W.block ?_ | refine W.reg ?_ | refine W.skip ?_ | refine W.exit ?_ | refine W.ret ?_ | refine L.nil ?_ | refine L.p rfl rfl ?_ | refine L.skip rfl ?_)
    have hD11 := hc10.trans hc11
    refine L.cl (hsum_C rh l r9 M11 (hD11.row' hr9) hm9 (by omega)) rfl rfl ?_
    rintro _ M12 ⟨rfl, hcA⟩
    refine ⟨fun _ => hcA, ?_⟩
    repeat (first | refine W.seq ?_ | refine W.block ?_ | refine W.reg ?_ | refine W.skip ?_ | refine W.exit ?_ | refine W.ret ?_ | refine L.nil ?_ | refine L.p rfl rfl ?_ | refine L.skip rfl ?_)
    refine L.cl (sum_C l a c M12 (hs.cons ((hc9.trans hD11).trans hcA)) (.inl hc) (by omega)) rfl rfl ?_
    rintro _ M13 ⟨rfl, hcB⟩
    refine ⟨fun _ => hcB, ?_⟩
    refine L.ne20 rfl rfl (sumL_len _) (sumL_len _) rfl ?_
    rw [show (!(sumL l == sumL l)) = false by simp]
    have hD13 := (hD11.trans hcA).trans hcB
    clear hcA hcB
    repeat (first | refine W.seq ?_ | refine W.block ?_ | refine W.reg ?_ | refine W.skip ?_ | refine W.exit ?_ | refine W.ret ?_ | refine L.nil ?_ | refine L.p rfl rfl ?_ | refine L.skip rfl ?_)
    refine L.cl (hsum_C rh l r9 M13 (hD13.row' hr9) hm9 (by omega)) rfl rfl ?_
    rintro _ M14 ⟨rfl, hcA⟩
    refine ⟨fun _ => hcA, ?_⟩
    repeat (first | refine W.seq ?_ | refine W.block ?_ | refine W.reg ?_ | refine W.skip ?_ | refine W.exit ?_ | refine W.ret ?_ | refine L.nil ?_ | refine L.p rfl rfl ?_ | refine L.skip rfl ?_)
    refine L.cl (sum_C l a c M14 (hs.cons ((hc9.trans hD13).trans hcA)) (.inl hc) (by omega)) rfl rfl ?_
    rintro _ M15 ⟨rfl, hcB⟩
    refine ⟨fun _ => hcB, ?_⟩
    refine L.ne20 rfl rfl (sumL_len _) (sumL_len _) rfl ?_
    rw [show (!(sumL l == sumL l)) = false by simp]
    have hD15 := (hD13.trans hcA).trans hcB
    clear hcA hcB
    repeat (first | refine W.seq ?_ | refine W.block ?_ | refine W.reg ?_ | refine W.skip ?_ | refine W.exit ?_ | refine W.ret ?_ | refine L.nil ?_ | refine L.p rfl rfl ?_ | refine L.skip rfl ?_)
    obtain ⟨blk9, hb9, rfl, hw9⟩ := id hm9
    refine L.cl (len_C rh _ (BitVec.ofNat 64 l.length) M15 (hD15.row' hr9) (hash_n _ _ hb9)) rfl rfl ?_
    rintro _ _ ⟨rfl, rfl⟩
    refine ⟨fun _ => Cons.refl _, ?_⟩
    repeat (first | refine W.seq ?_ | refine W.block ?_ | refine W.reg ?_ | refine W.skip ?_ | refine W.exit ?_ | refine W.ret ?_ | refine L.nil ?_ | refine L.p rfl rfl ?_ | refine L.skip rfl ?_)
    have hw64 : IntKind.u64.wrap (l.length : Int) = ((BitVec.ofNat 64 l.length).toNat : Int) := by rw [wrapU64 (by omega) (by omega), ofNat_toNat (by omega)]
    refine W.ite rfl (fun h => ?_) (fun h => ?_)
    · rw [hw64] at h; simp at h
    clear h
    have hrF := hD15.row' hr9
    have hcF := hc9.trans hD15
    rename_i M15
    clear hD15 hD13 hD11 hc10 hc11 hr8 hA8 hB8 hA9 hB9 hA4 hr4 hk9 s1 k1 q1 f1 hr0
    repeat (first | refine W.seq ?_ | refine W.block ?_ | refine W.reg ?_ | refine W.skip ?_ | refine W.exit ?_ | refine W.ret ?_ | refine L.nil ?_ | refine L.p rfl rfl ?_ | refine L.skip rfl ?_)
    refine L.cl (reset_C rh _ M15 hrF rfl (by simp [newR, hashCells, cells5, bv_len, hb9])) rfl rfl ?_
    rintro _ M16 rfl
    refine ⟨nofun, ?_⟩
    have hr16 : Mem.row? (M15.set rh { newR (hashCells (hst l (l.length / 64)) blk9 (BitVec.ofNat 64 l.length)) 55 with cells := hashCells st0 (List.replicate 64 0#8) 0#64 }) rh = some (newR (hashCells st0 (List.replicate 64 0#8) 0#64) 55) := row_set_same hrF rfl
    have hc16 := hcF.set rh { newR (hashCells (hst l (l.length / 64)) blk9 (BitVec.ofNat 64 l.length)) 55 with cells := hashCells st0 (List.replicate 64 0#8) 0#64 } (by omega)
    generalize M15.set rh { newR (hashCells (hst l (l.length / 64)) blk9 (BitVec.ofNat 64 l.length)) 55 with cells := hashCells st0 (List.replicate 64 0#8) 0#64 } = M16 at *
    repeat (first | refine W.seq ?_ | refine W.block ?_ | refine W.reg ?_ | refine W.skip ?_ | refine W.exit ?_ | refine W.ret ?_ | refine L.nil ?_ | refine L.p rfl rfl ?_ | refine L.skip rfl ?_)
    obtain ⟨a1, c1, q1, s1, k1, f1⟩ := part_b (k := p) (h := l.length) (lo := some (vi p)) (hi := none) (hs.cons hc16) (.inr ⟨.i64, rfl⟩) (.inl ⟨rfl, rfl⟩) (by omega) (Nat.le_refl _) hc
    refine L.is (.slice a1 ((l.drop p).take (l.length - p)).length c1) ?_ rfl ?_
    · rw [slice_at (a := a) (n := l.length) (c := c) rfl rfl rfl (fun _ => hc.1)]
      exact q1
    refine L.cl (write_C rh [] _ _ _ _ _ hr16 HS_new s1 k1 (fun _ x hx => by obtain ⟨y, hy, hyb⟩ := f1 x hx; have := hfar y hy; omega) (by simp; omega)) rfl rfl ?_
    rintro v M17 ⟨hk17, r17, hr17, hm17⟩
    refine ⟨nofun, ?_⟩
    rw [List.nil_append] at hm17
    have hc17 : Cons S0 M17 := Keep.mono hc16 (by omega) hk17
    clear s1 k1 q1 f1
    repeat (first | refine W.seq ?_ | refine W.block ?_ | refine W.reg ?_ | refine W.skip ?_ | refine W.exit ?_ | refine W.ret ?_ | refine L.nil ?_ | refine L.p rfl rfl ?_ | refine L.skip rfl ?_)
    refine L.cl (hsum_C rh _ r17 M17 hr17 hm17 (by simp; omega)) rfl rfl ?_
    rintro _ M18 ⟨rfl, hc18⟩
    refine ⟨fun _ => hc18, ?_⟩
    repeat (first | refine W.seq ?_ | refine W.block ?_ | refine W.reg ?_ | refine W.skip ?_ | refine W.exit ?_ | refine W.ret ?_ | refine L.nil ?_ | refine L.p rfl rfl ?_ | refine L.skip rfl ?_)
    obtain ⟨a1, c1, q1, s1, k1, f1⟩ := part_b (k := p) (h := l.length) (lo := some (vi p)) (hi := none) (hs.cons (hc17.trans hc18)) (.inr ⟨.i64, rfl⟩) (.inl ⟨rfl, rfl⟩) (by omega) (Nat.le_refl _) hc
    refine L.is (.slice a1 ((l.drop p).take (l.length - p)).length c1) ?_ rfl ?_
    · rw [slice_at (a := a) (n := l.length) (c := c) rfl rfl rfl (fun _ => hc.1)]
      exact q1
    refine L.cl (sum_C _ _ _ M18 s1 k1 (by simp; omega)) rfl rfl ?_
    rintro _ M19 ⟨rfl, hc19⟩
    refine ⟨fun _ => hc19, ?_⟩
    refine L.eq20 rfl rfl (sumL_len _) (sumL_len _) rfl ?_
    rw [show (sumL ((l.drop p).take (l.length - p)) == sumL ((l.drop p).take (l.length - p))) = true from beq_self_eq_true _]
    repeat (first | refine W.seq ?_ | refine W.block ?_ | refine W.reg ?_ | refine W.skip ?_ | refine W.exit ?_ | refine W.ret ?_ | refine L.nil ?_ | refine L.p rfl rfl ?_ | refine L.skip rfl ?_)
    refine L.cl (works_C _) rfl rfl ?_
    rintro _ M20 ⟨rfl, hc20⟩
    refine ⟨fun _ => hc20, ?_⟩
    repeat (first | refine W.seq ?_ | refine W.block ?_ | refine W.reg ?_ | refine W.skip ?_ | refine W.exit ?_ | refine W.ret ?_ | refine L.nil ?_ | refine L.p rfl rfl ?_ | refine L.skip rfl ?_)
    exact ⟨.inr rfl, _, rfl, rfl, ((hc17.trans hc18).trans hc19).trans hc20⟩
  · obtain ⟨p, hp⟩ : ∃ p, p = i' := ⟨_, rfl⟩
    obtain ⟨q, hq⟩ : ∃ q, q = k' := ⟨_, rfl⟩
    rw [← hp, ← hq] at h
    rw [← hp, ← hq]
    have hpq : p ≤ q := by simp at h; omega
    have hql : q ≤ l.length := by omega
    clear hi' hk' h
    repeat (first | refine W.seq ?_ | refine W.block ?_ | refine W.reg ?_ | refine W.skip ?_ | refine W.exit ?_ | refine W.ret ?_ | refine L.nil ?_ | refine L.p rfl rfl ?_ | refine L.skip rfl ?_)
    refine L.cl (new_C _) rfl rfl ?_
    rintro _ _ ⟨rfl, rfl⟩
    refine ⟨nofun, ?_⟩
    have hr0 : Mem.row? (S0 ++ [newR (hashCells st0 (List.replicate 64 0#8) 0#64) 55]) S0.length = some (newR (hashCells st0 (List.replicate 64 0#8) 0#64) 55) := row_push_new rfl
    have hc0 : Cons S0 (S0 ++ [newR (hashCells st0 (List.replicate 64 0#8) 0#64) 55]) := Cons.push _ _
    have hlt0 : S0.length < List.length (S0 ++ [newR (hashCells st0 (List.replicate 64 0#8) 0#64) 55]) := by simp
    obtain ⟨rh, hrh⟩ : ∃ rh, rh = S0.length := ⟨_, rfl⟩
    rw [← hrh] at hr0 hlt0 hfar
    generalize S0 ++ [newR (hashCells st0 (List.replicate 64 0#8) 0#64) 55] = M1 at *
    rw [← hrh]
    repeat (first | refine W.seq ?_ | refine W.block ?_ | refine W.reg ?_ | refine W.skip ?_ | refine W.exit ?_ | refine W.ret ?_ | refine L.nil ?_ | refine L.p rfl rfl ?_ | refine L.skip rfl ?_)
    refine W.ite rfl (fun h => ?_) (fun h => ?_)
    · cases h
    repeat (first | refine W.seq ?_ | refine W.block ?_ | refine W.reg ?_ | refine W.skip ?_ | refine W.exit ?_ | refine W.ret ?_ | refine L.nil ?_ | refine L.p rfl rfl ?_ | refine L.skip rfl ?_)
    obtain ⟨a1, c1, q1, s1, k1, f1⟩ := part_b (k := 0) (h := p) (lo := none) (hi := some (vi p)) (hs.cons hc0) (.inl ⟨rfl, rfl⟩) (.inr ⟨.i64, rfl⟩) (by omega) (by omega) hc
    refine L.is (.slice a1 ((l.drop 0).take (p - 0)).length c1) ?_ rfl ?_
    · rw [slice_at (a := a) (n := l.length) (c := c) rfl rfl rfl (fun _ => hc.1)]
      exact q1
    refine L.cl (write_C rh [] _ _ _ _ _ hr0 HS_new s1 k1 (fun _ x hx => by obtain ⟨y, hy, hyb⟩ := f1 x hx; have := hfar y hy; omega) (by simp; omega)) rfl rfl ?_
    rintro v M2 ⟨hk2, r2, hr2, hm2⟩
    refine ⟨nofun, ?_⟩
    have hx1 : [] ++ (l.drop 0).take (p - 0) = l.take p := by simp
    rw [hx1] at hm2
    have hc2 : Cons S0 M2 := Keep.mono hc0 (by omega) hk2
    repeat (first | refine W.seq ?_ | refine W.block ?_ | refine W.reg ?_ | refine W.skip ?_ | refine W.exit ?_ | refine W.ret ?_ | refine L.nil ?_ | refine L.p rfl rfl ?_ | refine L.skip rfl ?_)
    refine L.cl (hsum_C rh (l.take p) r2 M2 hr2 hm2 (by simp; omega)) rfl rfl ?_
    rintro _ M3 ⟨rfl, hc3⟩
    refine ⟨nofun, ?_⟩
    have hr3 := hc3.row' hr2
    refine L.al20 (sumL_len _) rfl (fun _ => rfl) (fun _ => rfl) ?_
    have h34 : Cons M3 (M3 ++ [newR (bv (sumL (l.take p))) 24]) := Cons.push _ _
    have hA4 : Mem.row? (M3 ++ [newR (bv (sumL (l.take p))) 24]) M3.length = some (newR (bv (sumL (l.take p))) 24) := row_push_new rfl
    have hr4 := h34.row' hr3
    have hc4 := (hc2.trans hc3).trans h34
    have hltA : rh < M3.length := row_lt hr3
    obtain ⟨rA, hrA⟩ : ∃ rA, rA = M3.length := ⟨_, rfl⟩
    rw [← hrA] at hA4 hltA ⊢
    clear hr2 hr3 hc2 hc3 h34 hk2 hrA s1 k1 q1 f1
    generalize M3 ++ [newR (bv (sumL (l.take p))) 24] = M4 at *
    repeat (first | refine W.seq ?_ | refine W.block ?_ | refine W.reg ?_ | refine W.skip ?_ | refine W.exit ?_ | refine W.ret ?_ | refine L.nil ?_ | refine L.p rfl rfl ?_ | refine L.skip rfl ?_)
    obtain ⟨a1, c1, q1, s1, k1, f1⟩ := part_b (k := p) (h := q) (lo := some (vi p)) (hi := some (vi q)) (hs.cons hc4) (.inr ⟨.i64, rfl⟩) (.inr ⟨.i64, rfl⟩) hpq hql hc
    refine L.is (.slice a1 ((l.drop p).take (q - p)).length c1) ?_ rfl ?_
    · rw [slice_at (a := a) (n := l.length) (c := c) rfl rfl rfl (fun _ => hc.1)]
      exact q1
    refine L.cl (write_C rh _ _ _ _ _ _ hr4 hm2 s1 k1 (fun _ x hx => by obtain ⟨y, hy, hyb⟩ := f1 x hx; have := hfar y hy; omega) (by simp; omega)) rfl rfl ?_
    rintro v M5 ⟨hk5, r5, hr5, hm5⟩
    refine ⟨nofun, ?_⟩
    have hx2 : l.take p ++ (l.drop p).take (q - p) = l.take q := by rw [← List.take_add, show p + (q - p) = q by omega]
    rw [hx2] at hm5
    have hc5 : Cons S0 M5 := Keep.mono hc4 (by omega) hk5
    have hA5 := hk5.row hA4 (by omega)
    repeat (first | refine W.seq ?_ | refine W.block ?_ | refine W.reg ?_ | refine W.skip ?_ | refine W.exit ?_ | refine W.ret ?_ | refine L.nil ?_ | refine L.p rfl rfl ?_ | refine L.skip rfl ?_)
    refine L.cl (write_C rh _ [] _ none 0 _ hr5 hm5 (Slv.nil _ _ _ _) (.inl ⟨by decide, by decide⟩) (fun h => by cases h) (by simp; omega)) rfl rfl ?_
    rintro v M6 ⟨hk6, r6, hr6, hm6⟩
    refine ⟨nofun, ?_⟩
    rw [List.append_nil] at hm6
    have hc6 : Cons S0 M6 := Keep.mono hc5 (by omega) hk6
    have hA6 := hk6.row hA5 (by omega)
    repeat (first | refine W.seq ?_ | refine W.block ?_ | refine W.reg ?_ | refine W.skip ?_ | refine W.exit ?_ | refine W.ret ?_ | refine L.nil ?_ | refine L.p rfl rfl ?_ | refine L.skip rfl ?_)
    refine L.cl (hsum_C rh (l.take q) r6 M6 hr6 hm6 (by simp; omega)) rfl rfl ?_
    rintro _ M7 ⟨rfl, hc7⟩
    refine ⟨nofun, ?_⟩
    have hr7 := hc7.row' hr6
    have hA7 := hc7.row' hA6
    refine L.al20 (sumL_len _) rfl (fun _ => rfl) (fun _ => rfl) ?_
    have h78 : Cons M7 (M7 ++ [newR (bv (sumL (l.take q))) 24]) := Cons.push _ _
    have hB8 : Mem.row? (M7 ++ [newR (bv (sumL (l.take q))) 24]) M7.length = some (newR (bv (sumL (l.take q))) 24) := row_push_new rfl
    have hr8 := h78.row' hr7
    have hA8 := h78.row' hA7
    have hc8 := (hc6.trans hc7).trans h78
    have hltB : rh < M7.length := row_lt hr7
    obtain ⟨rB, hrB⟩ : ∃ rB, rB = M7.length := ⟨_, rfl⟩
    rw [← hrB] at hB8 hltB ⊢
    clear hr7 hA7 hr6 hA6 hc6 hc7 h78 hk6 hk5 hrB s1 k1 q1 f1 hr5 hA5 hc5
    generalize M7 ++ [newR (bv (sumL (l.take q))) 24] = M8 at *
    repeat (first | refine W.seq ?_ | refine W.block ?_ | refine W.reg ?_ | refine W.skip ?_ | refine W.exit ?_ | refine W.ret ?_ | refine L.nil ?_ | refine L.p rfl rfl ?_ | refine L.skip rfl ?_)
    obtain ⟨a1, c1, q1, s1, k1, f1⟩ := part_b (k := q) (h := l.length) (lo := some (vi q)) (hi := none) (hs.cons hc8) (.inr ⟨.i64, rfl⟩) (.inl ⟨rfl, rfl⟩) hql (Nat.le_refl _) hc
    refine L.is (.slice a1 ((l.drop q).take (l.length - q)).length c1) ?_ rfl ?_
    · rw [slice_at (a := a) (n := l.length) (c := c) rfl rfl rfl (fun _ => hc.1)]
      exact q1
    refine L.cl (write_C rh _ _ _ _ _ _ hr8 hm6 s1 k1 (fun _ x hx => by obtain ⟨y, hy, hyb⟩ := f1 x hx; have := hfar y hy; omega) (by simp; omega)) rfl rfl ?_
    rintro v M9 ⟨hk9, r9, hr9, hm9⟩
    refine ⟨nofun, ?_⟩
    have hx3 : l.take q ++ (l.drop q).take (l.length - q) = l := by rw [← List.take_add, show q + (l.length - q) = l.length by omega, List.take_length]
    rw [hx3] at hm9
    have hc9 : Cons S0 M9 := Keep.mono hc8 (by omega) hk9
    have hA9 := hk9.row hA8 (by omega)
    have hB9 := hk9.row hB8 (by omega)
    clear s1 k1 q1 f1
    repeat (first | refine W.seq ?_ | refine W.block ?_ | refine W.reg ?_ | refine W.skip ?_ | refine W.exit ?_ | refine W.ret ?_ | refine L.nil ?_ | refine L.p rfl rfl ?_ | refine L.skip rfl ?_)
    refine L.ldA (a := ⟨rA, 0, none⟩) (load20 hA9 (sumL_len _)) rfl rfl rfl ?_
    repeat (first | refine W.seq ?_ | refine W.block ?_ | refine W.reg ?_ | refine W.skip ?_ | refine W.exit ?_ | refine W.ret ?_ | refine L.nil ?_ | refine L.p rfl rfl ?_ | refine L.skip rfl ?_)
    obtain ⟨a1, c1, q1, s1, k1, f1⟩ := part_b (k := 0) (h := p) (lo := none) (hi := some (vi p)) (hs.cons hc9) (.inl ⟨rfl, rfl⟩) (.inr ⟨.i64, rfl⟩) (by omega) (by omega) hc
    refine L.is (.slice a1 ((l.drop 0).take (p - 0)).length c1) ?_ rfl ?_
    · rw [slice_at (a := a) (n := l.length) (c := c) rfl rfl rfl (fun _ => hc.1)]
      exact q1
    refine L.cl (sum_C _ _ _ M9 s1 k1 (by simp; omega)) rfl rfl ?_
    rintro _ M10 ⟨rfl, hc10⟩
    refine ⟨fun _ => hc10, ?_⟩
    refine L.ne20 rfl rfl (sumL_len _) (sumL_len _) rfl ?_
    rw [show (!(sumL (l.take p) == sumL ((l.drop 0).take (p - 0)))) = false by simp]
    repeat (first | refine W.seq ?_ | refine W.block ?_ | refine W.reg ?_ | refine W.skip ?_ | refine W.exit ?_ | refine W.ret ?_ | refine L.nil ?_ | refine L.p rfl rfl ?_ | refine L.skip rfl ?_)
    refine L.ldA (a := ⟨rB, 0, none⟩) (load20 (hc10.row' hB9) (sumL_len _)) rfl rfl rfl ?_
    repeat (first | refine W.seq ?_ | refine W.block ?_ | refine W.reg ?_ | refine W.skip ?_ | refine W.exit ?_ | refine W.ret ?_ | refine L.nil ?_ | refine L.p rfl rfl ?_ | refine L.skip rfl ?_)
    clear s1 k1 q1 f1
    obtain ⟨a1, c1, q1, s1, k1, f1⟩ := part_b (k := 0) (h := q) (lo := none) (hi := some (vi q)) (hs.cons (hc9.trans hc10)) (.inl ⟨rfl, rfl⟩) (.inr ⟨.i64, rfl⟩) (by omega) (by omega) hc
    refine L.is (.slice a1 ((l.drop 0).take (q - 0)).length c1) ?_ rfl ?_
    · rw [slice_at (a := a) (n := l.length) (c := c) rfl rfl rfl (fun _ => hc.1)]
      exact q1
    refine L.cl (sum_C _ _ _ M10 s1 k1 (by simp; omega)) rfl rfl ?_
    rintro _ M11 ⟨rfl, hc11⟩
    refine ⟨fun _ => hc11, ?_⟩
    refine L.ne20 rfl rfl (sumL_len _) (sumL_len _) rfl ?_
    rw [show (!(sumL (l.take q) == sumL ((l.drop 0).take (q - 0)))) = false by simp]
    repeat (first | refine W.seq ?_ | refine W.block ?_ | refine W.reg ?_ | refine W.skip ?_ | refine W.exit ?_ | refine W.ret ?_ | refine L.nil ?_ | refine L.p rfl rfl ?_ | refine L.skip rfl ?_)
    have hD11 := hc10.trans hc11
    refine L.cl (hsum_C rh l r9 M11 (hD11.row' hr9) hm9 (by omega)) rfl rfl ?_
    rintro _ M12 ⟨rfl, hcA⟩
    refine ⟨fun _ => hcA, ?_⟩
    repeat (first | refine W.seq ?_ | refine W.block ?_ | refine W.reg ?_ | refine W.skip ?_ | refine W.exit ?_ | refine W.ret ?_ | refine L.nil ?_ | refine L.p rfl rfl ?_ | refine L.skip rfl ?_)
    refine L.cl (sum_C l a c M12 (hs.cons ((hc9.trans hD11).trans hcA)) (.inl hc) (by omega)) rfl rfl ?_
    rintro _ M13 ⟨rfl, hcB⟩
    refine ⟨fun _ => hcB, ?_⟩
    refine L.ne20 rfl rfl (sumL_len _) (sumL_len _) rfl ?_
    rw [show (!(sumL l == sumL l)) = false by simp]
    have hD13 := (hD11.trans hcA).trans hcB
    clear hcA hcB
    repeat (first | refine W.seq ?_ | refine W.block ?_ | refine W.reg ?_ | refine W.skip ?_ | refine W.exit ?_ | refine W.ret ?_ | refine L.nil ?_ | refine L.p rfl rfl ?_ | refine L.skip rfl ?_)
    refine L.cl (hsum_C rh l r9 M13 (hD13.row' hr9) hm9 (by omega)) rfl rfl ?_
    rintro _ M14 ⟨rfl, hcA⟩
    refine ⟨fun _ => hcA, ?_⟩
    repeat (first | refine W.seq ?_ | refine W.block ?_ | refine W.reg ?_ | refine W.skip ?_ | refine W.exit ?_ | refine W.ret ?_ | refine L.nil ?_ | refine L.p rfl rfl ?_ | refine L.skip rfl ?_)
    refine L.cl (sum_C l a c M14 (hs.cons ((hc9.trans hD13).trans hcA)) (.inl hc) (by omega)) rfl rfl ?_
    rintro _ M15 ⟨rfl, hcB⟩
    refine ⟨fun _ => hcB, ?_⟩
    refine L.ne20 rfl rfl (sumL_len _) (sumL_len _) rfl ?_
    rw [show (!(sumL l == sumL l)) = false by simp]
    have hD15 := (hD13.trans hcA).trans hcB
    clear hcA hcB
    repeat (first | refine W.seq ?_ | refine W.block ?_ | refine W.reg ?_ | refine W.skip ?_ | refine W.exit ?_ | refine W.ret ?_ | refine L.nil ?_ | refine L.p rfl rfl ?_ | refine L.skip rfl ?_)
    obtain ⟨blk9, hb9, rfl, hw9⟩ := id hm9
    refine L.cl (len_C rh _ (BitVec.ofNat 64 l.length) M15 (hD15.row' hr9) (hash_n _ _ hb9)) rfl rfl ?_
    rintro _ _ ⟨rfl, rfl⟩
    refine ⟨fun _ => Cons.refl _, ?_⟩
    repeat (first | refine W.seq ?_ | refine W.block ?_ | refine W.reg ?_ | refine W.skip ?_ | refine W.exit ?_ | refine W.ret ?_ | refine L.nil ?_ | refine L.p rfl rfl ?_ | refine L.skip rfl ?_)
    have hw64 : IntKind.u64.wrap (l.length : Int) = ((BitVec.ofNat 64 l.length).toNat : Int) := by rw [wrapU64 (by omega) (by omega), ofNat_toNat (by omega)]
    refine W.ite rfl (fun h => ?_) (fun h => ?_)
    · rw [hw64] at h; simp at h
    clear h
    have hrF := hD15.row' hr9
    have hcF := hc9.trans hD15
    rename_i M15
    clear hD15 hD13 hD11 hc10 hc11 hr8 hA8 hB8 hA9 hB9 hA4 hr4 hk9 s1 k1 q1 f1 hr0
    repeat (first | refine W.seq ?_ | refine W.block ?_ | refine W.reg ?_ | refine W.skip ?_ | refine W.exit ?_ | refine W.ret ?_ | refine L.nil ?_ | refine L.p rfl rfl ?_ | refine L.skip rfl ?_)
    refine L.cl (reset_C rh _ M15 hrF rfl (by simp [newR, hashCells, cells5, bv_len, hb9])) rfl rfl ?_
    rintro _ M16 rfl
    refine ⟨nofun, ?_⟩
    have hr16 : Mem.row? (M15.set rh { newR (hashCells (hst l (l.length / 64)) blk9 (BitVec.ofNat 64 l.length)) 55 with cells := hashCells st0 (List.replicate 64 0#8) 0#64 }) rh = some (newR (hashCells st0 (List.replicate 64 0#8) 0#64) 55) := row_set_same hrF rfl
    have hc16 := hcF.set rh { newR (hashCells (hst l (l.length / 64)) blk9 (BitVec.ofNat 64 l.length)) 55 with cells := hashCells st0 (List.replicate 64 0#8) 0#64 } (by omega)
    generalize M15.set rh { newR (hashCells (hst l (l.length / 64)) blk9 (BitVec.ofNat 64 l.length)) 55 with cells := hashCells st0 (List.replicate 64 0#8) 0#64 } = M16 at *
    repeat (first | refine W.seq ?_ | refine W.block ?_ | refine W.reg ?_ | refine W.skip ?_ | refine W.exit ?_ | refine W.ret ?_ | refine L.nil ?_ | refine L.p rfl rfl ?_ | refine L.skip rfl ?_)
    obtain ⟨a1, c1, q1, s1, k1, f1⟩ := part_b (k := p) (h := l.length) (lo := some (vi p)) (hi := none) (hs.cons hc16) (.inr ⟨.i64, rfl⟩) (.inl ⟨rfl, rfl⟩) (by omega) (Nat.le_refl _) hc
    refine L.is (.slice a1 ((l.drop p).take (l.length - p)).length c1) ?_ rfl ?_
    · rw [slice_at (a := a) (n := l.length) (c := c) rfl rfl rfl (fun _ => hc.1)]
      exact q1
    refine L.cl (write_C rh [] _ _ _ _ _ hr16 HS_new s1 k1 (fun _ x hx => by obtain ⟨y, hy, hyb⟩ := f1 x hx; have := hfar y hy; omega) (by simp; omega)) rfl rfl ?_
    rintro v M17 ⟨hk17, r17, hr17, hm17⟩
    refine ⟨nofun, ?_⟩
    rw [List.nil_append] at hm17
    have hc17 : Cons S0 M17 := Keep.mono hc16 (by omega) hk17
    clear s1 k1 q1 f1
    repeat (first | refine W.seq ?_ | refine W.block ?_ | refine W.reg ?_ | refine W.skip ?_ | refine W.exit ?_ | refine W.ret ?_ | refine L.nil ?_ | refine L.p rfl rfl ?_ | refine L.skip rfl ?_)
    refine L.cl (hsum_C rh _ r17 M17 hr17 hm17 (by simp; omega)) rfl rfl ?_
    rintro _ M18 ⟨rfl, hc18⟩
    refine ⟨fun _ => hc18, ?_⟩
    repeat (first | refine W.seq ?_ | refine W.block ?_ | refine W.reg ?_ | refine W.skip ?_ | refine W.exit ?_ | refine W.ret ?_ | refine L.nil ?_ | refine L.p rfl rfl ?_ | refine L.skip rfl ?_)
    obtain ⟨a1, c1, q1, s1, k1, f1⟩ := part_b (k := p) (h := l.length) (lo := some (vi p)) (hi := none) (hs.cons (hc17.trans hc18)) (.inr ⟨.i64, rfl⟩) (.inl ⟨rfl, rfl⟩) (by omega) (Nat.le_refl _) hc
    refine L.is (.slice a1 ((l.drop p).take (l.length - p)).length c1) ?_ rfl ?_
    · rw [slice_at (a := a) (n := l.length) (c := c) rfl rfl rfl (fun _ => hc.1)]
      exact q1
    refine L.cl (sum_C _ _ _ M18 s1 k1 (by simp; omega)) rfl rfl ?_
    rintro _ M19 ⟨rfl, hc19⟩
    refine ⟨fun _ => hc19, ?_⟩
    refine L.eq20 rfl rfl (sumL_len _) (sumL_len _) rfl ?_
    rw [show (sumL ((l.drop p).take (l.length - p)) == sumL ((l.drop p).take (l.length - p))) = true from beq_self_eq_true _]
    repeat (first | refine W.seq ?_ | refine W.block ?_ | refine W.reg ?_ | refine W.skip ?_ | refine W.exit ?_ | refine W.ret ?_ | refine L.nil ?_ | refine L.p rfl rfl ?_ | refine L.skip rfl ?_)
    refine L.cl (works_C _) rfl rfl ?_
    rintro _ M20 ⟨rfl, hc20⟩
    refine ⟨fun _ => hc20, ?_⟩
    repeat (first | refine W.seq ?_ | refine W.block ?_ | refine W.reg ?_ | refine W.skip ?_ | refine W.exit ?_ | refine W.ret ?_ | refine L.nil ?_ | refine L.p rfl rfl ?_ | refine L.skip rfl ?_)
    exact ⟨.inr rfl, _, rfl, rfl, ((hc17.trans hc18).trans hc19).trans hc20⟩
end Go.Proofs.Yteadbbimikcmgaa
