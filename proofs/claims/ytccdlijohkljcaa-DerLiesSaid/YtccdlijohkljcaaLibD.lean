/- What several proofs share, part 4: a model of memory, contracts of functions. Conditions: none. -/
import Derived.Test.YtccdlijohkljcaaLibC

/- Layer 7: an item's bytes are laid out. Conditions: none. -/
set_option linter.unusedSimpArgs false
set_option linter.unusedVariables false
set_option maxRecDepth 100000
namespace Go.Proofs.Ytccdlijohkljcaa
open Go
variable {G : Nat} {Ext : FuncId → List Value → Mem → Outc → Mem → Prop}

/-- an item's bytes -/
def laidS (tag : BitVec 8) (l : BL) : BL := if l.length < 128 then tag :: BitVec.ofNat 8 l.length :: l else tag :: BitVec.ofNat 8 (128 + (toB l.length).length) :: (toB l.length ++ l)
theorem laidS_len (tag : BitVec 8) (l : BL) : (laidS tag l).length ≤ l.length + 2 + (toB l.length).length := by
  unfold laidS; split <;> simp <;> omega
theorem wrap_of8 (n : Nat) : IntKind.u8.wrap (n : Int) = ((BitVec.ofNat 8 n).toNat : Int) := by
  simp [IntKind.wrap, IntKind.signed, IntKind.bits]
theorem one_slv {S : Mem} {b : Nat} {x : BitVec 8} (hr : S.row? b = some (newR [v8 x] 5)) : Slv S 1 (.slice (some ⟨b, 0, none⟩) 1 1) 1 (bv [x]) := Slv.all hr rfl rfl
theorem Parts.nil (S : Mem) : Parts S [] [] := ⟨rfl, fun i l h => by simp at h⟩
theorem Parts.add {S : Mem} {a : Option Addr} {c n : Nat} {l : BL} {vs : List Value} {ps : List BL} (h : Slv S 1 (.slice a n c) n (bv l)) (hn : n = l.length) (k : Parts S vs ps) : Parts S (.slice a n c :: vs) (l :: ps) := by
  subst hn
  refine ⟨by simp [k.1], fun i m hm => ?_⟩
  cases i with
  | zero => simp at hm; subst hm; exact ⟨a, c, rfl, h⟩
  | succ i => simpa using k.2 i m (by simpa using hm)
theorem toB_lt {n : Nat} (h : n < 1099511627776) : (toB n).length ≤ 5 := by
  rw [toB_len]; unfold bsz
  have : blen n ≤ 40 := blen_le.2 (by omega)
  omega
theorem small1 (x : BitVec 64) : small [x] = true := by
  unfold small
  have : (fm [x]).length ≤ 1 := toW_len_le [x]
  simp; omega
theorem laid_C (tag : BitVec 8) (a : Option Addr) (c : Nat) (l : BL) (S : Mem) (hs : Slv S 1 (.slice a l.length c) l.length (bv l)) (hl : l.length < 549755813888) : C Try.prog G Ext 46 [v8 tag, .slice a l.length c] S fun v S' => ∃ d : Hd, v = d.v ∧ RetB S S' d (laidS tag l) := by
  refine C.fn Try.func46 rfl (by kernel_rfl) rfl ?_
  repeat (first | refine W.seq ?_ | refine W.block ?_ | refine W.reg ?_ | refine W.skip ?_ | refine W.exit ?_ | refine W.ret ?_ | refine L.nil ?_ | refine L.p rfl rfl ?_ | refine L.skip rfl ?_)
  refine L.bs [v8 tag] rfl rfl rfl rfl rfl rfl ?_
  have hcA : Cons S (S ++ [newR [v8 tag] 5]) := Cons.push _ _
  have hrA : Mem.row? (S ++ [newR [v8 tag] 5]) S.length = some (newR [v8 tag] 5) := row_push_new rfl
  generalize S ++ [newR [v8 tag] 5] = SA at *
  have hsA := one_slv hrA
  repeat (first | refine W.seq ?_ | refine W.block ?_ | refine W.reg ?_ | refine W.skip ?_ | refine W.exit ?_ | refine W.ret ?_ | refine L.nil ?_ | refine L.p rfl rfl ?_ | refine L.skip rfl ?_)
  refine W.ite rfl (fun h => ?_) (fun h => ?_)
  · have hlt : l.length < 128 := by have := of_decide_eq_true h; omega
    clear h
    repeat (first | refine W.seq ?_ | refine W.block ?_ | refine W.reg ?_ | refine W.skip ?_ | refine W.exit ?_ | refine W.ret ?_ | refine L.nil ?_ | refine L.p rfl rfl ?_ | refine L.skip rfl ?_)
    rw [wrap_of8]
    refine L.bs [v8 (BitVec.ofNat 8 l.length)] rfl rfl rfl rfl rfl rfl ?_
    have hcB : Cons SA (SA ++ [newR [v8 (BitVec.ofNat 8 l.length)] 5]) := Cons.push _ _
    have hrB : Mem.row? (SA ++ [newR [v8 (BitVec.ofNat 8 l.length)] 5]) SA.length = some (newR [v8 (BitVec.ofNat 8 l.length)] 5) := row_push_new rfl
    generalize SA ++ [newR [v8 (BitVec.ofNat 8 l.length)] 5] = SB at *
    have hsB := one_slv hrB
    repeat (first | refine W.seq ?_ | refine W.block ?_ | refine W.reg ?_ | refine W.skip ?_ | refine W.exit ?_ | refine W.ret ?_ | refine L.nil ?_ | refine L.p rfl rfl ?_ | refine L.skip rfl ?_)
    refine L.bs [.slice (some ⟨S.length, 0, none⟩) 1 1, .slice (some ⟨SA.length, 0, none⟩) 1 1, .slice a l.length c] rfl rfl rfl rfl rfl rfl ?_
    have hcC : Cons SB (SB ++ [newR [.slice (some ⟨S.length, 0, none⟩) 1 1, .slice (some ⟨SA.length, 0, none⟩) 1 1, .slice a l.length c] 22]) := Cons.push _ _
    have hrC : Mem.row? (SB ++ [newR [.slice (some ⟨S.length, 0, none⟩) 1 1, .slice (some ⟨SA.length, 0, none⟩) 1 1, .slice a l.length c] 22]) SB.length = some (newR [.slice (some ⟨S.length, 0, none⟩) 1 1, .slice (some ⟨SA.length, 0, none⟩) 1 1, .slice a l.length c] 22) := row_push_new rfl
    generalize SB ++ [newR [.slice (some ⟨S.length, 0, none⟩) 1 1, .slice (some ⟨SA.length, 0, none⟩) 1 1, .slice a l.length c] 22] = SC at *
    refine L.cl (concat_C (some ⟨SB.length, 0, none⟩) 3 _ [[tag], [BitVec.ofNat 8 l.length], l] SC (Slv.all hrC rfl rfl) (.add ((hsA.cons hcB).cons hcC) rfl (.add (hsB.cons hcC) rfl (.add (((hs.cons hcA).cons hcB).cons hcC) rfl (.nil _)))) (by simp) (by simp; omega) (by simp)) rfl rfl ?_
    rintro _ S' ⟨d, rfl, hR⟩
    refine ⟨nofun, ?_⟩
    repeat (first | refine W.seq ?_ | refine W.block ?_ | refine W.reg ?_ | refine W.skip ?_ | refine W.exit ?_ | refine W.ret ?_ | refine L.nil ?_ | refine L.p rfl rfl ?_ | refine L.skip rfl ?_)
    refine ⟨.inr rfl, _, rfl, d, rfl, ?_⟩
    unfold laidS
    rw [if_pos hlt]
    have hR2 := ((hR.pre hcC).pre hcB).pre hcA
    rwa [show [[tag], [BitVec.ofNat 8 l.length], l].flatten = tag :: BitVec.ofNat 8 l.length :: l by simp] at hR2
  have hge : ¬ l.length < 128 := by have := of_decide_eq_false h; omega
  clear h
  obtain ⟨x, hx⟩ : ∃ x : BitVec 64, x = BitVec.ofNat 64 l.length := ⟨_, rfl⟩
  have hxn : x.toNat = l.length := by rw [hx, BitVec.toNat_ofNat, Nat.mod_eq_of_lt (by omega)]
  repeat (first | refine W.seq ?_ | refine W.block ?_ | refine W.reg ?_ | refine W.skip ?_ | refine W.exit ?_ | refine W.ret ?_ | refine L.nil ?_ | refine L.p rfl rfl ?_ | refine L.skip rfl ?_)
  rw [show IntKind.u64.wrap (l.length : Int) = (x.toNat : Int) by rw [wrapU64 (by omega) (by omega), hxn]]
  refine L.bs [v64 x] rfl rfl rfl rfl rfl rfl ?_
  have hcB : Cons SA (SA ++ [newR [v64 x] 56]) := Cons.push _ _
  have hrB : Mem.row? (SA ++ [newR [v64 x] 56]) SA.length = some (newR [v64 x] 56) := row_push_new rfl
  generalize SA ++ [newR [v64 x] 56] = SB at *
  have hWB : WIn SB (some ⟨SA.length, 0, none⟩) 1 [x] := ⟨Slv.all hrB rfl rfl, Nat.le_refl 1, nofun, by simp⟩
  repeat (first | refine W.seq ?_ | refine W.block ?_ | refine W.reg ?_ | refine W.skip ?_ | refine W.exit ?_ | refine W.ret ?_ | refine L.nil ?_ | refine L.p rfl rfl ?_ | refine L.skip rfl ?_)
  refine L.cl (natBytes_C (some ⟨SA.length, 0, none⟩) 1 [x] SB hWB) rfl rfl ?_
  rintro _ S1 ⟨d1, rfl, hR1⟩
  refine ⟨nofun, ?_⟩
  have hB1 : bytesL [x] = toB l.length := by unfold bytesL; rw [small1, if_pos rfl]; simp [wnum, hxn]
  have hE1 : toldE [x] = 0 := by unfold toldE; rw [small1, if_pos rfl]
  rw [hB1] at hR1
  rw [hE1]
  repeat (first | refine W.seq ?_ | refine W.block ?_ | refine W.reg ?_ | refine W.skip ?_ | refine W.exit ?_ | refine W.ret ?_ | refine L.nil ?_ | refine L.p rfl rfl ?_ | refine L.skip rfl ?_)
  refine L.fail (so := false) rfl rfl (fun h => ?_) (fun h => ?_)
  · cases h
  clear h
  have hdn : d1.n = (toB l.length).length := by have := hR1.2.2.1.len; rw [bv_len] at this; exact this.symm
  have htl := toB_lt (n := l.length) (by omega)
  repeat (first | refine W.seq ?_ | refine W.block ?_ | refine W.reg ?_ | refine W.skip ?_ | refine W.exit ?_ | refine W.ret ?_ | refine L.nil ?_ | refine L.p rfl rfl ?_ | refine L.skip rfl ?_)
  rw [show IntKind.u8.wrap (IntKind.i64.wrap (128 + (d1.n : Int))) = ((BitVec.ofNat 8 (128 + (toB l.length).length)).toNat : Int) by
    rw [wrap64 (x := 128 + (d1.n : Int)) (by omega) (by omega), show (128 + (d1.n : Int)) = ((128 + (toB l.length).length : Nat) : Int) by omega, wrap_of8]]
  refine L.bs [v8 (BitVec.ofNat 8 (128 + (toB l.length).length))] rfl rfl rfl rfl rfl rfl ?_
  have hcC : Cons S1 (S1 ++ [newR [v8 (BitVec.ofNat 8 (128 + (toB l.length).length))] 5]) := Cons.push _ _
  have hrC : Mem.row? (S1 ++ [newR [v8 (BitVec.ofNat 8 (128 + (toB l.length).length))] 5]) S1.length = some (newR [v8 (BitVec.ofNat 8 (128 + (toB l.length).length))] 5) := row_push_new rfl
  generalize S1 ++ [newR [v8 (BitVec.ofNat 8 (128 + (toB l.length).length))] 5] = SC at *
  have hsC := one_slv hrC
  repeat (first | refine W.seq ?_ | refine W.block ?_ | refine W.reg ?_ | refine W.skip ?_ | refine W.exit ?_ | refine W.ret ?_ | refine L.nil ?_ | refine L.p rfl rfl ?_ | refine L.skip rfl ?_)
  refine L.bs [.slice (some ⟨S.length, 0, none⟩) 1 1, .slice (some ⟨S1.length, 0, none⟩) 1 1, d1.v, .slice a l.length c] rfl rfl rfl rfl rfl rfl ?_
  have hcD : Cons SC (SC ++ [newR [.slice (some ⟨S.length, 0, none⟩) 1 1, .slice (some ⟨S1.length, 0, none⟩) 1 1, d1.v, .slice a l.length c] 22]) := Cons.push _ _
  have hrD : Mem.row? (SC ++ [newR [.slice (some ⟨S.length, 0, none⟩) 1 1, .slice (some ⟨S1.length, 0, none⟩) 1 1, d1.v, .slice a l.length c] 22]) SC.length = some (newR [.slice (some ⟨S.length, 0, none⟩) 1 1, .slice (some ⟨S1.length, 0, none⟩) 1 1, d1.v, .slice a l.length c] 22) := row_push_new rfl
  generalize SC ++ [newR [.slice (some ⟨S.length, 0, none⟩) 1 1, .slice (some ⟨S1.length, 0, none⟩) 1 1, d1.v, .slice a l.length c] 22] = SD at *
  have hA1 := hcB.trans hR1.1
  refine L.cl (concat_C (some ⟨SC.length, 0, none⟩) 4 _ [[tag], [BitVec.ofNat 8 (128 + (toB l.length).length)], toB l.length, l] SD (Slv.all hrD rfl rfl) (.add (((hsA.cons hA1).cons hcC).cons hcD) rfl (.add (hsC.cons hcD) rfl (.add ((hR1.2.2.1.slv.cons hcC).cons hcD) hdn (.add ((((hs.cons hcA).cons hA1).cons hcC).cons hcD) rfl (.nil _))))) (by simp) (by simp; omega) (by simp)) rfl rfl ?_
  rintro _ S' ⟨d, rfl, hR⟩
  refine ⟨nofun, ?_⟩
  repeat (first | refine W.seq ?_ | refine W.block ?_ | refine W.reg ?_ | refine W.skip ?_ | refine W.exit ?_ | refine W.ret ?_ | refine L.nil ?_ | refine L.p rfl rfl ?_ | refine L.skip rfl ?_)
  refine ⟨.inr rfl, _, rfl, d, rfl, ?_⟩
  unfold laidS
  rw [if_neg hge]
  have hR2 := (((hR.pre hcD).pre hcC).pre hA1).pre hcA
  rwa [show [[tag], [BitVec.ofNat 8 (128 + (toB l.length).length)], toB l.length, l].flatten = tag :: BitVec.ofNat 8 (128 + (toB l.length).length) :: (toB l.length ++ l) by simp] at hR2
end Go.Proofs.Ytccdlijohkljcaa

/- Layer 1's reference: numbers out of bytes, bytes out of numbers. Conditions: none. -/
set_option linter.unusedSimpArgs false
set_option linter.unusedVariables false
set_option maxRecDepth 100000
namespace Go.Proofs.Ytccdlijohkljcaa
open Go
variable {G : Nat} {Ext : FuncId → List Value → Mem → Outc → Mem → Prop}

theorem strip0_drop {b : BL} {z : Nat} (h0 : ∀ i, i < z → b[i]? = some 0#8) (hz : z ≤ b.length) (hc : z = b.length ∨ b[z]? ≠ some 0#8) : strip0 b = b.drop z := by
  induction z generalizing b with
  | zero =>
    cases b with
    | nil => rfl
    | cons x b =>
      have hx : x ≠ 0#8 := by
        rcases hc with hc | hc
        · simp at hc
        · simpa using hc
      unfold strip0
      rw [List.dropWhile_cons_of_neg (by simpa using hx)]; rfl
  | succ z ih =>
    cases b with
    | nil => simp at hz
    | cons x b =>
      have hx : x = 0#8 := by simpa using h0 0 (by omega)
      have := ih (b := b) (fun i hi => by simpa using h0 (i + 1) (by omega)) (by simpa using hz) (by rcases hc with hc | hc; exact .inl (by simpa using hc); exact .inr (by simpa using hc))
      unfold strip0 at this ⊢
      rw [List.dropWhile_cons_of_pos (by simp [hx]), this]; rfl
theorem refFrom_C (a : Option Addr) (c : Nat) (b : BL) (S : Mem) (hI : BIn S a c b) : C Try.prog G Ext 52 [.slice a b.length c] S fun v S' => ∃ a' c', v = .tuple #[.slice a' (fromL b).length c', .int .i64 (fromE b)] ∧ Cons S S' ∧ WIn S' a' c' (fromL b) := by
  refine C.fn Try.func52 rfl (by kernel_rfl) rfl ?_
  have hbl := hI.2.2
  repeat (first | refine W.seq ?_ | refine W.block ?_ | refine W.reg ?_ | refine W.skip ?_ | refine W.exit ?_ | refine W.ret ?_ | refine L.nil ?_ | refine L.p rfl rfl ?_ | refine L.skip rfl ?_)
  refine W.loop (fun j e S' => ∃ z : Nat, j = b.length - z ∧ z ≤ b.length ∧ S' = S ∧ e 0 = .slice a b.length c ∧ e 4 = vi z ∧ ∀ i, i < z → b[i]? = some 0#8) b.length ⟨0, by omega, by omega, rfl, rfl, rfl, fun i h => by omega⟩ ?_
  rintro j e S' ⟨z, rfl, hz, rfl, e0, e4, h0⟩
  refine W.env2 e0 e4 ?_
  repeat (first | refine W.seq ?_ | refine W.block ?_ | refine W.reg ?_ | refine W.skip ?_ | refine W.exit ?_ | refine W.ret ?_ | refine L.nil ?_ | refine L.p rfl rfl ?_ | refine L.skip rfl ?_)
  cases hb : decide ((z : Int) < (b.length : Int))
  · have hzl : z = b.length := by have := of_decide_eq_false hb; omega
    clear hb
    have hF : strip0 b = b.drop z := strip0_drop h0 hz (.inl hzl)
    repeat (first | refine W.seq ?_ | refine W.block ?_ | refine W.reg ?_ | refine W.skip ?_ | refine W.exit ?_ | refine W.ret ?_ | refine L.nil ?_ | refine L.p rfl rfl ?_ | refine L.skip rfl ?_)
    refine W.ite rfl (fun h => ?_) (fun h => ?_)
    · cases h
    clear h hzl h0
    have hdl : (b.drop z).length = b.length - z := List.length_drop
    obtain ⟨m, hm⟩ : ∃ m, m = b.drop z := ⟨_, rfl⟩
    rw [← hm] at hF hdl
    repeat (first | refine W.seq ?_ | refine W.block ?_ | refine W.reg ?_ | refine W.skip ?_ | refine W.exit ?_ | refine W.ret ?_ | refine L.nil ?_ | refine L.p rfl rfl ?_ | refine L.skip rfl ?_)
    have e25 : IntKind.i64.wrap ((b.length : Int) - (z : Int)) = (m.length : Int) := by rw [wrap64 (by omega) (by omega)]; omega
    rw [e25]
    refine W.ite rfl (fun h => ?_) (fun h => ?_)
    · have hbig : ¬ m.length ≤ 1024 := by have := of_decide_eq_true h; omega
      repeat (first | refine W.seq ?_ | refine W.block ?_ | refine W.reg ?_ | refine W.skip ?_ | refine W.exit ?_ | refine W.ret ?_ | refine L.nil ?_ | refine L.p rfl rfl ?_ | refine L.skip rfl ?_)
      refine ⟨.inr rfl, _, rfl, none, 0, ?_, Cons.refl _, ?_⟩
      · unfold fromE fromL; rw [hF, if_neg hbig, if_neg hbig]; rfl
      · unfold fromL; rw [hF, if_neg hbig]; exact ⟨Slv.nil _ _ _ _, Nat.zero_le _, fun _ => rfl, by decide⟩
    have hsm : m.length ≤ 1024 := by have := of_decide_eq_false h; omega
    clear h
    repeat (first | refine W.seq ?_ | refine W.block ?_ | refine W.reg ?_ | refine W.skip ?_ | refine W.exit ?_ | refine W.ret ?_ | refine L.nil ?_ | refine L.p rfl rfl ?_ | refine L.skip rfl ?_)
    rw [e25]
    have hq := up8 (n := m.length) (by omega)
    refine L.mk (n := (m.length + 7) / 8) (m := (m.length + 7) / 8) (bytes := 8) (zv := v64 0#64) rfl rfl hq rfl hq (Nat.le_refl _) (by omega) rfl rfl ?_
    have hr : Mem.row? (S' ++ [newR (List.replicate ((m.length + 7) / 8) (v64 0#64)) 56]) S'.length = some (newR (List.replicate ((m.length + 7) / 8) (v64 0#64)) 56) := row_push_new rfl
    have hc : Cons S' (S' ++ [newR (List.replicate ((m.length + 7) / 8) (v64 0#64)) 56]) := Cons.push _ _
    generalize S' ++ [newR (List.replicate ((m.length + 7) / 8) (v64 0#64)) 56] = S1 at *
    obtain ⟨ro, hro⟩ : ∃ ro, ro = S'.length := ⟨_, rfl⟩
    rw [← hro] at hr ⊢
    repeat (first | refine W.seq ?_ | refine W.block ?_ | refine W.reg ?_ | refine W.skip ?_ | refine W.exit ?_ | refine W.ret ?_ | refine L.nil ?_ | refine L.p rfl rfl ?_ | refine L.skip rfl ?_)
    refine W.loop (fun j e T => ∃ (i : Nat) (o : WL), j = m.length - i ∧ i ≤ m.length ∧ e 0 = .slice a b.length c ∧ e 5 = .slice (some ⟨ro, 0, none⟩) ((m.length + 7) / 8) ((m.length + 7) / 8) ∧ e 6 = vi (z + i) ∧
        Cons S' T ∧ T.row? ro = some (newR (wv o) 56) ∧ Laid m i o) m.length
      ⟨0, _, by omega, by omega, rfl, rfl, rfl, hc, by rw [hr]; simp [wv], laid_zero m⟩ ?_
    clear hr hc e0 e4
    rintro j e T ⟨i, o, rfl, hi, e0, e5, e6, hc, hr, hL⟩
    refine W.env3 e0 e5 e6 ?_
    repeat (first | refine W.seq ?_ | refine W.block ?_ | refine W.reg ?_ | refine W.skip ?_ | refine W.exit ?_ | refine W.ret ?_ | refine L.nil ?_ | refine L.p rfl rfl ?_ | refine L.skip rfl ?_)
    refine W.ite rfl (fun h => ?_) (fun h => ?_)
    · have hin : i < m.length := by have := of_decide_eq_true h; omega
      clear h
      obtain ⟨cc, hcc⟩ : ∃ cc, m[i]? = some cc := ⟨_, List.getElem?_eq_getElem hin⟩
      have hbc : b[z + i]? = some cc := by rw [hm, List.getElem?_drop] at hcc; exact hcc
      obtain ⟨x, hx, hL2⟩ := laid_step hL hcc
      obtain ⟨k, hk⟩ : ∃ k, k = m.length - 1 - i := ⟨_, rfl⟩
      rw [← hk] at hx hL2
      have e1 : IntKind.i64.wrap (IntKind.i64.wrap ((b.length : Int) - 1) - ((z + i : Nat) : Int)) = (k : Int) := by
        rw [wrap64 (x := (b.length : Int) - 1) (by omega) (by omega), wrap64 (by omega) (by omega)]; omega
      have e2 : IntKind.i64.wrap (Int.tdiv (k : Int) 8) = ((k / 8 : Nat) : Int) := by
        rw [show Int.tdiv (k : Int) 8 = ((k / 8 : Nat) : Int) from (Int.ofNat_tdiv k 8).symm, wrap64 (by omega) (by omega)]
      have e3 : IntKind.i64.wrap (8 * Int.tmod (k : Int) 8) = ((8 * (k % 8) : Nat) : Int) := by
        rw [show Int.tmod (k : Int) 8 = ((k % 8 : Nat) : Int) from (Int.ofNat_tmod k 8).symm, wrap64 (by omega) (by omega)]; omega
      have hsl : Slv T 1 (.slice (some ⟨ro, 0, none⟩) ((m.length + 7) / 8) ((m.length + 7) / 8)) ((m.length + 7) / 8) (wv o) := Slv.all hr rfl (by rw [wv_len, hL.1, Nat.mul_one])
      have hkl : k / 8 < (m.length + 7) / 8 := by rw [← hL.1]; exact (List.getElem?_eq_some_iff.1 hx).1
      repeat (first | refine W.seq ?_ | refine W.block ?_ | refine W.reg ?_ | refine W.skip ?_ | refine W.exit ?_ | refine W.ret ?_ | refine L.nil ?_ | refine L.p rfl rfl ?_ | refine L.skip rfl ?_)
      rw [e1]
      refine L.el hsl e2 (wv_get hx) rfl rfl rfl rfl (fun _ => rfl) rfl (fun p => ?_)
      repeat (first | refine W.seq ?_ | refine W.block ?_ | refine W.reg ?_ | refine W.skip ?_ | refine W.exit ?_ | refine W.ret ?_ | refine L.nil ?_ | refine L.p rfl rfl ?_ | refine L.skip rfl ?_)
      refine L.el (hI.cons hc).1 rfl (bv_get hbc) rfl rfl rfl rfl (fun _ => rfl) rfl (fun p => ?_)
      repeat (first | refine W.seq ?_ | refine W.block ?_ | refine W.reg ?_ | refine W.skip ?_ | refine W.exit ?_ | refine W.ret ?_ | refine L.nil ?_ | refine L.p rfl rfl ?_ | refine L.skip rfl ?_)
      refine L.shl (8 * (k % 8)) rfl rfl e3 (by rw [bits_u64]; omega) rfl ?_
      repeat (first | refine W.seq ?_ | refine W.block ?_ | refine W.reg ?_ | refine W.skip ?_ | refine W.exit ?_ | refine W.ret ?_ | refine L.nil ?_ | refine L.p rfl rfl ?_ | refine L.skip rfl ?_)
      refine L.elst hr rfl (by show 0 + _ ≤ (wv o).length; rw [wv_len, hL.1]; omega) e2 hkl rfl rfl rfl rfl (fun _ => rfl) (fun _ => rfl) rfl rfl rfl (fun p => ?_)
      repeat (first | refine W.seq ?_ | refine W.block ?_ | refine W.reg ?_ | refine W.skip ?_ | refine W.exit ?_ | refine W.ret ?_ | refine L.nil ?_ | refine L.p rfl rfl ?_ | refine L.skip rfl ?_)
      refine ⟨m.length - (i + 1), by omega, i + 1, _, rfl, by omega, rfl, rfl, ?_, hc.set _ _ (by omega), ?_, hL2⟩
      · refine (force_eq rfl).trans ?_
        rw [wrap64 (by omega) (by omega)]; rfl
      · rw [row_set_same hr rfl, Nat.zero_add]
        rw [or_shl]
        simp only [newR, wv, List.map_set]
    have hin : i = m.length := by have := of_decide_eq_false h; omega
    subst hin
    clear h
    have hfin : fm o = toW (bnum b) := by rw [← bnum_strip0 b, hF]; exact laid_any hL
    have hW : WIn T (some ⟨ro, 0, none⟩) ((m.length + 7) / 8) o := by
      refine ⟨?_, ?_, nofun, by rw [hL.1]; omega⟩
      · rw [hL.1]; exact Slv.all hr rfl (by rw [wv_len, hL.1, Nat.mul_one])
      · rw [hL.1]; unfold knownCap; rw [if_pos (by unfold UNK; omega)]; exact Nat.le_refl _
    repeat (first | refine W.seq ?_ | refine W.block ?_ | refine W.reg ?_ | refine W.skip ?_ | refine W.exit ?_ | refine W.ret ?_ | refine L.nil ?_ | refine L.p rfl rfl ?_ | refine L.skip rfl ?_)
    refine L.cl (strip_C _ _ o T hW) rfl (by rw [hL.1]; rfl) ?_
    rintro _ _ ⟨rfl, rfl⟩
    refine ⟨nofun, ?_⟩
    repeat (first | refine W.seq ?_ | refine W.block ?_ | refine W.reg ?_ | refine W.skip ?_ | refine W.exit ?_ | refine W.ret ?_ | refine L.nil ?_ | refine L.p rfl rfl ?_ | refine L.skip rfl ?_)
    refine ⟨.inr rfl, _, rfl, some ⟨ro, 0, none⟩, (m.length + 7) / 8, ?_, hc, ?_⟩
    · unfold fromE fromL; rw [hF, if_pos hsm, if_pos hsm, ← hfin]; rfl
    · unfold fromL; rw [hF, if_pos hsm, ← hfin]; exact hW.form
  have hzl : z < b.length := by have := of_decide_eq_true hb; omega
  clear hb
  obtain ⟨x, hx⟩ : ∃ x, b[z]? = some x := ⟨_, List.getElem?_eq_getElem hzl⟩
  repeat (first | refine W.seq ?_ | refine W.block ?_ | refine W.reg ?_ | refine W.skip ?_ | refine W.exit ?_ | refine W.ret ?_ | refine L.nil ?_ | refine L.p rfl rfl ?_ | refine L.skip rfl ?_)
  refine L.el hI.1 rfl (bv_get hx) rfl rfl rfl rfl (fun _ => rfl) rfl (fun p => ?_)
  repeat (first | refine W.seq ?_ | refine W.block ?_ | refine W.reg ?_ | refine W.skip ?_ | refine W.exit ?_ | refine W.ret ?_ | refine L.nil ?_ | refine L.p rfl rfl ?_ | refine L.skip rfl ?_)
  cases hx0 : (x == 0#8)
  · rw [show ((x.toNat : Int) == 0) = false by rw [v8_eq0]; exact hx0]
    have hF : strip0 b = b.drop z := strip0_drop h0 hz (.inr (by rw [hx]; simpa using hx0))
    repeat (first | refine W.seq ?_ | refine W.block ?_ | refine W.reg ?_ | refine W.skip ?_ | refine W.exit ?_ | refine W.ret ?_ | refine L.nil ?_ | refine L.p rfl rfl ?_ | refine L.skip rfl ?_)
    refine W.ite rfl (fun h => ?_) (fun h => ?_)
    · cases h
    clear h h0 hx0
    have hdl : (b.drop z).length = b.length - z := List.length_drop
    obtain ⟨m, hm⟩ : ∃ m, m = b.drop z := ⟨_, rfl⟩
    rw [← hm] at hF hdl
    repeat (first | refine W.seq ?_ | refine W.block ?_ | refine W.reg ?_ | refine W.skip ?_ | refine W.exit ?_ | refine W.ret ?_ | refine L.nil ?_ | refine L.p rfl rfl ?_ | refine L.skip rfl ?_)
    have e25 : IntKind.i64.wrap ((b.length : Int) - (z : Int)) = (m.length : Int) := by rw [wrap64 (by omega) (by omega)]; omega
    rw [e25]
    refine W.ite rfl (fun h => ?_) (fun h => ?_)
    · have hbig : ¬ m.length ≤ 1024 := by have := of_decide_eq_true h; omega
      repeat (first | refine W.seq ?_ | refine W.block ?_ | refine W.reg ?_ | refine W.skip ?_ | refine W.exit ?_ | refine W.ret ?_ | refine L.nil ?_ | refine L.p rfl rfl ?_ | refine L.skip rfl ?_)
      refine ⟨.inr rfl, _, rfl, none, 0, ?_, Cons.refl _, ?_⟩
      · unfold fromE fromL; rw [hF, if_neg hbig, if_neg hbig]; rfl
      · unfold fromL; rw [hF, if_neg hbig]; exact ⟨Slv.nil _ _ _ _, Nat.zero_le _, fun _ => rfl, by decide⟩
    have hsm : m.length ≤ 1024 := by have := of_decide_eq_false h; omega
    clear h
    repeat (first | refine W.seq ?_ | refine W.block ?_ | refine W.reg ?_ | refine W.skip ?_ | refine W.exit ?_ | refine W.ret ?_ | refine L.nil ?_ | refine L.p rfl rfl ?_ | refine L.skip rfl ?_)
    rw [e25]
    have hq := up8 (n := m.length) (by omega)
    refine L.mk (n := (m.length + 7) / 8) (m := (m.length + 7) / 8) (bytes := 8) (zv := v64 0#64) rfl rfl hq rfl hq (Nat.le_refl _) (by omega) rfl rfl ?_
    have hr : Mem.row? (S' ++ [newR (List.replicate ((m.length + 7) / 8) (v64 0#64)) 56]) S'.length = some (newR (List.replicate ((m.length + 7) / 8) (v64 0#64)) 56) := row_push_new rfl
    have hc : Cons S' (S' ++ [newR (List.replicate ((m.length + 7) / 8) (v64 0#64)) 56]) := Cons.push _ _
    generalize S' ++ [newR (List.replicate ((m.length + 7) / 8) (v64 0#64)) 56] = S1 at *
    obtain ⟨ro, hro⟩ : ∃ ro, ro = S'.length := ⟨_, rfl⟩
    rw [← hro] at hr ⊢
    repeat (first | refine W.seq ?_ | refine W.block ?_ | refine W.reg ?_ | refine W.skip ?_ | refine W.exit ?_ | refine W.ret ?_ | refine L.nil ?_ | refine L.p rfl rfl ?_ | refine L.skip rfl ?_)
    refine W.loop (fun j e T => ∃ (i : Nat) (o : WL), j = m.length - i ∧ i ≤ m.length ∧ e 0 = .slice a b.length c ∧ e 5 = .slice (some ⟨ro, 0, none⟩) ((m.length + 7) / 8) ((m.length + 7) / 8) ∧ e 6 = vi (z + i) ∧
        Cons S' T ∧ T.row? ro = some (newR (wv o) 56) ∧ Laid m i o) m.length
      ⟨0, _, by omega, by omega, rfl, rfl, rfl, hc, by rw [hr]; simp [wv], laid_zero m⟩ ?_
    clear hr hc e0 e4
    rintro j e T ⟨i, o, rfl, hi, e0, e5, e6, hc, hr, hL⟩
    refine W.env3 e0 e5 e6 ?_
    repeat (first | refine W.seq ?_ | refine W.block ?_ | refine W.reg ?_ | refine W.skip ?_ | refine W.exit ?_ | refine W.ret ?_ | refine L.nil ?_ | refine L.p rfl rfl ?_ | refine L.skip rfl ?_)
    refine W.ite rfl (fun h => ?_) (fun h => ?_)
    · have hin : i < m.length := by have := of_decide_eq_true h; omega
      clear h
      obtain ⟨cc, hcc⟩ : ∃ cc, m[i]? = some cc := ⟨_, List.getElem?_eq_getElem hin⟩
      have hbc : b[z + i]? = some cc := by rw [hm, List.getElem?_drop] at hcc; exact hcc
      obtain ⟨x, hx, hL2⟩ := laid_step hL hcc
      obtain ⟨k, hk⟩ : ∃ k, k = m.length - 1 - i := ⟨_, rfl⟩
      rw [← hk] at hx hL2
      have e1 : IntKind.i64.wrap (IntKind.i64.wrap ((b.length : Int) - 1) - ((z + i : Nat) : Int)) = (k : Int) := by
        rw [wrap64 (x := (b.length : Int) - 1) (by omega) (by omega), wrap64 (by omega) (by omega)]; omega
      have e2 : IntKind.i64.wrap (Int.tdiv (k : Int) 8) = ((k / 8 : Nat) : Int) := by
        rw [show Int.tdiv (k : Int) 8 = ((k / 8 : Nat) : Int) from (Int.ofNat_tdiv k 8).symm, wrap64 (by omega) (by omega)]
      have e3 : IntKind.i64.wrap (8 * Int.tmod (k : Int) 8) = ((8 * (k % 8) : Nat) : Int) := by
        rw [show Int.tmod (k : Int) 8 = ((k % 8 : Nat) : Int) from (Int.ofNat_tmod k 8).symm, wrap64 (by omega) (by omega)]; omega
      have hsl : Slv T 1 (.slice (some ⟨ro, 0, none⟩) ((m.length + 7) / 8) ((m.length + 7) / 8)) ((m.length + 7) / 8) (wv o) := Slv.all hr rfl (by rw [wv_len, hL.1, Nat.mul_one])
      have hkl : k / 8 < (m.length + 7) / 8 := by rw [← hL.1]; exact (List.getElem?_eq_some_iff.1 hx).1
      repeat (first | refine W.seq ?_ | refine W.block ?_ | refine W.reg ?_ | refine W.skip ?_ | refine W.exit ?_ | refine W.ret ?_ | refine L.nil ?_ | refine L.p rfl rfl ?_ | refine L.skip rfl ?_)
      rw [e1]
      refine L.el hsl e2 (wv_get hx) rfl rfl rfl rfl (fun _ => rfl) rfl (fun p => ?_)
      repeat (first | refine W.seq ?_ | refine W.block ?_ | refine W.reg ?_ | refine W.skip ?_ | refine W.exit ?_ | refine W.ret ?_ | refine L.nil ?_ | refine L.p rfl rfl ?_ | refine L.skip rfl ?_)
      refine L.el (hI.cons hc).1 rfl (bv_get hbc) rfl rfl rfl rfl (fun _ => rfl) rfl (fun p => ?_)
      repeat (first | refine W.seq ?_ | refine W.block ?_ | refine W.reg ?_ | refine W.skip ?_ | refine W.exit ?_ | refine W.ret ?_ | refine L.nil ?_ | refine L.p rfl rfl ?_ | refine L.skip rfl ?_)
      refine L.shl (8 * (k % 8)) rfl rfl e3 (by rw [bits_u64]; omega) rfl ?_
      repeat (first | refine W.seq ?_ | refine W.block ?_ | refine W.reg ?_ | refine W.skip ?_ | refine W.exit ?_ | refine W.ret ?_ | refine L.nil ?_ | refine L.p rfl rfl ?_ | refine L.skip rfl ?_)
      refine L.elst hr rfl (by show 0 + _ ≤ (wv o).length; rw [wv_len, hL.1]; omega) e2 hkl rfl rfl rfl rfl (fun _ => rfl) (fun _ => rfl) rfl rfl rfl (fun p => ?_)
      repeat (first | refine W.seq ?_ | refine W.block ?_ | refine W.reg ?_ | refine W.skip ?_ | refine W.exit ?_ | refine W.ret ?_ | refine L.nil ?_ | refine L.p rfl rfl ?_ | refine L.skip rfl ?_)
      refine ⟨m.length - (i + 1), by omega, i + 1, _, rfl, by omega, rfl, rfl, ?_, hc.set _ _ (by omega), ?_, hL2⟩
      · refine (force_eq rfl).trans ?_
        rw [wrap64 (by omega) (by omega)]; rfl
      · rw [row_set_same hr rfl, Nat.zero_add]
        rw [or_shl]
        simp only [newR, wv, List.map_set]
    have hin : i = m.length := by have := of_decide_eq_false h; omega
    subst hin
    clear h
    have hfin : fm o = toW (bnum b) := by rw [← bnum_strip0 b, hF]; exact laid_any hL
    have hW : WIn T (some ⟨ro, 0, none⟩) ((m.length + 7) / 8) o := by
      refine ⟨?_, ?_, nofun, by rw [hL.1]; omega⟩
      · rw [hL.1]; exact Slv.all hr rfl (by rw [wv_len, hL.1, Nat.mul_one])
      · rw [hL.1]; unfold knownCap; rw [if_pos (by unfold UNK; omega)]; exact Nat.le_refl _
    repeat (first | refine W.seq ?_ | refine W.block ?_ | refine W.reg ?_ | refine W.skip ?_ | refine W.exit ?_ | refine W.ret ?_ | refine L.nil ?_ | refine L.p rfl rfl ?_ | refine L.skip rfl ?_)
    refine L.cl (strip_C _ _ o T hW) rfl (by rw [hL.1]; rfl) ?_
    rintro _ _ ⟨rfl, rfl⟩
    refine ⟨nofun, ?_⟩
    repeat (first | refine W.seq ?_ | refine W.block ?_ | refine W.reg ?_ | refine W.skip ?_ | refine W.exit ?_ | refine W.ret ?_ | refine L.nil ?_ | refine L.p rfl rfl ?_ | refine L.skip rfl ?_)
    refine ⟨.inr rfl, _, rfl, some ⟨ro, 0, none⟩, (m.length + 7) / 8, ?_, hc, ?_⟩
    · unfold fromE fromL; rw [hF, if_pos hsm, if_pos hsm, ← hfin]; rfl
    · unfold fromL; rw [hF, if_pos hsm, ← hfin]; exact hW.form
  · rw [show ((x.toNat : Int) == 0) = true by rw [v8_eq0]; exact hx0]
    have hxe : x = 0#8 := by simpa using hx0
    repeat (first | refine W.seq ?_ | refine W.block ?_ | refine W.reg ?_ | refine W.skip ?_ | refine W.exit ?_ | refine W.ret ?_ | refine L.nil ?_ | refine L.p rfl rfl ?_ | refine L.skip rfl ?_)
    refine W.ite rfl (fun h => ?_) (fun h => ?_)
    rotate_left
    · cases h
    repeat (first | refine W.seq ?_ | refine W.block ?_ | refine W.reg ?_ | refine W.skip ?_ | refine W.exit ?_ | refine W.ret ?_ | refine L.nil ?_ | refine L.p rfl rfl ?_ | refine L.skip rfl ?_)
    refine ⟨b.length - (z + 1), by omega, z + 1, rfl, by omega, rfl, rfl, ?_, fun i hi => ?_⟩
    · refine (force_eq rfl).trans ?_
      rw [wrap64 (by omega) (by omega)]; rfl
    · rcases Nat.lt_or_eq_of_le (Nat.le_of_lt_succ hi) with h1 | rfl
      · exact h0 i h1
      · rw [hx, hxe]
end Go.Proofs.Ytccdlijohkljcaa

/- Layer 1's reference: bytes out of numbers. Conditions: none. -/
set_option linter.unusedSimpArgs false
set_option linter.unusedVariables false
set_option maxRecDepth 100000
namespace Go.Proofs.Ytccdlijohkljcaa
open Go
variable {G : Nat} {Ext : FuncId → List Value → Mem → Outc → Mem → Prop}

theorem v8_ne0 (x : BitVec 8) : ((x.toNat : Int) != 0) = !(x == 0#8) := by rw [bne, v8_eq0]
/-- a list of bytes that a reference hands out -/
def RefB (S S' : Mem) (v : Value) (l : BL) : Prop := Cons S S' ∧ ∃ a c, v = .slice a l.length c ∧ BIn S' a c l
theorem grow_bin {N : Nat} {S : Mem} {el : TypeId} {a : Option Addr} {c n : Nat} {l : BL} (h : Grow N S el 1 (.slice a n c) n (bv l)) (hn : l.length = n) (hl : l.length < 1099511627776) : BIn S a c l := by
  subst hn
  refine ⟨h.slv, .of ?_, hl⟩
  obtain ⟨h1, ⟨hv, h0⟩ | ⟨b, hb, hv, hr⟩⟩ := h
  · rw [h0]; exact Nat.zero_le _
  · cases hv; rw [knownCap_unk]; exact Nat.le_refl _
theorem refBytes_C (a : Option Addr) (c : Nat) (l : WL) (S : Mem) (hI : WIn S a c l) (hlen : l.length < 400000) : C Try.prog G Ext 63 [.slice a l.length c] S fun v S' => ∃ a' c', v = .tuple #[.slice a' (bytesL l).length c', .int .i64 (toldE l)] ∧ Cons S S' ∧ BIn S' a' c' (bytesL l) := by
  refine C.fn Try.func63 rfl (by kernel_rfl) rfl ?_
  repeat (first | refine W.seq ?_ | refine W.block ?_ | refine W.reg ?_ | refine W.skip ?_ | refine W.exit ?_ | refine W.ret ?_ | refine L.nil ?_ | refine L.p rfl rfl ?_ | refine L.skip rfl ?_)
  refine L.cl (fits_C a c l S hI hlen) rfl rfl ?_
  rintro _ S1 ⟨rfl, hc1⟩
  refine ⟨nofun, ?_⟩
  repeat (first | refine W.seq ?_ | refine W.block ?_ | refine W.reg ?_ | refine W.skip ?_ | refine W.exit ?_ | refine W.ret ?_ | refine L.nil ?_ | refine L.p rfl rfl ?_ | refine L.skip rfl ?_)
  refine W.ite rfl (fun h => ?_) (fun h => ?_)
  · have hs : small l = false := by simpa using h
    repeat (first | refine W.seq ?_ | refine W.block ?_ | refine W.reg ?_ | refine W.skip ?_ | refine W.exit ?_ | refine W.ret ?_ | refine L.nil ?_ | refine L.p rfl rfl ?_ | refine L.skip rfl ?_)
    refine ⟨.inr rfl, _, rfl, none, 0, ?_, hc1, ?_⟩
    · unfold bytesL toldE; rw [hs]; rfl
    · unfold bytesL; rw [if_neg (by rw [hs]; decide)]; exact ⟨Slv.nil _ _ _ _, .of (Nat.zero_le _), by decide⟩
  have hsm : small l = true := by simpa using h
  clear h
  repeat (first | refine W.seq ?_ | refine W.block ?_ | refine W.reg ?_ | refine W.skip ?_ | refine W.exit ?_ | refine W.ret ?_ | refine L.nil ?_ | refine L.p rfl rfl ?_ | refine L.skip rfl ?_)
  refine L.cl (form_C a c l S1 (hI.cons hc1) hlen) rfl rfl ?_
  rintro _ S2 ⟨hc2, a1, c1, rfl, hW⟩
  refine ⟨nofun, ?_⟩
  have hn : wnum (fm l) = wnum l := wnum_toW _
  have hcan : Canon (fm l) := canon_toW _
  have h128 : (fm l).length ≤ 128 := of_decide_eq_true hsm
  obtain ⟨f, hf⟩ : ∃ f, f = fm l := ⟨_, rfl⟩
  rw [← hf] at hW hn hcan h128 ⊢
  have hbz : bsz (wnum l) ≤ 8 * f.length := by
    have := wnum_lt f
    rw [hn] at this
    have h8 := blen_le.2 this
    unfold bsz; omega
  clear hf
  obtain ⟨N, hN⟩ : ∃ N, N = wnum l := ⟨_, rfl⟩
  have hbL : bytesL l = toB N := by unfold bytesL; rw [if_pos hsm, hN]
  have htE : toldE l = 0 := by unfold toldE; rw [if_pos hsm]
  rw [← hN] at hbz hn
  have hc12 := hc1.trans hc2
  have hll : ∀ t, (strip0 (lead N (8 * f.length) t)).length ≤ t := fun t => by
    unfold strip0
    have := (List.dropWhile_suffix (l := lead N (8 * f.length) t) (fun x => x == 0#8)).length_le
    simpa [lead] using this
  repeat (first | refine W.seq ?_ | refine W.block ?_ | refine W.reg ?_ | refine W.skip ?_ | refine W.exit ?_ | refine W.ret ?_ | refine L.nil ?_ | refine L.p rfl rfl ?_ | refine L.skip rfl ?_)
  refine W.loop (fun j e T => ∃ (q : Nat) (a5 : Option Addr) (n5 c5 : Nat), j = f.length - q ∧ q ≤ f.length ∧ Cons S2 T ∧ e 4 = .slice a1 f.length c1 ∧ e 5 = .slice a5 n5 c5 ∧ e 6 = .int .i64 ((f.length : Int) - 1 - (q : Int)) ∧
      Grow S2.length T 5 1 (.slice a5 n5 c5) n5 (bv (strip0 (lead N (8 * f.length) (8 * q))))) f.length
    ⟨0, none, 0, 0, by omega, by omega, Cons.refl _, rfl, rfl, ?_, Grow.nil _ _ _ _⟩ ?_
  · refine (force_eq rfl).trans ?_
    rw [wrap64 (by omega) (by omega)]
    congr 1; omega
  rintro j e T ⟨q, a5, n5, c5, rfl, hq, hcT, e4, e5, e6, hg⟩
  refine W.env3 e4 e5 e6 ?_
  repeat (first | refine W.seq ?_ | refine W.block ?_ | refine W.reg ?_ | refine W.skip ?_ | refine W.exit ?_ | refine W.ret ?_ | refine L.nil ?_ | refine L.p rfl rfl ?_ | refine L.skip rfl ?_)
  refine W.ite rfl (fun h => ?_) (fun h => ?_)
  · have hin : q < f.length := by have := of_decide_eq_true h; omega
    clear h
    obtain ⟨x, hx⟩ : ∃ x, f[f.length - 1 - q]? = some x := ⟨_, List.getElem?_eq_getElem (by omega)⟩
    repeat (first | refine W.seq ?_ | refine W.block ?_ | refine W.reg ?_ | refine W.skip ?_ | refine W.exit ?_ | refine W.ret ?_ | refine L.nil ?_ | refine L.p rfl rfl ?_ | refine L.skip rfl ?_)
    refine W.loop (fun j e T' => ∃ (p : Nat) (a5 : Option Addr) (n5 c5 : Nat), j = 8 - p ∧ p ≤ 8 ∧ Cons S2 T' ∧ e 4 = .slice a1 f.length c1 ∧ e 5 = .slice a5 n5 c5 ∧ e 6 = .int .i64 ((f.length : Int) - 1 - (q : Int)) ∧ e 7 = .int .i64 (56 - 8 * (p : Int)) ∧
        Grow S2.length T' 5 1 (.slice a5 n5 c5) n5 (bv (strip0 (lead N (8 * f.length) (8 * q + p))))) 8
      ⟨0, a5, n5, c5, by omega, by omega, hcT, rfl, rfl, rfl, rfl, hg⟩ ?_
    clear e4 e5 e6 hg hcT a5 n5 c5
    rintro j e T' ⟨p, a5, n5, c5, rfl, hp, hcT, e4, e5, e6, e7, hg⟩
    refine W.env4 e4 e5 e6 e7 ?_
    have hn5 : n5 ≤ 1024 := by
      have h1 := hg.1
      rw [bv_len] at h1
      have h2 := hll (8 * q + p)
      omega
    have hn5' : (strip0 (lead N (8 * f.length) (8 * q + p))).length = n5 := by have h1 := hg.1; rw [bv_len] at h1; omega
    repeat (first | refine W.seq ?_ | refine W.block ?_ | refine W.reg ?_ | refine W.skip ?_ | refine W.exit ?_ | refine W.ret ?_ | refine L.nil ?_ | refine L.p rfl rfl ?_ | refine L.skip rfl ?_)
    refine W.ite rfl (fun h => ?_) (fun h => ?_)
    · have hp8 : p < 8 := by have := of_decide_eq_true h; omega
      clear h
      have hby := byte_limb (l := f) (k := 8 * f.length - 1 - (8 * q + p)) (x := x) (by rw [show (8 * f.length - 1 - (8 * q + p)) / 8 = f.length - 1 - q by omega]; exact hx)
      rw [show 8 * ((8 * f.length - 1 - (8 * q + p)) % 8) = 56 - 8 * p by omega, hn] at hby
      have hls := lead_succ N (8 * f.length) (8 * q + p)
      obtain ⟨cc, hcc⟩ : ∃ cc, cc = byteAt N (8 * f.length - 1 - (8 * q + p)) := ⟨_, rfl⟩
      rw [← hcc] at hby hls
      have hsn := strip0_snoc (lead N (8 * f.length) (8 * q + p)) cc
      rw [← hls, show 8 * q + p + 1 = 8 * q + (p + 1) by omega, hn5'] at hsn
      have hcT2 := hc12.trans hcT
      repeat (first | refine W.seq ?_ | refine W.block ?_ | refine W.reg ?_ | refine W.skip ?_ | refine W.exit ?_ | refine W.ret ?_ | refine L.nil ?_ | refine L.p rfl rfl ?_ | refine L.skip rfl ?_)
      refine L.el (hW.cons hcT).1 (k := f.length - 1 - q) (by omega) (wv_get hx) rfl rfl rfl rfl (fun _ => rfl) rfl (fun p7 => ?_)
      repeat (first | refine W.seq ?_ | refine W.block ?_ | refine W.reg ?_ | refine W.skip ?_ | refine W.exit ?_ | refine W.ret ?_ | refine L.nil ?_ | refine L.p rfl rfl ?_ | refine L.skip rfl ?_)
      refine L.shr (56 - 8 * p) rfl rfl (by omega) (by rw [bits_u64]; omega) rfl ?_
      repeat (first | refine W.seq ?_ | refine W.block ?_ | refine W.reg ?_ | refine W.skip ?_ | refine W.exit ?_ | refine W.ret ?_ | refine L.nil ?_ | refine L.p rfl rfl ?_ | refine L.skip rfl ?_)
      rw [fdiv_shr, u8_of_v64, hby]
      cases hz : (cc == 0#8)
      · rw [show ((cc.toNat : Int) != 0) = true by rw [v8_ne0, hz]; rfl]
        rw [if_pos (.inl (by simpa using hz))] at hsn
        repeat (first | refine W.seq ?_ | refine W.block ?_ | refine W.reg ?_ | refine W.skip ?_ | refine W.exit ?_ | refine W.ret ?_ | refine L.nil ?_ | refine L.p rfl rfl ?_ | refine L.skip rfl ?_)
        refine W.ite rfl (fun h => ?_) (fun h => ?_)
        rotate_left
        · cases h
        repeat (first | refine W.seq ?_ | refine W.block ?_ | refine W.reg ?_ | refine W.skip ?_ | refine W.exit ?_ | refine W.ret ?_ | refine L.nil ?_ | refine L.p rfl rfl ?_ | refine L.skip rfl ?_)
        refine L.push1 rfl hcT.len (.inl hg) rfl rfl rfl rfl rfl (by omega) rfl (fun _ => rfl) (fun p9 a6 c6 T2 k2 k3 k4 => ?_)
        repeat (first | refine W.seq ?_ | refine W.block ?_ | refine W.reg ?_ | refine W.skip ?_ | refine W.exit ?_ | refine W.ret ?_ | refine L.nil ?_ | refine L.p rfl rfl ?_ | refine L.skip rfl ?_)
        refine ⟨8 - (p + 1), by omega, p + 1, a6, (n5 + 1), c6, rfl, by omega, (hcT.trans' k4), rfl, rfl, rfl, ?_, (by rw [hsn, bv_app]; exact k2)⟩
        refine (force_eq rfl).trans ?_
        rw [wrap64 (by omega) (by omega)]
        congr 1; omega
      · rw [show ((cc.toNat : Int) != 0) = false by rw [v8_ne0, hz]; rfl]
        repeat (first | refine W.seq ?_ | refine W.block ?_ | refine W.reg ?_ | refine W.skip ?_ | refine W.exit ?_ | refine W.ret ?_ | refine L.nil ?_ | refine L.p rfl rfl ?_ | refine L.skip rfl ?_)
        cases hz2 : decide ((n5 : Int) > 0)
        · have h0 : n5 = 0 := by have := of_decide_eq_false hz2; omega
          rw [if_neg (by rw [h0]; simpa using hz)] at hsn
          subst h0
          repeat (first | refine W.seq ?_ | refine W.block ?_ | refine W.reg ?_ | refine W.skip ?_ | refine W.exit ?_ | refine W.ret ?_ | refine L.nil ?_ | refine L.p rfl rfl ?_ | refine L.skip rfl ?_)
          refine W.ite rfl (fun h => ?_) (fun h => ?_)
          · cases h
          repeat (first | refine W.seq ?_ | refine W.block ?_ | refine W.reg ?_ | refine W.skip ?_ | refine W.exit ?_ | refine W.ret ?_ | refine L.nil ?_ | refine L.p rfl rfl ?_ | refine L.skip rfl ?_)
          refine ⟨8 - (p + 1), by omega, p + 1, a5, 0, c5, rfl, by omega, hcT, rfl, rfl, rfl, ?_, (by rw [hsn]; rw [List.length_eq_zero_iff.1 hn5'] at hg; exact hg)⟩
          refine (force_eq rfl).trans ?_
          rw [wrap64 (by omega) (by omega)]
          congr 1; omega
        · have h0 : 0 < n5 := by have := of_decide_eq_true hz2; omega
          rw [if_pos (.inr h0)] at hsn
          repeat (first | refine W.seq ?_ | refine W.block ?_ | refine W.reg ?_ | refine W.skip ?_ | refine W.exit ?_ | refine W.ret ?_ | refine L.nil ?_ | refine L.p rfl rfl ?_ | refine L.skip rfl ?_)
          refine W.ite rfl (fun h => ?_) (fun h => ?_)
          rotate_left
          · cases h
          repeat (first | refine W.seq ?_ | refine W.block ?_ | refine W.reg ?_ | refine W.skip ?_ | refine W.exit ?_ | refine W.ret ?_ | refine L.nil ?_ | refine L.p rfl rfl ?_ | refine L.skip rfl ?_)
          refine L.push1 rfl hcT.len (.inl hg) rfl rfl rfl rfl rfl (by omega) rfl (fun _ => rfl) (fun p9 a6 c6 T2 k2 k3 k4 => ?_)
          repeat (first | refine W.seq ?_ | refine W.block ?_ | refine W.reg ?_ | refine W.skip ?_ | refine W.exit ?_ | refine W.ret ?_ | refine L.nil ?_ | refine L.p rfl rfl ?_ | refine L.skip rfl ?_)
          refine ⟨8 - (p + 1), by omega, p + 1, a6, (n5 + 1), c6, rfl, by omega, (hcT.trans' k4), rfl, rfl, rfl, ?_, (by rw [hsn, bv_app]; exact k2)⟩
          refine (force_eq rfl).trans ?_
          rw [wrap64 (by omega) (by omega)]
          congr 1; omega
    · have hp8 : p = 8 := by have := of_decide_eq_false h; omega
      subst hp8
      repeat (first | refine W.seq ?_ | refine W.block ?_ | refine W.reg ?_ | refine W.skip ?_ | refine W.exit ?_ | refine W.ret ?_ | refine L.nil ?_ | refine L.p rfl rfl ?_ | refine L.skip rfl ?_)
      refine ⟨f.length - (q + 1), by omega, q + 1, a5, n5, c5, rfl, by omega, hcT, rfl, rfl, ?_, by rw [show 8 * (q + 1) = 8 * q + 8 by omega]; exact hg⟩
      refine (force_eq rfl).trans ?_
      rw [wrap64 (by omega) (by omega)]
      congr 1; omega
  · have hin : q = f.length := by have := of_decide_eq_false h; omega
    subst hin
    rw [lead_all hbz] at hg
    have hnn : (toB N).length = n5 := by have h1 := hg.1; rw [bv_len] at h1; omega
    have hB := grow_bin hg hnn (by rw [toB_len]; omega)
    repeat (first | refine W.seq ?_ | refine W.block ?_ | refine W.reg ?_ | refine W.skip ?_ | refine W.exit ?_ | refine W.ret ?_ | refine L.nil ?_ | refine L.p rfl rfl ?_ | refine L.skip rfl ?_)
    refine ⟨.inr rfl, _, rfl, a5, c5, ?_, hc12.trans hcT, by rw [hbL]; exact hB⟩
    rw [hbL, htE, hnn]; rfl
end Go.Proofs.Ytccdlijohkljcaa

/- The reference of layer 7: a length's bytes; an item's bytes. Conditions: none. -/
set_option linter.unusedSimpArgs false
set_option linter.unusedVariables false
set_option maxRecDepth 100000
namespace Go.Proofs.Ytccdlijohkljcaa
open Go
variable {G : Nat} {Ext : FuncId → List Value → Mem → Outc → Mem → Prop}

/-- the lowest bytes of a number -/
def low (n i : Nat) : BL := (List.range i).map fun j => byteAt n (i - 1 - j)
theorem low_succ (n i : Nat) : low n (i + 1) = byteAt n i :: low n i := by
  unfold low
  rw [List.range_succ_eq_map, List.map_cons, List.map_map]
  congr 1
  refine List.map_congr_left fun j _ => ?_
  show byteAt n (i + 1 - 1 - (j + 1)) = _
  congr 1; omega
theorem low_len (n i : Nat) : (low n i).length = i := by simp [low]
/-- a length's bytes -/
def lenB (n : Nat) : BL := if n < 128 then [BitVec.ofNat 8 n] else BitVec.ofNat 8 (128 + (toB n).length) :: toB n
theorem laidS_eq (tag : BitVec 8) (l : BL) : laidS tag l = tag :: (lenB l.length ++ l) := by
  unfold laidS lenB; split <;> simp
theorem low_all {n i : Nat} (h1 : n / 256 ^ i = 0) (h2 : n / 256 ^ (i - 1) ≠ 0) (hi : i ≠ 0) : low n i = toB n := by
  have h3 : n < 2 ^ (8 * i) := by
    rw [← p256]
    exact (Nat.div_eq_zero_iff.1 h1).resolve_left (Nat.ne_of_gt (Nat.pow_pos (by decide)))
  have h4 : ¬ n < 2 ^ (8 * (i - 1)) := fun h => h2 (by rw [p256]; exact Nat.div_eq_of_lt h)
  have h5 : blen n ≤ 8 * i := blen_le.2 h3
  have h6 : ¬ blen n ≤ 8 * (i - 1) := fun h => h4 (blen_le.1 h)
  have h7 : bsz n = i := by unfold bsz; omega
  unfold low toB
  rw [h7]
theorem refLength_C (n : Nat) (hn : n < 549755813888) (S : Mem) : C Try.prog G Ext 62 [.int .i64 (n : Int)] S fun v S' => RefB S S' v (lenB n) := by
  refine C.fn Try.func62 rfl (by kernel_rfl) rfl ?_
  repeat (first | refine W.seq ?_ | refine W.block ?_ | refine W.reg ?_ | refine W.skip ?_ | refine W.exit ?_ | refine W.ret ?_ | refine L.nil ?_ | refine L.p rfl rfl ?_ | refine L.skip rfl ?_)
  refine W.ite rfl (fun h => ?_) (fun h => ?_)
  · have hlt : n < 128 := by have := of_decide_eq_true h; omega
    clear h
    repeat (first | refine W.seq ?_ | refine W.block ?_ | refine W.reg ?_ | refine W.skip ?_ | refine W.exit ?_ | refine W.ret ?_ | refine L.nil ?_ | refine L.p rfl rfl ?_ | refine L.skip rfl ?_)
    rw [wrap_of8]
    refine L.bs [v8 (BitVec.ofNat 8 n)] rfl rfl rfl rfl rfl rfl ?_
    repeat (first | refine W.seq ?_ | refine W.block ?_ | refine W.reg ?_ | refine W.skip ?_ | refine W.exit ?_ | refine W.ret ?_ | refine L.nil ?_ | refine L.p rfl rfl ?_ | refine L.skip rfl ?_)
    have h1 : lenB n = [BitVec.ofNat 8 n] := by unfold lenB; rw [if_pos hlt]
    have hs : Slv (S ++ [newR [v8 (BitVec.ofNat 8 n)] 5]) 1 (.slice (some ⟨S.length, 0, none⟩) 1 1) 1 (bv [BitVec.ofNat 8 n]) := one_slv (row_push_new rfl)
    refine ⟨.inr rfl, _, rfl, ?_⟩
    rw [h1]
    exact ⟨Cons.push _ _, some ⟨S.length, 0, none⟩, 1, rfl, hs, .inl ⟨by decide, Nat.le_refl 1⟩, by simp⟩
  have hge : ¬ n < 128 := by have := of_decide_eq_false h; omega
  clear h
  repeat (first | refine W.seq ?_ | refine W.block ?_ | refine W.reg ?_ | refine W.skip ?_ | refine W.exit ?_ | refine W.ret ?_ | refine L.nil ?_ | refine L.p rfl rfl ?_ | refine L.skip rfl ?_)
  refine W.loop (fun j e T => ∃ i a c, j = n / 256 ^ i ∧ Cons S T ∧ e 0 = vi (n / 256 ^ i) ∧ e 3 = .slice a (low n i).length c ∧ Slv T 1 (.slice a (low n i).length c) (low n i).length (bv (low n i)) ∧ (i = 0 ∨ n / 256 ^ (i - 1) ≠ 0)) n
    ⟨0, none, 0, by simp, Cons.refl _, by rw [Nat.pow_zero, Nat.div_one]; rfl, rfl, Slv.nil _ _ _ _, .inl rfl⟩ ?_
  rintro j e T ⟨i, a, c, rfl, hc, e0, e3, hs, hi⟩
  refine W.env2 e0 e3 ?_
  have hbi : n / 256 ^ i ≤ n := Nat.div_le_self _ _
  repeat (first | refine W.seq ?_ | refine W.block ?_ | refine W.reg ?_ | refine W.skip ?_ | refine W.exit ?_ | refine W.ret ?_ | refine L.nil ?_ | refine L.p rfl rfl ?_ | refine L.skip rfl ?_)
  refine W.ite rfl (fun h => ?_) (fun h => ?_)
  · have hpos : 0 < n / 256 ^ i := by have := of_decide_eq_true h; omega
    clear h
    repeat (first | refine W.seq ?_ | refine W.block ?_ | refine W.reg ?_ | refine W.skip ?_ | refine W.exit ?_ | refine W.ret ?_ | refine L.nil ?_ | refine L.p rfl rfl ?_ | refine L.skip rfl ?_)
    rw [wrap_of8, show BitVec.ofNat 8 (n / 256 ^ i) = byteAt n i from rfl]
    refine L.bs [v8 (byteAt n i)] rfl rfl rfl rfl rfl rfl ?_
    have hsP : Slv (T ++ [newR [v8 (byteAt n i)] 5]) 1 (.slice (some ⟨T.length, 0, none⟩) 1 1) 1 (bv [byteAt n i]) := one_slv (row_push_new rfl)
    have hcP : Cons T (T ++ [newR [v8 (byteAt n i)] 5]) := Cons.push _ _
    generalize T ++ [newR [v8 (byteAt n i)] 5] = P1 at *
    repeat (first | refine W.seq ?_ | refine W.block ?_ | refine W.reg ?_ | refine W.skip ?_ | refine W.exit ?_ | refine W.ret ?_ | refine L.nil ?_ | refine L.p rfl rfl ?_ | refine L.skip rfl ?_)
    refine L.app (bytes := 1) (n := 0) (m := 1) rfl (Nat.le_refl _) (Grow.nil P1.length P1 5 1) rfl rfl hsP (bv_one _) (by omega) rfl rfl ?_
    intro a1 c1 P2 g1 _ hA1
    have hc1 : Cons P1 P2 := hA1
    repeat (first | refine W.seq ?_ | refine W.block ?_ | refine W.reg ?_ | refine W.skip ?_ | refine W.exit ?_ | refine W.ret ?_ | refine L.nil ?_ | refine L.p rfl rfl ?_ | refine L.skip rfl ?_)
    have hbl : (low n i).length = i := low_len n i
    have hi5 : i ≤ 5 := by
      rcases hi with hi | hi
      · omega
      · rcases Nat.lt_or_ge 5 i with h9 | h9
        · exfalso
          refine hi (Nat.div_eq_of_lt (Nat.lt_of_lt_of_le hn ?_))
          exact Nat.le_trans (by decide : 549755813888 ≤ 256 ^ 5) (Nat.pow_le_pow_right (by decide) (by omega))
        · exact h9
    refine L.app (bytes := 1) (n := 0 + 1) (m := (low n i).length) rfl hc1.len g1 rfl rfl ((hs.cons hcP).cons hc1) (bv_one _) (by omega) rfl rfl ?_
    intro a2 c2 P3 g2 _ hA2
    have hc2 : Cons P1 P3 := hc1.trans' hA2
    repeat (first | refine W.seq ?_ | refine W.block ?_ | refine W.reg ?_ | refine W.skip ?_ | refine W.exit ?_ | refine W.ret ?_ | refine L.nil ?_ | refine L.p rfl rfl ?_ | refine L.skip rfl ?_)
    have hlen : 0 + 1 + (low n i).length = (low n (i + 1)).length := by rw [low_len, low_len]; omega
    have hgs := g2.slv
    rw [show ([] : List Value) ++ bv [byteAt n i] ++ bv (low n i) = bv (low n (i + 1)) by rw [low_succ]; simp [bv], hlen] at hgs
    refine ⟨n / 256 ^ (i + 1), ?_, i + 1, a2, c2, rfl, (hc.trans hcP).trans hc2, ?_, ?_, hgs, .inr (by show n / 256 ^ i ≠ 0; omega)⟩
    · rw [Nat.pow_succ, ← Nat.div_div_eq_div_mul]
      exact Nat.div_lt_self hpos (by decide)
    · refine (force_eq rfl).trans ?_
      rw [Nat.pow_succ, ← Nat.div_div_eq_div_mul]
      exact congrArg (Value.int .i64) (fdiv_nat (n / 256 ^ i) 256)
    · refine (force_eq rfl).trans ?_
      rw [hlen]
  have hz : n / 256 ^ i = 0 := Nat.eq_zero_of_not_pos fun hp => of_decide_eq_false h (Int.natCast_pos.2 hp)
  clear h hbi
  have hi0 : i ≠ 0 := by rintro rfl; rw [Nat.pow_zero, Nat.div_one] at hz; omega
  have hlow := low_all hz (hi.resolve_left hi0) hi0
  rw [hlow] at hs ⊢
  have htl := toB_lt (n := n) (by omega)
  repeat (first | refine W.seq ?_ | refine W.block ?_ | refine W.reg ?_ | refine W.skip ?_ | refine W.exit ?_ | refine W.ret ?_ | refine L.nil ?_ | refine L.p rfl rfl ?_ | refine L.skip rfl ?_)
  rw [show IntKind.u8.wrap (IntKind.i64.wrap (128 + ((toB n).length : Int))) = ((BitVec.ofNat 8 (128 + (toB n).length)).toNat : Int) by
    rw [wrap64 (x := 128 + ((toB n).length : Int)) (by omega) (by omega), show (128 + ((toB n).length : Int)) = ((128 + (toB n).length : Nat) : Int) by omega, wrap_of8]]
  refine L.bs [v8 (BitVec.ofNat 8 (128 + (toB n).length))] rfl rfl rfl rfl rfl rfl ?_
  have hsP : Slv (T ++ [newR [v8 (BitVec.ofNat 8 (128 + (toB n).length))] 5]) 1 (.slice (some ⟨T.length, 0, none⟩) 1 1) 1 (bv [BitVec.ofNat 8 (128 + (toB n).length)]) := one_slv (row_push_new rfl)
  have hcP : Cons T (T ++ [newR [v8 (BitVec.ofNat 8 (128 + (toB n).length))] 5]) := Cons.push _ _
  generalize T ++ [newR [v8 (BitVec.ofNat 8 (128 + (toB n).length))] 5] = P1 at *
  repeat (first | refine W.seq ?_ | refine W.block ?_ | refine W.reg ?_ | refine W.skip ?_ | refine W.exit ?_ | refine W.ret ?_ | refine L.nil ?_ | refine L.p rfl rfl ?_ | refine L.skip rfl ?_)
  refine L.app (bytes := 1) (n := 0) (m := 1) rfl (Nat.le_refl _) (Grow.nil P1.length P1 5 1) rfl rfl hsP (bv_one _) (by omega) rfl rfl ?_
  intro a1 c1 P2 g1 _ hA1
  have hc1 : Cons P1 P2 := hA1
  repeat (first | refine W.seq ?_ | refine W.block ?_ | refine W.reg ?_ | refine W.skip ?_ | refine W.exit ?_ | refine W.ret ?_ | refine L.nil ?_ | refine L.p rfl rfl ?_ | refine L.skip rfl ?_)
  refine L.app (bytes := 1) (n := 0 + 1) (m := (toB n).length) rfl hc1.len g1 rfl rfl ((hs.cons hcP).cons hc1) (bv_one _) (by omega) rfl rfl ?_
  intro a2 c2 P3 g2 _ hA2
  have hc2 : Cons P1 P3 := hc1.trans' hA2
  repeat (first | refine W.seq ?_ | refine W.block ?_ | refine W.reg ?_ | refine W.skip ?_ | refine W.exit ?_ | refine W.ret ?_ | refine L.nil ?_ | refine L.p rfl rfl ?_ | refine L.skip rfl ?_)
  have hl : lenB n = BitVec.ofNat 8 (128 + (toB n).length) :: toB n := by unfold lenB; rw [if_neg hge]
  have hlen : 0 + 1 + (toB n).length = (lenB n).length := by rw [hl, List.length_cons]; omega
  rw [show ([] : List Value) ++ bv [BitVec.ofNat 8 (128 + (toB n).length)] ++ bv (toB n) = bv (lenB n) by rw [hl]; simp [bv]] at g2
  have hB := grow_bin g2 hlen.symm (by omega)
  refine ⟨.inr rfl, _, rfl, (hc.trans hcP).trans hc2, a2, c2, ?_, hB⟩
  refine (force_eq rfl).trans ?_
  rw [hlen]
end Go.Proofs.Ytccdlijohkljcaa

/- Layer 7: Decode. Conditions: none. -/
set_option linter.unusedSimpArgs false
set_option linter.unusedVariables false
set_option maxRecDepth 100000
namespace Go.Proofs.Ytccdlijohkljcaa
open Go
variable {G : Nat}

def nilV : Value := .slice none 0 0
/-- a key's memory and its error's -/
def keyMem (S : Mem) (u v : Value) (n : Int) : Mem := S ++ [newR [u, v] 26] ++ [newR [.int .i64 n] 27]
theorem keyMem_cons (S : Mem) (u v : Value) (n : Int) : Cons S (keyMem S u v n) := (Cons.push _ _).trans (Cons.push _ _)
theorem keyMem_len (S : Mem) (u v : Value) (n : Int) : (keyMem S u v n).length = S.length + 2 := by simp [keyMem]
theorem keyMem_key (S : Mem) (u v : Value) (n : Int) : (keyMem S u v n).row? S.length = some (newR [u, v] 26) := Cons.row (h := Cons.push _ _) (row_push_new rfl)
theorem keyMem_err (S : Mem) (u v : Value) (n : Int) : (keyMem S u v n).row? (S.length + 1) = some (newR [.int .i64 n] 27) := by
  have := row_push_new (S := S ++ [newR [u, v] 26]) (x := newR [.int .i64 n] 27) rfl
  simpa [keyMem] using this
/-- two lists that share nothing -/
def Apart2 (d1 d2 : Hd) : Prop := ∀ b, d1.a = some b → d2.a ≠ some b
/-- what Decode hands out -/
def KeyR (S : Mem) (b : BL) (v : Value) (S' : Mem) : Prop := match keyS b with
  | .error e => v = .tuple #[.agg #[nilV, nilV], .int .i64 e] ∧ Cons S S'
  | .ok (l1, l2) => ∃ d1 d2, v = .tuple #[.agg #[d1.v, d2.v], .int .i64 0] ∧ RetW S S' d1 l1 ∧ RetW S S' d2 l2 ∧ Apart2 d1 d2
theorem dec_pan {S T : Mem} {e : Env} {b : BL} {n : Int} (he2 : e 2 = .pointer (some ⟨S.length, 0, none⟩)) (he3 : e 3 = .pointer (some ⟨S.length + 1, 0, none⟩)) (hc : Cons (keyMem S nilV nilV 0) T) (hk : keyS b = .error n) :
    ∃ m v S', modeOf (.pan (faultV n)) = some m ∧ ALv Try.prog G Try.f11 e [⟨37, [.pointer (some ⟨S.length + 1, 0, none⟩)]⟩] m T (.ret v) S' ∧ KeyR S b v S' := by
  have hlen : (S ++ [newR [nilV, nilV] 26]).length = S.length + 1 := by simp
  obtain ⟨S', q1, q2, q3⟩ := caught_new (G := G) (n := n) (S := S ++ [newR [nilV, nilV] 26]) (x := 0) hc
  rw [hlen] at q1 q3
  have hk2 : S'.row? S.length = some (newR [nilV, nilV] 26) := Cons.row (h := q2) (row_push_new rfl)
  refine ⟨_, _, S', rfl, .cons q1 (.ret (v := .tuple #[.agg #[nilV, nilV], .int .i64 n]) ?_), ?_⟩
  · have h1 : aloadAt Try.prog 26 (e 2) S' = some (.agg #[nilV, nilV]) := aload_agg he2 rfl (cellsAt_of (o := 0) (n := 2) hk2 (by simp [newR]))
    have h2 : aloadAt Try.prog 27 (e 3) S' = some (.int .i64 n) := by rw [he3]; exact aload_one rfl (cell_of (o := 0) (v := .int .i64 n) q3 rfl (.inl rfl))
    show (aloadAt Try.prog 26 (e 2) S').bind (fun u => (aloadAt Try.prog 27 (e 3) S').map fun v => Value.tuple #[u, v]) = _
    rw [h1, h2]; rfl
  · unfold KeyR; rw [hk]; exact ⟨rfl, (Cons.push _ _).trans q2⟩
theorem iter_mem {M1 T T1 : Mem} {d : Hd} {l : WL} {u v : Value} (k : Nat) (hk2 : k < 2) (hc : Cons M1 T) (hr : T.row? M1.length = some (newR [u, v] 63)) (hR : RetW T T1 d l) :
    Cons M1 (T1.set M1.length { newR [u, v] 63 with cells := putFrom (newR [u, v] 63).cells k [d.v] }) ∧
    Mem.row? (T1.set M1.length { newR [u, v] 63 with cells := putFrom (newR [u, v] 63).cells k [d.v] }) M1.length = some (newR ([u, v].set k d.v) 63) ∧
    KeepL [M1.length] T (T1.set M1.length { newR [u, v] 63 with cells := putFrom (newR [u, v] 63).cells k [d.v] }) ∧
    HdOk (T1.set M1.length { newR [u, v] 63 with cells := putFrom (newR [u, v] 63).cells k [d.v] }) 56 d (wv l) ∧ (∀ b, d.a = some b → T.length ≤ b) ∧ M1.length < T.length ∧ l.length < 1099511627776 := by
  have hlt := row_lt hr
  have hr1 : T1.row? M1.length = some (newR [u, v] 63) := Cons.row (h := hR.1) hr
  have hk1 : ∀ x : Row, KeepL [M1.length] T1 (T1.set M1.length x) := fun x => ⟨by simp, fun r h1 h2 => by rw [List.getElem?_set, if_neg (fun h => h2 (by simp [h]))]⟩
  refine ⟨(hc.trans hR.1).set _ _ (Nat.le_refl _), ?_, (hR.1.keepL _).trans (hk1 _), hR.2.2.1.keep (hk1 _) (fun b hb hm => ?_), hR.2.2.2, hlt, hR.2.1⟩
  · rw [row_set_same hr1 rfl]
    refine congrArg some ?_
    rw [putFrom_one _ _ _ (show k < (newR [u, v] 63).cells.length from hk2)]
    rfl
  · have := hR.2.2.2 b hb
    simp at hm; omega
theorem decode_C (a : Option Addr) (c : Nat) (b : BL) (S : Mem) (hI : BIn S a c b) : C Try.prog G (Known Try.prog G) 11 [.slice a b.length c] S (KeyR S b) := by
  refine C.known (known_def (Checked.mixed Try.checked) (fun _ _ _ _ _ h => h) Try.func11 rfl (by kernel_rfl) rfl ?_)
  refine DW.seq (DW.code ?_)
  repeat (first | refine W.seq ?_ | refine W.block ?_ | refine W.reg ?_ | refine W.skip ?_ | refine W.exit ?_ | refine W.ret ?_ | refine L.nil ?_ | refine L.p rfl rfl ?_ | refine L.skip rfl ?_)
  refine L.eff (v := .pointer (some ⟨S.length, 0, none⟩)) (S1 := S ++ [newR [nilV, nilV] 26]) rfl rfl ?_
  repeat (first | refine W.seq ?_ | refine W.block ?_ | refine W.reg ?_ | refine W.skip ?_ | refine W.exit ?_ | refine W.ret ?_ | refine L.nil ?_ | refine L.p rfl rfl ?_ | refine L.skip rfl ?_)
  refine L.eff (v := .pointer (some ⟨S.length + 1, 0, none⟩)) (S1 := keyMem S nilV nilV 0) rfl ?_ ?_
  · refine congrArg (fun n => some (Value.pointer (some ⟨n, 0, none⟩), keyMem S nilV nilV 0)) (show (S ++ [newR [nilV, nilV] 26]).length = S.length + 1 by simp)
  repeat (first | refine W.seq ?_ | refine W.block ?_ | refine W.reg ?_ | refine W.skip ?_ | refine W.exit ?_ | refine W.ret ?_ | refine L.nil ?_ | refine L.p rfl rfl ?_ | refine L.skip rfl ?_)
  refine DW.seq (DW.defer rfl rfl ?_)
  refine DW.code ?_
  have hC := keyMem_cons S nilV nilV 0
  have hI1 := hI.cons hC
  obtain ⟨M1, hM1⟩ : ∃ M, M = keyMem S nilV nilV 0 := ⟨_, rfl⟩
  rw [← hM1] at hI1 hC ⊢
  have hL1 : M1.length = S.length + 2 := by rw [hM1, keyMem_len]
  have hpan : ∀ {e : Env} {T : Mem} {n : Int}, e 2 = .pointer (some ⟨S.length, 0, none⟩) → e 3 = .pointer (some ⟨S.length + 1, 0, none⟩) → Cons M1 T → keyS b = .error n →
      ∃ m v S', modeOf (.pan (faultV n)) = some m ∧ ALv Try.prog G Try.f11 e [⟨37, [.pointer (some ⟨S.length + 1, 0, none⟩)]⟩] m T (.ret v) S' ∧ KeyR S b v S' := fun h2 h3 hc hk => dec_pan h2 h3 (hM1 ▸ hc) hk
  repeat (first | refine W.seq ?_ | refine W.block ?_ | refine W.reg ?_ | refine W.skip ?_ | refine W.exit ?_ | refine W.ret ?_ | refine L.nil ?_ | refine L.p rfl rfl ?_ | refine L.skip rfl ?_)
  refine L.co (item_C a c b M1 hI1) rfl rfl ?_
  rintro o T ⟨rfl, hR⟩
  cases hi : itemS b with
  | error n =>
    rw [hi] at hR
    subst hR
    exact ⟨rfl, hpan rfl rfl (Cons.refl _) (by unfold keyS; rw [hi])⟩
  | ok p =>
    obtain ⟨hh, n⟩ := p
    rw [hi] at hR
    obtain ⟨t, a1, c1, a2, c2, ht, rfl, hB1, hB2⟩ := hR
    have hhn := (itemS_ok hi).2.2
    have hbt := bat_of ht
    refine ⟨fun _ => Cons.refl _, ?_⟩
    repeat (first | refine W.seq ?_ | refine W.block ?_ | refine W.reg ?_ | refine W.skip ?_ | refine W.exit ?_ | refine W.ret ?_ | refine L.nil ?_ | refine L.p rfl rfl ?_ | refine L.skip rfl ?_)
    refine L.fail (so := ((t.toNat : Int) != 48)) rfl rfl (fun h => ?_) (fun h => ?_)
    · exact ⟨rfl, hpan rfl rfl (Cons.refl _) (by unfold keyS; rw [hi]; dsimp only; rw [if_pos]; have : ¬ (t.toNat : Int) = 48 := (by simpa using h); omega)⟩
    have htag : ¬ bat b 0 ≠ 48 := by have : (t.toNat : Int) = 48 := (by simpa using h)
                                     omega
    clear h
    repeat (first | refine W.seq ?_ | refine W.block ?_ | refine W.reg ?_ | refine W.skip ?_ | refine W.exit ?_ | refine W.ret ?_ | refine L.nil ?_ | refine L.p rfl rfl ?_ | refine L.skip rfl ?_)
    refine L.fail (so := decide (((b.length - (hh + n) : Nat) : Int) > 0)) rfl rfl (fun h => ?_) (fun h => ?_)
    · exact ⟨rfl, hpan rfl rfl (Cons.refl _) (by unfold keyS; rw [hi]; dsimp only; rw [if_neg htag, if_pos]; have := of_decide_eq_true h; omega)⟩
    have hmore : ¬ hh + n < b.length := by have := of_decide_eq_false h; omega
    clear h
    have hkey : keyS b = keyT ((b.drop hh).take n) := by unfold keyS; rw [hi]; dsimp only; rw [if_neg htag, if_neg hmore]
    have hlen : ((b.drop hh).take n).length = n := by rw [List.length_take, List.length_drop]; omega
    repeat (first | refine W.seq ?_ | refine W.block ?_ | refine W.reg ?_ | refine W.skip ?_ | refine W.exit ?_ | refine W.ret ?_ | refine L.nil ?_ | refine L.p rfl rfl ?_ | refine L.skip rfl ?_)
    refine L.eff (v := .pointer (some ⟨T.length, 0, none⟩)) (S1 := T ++ [newR [nilV, nilV] 63]) rfl rfl ?_
    have hM2 : Cons T (T ++ [newR [nilV, nilV] 63]) := Cons.push _ _
    have hr2 : Mem.row? (T ++ [newR [nilV, nilV] 63]) T.length = some (newR [nilV, nilV] 63) := row_push_new rfl
    generalize T ++ [newR [nilV, nilV] 63] = M2 at *
    obtain ⟨m, hm⟩ : ∃ m, m = (b.drop hh).take n := ⟨_, rfl⟩
    rw [← hm] at hkey hB1 hlen
    subst hlen
    repeat (first | refine W.seq ?_ | refine W.block ?_ | refine W.reg ?_ | refine W.skip ?_ | refine W.exit ?_ | refine W.ret ?_ | refine L.nil ?_ | refine L.p rfl rfl ?_ | refine L.skip rfl ?_)
    have her0 : ∀ n, partS (m) = .error n → keyS b = .error n := (fun n h => by rw [hkey]; unfold keyT; rw [h])
    refine W.loopStep ?_
    repeat (first | refine W.seq ?_ | refine W.block ?_ | refine W.reg ?_ | refine W.skip ?_ | refine W.exit ?_ | refine W.ret ?_ | refine L.nil ?_ | refine L.p rfl rfl ?_ | refine L.skip rfl ?_)
    refine W.ite rfl (fun h => ?_) (fun h => ?_)
    rotate_left
    · cases h
    clear h
    repeat (first | refine W.seq ?_ | refine W.block ?_ | refine W.reg ?_ | refine W.skip ?_ | refine W.exit ?_ | refine W.ret ?_ | refine L.nil ?_ | refine L.p rfl rfl ?_ | refine L.skip rfl ?_)
    refine L.co (item_C a1 c1 m M2 (hB1 _ (hI1.cons hM2))) rfl (acall_eq (list1 (congrArg (fun n => Value.slice a1 n c1) rfl))) ?_
    rintro o T ⟨hT, hR⟩
    have hT' := hT.symm
    subst hT'
    clear hT
    rcases hi0 : itemS m with n | ⟨h0, n0⟩
    · rw [hi0] at hR
      subst hR
      exact ⟨rfl, hpan rfl rfl hM2 (her0 _ (by unfold partS; rw [hi0]))⟩
    rw [hi0] at hR
    obtain ⟨t0, a3, c3, a0, c0, ht0, rfl, hb3, hb0⟩ := hR
    have hhn0 := (itemS_ok hi0).2.2
    have hbt0 := bat_of ht0
    refine ⟨fun _ => Cons.refl _, ?_⟩
    repeat (first | refine W.seq ?_ | refine W.block ?_ | refine W.reg ?_ | refine W.skip ?_ | refine W.exit ?_ | refine W.ret ?_ | refine L.nil ?_ | refine L.p rfl rfl ?_ | refine L.skip rfl ?_)
    refine L.fail (so := ((t0.toNat : Int) != 2)) rfl rfl (fun h => ?_) (fun h => ?_)
    · exact ⟨rfl, hpan rfl rfl hM2 (her0 _ (by unfold partS; rw [hi0]; dsimp only; rw [if_pos]; have : ¬ (t0.toNat : Int) = 2 := (by simpa using h); omega))⟩
    have htag0 : ¬ bat (m) 0 ≠ 2 := by have : (t0.toNat : Int) = 2 := (by simpa using h); omega
    clear h
    repeat (first | refine W.seq ?_ | refine W.block ?_ | refine W.reg ?_ | refine W.skip ?_ | refine W.exit ?_ | refine W.ret ?_ | refine L.nil ?_ | refine L.p rfl rfl ?_ | refine L.skip rfl ?_)
    have hlen0 : (((m).drop h0).take n0).length = n0 := by rw [List.length_take, List.length_drop]; omega
    have hcon0 := hb3 _ (hB1 _ (hI1.cons hM2))
    refine L.co (number_C a3 c3 (((m).drop h0).take n0) M2 hcon0) rfl (by rw [hlen0]; rfl) ?_
    rintro o T0 hR
    unfold NumR at hR
    rcases hn0 : numS (((m).drop h0).take n0) with n | l0
    · rw [hn0] at hR
      obtain ⟨rfl, hc⟩ := hR
      exact ⟨rfl, hpan rfl rfl (Cons.trans hM2 hc) (her0 _ (by unfold partS; rw [hi0]; dsimp only; rw [if_neg htag0, hn0]))⟩
    rw [hn0] at hR
    obtain ⟨d0, rfl, hR⟩ := hR
    refine ⟨fun _ => hR.1, ?_⟩
    have hp0 : partS (m) = .ok (l0, (m).drop (h0 + n0)) := by unfold partS; rw [hi0]; dsimp only; rw [if_neg htag0, hn0]
    obtain ⟨i10, i20, i30, i40, i50, i60, i70⟩ := iter_mem 0 (by decide) hM2 hr2 hR
    have hr0 := Cons.row (h := hR.1) hr2
    clear hR
    repeat (first | refine W.seq ?_ | refine W.block ?_ | refine W.reg ?_ | refine W.skip ?_ | refine W.exit ?_ | refine W.ret ?_ | refine L.nil ?_ | refine L.p rfl rfl ?_ | refine L.skip rfl ?_)
    refine L.st (ad := ⟨T.length, 0, none⟩) (vs := [d0.v]) (write_of (o := 0) hr0 rfl (show 0 + 1 ≤ 2 by decide) rfl) rfl rfl rfl rfl ?_
    generalize T0.set _ _ = N0 at *
    repeat (first | refine W.seq ?_ | refine W.block ?_ | refine W.reg ?_ | refine W.skip ?_ | refine W.exit ?_ | refine W.ret ?_ | refine L.nil ?_ | refine L.p rfl rfl ?_ | refine L.skip rfl ?_)
    have her1 : ∀ n, partS ((m.drop (h0 + n0))) = .error n → keyS b = .error n := (fun n h => by rw [hkey]; unfold keyT; rw [hp0]; dsimp only; rw [h])
    refine W.loopStep ?_
    repeat (first | refine W.seq ?_ | refine W.block ?_ | refine W.reg ?_ | refine W.skip ?_ | refine W.exit ?_ | refine W.ret ?_ | refine L.nil ?_ | refine L.p rfl rfl ?_ | refine L.skip rfl ?_)
    refine W.ite rfl (fun h => ?_) (fun h => ?_)
    rotate_left
    · cases h
    clear h
    repeat (first | refine W.seq ?_ | refine W.block ?_ | refine W.reg ?_ | refine W.skip ?_ | refine W.exit ?_ | refine W.ret ?_ | refine L.nil ?_ | refine L.p rfl rfl ?_ | refine L.skip rfl ?_)
    refine L.co (item_C a0 c0 (m.drop (h0 + n0)) N0 ((fun T h => hb0 T (hB1 T h)) _ (hI1.cons i10))) rfl (acall_eq (list1 (congrArg (fun n => Value.slice a0 n c0) List.length_drop.symm))) ?_
    rintro o T ⟨hT, hR⟩
    have hT' := hT.symm
    subst hT'
    clear hT
    rcases hi1 : itemS (m.drop (h0 + n0)) with n | ⟨h1, n1⟩
    · rw [hi1] at hR
      subst hR
      exact ⟨rfl, hpan rfl rfl i10 (her1 _ (by unfold partS; rw [hi1]))⟩
    rw [hi1] at hR
    obtain ⟨t1, a3, c3, a1, c1, ht1, rfl, hb3, hb1⟩ := hR
    have hhn1 := (itemS_ok hi1).2.2
    have hbt1 := bat_of ht1
    refine ⟨fun _ => Cons.refl _, ?_⟩
    repeat (first | refine W.seq ?_ | refine W.block ?_ | refine W.reg ?_ | refine W.skip ?_ | refine W.exit ?_ | refine W.ret ?_ | refine L.nil ?_ | refine L.p rfl rfl ?_ | refine L.skip rfl ?_)
    refine L.fail (so := ((t1.toNat : Int) != 2)) rfl rfl (fun h => ?_) (fun h => ?_)
    · exact ⟨rfl, hpan rfl rfl i10 (her1 _ (by unfold partS; rw [hi1]; dsimp only; rw [if_pos]; have : ¬ (t1.toNat : Int) = 2 := (by simpa using h); omega))⟩
    have htag1 : ¬ bat ((m.drop (h0 + n0))) 0 ≠ 2 := by have : (t1.toNat : Int) = 2 := (by simpa using h); omega
    clear h
    repeat (first | refine W.seq ?_ | refine W.block ?_ | refine W.reg ?_ | refine W.skip ?_ | refine W.exit ?_ | refine W.ret ?_ | refine L.nil ?_ | refine L.p rfl rfl ?_ | refine L.skip rfl ?_)
    have hlen1 : ((((m.drop (h0 + n0))).drop h1).take n1).length = n1 := by rw [List.length_take, List.length_drop]; omega
    have hcon1 := hb3 _ ((fun T h => hb0 T (hB1 T h)) _ (hI1.cons i10))
    refine L.co (number_C a3 c3 ((((m.drop (h0 + n0))).drop h1).take n1) N0 hcon1) rfl (by rw [hlen1]; rfl) ?_
    rintro o T1 hR
    unfold NumR at hR
    rcases hn1 : numS ((((m.drop (h0 + n0))).drop h1).take n1) with n | l1
    · rw [hn1] at hR
      obtain ⟨rfl, hc⟩ := hR
      exact ⟨rfl, hpan rfl rfl (Cons.trans i10 hc) (her1 _ (by unfold partS; rw [hi1]; dsimp only; rw [if_neg htag1, hn1]))⟩
    rw [hn1] at hR
    obtain ⟨d1, rfl, hR⟩ := hR
    refine ⟨fun _ => hR.1, ?_⟩
    have hp1 : partS ((m.drop (h0 + n0))) = .ok (l1, ((m.drop (h0 + n0))).drop (h1 + n1)) := by unfold partS; rw [hi1]; dsimp only; rw [if_neg htag1, hn1]
    obtain ⟨i11, i21, i31, i41, i51, i61, i71⟩ := iter_mem 1 (by decide) i10 (show Mem.row? N0 T.length = some (newR [d0.v, nilV] 63) from i20) hR
    have hr1 := Cons.row (h := hR.1) (show Mem.row? N0 T.length = some (newR [d0.v, nilV] 63) from i20)
    clear hR
    repeat (first | refine W.seq ?_ | refine W.block ?_ | refine W.reg ?_ | refine W.skip ?_ | refine W.exit ?_ | refine W.ret ?_ | refine L.nil ?_ | refine L.p rfl rfl ?_ | refine L.skip rfl ?_)
    refine L.st (ad := ⟨T.length, 1, none⟩) (vs := [d1.v]) (write_of (o := 1) hr1 rfl (show 1 + 1 ≤ 2 by decide) rfl) rfl rfl rfl rfl ?_
    generalize T1.set _ _ = N1 at *
    repeat (first | refine W.seq ?_ | refine W.block ?_ | refine W.reg ?_ | refine W.skip ?_ | refine W.exit ?_ | refine W.ret ?_ | refine L.nil ?_ | refine L.p rfl rfl ?_ | refine L.skip rfl ?_)
    refine W.loopStep ?_
    repeat (first | refine W.seq ?_ | refine W.block ?_ | refine W.reg ?_ | refine W.skip ?_ | refine W.exit ?_ | refine W.ret ?_ | refine L.nil ?_ | refine L.p rfl rfl ?_ | refine L.skip rfl ?_)
    refine W.ite rfl (fun h => ?_) (fun h => ?_)
    · cases h
    clear h
    repeat (first | refine W.seq ?_ | refine W.block ?_ | refine W.reg ?_ | refine W.skip ?_ | refine W.exit ?_ | refine W.ret ?_ | refine L.nil ?_ | refine L.p rfl rfl ?_ | refine L.skip rfl ?_)
    have hl2 : ((m.drop (h0 + n0)).drop (h1 + n1)).length = (m.drop (h0 + n0)).length - (h1 + n1) := List.length_drop
    refine L.fail (so := decide ((((m.drop (h0 + n0)).length - (h1 + n1) : Nat) : Int) > 0)) rfl rfl (fun h => ?_) (fun h => ?_)
    · exact ⟨rfl, hpan rfl rfl i11 (by rw [hkey]; unfold keyT; rw [hp0]; dsimp only; rw [hp1]; dsimp only; rw [if_pos]; have := of_decide_eq_true h; omega)⟩
    have hend : keyS b = .ok (l0, l1) := by rw [hkey]; unfold keyT; rw [hp0]; dsimp only; rw [hp1]; dsimp only; rw [if_neg]; have := of_decide_eq_false h; omega
    clear h
    have hr7 : Mem.row? N1 T.length = some (newR [d0.v, d1.v] 63) := i21
    have hTS : ∀ x y n, T.length = (keyMem S x y n).length := fun x y n => by rw [hL1, keyMem_len]
    have hk0 : Mem.row? N1 S.length = some (newR [nilV, nilV] 26) := Cons.row (h := i11) (by rw [hM1]; exact keyMem_key _ _ _ _)
    have he0 : Mem.row? N1 (S.length + 1) = some (newR [.int .i64 0] 27) := Cons.row (h := i11) (by rw [hM1]; exact keyMem_err _ _ _ _)
    repeat (first | refine W.seq ?_ | refine W.block ?_ | refine W.reg ?_ | refine W.skip ?_ | refine W.exit ?_ | refine W.ret ?_ | refine L.nil ?_ | refine L.p rfl rfl ?_ | refine L.skip rfl ?_)
    refine L.ld (a := ⟨T.length, 0, none⟩) (v := d0.v) (cell_of hr7 rfl (.inl rfl)) rfl rfl rfl ?_
    repeat (first | refine W.seq ?_ | refine W.block ?_ | refine W.reg ?_ | refine W.skip ?_ | refine W.exit ?_ | refine W.ret ?_ | refine L.nil ?_ | refine L.p rfl rfl ?_ | refine L.skip rfl ?_)
    refine L.ld (a := ⟨T.length, 1, none⟩) (v := d1.v) (cell_of hr7 rfl (.inl rfl)) rfl rfl rfl ?_
    repeat (first | refine W.seq ?_ | refine W.block ?_ | refine W.reg ?_ | refine W.skip ?_ | refine W.exit ?_ | refine W.ret ?_ | refine L.nil ?_ | refine L.p rfl rfl ?_ | refine L.skip rfl ?_)
    refine L.bd #[d0.v, d1.v] rfl rfl rfl rfl rfl ?_
    refine L.st (ad := ⟨S.length, 0, none⟩) (vs := [d0.v, d1.v]) (write_of (o := 0) hk0 rfl (Nat.le_refl 2) rfl) rfl rfl rfl rfl ?_
    have he1 : Mem.row? (N1.set S.length { newR [nilV, nilV] 26 with cells := putFrom (newR [nilV, nilV] 26).cells 0 [d0.v, d1.v] }) (S.length + 1) = some (newR [.int .i64 0] 27) := by
      rw [row_set_other _ (by omega)]; exact he0
    refine L.st (ad := ⟨S.length + 1, 0, none⟩) (vs := [.int .i64 0]) (write_of (o := 0) he1 rfl (Nat.le_refl 1) rfl) rfl rfl rfl rfl ?_
    obtain ⟨N2, hN2⟩ : ∃ N, N = List.set (List.set N1 S.length { newR [nilV, nilV] 26 with cells := putFrom (newR [nilV, nilV] 26).cells 0 [d0.v, d1.v] }) (S.length + 1) { newR [.int .i64 0] 27 with cells := putFrom (newR [.int .i64 0] 27).cells 0 [.int .i64 0] } := ⟨_, rfl⟩
    rw [← hN2]
    have hkl : KeepL [S.length, S.length + 1] N1 N2 := by
      rw [hN2]
      refine ⟨by simp, fun r h1 h2 => ?_⟩
      simp only [List.mem_cons, List.not_mem_nil, or_false, not_or] at h2
      rw [List.getElem?_set, if_neg (by omega), List.getElem?_set, if_neg (by omega)]
    have hk2 : Mem.row? N2 S.length = some (newR [d0.v, d1.v] 26) := by
      rw [hN2, row_set_other _ (by omega), row_set_same hk0 rfl]; rfl
    have he2 : Mem.row? N2 (S.length + 1) = some (newR [.int .i64 0] 27) := by
      rw [hN2, row_set_same he1 rfl]; rfl
    have hS2 : Cons S N2 := fun r hr => by rw [hkl.2 r (by have := i11.len; omega) (by simp; omega), i11 r (by omega), hC r hr]
    have hd1 : HdOk N2 56 d1 (wv l1) := i41.keep hkl (fun b hb hm => by have := i51 b hb; have := i30.1; simp at hm; omega)
    have hd0 : HdOk N2 56 d0 (wv l0) := (i40.keep i31 (fun b hb hm => by have := i50 b hb; simp at hm; omega)).keep hkl (fun b hb hm => by have := i50 b hb; simp at hm; omega)
    have hb0l : ∀ b, d0.a = some b → S.length ≤ b := fun b hb => by have := i50 b hb; omega
    have hb1l : ∀ b, d1.a = some b → S.length ≤ b := fun b hb => by have := i51 b hb; have := i30.1; omega
    repeat (first | refine W.seq ?_ | refine W.block ?_ | refine W.reg ?_ | refine W.skip ?_ | refine W.exit ?_ | refine W.ret ?_ | refine L.nil ?_ | refine L.p rfl rfl ?_ | refine L.skip rfl ?_)
    refine ⟨.ret, .tuple #[.agg #[d0.v, d1.v], .int .i64 0], N2, rfl, .cons (caught_ret _ _) (.ret ?_), ?_⟩
    · have h1 : aloadAt Try.prog 26 (.pointer (some ⟨S.length, 0, none⟩)) N2 = some (.agg #[d0.v, d1.v]) := aload_agg rfl rfl (cellsAt_of (o := 0) (n := 2) hk2 (Nat.le_refl 2))
      have h2 : aloadAt Try.prog 27 (.pointer (some ⟨S.length + 1, 0, none⟩)) N2 = some (.int .i64 0) := aload_one rfl (cell_of (o := 0) (v := .int .i64 0) he2 rfl (.inl rfl))
      have h3 : ((aloadAt Try.prog 26 (.pointer (some ⟨S.length, 0, none⟩)) N2).bind fun u => (aloadAt Try.prog 27 (.pointer (some ⟨S.length + 1, 0, none⟩)) N2).map fun v => Value.tuple #[u, v]) = some (.tuple #[.agg #[d0.v, d1.v], .int .i64 0]) := by rw [h1, h2]; rfl
      exact h3
    · unfold KeyR
      rw [hend]
      exact ⟨d0, d1, rfl, ⟨hS2, i70, hd0, hb0l⟩, ⟨hS2, i71, hd1, hb1l⟩, fun b hb hb' => by have := (i40.lt hb); have := i51 b hb'; omega⟩
end Go.Proofs.Ytccdlijohkljcaa

/- Layer 7: Encode. Conditions: none. -/
set_option linter.unusedSimpArgs false
set_option linter.unusedVariables false
set_option maxRecDepth 100000
namespace Go.Proofs.Ytccdlijohkljcaa
open Go
variable {G : Nat}

/-- an integer's content -/
def contS (l : WL) : BL := if (toB (wnum l)).length = 0 ∨ 128 ≤ bat (toB (wnum l)) 0 then 0#8 :: toB (wnum l) else toB (wnum l)
/-- a key's bytes -/
def encL (l1 l2 : WL) : BL := laidS 48#8 (laidS 2#8 (contS l1) ++ laidS 2#8 (contS l2))
def encBad (l1 l2 : WL) : Prop := 4096 < blen (wnum l1) ∨ 4096 < blen (wnum l2)
instance (l1 l2 : WL) : Decidable (encBad l1 l2) := by unfold encBad; infer_instance
theorem fm_len_of {l : WL} {k : Nat} (h : blen (wnum l) ≤ 64 * k) : (fm l).length ≤ k :=
  (toW_len (wnum l) k).2 (Nat.lt_of_lt_of_le (blen_le.1 (Nat.le_refl _)) (Nat.pow_le_pow_right (by decide) h))
theorem small_of {l : WL} (h : ¬ 4096 < blen (wnum l)) : small l = true := by
  unfold small
  have h2 : (fm l).length ≤ 128 := fm_len_of (by omega)
  simp [h2]
theorem cont_len {l : WL} (h : ¬ 4096 < blen (wnum l)) : (toB (wnum l)).length ≤ 512 ∧ (contS l).length ≤ 513 := by
  have : (toB (wnum l)).length ≤ 512 := by rw [toB_len]; unfold bsz; omega
  refine ⟨this, ?_⟩
  unfold contS; split
  · rw [List.length_cons]; omega
  · omega
/-- what Encode hands out -/
def EncR (S : Mem) (l1 l2 : WL) (v : Value) (S' : Mem) : Prop := if encBad l1 l2 then v = .tuple #[nilV, .int .i64 3] ∧ Cons S S' else ∃ d : Hd, v = .tuple #[d.v, .int .i64 0] ∧ RetB S S' d (encL l1 l2)
theorem enc_pan {S T : Mem} {e : Env} {l1 l2 : WL} {u v : Value} (he2 : e 2 = nilV) (he3 : e 3 = .pointer (some ⟨S.length + 1, 0, none⟩)) (hc : Cons (keyMem S u v 0) T) (hk : encBad l1 l2) :
    ∃ m v S', modeOf (.pan (faultV 3)) = some m ∧ ALv Try.prog G Try.f19 e [⟨37, [.pointer (some ⟨S.length + 1, 0, none⟩)]⟩] m T (.ret v) S' ∧ EncR S l1 l2 v S' := by
  have hlen : (S ++ [newR [u, v] 26]).length = S.length + 1 := by simp
  obtain ⟨S', q1, q2, q3⟩ := caught_new (G := G) (n := 3) (S := S ++ [newR [u, v] 26]) (x := 0) hc
  rw [hlen] at q1 q3
  refine ⟨_, _, S', rfl, .cons q1 (.ret (v := .tuple #[nilV, .int .i64 3]) ?_), ?_⟩
  · have h2 : aloadAt Try.prog 27 (e 3) S' = some (.int .i64 3) := by rw [he3]; exact aload_one rfl (cell_of (o := 0) (v := .int .i64 3) q3 rfl (.inl rfl))
    show (some (e 2)).bind (fun u => (aloadAt Try.prog 27 (e 3) S').map fun v => Value.tuple #[u, v]) = _
    rw [h2, he2]; rfl
  · unfold EncR; rw [if_pos hk]; exact ⟨rfl, (Cons.push _ _).trans q2⟩
theorem set_self {S : Mem} {b : Nat} {r : Row} (hr : S.row? b = some r) : S.set b r = S := by
  refine List.ext_getElem? fun i => ?_
  rw [List.getElem?_set]
  split
  · rename_i h; subst h; rw [if_pos (row_lt hr)]; exact (Mem.row?_some hr).1.symm
  · rfl
theorem encode_C (a1 a2 : Option Addr) (c1 c2 : Nat) (l1 l2 : WL) (S : Mem) (h1 : WIn S a1 c1 l1) (h2 : WIn S a2 c2 l2) : C Try.prog G (Known Try.prog G) 19 [.agg #[.slice a1 l1.length c1, .slice a2 l2.length c2]] S (EncR S l1 l2) := by
  refine C.known (known_def (Checked.mixed Try.checked) (fun _ _ _ _ _ h => h) Try.func19 rfl (by kernel_rfl) rfl ?_)
  refine DW.seq (DW.code ?_)
  repeat (first | refine W.seq ?_ | refine W.block ?_ | refine W.reg ?_ | refine W.skip ?_ | refine W.exit ?_ | refine W.ret ?_ | refine L.nil ?_ | refine L.p rfl rfl ?_ | refine L.skip rfl ?_)
  refine L.eff (v := .pointer (some ⟨S.length, 0, none⟩)) (S1 := S ++ [newR [.slice a1 l1.length c1, .slice a2 l2.length c2] 26]) rfl rfl ?_
  repeat (first | refine W.seq ?_ | refine W.block ?_ | refine W.reg ?_ | refine W.skip ?_ | refine W.exit ?_ | refine W.ret ?_ | refine L.nil ?_ | refine L.p rfl rfl ?_ | refine L.skip rfl ?_)
  refine L.eff (v := .pointer (some ⟨S.length + 1, 0, none⟩)) (S1 := keyMem S (.slice a1 l1.length c1) (.slice a2 l2.length c2) 0) rfl ?_ ?_
  · refine congrArg (fun n => some (Value.pointer (some ⟨n, 0, none⟩), keyMem S (.slice a1 l1.length c1) (.slice a2 l2.length c2) 0)) (show (S ++ [newR [.slice a1 l1.length c1, .slice a2 l2.length c2] 26]).length = S.length + 1 by simp)
  repeat (first | refine W.seq ?_ | refine W.block ?_ | refine W.reg ?_ | refine W.skip ?_ | refine W.exit ?_ | refine W.ret ?_ | refine L.nil ?_ | refine L.p rfl rfl ?_ | refine L.skip rfl ?_)
  refine DW.seq (DW.defer rfl rfl ?_)
  refine DW.code ?_
  have hC := keyMem_cons S (.slice a1 l1.length c1) (.slice a2 l2.length c2) 0
  have hkr := keyMem_key S (.slice a1 l1.length c1) (.slice a2 l2.length c2) 0
  have her := keyMem_err S (.slice a1 l1.length c1) (.slice a2 l2.length c2) 0
  have hpan : ∀ {e : Env} {T : Mem}, e 2 = nilV → e 3 = .pointer (some ⟨S.length + 1, 0, none⟩) → Cons (keyMem S (.slice a1 l1.length c1) (.slice a2 l2.length c2) 0) T → encBad l1 l2 →
      ∃ m v S', modeOf (.pan (faultV 3)) = some m ∧ ALv Try.prog G Try.f19 e [⟨37, [.pointer (some ⟨S.length + 1, 0, none⟩)]⟩] m T (.ret v) S' ∧ EncR S l1 l2 v S' := fun h2 h3 hc hk => enc_pan h2 h3 hc hk
  generalize keyMem S (.slice a1 l1.length c1) (.slice a2 l2.length c2) 0 = M1 at *
  have hW1 := h1.cons hC
  have hW2 := h2.cons hC
  repeat (first | refine W.seq ?_ | refine W.block ?_ | refine W.reg ?_ | refine W.skip ?_ | refine W.exit ?_ | refine W.ret ?_ | refine L.nil ?_ | refine L.p rfl rfl ?_ | refine L.skip rfl ?_)
  refine L.ld (a := ⟨S.length, 0, none⟩) (v := .slice a1 l1.length c1) (cell_of hkr rfl (.inl rfl)) rfl rfl rfl ?_
  repeat (first | refine W.seq ?_ | refine W.block ?_ | refine W.reg ?_ | refine W.skip ?_ | refine W.exit ?_ | refine W.ret ?_ | refine L.nil ?_ | refine L.p rfl rfl ?_ | refine L.skip rfl ?_)
  refine L.ld (a := ⟨S.length, 1, none⟩) (v := .slice a2 l2.length c2) (cell_of hkr rfl (.inl rfl)) rfl rfl rfl ?_
  repeat (first | refine W.seq ?_ | refine W.block ?_ | refine W.reg ?_ | refine W.skip ?_ | refine W.exit ?_ | refine W.ret ?_ | refine L.nil ?_ | refine L.p rfl rfl ?_ | refine L.skip rfl ?_)
  refine L.bd #[.slice a1 l1.length c1, .slice a2 l2.length c2] rfl rfl rfl rfl rfl ?_
  repeat (first | refine W.seq ?_ | refine W.block ?_ | refine W.reg ?_ | refine W.skip ?_ | refine W.exit ?_ | refine W.ret ?_ | refine L.nil ?_ | refine L.p rfl rfl ?_ | refine L.skip rfl ?_)
  have hg0 := Grow.nil M1.length M1 5 1
  refine W.loopStep ?_
  repeat (first | refine W.seq ?_ | refine W.block ?_ | refine W.reg ?_ | refine W.skip ?_ | refine W.exit ?_ | refine W.ret ?_ | refine L.nil ?_ | refine L.p rfl rfl ?_ | refine L.skip rfl ?_)
  refine W.ite rfl (fun h => ?_) (fun h => ?_)
  rotate_left
  · cases h
  clear h
  repeat (first | refine W.seq ?_ | refine W.block ?_ | refine W.reg ?_ | refine W.skip ?_ | refine W.exit ?_ | refine W.ret ?_ | refine L.nil ?_ | refine L.p rfl rfl ?_ | refine L.skip rfl ?_)
  refine L.cl (bits_C a1 c1 l1 M1 (hW1.cons (Cons.refl M1))) rfl rfl ?_
  rintro _ _ ⟨rfl, hS'⟩
  have hS2 := hS'.symm
  subst hS2
  clear hS'
  refine ⟨nofun, ?_⟩
  repeat (first | refine W.seq ?_ | refine W.block ?_ | refine W.reg ?_ | refine W.skip ?_ | refine W.exit ?_ | refine W.ret ?_ | refine L.nil ?_ | refine L.p rfl rfl ?_ | refine L.skip rfl ?_)
  refine L.fail (so := decide ((blen (wnum l1) : Int) > 4096)) rfl rfl (fun h => ?_) (fun h => ?_)
  · exact ⟨rfl, hpan rfl rfl (Cons.refl M1) (by have := of_decide_eq_true h; unfold encBad; omega)⟩
  have hb0 : ¬ 4096 < blen (wnum l1) := by have := of_decide_eq_false h; omega
  clear h
  have hsm := small_of hb0
  obtain ⟨hl0, hl20⟩ := cont_len hb0
  repeat (first | refine W.seq ?_ | refine W.block ?_ | refine W.reg ?_ | refine W.skip ?_ | refine W.exit ?_ | refine W.ret ?_ | refine L.nil ?_ | refine L.p rfl rfl ?_ | refine L.skip rfl ?_)
  refine L.cl (natBytes_C a1 c1 l1 M1 (hW1.cons (Cons.refl M1))) rfl rfl ?_
  rintro _ T1 ⟨d1, rfl, hR1⟩
  refine ⟨nofun, ?_⟩
  have hB1 : bytesL l1 = toB (wnum l1) := by unfold bytesL; rw [if_pos hsm]
  have hE1 : toldE l1 = 0 := by unfold toldE; rw [if_pos hsm]
  rw [hB1] at hR1
  rw [hE1]
  clear hB1 hE1
  repeat (first | refine W.seq ?_ | refine W.block ?_ | refine W.reg ?_ | refine W.skip ?_ | refine W.exit ?_ | refine W.ret ?_ | refine L.nil ?_ | refine L.p rfl rfl ?_ | refine L.skip rfl ?_)
  refine L.fail (so := false) rfl rfl (fun h => ?_) (fun h => ?_)
  · cases h
  clear h
  have hdn : d1.n = (toB (wnum l1)).length := by have := hR1.2.2.1.len; rw [bv_len] at this; exact this.symm
  refine L.nil ?_
  refine W.seq (W.mono (R := fun x e' S' => x = .nrm ∧ ∃ d : Hd, e' 7 = d.v ∧ RetB M1 S' d (contS l1) ∧ e' 2 = nilV ∧ e' 3 = .pointer (some ⟨S.length + 1, 0, none⟩) ∧ e' 4 = nilV ∧ e' 13 = .agg #[.slice a1 l1.length c1, .slice a2 l2.length c2] ∧ e' 14 = vi 0) ?_ ?_)
  · repeat (first | refine W.seq ?_ | refine W.block ?_ | refine W.reg ?_ | refine W.skip ?_ | refine W.exit ?_ | refine W.ret ?_ | refine L.nil ?_ | refine L.p rfl rfl ?_ | refine L.skip rfl ?_)
    cases hq : ((d1.n : Int) == 0)
    rotate_left
    · have hz : (toB (wnum l1)).length = 0 := by have : (d1.n : Int) = 0 := (by simpa using hq); omega
      repeat (first | refine W.seq ?_ | refine W.block ?_ | refine W.reg ?_ | refine W.skip ?_ | refine W.exit ?_ | refine W.ret ?_ | refine L.nil ?_ | refine L.p rfl rfl ?_ | refine L.skip rfl ?_)
      refine W.ite rfl (fun h => ?_) (fun h => ?_)
      rotate_left
      · cases h
      clear h
      repeat (first | refine W.seq ?_ | refine W.block ?_ | refine W.reg ?_ | refine W.skip ?_ | refine W.exit ?_ | refine W.ret ?_ | refine L.nil ?_ | refine L.p rfl rfl ?_ | refine L.skip rfl ?_)
      refine L.bs [v8 0#8] rfl rfl rfl rfl rfl rfl ?_
      have hcP : Cons T1 (T1 ++ [newR [v8 0#8] 5]) := Cons.push _ _
      have hrP : Mem.row? (T1 ++ [newR [v8 0#8] 5]) T1.length = some (newR [v8 0#8] 5) := row_push_new rfl
      generalize T1 ++ [newR [v8 0#8] 5] = P1 at *
      have hsP := one_slv hrP
      repeat (first | refine W.seq ?_ | refine W.block ?_ | refine W.reg ?_ | refine W.skip ?_ | refine W.exit ?_ | refine W.ret ?_ | refine L.nil ?_ | refine L.p rfl rfl ?_ | refine L.skip rfl ?_)
      refine L.bs [.slice (some ⟨T1.length, 0, none⟩) 1 1, d1.v] rfl rfl rfl rfl rfl rfl ?_
      have hcQ : Cons P1 (P1 ++ [newR [.slice (some ⟨T1.length, 0, none⟩) 1 1, d1.v] 22]) := Cons.push _ _
      have hrQ : Mem.row? (P1 ++ [newR [.slice (some ⟨T1.length, 0, none⟩) 1 1, d1.v] 22]) P1.length = some (newR [.slice (some ⟨T1.length, 0, none⟩) 1 1, d1.v] 22) := row_push_new rfl
      generalize P1 ++ [newR [.slice (some ⟨T1.length, 0, none⟩) 1 1, d1.v] 22] = P2 at *
      refine L.cl (concat_C (some ⟨P1.length, 0, none⟩) 2 _ [[0#8], (toB (wnum l1))] P2 (Slv.all hrQ rfl rfl) (.add (hsP.cons hcQ) rfl (.add ((hR1.2.2.1.slv.cons hcP).cons hcQ) hdn (.nil _))) (by simp) (by simp; omega) (by simp)) rfl rfl ?_
      rintro _ P3 ⟨d2, rfl, hR2⟩
      refine ⟨nofun, ?_⟩
      repeat (first | refine W.seq ?_ | refine W.block ?_ | refine W.reg ?_ | refine W.skip ?_ | refine W.exit ?_ | refine W.ret ?_ | refine L.nil ?_ | refine L.p rfl rfl ?_ | refine L.skip rfl ?_)
      refine ⟨rfl, d2, rfl, ?_, rfl, rfl, rfl, rfl, rfl⟩
      have hR3 := ((hR2.pre hcQ).pre hcP).pre hR1.1
      rwa [show [[0#8], (toB (wnum l1))].flatten = contS l1 by unfold contS; rw [if_pos (by omega)]; simp] at hR3
    have hz : (toB (wnum l1)).length ≠ 0 := by
      have : ¬ (d1.n : Int) = 0 := by simpa using hq
      omega
    obtain ⟨x, hx, hx'⟩ := bat_some (b := toB (wnum l1)) (i := 0) (by omega)
    repeat (first | refine W.seq ?_ | refine W.block ?_ | refine W.reg ?_ | refine W.skip ?_ | refine W.exit ?_ | refine W.ret ?_ | refine L.nil ?_ | refine L.p rfl rfl ?_ | refine L.skip rfl ?_)
    have hsl := hR1.2.2.1.slv
    refine L.el hsl (k := 0) rfl (bv_get hx) rfl rfl rfl rfl (fun _ => rfl) rfl (fun p => ?_)
    repeat (first | refine W.seq ?_ | refine W.block ?_ | refine W.reg ?_ | refine W.skip ?_ | refine W.exit ?_ | refine W.ret ?_ | refine L.nil ?_ | refine L.p rfl rfl ?_ | refine L.skip rfl ?_)
    refine W.ite rfl (fun h => ?_) (fun h => ?_)
    · have h8 : 128 ≤ x.toNat := by have := of_decide_eq_true h; omega
      clear h
      repeat (first | refine W.seq ?_ | refine W.block ?_ | refine W.reg ?_ | refine W.skip ?_ | refine W.exit ?_ | refine W.ret ?_ | refine L.nil ?_ | refine L.p rfl rfl ?_ | refine L.skip rfl ?_)
      refine L.bs [v8 0#8] rfl rfl rfl rfl rfl rfl ?_
      have hcP : Cons T1 (T1 ++ [newR [v8 0#8] 5]) := Cons.push _ _
      have hrP : Mem.row? (T1 ++ [newR [v8 0#8] 5]) T1.length = some (newR [v8 0#8] 5) := row_push_new rfl
      generalize T1 ++ [newR [v8 0#8] 5] = P1 at *
      have hsP := one_slv hrP
      repeat (first | refine W.seq ?_ | refine W.block ?_ | refine W.reg ?_ | refine W.skip ?_ | refine W.exit ?_ | refine W.ret ?_ | refine L.nil ?_ | refine L.p rfl rfl ?_ | refine L.skip rfl ?_)
      refine L.bs [.slice (some ⟨T1.length, 0, none⟩) 1 1, d1.v] rfl rfl rfl rfl rfl rfl ?_
      have hcQ : Cons P1 (P1 ++ [newR [.slice (some ⟨T1.length, 0, none⟩) 1 1, d1.v] 22]) := Cons.push _ _
      have hrQ : Mem.row? (P1 ++ [newR [.slice (some ⟨T1.length, 0, none⟩) 1 1, d1.v] 22]) P1.length = some (newR [.slice (some ⟨T1.length, 0, none⟩) 1 1, d1.v] 22) := row_push_new rfl
      generalize P1 ++ [newR [.slice (some ⟨T1.length, 0, none⟩) 1 1, d1.v] 22] = P2 at *
      refine L.cl (concat_C (some ⟨P1.length, 0, none⟩) 2 _ [[0#8], (toB (wnum l1))] P2 (Slv.all hrQ rfl rfl) (.add (hsP.cons hcQ) rfl (.add ((hR1.2.2.1.slv.cons hcP).cons hcQ) hdn (.nil _))) (by simp) (by simp; omega) (by simp)) rfl rfl ?_
      rintro _ P3 ⟨d2, rfl, hR2⟩
      refine ⟨nofun, ?_⟩
      repeat (first | refine W.seq ?_ | refine W.block ?_ | refine W.reg ?_ | refine W.skip ?_ | refine W.exit ?_ | refine W.ret ?_ | refine L.nil ?_ | refine L.p rfl rfl ?_ | refine L.skip rfl ?_)
      refine ⟨rfl, d2, rfl, ?_, rfl, rfl, rfl, rfl, rfl⟩
      have hR3 := ((hR2.pre hcQ).pre hcP).pre hR1.1
      rwa [show [[0#8], (toB (wnum l1))].flatten = contS l1 by unfold contS; rw [if_pos (by omega)]; simp] at hR3
    have h8 : x.toNat < 128 := by have := of_decide_eq_false h; omega
    clear h
    repeat (first | refine W.seq ?_ | refine W.block ?_ | refine W.reg ?_ | refine W.skip ?_ | refine W.exit ?_ | refine W.ret ?_ | refine L.nil ?_ | refine L.p rfl rfl ?_ | refine L.skip rfl ?_)
    refine ⟨rfl, d1, rfl, ?_, rfl, rfl, rfl, rfl, rfl⟩
    rw [show contS l1 = toB (wnum l1) by unfold contS; rw [if_neg (by omega)]]
    exact hR1
  clear hR1 hdn
  rintro x e T2 ⟨rfl, d2, e7, hR2, e2, e3, e4, e13, e14⟩
  refine W.env6 e2 e3 e4 e7 e13 e14 ?_
  obtain ⟨hI2, hv2⟩ := hR2.2.2.1.bin hR2.2.1
  repeat (first | refine W.seq ?_ | refine W.block ?_ | refine W.reg ?_ | refine W.skip ?_ | refine W.exit ?_ | refine W.ret ?_ | refine L.nil ?_ | refine L.p rfl rfl ?_ | refine L.skip rfl ?_)
  refine L.cl (laid_C 2#8 _ d2.c (contS l1) T2 hI2.1 (by omega)) rfl (acall_eq (list2 rfl hv2)) ?_
  rintro _ T3 ⟨u0, rfl, hR3⟩
  refine ⟨nofun, ?_⟩
  have hm0 : u0.n = (laidS 2#8 (contS l1)).length := by have := hR3.2.2.1.len; rw [bv_len] at this; exact this.symm
  have hll0 : (laidS 2#8 (contS l1)).length ≤ 520 := by
    have h8 := laidS_len 2#8 (contS l1)
    have h9 := toB_lt (n := (contS l1).length) (by omega)
    omega
  have hcT := ((Cons.refl M1)).trans (hR2.1.trans hR3.1)
  repeat (first | refine W.seq ?_ | refine W.block ?_ | refine W.reg ?_ | refine W.skip ?_ | refine W.exit ?_ | refine W.ret ?_ | refine L.nil ?_ | refine L.p rfl rfl ?_ | refine L.skip rfl ?_)
  refine L.app (bytes := 1) (n := 0) (m := u0.n) rfl hcT.len ((hg0).cons (hR2.1.trans hR3.1)) rfl rfl hR3.2.2.1.slv (bv_one _) (by omega) rfl rfl ?_
  intro a0 c0 N0 g0 _ hA
  have k0 : Cons M1 N0 := hcT.trans' hA
  clear hA hcT hR3 hR2 hI2
  repeat (first | refine W.seq ?_ | refine W.block ?_ | refine W.reg ?_ | refine W.skip ?_ | refine W.exit ?_ | refine W.ret ?_ | refine L.nil ?_ | refine L.p rfl rfl ?_ | refine L.skip rfl ?_)
  refine W.loopStep ?_
  repeat (first | refine W.seq ?_ | refine W.block ?_ | refine W.reg ?_ | refine W.skip ?_ | refine W.exit ?_ | refine W.ret ?_ | refine L.nil ?_ | refine L.p rfl rfl ?_ | refine L.skip rfl ?_)
  refine W.ite rfl (fun h => ?_) (fun h => ?_)
  rotate_left
  · cases h
  clear h
  repeat (first | refine W.seq ?_ | refine W.block ?_ | refine W.reg ?_ | refine W.skip ?_ | refine W.exit ?_ | refine W.ret ?_ | refine L.nil ?_ | refine L.p rfl rfl ?_ | refine L.skip rfl ?_)
  refine L.cl (bits_C a2 c2 l2 N0 (hW2.cons k0)) rfl rfl ?_
  rintro _ _ ⟨rfl, hS'⟩
  have hS2 := hS'.symm
  subst hS2
  clear hS'
  refine ⟨nofun, ?_⟩
  repeat (first | refine W.seq ?_ | refine W.block ?_ | refine W.reg ?_ | refine W.skip ?_ | refine W.exit ?_ | refine W.ret ?_ | refine L.nil ?_ | refine L.p rfl rfl ?_ | refine L.skip rfl ?_)
  refine L.fail (so := decide ((blen (wnum l2) : Int) > 4096)) rfl rfl (fun h => ?_) (fun h => ?_)
  · exact ⟨rfl, hpan rfl rfl k0 (by have := of_decide_eq_true h; unfold encBad; omega)⟩
  have hb1 : ¬ 4096 < blen (wnum l2) := by have := of_decide_eq_false h; omega
  clear h
  have hsm := small_of hb1
  obtain ⟨hl1, hl21⟩ := cont_len hb1
  repeat (first | refine W.seq ?_ | refine W.block ?_ | refine W.reg ?_ | refine W.skip ?_ | refine W.exit ?_ | refine W.ret ?_ | refine L.nil ?_ | refine L.p rfl rfl ?_ | refine L.skip rfl ?_)
  refine L.cl (natBytes_C a2 c2 l2 N0 (hW2.cons k0)) rfl rfl ?_
  rintro _ T1 ⟨d1, rfl, hR1⟩
  refine ⟨nofun, ?_⟩
  have hB1 : bytesL l2 = toB (wnum l2) := by unfold bytesL; rw [if_pos hsm]
  have hE1 : toldE l2 = 0 := by unfold toldE; rw [if_pos hsm]
  rw [hB1] at hR1
  rw [hE1]
  clear hB1 hE1
  repeat (first | refine W.seq ?_ | refine W.block ?_ | refine W.reg ?_ | refine W.skip ?_ | refine W.exit ?_ | refine W.ret ?_ | refine L.nil ?_ | refine L.p rfl rfl ?_ | refine L.skip rfl ?_)
  refine L.fail (so := false) rfl rfl (fun h => ?_) (fun h => ?_)
  · cases h
  clear h
  have hdn : d1.n = (toB (wnum l2)).length := by have := hR1.2.2.1.len; rw [bv_len] at this; exact this.symm
  refine L.nil ?_
  refine W.seq (W.mono (R := fun x e' S' => x = .nrm ∧ ∃ d : Hd, e' 7 = d.v ∧ RetB N0 S' d (contS l2) ∧ e' 2 = nilV ∧ e' 3 = .pointer (some ⟨S.length + 1, 0, none⟩) ∧ e' 4 = (.slice a0 (0 + u0.n) c0) ∧ e' 13 = .agg #[.slice a1 l1.length c1, .slice a2 l2.length c2] ∧ e' 14 = vi 1) ?_ ?_)
  · repeat (first | refine W.seq ?_ | refine W.block ?_ | refine W.reg ?_ | refine W.skip ?_ | refine W.exit ?_ | refine W.ret ?_ | refine L.nil ?_ | refine L.p rfl rfl ?_ | refine L.skip rfl ?_)
    cases hq : ((d1.n : Int) == 0)
    rotate_left
    · have hz : (toB (wnum l2)).length = 0 := by have : (d1.n : Int) = 0 := (by simpa using hq); omega
      repeat (first | refine W.seq ?_ | refine W.block ?_ | refine W.reg ?_ | refine W.skip ?_ | refine W.exit ?_ | refine W.ret ?_ | refine L.nil ?_ | refine L.p rfl rfl ?_ | refine L.skip rfl ?_)
      refine W.ite rfl (fun h => ?_) (fun h => ?_)
      rotate_left
      · cases h
      clear h
      repeat (first | refine W.seq ?_ | refine W.block ?_ | refine W.reg ?_ | refine W.skip ?_ | refine W.exit ?_ | refine W.ret ?_ | refine L.nil ?_ | refine L.p rfl rfl ?_ | refine L.skip rfl ?_)
      refine L.bs [v8 0#8] rfl rfl rfl rfl rfl rfl ?_
      have hcP : Cons T1 (T1 ++ [newR [v8 0#8] 5]) := Cons.push _ _
      have hrP : Mem.row? (T1 ++ [newR [v8 0#8] 5]) T1.length = some (newR [v8 0#8] 5) := row_push_new rfl
      generalize T1 ++ [newR [v8 0#8] 5] = P1 at *
      have hsP := one_slv hrP
      repeat (first | refine W.seq ?_ | refine W.block ?_ | refine W.reg ?_ | refine W.skip ?_ | refine W.exit ?_ | refine W.ret ?_ | refine L.nil ?_ | refine L.p rfl rfl ?_ | refine L.skip rfl ?_)
      refine L.bs [.slice (some ⟨T1.length, 0, none⟩) 1 1, d1.v] rfl rfl rfl rfl rfl rfl ?_
      have hcQ : Cons P1 (P1 ++ [newR [.slice (some ⟨T1.length, 0, none⟩) 1 1, d1.v] 22]) := Cons.push _ _
      have hrQ : Mem.row? (P1 ++ [newR [.slice (some ⟨T1.length, 0, none⟩) 1 1, d1.v] 22]) P1.length = some (newR [.slice (some ⟨T1.length, 0, none⟩) 1 1, d1.v] 22) := row_push_new rfl
      generalize P1 ++ [newR [.slice (some ⟨T1.length, 0, none⟩) 1 1, d1.v] 22] = P2 at *
      refine L.cl (concat_C (some ⟨P1.length, 0, none⟩) 2 _ [[0#8], (toB (wnum l2))] P2 (Slv.all hrQ rfl rfl) (.add (hsP.cons hcQ) rfl (.add ((hR1.2.2.1.slv.cons hcP).cons hcQ) hdn (.nil _))) (by simp) (by simp; omega) (by simp)) rfl rfl ?_
      rintro _ P3 ⟨d2, rfl, hR2⟩
      refine ⟨nofun, ?_⟩
      repeat (first | refine W.seq ?_ | refine W.block ?_ | refine W.reg ?_ | refine W.skip ?_ | refine W.exit ?_ | refine W.ret ?_ | refine L.nil ?_ | refine L.p rfl rfl ?_ | refine L.skip rfl ?_)
      refine ⟨rfl, d2, rfl, ?_, rfl, rfl, rfl, rfl, rfl⟩
      have hR3 := ((hR2.pre hcQ).pre hcP).pre hR1.1
      rwa [show [[0#8], (toB (wnum l2))].flatten = contS l2 by unfold contS; rw [if_pos (by omega)]; simp] at hR3
    have hz : (toB (wnum l2)).length ≠ 0 := by
      have : ¬ (d1.n : Int) = 0 := by simpa using hq
      omega
    obtain ⟨x, hx, hx'⟩ := bat_some (b := toB (wnum l2)) (i := 0) (by omega)
    repeat (first | refine W.seq ?_ | refine W.block ?_ | refine W.reg ?_ | refine W.skip ?_ | refine W.exit ?_ | refine W.ret ?_ | refine L.nil ?_ | refine L.p rfl rfl ?_ | refine L.skip rfl ?_)
    have hsl := hR1.2.2.1.slv
    refine L.el hsl (k := 0) rfl (bv_get hx) rfl rfl rfl rfl (fun _ => rfl) rfl (fun p => ?_)
    repeat (first | refine W.seq ?_ | refine W.block ?_ | refine W.reg ?_ | refine W.skip ?_ | refine W.exit ?_ | refine W.ret ?_ | refine L.nil ?_ | refine L.p rfl rfl ?_ | refine L.skip rfl ?_)
    refine W.ite rfl (fun h => ?_) (fun h => ?_)
    · have h8 : 128 ≤ x.toNat := by have := of_decide_eq_true h; omega
      clear h
      repeat (first | refine W.seq ?_ | refine W.block ?_ | refine W.reg ?_ | refine W.skip ?_ | refine W.exit ?_ | refine W.ret ?_ | refine L.nil ?_ | refine L.p rfl rfl ?_ | refine L.skip rfl ?_)
      refine L.bs [v8 0#8] rfl rfl rfl rfl rfl rfl ?_
      have hcP : Cons T1 (T1 ++ [newR [v8 0#8] 5]) := Cons.push _ _
      have hrP : Mem.row? (T1 ++ [newR [v8 0#8] 5]) T1.length = some (newR [v8 0#8] 5) := row_push_new rfl
      generalize T1 ++ [newR [v8 0#8] 5] = P1 at *
      have hsP := one_slv hrP
      repeat (first | refine W.seq ?_ | refine W.block ?_ | refine W.reg ?_ | refine W.skip ?_ | refine W.exit ?_ | refine W.ret ?_ | refine L.nil ?_ | refine L.p rfl rfl ?_ | refine L.skip rfl ?_)
      refine L.bs [.slice (some ⟨T1.length, 0, none⟩) 1 1, d1.v] rfl rfl rfl rfl rfl rfl ?_
      have hcQ : Cons P1 (P1 ++ [newR [.slice (some ⟨T1.length, 0, none⟩) 1 1, d1.v] 22]) := Cons.push _ _
      have hrQ : Mem.row? (P1 ++ [newR [.slice (some ⟨T1.length, 0, none⟩) 1 1, d1.v] 22]) P1.length = some (newR [.slice (some ⟨T1.length, 0, none⟩) 1 1, d1.v] 22) := row_push_new rfl
      generalize P1 ++ [newR [.slice (some ⟨T1.length, 0, none⟩) 1 1, d1.v] 22] = P2 at *
      refine L.cl (concat_C (some ⟨P1.length, 0, none⟩) 2 _ [[0#8], (toB (wnum l2))] P2 (Slv.all hrQ rfl rfl) (.add (hsP.cons hcQ) rfl (.add ((hR1.2.2.1.slv.cons hcP).cons hcQ) hdn (.nil _))) (by simp) (by simp; omega) (by simp)) rfl rfl ?_
      rintro _ P3 ⟨d2, rfl, hR2⟩
      refine ⟨nofun, ?_⟩
      repeat (first | refine W.seq ?_ | refine W.block ?_ | refine W.reg ?_ | refine W.skip ?_ | refine W.exit ?_ | refine W.ret ?_ | refine L.nil ?_ | refine L.p rfl rfl ?_ | refine L.skip rfl ?_)
      refine ⟨rfl, d2, rfl, ?_, rfl, rfl, rfl, rfl, rfl⟩
      have hR3 := ((hR2.pre hcQ).pre hcP).pre hR1.1
      rwa [show [[0#8], (toB (wnum l2))].flatten = contS l2 by unfold contS; rw [if_pos (by omega)]; simp] at hR3
    have h8 : x.toNat < 128 := by have := of_decide_eq_false h; omega
    clear h
    repeat (first | refine W.seq ?_ | refine W.block ?_ | refine W.reg ?_ | refine W.skip ?_ | refine W.exit ?_ | refine W.ret ?_ | refine L.nil ?_ | refine L.p rfl rfl ?_ | refine L.skip rfl ?_)
    refine ⟨rfl, d1, rfl, ?_, rfl, rfl, rfl, rfl, rfl⟩
    rw [show contS l2 = toB (wnum l2) by unfold contS; rw [if_neg (by omega)]]
    exact hR1
  clear hR1 hdn
  rintro x e T2 ⟨rfl, d2, e7, hR2, e2, e3, e4, e13, e14⟩
  refine W.env6 e2 e3 e4 e7 e13 e14 ?_
  obtain ⟨hI2, hv2⟩ := hR2.2.2.1.bin hR2.2.1
  repeat (first | refine W.seq ?_ | refine W.block ?_ | refine W.reg ?_ | refine W.skip ?_ | refine W.exit ?_ | refine W.ret ?_ | refine L.nil ?_ | refine L.p rfl rfl ?_ | refine L.skip rfl ?_)
  refine L.cl (laid_C 2#8 _ d2.c (contS l2) T2 hI2.1 (by omega)) rfl (acall_eq (list2 rfl hv2)) ?_
  rintro _ T3 ⟨u1, rfl, hR3⟩
  refine ⟨nofun, ?_⟩
  have hm1 : u1.n = (laidS 2#8 (contS l2)).length := by have := hR3.2.2.1.len; rw [bv_len] at this; exact this.symm
  have hll1 : (laidS 2#8 (contS l2)).length ≤ 520 := by
    have h8 := laidS_len 2#8 (contS l2)
    have h9 := toB_lt (n := (contS l2).length) (by omega)
    omega
  have hcT := (k0).trans (hR2.1.trans hR3.1)
  repeat (first | refine W.seq ?_ | refine W.block ?_ | refine W.reg ?_ | refine W.skip ?_ | refine W.exit ?_ | refine W.ret ?_ | refine L.nil ?_ | refine L.p rfl rfl ?_ | refine L.skip rfl ?_)
  refine L.app (bytes := 1) (n := (0 + u0.n)) (m := u1.n) rfl hcT.len ((g0).cons (hR2.1.trans hR3.1)) rfl rfl hR3.2.2.1.slv (bv_one _) (by omega) rfl rfl ?_
  intro a1 c1 N1 g1 _ hA
  have k1 : Cons M1 N1 := hcT.trans' hA
  clear hA hcT hR3 hR2 hI2
  repeat (first | refine W.seq ?_ | refine W.block ?_ | refine W.reg ?_ | refine W.skip ?_ | refine W.exit ?_ | refine W.ret ?_ | refine L.nil ?_ | refine L.p rfl rfl ?_ | refine L.skip rfl ?_)
  refine W.loopStep ?_
  repeat (first | refine W.seq ?_ | refine W.block ?_ | refine W.reg ?_ | refine W.skip ?_ | refine W.exit ?_ | refine W.ret ?_ | refine L.nil ?_ | refine L.p rfl rfl ?_ | refine L.skip rfl ?_)
  refine W.ite rfl (fun h => ?_) (fun h => ?_)
  · cases h
  clear h
  have hgs := g1.slv
  have hle : bv [] ++ bv (laidS 2#8 (contS l1)) ++ bv (laidS 2#8 (contS l2)) = bv (laidS 2#8 (contS l1) ++ laidS 2#8 (contS l2)) := by simp [bv]
  have hnn : 0 + u0.n + u1.n = (laidS 2#8 (contS l1) ++ laidS 2#8 (contS l2)).length := by rw [List.length_append]; omega
  rw [show ([] : List Value) ++ bv (laidS 2#8 (contS l1)) ++ bv (laidS 2#8 (contS l2)) = bv (laidS 2#8 (contS l1) ++ laidS 2#8 (contS l2)) by simp [bv], hnn] at hgs
  repeat (first | refine W.seq ?_ | refine W.block ?_ | refine W.reg ?_ | refine W.skip ?_ | refine W.exit ?_ | refine W.ret ?_ | refine L.nil ?_ | refine L.p rfl rfl ?_ | refine L.skip rfl ?_)
  refine L.cl (laid_C 48#8 _ c1 (laidS 2#8 (contS l1) ++ laidS 2#8 (contS l2)) N1 hgs (by omega)) rfl (acall_eq (congrArg (fun n => [v8 48#8, Value.slice a1 n c1]) hnn)) ?_
  rintro _ E1 ⟨d, rfl, hR⟩
  refine ⟨nofun, ?_⟩
  have hkE : Cons M1 E1 := k1.trans hR.1
  have heE : E1.row? (S.length + 1) = some (newR [.int .i64 0] 27) := Cons.row (h := hkE) her
  repeat (first | refine W.seq ?_ | refine W.block ?_ | refine W.reg ?_ | refine W.skip ?_ | refine W.exit ?_ | refine W.ret ?_ | refine L.nil ?_ | refine L.p rfl rfl ?_ | refine L.skip rfl ?_)
  refine L.st (ad := ⟨S.length + 1, 0, none⟩) (vs := [.int .i64 0]) (write_of (o := 0) heE rfl (Nat.le_refl 1) rfl) rfl rfl rfl rfl ?_
  rw [show E1.set (S.length + 1) { newR [.int .i64 0] 27 with cells := putFrom (newR [.int .i64 0] 27).cells 0 [.int .i64 0] } = E1 from set_self heE]
  repeat (first | refine W.seq ?_ | refine W.block ?_ | refine W.reg ?_ | refine W.skip ?_ | refine W.exit ?_ | refine W.ret ?_ | refine L.nil ?_ | refine L.p rfl rfl ?_ | refine L.skip rfl ?_)
  refine ⟨.ret, .tuple #[d.v, .int .i64 0], E1, rfl, .cons (caught_ret _ _) (.ret ?_), ?_⟩
  · have ha : aloadAt Try.prog 27 (.pointer (some ⟨S.length + 1, 0, none⟩)) E1 = some (.int .i64 0) := aload_one rfl (cell_of (o := 0) (v := .int .i64 0) heE rfl (.inl rfl))
    exact congrArg (fun o => Option.map (fun v => Value.tuple #[d.v, v]) o) ha
  · unfold EncR
    rw [if_neg (show ¬ encBad l1 l2 by unfold encBad; omega)]
    exact ⟨d, rfl, (hR.pre k1).pre hC⟩
end Go.Proofs.Ytccdlijohkljcaa

/- The reference of layer 7: an item's bytes; an integer's content. Conditions: none. -/
set_option linter.unusedSimpArgs false
set_option linter.unusedVariables false
set_option maxRecDepth 100000
namespace Go.Proofs.Ytccdlijohkljcaa
open Go
variable {G : Nat} {Ext : FuncId → List Value → Mem → Outc → Mem → Prop}

theorem lenB_len {n : Nat} (h : n < 1099511627776) : (lenB n).length ≤ 6 := by
  have := toB_lt h
  unfold lenB; split
  · simp
  · rw [List.length_cons]; omega
theorem refLaid_C (tag : BitVec 8) (a : Option Addr) (c : Nat) (l : BL) (S : Mem) (hs : Slv S 1 (.slice a l.length c) l.length (bv l)) (hl : l.length < 549755813888) : C Try.prog G Ext 48 [v8 tag, .slice a l.length c] S fun v S' => RefB S S' v (laidS tag l) := by
  refine C.fn Try.func48 rfl (by kernel_rfl) rfl ?_
  repeat (first | refine W.seq ?_ | refine W.block ?_ | refine W.reg ?_ | refine W.skip ?_ | refine W.exit ?_ | refine W.ret ?_ | refine L.nil ?_ | refine L.p rfl rfl ?_ | refine L.skip rfl ?_)
  refine L.bs [v8 tag] rfl rfl rfl rfl rfl rfl ?_
  have hsP : Slv (S ++ [newR [v8 tag] 5]) 1 (.slice (some ⟨S.length, 0, none⟩) 1 1) 1 (bv [tag]) := one_slv (row_push_new rfl)
  have hcP : Cons S (S ++ [newR [v8 tag] 5]) := Cons.push _ _
  generalize S ++ [newR [v8 tag] 5] = P1 at *
  repeat (first | refine W.seq ?_ | refine W.block ?_ | refine W.reg ?_ | refine W.skip ?_ | refine W.exit ?_ | refine W.ret ?_ | refine L.nil ?_ | refine L.p rfl rfl ?_ | refine L.skip rfl ?_)
  refine L.app (bytes := 1) (n := 0) (m := 1) rfl (Nat.le_refl _) (Grow.nil P1.length P1 5 1) rfl rfl hsP (bv_one _) (by omega) rfl rfl ?_
  intro a1 c1 P2 g1 _ hA1
  have hc1 : Cons P1 P2 := hA1
  repeat (first | refine W.seq ?_ | refine W.block ?_ | refine W.reg ?_ | refine W.skip ?_ | refine W.exit ?_ | refine W.ret ?_ | refine L.nil ?_ | refine L.p rfl rfl ?_ | refine L.skip rfl ?_)
  refine L.cl (refLength_C l.length hl P2) rfl rfl ?_
  rintro _ P3 ⟨hc3, a3, c3, rfl, hB3⟩
  refine ⟨nofun, ?_⟩
  have hll := lenB_len (n := l.length) (by omega)
  have hc13 := hc1.trans hc3
  refine L.app (bytes := 1) (n := 0 + 1) (m := (lenB l.length).length) rfl hc13.len (g1.cons hc3) rfl rfl hB3.1 (bv_one _) (by omega) rfl rfl ?_
  intro a4 c4 P4 g4 _ hA4
  have hc4 : Cons P1 P4 := hc13.trans' hA4
  repeat (first | refine W.seq ?_ | refine W.block ?_ | refine W.reg ?_ | refine W.skip ?_ | refine W.exit ?_ | refine W.ret ?_ | refine L.nil ?_ | refine L.p rfl rfl ?_ | refine L.skip rfl ?_)
  refine L.app (bytes := 1) (n := 0 + 1 + (lenB l.length).length) (m := l.length) rfl hc4.len g4 rfl rfl ((hs.cons hcP).cons hc4) (bv_one _) (by omega) rfl rfl ?_
  intro a5 c5 P5 g5 _ hA5
  have hc5 : Cons P1 P5 := hc4.trans' hA5
  repeat (first | refine W.seq ?_ | refine W.block ?_ | refine W.reg ?_ | refine W.skip ?_ | refine W.exit ?_ | refine W.ret ?_ | refine L.nil ?_ | refine L.p rfl rfl ?_ | refine L.skip rfl ?_)
  have hlen : 0 + 1 + (lenB l.length).length + l.length = (laidS tag l).length := by rw [laidS_eq, List.length_cons, List.length_append]; omega
  rw [show ([] : List Value) ++ bv [tag] ++ bv (lenB l.length) ++ bv l = bv (laidS tag l) by rw [laidS_eq]; simp [bv]] at g5
  have hB := grow_bin g5 hlen.symm (by omega)
  refine ⟨.inr rfl, _, rfl, hcP.trans hc5, a5, c5, ?_, hB⟩
  refine (force_eq rfl).trans ?_
  rw [hlen]
theorem refContent_C (a : Option Addr) (c : Nat) (l : WL) (S : Mem) (hI : WIn S a c l) (hb : ¬ 4096 < blen (wnum l)) (hlen : l.length < 400000) : C Try.prog G Ext 49 [.slice a l.length c] S fun v S' => RefB S S' v (contS l) := by
  refine C.fn Try.func49 rfl (by kernel_rfl) rfl ?_
  repeat (first | refine W.seq ?_ | refine W.block ?_ | refine W.reg ?_ | refine W.skip ?_ | refine W.exit ?_ | refine W.ret ?_ | refine L.nil ?_ | refine L.p rfl rfl ?_ | refine L.skip rfl ?_)
  refine L.cl (refBytes_C a c l S hI hlen) rfl rfl ?_
  rintro _ S1 ⟨a1, c1, rfl, hc, hB⟩
  refine ⟨nofun, ?_⟩
  have hB1 : bytesL l = toB (wnum l) := by unfold bytesL; rw [if_pos (small_of hb)]
  rw [hB1] at hB ⊢
  have hcl := (cont_len hb).1
  obtain ⟨t, ht⟩ : ∃ t, t = toB (wnum l) := ⟨_, rfl⟩
  rw [← ht] at hB hcl ⊢
  repeat (first | refine W.seq ?_ | refine W.block ?_ | refine W.reg ?_ | refine W.skip ?_ | refine W.exit ?_ | refine W.ret ?_ | refine L.nil ?_ | refine L.p rfl rfl ?_ | refine L.skip rfl ?_)
  cases hq : decide ((t.length : Int) > 0)
  · have h0 : t.length = 0 := by have := of_decide_eq_false hq; omega
    clear hq
    repeat (first | refine W.seq ?_ | refine W.block ?_ | refine W.reg ?_ | refine W.skip ?_ | refine W.exit ?_ | refine W.ret ?_ | refine L.nil ?_ | refine L.p rfl rfl ?_ | refine L.skip rfl ?_)
    refine W.ite rfl (fun h => ?_) (fun h => ?_)
    · cases h
    clear h
    repeat (first | refine W.seq ?_ | refine W.block ?_ | refine W.reg ?_ | refine W.skip ?_ | refine W.exit ?_ | refine W.ret ?_ | refine L.nil ?_ | refine L.p rfl rfl ?_ | refine L.skip rfl ?_)
    refine L.bs [v8 0#8] rfl rfl rfl rfl rfl rfl ?_
    have hsP : Slv (S1 ++ [newR [v8 0#8] 5]) 1 (.slice (some ⟨S1.length, 0, none⟩) 1 1) 1 (bv [0#8]) := one_slv (row_push_new rfl)
    have hcP : Cons S1 (S1 ++ [newR [v8 0#8] 5]) := Cons.push _ _
    generalize S1 ++ [newR [v8 0#8] 5] = P1 at *
    repeat (first | refine W.seq ?_ | refine W.block ?_ | refine W.reg ?_ | refine W.skip ?_ | refine W.exit ?_ | refine W.ret ?_ | refine L.nil ?_ | refine L.p rfl rfl ?_ | refine L.skip rfl ?_)
    refine L.app (bytes := 1) (n := 0) (m := 1) rfl (Nat.le_refl _) (Grow.nil P1.length P1 5 1) rfl rfl hsP (bv_one _) (by omega) rfl rfl ?_
    intro a2 c2 P2 g1 _ hA1
    have hc1 : Cons P1 P2 := hA1
    repeat (first | refine W.seq ?_ | refine W.block ?_ | refine W.reg ?_ | refine W.skip ?_ | refine W.exit ?_ | refine W.ret ?_ | refine L.nil ?_ | refine L.p rfl rfl ?_ | refine L.skip rfl ?_)
    refine L.app (bytes := 1) (n := 0 + 1) (m := t.length) rfl hc1.len g1 rfl rfl ((hB.1.cons hcP).cons hc1) (bv_one _) (by omega) rfl rfl ?_
    intro a3 c3 P3 g3 _ hA3
    have hc3 : Cons P1 P3 := hc1.trans' hA3
    repeat (first | refine W.seq ?_ | refine W.block ?_ | refine W.reg ?_ | refine W.skip ?_ | refine W.exit ?_ | refine W.ret ?_ | refine L.nil ?_ | refine L.p rfl rfl ?_ | refine L.skip rfl ?_)
    have hcs : contS l = 0#8 :: t := by unfold contS; rw [← ht, if_pos (by omega)]
    have hlen3 : 0 + 1 + t.length = (contS l).length := by rw [hcs, List.length_cons]; omega
    rw [show ([] : List Value) ++ bv [0#8] ++ bv t = bv (contS l) by rw [hcs]; simp [bv]] at g3
    have hB3 := grow_bin g3 hlen3.symm (by omega)
    refine ⟨.inr rfl, _, rfl, (hc.trans hcP).trans hc3, a3, c3, ?_, hB3⟩
    refine (force_eq rfl).trans ?_
    rw [hlen3]
  have h0 : 0 < t.length := by have := of_decide_eq_true hq; omega
  clear hq
  obtain ⟨x, hx, hx'⟩ := bat_some (b := t) (i := 0) (by omega)
  have hxl := x.isLt
  repeat (first | refine W.seq ?_ | refine W.block ?_ | refine W.reg ?_ | refine W.skip ?_ | refine W.exit ?_ | refine W.ret ?_ | refine L.nil ?_ | refine L.p rfl rfl ?_ | refine L.skip rfl ?_)
  refine L.el hB.1 (k := 0) rfl (bv_get hx) rfl rfl rfl rfl (fun _ => rfl) rfl (fun p => ?_)
  repeat (first | refine W.seq ?_ | refine W.block ?_ | refine W.reg ?_ | refine W.skip ?_ | refine W.exit ?_ | refine W.ret ?_ | refine L.nil ?_ | refine L.p rfl rfl ?_ | refine L.skip rfl ?_)
  refine W.ite rfl (fun h => ?_) (fun h => ?_)
  · have h8 : x.toNat < 128 := by have := of_decide_eq_true h; omega
    clear h
    repeat (first | refine W.seq ?_ | refine W.block ?_ | refine W.reg ?_ | refine W.skip ?_ | refine W.exit ?_ | refine W.ret ?_ | refine L.nil ?_ | refine L.p rfl rfl ?_ | refine L.skip rfl ?_)
    refine ⟨.inr rfl, _, rfl, hc, ?_⟩
    have hcs : contS l = t := by unfold contS; rw [← ht, if_neg (by omega)]
    rw [hcs]
    exact ⟨a1, c1, rfl, hB⟩
  have h8 : 128 ≤ x.toNat := by have := of_decide_eq_false h; omega
  clear h
  repeat (first | refine W.seq ?_ | refine W.block ?_ | refine W.reg ?_ | refine W.skip ?_ | refine W.exit ?_ | refine W.ret ?_ | refine L.nil ?_ | refine L.p rfl rfl ?_ | refine L.skip rfl ?_)
  refine L.bs [v8 0#8] rfl rfl rfl rfl rfl rfl ?_
  have hsP : Slv (S1 ++ [newR [v8 0#8] 5]) 1 (.slice (some ⟨S1.length, 0, none⟩) 1 1) 1 (bv [0#8]) := one_slv (row_push_new rfl)
  have hcP : Cons S1 (S1 ++ [newR [v8 0#8] 5]) := Cons.push _ _
  generalize S1 ++ [newR [v8 0#8] 5] = P1 at *
  repeat (first | refine W.seq ?_ | refine W.block ?_ | refine W.reg ?_ | refine W.skip ?_ | refine W.exit ?_ | refine W.ret ?_ | refine L.nil ?_ | refine L.p rfl rfl ?_ | refine L.skip rfl ?_)
  refine L.app (bytes := 1) (n := 0) (m := 1) rfl (Nat.le_refl _) (Grow.nil P1.length P1 5 1) rfl rfl hsP (bv_one _) (by omega) rfl rfl ?_
  intro a2 c2 P2 g1 _ hA1
  have hc1 : Cons P1 P2 := hA1
  repeat (first | refine W.seq ?_ | refine W.block ?_ | refine W.reg ?_ | refine W.skip ?_ | refine W.exit ?_ | refine W.ret ?_ | refine L.nil ?_ | refine L.p rfl rfl ?_ | refine L.skip rfl ?_)
  refine L.app (bytes := 1) (n := 0 + 1) (m := t.length) rfl hc1.len g1 rfl rfl ((hB.1.cons hcP).cons hc1) (bv_one _) (by omega) rfl rfl ?_
  intro a3 c3 P3 g3 _ hA3
  have hc3 : Cons P1 P3 := hc1.trans' hA3
  repeat (first | refine W.seq ?_ | refine W.block ?_ | refine W.reg ?_ | refine W.skip ?_ | refine W.exit ?_ | refine W.ret ?_ | refine L.nil ?_ | refine L.p rfl rfl ?_ | refine L.skip rfl ?_)
  have hcs : contS l = 0#8 :: t := by unfold contS; rw [← ht, if_pos (by omega)]
  have hlen3 : 0 + 1 + t.length = (contS l).length := by rw [hcs, List.length_cons]; omega
  rw [show ([] : List Value) ++ bv [0#8] ++ bv t = bv (contS l) by rw [hcs]; simp [bv]] at g3
  have hB3 := grow_bin g3 hlen3.symm (by omega)
  refine ⟨.inr rfl, _, rfl, (hc.trans hcP).trans hc3, a3, c3, ?_, hB3⟩
  refine (force_eq rfl).trans ?_
  rw [hlen3]
end Go.Proofs.Ytccdlijohkljcaa

/- The reference of layer 7: Encode. Conditions: none. -/
set_option linter.unusedSimpArgs false
set_option linter.unusedVariables false
set_option maxRecDepth 100000
namespace Go.Proofs.Ytccdlijohkljcaa
open Go
variable {G : Nat} {Ext : FuncId → List Value → Mem → Outc → Mem → Prop}

/-- what the reference of Encode hands out -/
def RefEnc (S : Mem) (l1 l2 : WL) (v : Value) (S' : Mem) : Prop := if encBad l1 l2 then v = .tuple #[nilV, .int .i64 3] ∧ Cons S S' else ∃ a c, v = .tuple #[.slice a (encL l1 l2).length c, .int .i64 0] ∧ Cons S S' ∧ BIn S' a c (encL l1 l2)
theorem refEncode_C (a1 a2 : Option Addr) (c1 c2 : Nat) (l1 l2 : WL) (S : Mem) (h1 : WIn S a1 c1 l1) (h2 : WIn S a2 c2 l2) (n1 : l1.length < 400000) (n2 : l2.length < 400000) :
    C Try.prog G Ext 20 [.agg #[.slice a1 l1.length c1, .slice a2 l2.length c2]] S (RefEnc S l1 l2) := by
  refine C.fn Try.func20 rfl (by kernel_rfl) rfl ?_
  repeat (first | refine W.seq ?_ | refine W.block ?_ | refine W.reg ?_ | refine W.skip ?_ | refine W.exit ?_ | refine W.ret ?_ | refine L.nil ?_ | refine L.p rfl rfl ?_ | refine L.skip rfl ?_)
  refine L.eff (v := .pointer (some ⟨S.length, 0, none⟩)) (S1 := S ++ [newR [.slice a1 l1.length c1, .slice a2 l2.length c2] 26]) rfl rfl ?_
  have hC : Cons S (S ++ [newR [.slice a1 l1.length c1, .slice a2 l2.length c2] 26]) := Cons.push _ _
  have hr : Mem.row? (S ++ [newR [.slice a1 l1.length c1, .slice a2 l2.length c2] 26]) S.length = some (newR [.slice a1 l1.length c1, .slice a2 l2.length c2] 26) := row_push_new rfl
  generalize S ++ [newR [.slice a1 l1.length c1, .slice a2 l2.length c2] 26] = K at *
  repeat (first | refine W.seq ?_ | refine W.block ?_ | refine W.reg ?_ | refine W.skip ?_ | refine W.exit ?_ | refine W.ret ?_ | refine L.nil ?_ | refine L.p rfl rfl ?_ | refine L.skip rfl ?_)
  refine L.ld (a := ⟨S.length, 0, none⟩) (v := .slice a1 (l1).length c1) (cell_of hr rfl (.inl rfl)) rfl rfl rfl ?_
  repeat (first | refine W.seq ?_ | refine W.block ?_ | refine W.reg ?_ | refine W.skip ?_ | refine W.exit ?_ | refine W.ret ?_ | refine L.nil ?_ | refine L.p rfl rfl ?_ | refine L.skip rfl ?_)
  refine L.cl (length_C a1 c1 l1 K (h1.cons hC) n1) rfl rfl ?_
  rintro _ K1 ⟨rfl, k1⟩
  refine ⟨nofun, ?_⟩
  have hr1 := Cons.row (h := k1) hr
  have hC1 := hC.trans k1
  repeat (first | refine W.seq ?_ | refine W.block ?_ | refine W.reg ?_ | refine W.skip ?_ | refine W.exit ?_ | refine W.ret ?_ | refine L.nil ?_ | refine L.p rfl rfl ?_ | refine L.skip rfl ?_)
  cases hq : decide ((blen (wnum l1) : Int) > 4096)
  rotate_left
  · have hgt := of_decide_eq_true hq
    repeat (first | refine W.seq ?_ | refine W.block ?_ | refine W.reg ?_ | refine W.skip ?_ | refine W.exit ?_ | refine W.ret ?_ | refine L.nil ?_ | refine L.p rfl rfl ?_ | refine L.skip rfl ?_)
    refine W.ite rfl (fun h => ?_) (fun h => ?_)
    rotate_left
    · cases h
    repeat (first | refine W.seq ?_ | refine W.block ?_ | refine W.reg ?_ | refine W.skip ?_ | refine W.exit ?_ | refine W.ret ?_ | refine L.nil ?_ | refine L.p rfl rfl ?_ | refine L.skip rfl ?_)
    refine ⟨.inr rfl, _, rfl, ?_⟩
    unfold RefEnc
    rw [if_pos (by unfold encBad; omega)]
    exact ⟨rfl, hC1⟩
  have hb1 : ¬ 4096 < blen (wnum l1) := by have := of_decide_eq_false hq; omega
  clear hq
  repeat (first | refine W.seq ?_ | refine W.block ?_ | refine W.reg ?_ | refine W.skip ?_ | refine W.exit ?_ | refine W.ret ?_ | refine L.nil ?_ | refine L.p rfl rfl ?_ | refine L.skip rfl ?_)
  refine L.ld (a := ⟨S.length, 1, none⟩) (v := .slice a2 (l2).length c2) (cell_of hr1 rfl (.inl rfl)) rfl rfl rfl ?_
  repeat (first | refine W.seq ?_ | refine W.block ?_ | refine W.reg ?_ | refine W.skip ?_ | refine W.exit ?_ | refine W.ret ?_ | refine L.nil ?_ | refine L.p rfl rfl ?_ | refine L.skip rfl ?_)
  refine L.cl (length_C a2 c2 l2 K1 (h2.cons hC1) n2) rfl rfl ?_
  rintro _ K2 ⟨rfl, k2⟩
  refine ⟨nofun, ?_⟩
  have hr2 := Cons.row (h := k2) hr1
  have hC2 := hC1.trans k2
  repeat (first | refine W.seq ?_ | refine W.block ?_ | refine W.reg ?_ | refine W.skip ?_ | refine W.exit ?_ | refine W.ret ?_ | refine L.nil ?_ | refine L.p rfl rfl ?_ | refine L.skip rfl ?_)
  cases hq : decide ((blen (wnum l2) : Int) > 4096)
  rotate_left
  · have hgt := of_decide_eq_true hq
    repeat (first | refine W.seq ?_ | refine W.block ?_ | refine W.reg ?_ | refine W.skip ?_ | refine W.exit ?_ | refine W.ret ?_ | refine L.nil ?_ | refine L.p rfl rfl ?_ | refine L.skip rfl ?_)
    refine W.ite rfl (fun h => ?_) (fun h => ?_)
    rotate_left
    · cases h
    repeat (first | refine W.seq ?_ | refine W.block ?_ | refine W.reg ?_ | refine W.skip ?_ | refine W.exit ?_ | refine W.ret ?_ | refine L.nil ?_ | refine L.p rfl rfl ?_ | refine L.skip rfl ?_)
    refine ⟨.inr rfl, _, rfl, ?_⟩
    unfold RefEnc
    rw [if_pos (by unfold encBad; omega)]
    exact ⟨rfl, hC2⟩
  have hb2 : ¬ 4096 < blen (wnum l2) := by have := of_decide_eq_false hq; omega
  clear hq
  repeat (first | refine W.seq ?_ | refine W.block ?_ | refine W.reg ?_ | refine W.skip ?_ | refine W.exit ?_ | refine W.ret ?_ | refine L.nil ?_ | refine L.p rfl rfl ?_ | refine L.skip rfl ?_)
  refine W.ite rfl (fun h => ?_) (fun h => ?_)
  · cases h
  clear h
  repeat (first | refine W.seq ?_ | refine W.block ?_ | refine W.reg ?_ | refine W.skip ?_ | refine W.exit ?_ | refine W.ret ?_ | refine L.nil ?_ | refine L.p rfl rfl ?_ | refine L.skip rfl ?_)
  refine L.ld (a := ⟨S.length, 0, none⟩) (v := .slice a1 (l1).length c1) (cell_of hr2 rfl (.inl rfl)) rfl rfl rfl ?_
  repeat (first | refine W.seq ?_ | refine W.block ?_ | refine W.reg ?_ | refine W.skip ?_ | refine W.exit ?_ | refine W.ret ?_ | refine L.nil ?_ | refine L.p rfl rfl ?_ | refine L.skip rfl ?_)
  have q1 := cont_len hb1
  have q2 := cont_len hb2
  refine L.cl (refContent_C a1 c1 l1 K2 (h1.cons hC2) hb1 n1) rfl rfl ?_
  rintro _ K3 ⟨k3, b3, d3, rfl, hB3⟩
  refine ⟨nofun, ?_⟩
  repeat (first | refine W.seq ?_ | refine W.block ?_ | refine W.reg ?_ | refine W.skip ?_ | refine W.exit ?_ | refine W.ret ?_ | refine L.nil ?_ | refine L.p rfl rfl ?_ | refine L.skip rfl ?_)
  refine L.cl (refLaid_C 2#8 b3 d3 (contS l1) K3 hB3.1 (by omega)) rfl rfl ?_
  rintro _ K4 ⟨k4, b4, d4, rfl, hB4⟩
  refine ⟨nofun, ?_⟩
  have hz1 : (laidS 2#8 (contS l1)).length ≤ 520 := by
    have h8 := laidS_len 2#8 (contS l1)
    have h9 := toB_lt (n := (contS l1).length) (by omega)
    omega
  have hz2 : (laidS 2#8 (contS l2)).length ≤ 520 := by
    have h8 := laidS_len 2#8 (contS l2)
    have h9 := toB_lt (n := (contS l2).length) (by omega)
    omega
  repeat (first | refine W.seq ?_ | refine W.block ?_ | refine W.reg ?_ | refine W.skip ?_ | refine W.exit ?_ | refine W.ret ?_ | refine L.nil ?_ | refine L.p rfl rfl ?_ | refine L.skip rfl ?_)
  refine L.app (bytes := 1) (n := 0) (m := (laidS 2#8 (contS l1)).length) rfl (Nat.le_refl _) (Grow.nil K4.length K4 5 1) rfl rfl hB4.1 (bv_one _) (by omega) rfl rfl ?_
  intro a5 c5 K5 g5 _ hA5
  have k5 : Cons K4 K5 := hA5
  have k25 := (k3.trans k4).trans k5
  have hr5 := Cons.row (h := k25) hr2
  have hC5 := hC2.trans k25
  repeat (first | refine W.seq ?_ | refine W.block ?_ | refine W.reg ?_ | refine W.skip ?_ | refine W.exit ?_ | refine W.ret ?_ | refine L.nil ?_ | refine L.p rfl rfl ?_ | refine L.skip rfl ?_)
  refine L.ld (a := ⟨S.length, 1, none⟩) (v := .slice a2 (l2).length c2) (cell_of hr5 rfl (.inl rfl)) rfl rfl rfl ?_
  repeat (first | refine W.seq ?_ | refine W.block ?_ | refine W.reg ?_ | refine W.skip ?_ | refine W.exit ?_ | refine W.ret ?_ | refine L.nil ?_ | refine L.p rfl rfl ?_ | refine L.skip rfl ?_)
  refine L.cl (refContent_C a2 c2 l2 K5 (h2.cons hC5) hb2 n2) rfl rfl ?_
  rintro _ K6 ⟨k6, b6, d6, rfl, hB6⟩
  refine ⟨nofun, ?_⟩
  repeat (first | refine W.seq ?_ | refine W.block ?_ | refine W.reg ?_ | refine W.skip ?_ | refine W.exit ?_ | refine W.ret ?_ | refine L.nil ?_ | refine L.p rfl rfl ?_ | refine L.skip rfl ?_)
  refine L.cl (refLaid_C 2#8 b6 d6 (contS l2) K6 hB6.1 (by omega)) rfl rfl ?_
  rintro _ K7 ⟨k7, b7, d7, rfl, hB7⟩
  refine ⟨nofun, ?_⟩
  have k57 := k6.trans k7
  repeat (first | refine W.seq ?_ | refine W.block ?_ | refine W.reg ?_ | refine W.skip ?_ | refine W.exit ?_ | refine W.ret ?_ | refine L.nil ?_ | refine L.p rfl rfl ?_ | refine L.skip rfl ?_)
  refine L.app (bytes := 1) (n := 0 + (laidS 2#8 (contS l1)).length) (m := (laidS 2#8 (contS l2)).length) rfl (k5.trans k57).len (g5.cons k57) rfl rfl hB7.1 (bv_one _) (by omega) rfl rfl ?_
  intro a8 c8 K8 g8 _ hA8
  have k8 : Cons K4 K8 := (k5.trans k57).trans' hA8
  repeat (first | refine W.seq ?_ | refine W.block ?_ | refine W.reg ?_ | refine W.skip ?_ | refine W.exit ?_ | refine W.ret ?_ | refine L.nil ?_ | refine L.p rfl rfl ?_ | refine L.skip rfl ?_)
  have hgs := g8.slv
  have hnn : 0 + (laidS 2#8 (contS l1)).length + (laidS 2#8 (contS l2)).length = (laidS 2#8 (contS l1) ++ laidS 2#8 (contS l2)).length := by rw [List.length_append]; omega
  rw [show ([] : List Value) ++ bv (laidS 2#8 (contS l1)) ++ bv (laidS 2#8 (contS l2)) = bv (laidS 2#8 (contS l1) ++ laidS 2#8 (contS l2)) by simp [bv], hnn] at hgs
  refine L.cl (refLaid_C 48#8 a8 c8 (laidS 2#8 (contS l1) ++ laidS 2#8 (contS l2)) K8 hgs (by omega)) rfl (acall_eq (congrArg (fun n => [v8 48#8, Value.slice a8 n c8]) hnn)) ?_
  rintro _ K9 ⟨k9, b9, d9, rfl, hB9⟩
  refine ⟨nofun, ?_⟩
  repeat (first | refine W.seq ?_ | refine W.block ?_ | refine W.reg ?_ | refine W.skip ?_ | refine W.exit ?_ | refine W.ret ?_ | refine L.nil ?_ | refine L.p rfl rfl ?_ | refine L.skip rfl ?_)
  refine ⟨.inr rfl, _, rfl, ?_⟩
  unfold RefEnc
  rw [if_neg (by unfold encBad; omega)]
  exact ⟨b9, d9, rfl, ((hC2.trans (k3.trans k4)).trans k8).trans k9, hB9⟩
end Go.Proofs.Ytccdlijohkljcaa

/- The book of lists that were handed out: a list more. Conditions: none. -/
set_option linter.unusedSimpArgs false
set_option linter.unusedVariables false
set_option maxRecDepth 100000
namespace Go.Proofs.Ytccdlijohkljcaa
open Go
variable {G : Nat} {Ext : FuncId → List Value → Mem → Outc → Mem → Prop}

/-- the book at row rb holds the lists ws and bs; the rows ps are its own -/
def Book (S : Mem) (rb : Nat) (ws bs : List Hd) (ps : List Nat) : Prop :=
  ∃ hw hb : Hd, S.row? rb = some (newR [hw.v, hb.v] 34) ∧ HdOk S 24 hw (ws.map Hd.v) ∧ HdOk S 22 hb (bs.map Hd.v) ∧ rb ∈ ps ∧
    (∀ b, hw.a = some b → b ∈ ps ∧ b ≠ rb) ∧ (∀ b, hb.a = some b → b ∈ ps ∧ b ≠ rb ∧ hw.a ≠ some b)
theorem Book.keep {S S1 : Mem} {rb : Nat} {ws bs : List Hd} {ps cs : List Nat} (h : Book S rb ws bs ps) (k : KeepL cs S S1) (hd : ∀ b ∈ cs, b ∉ ps) : Book S1 rb ws bs ps := by
  obtain ⟨hw, hb, h1, h2, h3, h4, h5, h6⟩ := h
  exact ⟨hw, hb, k.row h1 (fun hm => hd _ hm h4), h2.keep k (fun b e hm => hd _ hm (h5 b e).1), h3.keep k (fun b e hm => hd _ hm (h6 b e).1), h4, h5, h6⟩
theorem Book.cons {S S1 : Mem} {rb : Nat} {ws bs : List Hd} {ps : List Nat} (h : Book S rb ws bs ps) (k : Cons S S1) : Book S1 rb ws bs ps := h.keep (k.keepL []) (by simp)
/-- an empty book -/
theorem Book.new (S : Mem) : Book (S ++ [newR [.slice none 0 0, .slice none 0 0] 34]) S.length [] [] [S.length] :=
  ⟨⟨none, 0, 0⟩, ⟨none, 0, 0⟩, row_push_new rfl, HdOk.nil _ _, HdOk.nil _ _, by simp, nofun, nofun⟩
/-- from one book to the next: its own rows are old ones of its own, or new -/
def Sub2 (S : Mem) (ps ps' : List Nat) : Prop := ∀ r ∈ ps', r ∈ ps ∨ S.length ≤ r
theorem words_C (S : Mem) (h : Hd) (rb : Nat) (ws bs : List Hd) (ps : List Nat) (hB : Book S rb ws bs ps) (hn : ws.length < 1000000) :
    C Try.prog G Ext 30 [.pointer (some ⟨rb, 0, none⟩), h.v] S fun v S' => ∃ ps', Book S' rb (ws ++ [h]) bs ps' ∧ Sub2 S ps ps' ∧ KeepL ps S S' := by
  obtain ⟨hw, hb, hr, h2, h3, h4, h5, h6⟩ := hB
  refine C.fn Try.func30 rfl (by kernel_rfl) rfl ?_
  repeat (first | refine W.seq ?_ | refine W.block ?_ | refine W.reg ?_ | refine W.skip ?_ | refine W.exit ?_ | refine W.ret ?_ | refine L.nil ?_ | refine L.p rfl rfl ?_ | refine L.skip rfl ?_)
  refine L.ld (cell_of hr rfl) rfl rfl rfl ?_
  repeat (first | refine W.seq ?_ | refine W.block ?_ | refine W.reg ?_ | refine W.skip ?_ | refine W.exit ?_ | refine W.ret ?_ | refine L.nil ?_ | refine L.p rfl rfl ?_ | refine L.skip rfl ?_)
  refine L.pushH (h := hw) rfl h2 rfl rfl rfl rfl rfl (by have := h2.len; rw [List.length_map] at this; omega) rfl (fun _ => rfl) (fun p h' S1 k1 k2 k3 k4 => ?_)
  obtain ⟨b', k5, k6⟩ := k3
  have hne : rb ∉ hw.a.toList := fun hm => by
    have := (h5 rb (by simpa using hm)).2
    exact this rfl
  have hr1 := k4.row hr hne
  repeat (first | refine W.seq ?_ | refine W.block ?_ | refine W.reg ?_ | refine W.skip ?_ | refine W.exit ?_ | refine W.ret ?_ | refine L.nil ?_ | refine L.p rfl rfl ?_ | refine L.skip rfl ?_)
  refine L.st (ad := ⟨rb, 0, none⟩) (vs := [h'.v]) (write_of hr1 rfl (by simp [newR]) rfl) rfl rfl rfl rfl ?_
  rw [putFrom_one _ _ _ (by simp [newR])]
  repeat (first | refine W.seq ?_ | refine W.block ?_ | refine W.reg ?_ | refine W.skip ?_ | refine W.exit ?_ | refine W.ret ?_ | refine L.nil ?_ | refine L.p rfl rfl ?_ | refine L.skip rfl ?_)
  have hlt := row_lt hr
  have hk := Keep.set rb S1 { newR [hw.v, hb.v] 34 with cells := List.set (newR [hw.v, hb.v] 34).cells 0 h'.v }
  have hkl := Keep.keepL (bs := [rb]) hk (by simp)
  refine ⟨.inl rfl, _, rfl, b' :: ps, ⟨h', hb, row_set_same hr1 rfl, ?_, ?_, by simp [h4], ?_, ?_⟩, ?_, ?_⟩
  · rw [List.map_append]; exact k1.keep hkl (fun b e hm => by rw [k5] at e; cases e; simp at hm; omega)
  · exact (h3.keep k4 (fun b e hm => (h6 b e).2.2 (by simpa using hm))).keep hkl (fun b e hm => (h6 b e).2.1 (by simpa using hm))
  · intro b e; rw [k5] at e; cases e; exact ⟨by simp, by omega⟩
  · intro b e
    have := h3.lt e
    exact ⟨by simp [(h6 b e).1], (h6 b e).2.1, fun e2 => by rw [k5] at e2; cases e2; omega⟩
  · intro r hm
    rcases List.mem_cons.1 hm with rfl | hm
    · exact .inr k6
    · exact .inl hm
  · refine (k4.mono ?_).then hkl (by simp [h4])
    intro r hm
    exact (h5 r (by simpa using hm)).1
theorem bytes_C (S : Mem) (h : Hd) (rb : Nat) (ws bs : List Hd) (ps : List Nat) (hB : Book S rb ws bs ps) (hn : bs.length < 1000000) :
    C Try.prog G Ext 22 [.pointer (some ⟨rb, 0, none⟩), h.v] S fun v S' => ∃ ps', Book S' rb ws (bs ++ [h]) ps' ∧ Sub2 S ps ps' ∧ KeepL ps S S' := by
  obtain ⟨hw, hb, hr, h2, h3, h4, h5, h6⟩ := hB
  refine C.fn Try.func22 rfl (by kernel_rfl) rfl ?_
  repeat (first | refine W.seq ?_ | refine W.block ?_ | refine W.reg ?_ | refine W.skip ?_ | refine W.exit ?_ | refine W.ret ?_ | refine L.nil ?_ | refine L.p rfl rfl ?_ | refine L.skip rfl ?_)
  refine L.ld (cell_of hr rfl) rfl rfl rfl ?_
  repeat (first | refine W.seq ?_ | refine W.block ?_ | refine W.reg ?_ | refine W.skip ?_ | refine W.exit ?_ | refine W.ret ?_ | refine L.nil ?_ | refine L.p rfl rfl ?_ | refine L.skip rfl ?_)
  refine L.pushH (h := hb) rfl h3 rfl rfl rfl rfl rfl (by have := h3.len; rw [List.length_map] at this; omega) rfl (fun _ => rfl) (fun p h' S1 k1 k2 k3 k4 => ?_)
  obtain ⟨b', k5, k6⟩ := k3
  have hne : rb ∉ hb.a.toList := fun hm => by
    have := (h6 rb (by simpa using hm)).2.1
    exact this rfl
  have hr1 := k4.row hr hne
  repeat (first | refine W.seq ?_ | refine W.block ?_ | refine W.reg ?_ | refine W.skip ?_ | refine W.exit ?_ | refine W.ret ?_ | refine L.nil ?_ | refine L.p rfl rfl ?_ | refine L.skip rfl ?_)
  refine L.st (ad := ⟨rb, 1, none⟩) (vs := [h'.v]) (write_of hr1 rfl (by simp [newR]) rfl) rfl rfl rfl rfl ?_
  rw [putFrom_one _ _ _ (by simp [newR])]
  repeat (first | refine W.seq ?_ | refine W.block ?_ | refine W.reg ?_ | refine W.skip ?_ | refine W.exit ?_ | refine W.ret ?_ | refine L.nil ?_ | refine L.p rfl rfl ?_ | refine L.skip rfl ?_)
  have hlt := row_lt hr
  have hk := Keep.set rb S1 { newR [hw.v, hb.v] 34 with cells := List.set (newR [hw.v, hb.v] 34).cells 1 h'.v }
  have hkl := Keep.keepL (bs := [rb]) hk (by simp)
  refine ⟨.inl rfl, _, rfl, b' :: ps, ⟨hw, h', row_set_same hr1 rfl, ?_, ?_, by simp [h4], ?_, ?_⟩, ?_, ?_⟩
  · exact (h2.keep k4 (fun b e hm => (h6 b (by simpa using hm)).2.2 e)).keep hkl (fun b e hm => (h5 b e).2 (by simpa using hm))
  · rw [List.map_append]; exact k1.keep hkl (fun b e hm => by rw [k5] at e; cases e; simp at hm; omega)
  · intro b e
    exact ⟨by simp [(h5 b e).1], (h5 b e).2⟩
  · intro b e; rw [k5] at e; cases e
    refine ⟨by simp, by omega, fun e2 => ?_⟩
    have := h2.lt e2
    omega
  · intro r hm
    rcases List.mem_cons.1 hm with rfl | hm
    · exact .inr k6
    · exact .inl hm
  · refine (k4.mono ?_).then hkl (by simp [h4])
    intro r hm
    exact (h6 r (by simpa using hm)).1
end Go.Proofs.Ytccdlijohkljcaa

/- The book: each list has memory of its own. Conditions: none. -/
set_option linter.unusedSimpArgs false
set_option linter.unusedVariables false
set_option maxRecDepth 100000
namespace Go.Proofs.Ytccdlijohkljcaa
open Go
variable {G : Nat} {Ext : FuncId → List Value → Mem → Outc → Mem → Prop}

def mkW (k n : Nat) : List Value := (List.range n).map fun (i : Nat) => v64 (mk k i)
def mkB (k n : Nat) : List Value := (List.range n).map fun (i : Nat) => v8 ((mk k i).setWidth 8)
theorem mkW_len (k n : Nat) : (mkW k n).length = n := by simp [mkW]
theorem mkB_len (k n : Nat) : (mkB k n).length = n := by simp [mkB]
theorem mkW_succ (k n : Nat) : mkW k (n + 1) = mkW k n ++ [v64 (mk k n)] := by simp [mkW, List.range_succ]
theorem mkB_succ (k n : Nat) : mkB k (n + 1) = mkB k n ++ [v8 ((mk k n).setWidth 8)] := by simp [mkB, List.range_succ]
theorem mkW_get {k n i : Nat} (h : i < n) : (mkW k n)[i]? = some (v64 (mk k i)) := by simp [mkW, h]
theorem mkB_get {k n i : Nat} (h : i < n) : (mkB k n)[i]? = some (v8 ((mk k i).setWidth 8)) := by simp [mkB, h]
theorem take_set_succ {l m : List Value} {w : Value} {i : Nat} (h : l.take i = m) (hi : i < l.length) : (l.set i w).take (i + 1) = m ++ [w] := by
  rw [List.take_add_one, List.getElem?_set_self hi, List.take_set_of_le (Nat.le_refl i), h]; rfl
def blks (hs : List Hd) : List Nat := hs.filterMap Hd.a
theorem blks_mem {hs : List Hd} {h : Hd} {b : Nat} {k : Nat} (hk : hs[k]? = some h) (hb : h.a = some b) : b ∈ blks hs := List.mem_filterMap.2 ⟨h, List.mem_of_getElem? hk, hb⟩
theorem blks_at {hs : List Hd} {b : Nat} (h : b ∈ blks hs) : ∃ (k : Nat) (d : Hd), hs[k]? = some d ∧ d.a = some b := by
  obtain ⟨d, h1, h2⟩ := List.mem_filterMap.1 h
  obtain ⟨k, h3⟩ := List.getElem?_of_mem h1
  exact ⟨k, d, h3, h2⟩
/-- each list's block is its own -/
def Own (hs : List Hd) : Prop := ∀ (i j : Nat) (h d : Hd) (b : Nat), hs[i]? = some h → hs[j]? = some d → h.a = some b → d.a = some b → i = j
def Alive (S : Mem) (el : TypeId) (hs : List Hd) : Prop := ∀ (i : Nat) (h : Hd), hs[i]? = some h → h.n ≤ 1000000000000 ∧ ∃ l, HdOk S el h l
def Marked (S : Mem) (el : TypeId) (f : Nat → Nat → List Value) (x : Nat) (hs : List Hd) : Prop := ∀ (i : Nat) (h : Hd), hs[i]? = some h → HdOk S el h (f i (h.n + x))
theorem Alive.keep {S S1 : Mem} {el : TypeId} {hs : List Hd} {bs : List Nat} (h : Alive S el hs) (k : KeepL bs S S1) (hd : ∀ b ∈ bs, b ∉ blks hs) : Alive S1 el hs := fun i d hi =>
  ⟨(h i d hi).1, (h i d hi).2.imp fun l h2 => h2.keep k fun b e hm => hd b hm (blks_mem hi e)⟩

set_option maxHeartbeats 1000000 in
theorem apart_C (S : Mem) (rb : Nat) (ws bs : List Hd) (ps : List Nat) (hB : Book S rb ws bs ps) (hn : ws.length < 1000000 ∧ bs.length < 1000000) (hAws : Alive S 56 ws) (hAbs : Alive S 5 bs)
    (hOws : Own ws) (hObs : Own bs) (hdws : ∀ b ∈ blks ws, b ∉ ps) (hdbs : ∀ b ∈ blks bs, b ∉ ps) (hdd : ∀ b ∈ blks ws, b ∉ blks bs) :
    C Try.prog G Ext 15 [.pointer (some ⟨rb, 0, none⟩)] S fun v S' => v = .bool true ∧ KeepL (blks ws ++ blks bs) S S' := by
  refine C.fn Try.func15 rfl (by kernel_rfl) rfl ?_
  have hBws := hB
  repeat (first | refine W.seq ?_ | refine W.block ?_ | refine W.reg ?_ | refine W.skip ?_ | refine W.exit ?_ | refine W.ret ?_ | refine L.nil ?_ | refine L.p rfl rfl ?_ | refine L.skip rfl ?_)
  refine W.loop (fun j e S' => ∃ k : Nat, j = ws.length - k ∧ k ≤ ws.length ∧ e 0 = .pointer (some ⟨rb, 0, none⟩) ∧ e 3 = vi k ∧ KeepL (blks ws) S S' ∧ (∀ (i : Nat) (h : Hd), ws[i]? = some h → if i < k then HdOk S' 56 h (mkW i h.n) else ∃ l, HdOk S' 56 h l)) ws.length
    ⟨0, by omega, by omega, rfl, rfl, KeepL.refl _ _, fun i h hi => by rw [if_neg (by omega)]; exact (hAws i h hi).2⟩ ?_
  rintro j e S' ⟨k, rfl, hk, e0, ek, hkeep, hst⟩
  refine W.env2 e0 ek ?_
  obtain ⟨hw, hb, hr, h2, h3, h4, h5, h6⟩ := hBws.keep hkeep hdws
  have hlen := h2.len
  rw [List.length_map] at hlen
  repeat (first | refine W.seq ?_ | refine W.block ?_ | refine W.reg ?_ | refine W.skip ?_ | refine W.exit ?_ | refine W.ret ?_ | refine L.nil ?_ | refine L.p rfl rfl ?_ | refine L.skip rfl ?_)
  refine L.ld (cell_of hr rfl) rfl rfl rfl ?_
  repeat (first | refine W.seq ?_ | refine W.block ?_ | refine W.reg ?_ | refine W.skip ?_ | refine W.exit ?_ | refine W.ret ?_ | refine L.nil ?_ | refine L.p rfl rfl ?_ | refine L.skip rfl ?_)
  refine W.ite rfl (fun h => ?_) (fun h => ?_)
  · have hkl : k < ws.length := by simp at h; omega
    obtain ⟨hh, hkh⟩ : ∃ hh, ws[k]? = some hh := ⟨_, List.getElem?_eq_getElem hkl⟩
    have hel : (ws.map Hd.v)[k]? = some hh.v := by rw [List.getElem?_map, hkh]; rfl
    obtain ⟨l0, hl0⟩ : ∃ l, HdOk S' 56 hh l := by have := hst k hh hkh; rwa [if_neg (by omega)] at this
    have hnb : ∀ b, hh.a = some b → b ≠ rb := fun b e hm => hdws b (blks_mem hkh e) (hm ▸ h4)
    have hnw : ∀ b, hh.a = some b → hw.a ≠ some b := fun b e hm => hdws b (blks_mem hkh e) (h5 b hm).1
    have hsm := (hAws k hh hkh).1
    clear h
    repeat (first | refine W.seq ?_ | refine W.block ?_ | refine W.reg ?_ | refine W.skip ?_ | refine W.exit ?_ | refine W.ret ?_ | refine L.nil ?_ | refine L.p rfl rfl ?_ | refine L.skip rfl ?_)
    refine W.loop (fun j e S'' => ∃ (i : Nat) (l : List Value), j = hh.n - i ∧ i ≤ hh.n ∧ e 0 = .pointer (some ⟨rb, 0, none⟩) ∧ e 3 = vi k ∧ e 4 = vi i ∧ KeepL hh.a.toList S' S'' ∧ HdOk S'' 56 hh l ∧ l.take i = mkW k i) hh.n
      ⟨0, l0, by omega, by omega, rfl, rfl, rfl, KeepL.refl _ _, hl0, rfl⟩ ?_
    rintro j e S'' ⟨i, l, rfl, hi, e0, ek, ei, hkp, hl, htk⟩
    refine W.env3 e0 ek ei ?_
    have hr2 := hkp.row hr (fun hm => hnb rb (by simpa using hm) rfl)
    have hx2 := h2.keep hkp (fun b e hm => hnw b (by simpa using hm) e)
    repeat (first | refine W.seq ?_ | refine W.block ?_ | refine W.reg ?_ | refine W.skip ?_ | refine W.exit ?_ | refine W.ret ?_ | refine L.nil ?_ | refine L.p rfl rfl ?_ | refine L.skip rfl ?_)
    refine L.ld (cell_of hr2 rfl) rfl rfl rfl ?_
    repeat (first | refine W.seq ?_ | refine W.block ?_ | refine W.reg ?_ | refine W.skip ?_ | refine W.exit ?_ | refine W.ret ?_ | refine L.nil ?_ | refine L.p rfl rfl ?_ | refine L.skip rfl ?_)
    refine L.el hx2.slv rfl hel rfl rfl rfl rfl (fun _ => rfl) rfl (fun p => ?_)
    repeat (first | refine W.seq ?_ | refine W.block ?_ | refine W.reg ?_ | refine W.skip ?_ | refine W.exit ?_ | refine W.ret ?_ | refine L.nil ?_ | refine L.p rfl rfl ?_ | refine L.skip rfl ?_)
    refine W.ite rfl (fun h => ?_) (fun h => ?_)
    · have hin : i < hh.n := by simp at h; omega
      obtain ⟨a, n, c⟩ := hh
      obtain ⟨b, rfl⟩ : ∃ b, a = some b := by
        obtain ⟨_, ⟨_, h0, _⟩ | ⟨b, _, h0, _⟩⟩ := hl
        · dsimp only at h0 hin; omega
        · exact ⟨b, h0⟩
      obtain ⟨r, hrr, hro, hrl, hrt⟩ := hl.row
      have hll := hl.len
      dsimp only at hin hll hi
      repeat (first | refine W.seq ?_ | refine W.block ?_ | refine W.reg ?_ | refine W.skip ?_ | refine W.exit ?_ | refine W.ret ?_ | refine L.nil ?_ | refine L.p rfl rfl ?_ | refine L.skip rfl ?_)
      refine L.ld (cell_of hr2 rfl) rfl rfl rfl ?_
      repeat (first | refine W.seq ?_ | refine W.block ?_ | refine W.reg ?_ | refine W.skip ?_ | refine W.exit ?_ | refine W.ret ?_ | refine L.nil ?_ | refine L.p rfl rfl ?_ | refine L.skip rfl ?_)
      refine L.el hx2.slv rfl hel rfl rfl rfl rfl (fun _ => rfl) rfl (fun p => ?_)
      repeat (first | refine W.seq ?_ | refine W.block ?_ | refine W.reg ?_ | refine W.skip ?_ | refine W.exit ?_ | refine W.ret ?_ | refine L.nil ?_ | refine L.p rfl rfl ?_ | refine L.skip rfl ?_)
      refine L.cl (mark_C _ _ _) rfl rfl ?_
      rintro _ _ ⟨rfl, rfl⟩
      refine ⟨fun _ => Cons.refl _, ?_⟩
      repeat (first | refine W.seq ?_ | refine W.block ?_ | refine W.reg ?_ | refine W.skip ?_ | refine W.exit ?_ | refine W.ret ?_ | refine L.nil ?_ | refine L.p rfl rfl ?_ | refine L.skip rfl ?_)
      refine L.elst hrr hro (by omega) rfl hin rfl rfl rfl rfl (fun _ => rfl) (fun _ => rfl) rfl rfl rfl (fun p => ?_)
      repeat (first | refine W.seq ?_ | refine W.block ?_ | refine W.reg ?_ | refine W.skip ?_ | refine W.exit ?_ | refine W.ret ?_ | refine L.nil ?_ | refine L.p rfl rfl ?_ | refine L.skip rfl ?_)
      rw [Nat.zero_add]
      refine ⟨n - (i + 1), by show n - (i + 1) < n - i; omega, i + 1, _, rfl, by show i + 1 ≤ n; omega, rfl, rfl, ?_, ?_, hl.set _ hrr, ?_⟩
      · refine (force_eq rfl).trans ?_
        rw [wrap64 (by omega) (by dsimp only at hsm; omega)]; rfl
      · exact hkp.trans ((Keep.set b _ _).keepL (by simp))
      · rw [mkW_succ]; exact take_set_succ htk (by omega)
    · have hin : i = hh.n := by simp at h; omega
      subst hin
      repeat (first | refine W.seq ?_ | refine W.block ?_ | refine W.reg ?_ | refine W.skip ?_ | refine W.exit ?_ | refine W.ret ?_ | refine L.nil ?_ | refine L.p rfl rfl ?_ | refine L.skip rfl ?_)
      refine ⟨ws.length - (k + 1), by omega, k + 1, rfl, by omega, rfl, ?_, ?_, ?_⟩
      · refine (force_eq rfl).trans ?_
        rw [wrap64 (by omega) (by omega)]; rfl
      · exact hkeep.trans (hkp.mono fun b hm => blks_mem hkh (by simpa using hm))
      · intro i h hi'
        by_cases hik : i = k
        · subst hik
          rw [hkh] at hi'; cases hi'
          rw [if_pos (by omega)]
          rw [List.take_of_length_le (Nat.le_of_eq hl.len)] at htk
          rw [← htk]; exact hl
        · have hne : ∀ b, h.a = some b → b ∉ hh.a.toList := fun b e hm => hik (hOws i k h hh b hi' hkh e (by simpa using hm))
          have := hst i h hi'
          split at this
          · rw [if_pos (by omega)]; exact this.keep hkp hne
          · rw [if_neg (by omega)]
            obtain ⟨l', hl'⟩ := this
            exact ⟨l', hl'.keep hkp hne⟩
  have hkl : k = ws.length := by simp at h; omega
  subst hkl
  have hMws : Marked S' 56 mkW 0 ws := fun i h hi => by
    have := hst i h hi
    have hlt := (List.getElem?_eq_some_iff.1 hi).1
    rw [if_pos hlt] at this
    exact this
  clear hst h hr h2 h3 h5 h6 hlen ek
  rename Mem => S1
  have hBbs := hBws.keep hkeep hdws
  have hAbs := hAbs.keep hkeep hdd
  have hkeep1 := hkeep
  clear hBws hkeep e0 hk
  repeat (first | refine W.seq ?_ | refine W.block ?_ | refine W.reg ?_ | refine W.skip ?_ | refine W.exit ?_ | refine W.ret ?_ | refine L.nil ?_ | refine L.p rfl rfl ?_ | refine L.skip rfl ?_)
  refine W.loop (fun j e S' => ∃ k : Nat, j = bs.length - k ∧ k ≤ bs.length ∧ e 0 = .pointer (some ⟨rb, 0, none⟩) ∧ e 5 = vi k ∧ KeepL (blks bs) S1 S' ∧ (∀ (i : Nat) (h : Hd), bs[i]? = some h → if i < k then HdOk S' 5 h (mkB i h.n) else ∃ l, HdOk S' 5 h l)) bs.length
    ⟨0, by omega, by omega, rfl, rfl, KeepL.refl _ _, fun i h hi => by rw [if_neg (by omega)]; exact (hAbs i h hi).2⟩ ?_
  rintro j e S' ⟨k, rfl, hk, e0, ek, hkeep, hst⟩
  refine W.env2 e0 ek ?_
  obtain ⟨hw, hb, hr, h2, h3, h4, h5, h6⟩ := hBbs.keep hkeep hdbs
  have hlen := h3.len
  rw [List.length_map] at hlen
  repeat (first | refine W.seq ?_ | refine W.block ?_ | refine W.reg ?_ | refine W.skip ?_ | refine W.exit ?_ | refine W.ret ?_ | refine L.nil ?_ | refine L.p rfl rfl ?_ | refine L.skip rfl ?_)
  refine L.ld (cell_of hr rfl) rfl rfl rfl ?_
  repeat (first | refine W.seq ?_ | refine W.block ?_ | refine W.reg ?_ | refine W.skip ?_ | refine W.exit ?_ | refine W.ret ?_ | refine L.nil ?_ | refine L.p rfl rfl ?_ | refine L.skip rfl ?_)
  refine W.ite rfl (fun h => ?_) (fun h => ?_)
  · have hkl : k < bs.length := by simp at h; omega
    obtain ⟨hh, hkh⟩ : ∃ hh, bs[k]? = some hh := ⟨_, List.getElem?_eq_getElem hkl⟩
    have hel : (bs.map Hd.v)[k]? = some hh.v := by rw [List.getElem?_map, hkh]; rfl
    obtain ⟨l0, hl0⟩ : ∃ l, HdOk S' 5 hh l := by have := hst k hh hkh; rwa [if_neg (by omega)] at this
    have hnb : ∀ b, hh.a = some b → b ≠ rb := fun b e hm => hdbs b (blks_mem hkh e) (hm ▸ h4)
    have hnw : ∀ b, hh.a = some b → hb.a ≠ some b := fun b e hm => hdbs b (blks_mem hkh e) (h6 b hm).1
    have hsm := (hAbs k hh hkh).1
    clear h
    repeat (first | refine W.seq ?_ | refine W.block ?_ | refine W.reg ?_ | refine W.skip ?_ | refine W.exit ?_ | refine W.ret ?_ | refine L.nil ?_ | refine L.p rfl rfl ?_ | refine L.skip rfl ?_)
    refine W.loop (fun j e S'' => ∃ (i : Nat) (l : List Value), j = hh.n - i ∧ i ≤ hh.n ∧ e 0 = .pointer (some ⟨rb, 0, none⟩) ∧ e 5 = vi k ∧ e 6 = vi i ∧ KeepL hh.a.toList S' S'' ∧ HdOk S'' 5 hh l ∧ l.take i = mkB k i) hh.n
      ⟨0, l0, by omega, by omega, rfl, rfl, rfl, KeepL.refl _ _, hl0, rfl⟩ ?_
    rintro j e S'' ⟨i, l, rfl, hi, e0, ek, ei, hkp, hl, htk⟩
    refine W.env3 e0 ek ei ?_
    have hr2 := hkp.row hr (fun hm => hnb rb (by simpa using hm) rfl)
    have hx2 := h3.keep hkp (fun b e hm => hnw b (by simpa using hm) e)
    repeat (first | refine W.seq ?_ | refine W.block ?_ | refine W.reg ?_ | refine W.skip ?_ | refine W.exit ?_ | refine W.ret ?_ | refine L.nil ?_ | refine L.p rfl rfl ?_ | refine L.skip rfl ?_)
    refine L.ld (cell_of hr2 rfl) rfl rfl rfl ?_
    repeat (first | refine W.seq ?_ | refine W.block ?_ | refine W.reg ?_ | refine W.skip ?_ | refine W.exit ?_ | refine W.ret ?_ | refine L.nil ?_ | refine L.p rfl rfl ?_ | refine L.skip rfl ?_)
    refine L.el hx2.slv rfl hel rfl rfl rfl rfl (fun _ => rfl) rfl (fun p => ?_)
    repeat (first | refine W.seq ?_ | refine W.block ?_ | refine W.reg ?_ | refine W.skip ?_ | refine W.exit ?_ | refine W.ret ?_ | refine L.nil ?_ | refine L.p rfl rfl ?_ | refine L.skip rfl ?_)
    refine W.ite rfl (fun h => ?_) (fun h => ?_)
    · have hin : i < hh.n := by simp at h; omega
      obtain ⟨a, n, c⟩ := hh
      obtain ⟨b, rfl⟩ : ∃ b, a = some b := by
        obtain ⟨_, ⟨_, h0, _⟩ | ⟨b, _, h0, _⟩⟩ := hl
        · dsimp only at h0 hin; omega
        · exact ⟨b, h0⟩
      obtain ⟨r, hrr, hro, hrl, hrt⟩ := hl.row
      have hll := hl.len
      dsimp only at hin hll hi
      repeat (first | refine W.seq ?_ | refine W.block ?_ | refine W.reg ?_ | refine W.skip ?_ | refine W.exit ?_ | refine W.ret ?_ | refine L.nil ?_ | refine L.p rfl rfl ?_ | refine L.skip rfl ?_)
      refine L.ld (cell_of hr2 rfl) rfl rfl rfl ?_
      repeat (first | refine W.seq ?_ | refine W.block ?_ | refine W.reg ?_ | refine W.skip ?_ | refine W.exit ?_ | refine W.ret ?_ | refine L.nil ?_ | refine L.p rfl rfl ?_ | refine L.skip rfl ?_)
      refine L.el hx2.slv rfl hel rfl rfl rfl rfl (fun _ => rfl) rfl (fun p => ?_)
      repeat (first | refine W.seq ?_ | refine W.block ?_ | refine W.reg ?_ | refine W.skip ?_ | refine W.exit ?_ | refine W.ret ?_ | refine L.nil ?_ | refine L.p rfl rfl ?_ | refine L.skip rfl ?_)
      refine L.cl (mark_C _ _ _) rfl rfl ?_
      rintro _ _ ⟨rfl, rfl⟩
      refine ⟨fun _ => Cons.refl _, ?_⟩
      repeat (first | refine W.seq ?_ | refine W.block ?_ | refine W.reg ?_ | refine W.skip ?_ | refine W.exit ?_ | refine W.ret ?_ | refine L.nil ?_ | refine L.p rfl rfl ?_ | refine L.skip rfl ?_)
      refine L.elst hrr hro (by omega) rfl hin rfl rfl rfl rfl (fun _ => rfl) (fun _ => rfl) rfl rfl rfl (fun p => ?_)
      repeat (first | refine W.seq ?_ | refine W.block ?_ | refine W.reg ?_ | refine W.skip ?_ | refine W.exit ?_ | refine W.ret ?_ | refine L.nil ?_ | refine L.p rfl rfl ?_ | refine L.skip rfl ?_)
      rw [Nat.zero_add]
      refine ⟨n - (i + 1), by show n - (i + 1) < n - i; omega, i + 1, _, rfl, by show i + 1 ≤ n; omega, rfl, rfl, ?_, ?_, hl.set _ hrr, ?_⟩
      · refine (force_eq rfl).trans ?_
        rw [wrap64 (by omega) (by dsimp only at hsm; omega)]; rfl
      · exact hkp.trans ((Keep.set b _ _).keepL (by simp))
      · rw [mkB_succ, show v8 ((mk k i).setWidth 8) = .int .u8 (IntKind.u8.wrap ((mk k i).toNat : Int)) by rw [u8_of_v64]]; exact take_set_succ htk (by omega)
    · have hin : i = hh.n := by simp at h; omega
      subst hin
      repeat (first | refine W.seq ?_ | refine W.block ?_ | refine W.reg ?_ | refine W.skip ?_ | refine W.exit ?_ | refine W.ret ?_ | refine L.nil ?_ | refine L.p rfl rfl ?_ | refine L.skip rfl ?_)
      refine ⟨bs.length - (k + 1), by omega, k + 1, rfl, by omega, rfl, ?_, ?_, ?_⟩
      · refine (force_eq rfl).trans ?_
        rw [wrap64 (by omega) (by omega)]; rfl
      · exact hkeep.trans (hkp.mono fun b hm => blks_mem hkh (by simpa using hm))
      · intro i h hi'
        by_cases hik : i = k
        · subst hik
          rw [hkh] at hi'; cases hi'
          rw [if_pos (by omega)]
          rw [List.take_of_length_le (Nat.le_of_eq hl.len)] at htk
          rw [← htk]; exact hl
        · have hne : ∀ b, h.a = some b → b ∉ hh.a.toList := fun b e hm => hik (hObs i k h hh b hi' hkh e (by simpa using hm))
          have := hst i h hi'
          split at this
          · rw [if_pos (by omega)]; exact this.keep hkp hne
          · rw [if_neg (by omega)]
            obtain ⟨l', hl'⟩ := this
            exact ⟨l', hl'.keep hkp hne⟩
  have hkl : k = bs.length := by simp at h; omega
  subst hkl
  have hMbs : Marked S' 5 mkB 0 bs := fun i h hi => by
    have := hst i h hi
    have hlt := (List.getElem?_eq_some_iff.1 hi).1
    rw [if_pos hlt] at this
    exact this
  clear hst h hr h2 h3 h5 h6 hlen ek
  rename Mem => S2
  have hBws := hBbs.keep hkeep hdbs
  have hMbs2 : Marked S2 5 mkB 0 bs := hMbs
  have hMws : Marked S2 56 mkW 0 ws := fun i h hi => (hMws i h hi).keep hkeep (fun b e hm => hdd b (blks_mem hi e) hm)
  have hkeep2 : KeepL (blks ws ++ blks bs) S S2 := (hkeep1.mono (by simp +contextual)).trans (hkeep.mono (by simp +contextual))
  clear hBbs hkeep hkeep1 e0 hk
  repeat (first | refine W.seq ?_ | refine W.block ?_ | refine W.reg ?_ | refine W.skip ?_ | refine W.exit ?_ | refine W.ret ?_ | refine L.nil ?_ | refine L.p rfl rfl ?_ | refine L.skip rfl ?_)
  refine W.loop (fun j e S' => ∃ (k : Nat) (dw : List Hd) (hxw : Hd), j = ws.length - k ∧ k ≤ ws.length ∧ e 0 = .pointer (some ⟨rb, 0, none⟩) ∧ e 8 = vi k ∧ e 7 = hxw.v ∧ e 0 = .pointer (some ⟨rb, 0, none⟩) ∧ dw.length = k ∧ KeepL (blks ws) S2 S' ∧ HdOk S' 24 hxw (dw.map Hd.v) ∧
      (∀ b, hxw.a = some b → List.length S2 ≤ b) ∧ (∀ (i : Nat) (d : Hd), dw[i]? = some d → (∃ h, ws[i]? = some h ∧ HdOk S' 56 d (mkW i (h.n + 64)) ∧ d.n = h.n + 64) ∧ ∃ b, d.a = some b ∧ List.length S2 ≤ b ∧ hxw.a ≠ some b) ∧
      (∀ (i : Nat) (h : Hd), ws[i]? = some h → k ≤ i → HdOk S' 56 h (mkW i h.n))) ws.length
    ⟨0, [], ⟨none, 0, 0⟩, by omega, by omega, rfl, rfl, rfl, rfl, rfl, KeepL.refl _ _, HdOk.nil _ _, nofun, fun i d hi => by simp at hi, fun i h hi _ => hMws i h hi⟩ ?_
  rintro j e S' ⟨k, dw, hxw, rfl, hk, e0, ek, ex, eo, hdl, hkeep, hhx, hxb, hds, hst⟩
  refine W.env4 e0 ek ex eo ?_
  obtain ⟨hw, hb, hr, h2, h3, h4, h5, h6⟩ := hBws.keep hkeep hdws
  have hlen := h2.len
  rw [List.length_map] at hlen
  repeat (first | refine W.seq ?_ | refine W.block ?_ | refine W.reg ?_ | refine W.skip ?_ | refine W.exit ?_ | refine W.ret ?_ | refine L.nil ?_ | refine L.p rfl rfl ?_ | refine L.skip rfl ?_)
  refine L.ld (cell_of hr rfl) rfl rfl rfl ?_
  repeat (first | refine W.seq ?_ | refine W.block ?_ | refine W.reg ?_ | refine W.skip ?_ | refine W.exit ?_ | refine W.ret ?_ | refine L.nil ?_ | refine L.p rfl rfl ?_ | refine L.skip rfl ?_)
  refine W.ite rfl (fun h => ?_) (fun h => ?_)
  · have hkl : k < ws.length := by simp at h; omega
    obtain ⟨hh, hkh⟩ : ∃ hh, ws[k]? = some hh := ⟨_, List.getElem?_eq_getElem hkl⟩
    have hel : (ws.map Hd.v)[k]? = some hh.v := by rw [List.getElem?_map, hkh]; rfl
    have hl0 := hst k hh hkh (Nat.le_refl _)
    have hnb : ∀ b, hh.a = some b → b ≠ rb := fun b e hm => hdws b (blks_mem hkh e) (hm ▸ h4)
    have hnw : ∀ b, hh.a = some b → hw.a ≠ some b := fun b e hm => hdws b (blks_mem hkh e) (h5 b hm).1
    have hlt : ∀ b, hh.a = some b → b < List.length S2 := fun b e => by
      have := hMws k hh hkh
      exact this.lt e
    have hsm := (hAws k hh hkh).1
    have hSl := hkeep.1
    clear h
    repeat (first | refine W.seq ?_ | refine W.block ?_ | refine W.reg ?_ | refine W.skip ?_ | refine W.exit ?_ | refine W.ret ?_ | refine L.nil ?_ | refine L.p rfl rfl ?_ | refine L.skip rfl ?_)
    refine L.ld (cell_of hr rfl) rfl rfl rfl ?_
    repeat (first | refine W.seq ?_ | refine W.block ?_ | refine W.reg ?_ | refine W.skip ?_ | refine W.exit ?_ | refine W.ret ?_ | refine L.nil ?_ | refine L.p rfl rfl ?_ | refine L.skip rfl ?_)
    refine L.el h2.slv rfl hel rfl rfl rfl rfl (fun _ => rfl) rfl (fun p => ?_)
    repeat (first | refine W.seq ?_ | refine W.block ?_ | refine W.reg ?_ | refine W.skip ?_ | refine W.exit ?_ | refine W.ret ?_ | refine L.nil ?_ | refine L.p rfl rfl ?_ | refine L.skip rfl ?_)
    refine W.loop (fun j e S'' => ∃ (i : Nat) (hl : Hd), j = 64 - i ∧ i ≤ 64 ∧ e 0 = .pointer (some ⟨rb, 0, none⟩) ∧ e 8 = vi k ∧ e 7 = hxw.v ∧ e 0 = .pointer (some ⟨rb, 0, none⟩) ∧ e 9 = hl.v ∧ e 10 = vi i ∧ KeepL hh.a.toList S' S'' ∧ HdOk S'' 56 hl (mkW k (hh.n + i)) ∧ hl.n = hh.n + i ∧ ((i = 0 ∧ hl.a = hh.a) ∨ ∃ b, hl.a = some b ∧ List.length S' ≤ b)) 64
      ⟨0, hh, by omega, by omega, rfl, rfl, rfl, rfl, rfl, rfl, KeepL.refl _ _, hl0, rfl, .inl ⟨rfl, rfl⟩⟩ ?_
    rintro j e S'' ⟨i, hl, rfl, hi, e0, ek, ex, eo, el, ei, hkp, hhl, hln, hla⟩
    refine W.env6 e0 ek ex eo el ei ?_
    have hr2 := hkp.row hr (fun hm => hnb rb (by simpa using hm) rfl)
    have hx2 := h2.keep hkp (fun b e hm => hnw b (by simpa using hm) e)
    repeat (first | refine W.seq ?_ | refine W.block ?_ | refine W.reg ?_ | refine W.skip ?_ | refine W.exit ?_ | refine W.ret ?_ | refine L.nil ?_ | refine L.p rfl rfl ?_ | refine L.skip rfl ?_)
    refine W.ite rfl (fun h => ?_) (fun h => ?_)
    · have hin : i < 64 := by simp at h; omega
      repeat (first | refine W.seq ?_ | refine W.block ?_ | refine W.reg ?_ | refine W.skip ?_ | refine W.exit ?_ | refine W.ret ?_ | refine L.nil ?_ | refine L.p rfl rfl ?_ | refine L.skip rfl ?_)
      refine L.ld (cell_of hr2 rfl) rfl rfl rfl ?_
      repeat (first | refine W.seq ?_ | refine W.block ?_ | refine W.reg ?_ | refine W.skip ?_ | refine W.exit ?_ | refine W.ret ?_ | refine L.nil ?_ | refine L.p rfl rfl ?_ | refine L.skip rfl ?_)
      refine L.el hx2.slv rfl hel rfl rfl rfl rfl (fun _ => rfl) rfl (fun p => ?_)
      repeat (first | refine W.seq ?_ | refine W.block ?_ | refine W.reg ?_ | refine W.skip ?_ | refine W.exit ?_ | refine W.ret ?_ | refine L.nil ?_ | refine L.p rfl rfl ?_ | refine L.skip rfl ?_)
      refine L.cl (mark_C _ _ _) rfl rfl ?_
      rintro _ _ ⟨rfl, rfl⟩
      refine ⟨fun _ => Cons.refl _, ?_⟩
      repeat (first | refine W.seq ?_ | refine W.block ?_ | refine W.reg ?_ | refine W.skip ?_ | refine W.exit ?_ | refine W.ret ?_ | refine L.nil ?_ | refine L.p rfl rfl ?_ | refine L.skip rfl ?_)
      refine L.pushH (h := hl) rfl hhl rfl rfl rfl rfl rfl (by omega) rfl (fun _ => rfl) (fun p h' S9 k1 k2 k3 k4 => ?_)
      rw [wrap64 (by omega) (by omega)] at k1
      repeat (first | refine W.seq ?_ | refine W.block ?_ | refine W.reg ?_ | refine W.skip ?_ | refine W.exit ?_ | refine W.ret ?_ | refine L.nil ?_ | refine L.p rfl rfl ?_ | refine L.skip rfl ?_)
      obtain ⟨b', k5, k6⟩ := k3
      have hSl2 := hkp.1
      refine ⟨64 - (i + 1), by omega, i + 1, h', rfl, by omega, rfl, rfl, rfl, rfl, rfl, ?_, ?_, ?_, by omega, .inr ⟨b', k5, by omega⟩⟩
      · refine (force_eq rfl).trans ?_
        rw [wrap64 (by omega) (by omega)]; rfl
      · refine hkp.then k4 ?_
        intro r hm
        rcases hla with ⟨_, hla⟩ | ⟨b, hla, hlb⟩
        · rw [hla] at hm; exact .inl hm
        · rw [hla] at hm; simp at hm; exact .inr (by omega)
      · rw [show hh.n + (i + 1) = (hh.n + i) + 1 by omega, mkW_succ]
        exact k1
    · have hin : i = 64 := by simp at h; omega
      subst hin
      obtain ⟨bl, hla, hlb⟩ : ∃ b, hl.a = some b ∧ List.length S' ≤ b := by
        rcases hla with ⟨h0, _⟩ | h0
        · omega
        · exact h0
      have hbl := hhl.lt hla
      have hxk : HdOk S'' 24 hxw (dw.map Hd.v) := hhx.keep hkp (fun b e hm => by have := hxb b e; have := hlt b (by simpa using hm); omega)
      have hxn := hxk.len
      rw [List.length_map] at hxn
      repeat (first | refine W.seq ?_ | refine W.block ?_ | refine W.reg ?_ | refine W.skip ?_ | refine W.exit ?_ | refine W.ret ?_ | refine L.nil ?_ | refine L.p rfl rfl ?_ | refine L.skip rfl ?_)
      refine L.pushH (h := hxw) rfl hxk rfl rfl rfl rfl rfl (by omega) rfl (fun _ => rfl) (fun p h' S9 k1 k2 k3 k4 => ?_)
      obtain ⟨b', k5, k6⟩ := k3
      repeat (first | refine W.seq ?_ | refine W.block ?_ | refine W.reg ?_ | refine W.skip ?_ | refine W.exit ?_ | refine W.ret ?_ | refine L.nil ?_ | refine L.p rfl rfl ?_ | refine L.skip rfl ?_)
      have hSl2 := hkp.1
      have hkS : KeepL (blks ws) S' S'' := hkp.mono fun b hm => blks_mem hkh (by simpa using hm)
      have hk4 : ∀ r ∈ hxw.a.toList, r ∈ blks ws ∨ List.length S2 ≤ r := fun r hm => .inr (hxb r (by simpa using hm))
      refine ⟨ws.length - (k + 1), by omega, k + 1, dw ++ [hl], h', rfl, by omega, rfl, ?_, rfl, rfl, by simp [hdl], (hkeep.trans hkS).then k4 hk4, by rw [List.map_append]; exact k1, ?_, ?_, ?_⟩
      · refine (force_eq rfl).trans ?_
        rw [wrap64 (by omega) (by omega)]; rfl
      · intro b e; rw [k5] at e; cases e; omega
      · intro i d hi'
        rw [List.getElem?_append] at hi'
        split at hi'
        · obtain ⟨⟨h9, q1, q2, q3⟩, b9, q4, q5, q6⟩ := hds i d hi'
          have q7 := q2.lt q4
          refine ⟨⟨h9, q1, (q2.keep hkp (fun b e hm => ?_)).keep k4 (fun b e hm => ?_), q3⟩, b9, q4, q5, fun e => ?_⟩
          · rw [q4] at e; cases e
            have := hlt _ (by simpa using hm : hh.a = some b9); omega
          · rw [q4] at e; cases e
            exact q6 (by simpa using hm)
          · rw [k5] at e; cases e; omega
        · rename_i hge
          rw [List.getElem?_singleton] at hi'
          split at hi'
          · rename_i h0
            cases hi'
            have hik : i = k := by omega
            subst hik
            refine ⟨⟨hh, hkh, hhl.keep k4 (fun b e hm => ?_), hln⟩, bl, hla, by omega, fun e => ?_⟩
            · rw [hla] at e; cases e
              have := hhx.lt (by simpa using hm : hxw.a = some bl)
              omega
            · rw [k5] at e; cases e; omega
          · cases hi'
      · intro i h hi' hge
        have hq := hst i h hi' (by omega)
        refine (hq.keep hkp (fun b e hm => ?_)).keep k4 (fun b e hm => ?_)
        · have := hOws i k h hh b hi' hkh e (by simpa using hm); omega
        · have := hxb b (by simpa using hm)
          have := (hMws i h hi').lt e
          omega
  have hkl : k = ws.length := by simp at h; omega
  clear h hr h2 h3 h5 h6 hlen ek e0 hst
  subst hkl
  rename Mem => S3
  have hBbs := hBws.keep hkeep hdws
  have hMbs : Marked S3 5 mkB 0 bs := fun i h hi => (hMbs i h hi).keep hkeep (fun b e hm => hdd b hm (blks_mem hi e))
  have hhxdw := hhx
  have hdsdw := hds
  have hxbw := hxb
  have hkeep3 : KeepL (blks ws ++ blks bs) S S3 := hkeep2.trans (hkeep.mono (by simp +contextual))
  have hS23 := hkeep.1
  clear hkeep hkeep2 hhx hds hxb hBws hk
  repeat (first | refine W.seq ?_ | refine W.block ?_ | refine W.reg ?_ | refine W.skip ?_ | refine W.exit ?_ | refine W.ret ?_ | refine L.nil ?_ | refine L.p rfl rfl ?_ | refine L.skip rfl ?_)
  refine W.loop (fun j e S' => ∃ (k : Nat) (ds : List Hd) (hx : Hd), j = bs.length - k ∧ k ≤ bs.length ∧ e 0 = .pointer (some ⟨rb, 0, none⟩) ∧ e 12 = vi k ∧ e 11 = hx.v ∧ e 7 = hxw.v ∧ ds.length = k ∧ KeepL (blks bs) S3 S' ∧ HdOk S' 22 hx (ds.map Hd.v) ∧
      (∀ b, hx.a = some b → List.length S3 ≤ b) ∧ (∀ (i : Nat) (d : Hd), ds[i]? = some d → (∃ h, bs[i]? = some h ∧ HdOk S' 5 d (mkB i (h.n + 64)) ∧ d.n = h.n + 64) ∧ ∃ b, d.a = some b ∧ List.length S3 ≤ b ∧ hx.a ≠ some b) ∧
      (∀ (i : Nat) (h : Hd), bs[i]? = some h → k ≤ i → HdOk S' 5 h (mkB i h.n))) bs.length
    ⟨0, [], ⟨none, 0, 0⟩, by omega, by omega, rfl, rfl, rfl, rfl, rfl, KeepL.refl _ _, HdOk.nil _ _, nofun, fun i d hi => by simp at hi, fun i h hi _ => hMbs i h hi⟩ ?_
  rintro j e S' ⟨k, ds, hx, rfl, hk, e0, ek, ex, eo, hdl, hkeep, hhx, hxb, hds, hst⟩
  refine W.env4 e0 ek ex eo ?_
  obtain ⟨hw, hb, hr, h2, h3, h4, h5, h6⟩ := hBbs.keep hkeep hdbs
  have hlen := h3.len
  rw [List.length_map] at hlen
  repeat (first | refine W.seq ?_ | refine W.block ?_ | refine W.reg ?_ | refine W.skip ?_ | refine W.exit ?_ | refine W.ret ?_ | refine L.nil ?_ | refine L.p rfl rfl ?_ | refine L.skip rfl ?_)
  refine L.ld (cell_of hr rfl) rfl rfl rfl ?_
  repeat (first | refine W.seq ?_ | refine W.block ?_ | refine W.reg ?_ | refine W.skip ?_ | refine W.exit ?_ | refine W.ret ?_ | refine L.nil ?_ | refine L.p rfl rfl ?_ | refine L.skip rfl ?_)
  refine W.ite rfl (fun h => ?_) (fun h => ?_)
  · have hkl : k < bs.length := by simp at h; omega
    obtain ⟨hh, hkh⟩ : ∃ hh, bs[k]? = some hh := ⟨_, List.getElem?_eq_getElem hkl⟩
    have hel : (bs.map Hd.v)[k]? = some hh.v := by rw [List.getElem?_map, hkh]; rfl
    have hl0 := hst k hh hkh (Nat.le_refl _)
    have hnb : ∀ b, hh.a = some b → b ≠ rb := fun b e hm => hdbs b (blks_mem hkh e) (hm ▸ h4)
    have hnw : ∀ b, hh.a = some b → hb.a ≠ some b := fun b e hm => hdbs b (blks_mem hkh e) (h6 b hm).1
    have hlt : ∀ b, hh.a = some b → b < List.length S3 := fun b e => by
      have := hMbs k hh hkh
      exact this.lt e
    have hsm := (hAbs k hh hkh).1
    have hSl := hkeep.1
    clear h
    repeat (first | refine W.seq ?_ | refine W.block ?_ | refine W.reg ?_ | refine W.skip ?_ | refine W.exit ?_ | refine W.ret ?_ | refine L.nil ?_ | refine L.p rfl rfl ?_ | refine L.skip rfl ?_)
    refine L.ld (cell_of hr rfl) rfl rfl rfl ?_
    repeat (first | refine W.seq ?_ | refine W.block ?_ | refine W.reg ?_ | refine W.skip ?_ | refine W.exit ?_ | refine W.ret ?_ | refine L.nil ?_ | refine L.p rfl rfl ?_ | refine L.skip rfl ?_)
    refine L.el h3.slv rfl hel rfl rfl rfl rfl (fun _ => rfl) rfl (fun p => ?_)
    repeat (first | refine W.seq ?_ | refine W.block ?_ | refine W.reg ?_ | refine W.skip ?_ | refine W.exit ?_ | refine W.ret ?_ | refine L.nil ?_ | refine L.p rfl rfl ?_ | refine L.skip rfl ?_)
    refine W.loop (fun j e S'' => ∃ (i : Nat) (hl : Hd), j = 64 - i ∧ i ≤ 64 ∧ e 0 = .pointer (some ⟨rb, 0, none⟩) ∧ e 12 = vi k ∧ e 11 = hx.v ∧ e 7 = hxw.v ∧ e 13 = hl.v ∧ e 14 = vi i ∧ KeepL hh.a.toList S' S'' ∧ HdOk S'' 5 hl (mkB k (hh.n + i)) ∧ hl.n = hh.n + i ∧ ((i = 0 ∧ hl.a = hh.a) ∨ ∃ b, hl.a = some b ∧ List.length S' ≤ b)) 64
      ⟨0, hh, by omega, by omega, rfl, rfl, rfl, rfl, rfl, rfl, KeepL.refl _ _, hl0, rfl, .inl ⟨rfl, rfl⟩⟩ ?_
    rintro j e S'' ⟨i, hl, rfl, hi, e0, ek, ex, eo, el, ei, hkp, hhl, hln, hla⟩
    refine W.env6 e0 ek ex eo el ei ?_
    have hr2 := hkp.row hr (fun hm => hnb rb (by simpa using hm) rfl)
    have hx2 := h3.keep hkp (fun b e hm => hnw b (by simpa using hm) e)
    repeat (first | refine W.seq ?_ | refine W.block ?_ | refine W.reg ?_ | refine W.skip ?_ | refine W.exit ?_ | refine W.ret ?_ | refine L.nil ?_ | refine L.p rfl rfl ?_ | refine L.skip rfl ?_)
    refine W.ite rfl (fun h => ?_) (fun h => ?_)
    · have hin : i < 64 := by simp at h; omega
      repeat (first | refine W.seq ?_ | refine W.block ?_ | refine W.reg ?_ | refine W.skip ?_ | refine W.exit ?_ | refine W.ret ?_ | refine L.nil ?_ | refine L.p rfl rfl ?_ | refine L.skip rfl ?_)
      refine L.ld (cell_of hr2 rfl) rfl rfl rfl ?_
      repeat (first | refine W.seq ?_ | refine W.block ?_ | refine W.reg ?_ | refine W.skip ?_ | refine W.exit ?_ | refine W.ret ?_ | refine L.nil ?_ | refine L.p rfl rfl ?_ | refine L.skip rfl ?_)
      refine L.el hx2.slv rfl hel rfl rfl rfl rfl (fun _ => rfl) rfl (fun p => ?_)
      repeat (first | refine W.seq ?_ | refine W.block ?_ | refine W.reg ?_ | refine W.skip ?_ | refine W.exit ?_ | refine W.ret ?_ | refine L.nil ?_ | refine L.p rfl rfl ?_ | refine L.skip rfl ?_)
      refine L.cl (mark_C _ _ _) rfl rfl ?_
      rintro _ _ ⟨rfl, rfl⟩
      refine ⟨fun _ => Cons.refl _, ?_⟩
      repeat (first | refine W.seq ?_ | refine W.block ?_ | refine W.reg ?_ | refine W.skip ?_ | refine W.exit ?_ | refine W.ret ?_ | refine L.nil ?_ | refine L.p rfl rfl ?_ | refine L.skip rfl ?_)
      refine L.pushH (h := hl) rfl hhl rfl rfl rfl rfl rfl (by omega) rfl (fun _ => rfl) (fun p h' S9 k1 k2 k3 k4 => ?_)
      rw [wrap64 (by omega) (by omega)] at k1
      repeat (first | refine W.seq ?_ | refine W.block ?_ | refine W.reg ?_ | refine W.skip ?_ | refine W.exit ?_ | refine W.ret ?_ | refine L.nil ?_ | refine L.p rfl rfl ?_ | refine L.skip rfl ?_)
      obtain ⟨b', k5, k6⟩ := k3
      have hSl2 := hkp.1
      refine ⟨64 - (i + 1), by omega, i + 1, h', rfl, by omega, rfl, rfl, rfl, rfl, rfl, ?_, ?_, ?_, by omega, .inr ⟨b', k5, by omega⟩⟩
      · refine (force_eq rfl).trans ?_
        rw [wrap64 (by omega) (by omega)]; rfl
      · refine hkp.then k4 ?_
        intro r hm
        rcases hla with ⟨_, hla⟩ | ⟨b, hla, hlb⟩
        · rw [hla] at hm; exact .inl hm
        · rw [hla] at hm; simp at hm; exact .inr (by omega)
      · rw [show hh.n + (i + 1) = (hh.n + i) + 1 by omega, mkB_succ]
        (rw [u8_of_v64] at k1; exact k1)
    · have hin : i = 64 := by simp at h; omega
      subst hin
      obtain ⟨bl, hla, hlb⟩ : ∃ b, hl.a = some b ∧ List.length S' ≤ b := by
        rcases hla with ⟨h0, _⟩ | h0
        · omega
        · exact h0
      have hbl := hhl.lt hla
      have hxk : HdOk S'' 22 hx (ds.map Hd.v) := hhx.keep hkp (fun b e hm => by have := hxb b e; have := hlt b (by simpa using hm); omega)
      have hxn := hxk.len
      rw [List.length_map] at hxn
      repeat (first | refine W.seq ?_ | refine W.block ?_ | refine W.reg ?_ | refine W.skip ?_ | refine W.exit ?_ | refine W.ret ?_ | refine L.nil ?_ | refine L.p rfl rfl ?_ | refine L.skip rfl ?_)
      refine L.pushH (h := hx) rfl hxk rfl rfl rfl rfl rfl (by omega) rfl (fun _ => rfl) (fun p h' S9 k1 k2 k3 k4 => ?_)
      obtain ⟨b', k5, k6⟩ := k3
      repeat (first | refine W.seq ?_ | refine W.block ?_ | refine W.reg ?_ | refine W.skip ?_ | refine W.exit ?_ | refine W.ret ?_ | refine L.nil ?_ | refine L.p rfl rfl ?_ | refine L.skip rfl ?_)
      have hSl2 := hkp.1
      have hkS : KeepL (blks bs) S' S'' := hkp.mono fun b hm => blks_mem hkh (by simpa using hm)
      have hk4 : ∀ r ∈ hx.a.toList, r ∈ blks bs ∨ List.length S3 ≤ r := fun r hm => .inr (hxb r (by simpa using hm))
      refine ⟨bs.length - (k + 1), by omega, k + 1, ds ++ [hl], h', rfl, by omega, rfl, ?_, rfl, rfl, by simp [hdl], (hkeep.trans hkS).then k4 hk4, by rw [List.map_append]; exact k1, ?_, ?_, ?_⟩
      · refine (force_eq rfl).trans ?_
        rw [wrap64 (by omega) (by omega)]; rfl
      · intro b e; rw [k5] at e; cases e; omega
      · intro i d hi'
        rw [List.getElem?_append] at hi'
        split at hi'
        · obtain ⟨⟨h9, q1, q2, q3⟩, b9, q4, q5, q6⟩ := hds i d hi'
          have q7 := q2.lt q4
          refine ⟨⟨h9, q1, (q2.keep hkp (fun b e hm => ?_)).keep k4 (fun b e hm => ?_), q3⟩, b9, q4, q5, fun e => ?_⟩
          · rw [q4] at e; cases e
            have := hlt _ (by simpa using hm : hh.a = some b9); omega
          · rw [q4] at e; cases e
            exact q6 (by simpa using hm)
          · rw [k5] at e; cases e; omega
        · rename_i hge
          rw [List.getElem?_singleton] at hi'
          split at hi'
          · rename_i h0
            cases hi'
            have hik : i = k := by omega
            subst hik
            refine ⟨⟨hh, hkh, hhl.keep k4 (fun b e hm => ?_), hln⟩, bl, hla, by omega, fun e => ?_⟩
            · rw [hla] at e; cases e
              have := hhx.lt (by simpa using hm : hx.a = some bl)
              omega
            · rw [k5] at e; cases e; omega
          · cases hi'
      · intro i h hi' hge
        have hq := hst i h hi' (by omega)
        refine (hq.keep hkp (fun b e hm => ?_)).keep k4 (fun b e hm => ?_)
        · have := hObs i k h hh b hi' hkh e (by simpa using hm); omega
        · have := hxb b (by simpa using hm)
          have := (hMbs i h hi').lt e
          omega
  have hkl : k = bs.length := by simp at h; omega
  clear h hr h2 h3 h5 h6 hlen ek e0 hst
  subst hkl
  rename Mem => S4
  have hkeep4 : KeepL (blks ws ++ blks bs) S S4 := hkeep3.trans (hkeep.mono (by simp +contextual))
  have hblt : ∀ b ∈ blks bs, b < List.length S2 := fun b hm => by
    obtain ⟨k, d, h1, h2⟩ := blks_at hm
    exact (hMbs2 k d h1).lt h2
  have hhxdw := hhxdw.keep hkeep (fun b e hm => by have := hxbw b e; have := hblt b hm; omega)
  have hdsdw : ∀ (i : Nat) (d : Hd), dw[i]? = some d → (∃ h, ws[i]? = some h ∧ HdOk S4 56 d (mkW i (h.n + 64)) ∧ d.n = h.n + 64) ∧ True := fun i d hi => by
    obtain ⟨⟨h9, q1, q2, q3⟩, b9, q4, q5, q6⟩ := hdsdw i d hi
    exact ⟨⟨h9, q1, q2.keep hkeep (fun b e hm => by rw [q4] at e; cases e; have := hblt _ hm; omega), q3⟩, trivial⟩
  have hhxds := hhx
  have hdsds := hds
  clear hkeep hkeep3 hhx hds hxb hBbs hk hxbw
  repeat (first | refine W.seq ?_ | refine W.block ?_ | refine W.reg ?_ | refine W.skip ?_ | refine W.exit ?_ | refine W.ret ?_ | refine L.nil ?_ | refine L.p rfl rfl ?_ | refine L.skip rfl ?_)
  refine W.loop (fun j e S' => ∃ k : Nat, j = dw.length - k ∧ k ≤ dw.length ∧ S4 = S' ∧ e 7 = hxw.v ∧ e 15 = vi k ∧ e 11 = hx.v) dw.length ⟨0, by omega, by omega, rfl, rfl, rfl, rfl⟩ ?_
  rintro j e S' ⟨k, rfl, hk, rfl, ex, ek, eo⟩
  refine W.env3 ex ek eo ?_
  have hlen := hhxdw.len
  rw [List.length_map] at hlen
  repeat (first | refine W.seq ?_ | refine W.block ?_ | refine W.reg ?_ | refine W.skip ?_ | refine W.exit ?_ | refine W.ret ?_ | refine L.nil ?_ | refine L.p rfl rfl ?_ | refine L.skip rfl ?_)
  refine W.ite rfl (fun h => ?_) (fun h => ?_)
  · have hkl : k < dw.length := by simp at h; omega
    obtain ⟨dd, hkd⟩ : ∃ dd, dw[k]? = some dd := ⟨_, List.getElem?_eq_getElem hkl⟩
    have hel : (dw.map Hd.v)[k]? = some dd.v := by rw [List.getElem?_map, hkd]; rfl
    obtain ⟨⟨hh, hkh, hdok, hdn⟩, _⟩ := hdsdw k dd hkd
    rw [← hdn] at hdok
    have hsm := (hAws k hh hkh).1
    clear h
    repeat (first | refine W.seq ?_ | refine W.block ?_ | refine W.reg ?_ | refine W.skip ?_ | refine W.exit ?_ | refine W.ret ?_ | refine L.nil ?_ | refine L.p rfl rfl ?_ | refine L.skip rfl ?_)
    refine W.loop (fun j e S'' => ∃ i : Nat, j = dd.n - i ∧ i ≤ dd.n ∧ S4 = S'' ∧ e 7 = hxw.v ∧ e 15 = vi k ∧ e 11 = hx.v ∧ e 16 = vi i) dd.n ⟨0, by omega, by omega, rfl, rfl, rfl, rfl, rfl⟩ ?_
    rintro j e S'' ⟨i, rfl, hi, rfl, ex, ek, eo, ei⟩
    refine W.env4 ex ek eo ei ?_
    repeat (first | refine W.seq ?_ | refine W.block ?_ | refine W.reg ?_ | refine W.skip ?_ | refine W.exit ?_ | refine W.ret ?_ | refine L.nil ?_ | refine L.p rfl rfl ?_ | refine L.skip rfl ?_)
    refine L.el hhxdw.slv rfl hel rfl rfl rfl rfl (fun _ => rfl) rfl (fun p => ?_)
    repeat (first | refine W.seq ?_ | refine W.block ?_ | refine W.reg ?_ | refine W.skip ?_ | refine W.exit ?_ | refine W.ret ?_ | refine L.nil ?_ | refine L.p rfl rfl ?_ | refine L.skip rfl ?_)
    refine W.ite rfl (fun h => ?_) (fun h => ?_)
    · have hin : i < dd.n := by simp at h; omega
      repeat (first | refine W.seq ?_ | refine W.block ?_ | refine W.reg ?_ | refine W.skip ?_ | refine W.exit ?_ | refine W.ret ?_ | refine L.nil ?_ | refine L.p rfl rfl ?_ | refine L.skip rfl ?_)
      refine L.el hhxdw.slv rfl hel rfl rfl rfl rfl (fun _ => rfl) rfl (fun p => ?_)
      repeat (first | refine W.seq ?_ | refine W.block ?_ | refine W.reg ?_ | refine W.skip ?_ | refine W.exit ?_ | refine W.ret ?_ | refine L.nil ?_ | refine L.p rfl rfl ?_ | refine L.skip rfl ?_)
      refine L.el hdok.slv rfl (mkW_get hin) rfl rfl rfl rfl (fun _ => rfl) rfl (fun p => ?_)
      repeat (first | refine W.seq ?_ | refine W.block ?_ | refine W.reg ?_ | refine W.skip ?_ | refine W.exit ?_ | refine W.ret ?_ | refine L.nil ?_ | refine L.p rfl rfl ?_ | refine L.skip rfl ?_)
      refine L.cl (mark_C _ _ _) rfl rfl ?_
      rintro _ _ ⟨rfl, rfl⟩
      refine ⟨fun _ => Cons.refl _, ?_⟩
      repeat (first | refine W.seq ?_ | refine W.block ?_ | refine W.reg ?_ | refine W.skip ?_ | refine W.exit ?_ | refine W.ret ?_ | refine L.nil ?_ | refine L.p rfl rfl ?_ | refine L.skip rfl ?_)
      refine W.ite rfl (fun h => ?_) (fun h => ?_)
      · exfalso; (simp at h)
      · repeat (first | refine W.seq ?_ | refine W.block ?_ | refine W.reg ?_ | refine W.skip ?_ | refine W.exit ?_ | refine W.ret ?_ | refine L.nil ?_ | refine L.p rfl rfl ?_ | refine L.skip rfl ?_)
        refine ⟨dd.n - (i + 1), by omega, i + 1, rfl, by omega, rfl, rfl, rfl, rfl, ?_⟩
        refine (force_eq rfl).trans ?_
        rw [wrap64 (by omega) (by omega)]; rfl
    · repeat (first | refine W.seq ?_ | refine W.block ?_ | refine W.reg ?_ | refine W.skip ?_ | refine W.exit ?_ | refine W.ret ?_ | refine L.nil ?_ | refine L.p rfl rfl ?_ | refine L.skip rfl ?_)
      refine ⟨dw.length - (k + 1), by omega, k + 1, rfl, by omega, rfl, rfl, ?_, rfl⟩
      refine (force_eq rfl).trans ?_
      rw [wrap64 (by omega) (by omega)]; rfl
  clear h ek hlen
  repeat (first | refine W.seq ?_ | refine W.block ?_ | refine W.reg ?_ | refine W.skip ?_ | refine W.exit ?_ | refine W.ret ?_ | refine L.nil ?_ | refine L.p rfl rfl ?_ | refine L.skip rfl ?_)
  refine W.loop (fun j e S' => ∃ k : Nat, j = ds.length - k ∧ k ≤ ds.length ∧ S4 = S' ∧ e 11 = hx.v ∧ e 17 = vi k ∧ e 11 = hx.v) ds.length ⟨0, by omega, by omega, rfl, rfl, rfl, rfl⟩ ?_
  rintro j e S' ⟨k, rfl, hk, rfl, ex, ek, eo⟩
  refine W.env3 ex ek eo ?_
  have hlen := hhxds.len
  rw [List.length_map] at hlen
  repeat (first | refine W.seq ?_ | refine W.block ?_ | refine W.reg ?_ | refine W.skip ?_ | refine W.exit ?_ | refine W.ret ?_ | refine L.nil ?_ | refine L.p rfl rfl ?_ | refine L.skip rfl ?_)
  refine W.ite rfl (fun h => ?_) (fun h => ?_)
  · have hkl : k < ds.length := by simp at h; omega
    obtain ⟨dd, hkd⟩ : ∃ dd, ds[k]? = some dd := ⟨_, List.getElem?_eq_getElem hkl⟩
    have hel : (ds.map Hd.v)[k]? = some dd.v := by rw [List.getElem?_map, hkd]; rfl
    obtain ⟨⟨hh, hkh, hdok, hdn⟩, _⟩ := hdsds k dd hkd
    rw [← hdn] at hdok
    have hsm := (hAbs k hh hkh).1
    clear h
    repeat (first | refine W.seq ?_ | refine W.block ?_ | refine W.reg ?_ | refine W.skip ?_ | refine W.exit ?_ | refine W.ret ?_ | refine L.nil ?_ | refine L.p rfl rfl ?_ | refine L.skip rfl ?_)
    refine W.loop (fun j e S'' => ∃ i : Nat, j = dd.n - i ∧ i ≤ dd.n ∧ S4 = S'' ∧ e 11 = hx.v ∧ e 17 = vi k ∧ e 11 = hx.v ∧ e 18 = vi i) dd.n ⟨0, by omega, by omega, rfl, rfl, rfl, rfl, rfl⟩ ?_
    rintro j e S'' ⟨i, rfl, hi, rfl, ex, ek, eo, ei⟩
    refine W.env4 ex ek eo ei ?_
    repeat (first | refine W.seq ?_ | refine W.block ?_ | refine W.reg ?_ | refine W.skip ?_ | refine W.exit ?_ | refine W.ret ?_ | refine L.nil ?_ | refine L.p rfl rfl ?_ | refine L.skip rfl ?_)
    refine L.el hhxds.slv rfl hel rfl rfl rfl rfl (fun _ => rfl) rfl (fun p => ?_)
    repeat (first | refine W.seq ?_ | refine W.block ?_ | refine W.reg ?_ | refine W.skip ?_ | refine W.exit ?_ | refine W.ret ?_ | refine L.nil ?_ | refine L.p rfl rfl ?_ | refine L.skip rfl ?_)
    refine W.ite rfl (fun h => ?_) (fun h => ?_)
    · have hin : i < dd.n := by simp at h; omega
      repeat (first | refine W.seq ?_ | refine W.block ?_ | refine W.reg ?_ | refine W.skip ?_ | refine W.exit ?_ | refine W.ret ?_ | refine L.nil ?_ | refine L.p rfl rfl ?_ | refine L.skip rfl ?_)
      refine L.el hhxds.slv rfl hel rfl rfl rfl rfl (fun _ => rfl) rfl (fun p => ?_)
      repeat (first | refine W.seq ?_ | refine W.block ?_ | refine W.reg ?_ | refine W.skip ?_ | refine W.exit ?_ | refine W.ret ?_ | refine L.nil ?_ | refine L.p rfl rfl ?_ | refine L.skip rfl ?_)
      refine L.el hdok.slv rfl (mkB_get hin) rfl rfl rfl rfl (fun _ => rfl) rfl (fun p => ?_)
      repeat (first | refine W.seq ?_ | refine W.block ?_ | refine W.reg ?_ | refine W.skip ?_ | refine W.exit ?_ | refine W.ret ?_ | refine L.nil ?_ | refine L.p rfl rfl ?_ | refine L.skip rfl ?_)
      refine L.cl (mark_C _ _ _) rfl rfl ?_
      rintro _ _ ⟨rfl, rfl⟩
      refine ⟨fun _ => Cons.refl _, ?_⟩
      repeat (first | refine W.seq ?_ | refine W.block ?_ | refine W.reg ?_ | refine W.skip ?_ | refine W.exit ?_ | refine W.ret ?_ | refine L.nil ?_ | refine L.p rfl rfl ?_ | refine L.skip rfl ?_)
      refine W.ite rfl (fun h => ?_) (fun h => ?_)
      · exfalso; (rw [u8_of_v64] at h; simp at h)
      · repeat (first | refine W.seq ?_ | refine W.block ?_ | refine W.reg ?_ | refine W.skip ?_ | refine W.exit ?_ | refine W.ret ?_ | refine L.nil ?_ | refine L.p rfl rfl ?_ | refine L.skip rfl ?_)
        refine ⟨dd.n - (i + 1), by omega, i + 1, rfl, by omega, rfl, rfl, rfl, rfl, ?_⟩
        refine (force_eq rfl).trans ?_
        rw [wrap64 (by omega) (by omega)]; rfl
    · repeat (first | refine W.seq ?_ | refine W.block ?_ | refine W.reg ?_ | refine W.skip ?_ | refine W.exit ?_ | refine W.ret ?_ | refine L.nil ?_ | refine L.p rfl rfl ?_ | refine L.skip rfl ?_)
      refine ⟨ds.length - (k + 1), by omega, k + 1, rfl, by omega, rfl, rfl, ?_, rfl⟩
      refine (force_eq rfl).trans ?_
      rw [wrap64 (by omega) (by omega)]; rfl
  clear h ek hlen
  repeat (first | refine W.seq ?_ | refine W.block ?_ | refine W.reg ?_ | refine W.skip ?_ | refine W.exit ?_ | refine W.ret ?_ | refine L.nil ?_ | refine L.p rfl rfl ?_ | refine L.skip rfl ?_)
  exact ⟨.inr rfl, _, rfl, rfl, hkeep4⟩
end Go.Proofs.Ytccdlijohkljcaa

/- The book from its making to its answer. Conditions: none. -/
set_option linter.unusedSimpArgs false
set_option linter.unusedVariables false
set_option maxRecDepth 100000
namespace Go.Proofs.Ytccdlijohkljcaa
open Go
variable {G : Nat} {Ext : FuncId → List Value → Mem → Outc → Mem → Prop}

/-- a book made after M0, with these lists; nothing of M0 has changed -/
def BK (M0 S : Mem) (rb : Nat) (ws bs : List Hd) : Prop := Cons M0 S ∧ ∃ ps, Book S rb ws bs ps ∧ ∀ r ∈ ps, M0.length ≤ r
theorem BK.new (M0 : Mem) : BK M0 (M0 ++ [newR [.slice none 0 0, .slice none 0 0] 34]) M0.length [] [] :=
  ⟨Cons.push _ _, _, Book.new M0, fun r hm => by simp at hm; omega⟩
theorem BK.step {M0 S S' : Mem} {rb : Nat} {ws' bs' : List Hd} {ps ps' : List Nat} (hc : Cons M0 S) (hp : ∀ r ∈ ps, M0.length ≤ r) (q1 : Book S' rb ws' bs' ps') (q2 : Sub2 S ps ps') (q3 : KeepL ps S S') : BK M0 S' rb ws' bs' :=
  ⟨q3.cons0 hc hp, ps', q1, fun r hm => (q2 r hm).elim (hp r) (fun h => Nat.le_trans hc.len h)⟩
theorem words_BK {M0 S : Mem} {rb : Nat} {ws bs : List Hd} (h : Hd) (hK : BK M0 S rb ws bs) (hn : ws.length < 1000000) : C Try.prog G Ext 30 [.pointer (some ⟨rb, 0, none⟩), h.v] S fun v S' => BK M0 S' rb (ws ++ [h]) bs := by
  obtain ⟨hc, ps, hB, hp⟩ := hK
  obtain ⟨v, S', h1, ps', q1, q2, q3⟩ := words_C (G := G) (Ext := Ext) S h rb ws bs ps hB hn
  exact ⟨v, S', h1, .step hc hp q1 q2 q3⟩
theorem bytes_BK {M0 S : Mem} {rb : Nat} {ws bs : List Hd} (h : Hd) (hK : BK M0 S rb ws bs) (hn : bs.length < 1000000) : C Try.prog G Ext 22 [.pointer (some ⟨rb, 0, none⟩), h.v] S fun v S' => BK M0 S' rb ws (bs ++ [h]) := by
  obtain ⟨hc, ps, hB, hp⟩ := hK
  obtain ⟨v, S', h1, ps', q1, q2, q3⟩ := bytes_C (G := G) (Ext := Ext) S h rb ws bs ps hB hn
  exact ⟨v, S', h1, .step hc hp q1 q2 q3⟩
theorem Alive.nil (S : Mem) (el : TypeId) : Alive S el [] := fun i h hi => by simp at hi
theorem Alive.add {S : Mem} {el : TypeId} {d : Hd} {ds : List Hd} {l : List Value} (h : HdOk S el d l) (hn : l.length ≤ 1000000000000) (t : Alive S el ds) : Alive S el (d :: ds) := fun i x hi => by
  cases i with
  | zero => cases hi; exact ⟨by have := h.len; omega, l, h⟩
  | succ i => exact t i x hi
theorem Own.nil : Own [] := fun i j h d b hi => by simp at hi
theorem Own.add {d : Hd} {ds : List Hd} (h : ∀ b, d.a = some b → b ∉ blks ds) (t : Own ds) : Own (d :: ds) := fun i j x y b hi hj ex ey => by
  cases i with
  | zero =>
    cases hi
    cases j with
    | zero => rfl
    | succ j => exact absurd (blks_mem (k := j) hj ey) (h b ex)
  | succ i =>
    cases j with
    | zero => cases hj; exact absurd (blks_mem (k := i) hi ex) (h b ey)
    | succ j => exact congrArg (· + 1) (t i j x y b hi hj ex ey)
theorem blks_nil : blks [] = [] := rfl
theorem mem_blks {d : Hd} {ds : List Hd} {b : Nat} : b ∈ blks (d :: ds) ↔ d.a = some b ∨ b ∈ blks ds := by
  unfold blks
  rw [List.filterMap_cons]
  cases h : d.a with
  | none => simp
  | some x => simp; exact or_congr_left eq_comm
theorem Alive.lt {S : Mem} {el : TypeId} {hs : List Hd} (h : Alive S el hs) {b : Nat} (hb : b ∈ blks hs) : b < S.length := by
  obtain ⟨k, d, h1, h2⟩ := blks_at hb
  obtain ⟨_, l, h3⟩ := h k d h1
  exact h3.lt h2
theorem apart_BK {M0 S : Mem} {rb : Nat} {ws bs : List Hd} (hK : BK M0 S rb ws bs) (hn : ws.length < 1000000 ∧ bs.length < 1000000) (hAws : Alive M0 56 ws) (hAbs : Alive M0 5 bs) (hOws : Own ws) (hObs : Own bs) (hdd : ∀ b ∈ blks ws, b ∉ blks bs) :
    C Try.prog G Ext 15 [.pointer (some ⟨rb, 0, none⟩)] S fun v S' => v = .bool true ∧ KeepL (blks ws ++ blks bs) M0 S' := by
  obtain ⟨hc, ps, hB, hp⟩ := hK
  obtain ⟨v, S', h1, h2, h3⟩ := apart_C (G := G) (Ext := Ext) S rb ws bs ps hB hn (hAws.keep (hc.keepL []) (by simp)) (hAbs.keep (hc.keepL []) (by simp)) hOws hObs (fun b hb hm => by have := hAws.lt hb; have := hp b hm; omega) (fun b hb hm => by have := hAbs.lt hb; have := hp b hm; omega) hdd
  exact ⟨v, S', h1, h2, (hc.keepL _).trans h3⟩
end Go.Proofs.Ytccdlijohkljcaa

/- Keys: compared, lent, kept. Conditions: none. -/
set_option linter.unusedSimpArgs false
set_option linter.unusedVariables false
set_option maxRecDepth 100000
namespace Go.Proofs.Ytccdlijohkljcaa
open Go
variable {G : Nat} {Ext : FuncId → List Value → Mem → Outc → Mem → Prop}

def keyV (u v : Value) : Value := .agg #[u, v]
def keyR (u v : Value) : Row := newR [u, v] 26
theorem sameKey_C (a1 a2 a3 a4 : Option Addr) (n1 n2 n3 n4 c1 c2 c3 c4 : Nat) (l1 l2 m1 m2 : WL) (S : Mem) (h1 : Slv S 1 (.slice a1 n1 c1) n1 (wv l1)) (h2 : Slv S 1 (.slice a2 n2 c2) n2 (wv l2)) (h3 : Slv S 1 (.slice a3 n3 c3) n3 (wv m1)) (h4 : Slv S 1 (.slice a4 n4 c4) n4 (wv m2))
    (k1 : n1 < 1099511627776) (k2 : n2 < 1099511627776) (k3 : n3 < 1099511627776) (k4 : n4 < 1099511627776) :
    C Try.prog G Ext 13 [keyV (.slice a1 n1 c1) (.slice a2 n2 c2), keyV (.slice a3 n3 c3) (.slice a4 n4 c4)] S fun v S' => v = .bool (l1 == m1 && l2 == m2) ∧ Cons S S' := by
  refine C.fn Try.func13 rfl (by kernel_rfl) rfl ?_
  repeat (first | refine W.seq ?_ | refine W.block ?_ | refine W.reg ?_ | refine W.skip ?_ | refine W.exit ?_ | refine W.ret ?_ | refine L.nil ?_ | refine L.p rfl rfl ?_ | refine L.skip rfl ?_)
  refine L.eff (v := .pointer (some ⟨S.length, 0, none⟩)) (S1 := S ++ [keyR (.slice a1 n1 c1) (.slice a2 n2 c2)]) rfl rfl ?_
  have hC : Cons S (S ++ [keyR (.slice a1 n1 c1) (.slice a2 n2 c2)]) := Cons.push _ _
  have hr : Mem.row? (S ++ [keyR (.slice a1 n1 c1) (.slice a2 n2 c2)]) S.length = some (keyR (.slice a1 n1 c1) (.slice a2 n2 c2)) := row_push_new rfl
  generalize S ++ [keyR (.slice a1 n1 c1) (.slice a2 n2 c2)] = K at *
  refine L.eff (v := .pointer (some ⟨K.length, 0, none⟩)) (S1 := K ++ [keyR (.slice a3 n3 c3) (.slice a4 n4 c4)]) rfl rfl ?_
  have hC2 : Cons K (K ++ [keyR (.slice a3 n3 c3) (.slice a4 n4 c4)]) := Cons.push _ _
  have hr2 : Mem.row? (K ++ [keyR (.slice a3 n3 c3) (.slice a4 n4 c4)]) K.length = some (keyR (.slice a3 n3 c3) (.slice a4 n4 c4)) := row_push_new rfl
  have hr1 := Cons.row (h := hC2) hr
  generalize K ++ [keyR (.slice a3 n3 c3) (.slice a4 n4 c4)] = M at *
  have hM := hC.trans hC2
  repeat (first | refine W.seq ?_ | refine W.block ?_ | refine W.reg ?_ | refine W.skip ?_ | refine W.exit ?_ | refine W.ret ?_ | refine L.nil ?_ | refine L.p rfl rfl ?_ | refine L.skip rfl ?_)
  refine L.ld (a := ⟨S.length, 0, none⟩) (v := .slice a1 n1 c1) (cell_of hr1 rfl (.inl rfl)) rfl rfl rfl ?_
  repeat (first | refine W.seq ?_ | refine W.block ?_ | refine W.reg ?_ | refine W.skip ?_ | refine W.exit ?_ | refine W.ret ?_ | refine L.nil ?_ | refine L.p rfl rfl ?_ | refine L.skip rfl ?_)
  refine L.ld (a := ⟨K.length, 0, none⟩) (v := .slice a3 n3 c3) (cell_of hr2 rfl (.inl rfl)) rfl rfl rfl ?_
  repeat (first | refine W.seq ?_ | refine W.block ?_ | refine W.reg ?_ | refine W.skip ?_ | refine W.exit ?_ | refine W.ret ?_ | refine L.nil ?_ | refine L.p rfl rfl ?_ | refine L.skip rfl ?_)
  refine L.cl (sameW_C _ _ l1 m1 n1 n3 M (h1.cons hM) (h3.cons hM) k1 k3) rfl rfl ?_
  rintro _ _ ⟨rfl, hS⟩
  have hS2 := hS.symm
  subst hS2
  clear hS
  refine ⟨nofun, ?_⟩
  repeat (first | refine W.seq ?_ | refine W.block ?_ | refine W.reg ?_ | refine W.skip ?_ | refine W.exit ?_ | refine W.ret ?_ | refine L.nil ?_ | refine L.p rfl rfl ?_ | refine L.skip rfl ?_)
  cases hq : (l1 == m1)
  · repeat (first | refine W.seq ?_ | refine W.block ?_ | refine W.reg ?_ | refine W.skip ?_ | refine W.exit ?_ | refine W.ret ?_ | refine L.nil ?_ | refine L.p rfl rfl ?_ | refine L.skip rfl ?_)
    exact ⟨.inr rfl, _, rfl, rfl, hM⟩
  repeat (first | refine W.seq ?_ | refine W.block ?_ | refine W.reg ?_ | refine W.skip ?_ | refine W.exit ?_ | refine W.ret ?_ | refine L.nil ?_ | refine L.p rfl rfl ?_ | refine L.skip rfl ?_)
  refine L.ld (a := ⟨S.length, 1, none⟩) (v := .slice a2 n2 c2) (cell_of hr1 rfl (.inl rfl)) rfl rfl rfl ?_
  repeat (first | refine W.seq ?_ | refine W.block ?_ | refine W.reg ?_ | refine W.skip ?_ | refine W.exit ?_ | refine W.ret ?_ | refine L.nil ?_ | refine L.p rfl rfl ?_ | refine L.skip rfl ?_)
  refine L.ld (a := ⟨K.length, 1, none⟩) (v := .slice a4 n4 c4) (cell_of hr2 rfl (.inl rfl)) rfl rfl rfl ?_
  repeat (first | refine W.seq ?_ | refine W.block ?_ | refine W.reg ?_ | refine W.skip ?_ | refine W.exit ?_ | refine W.ret ?_ | refine L.nil ?_ | refine L.p rfl rfl ?_ | refine L.skip rfl ?_)
  refine L.cl (sameW_C _ _ l2 m2 n2 n4 M (h2.cons hM) (h4.cons hM) k2 k4) rfl rfl ?_
  rintro _ _ ⟨rfl, hS⟩
  have hS2 := hS.symm
  subst hS2
  clear hS
  refine ⟨nofun, ?_⟩
  repeat (first | refine W.seq ?_ | refine W.block ?_ | refine W.reg ?_ | refine W.skip ?_ | refine W.exit ?_ | refine W.ret ?_ | refine L.nil ?_ | refine L.p rfl rfl ?_ | refine L.skip rfl ?_)
  exact ⟨.inr rfl, _, rfl, by rw [Bool.true_and]; rfl, hM⟩
/-- a list that is lent: its row -/
def LentW (S : Mem) (b : Nat) (l : WL) : Prop := S.row? b = some (grownR (wv (l ++ marksW 16)) 56 1)
def lentV (b : Nat) (l : WL) : Value := .slice (some ⟨b, 0, none⟩) l.length (UNK + (l.length + 16))
theorem LentW.slv {S : Mem} {b : Nat} {l : WL} (h : LentW S b l) : Slv S 1 (lentV b l) l.length (wv l) := by
  have := Slv.of (sz := 1) (n := l.length) (o := 0) (c := UNK + (l.length + 16)) h (by simp [grownR, wv]) (.inl rfl)
  rwa [List.drop_zero, show ((grownR (wv (l ++ marksW 16)) 56 1).cells.take (l.length * 1)) = wv l by simp [grownR, wv]] at this
theorem lentKey_C (v1 v2 : Value) (l1 l2 : WL) (S : Mem) (h1 : Slv S 1 v1 l1.length (wv l1)) (h2 : Slv S 1 v2 l2.length (wv l2)) (n1 : l1.length < 4294967296) (n2 : l2.length < 4294967296) :
    C Try.prog G Ext 18 [keyV v1 v2] S fun v S' => Cons S S' ∧ ∃ b1 b2, v = keyV (lentV b1 l1) (lentV b2 l2) ∧ S.length ≤ b1 ∧ S.length ≤ b2 ∧ b1 ≠ b2 ∧ LentW S' b1 l1 ∧ LentW S' b2 l2 := by
  obtain ⟨_, a1, c1, rfl, _⟩ := id h1
  obtain ⟨_, a2, c2, rfl, _⟩ := id h2
  refine C.fn Try.func18 rfl (by kernel_rfl) rfl ?_
  repeat (first | refine W.seq ?_ | refine W.block ?_ | refine W.reg ?_ | refine W.skip ?_ | refine W.exit ?_ | refine W.ret ?_ | refine L.nil ?_ | refine L.p rfl rfl ?_ | refine L.skip rfl ?_)
  refine L.eff (v := .pointer (some ⟨S.length, 0, none⟩)) (S1 := S ++ [keyR (.slice a1 l1.length c1) (.slice a2 l2.length c2)]) rfl rfl ?_
  have hC : Cons S (S ++ [keyR (.slice a1 l1.length c1) (.slice a2 l2.length c2)]) := Cons.push _ _
  have hr : Mem.row? (S ++ [keyR (.slice a1 l1.length c1) (.slice a2 l2.length c2)]) S.length = some (keyR (.slice a1 l1.length c1) (.slice a2 l2.length c2)) := row_push_new rfl
  generalize S ++ [keyR (.slice a1 l1.length c1) (.slice a2 l2.length c2)] = K at *
  refine L.eff (v := .pointer (some ⟨K.length, 0, none⟩)) (S1 := K ++ [keyR (.slice none 0 0) (.slice none 0 0)]) rfl rfl ?_
  have hC2 : Cons K (K ++ [keyR (.slice none 0 0) (.slice none 0 0)]) := Cons.push _ _
  have hr2 : Mem.row? (K ++ [keyR (.slice none 0 0) (.slice none 0 0)]) K.length = some (keyR (.slice none 0 0) (.slice none 0 0)) := row_push_new rfl
  have hr1 := Cons.row (h := hC2) hr
  generalize K ++ [keyR (.slice none 0 0) (.slice none 0 0)] = M at *
  have hM := hC.trans hC2
  have hltK := row_lt hr2
  have hltS := row_lt hr
  repeat (first | refine W.seq ?_ | refine W.block ?_ | refine W.reg ?_ | refine W.skip ?_ | refine W.exit ?_ | refine W.ret ?_ | refine L.nil ?_ | refine L.p rfl rfl ?_ | refine L.skip rfl ?_)
  refine L.ld (a := ⟨S.length, 0, none⟩) (v := .slice a1 l1.length c1) (cell_of hr1 rfl (.inl rfl)) rfl rfl rfl ?_
  repeat (first | refine W.seq ?_ | refine W.block ?_ | refine W.reg ?_ | refine W.skip ?_ | refine W.exit ?_ | refine W.ret ?_ | refine L.nil ?_ | refine L.p rfl rfl ?_ | refine L.skip rfl ?_)
  refine L.cl (lentW_C _ l1 M (h1.cons hM) n1) rfl rfl ?_
  rintro _ M1 ⟨k1, b1, hb1, rfl, hw1⟩
  refine ⟨fun _ => k1, ?_⟩
  repeat (first | refine W.seq ?_ | refine W.block ?_ | refine W.reg ?_ | refine W.skip ?_ | refine W.exit ?_ | refine W.ret ?_ | refine L.nil ?_ | refine L.p rfl rfl ?_ | refine L.skip rfl ?_)
  refine L.ld (a := ⟨S.length, 1, none⟩) (v := .slice a2 l2.length c2) (cell_of (Cons.row (h := k1) hr1) rfl (.inl rfl)) rfl rfl rfl ?_
  repeat (first | refine W.seq ?_ | refine W.block ?_ | refine W.reg ?_ | refine W.skip ?_ | refine W.exit ?_ | refine W.ret ?_ | refine L.nil ?_ | refine L.p rfl rfl ?_ | refine L.skip rfl ?_)
  refine L.cl (lentW_C _ l2 M1 ((h2.cons hM).cons k1) n2) rfl rfl ?_
  rintro _ M2 ⟨k2, b2, hb2, rfl, hw2⟩
  refine ⟨fun _ => k2, ?_⟩
  repeat (first | refine W.seq ?_ | refine W.block ?_ | refine W.reg ?_ | refine W.skip ?_ | refine W.exit ?_ | refine W.ret ?_ | refine L.nil ?_ | refine L.p rfl rfl ?_ | refine L.skip rfl ?_)
  refine L.bd #[lentV b1 l1, lentV b2 l2] rfl rfl rfl rfl rfl ?_
  have hrK : M2.row? K.length = some (keyR (.slice none 0 0) (.slice none 0 0)) := Cons.row (h := k1.trans k2) hr2
  have hlb1 := row_lt hw1
  refine L.st (ad := ⟨K.length, 0, none⟩) (vs := [lentV b1 l1, lentV b2 l2]) (write_of (o := 0) hrK rfl (Nat.le_refl 2) rfl) rfl rfl rfl rfl ?_
  have hF1 : Cons S (List.set M2 K.length { keyR (.slice none 0 0) (.slice none 0 0) with cells := putFrom (keyR (.slice none 0 0) (.slice none 0 0)).cells 0 [lentV b1 l1, lentV b2 l2] }) := (hM.trans (k1.trans k2)).set _ _ (by omega)
  have hF2 : Mem.row? (List.set M2 K.length { keyR (.slice none 0 0) (.slice none 0 0) with cells := putFrom (keyR (.slice none 0 0) (.slice none 0 0)).cells 0 [lentV b1 l1, lentV b2 l2] }) K.length = some (keyR (lentV b1 l1) (lentV b2 l2)) := by rw [row_set_same hrK rfl]; rfl
  have hF3 : LentW (List.set M2 K.length { keyR (.slice none 0 0) (.slice none 0 0) with cells := putFrom (keyR (.slice none 0 0) (.slice none 0 0)).cells 0 [lentV b1 l1, lentV b2 l2] }) b1 l1 := by
    unfold LentW; rw [row_set_other _ (by omega)]; exact Cons.row (h := k2) hw1
  have hF4 : LentW (List.set M2 K.length { keyR (.slice none 0 0) (.slice none 0 0) with cells := putFrom (keyR (.slice none 0 0) (.slice none 0 0)).cells 0 [lentV b1 l1, lentV b2 l2] }) b2 l2 := by
    unfold LentW; rw [row_set_other _ (by have := k1.len; omega)]; exact hw2
  generalize List.set M2 K.length _ = F at *
  repeat (first | refine W.seq ?_ | refine W.block ?_ | refine W.reg ?_ | refine W.skip ?_ | refine W.exit ?_ | refine W.ret ?_ | refine L.nil ?_ | refine L.p rfl rfl ?_ | refine L.skip rfl ?_)
  refine ⟨.inr rfl, keyV (lentV b1 l1) (lentV b2 l2), ?_, hF1, b1, b2, rfl, by have := hM.len; omega, by have := hM.len; have := k1.len; omega, by omega, hF3, hF4⟩
  have h1 : aloadAt Try.prog 26 (.pointer (some ⟨K.length, 0, none⟩)) F = some (.agg #[lentV b1 l1, lentV b2 l2]) := aload_agg rfl rfl (cellsAt_of (o := 0) (n := 2) hF2 (Nat.le_refl 2))
  exact h1
theorem keptKey_C (v1 v2 : Value) (b1 b2 : Nat) (l1 l2 : WL) (S : Mem) (w1 : LentW S b1 l1) (w2 : LentW S b2 l2) (h1 : Slv S 1 v1 l1.length (wv l1)) (h2 : Slv S 1 v2 l2.length (wv l2)) (n1 : l1.length < 4294967296) (n2 : l2.length < 4294967296) :
    C Try.prog G Ext 23 [keyV (lentV b1 l1) (lentV b2 l2), keyV v1 v2] S fun v S' => v = .bool true ∧ Cons S S' := by
  obtain ⟨_, a1, c1, rfl, _⟩ := id h1
  obtain ⟨_, a2, c2, rfl, _⟩ := id h2
  refine C.fn Try.func23 rfl (by kernel_rfl) rfl ?_
  repeat (first | refine W.seq ?_ | refine W.block ?_ | refine W.reg ?_ | refine W.skip ?_ | refine W.exit ?_ | refine W.ret ?_ | refine L.nil ?_ | refine L.p rfl rfl ?_ | refine L.skip rfl ?_)
  refine L.eff (v := .pointer (some ⟨S.length, 0, none⟩)) (S1 := S ++ [keyR (lentV b1 l1) (lentV b2 l2)]) rfl rfl ?_
  have hC : Cons S (S ++ [keyR (lentV b1 l1) (lentV b2 l2)]) := Cons.push _ _
  have hr : Mem.row? (S ++ [keyR (lentV b1 l1) (lentV b2 l2)]) S.length = some (keyR (lentV b1 l1) (lentV b2 l2)) := row_push_new rfl
  generalize S ++ [keyR (lentV b1 l1) (lentV b2 l2)] = K at *
  refine L.eff (v := .pointer (some ⟨K.length, 0, none⟩)) (S1 := K ++ [keyR (.slice a1 l1.length c1) (.slice a2 l2.length c2)]) rfl rfl ?_
  have hC2 : Cons K (K ++ [keyR (.slice a1 l1.length c1) (.slice a2 l2.length c2)]) := Cons.push _ _
  have hr2 : Mem.row? (K ++ [keyR (.slice a1 l1.length c1) (.slice a2 l2.length c2)]) K.length = some (keyR (.slice a1 l1.length c1) (.slice a2 l2.length c2)) := row_push_new rfl
  have hr1 := Cons.row (h := hC2) hr
  generalize K ++ [keyR (.slice a1 l1.length c1) (.slice a2 l2.length c2)] = M at *
  have hM := hC.trans hC2
  repeat (first | refine W.seq ?_ | refine W.block ?_ | refine W.reg ?_ | refine W.skip ?_ | refine W.exit ?_ | refine W.ret ?_ | refine L.nil ?_ | refine L.p rfl rfl ?_ | refine L.skip rfl ?_)
  refine L.ld (a := ⟨S.length, 0, none⟩) (v := lentV b1 l1) (cell_of hr1 rfl (.inl rfl)) rfl rfl rfl ?_
  repeat (first | refine W.seq ?_ | refine W.block ?_ | refine W.reg ?_ | refine W.skip ?_ | refine W.exit ?_ | refine W.ret ?_ | refine L.nil ?_ | refine L.p rfl rfl ?_ | refine L.skip rfl ?_)
  refine L.ld (a := ⟨K.length, 0, none⟩) (v := .slice a1 l1.length c1) (cell_of hr2 rfl (.inl rfl)) rfl rfl rfl ?_
  repeat (first | refine W.seq ?_ | refine W.block ?_ | refine W.reg ?_ | refine W.skip ?_ | refine W.exit ?_ | refine W.ret ?_ | refine L.nil ?_ | refine L.p rfl rfl ?_ | refine L.skip rfl ?_)
  refine L.cl (keptW_C _ l1 b1 _ M (Cons.row (h := hM) w1) rfl rfl (h1.cons hM) n1) rfl rfl ?_
  rintro _ _ ⟨rfl, hS⟩
  have hS2 := hS.symm
  subst hS2
  clear hS
  refine ⟨nofun, ?_⟩
  repeat (first | refine W.seq ?_ | refine W.block ?_ | refine W.reg ?_ | refine W.skip ?_ | refine W.exit ?_ | refine W.ret ?_ | refine L.nil ?_ | refine L.p rfl rfl ?_ | refine L.skip rfl ?_)
  refine L.ld (a := ⟨S.length, 1, none⟩) (v := lentV b2 l2) (cell_of hr1 rfl (.inl rfl)) rfl rfl rfl ?_
  repeat (first | refine W.seq ?_ | refine W.block ?_ | refine W.reg ?_ | refine W.skip ?_ | refine W.exit ?_ | refine W.ret ?_ | refine L.nil ?_ | refine L.p rfl rfl ?_ | refine L.skip rfl ?_)
  refine L.ld (a := ⟨K.length, 1, none⟩) (v := .slice a2 l2.length c2) (cell_of hr2 rfl (.inl rfl)) rfl rfl rfl ?_
  repeat (first | refine W.seq ?_ | refine W.block ?_ | refine W.reg ?_ | refine W.skip ?_ | refine W.exit ?_ | refine W.ret ?_ | refine L.nil ?_ | refine L.p rfl rfl ?_ | refine L.skip rfl ?_)
  refine L.cl (keptW_C _ l2 b2 _ M (Cons.row (h := hM) w2) rfl rfl (h2.cons hM) n2) rfl rfl ?_
  rintro _ _ ⟨rfl, hS⟩
  have hS2 := hS.symm
  subst hS2
  clear hS
  refine ⟨nofun, ?_⟩
  repeat (first | refine W.seq ?_ | refine W.block ?_ | refine W.reg ?_ | refine W.skip ?_ | refine W.exit ?_ | refine W.ret ?_ | refine L.nil ?_ | refine L.p rfl rfl ?_ | refine L.skip rfl ?_)
  exact ⟨.inr rfl, _, rfl, rfl, hM⟩
end Go.Proofs.Ytccdlijohkljcaa

/- A book takes a key. Conditions: none. -/
set_option linter.unusedSimpArgs false
set_option linter.unusedVariables false
set_option maxRecDepth 100000
namespace Go.Proofs.Ytccdlijohkljcaa
open Go
variable {G : Nat} {Ext : FuncId → List Value → Mem → Outc → Mem → Prop}

/-- only what is there may be its own -/
theorem Book.trim {S : Mem} {rb : Nat} {ws bs : List Hd} {ps : List Nat} (h : Book S rb ws bs ps) : Book S rb ws bs (ps.filter (· < S.length)) := by
  obtain ⟨hw, hb, h1, h2, h3, h4, h5, h6⟩ := h
  refine ⟨hw, hb, h1, h2, h3, by simp [h4, row_lt h1], fun b e => ⟨by simp [(h5 b e).1, h2.lt e], (h5 b e).2⟩, fun b e => ⟨by simp [(h6 b e).1, h3.lt e], (h6 b e).2⟩⟩
theorem bookKey_C (S : Mem) (d1 d2 : Hd) (rb : Nat) (ws bs : List Hd) (ps : List Nat) (hB : Book S rb ws bs ps) (hn : ws.length < 900000) :
    C Try.prog G Ext 14 [.pointer (some ⟨rb, 0, none⟩), keyV d1.v d2.v] S fun v S' => ∃ ps', Book S' rb (ws ++ [d1] ++ [d2]) bs ps' ∧ Sub2 S ps ps' ∧ KeepL ps S S' := by
  refine C.fn Try.func14 rfl (by kernel_rfl) rfl ?_
  repeat (first | refine W.seq ?_ | refine W.block ?_ | refine W.reg ?_ | refine W.skip ?_ | refine W.exit ?_ | refine W.ret ?_ | refine L.nil ?_ | refine L.p rfl rfl ?_ | refine L.skip rfl ?_)
  refine L.eff (v := .pointer (some ⟨S.length, 0, none⟩)) (S1 := S ++ [keyR d1.v d2.v]) rfl rfl ?_
  have hC : Cons S (S ++ [keyR d1.v d2.v]) := Cons.push _ _
  have hr : Mem.row? (S ++ [keyR d1.v d2.v]) S.length = some (keyR d1.v d2.v) := row_push_new rfl
  have hlK : (S ++ [keyR d1.v d2.v]).length = S.length + 1 := by simp
  generalize S ++ [keyR d1.v d2.v] = K at *
  have hB1 := hB.trim.cons hC
  have hsub : ∀ r ∈ ps.filter (· < S.length), r ∈ ps ∧ r < S.length := fun r hm => by simpa using hm
  repeat (first | refine W.seq ?_ | refine W.block ?_ | refine W.reg ?_ | refine W.skip ?_ | refine W.exit ?_ | refine W.ret ?_ | refine L.nil ?_ | refine L.p rfl rfl ?_ | refine L.skip rfl ?_)
  refine L.ld (a := ⟨S.length, 0, none⟩) (v := d1.v) (cell_of hr rfl (.inl rfl)) rfl rfl rfl ?_
  repeat (first | refine W.seq ?_ | refine W.block ?_ | refine W.reg ?_ | refine W.skip ?_ | refine W.exit ?_ | refine W.ret ?_ | refine L.nil ?_ | refine L.p rfl rfl ?_ | refine L.skip rfl ?_)
  refine L.cl (words_C K d1 rb ws bs _ hB1 (by omega)) rfl rfl ?_
  rintro _ K1 ⟨ps1, q1, q2, q3⟩
  refine ⟨nofun, ?_⟩
  have hr1 := q3.row hr (fun hm => by have := (hsub _ hm).2; omega)
  repeat (first | refine W.seq ?_ | refine W.block ?_ | refine W.reg ?_ | refine W.skip ?_ | refine W.exit ?_ | refine W.ret ?_ | refine L.nil ?_ | refine L.p rfl rfl ?_ | refine L.skip rfl ?_)
  refine L.ld (a := ⟨S.length, 1, none⟩) (v := d2.v) (cell_of hr1 rfl (.inl rfl)) rfl rfl rfl ?_
  repeat (first | refine W.seq ?_ | refine W.block ?_ | refine W.reg ?_ | refine W.skip ?_ | refine W.exit ?_ | refine W.ret ?_ | refine L.nil ?_ | refine L.p rfl rfl ?_ | refine L.skip rfl ?_)
  refine L.cl (words_C K1 d2 rb _ bs ps1 q1 (by simp; omega)) rfl rfl ?_
  rintro _ K2 ⟨ps2, u1, u2, u3⟩
  refine ⟨nofun, ?_⟩
  repeat (first | refine W.seq ?_ | refine W.block ?_ | refine W.reg ?_ | refine W.skip ?_ | refine W.exit ?_ | refine W.ret ?_ | refine L.nil ?_ | refine L.p rfl rfl ?_ | refine L.skip rfl ?_)
  refine ⟨.inl rfl, _, rfl, ps2, u1, fun r hm => ?_, ?_⟩
  · rcases u2 r hm with h | h
    · rcases q2 r h with h | h
      · exact .inl (hsub r h).1
      · exact .inr (by omega)
    · exact .inr (by have := q3.1; omega)
  · have k1 : KeepL ps S K1 := ((hC.keepL ps).trans (q3.mono fun r hm => (hsub r hm).1))
    refine k1.then u3 fun r hm => ?_
    rcases q2 r hm with h | h
    · exact .inl (hsub r h).1
    · exact .inr (by omega)
theorem key_BK {M0 S : Mem} {rb : Nat} {ws bs : List Hd} (d1 d2 : Hd) (hK : BK M0 S rb ws bs) (hn : ws.length < 900000) : C Try.prog G Ext 14 [.pointer (some ⟨rb, 0, none⟩), keyV d1.v d2.v] S fun v S' => BK M0 S' rb (ws ++ [d1] ++ [d2]) bs := by
  obtain ⟨hc, ps, hB, hp⟩ := hK
  obtain ⟨v, S', h1, ps', q1, q2, q3⟩ := bookKey_C (G := G) (Ext := Ext) S d1 d2 rb ws bs ps hB hn
  exact ⟨v, S', h1, .step hc hp q1 q2 q3⟩
end Go.Proofs.Ytccdlijohkljcaa

/- Layer 7: what the laws share. Conditions: none. -/
set_option linter.unusedSimpArgs false
set_option linter.unusedVariables false
set_option maxRecDepth 100000
namespace Go.Proofs.Ytccdlijohkljcaa
open Go
variable {G : Nat} {Ext : FuncId → List Value → Mem → Outc → Mem → Prop}

theorem set_push' (S : Mem) (x y : Row) : List.set (S ++ [x]) S.length y = S ++ [y] := by rw [List.set_append_right _ _ (Nat.le_refl _)]; simp
/-- a variable that holds a key -/
theorem key_write (S : Mem) (u v : Value) (h : oneCell u = true) (h' : oneCell v = true) : Mem.write (S ++ [newR [nilV, nilV] 26]) ⟨S.length, 0, none⟩ [u, v] = some (S ++ [keyR u v]) := by
  rw [write_of (o := 0) (l := [u, v]) (row_push_new (x := newR [nilV, nilV] 26) rfl) rfl (Nat.le_refl 2) (by simp [h, h']), set_push']
  rfl
theorem key_load {S : Mem} {b : Nat} {u v : Value} (hr : S.row? b = some (keyR u v)) : S.cellsAt ⟨b, 0, none⟩ 2 = some [u, v] := by
  unfold Mem.cellsAt
  simp only [hr]
  rw [if_pos ⟨trivial, by simp [keyR, newR], .inl rfl⟩]
  rfl
theorem RetW.win {S S' : Mem} {d : Hd} {l : WL} (h : RetW S S' d l) : WIn S' d.ad d.c l := h.own.1.1
theorem BIn.lent {S : Mem} {b : Nat} {l x : BL} (h : S.row? b = some (grownR (bv (l ++ x)) 5 1)) (hx : x.length = 16) (hl : l.length < 1099511627776) : BIn S (some ⟨b, 0, none⟩) (UNK + (l.length + 16)) l := by
  refine ⟨?_, .inr ⟨by omega, by rw [knownCap_unk]; omega⟩, hl⟩
  have := Slv.of (sz := 1) (n := l.length) (o := 0) (c := UNK + (l.length + 16)) h (by simp [grownR, bv_len]) (.inl rfl)
  rwa [show ((grownR (bv (l ++ x)) 5 1).cells.drop 0).take (l.length * 1) = bv l by
    show ((bv (l ++ x)).drop 0).take _ = _
    rw [List.drop_zero, Nat.mul_one, bv_app, List.take_append_of_le_length (by rw [bv_len]; exact Nat.le_refl _), List.take_of_length_le (by rw [bv_len]; exact Nat.le_refl _)]] at this
theorem BIn.fresh (S : Mem) (l : BL) (hl : l.length < 1099511627776) : BIn (S ++ [newR (bv l) 5]) (some ⟨S.length, 0, none⟩) l.length l :=
  ⟨Slv.all (row_push_new rfl) rfl (by simp [newR, bv_len]), .inl ⟨by unfold UNK; omega, Nat.le_refl _⟩, hl⟩
theorem bytes_of (zs : List Int) (len : Nat) (hwf : ∀ n ∈ zs, (Lit.int .u8 n).wf = true) (hl : (zs.take len).length = len) : ∃ l : BL, l.length = len ∧ bv l = (zs.take len).map (Value.int .u8) := by
  refine ⟨(zs.take len).map (BitVec.ofInt 8), by rw [List.length_map, hl], ?_⟩
  unfold bv
  rw [List.map_map]
  refine List.map_congr_left fun n hn => ?_
  have h := hwf n (List.mem_of_mem_take hn)
  have hx : 0 ≤ n ∧ n ≤ 255 := by simpa [Lit.wf, IntKind.min, IntKind.max, IntKind.signed, IntKind.bits] using h
  show v8 (BitVec.ofInt 8 n) = _
  rw [v8, ← wrap_u8, wrapU8 (by omega) (by omega)]
theorem words_of (zs : List Int) (len : Nat) (hwf : ∀ n ∈ zs, (Lit.int .u64 n).wf = true) (hl : (zs.take len).length = len) : ∃ l : WL, l.length = len ∧ wv l = (zs.take len).map (Value.int .u64) := by
  refine ⟨(zs.take len).map (BitVec.ofInt 64), by rw [List.length_map, hl], ?_⟩
  unfold wv
  rw [List.map_map]
  refine List.map_congr_left fun n hn => ?_
  have h := hwf n (List.mem_of_mem_take hn)
  have hx : 0 ≤ n ∧ n ≤ 18446744073709551615 := by simpa [Lit.wf, IntKind.min, IntKind.max, IntKind.signed, IntKind.bits] using h
  show v64 (BitVec.ofInt 64 n) = _
  rw [v64, ← wrap_u64, wrapU64 (by omega) (by omega)]
def okIs {α : Type} [DecidableEq α] (r : Except Int α) (x : α) : Bool := match r with
  | .ok y => decide (y = x)
  | .error _ => false
theorem of_okIs {α : Type} [DecidableEq α] {r : Except Int α} {x : α} (h : okIs r x = true) : r = .ok x := by
  unfold okIs at h
  split at h
  · rw [of_decide_eq_true h]
  · cases h
def errIs {α : Type} (r : Except Int α) (x : Int) : Bool := match r with
  | .ok _ => false
  | .error y => decide (y = x)
theorem of_errIs {α : Type} {r : Except Int α} {x : Int} (h : errIs r x = true) : r = .error x := by
  unfold errIs at h
  split at h
  · cases h
  · rw [of_decide_eq_true h]
def wb : BL := [48#8, 7#8, 2#8, 2#8, 0#8, 128#8, 2#8, 1#8, 3#8]
theorem wb_key : keyS wb = .ok ([128#64], [3#64]) := of_okIs (by decide +kernel)
theorem wb_enc : encL [128#64] [3#64] = wb := by decide +kernel
theorem wb_bad : ¬ encBad [128#64] [3#64] := by decide +kernel
theorem wb_short : keyS (wb.take 8) = .error 70 := of_errIs (by decide +kernel)
theorem wb_item : itemV [48#8, 129#8, 127#8] 0 = .tuple #[.int .u8 0, .int .i64 0, .int .i64 0, .int .i64 72] := by
  unfold itemV
  rw [if_neg (by decide), show itemS (List.drop (Int.toNat 0) [48#8, 129#8, 127#8]) = .error 72 from of_errIs (by decide +kernel)]
end Go.Proofs.Ytccdlijohkljcaa

/- Layer 7: the short calls that stand in each statement. Conditions: none. -/
set_option linter.unusedSimpArgs false
set_option linter.unusedVariables false
set_option maxRecDepth 100000
set_option maxHeartbeats 4000000
namespace Go.Proofs.Ytccdlijohkljcaa
open Go
variable {G : Nat}

theorem works_C (S : Mem) : C Try.prog G (Known Try.prog G) 17 [] S fun v S' => v = .bool true ∧ Cons S S' := by
  refine C.fn Try.func17 rfl (by kernel_rfl) rfl ?_
  repeat (first | refine W.seq ?_ | refine W.block ?_ | refine W.reg ?_ | refine W.skip ?_ | refine W.exit ?_ | refine W.ret ?_ | refine L.nil ?_ | refine L.p rfl rfl ?_ | refine L.skip rfl ?_)
  refine L.bs (bv wb) rfl rfl rfl rfl rfl rfl ?_
  have hc1 : Cons S (S ++ [newR (bv wb) 5]) := Cons.push _ _
  have hI := BIn.fresh S wb (by decide)
  generalize S ++ [newR (bv wb) 5] = M1 at *
  generalize S.length = rb at *
  repeat (first | refine W.seq ?_ | refine W.block ?_ | refine W.reg ?_ | refine W.skip ?_ | refine W.exit ?_ | refine W.ret ?_ | refine L.nil ?_ | refine L.p rfl rfl ?_ | refine L.skip rfl ?_)
  refine L.cl (decode_C _ 9 wb M1 hI) rfl rfl ?_
  rintro v M2 hR
  unfold KeyR at hR
  rw [wb_key] at hR
  obtain ⟨d1, d2, rfl, r1, r2, hap⟩ := hR
  refine ⟨nofun, ?_⟩
  have hc2 := r1.1
  have e1 := r1.own.2
  have e2 := r2.own.2
  have w1 := r1.win
  have w2 := r2.win
  rw [e1, e2]
  repeat (first | refine W.seq ?_ | refine W.block ?_ | refine W.reg ?_ | refine W.skip ?_ | refine W.exit ?_ | refine W.ret ?_ | refine L.nil ?_ | refine L.p rfl rfl ?_ | refine L.skip rfl ?_)
  refine L.eff (v := .pointer (some ⟨M2.length, 0, none⟩)) (S1 := M2 ++ [newR [nilV, nilV] 26]) rfl rfl ?_
  refine L.st (ad := ⟨M2.length, 0, none⟩) (vs := [.slice d1.ad 1 d1.c, .slice d2.ad 1 d2.c]) (key_write M2 _ _ rfl rfl) rfl rfl rfl rfl ?_
  have hr3 : Mem.row? (M2 ++ [keyR (.slice d1.ad 1 d1.c) (.slice d2.ad 1 d2.c)]) M2.length = some (keyR (.slice d1.ad 1 d1.c) (.slice d2.ad 1 d2.c)) := row_push_new rfl
  have hk3 := hc2.pushr (keyR (.slice d1.ad 1 d1.c) (.slice d2.ad 1 d2.c))
  have hc3 := (hc1.trans hc2).pushr (keyR (.slice d1.ad 1 d1.c) (.slice d2.ad 1 d2.c))
  have w1 := w1.cons (Cons.push M2 (keyR (.slice d1.ad 1 d1.c) (.slice d2.ad 1 d2.c)))
  have w2 := w2.cons (Cons.push M2 (keyR (.slice d1.ad 1 d1.c) (.slice d2.ad 1 d2.c)))
  generalize M2 ++ [keyR (.slice d1.ad 1 d1.c) (.slice d2.ad 1 d2.c)] = M3 at *
  generalize M2.length = rk at *
  repeat (first | refine W.seq ?_ | refine W.block ?_ | refine W.reg ?_ | refine W.skip ?_ | refine W.exit ?_ | refine W.ret ?_ | refine L.nil ?_ | refine L.p rfl rfl ?_ | refine L.skip rfl ?_)
  refine L.ldA (a := ⟨rk, 0, none⟩) (key_load hr3) rfl rfl rfl ?_
  refine L.cl (encode_C d1.ad d2.ad d1.c d2.c [128#64] [3#64] M3 w1 w2) rfl rfl ?_
  rintro v M4 hR
  unfold EncR at hR
  rw [if_neg wb_bad, wb_enc] at hR
  obtain ⟨d3, rfl, r3⟩ := hR
  refine ⟨nofun, ?_⟩
  have hc4 := r3.1
  have hr4 := hc4.row' hr3
  have o3 := r3.2.2.1.bin r3.2.1
  rw [o3.2]
  have hB3 := o3.1
  have hI4 := hI.cons (hk3.trans hc4)
  have w1 := w1.cons hc4
  have w2 := w2.cons hc4
  repeat (first | refine W.seq ?_ | refine W.block ?_ | refine W.reg ?_ | refine W.skip ?_ | refine W.exit ?_ | refine W.ret ?_ | refine L.nil ?_ | refine L.p rfl rfl ?_ | refine L.skip rfl ?_)
  obtain ⟨a5, c5, q1, q2⟩ := hI4.partT (k := 0) (h := 8) (lo := none) (hi := some (.int .i64 8)) (.inl ⟨rfl, rfl⟩) (.inr ⟨.i64, rfl⟩) (Nat.zero_le _) (by decide)
  have hq : some (Value.slice _ _ _) = some (Value.slice a5 8 c5) := q1
  simp only [Option.some.injEq, Value.slice.injEq] at hq
  obtain ⟨rfl, _, rfl⟩ := hq
  refine L.cl (decode_C _ _ (wb.take 8) M4 (q2 _ hI4)) rfl rfl ?_
  rintro v M5 hR
  unfold KeyR at hR
  rw [wb_short] at hR
  obtain ⟨rfl, hc5⟩ := hR
  refine ⟨nofun, ?_⟩
  repeat (first | refine W.seq ?_ | refine W.block ?_ | refine W.reg ?_ | refine W.skip ?_ | refine W.exit ?_ | refine W.ret ?_ | refine L.nil ?_ | refine L.p rfl rfl ?_ | refine L.skip rfl ?_)
  refine L.eff (v := .pointer (some ⟨M5.length, 0, none⟩)) (S1 := M5 ++ [newR [nilV, nilV] 26]) rfl rfl ?_
  refine L.st (ad := ⟨M5.length, 0, none⟩) (vs := [nilV, nilV]) (key_write M5 _ _ rfl rfl) rfl rfl rfl rfl ?_
  have hc5 := hc5.pushr (keyR nilV nilV)
  generalize M5 ++ [keyR nilV nilV] = M6 at *
  generalize M5.length = rl at *
  repeat (first | refine W.seq ?_ | refine W.block ?_ | refine W.reg ?_ | refine W.skip ?_ | refine W.exit ?_ | refine W.ret ?_ | refine L.nil ?_ | refine L.p rfl rfl ?_ | refine L.skip rfl ?_)
  refine L.bs (bv [48#8, 129#8, 127#8]) rfl rfl rfl rfl rfl rfl ?_
  have hc6 := hc5.pushr (newR (bv [48#8, 129#8, 127#8]) 5)
  have hI6 := BIn.fresh M6 [48#8, 129#8, 127#8] (by decide)
  generalize M6 ++ [newR (bv [48#8, 129#8, 127#8]) 5] = M7 at *
  generalize M6.length = rm at *
  repeat (first | refine W.seq ?_ | refine W.block ?_ | refine W.reg ?_ | refine W.skip ?_ | refine W.exit ?_ | refine W.ret ?_ | refine L.nil ?_ | refine L.p rfl rfl ?_ | refine L.skip rfl ?_)
  refine L.cl (itemPub_C _ 3 [48#8, 129#8, 127#8] 0 M7 hI6 (by decide) (by decide)) rfl rfl ?_
  rintro v M8 ⟨rfl, hc8⟩
  refine ⟨nofun, ?_⟩
  rw [wb_item]
  have hc48 := hc6.trans hc8
  have w1 := w1.cons hc48
  have w2 := w2.cons hc48
  have hr8 := hc48.row' hr4
  repeat (first | refine W.seq ?_ | refine W.block ?_ | refine W.reg ?_ | refine W.skip ?_ | refine W.exit ?_ | refine W.ret ?_ | refine L.nil ?_ | refine L.p rfl rfl ?_ | refine L.skip rfl ?_)
  refine L.cl (same_C _ _ wb wb 9 9 M8 (hB3.1.cons hc48) (hI4.1.cons hc48) (by decide) (by decide)) rfl rfl ?_
  rintro _ _ ⟨rfl, rfl⟩
  refine ⟨nofun, ?_⟩
  rw [show (wb == wb) = true from beq_self_eq_true _]
  repeat (first | refine W.seq ?_ | refine W.block ?_ | refine W.reg ?_ | refine W.skip ?_ | refine W.exit ?_ | refine W.ret ?_ | refine L.nil ?_ | refine L.p rfl rfl ?_ | refine L.skip rfl ?_)
  refine L.ld (cell_of (o := 0) hr8 rfl) rfl rfl rfl ?_
  repeat (first | refine W.seq ?_ | refine W.block ?_ | refine W.reg ?_ | refine W.skip ?_ | refine W.exit ?_ | refine W.ret ?_ | refine L.nil ?_ | refine L.p rfl rfl ?_ | refine L.skip rfl ?_)
  refine L.ld (cell_of (o := 0) hr8 rfl) rfl rfl rfl ?_
  repeat (first | refine W.seq ?_ | refine W.block ?_ | refine W.reg ?_ | refine W.skip ?_ | refine W.exit ?_ | refine W.ret ?_ | refine L.nil ?_ | refine L.p rfl rfl ?_ | refine L.skip rfl ?_)
  refine L.el w1.1 (k := 0) rfl rfl rfl rfl rfl rfl (fun _ => rfl) rfl (fun p => ?_)
  repeat (first | refine W.seq ?_ | refine W.block ?_ | refine W.reg ?_ | refine W.skip ?_ | refine W.exit ?_ | refine W.ret ?_ | refine L.nil ?_ | refine L.p rfl rfl ?_ | refine L.skip rfl ?_)
  refine L.ld (cell_of (o := 1) hr8 rfl) rfl rfl rfl ?_
  repeat (first | refine W.seq ?_ | refine W.block ?_ | refine W.reg ?_ | refine W.skip ?_ | refine W.exit ?_ | refine W.ret ?_ | refine L.nil ?_ | refine L.p rfl rfl ?_ | refine L.skip rfl ?_)
  refine L.ld (cell_of (o := 1) hr8 rfl) rfl rfl rfl ?_
  repeat (first | refine W.seq ?_ | refine W.block ?_ | refine W.reg ?_ | refine W.skip ?_ | refine W.exit ?_ | refine W.ret ?_ | refine L.nil ?_ | refine L.p rfl rfl ?_ | refine L.skip rfl ?_)
  refine L.el w2.1 (k := 0) rfl rfl rfl rfl rfl rfl (fun _ => rfl) rfl (fun p => ?_)
  repeat (first | refine W.seq ?_ | refine W.block ?_ | refine W.reg ?_ | refine W.skip ?_ | refine W.exit ?_ | refine W.ret ?_ | refine L.nil ?_ | refine L.p rfl rfl ?_ | refine L.skip rfl ?_)
  exact ⟨.inr rfl, _, rfl, rfl, (hc3.trans hc4).trans hc48⟩
end Go.Proofs.Ytccdlijohkljcaa

/- The reference of layer 7: an integer; the integer at a place. Conditions: none. -/
set_option linter.unusedSimpArgs false
set_option linter.unusedVariables false
set_option maxRecDepth 100000
namespace Go.Proofs.Ytccdlijohkljcaa
open Go
variable {G : Nat} {Ext : FuncId → List Value → Mem → Outc → Mem → Prop}

theorem WIn.nil (S : Mem) : WIn S none 0 [] := ⟨Slv.nil _ _ _ _, Nat.zero_le _, fun _ => rfl, by decide⟩
/-- what the reference of Integer hands out -/
def IntR (S : Mem) (b : BL) (v : Value) (S' : Mem) : Prop := ∃ a' c', v = .tuple #[.slice a' (intL b).length c', .int .i64 (intE b)] ∧ Cons S S' ∧ WIn S' a' c' (intL b)
theorem intR_err {S S' : Mem} {b : BL} {n : Int} (h : numS b = .error n) (k : Cons S S') : IntR S b (.tuple #[.slice none 0 0, .int .i64 n]) S' := by
  have h1 : intL b = [] := by unfold intL; rw [h]
  have h2 : intE b = n := by unfold intE; rw [h]
  unfold IntR
  rw [h1, h2]
  exact ⟨none, 0, rfl, k, WIn.nil _⟩
theorem intR_ok {S S' : Mem} {b : BL} {l : WL} {a : Option Addr} {c : Nat} (h : numS b = .ok l) (k : Cons S S') (w : WIn S' a c l) : IntR S b (.tuple #[.slice a l.length c, .int .i64 0]) S' := by
  have h1 : intL b = l := by unfold intL; rw [h]
  have h2 : intE b = 0 := by unfold intE; rw [h]
  unfold IntR
  rw [h1, h2]
  exact ⟨a, c, rfl, k, w⟩
theorem toW_len_of {n k a : Nat} (h : n < 2 ^ a) (hk : a ≤ 64 * k) : (toW n).length ≤ k := (toW_len n k).2 (Nat.lt_of_lt_of_le h (Nat.pow_le_pow_right (by decide) hk))
theorem fromL_len (b : BL) : (fromL b).length ≤ 1000 := by
  unfold fromL
  split
  · rename_i h
    have h1 := bnum_lt (strip0 b)
    rw [bnum_strip0, p256] at h1
    exact toW_len_of h1 (by omega)
  · exact Nat.zero_le _
theorem refInteger_C (a : Option Addr) (c : Nat) (b : BL) (S : Mem) (hI : BIn S a c b) : C Try.prog G Ext 28 [.slice a b.length c] S (IntR S b) := by
  refine C.fn Try.func28 rfl (by kernel_rfl) rfl ?_
  have hbl := hI.2.2
  repeat (first | refine W.seq ?_ | refine W.block ?_ | refine W.reg ?_ | refine W.skip ?_ | refine W.exit ?_ | refine W.ret ?_ | refine L.nil ?_ | refine L.p rfl rfl ?_ | refine L.skip rfl ?_)
  cases hq : ((b.length : Int) == 0)
  rotate_left
  · have h0 : b.length = 0 := by have : (b.length : Int) = 0 := (by simpa using hq); omega
    repeat (first | refine W.seq ?_ | refine W.block ?_ | refine W.reg ?_ | refine W.skip ?_ | refine W.exit ?_ | refine W.ret ?_ | refine L.nil ?_ | refine L.p rfl rfl ?_ | refine L.skip rfl ?_)
    refine W.ite rfl (fun h => ?_) (fun h => ?_)
    rotate_left
    · cases h
    repeat (first | refine W.seq ?_ | refine W.block ?_ | refine W.reg ?_ | refine W.skip ?_ | refine W.exit ?_ | refine W.ret ?_ | refine L.nil ?_ | refine L.p rfl rfl ?_ | refine L.skip rfl ?_)
    exact ⟨.inr rfl, _, rfl, intR_err (by unfold numS; rw [if_pos (by unfold badInt; omega)]) (Cons.refl _)⟩
  have h0 : b.length ≠ 0 := by
    have : ¬ (b.length : Int) = 0 := by simpa using hq
    omega
  clear hq
  obtain ⟨x, hx, hx'⟩ := bat_some (b := b) (i := 0) (by omega)
  have hxl := x.isLt
  repeat (first | refine W.seq ?_ | refine W.block ?_ | refine W.reg ?_ | refine W.skip ?_ | refine W.exit ?_ | refine W.ret ?_ | refine L.nil ?_ | refine L.p rfl rfl ?_ | refine L.skip rfl ?_)
  refine L.el hI.1 (k := 0) rfl (bv_get hx) rfl rfl rfl rfl (fun _ => rfl) rfl (fun p => ?_)
  repeat (first | refine W.seq ?_ | refine W.block ?_ | refine W.reg ?_ | refine W.skip ?_ | refine W.exit ?_ | refine W.ret ?_ | refine L.nil ?_ | refine L.p rfl rfl ?_ | refine L.skip rfl ?_)
  cases hq : decide ((x.toNat : Int) ≥ 128)
  rotate_left
  · have h1 : 128 ≤ x.toNat := by have := of_decide_eq_true hq; omega
    repeat (first | refine W.seq ?_ | refine W.block ?_ | refine W.reg ?_ | refine W.skip ?_ | refine W.exit ?_ | refine W.ret ?_ | refine L.nil ?_ | refine L.p rfl rfl ?_ | refine L.skip rfl ?_)
    refine W.ite rfl (fun h => ?_) (fun h => ?_)
    rotate_left
    · cases h
    repeat (first | refine W.seq ?_ | refine W.block ?_ | refine W.reg ?_ | refine W.skip ?_ | refine W.exit ?_ | refine W.ret ?_ | refine L.nil ?_ | refine L.p rfl rfl ?_ | refine L.skip rfl ?_)
    exact ⟨.inr rfl, _, rfl, intR_err (by unfold numS; rw [if_pos (by unfold badInt; omega)]) (Cons.refl _)⟩
  have h1 : x.toNat < 128 := by have := of_decide_eq_false hq; omega
  clear hq
  repeat (first | refine W.seq ?_ | refine W.block ?_ | refine W.reg ?_ | refine W.skip ?_ | refine W.exit ?_ | refine W.ret ?_ | refine L.nil ?_ | refine L.p rfl rfl ?_ | refine L.skip rfl ?_)
  cases hq : decide ((b.length : Int) > 1)
  · have h2 : b.length ≤ 1 := by have := of_decide_eq_false hq; omega
    clear hq
    repeat (first | refine W.seq ?_ | refine W.block ?_ | refine W.reg ?_ | refine W.skip ?_ | refine W.exit ?_ | refine W.ret ?_ | refine L.nil ?_ | refine L.p rfl rfl ?_ | refine L.skip rfl ?_)
    refine W.ite rfl (fun h => ?_) (fun h => ?_)
    · cases h
    clear h
    have hbad : ¬ badInt b := by unfold badInt; omega
    repeat (first | refine W.seq ?_ | refine W.block ?_ | refine W.reg ?_ | refine W.skip ?_ | refine W.exit ?_ | refine W.ret ?_ | refine L.nil ?_ | refine L.p rfl rfl ?_ | refine L.skip rfl ?_)
    refine L.cl (refFrom_C a c b S hI) rfl rfl ?_
    rintro v S1 ⟨a1, c1, rfl, hc, hW⟩
    refine ⟨fun _ => hc, ?_⟩
    repeat (first | refine W.seq ?_ | refine W.block ?_ | refine W.reg ?_ | refine W.skip ?_ | refine W.exit ?_ | refine W.ret ?_ | refine L.nil ?_ | refine L.p rfl rfl ?_ | refine L.skip rfl ?_)
    cases hq : (fromE b != 0)
    rotate_left
    · have hne : fromE b ≠ 0 := by simpa using hq
      repeat (first | refine W.seq ?_ | refine W.block ?_ | refine W.reg ?_ | refine W.skip ?_ | refine W.exit ?_ | refine W.ret ?_ | refine L.nil ?_ | refine L.p rfl rfl ?_ | refine L.skip rfl ?_)
      refine W.ite rfl (fun h => ?_) (fun h => ?_)
      rotate_left
      · cases h
      repeat (first | refine W.seq ?_ | refine W.block ?_ | refine W.reg ?_ | refine W.skip ?_ | refine W.exit ?_ | refine W.ret ?_ | refine L.nil ?_ | refine L.p rfl rfl ?_ | refine L.skip rfl ?_)
      exact ⟨.inr rfl, _, rfl, intR_err (by unfold numS; rw [if_neg hbad, if_pos (.inl hne)]) hc⟩
    have he0 : fromE b = 0 := by simpa using hq
    have hfl := fromE_ok he0
    rw [hfl] at hW
    have hlen : (toW (bnum b)).length < 400000 := by
      have h1 := fromL_len b
      rw [hfl] at h1
      omega
    repeat (first | refine W.seq ?_ | refine W.block ?_ | refine W.reg ?_ | refine W.skip ?_ | refine W.exit ?_ | refine W.ret ?_ | refine L.nil ?_ | refine L.p rfl rfl ?_ | refine L.skip rfl ?_)
    refine L.cl (length_C _ _ _ S1 hW hlen) rfl (by rw [hfl]; rfl) ?_
    rintro v S2 ⟨rfl, hc2⟩
    refine ⟨fun _ => hc2, ?_⟩
    rw [wnum_toW]
    repeat (first | refine W.seq ?_ | refine W.block ?_ | refine W.reg ?_ | refine W.skip ?_ | refine W.exit ?_ | refine W.ret ?_ | refine L.nil ?_ | refine L.p rfl rfl ?_ | refine L.skip rfl ?_)
    refine W.ite rfl (fun h => ?_) (fun h => ?_)
    · have hgt : 4096 < blen (bnum b) := by have := of_decide_eq_true h; omega
      repeat (first | refine W.seq ?_ | refine W.block ?_ | refine W.reg ?_ | refine W.skip ?_ | refine W.exit ?_ | refine W.ret ?_ | refine L.nil ?_ | refine L.p rfl rfl ?_ | refine L.skip rfl ?_)
      exact ⟨.inr rfl, _, rfl, intR_err (by unfold numS; rw [if_neg hbad, if_pos (.inr hgt)]) (hc.trans hc2)⟩
    have hle : ¬ 4096 < blen (bnum b) := by have := of_decide_eq_false h; omega
    repeat (first | refine W.seq ?_ | refine W.block ?_ | refine W.reg ?_ | refine W.skip ?_ | refine W.exit ?_ | refine W.ret ?_ | refine L.nil ?_ | refine L.p rfl rfl ?_ | refine L.skip rfl ?_)
    refine ⟨.inr rfl, _, rfl, ?_⟩
    have hfin := intR_ok (b := b) (by unfold numS; rw [if_neg hbad, if_neg (by omega)]) (hc.trans hc2) (hW.cons hc2)
    rw [← hfl] at hfin
    exact hfin
  have h2 : 1 < b.length := by have := of_decide_eq_true hq; omega
  clear hq
  repeat (first | refine W.seq ?_ | refine W.block ?_ | refine W.reg ?_ | refine W.skip ?_ | refine W.exit ?_ | refine W.ret ?_ | refine L.nil ?_ | refine L.p rfl rfl ?_ | refine L.skip rfl ?_)
  refine L.el hI.1 (k := 0) rfl (bv_get hx) rfl rfl rfl rfl (fun _ => rfl) rfl (fun p => ?_)
  repeat (first | refine W.seq ?_ | refine W.block ?_ | refine W.reg ?_ | refine W.skip ?_ | refine W.exit ?_ | refine W.ret ?_ | refine L.nil ?_ | refine L.p rfl rfl ?_ | refine L.skip rfl ?_)
  cases hq : ((x.toNat : Int) == 0)
  · have h3 : x.toNat ≠ 0 := by
      have : ¬ (x.toNat : Int) = 0 := by simpa using hq
      omega
    clear hq
    repeat (first | refine W.seq ?_ | refine W.block ?_ | refine W.reg ?_ | refine W.skip ?_ | refine W.exit ?_ | refine W.ret ?_ | refine L.nil ?_ | refine L.p rfl rfl ?_ | refine L.skip rfl ?_)
    refine W.ite rfl (fun h => ?_) (fun h => ?_)
    · cases h
    clear h
    have hbad : ¬ badInt b := by unfold badInt; omega
    repeat (first | refine W.seq ?_ | refine W.block ?_ | refine W.reg ?_ | refine W.skip ?_ | refine W.exit ?_ | refine W.ret ?_ | refine L.nil ?_ | refine L.p rfl rfl ?_ | refine L.skip rfl ?_)
    refine L.cl (refFrom_C a c b S hI) rfl rfl ?_
    rintro v S1 ⟨a1, c1, rfl, hc, hW⟩
    refine ⟨fun _ => hc, ?_⟩
    repeat (first | refine W.seq ?_ | refine W.block ?_ | refine W.reg ?_ | refine W.skip ?_ | refine W.exit ?_ | refine W.ret ?_ | refine L.nil ?_ | refine L.p rfl rfl ?_ | refine L.skip rfl ?_)
    cases hq : (fromE b != 0)
    rotate_left
    · have hne : fromE b ≠ 0 := by simpa using hq
      repeat (first | refine W.seq ?_ | refine W.block ?_ | refine W.reg ?_ | refine W.skip ?_ | refine W.exit ?_ | refine W.ret ?_ | refine L.nil ?_ | refine L.p rfl rfl ?_ | refine L.skip rfl ?_)
      refine W.ite rfl (fun h => ?_) (fun h => ?_)
      rotate_left
      · cases h
      repeat (first | refine W.seq ?_ | refine W.block ?_ | refine W.reg ?_ | refine W.skip ?_ | refine W.exit ?_ | refine W.ret ?_ | refine L.nil ?_ | refine L.p rfl rfl ?_ | refine L.skip rfl ?_)
      exact ⟨.inr rfl, _, rfl, intR_err (by unfold numS; rw [if_neg hbad, if_pos (.inl hne)]) hc⟩
    have he0 : fromE b = 0 := by simpa using hq
    have hfl := fromE_ok he0
    rw [hfl] at hW
    have hlen : (toW (bnum b)).length < 400000 := by
      have h1 := fromL_len b
      rw [hfl] at h1
      omega
    repeat (first | refine W.seq ?_ | refine W.block ?_ | refine W.reg ?_ | refine W.skip ?_ | refine W.exit ?_ | refine W.ret ?_ | refine L.nil ?_ | refine L.p rfl rfl ?_ | refine L.skip rfl ?_)
    refine L.cl (length_C _ _ _ S1 hW hlen) rfl (by rw [hfl]; rfl) ?_
    rintro v S2 ⟨rfl, hc2⟩
    refine ⟨fun _ => hc2, ?_⟩
    rw [wnum_toW]
    repeat (first | refine W.seq ?_ | refine W.block ?_ | refine W.reg ?_ | refine W.skip ?_ | refine W.exit ?_ | refine W.ret ?_ | refine L.nil ?_ | refine L.p rfl rfl ?_ | refine L.skip rfl ?_)
    refine W.ite rfl (fun h => ?_) (fun h => ?_)
    · have hgt : 4096 < blen (bnum b) := by have := of_decide_eq_true h; omega
      repeat (first | refine W.seq ?_ | refine W.block ?_ | refine W.reg ?_ | refine W.skip ?_ | refine W.exit ?_ | refine W.ret ?_ | refine L.nil ?_ | refine L.p rfl rfl ?_ | refine L.skip rfl ?_)
      exact ⟨.inr rfl, _, rfl, intR_err (by unfold numS; rw [if_neg hbad, if_pos (.inr hgt)]) (hc.trans hc2)⟩
    have hle : ¬ 4096 < blen (bnum b) := by have := of_decide_eq_false h; omega
    repeat (first | refine W.seq ?_ | refine W.block ?_ | refine W.reg ?_ | refine W.skip ?_ | refine W.exit ?_ | refine W.ret ?_ | refine L.nil ?_ | refine L.p rfl rfl ?_ | refine L.skip rfl ?_)
    refine ⟨.inr rfl, _, rfl, ?_⟩
    have hfin := intR_ok (b := b) (by unfold numS; rw [if_neg hbad, if_neg (by omega)]) (hc.trans hc2) (hW.cons hc2)
    rw [← hfl] at hfin
    exact hfin
  have h3 : x.toNat = 0 := by
    have : (x.toNat : Int) = 0 := by simpa using hq
    omega
  clear hq
  obtain ⟨y, hy, hy'⟩ := bat_some (b := b) (i := 1) (by omega)
  have hyl := y.isLt
  repeat (first | refine W.seq ?_ | refine W.block ?_ | refine W.reg ?_ | refine W.skip ?_ | refine W.exit ?_ | refine W.ret ?_ | refine L.nil ?_ | refine L.p rfl rfl ?_ | refine L.skip rfl ?_)
  refine L.el hI.1 (k := 1) rfl (bv_get hy) rfl rfl rfl rfl (fun _ => rfl) rfl (fun p => ?_)
  repeat (first | refine W.seq ?_ | refine W.block ?_ | refine W.reg ?_ | refine W.skip ?_ | refine W.exit ?_ | refine W.ret ?_ | refine L.nil ?_ | refine L.p rfl rfl ?_ | refine L.skip rfl ?_)
  cases hq : decide ((y.toNat : Int) < 128)
  rotate_left
  · have h4 : y.toNat < 128 := by have := of_decide_eq_true hq; omega
    repeat (first | refine W.seq ?_ | refine W.block ?_ | refine W.reg ?_ | refine W.skip ?_ | refine W.exit ?_ | refine W.ret ?_ | refine L.nil ?_ | refine L.p rfl rfl ?_ | refine L.skip rfl ?_)
    refine W.ite rfl (fun h => ?_) (fun h => ?_)
    rotate_left
    · cases h
    repeat (first | refine W.seq ?_ | refine W.block ?_ | refine W.reg ?_ | refine W.skip ?_ | refine W.exit ?_ | refine W.ret ?_ | refine L.nil ?_ | refine L.p rfl rfl ?_ | refine L.skip rfl ?_)
    exact ⟨.inr rfl, _, rfl, intR_err (by unfold numS; rw [if_pos (by unfold badInt; omega)]) (Cons.refl _)⟩
  have h4 : 128 ≤ y.toNat := by have := of_decide_eq_false hq; omega
  clear hq
  repeat (first | refine W.seq ?_ | refine W.block ?_ | refine W.reg ?_ | refine W.skip ?_ | refine W.exit ?_ | refine W.ret ?_ | refine L.nil ?_ | refine L.p rfl rfl ?_ | refine L.skip rfl ?_)
  refine W.ite rfl (fun h => ?_) (fun h => ?_)
  · cases h
  clear h
  have hbad : ¬ badInt b := by unfold badInt; omega
  repeat (first | refine W.seq ?_ | refine W.block ?_ | refine W.reg ?_ | refine W.skip ?_ | refine W.exit ?_ | refine W.ret ?_ | refine L.nil ?_ | refine L.p rfl rfl ?_ | refine L.skip rfl ?_)
  refine L.cl (refFrom_C a c b S hI) rfl rfl ?_
  rintro v S1 ⟨a1, c1, rfl, hc, hW⟩
  refine ⟨fun _ => hc, ?_⟩
  repeat (first | refine W.seq ?_ | refine W.block ?_ | refine W.reg ?_ | refine W.skip ?_ | refine W.exit ?_ | refine W.ret ?_ | refine L.nil ?_ | refine L.p rfl rfl ?_ | refine L.skip rfl ?_)
  cases hq : (fromE b != 0)
  rotate_left
  · have hne : fromE b ≠ 0 := by simpa using hq
    repeat (first | refine W.seq ?_ | refine W.block ?_ | refine W.reg ?_ | refine W.skip ?_ | refine W.exit ?_ | refine W.ret ?_ | refine L.nil ?_ | refine L.p rfl rfl ?_ | refine L.skip rfl ?_)
    refine W.ite rfl (fun h => ?_) (fun h => ?_)
    rotate_left
    · cases h
    repeat (first | refine W.seq ?_ | refine W.block ?_ | refine W.reg ?_ | refine W.skip ?_ | refine W.exit ?_ | refine W.ret ?_ | refine L.nil ?_ | refine L.p rfl rfl ?_ | refine L.skip rfl ?_)
    exact ⟨.inr rfl, _, rfl, intR_err (by unfold numS; rw [if_neg hbad, if_pos (.inl hne)]) hc⟩
  have he0 : fromE b = 0 := by simpa using hq
  have hfl := fromE_ok he0
  rw [hfl] at hW
  have hlen : (toW (bnum b)).length < 400000 := by
    have h1 := fromL_len b
    rw [hfl] at h1
    omega
  repeat (first | refine W.seq ?_ | refine W.block ?_ | refine W.reg ?_ | refine W.skip ?_ | refine W.exit ?_ | refine W.ret ?_ | refine L.nil ?_ | refine L.p rfl rfl ?_ | refine L.skip rfl ?_)
  refine L.cl (length_C _ _ _ S1 hW hlen) rfl (by rw [hfl]; rfl) ?_
  rintro v S2 ⟨rfl, hc2⟩
  refine ⟨fun _ => hc2, ?_⟩
  rw [wnum_toW]
  repeat (first | refine W.seq ?_ | refine W.block ?_ | refine W.reg ?_ | refine W.skip ?_ | refine W.exit ?_ | refine W.ret ?_ | refine L.nil ?_ | refine L.p rfl rfl ?_ | refine L.skip rfl ?_)
  refine W.ite rfl (fun h => ?_) (fun h => ?_)
  · have hgt : 4096 < blen (bnum b) := by have := of_decide_eq_true h; omega
    repeat (first | refine W.seq ?_ | refine W.block ?_ | refine W.reg ?_ | refine W.skip ?_ | refine W.exit ?_ | refine W.ret ?_ | refine L.nil ?_ | refine L.p rfl rfl ?_ | refine L.skip rfl ?_)
    exact ⟨.inr rfl, _, rfl, intR_err (by unfold numS; rw [if_neg hbad, if_pos (.inr hgt)]) (hc.trans hc2)⟩
  have hle : ¬ 4096 < blen (bnum b) := by have := of_decide_eq_false h; omega
  repeat (first | refine W.seq ?_ | refine W.block ?_ | refine W.reg ?_ | refine W.skip ?_ | refine W.exit ?_ | refine W.ret ?_ | refine L.nil ?_ | refine L.p rfl rfl ?_ | refine L.skip rfl ?_)
  refine ⟨.inr rfl, _, rfl, ?_⟩
  have hfin := intR_ok (b := b) (by unfold numS; rw [if_neg hbad, if_neg (by omega)]) (hc.trans hc2) (hW.cons hc2)
  rw [← hfl] at hfin
  exact hfin
end Go.Proofs.Ytccdlijohkljcaa
