/- What several proofs share, part 5: a model of memory, contracts of functions. Conditions: none. -/
import Derived.Test.YtlnlcddbllcehaaDoorLibD

/- Layer 1: products. Conditions: none. -/
set_option linter.unusedSimpArgs false
set_option linter.unusedVariables false
set_option maxRecDepth 100000
set_option maxHeartbeats 4000000
set_option exponentiation.threshold 20000
namespace Go.Proofs.YtlnlcddbllcehaaDoor
open Go Ie
variable {Ext : FuncId → List Value → Mem → Outc → Mem → Prop}
/-- a new list of words at a row's beginning -/
theorem WOwn.row {S : Mem} {N b n : Nat} {l : WL} (h : S.row? b = some (newR (wv l) 39)) (hl : l.length = n) (hN : N ≤ b) (hn : n < 1000000) : WOwn S N (some ⟨b, 0, none⟩) n l := by
  subst hl
  refine ⟨⟨Slv.all h rfl (by rw [wv_len, Nat.mul_one]), ?_, nofun, by omega⟩, fun x hx => ?_⟩
  · unfold knownCap; rw [if_pos (by unfold UNK; omega)]; exact Nat.le_refl _
  · cases hx
    exact ⟨rfl, rfl, hN, _, h, rfl, List.take_of_length_le (by show (wv l).length ≤ _; rw [wv_len]; exact Nat.le_refl _)⟩
def mulL (l1 l2 : WL) : WL := if small l1 && small l2 then toldL (toW (wnum l1 * wnum l2)) else []
def mulE (l1 l2 : WL) : Int := if small l1 && small l2 then toldE (toW (wnum l1 * wnum l2)) else 3
theorem small_toW (N : Nat) : small (toW N) = decide (N < 2 ^ 8192) := by
  unfold small fm
  rw [wnum_toW]
  exact decide_eq_decide.2 (toW_len N 128)
/-- a long list's number is great -/
theorem toW_ge {N : Nat} (h : 0 < (toW N).length) : 2 ^ (64 * ((toW N).length - 1)) ≤ N := by
  refine Classical.byContradiction fun hc => ?_
  have := (toW_len N ((toW N).length - 1)).2 (by omega)
  omega
theorem mul_long {l1 l2 : WL} (h : 129 < (fm l1).length + (fm l2).length) (h1 : small l1 = true) (h2 : small l2 = true) : small (toW (wnum l1 * wnum l2)) = false := by
  rw [small_toW]
  have a1 : (toW (wnum l1)).length ≤ 128 := of_decide_eq_true h1
  have a2 : (toW (wnum l2)).length ≤ 128 := of_decide_eq_true h2
  have h : 129 < (toW (wnum l1)).length + (toW (wnum l2)).length := h
  have b1 := toW_ge (N := wnum l1) (by omega)
  have b2 := toW_ge (N := wnum l2) (by omega)
  have b3 := Nat.mul_le_mul b1 b2
  rw [← Nat.pow_add] at b3
  have b4 : 2 ^ 8192 ≤ 2 ^ (64 * ((toW (wnum l1)).length - 1) + 64 * ((toW (wnum l2)).length - 1)) := Nat.pow_le_pow_right (by omega) (by omega)
  exact decide_eq_false (by omega)
theorem wnum_take_succ {l : WL} {i : Nat} {x : BitVec 64} (h : l[i]? = some x) : wnum (l.take (i + 1)) = wnum (l.take i) + 2 ^ (64 * i) * x.toNat := by
  have hlt := (List.getElem?_eq_some_iff.1 h).1
  rw [List.take_add_one, h]
  show wnum (l.take i ++ [x]) = _
  rw [wnum_append, List.length_take, Nat.min_eq_left (by omega)]
  show _ + _ * (x.toNat + 18446744073709551616 * 0) = _
  rw [Nat.mul_zero, Nat.add_zero]
theorem mul_step {W P T x y cr lo : Nat} (h : W + cr * P = T) : W + (x * y + lo + cr) / 18446744073709551616 * (P * 18446744073709551616) + (x * y + lo + cr) % 18446744073709551616 * P = T + x * y * P + lo * P := by
  have e1 : (x * y + lo + cr) / 18446744073709551616 * (P * 18446744073709551616) + (x * y + lo + cr) % 18446744073709551616 * P = (x * y + lo + cr) * P := by
    rw [Nat.mul_comm P, ← Nat.mul_assoc, ← Nat.add_mul, Nat.mul_comm _ 18446744073709551616, Nat.div_add_mod]
  rw [Nat.add_assoc, e1, Nat.add_mul, Nat.add_mul, ← h]; omega
/-- what the product by transform owes -/
def TransR (Ext : FuncId → List Value → Mem → Outc → Mem → Prop) (a1 a2 : Option Addr) (c1 c2 : Nat) (f1 f2 : WL) (S : Mem) : Prop :=
  C Tryd.prog gN Ext 63 [.slice a1 f1.length c1, .slice a2 f2.length c2] S fun v S' => ∃ (ro : Nat) (o : WL), v = .slice (some ⟨ro, 0, none⟩) (f1.length + f2.length) (f1.length + f2.length) ∧ S.length ≤ ro ∧ Cons S S' ∧ S'.row? ro = some (newR (wv o) 39) ∧ o.length = f1.length + f2.length ∧ wnum o = wnum f1 * wnum f2
theorem mulG_C (a1 a2 : Option Addr) (c1 c2 : Nat) (l1 l2 : WL) (S : Mem) (h1 : WIn S a1 c1 l1) (h2 : WIn S a2 c2 l2)
    (hT : 20 ≤ min (fm l1).length (fm l2).length → (fm l1).length + (fm l2).length ≤ 129 → ∀ S1, Cons S S1 → WIn S1 a1 c1 (fm l1) → WIn S1 a2 c2 (fm l2) → TransR Ext a1 a2 c1 c2 (fm l1) (fm l2) S1) :
    C Tryd.prog gN Ext 34 [.slice a1 l1.length c1, .slice a2 l2.length c2] S fun v S' => ∃ d : Hd, v = .tuple #[d.v, .int .i64 (mulE l1 l2)] ∧ RetW S S' d (mulL l1 l2) := by
  refine C.fn Tryd.func34 rfl (by kernel_rfl) rfl ?_
  repeat first|refine W.g ?_|refine L.p rfl rfl ?_|refine L.nil ?_|refine L.skip rfl ?_
  refine L.bs [WS.v ⟨a1, c1, l1⟩, WS.v ⟨a2, c2, l2⟩] rfl rfl rfl rfl rfl rfl ?_
  have hc : Cons S (S ++ [newR [WS.v ⟨a1, c1, l1⟩, WS.v ⟨a2, c2, l2⟩] 22]) := Cons.push _ _
  have hs : Slv (S ++ [newR [WS.v ⟨a1, c1, l1⟩, WS.v ⟨a2, c2, l2⟩] 22]) 1 (.slice (some ⟨S.length, 0, none⟩) 2 2) 2 ([WS.mk a1 c1 l1, WS.mk a2 c2 l2].map WS.v) := Slv.all (row_push_new rfl) rfl rfl
  generalize S ++ [newR [WS.v ⟨a1, c1, l1⟩, WS.v ⟨a2, c2, l2⟩] 22] = S1 at *
  refine L.cl (fit_C _ [⟨a1, c1, l1⟩, ⟨a2, c2, l2⟩] S1 hs (fun w hw => by
    simp only [List.mem_cons, List.not_mem_nil, or_false] at hw
    rcases hw with rfl | rfl
    · exact h1.cons hc
    · exact h2.cons hc) (by simp)) rfl rfl ?_
  rintro _ _ ⟨rfl, rfl⟩
  refine ⟨nofun, ?_⟩
  repeat first|refine W.g ?_|refine L.p rfl rfl ?_|refine L.nil ?_|refine L.skip rfl ?_
  refine W.ite rfl (fun h => ?_) (fun h => ?_)
  · have hsm : (small l1 && small l2) = false := by
      have h0 := h
      simp at h0
      cases hq : small l1 <;> simp_all
    repeat first|refine W.g ?_|refine L.p rfl rfl ?_|refine L.nil ?_|refine L.skip rfl ?_
    exact ⟨.inr rfl, _, rfl, Hd0, (by unfold mulE; rw [hsm]; rfl), by unfold mulL; rw [hsm]; exact RetW.nil hc⟩
  have hsm : (small l1 && small l2) = true := by
    have h0 := h
    simp at h0
    cases hq : small l1 <;> simp_all
  clear h
  have hsm2 := hsm
  rw [Bool.and_eq_true] at hsm2
  rename Mem => S1
  have hI1 := h1.cons hc
  have hI2 := h2.cons hc
  repeat first|refine W.g ?_|refine L.p rfl rfl ?_|refine L.nil ?_|refine L.skip rfl ?_
  refine L.cl (trim_C a1 c1 l1 _ hI1) rfl rfl ?_
  rintro _ _ ⟨rfl, rfl⟩
  refine ⟨nofun, ?_⟩
  repeat first|refine W.g ?_|refine L.p rfl rfl ?_|refine L.nil ?_|refine L.skip rfl ?_
  refine L.cl (trim_C a2 c2 l2 _ hI2) rfl rfl ?_
  rintro _ _ ⟨rfl, rfl⟩
  refine ⟨nofun, ?_⟩
  have hF1 := hI1.form
  have hF2 := hI2.form
  have b1 : (fm l1).length ≤ 128 := of_decide_eq_true hsm2.1
  have b2 : (fm l2).length ≤ 128 := of_decide_eq_true hsm2.2
  have hlong := fun h => mul_long (l1 := l1) (l2 := l2) h hsm2.1 hsm2.2
  have e1 : wnum (fm l1) = wnum l1 := wnum_toW _
  have e2 : wnum (fm l2) = wnum l2 := wnum_toW _
  have eE : mulE l1 l2 = toldE (toW (wnum l1 * wnum l2)) := by unfold mulE; rw [hsm]; rfl
  have eL : mulL l1 l2 = toldL (toW (wnum l1 * wnum l2)) := by unfold mulL; rw [hsm]; rfl
  rw [eE, eL, ← e1, ← e2]
  rw [← e1, ← e2] at hlong
  clear hsm hsm2 eE eL hI1 hI2 hs e1 e2
  generalize fm l1 = f1 at *
  generalize fm l2 = f2 at *
  repeat first|refine W.g ?_|refine L.p rfl rfl ?_|refine L.nil ?_|refine L.skip rfl ?_
  rw [wrap64 (show -9223372036854775808 ≤ (f1.length : Int) + (f2.length : Int) by omega) (by omega)]
  repeat first|refine W.g ?_|refine L.p rfl rfl ?_|refine L.nil ?_|refine L.skip rfl ?_
  refine W.ite rfl (fun h => ?_) (fun h => ?_)
  · have hgt : 129 < f1.length + f2.length := by have := of_decide_eq_true h; omega
    have hbad := hlong hgt
    repeat first|refine W.g ?_|refine L.p rfl rfl ?_|refine L.nil ?_|refine L.skip rfl ?_
    exact ⟨.inr rfl, _, rfl, Hd0, (by unfold toldE; rw [hbad]; rfl), by unfold toldL; rw [hbad]; exact RetW.nil hc⟩
  have hle : f1.length + f2.length ≤ 129 := by have := of_decide_eq_false h; omega
  clear h hlong
  repeat first|refine W.g ?_|refine L.p rfl rfl ?_|refine L.nil ?_|refine L.skip rfl ?_
  refine L.min (c := ((min f1.length f2.length : Nat) : Int)) rfl rfl rfl ?_ ?_
  · split <;> omega
  repeat first|refine W.g ?_|refine L.p rfl rfl ?_|refine L.nil ?_|refine L.skip rfl ?_
  refine W.ite rfl (fun h => ?_) (fun h => ?_)
  · have hmin : 20 ≤ min f1.length f2.length := by have := of_decide_eq_true h; omega
    clear h
    repeat first|refine W.g ?_|refine L.p rfl rfl ?_|refine L.nil ?_|refine L.skip rfl ?_
    refine L.cl (hT hmin hle _ hc hF1 hF2) rfl rfl ?_
    rintro _ S2 ⟨ro, o, rfl, hro, k2, hr, hol, hnum⟩
    refine ⟨nofun, ?_⟩
    have hO : WOwn S2 S.length (some ⟨ro, 0, none⟩) (f1.length + f2.length) o := WOwn.row hr hol (by have := hc.len; omega) (by omega)
    refine L.cl (told_C S _ _ o S2 hO (hc.trans k2)) rfl (by rw [hol]; rfl) ?_
    rintro _ _ ⟨rfl, d2, rfl, hR2⟩
    refine ⟨nofun, ?_⟩
    repeat first|refine W.g ?_|refine L.p rfl rfl ?_|refine L.nil ?_|refine L.skip rfl ?_
    have t := told_fm o
    unfold fm at t
    rw [hnum] at t
    rw [← t.1] at hR2
    exact ⟨.inr rfl, _, rfl, d2, by rw [t.2]; rfl, hR2⟩
  have hmin : min f1.length f2.length < 20 := by have := of_decide_eq_false h; omega
  clear h
  rename Mem => S1
  obtain ⟨sz, hsz⟩ : ∃ sz, sz = f1.length + f2.length := ⟨_, rfl⟩
  have hw1 : IntKind.i64.wrap ((f1.length : Int) + (f2.length : Int)) = ((sz : Nat) : Int) := by rw [wrap64 (by omega) (by omega), hsz]; rfl
  repeat first|refine W.g ?_|refine L.p rfl rfl ?_|refine L.nil ?_|refine L.skip rfl ?_
  refine L.mk (n := sz) (m := sz) (bytes := 8) (zv := v64 0#64) rfl rfl hw1 rfl hw1 (Nat.le_refl _) (by omega) rfl rfl ?_
  have hro : Mem.row? (S1 ++ [newR (List.replicate sz (v64 0#64)) 39]) S1.length = some (newR (wv (List.replicate sz 0#64)) 39) := by
    rw [row_push_new rfl]; simp [wv]
  have hk4 := hc.trans (Cons.push S1 (newR (List.replicate sz (v64 0#64)) 39))
  have g1 := hF1.cons (Cons.push S1 (newR (List.replicate sz (v64 0#64)) 39))
  have g2 := hF2.cons (Cons.push S1 (newR (List.replicate sz (v64 0#64)) 39))
  have hk5 := Cons.push S1 (newR (List.replicate sz (v64 0#64)) 39)
  have hSr : S.length ≤ S1.length := hc.len
  generalize S1 ++ [newR (List.replicate sz (v64 0#64)) 39] = S3 at *
  obtain ⟨ro, hro0⟩ : ∃ ro, ro = S1.length := ⟨_, rfl⟩
  rw [← hro0] at hro hSr ⊢
  repeat first|refine W.g ?_|refine L.p rfl rfl ?_|refine L.nil ?_|refine L.skip rfl ?_
  refine W.loop (fun j e T => ∃ (i : Nat) (o : WL), j = f1.length - i ∧ i ≤ f1.length ∧ e 1 = .slice a2 f2.length c2 ∧ e 6 = .slice (some ⟨ro, 0, none⟩) sz sz ∧ e 48 = .slice a1 f1.length c1 ∧ e 49 = vi f1.length ∧ e 50 = vi i ∧ Cons S1 T ∧ T.row? ro = some (newR (wv o) 39) ∧ o.length = sz ∧ wnum o = wnum (f1.take i) * wnum f2 ∧ ∀ p, i + f2.length ≤ p → p < sz → o[p]? = some 0#64) f1.length
    ⟨0, List.replicate sz 0#64, by omega, by omega, rfl, rfl, rfl, rfl, rfl, hk5, hro, by simp, by rw [wnum_zeros]; simp [wnum], fun p _ hp => by simp [hp]⟩ ?_
  rintro j e T ⟨i, o, rfl, hi, e1, e6, e48, e49, e50, hkT, hro, hol, hwo, hz⟩
  refine W.env5 e1 e6 e48 e49 e50 ?_
  repeat first|refine W.g ?_|refine L.p rfl rfl ?_|refine L.nil ?_|refine L.skip rfl ?_
  refine W.ite rfl (fun h => ?_) (fun h => ?_)
  · have hin : i < f1.length := by have := of_decide_eq_true h; omega
    clear h
    obtain ⟨x, hx⟩ : ∃ x, f1[i]? = some x := ⟨_, List.getElem?_eq_getElem hin⟩
    repeat first|refine W.g ?_|refine L.p rfl rfl ?_|refine L.nil ?_|refine L.skip rfl ?_
    refine L.el (hF1.1.cons hkT) (k := i) rfl (wv_get hx) rfl rfl rfl rfl (fun _ => rfl) rfl (fun p => ?_)
    repeat first|refine W.g ?_|refine L.p rfl rfl ?_|refine L.nil ?_|refine L.skip rfl ?_
    refine W.loop (fun j e T => ∃ (k : Nat) (o : WL) (cr : Nat), j = f2.length - k ∧ k ≤ f2.length ∧ e 1 = .slice a2 f2.length c2 ∧ e 6 = .slice (some ⟨ro, 0, none⟩) sz sz ∧ e 7 = vi i ∧ e 8 = v64 x ∧ e 9 = .int .u64 (cr : Int) ∧ e 48 = .slice a1 f1.length c1 ∧ e 49 = vi f1.length ∧ e 50 = vi i ∧ e 55 = .slice a2 f2.length c2 ∧ e 56 = vi f2.length ∧ e 57 = vi k ∧ Cons S1 T ∧ T.row? ro = some (newR (wv o) 39) ∧ o.length = sz ∧ cr < 18446744073709551616 ∧ wnum o + cr * 2 ^ (64 * (i + k)) = wnum (f1.take i) * wnum f2 + x.toNat * wnum (f2.take k) * 2 ^ (64 * i) ∧ ∀ p, i + f2.length ≤ p → p < sz → o[p]? = some 0#64) f2.length
      ⟨0, o, 0, by omega, by omega, rfl, rfl, rfl, rfl, rfl, rfl, rfl, rfl, rfl, rfl, rfl, hkT, hro, hol, by decide, by rw [hwo]; simp [wnum], hz⟩ ?_
    clear hro hol hwo hz hkT e1 e6 e48 e49 e50 o e
    rintro j e T2 ⟨k, o, cr, rfl, hk, e1, e6, e7, e8, e9, e48, e49, e50, e55, e56, e57, hkT, hro, hol, hcr, hsum, hz⟩
    refine W.env10 e1 e6 e7 e8 e9 e48 e49 e50 e55 e56 ?_
    refine W.env (t := 57) (v := vi k) (by exact e57) ?_
    repeat first|refine W.g ?_|refine L.p rfl rfl ?_|refine L.nil ?_|refine L.skip rfl ?_
    refine W.ite rfl (fun h => ?_) (fun h => ?_)
    · have hk2 : k < f2.length := by have := of_decide_eq_true h; omega
      clear h
      obtain ⟨y, hy⟩ : ∃ y, f2[k]? = some y := ⟨_, List.getElem?_eq_getElem hk2⟩
      obtain ⟨z, hzz⟩ : ∃ z, o[i + k]? = some z := ⟨_, List.getElem?_eq_getElem (by omega)⟩
      have hslo : Slv T2 1 (.slice (some ⟨ro, 0, none⟩) sz sz) sz (wv o) := Slv.all hro rfl (by rw [wv_len, hol, Nat.mul_one])
      have hw2 : IntKind.i64.wrap ((i : Int) + (k : Int)) = ((i + k : Nat) : Int) := by rw [wrap64 (by omega) (by omega)]; rfl
      repeat first|refine W.g ?_|refine L.p rfl rfl ?_|refine L.nil ?_|refine L.skip rfl ?_
      refine L.el (hF2.1.cons hkT) (k := k) rfl (wv_get hy) rfl rfl rfl rfl (fun _ => rfl) rfl (fun p => ?_)
      repeat first|refine W.g ?_|refine L.p rfl rfl ?_|refine L.nil ?_|refine L.skip rfl ?_
      refine L.cl (mul64_C x y T2) rfl rfl ?_
      rintro _ T5 ⟨rfl, hT5⟩
      have hT5 := hT5.symm
      subst hT5
      refine ⟨nofun, ?_⟩
      repeat first|refine W.g ?_|refine L.p rfl rfl ?_|refine L.nil ?_|refine L.skip rfl ?_
      rw [hw2]
      refine L.el hslo (k := i + k) rfl (wv_get hzz) rfl rfl rfl rfl (fun _ => rfl) rfl (fun p => ?_)
      refine L.add64 (a := (x * y).toNat) (b := z.toNat) (c := 0) (by omega) rfl rfl ?_
      repeat first|refine W.g ?_|refine L.p rfl rfl ?_|refine L.nil ?_|refine L.skip rfl ?_
      obtain ⟨XY, hXY⟩ : ∃ XY, XY = x.toNat * y.toNat := ⟨_, rfl⟩
      have hXYl : XY ≤ 18446744073709551615 * 18446744073709551615 := by rw [hXY]; exact Nat.mul_le_mul (by have := x.isLt; omega) (by have := y.isLt; omega)
      have hlo : (x * y).toNat = XY % 18446744073709551616 := by rw [BitVec.toNat_mul, hXY]
      have hhi : (hiW x y).toNat = XY / 18446744073709551616 := by rw [hiW_val, hXY]
      have hzl := z.isLt
      rw [hlo, hhi]
      rw [uadd (a := XY / 18446744073709551616) (b := (XY % 18446744073709551616 + z.toNat + 0) / 18446744073709551616) (by omega)]
      refine L.add64 (a := (XY % 18446744073709551616 + z.toNat + 0) % 18446744073709551616) (b := cr) (c := 0) (by omega) rfl rfl ?_
      repeat first|refine W.g ?_|refine L.p rfl rfl ?_|refine L.nil ?_|refine L.skip rfl ?_
      rw [uadd (a := XY / 18446744073709551616 + (XY % 18446744073709551616 + z.toNat + 0) / 18446744073709551616) (by omega)]
      rw [hw2]
      rw [show ((XY % 18446744073709551616 + z.toNat + 0) % 18446744073709551616 + cr + 0) % 18446744073709551616 = (XY + z.toNat + cr) % 18446744073709551616 by omega, show XY / 18446744073709551616 + (XY % 18446744073709551616 + z.toNat + 0) / 18446744073709551616 + ((XY % 18446744073709551616 + z.toNat + 0) % 18446744073709551616 + cr + 0) / 18446744073709551616 = (XY + z.toNat + cr) / 18446744073709551616 by omega]
      obtain ⟨r, hr⟩ : ∃ r : BitVec 64, r = BitVec.ofNat 64 ((XY + z.toNat + cr) % 18446744073709551616) := ⟨_, rfl⟩
      have hrv : r.toNat = (XY + z.toNat + cr) % 18446744073709551616 := by rw [hr, BitVec.toNat_ofNat]; exact Nat.mod_eq_of_lt (Nat.mod_lt _ (by decide))
      rw [← hrv]
      refine L.elst hro rfl (by show 0 + sz ≤ (wv o).length; rw [wv_len, hol]; omega) (k := i + k) rfl (by omega) rfl rfl rfl rfl (fun _ => rfl) (fun _ => rfl) rfl rfl rfl (fun p => ?_)
      have hr2 : Mem.row? (List.set T2 ro { newR (wv o) 39 with cells := (newR (wv o) 39).cells.set (0 + (i + k)) (v64 r) }) ro = some (newR (wv (o.set (i + k) r)) 39) := by
        rw [row_set_same hro rfl, Nat.zero_add]
        simp [newR, wv, List.map_set]
      have hk6 := hkT.set ro { newR (wv o) 39 with cells := (newR (wv o) 39).cells.set (0 + (i + k)) (v64 r) } (by omega)
      have hws := wnum_set (y := r) hzz
      generalize List.set T2 ro _ = T6 at *
      repeat first|refine W.g ?_|refine L.p rfl rfl ?_|refine L.nil ?_|refine L.skip rfl ?_
      refine ⟨f2.length - (k + 1), by omega, k + 1, o.set (i + k) r, (XY + z.toNat + cr) / 18446744073709551616, rfl, by omega, rfl, rfl, rfl, rfl, rfl, rfl, rfl, rfl, rfl, rfl, ?_, hk6, hr2, by simpa using hol, by omega, ?_, fun p hp1 hp2 => ?_⟩
      · refine (force_eq rfl).trans ?_
        rw [wrap64 (by omega) (by omega)]; rfl
      · have hms := mul_step (x := x.toNat) (y := y.toNat) (lo := z.toNat) hsum
        rw [← hXY, ← hrv] at hms
        have hp : 2 ^ (64 * (i + (k + 1))) = 2 ^ (64 * (i + k)) * 18446744073709551616 := by rw [show 64 * (i + (k + 1)) = 64 * (i + k) + 64 by omega, Nat.pow_add]
        rw [hp, wnum_take_succ hy, Nat.mul_add x.toNat, Nat.add_mul (x.toNat * wnum (f2.take k))]
        have hx2 : x.toNat * (2 ^ (64 * k) * y.toNat) * 2 ^ (64 * i) = XY * 2 ^ (64 * (i + k)) := by
          rw [hXY, show 64 * (i + k) = 64 * k + 64 * i by omega, Nat.pow_add, ← Nat.mul_assoc, ← Nat.mul_assoc, Nat.mul_right_comm x.toNat (2 ^ (64 * k)) y.toNat]
        rw [hx2]
        omega
      · rw [List.getElem?_set, if_neg (by omega)]; exact hz p hp1 hp2
    · have hkn : k = f2.length := by have := of_decide_eq_false h; omega
      subst hkn
      clear h
      rw [List.take_length] at hsum
      have hz0 := hz (i + f2.length) (Nat.le_refl _) (by omega)
      have hw3 : IntKind.i64.wrap ((i : Int) + (f2.length : Int)) = ((i + f2.length : Nat) : Int) := by rw [wrap64 (by omega) (by omega)]; rfl
      obtain ⟨r, hr⟩ : ∃ r : BitVec 64, r = BitVec.ofNat 64 cr := ⟨_, rfl⟩
      have hrv : r.toNat = cr := by rw [hr, BitVec.toNat_ofNat]; exact Nat.mod_eq_of_lt hcr
      rw [← hrv]
      repeat first|refine W.g ?_|refine L.p rfl rfl ?_|refine L.nil ?_|refine L.skip rfl ?_
      rw [hw3]
      refine L.elst hro rfl (by show 0 + sz ≤ (wv o).length; rw [wv_len, hol]; omega) (k := i + f2.length) rfl (by omega) rfl rfl rfl rfl (fun _ => rfl) (fun _ => rfl) rfl rfl rfl (fun p => ?_)
      have hr2 : Mem.row? (List.set T2 ro { newR (wv o) 39 with cells := (newR (wv o) 39).cells.set (0 + (i + f2.length)) (v64 r) }) ro = some (newR (wv (o.set (i + f2.length) r)) 39) := by
        rw [row_set_same hro rfl, Nat.zero_add]
        simp [newR, wv, List.map_set]
      have hk6 := hkT.set ro { newR (wv o) 39 with cells := (newR (wv o) 39).cells.set (0 + (i + f2.length)) (v64 r) } (by omega)
      have hws := wnum_set (y := r) hz0
      generalize List.set T2 ro _ = T6 at *
      repeat first|refine W.g ?_|refine L.p rfl rfl ?_|refine L.nil ?_|refine L.skip rfl ?_
      refine ⟨f1.length - (i + 1), by omega, i + 1, o.set (i + f2.length) r, rfl, by omega, rfl, rfl, rfl, rfl, ?_, hk6, hr2, by simpa using hol, ?_, fun p hp1 hp2 => ?_⟩
      · refine (force_eq rfl).trans ?_
        rw [wrap64 (by omega) (by omega)]; rfl
      · rw [wnum_take_succ hx, Nat.add_mul]
        have hz1 : (0#64 : BitVec 64).toNat * 2 ^ (64 * (i + f2.length)) = 0 := Nat.zero_mul _
        rw [hz1, hrv] at hws
        have hx2 : 2 ^ (64 * i) * x.toNat * wnum f2 = x.toNat * wnum f2 * 2 ^ (64 * i) := by rw [Nat.mul_assoc, Nat.mul_comm]
        rw [hx2]; omega
      · rw [List.getElem?_set, if_neg (by omega)]; exact hz p (by omega) hp2
  · have hin : i = f1.length := by have := of_decide_eq_false h; omega
    subst hin
    clear h
    rw [List.take_length] at hwo
    repeat first|refine W.g ?_|refine L.p rfl rfl ?_|refine L.nil ?_|refine L.skip rfl ?_
    have hO : WOwn T S.length (some ⟨ro, 0, none⟩) sz o := WOwn.row hro hol (by omega) (by omega)
    refine L.cl (told_C S _ _ o T hO (hc.trans hkT)) rfl (by rw [hol]; rfl) ?_
    rintro _ _ ⟨rfl, d2, rfl, hR2⟩
    refine ⟨nofun, ?_⟩
    repeat first|refine W.g ?_|refine L.p rfl rfl ?_|refine L.nil ?_|refine L.skip rfl ?_
    have t := told_fm o
    unfold fm at t
    rw [hwo] at t
    rw [← t.1] at hR2
    exact ⟨.inr rfl, _, rfl, d2, by rw [t.2]; rfl, hR2⟩
theorem mul_C (a1 a2 : Option Addr) (c1 c2 : Nat) (l1 l2 : WL) (S : Mem) (h1 : WIn S a1 c1 l1) (h2 : WIn S a2 c2 l2) (hS : SinOk S) (hG : gN ≤ S.length) :
    C Tryd.prog gN Ext 34 [.slice a1 l1.length c1, .slice a2 l2.length c2] S fun v S' => ∃ d : Hd, v = .tuple #[d.v, .int .i64 (mulE l1 l2)] ∧ RetW S S' d (mulL l1 l2) :=
  mulG_C a1 a2 c1 c2 l1 l2 S h1 h2 fun hm hle S1 k w1 w2 => transformed_C a1 a2 c1 c2 (fm l1) (fm l2) S1 w1.1 w2.1 (by omega) (by omega) hle (hS.cons k) (Nat.le_trans hG k.len)
/-- where one list is short, no transform is met -/
theorem mulS_C (a1 a2 : Option Addr) (c1 c2 : Nat) (l1 l2 : WL) (S : Mem) (h1 : WIn S a1 c1 l1) (h2 : WIn S a2 c2 l2) (hs : l1.length < 20) :
    C Tryd.prog gN Ext 34 [.slice a1 l1.length c1, .slice a2 l2.length c2] S fun v S' => ∃ d : Hd, v = .tuple #[d.v, .int .i64 (mulE l1 l2)] ∧ RetW S S' d (mulL l1 l2) :=
  mulG_C a1 a2 c1 c2 l1 l2 S h1 h2 fun hm hle S1 k w1 w2 => absurd (toW_len_le l1) (by unfold fm at hm; omega)
end Go.Proofs.YtlnlcddbllcehaaDoor

/- Layer 1: comparing. Conditions: none. -/
set_option linter.unusedSimpArgs false
set_option linter.unusedVariables false
set_option maxRecDepth 100000
set_option maxHeartbeats 4000000
namespace Go.Proofs.YtlnlcddbllcehaaDoor
open Go
variable {G : Nat} {Ext : FuncId → List Value → Mem → Outc → Mem → Prop}
/-- how two numbers stand to each other -/
def cmpI (a b : Int) : Int := if a < b then -1 else if b < a then 1 else 0
theorem inan_C (a : Int) (S : Mem) : C Tryd.prog G Ext 72 [.int .i64 a] S fun v S' => v = .bool false ∧ S' = S := by
  refine C.fn Tryd.func72 rfl (by kernel_rfl) rfl ?_
  repeat first|refine W.g ?_|refine L.p rfl rfl ?_|refine L.nil ?_|refine L.skip rfl ?_
  refine ⟨.inr rfl, _, rfl, (force_eq rfl).trans ?_, rfl⟩
  rw [bne_self_eq_false]
theorem icmp_C (a b : Int) (S : Mem) : C Tryd.prog G Ext 50 [.int .i64 a, .int .i64 b] S fun v S' => v = .int .i64 (cmpI a b) ∧ S' = S := by
  refine C.fn Tryd.func50 rfl (by kernel_rfl) rfl ?_
  repeat first|refine W.g ?_|refine L.p rfl rfl ?_|refine L.nil ?_|refine L.skip rfl ?_
  refine L.cl (inan_C a S) rfl rfl ?_
  rintro _ _ ⟨rfl, rfl⟩
  refine ⟨nofun, ?_⟩
  repeat first|refine W.g ?_|refine L.p rfl rfl ?_|refine L.nil ?_|refine L.skip rfl ?_
  refine L.cl (inan_C b _) rfl rfl ?_
  rintro _ _ ⟨rfl, rfl⟩
  refine ⟨nofun, ?_⟩
  repeat first|refine W.g ?_|refine L.p rfl rfl ?_|refine L.nil ?_|refine L.skip rfl ?_
  refine W.condF rfl ?_
  repeat first|refine W.g ?_|refine L.p rfl rfl ?_|refine L.nil ?_|refine L.skip rfl ?_
  refine W.condF rfl ?_
  repeat first|refine W.g ?_|refine L.p rfl rfl ?_|refine L.nil ?_|refine L.skip rfl ?_
  refine W.ite rfl (fun h => ?_) (fun h => ?_)
  · have h1 : a < b := of_decide_eq_true h
    repeat first|refine W.g ?_|refine L.p rfl rfl ?_|refine L.nil ?_|refine L.skip rfl ?_
    exact ⟨.inr rfl, _, rfl, by unfold cmpI; rw [if_pos h1]; rfl, rfl⟩
  have h1 : ¬ a < b := of_decide_eq_false h
  clear h
  repeat first|refine W.g ?_|refine L.p rfl rfl ?_|refine L.nil ?_|refine L.skip rfl ?_
  refine W.ite rfl (fun h => ?_) (fun h => ?_)
  · have h2 : b < a := of_decide_eq_true h
    repeat first|refine W.g ?_|refine L.p rfl rfl ?_|refine L.nil ?_|refine L.skip rfl ?_
    exact ⟨.inr rfl, _, rfl, by unfold cmpI; rw [if_neg h1, if_pos h2]; rfl, rfl⟩
  have h2 : ¬ b < a := of_decide_eq_false h
  repeat first|refine W.g ?_|refine L.p rfl rfl ?_|refine L.nil ?_|refine L.skip rfl ?_
  exact ⟨.inr rfl, _, rfl, by unfold cmpI; rw [if_neg h1, if_neg h2]; rfl, rfl⟩
theorem unan_C (a : Int) (S : Mem) : C Tryd.prog G Ext 73 [.int .u64 a] S fun v S' => v = .bool false ∧ S' = S := by
  refine C.fn Tryd.func73 rfl (by kernel_rfl) rfl ?_
  repeat first|refine W.g ?_|refine L.p rfl rfl ?_|refine L.nil ?_|refine L.skip rfl ?_
  refine ⟨.inr rfl, _, rfl, (force_eq rfl).trans ?_, rfl⟩
  rw [bne_self_eq_false]
theorem ucmp_C (a b : Int) (S : Mem) : C Tryd.prog G Ext 51 [.int .u64 a, .int .u64 b] S fun v S' => v = .int .i64 (cmpI a b) ∧ S' = S := by
  refine C.fn Tryd.func51 rfl (by kernel_rfl) rfl ?_
  repeat first|refine W.g ?_|refine L.p rfl rfl ?_|refine L.nil ?_|refine L.skip rfl ?_
  refine L.cl (unan_C a S) rfl rfl ?_
  rintro _ _ ⟨rfl, rfl⟩
  refine ⟨nofun, ?_⟩
  repeat first|refine W.g ?_|refine L.p rfl rfl ?_|refine L.nil ?_|refine L.skip rfl ?_
  refine L.cl (unan_C b _) rfl rfl ?_
  rintro _ _ ⟨rfl, rfl⟩
  refine ⟨nofun, ?_⟩
  repeat first|refine W.g ?_|refine L.p rfl rfl ?_|refine L.nil ?_|refine L.skip rfl ?_
  refine W.condF rfl ?_
  repeat first|refine W.g ?_|refine L.p rfl rfl ?_|refine L.nil ?_|refine L.skip rfl ?_
  refine W.condF rfl ?_
  repeat first|refine W.g ?_|refine L.p rfl rfl ?_|refine L.nil ?_|refine L.skip rfl ?_
  refine W.ite rfl (fun h => ?_) (fun h => ?_)
  · have h1 : a < b := of_decide_eq_true h
    repeat first|refine W.g ?_|refine L.p rfl rfl ?_|refine L.nil ?_|refine L.skip rfl ?_
    exact ⟨.inr rfl, _, rfl, by unfold cmpI; rw [if_pos h1]; rfl, rfl⟩
  have h1 : ¬ a < b := of_decide_eq_false h
  clear h
  repeat first|refine W.g ?_|refine L.p rfl rfl ?_|refine L.nil ?_|refine L.skip rfl ?_
  refine W.ite rfl (fun h => ?_) (fun h => ?_)
  · have h2 : b < a := of_decide_eq_true h
    repeat first|refine W.g ?_|refine L.p rfl rfl ?_|refine L.nil ?_|refine L.skip rfl ?_
    exact ⟨.inr rfl, _, rfl, by unfold cmpI; rw [if_neg h1, if_pos h2]; rfl, rfl⟩
  have h2 : ¬ b < a := of_decide_eq_false h
  repeat first|refine W.g ?_|refine L.p rfl rfl ?_|refine L.nil ?_|refine L.skip rfl ?_
  exact ⟨.inr rfl, _, rfl, by unfold cmpI; rw [if_neg h1, if_neg h2]; rfl, rfl⟩
theorem toW_ge' {N : Nat} (h : 0 < (toW N).length) : 2 ^ (64 * ((toW N).length - 1)) ≤ N := by
  refine Classical.byContradiction fun hc => ?_
  have := (toW_len N ((toW N).length - 1)).2 (by omega)
  omega
theorem cmp_len {l1 l2 : WL} (h : (fm l1).length < (fm l2).length) : wnum l1 < wnum l2 := by
  have h1 := wnum_lt (fm l1)
  rw [show wnum (fm l1) = wnum l1 from wnum_toW _] at h1
  have h2 := toW_ge' (N := wnum l2) (show 0 < (fm l2).length by omega)
  have h3 : 2 ^ (64 * (fm l1).length) ≤ 2 ^ (64 * ((toW (wnum l2)).length - 1)) := Nat.pow_le_pow_right (by omega) (by have : (fm l2).length = (toW (wnum l2)).length := rfl; omega)
  omega
theorem split_at {f : WL} {k : Nat} {x : BitVec 64} (h : f[k]? = some x) : wnum f = wnum (f.take k) + 2 ^ (64 * k) * (x.toNat + 18446744073709551616 * wnum (f.drop (k + 1))) := by
  have hlt := (List.getElem?_eq_some_iff.1 h).1
  have hx := (List.getElem?_eq_some_iff.1 h).2
  have h1 : f = f.take k ++ (x :: f.drop (k + 1)) := by
    conv => lhs; rw [← List.take_append_drop k f, List.drop_eq_getElem_cons hlt, hx]
  conv => lhs; rw [h1]
  rw [wnum_append, List.length_take, Nat.min_eq_left (by omega)]; rfl
theorem cmp_at {f g : WL} {k : Nat} {x y : BitVec 64} (hx : f[k]? = some x) (hy : g[k]? = some y) (he : f.drop (k + 1) = g.drop (k + 1)) (h : x.toNat < y.toNat) : wnum f < wnum g := by
  rw [split_at hx, split_at hy, he]
  have h1 := wnum_lt (f.take k)
  have h2 : 2 ^ (64 * (f.take k).length) ≤ 2 ^ (64 * k) := Nat.pow_le_pow_right (by omega) (by rw [List.length_take]; omega)
  have h3 := Nat.mul_le_mul_left (2 ^ (64 * k)) (show x.toNat + 18446744073709551616 * wnum (g.drop (k + 1)) + 1 ≤ y.toNat + 18446744073709551616 * wnum (g.drop (k + 1)) by omega)
  rw [Nat.mul_add (2 ^ (64 * k)) (x.toNat + 18446744073709551616 * wnum (g.drop (k + 1))) 1, Nat.mul_one] at h3
  omega
theorem drop_same {f g : WL} {k : Nat} (h : ∀ p, k ≤ p → f[p]? = g[p]?) : f.drop k = g.drop k := List.ext_getElem? fun i => by rw [List.getElem?_drop, List.getElem?_drop]; exact h _ (by omega)
theorem natCmp_C (a1 a2 : Option Addr) (c1 c2 : Nat) (l1 l2 : WL) (S : Mem) (h1 : WIn S a1 c1 l1) (h2 : WIn S a2 c2 l2) :
    C Tryd.prog G Ext 24 [.slice a1 l1.length c1, .slice a2 l2.length c2] S fun v S' => v = .int .i64 (cmpI (wnum l1) (wnum l2)) ∧ S' = S := by
  refine C.fn Tryd.func24 rfl (by kernel_rfl) rfl ?_
  repeat first|refine W.g ?_|refine L.p rfl rfl ?_|refine L.nil ?_|refine L.skip rfl ?_
  refine L.cl (trim_C a1 c1 l1 _ h1) rfl rfl ?_
  rintro _ _ ⟨rfl, rfl⟩
  refine ⟨nofun, ?_⟩
  repeat first|refine W.g ?_|refine L.p rfl rfl ?_|refine L.nil ?_|refine L.skip rfl ?_
  refine L.cl (trim_C a2 c2 l2 _ h2) rfl rfl ?_
  rintro _ _ ⟨rfl, rfl⟩
  refine ⟨nofun, ?_⟩
  have hF1 := h1.form
  have hF2 := h2.form
  have hl1 := hF1.2.2.2
  have hl2 := hF2.2.2.2
  have e1 : wnum (fm l1) = wnum l1 := wnum_toW _
  have e2 : wnum (fm l2) = wnum l2 := wnum_toW _
  have q1 := fun h => cmp_len (l1 := l1) (l2 := l2) h
  have q2 := fun h => cmp_len (l1 := l2) (l2 := l1) h
  rw [← e1, ← e2] at q1 q2
  rw [← e1, ← e2]
  generalize fm l1 = f at *
  generalize fm l2 = g at *
  repeat first|refine W.g ?_|refine L.p rfl rfl ?_|refine L.nil ?_|refine L.skip rfl ?_
  refine W.ite rfl (fun h => ?_) (fun h => ?_)
  · have hne : f.length ≠ g.length := fun he => by rw [he] at h; simp at h
    clear h
    repeat first|refine W.g ?_|refine L.p rfl rfl ?_|refine L.nil ?_|refine L.skip rfl ?_
    refine L.cl (icmp_C _ _ _) rfl rfl ?_
    rintro _ _ ⟨rfl, rfl⟩
    refine ⟨nofun, ?_⟩
    repeat first|refine W.g ?_|refine L.p rfl rfl ?_|refine L.nil ?_|refine L.skip rfl ?_
    refine ⟨.inr rfl, _, rfl, ?_, rfl⟩
    show Value.int .i64 (cmpI _ _) = _
    congr 1
    unfold cmpI
    rcases Nat.lt_or_gt_of_ne hne with h | h
    · have := q1 h
      rw [if_pos (by omega), if_pos (by omega)]
    · have := q2 h
      rw [if_neg (by omega), if_pos (by omega), if_neg (by omega), if_pos (by omega)]
  have heq : f.length = g.length := by
    refine Classical.byContradiction fun hc => ?_
    have : ((f.length : Int) != (g.length : Int)) = true := by rw [bne_iff_ne]; omega
    rw [this] at h; cases h
  clear h q1 q2
  rename Mem => S
  repeat first|refine W.g ?_|refine L.p rfl rfl ?_|refine L.nil ?_|refine L.skip rfl ?_
  refine W.loop (fun j e T => ∃ k : Nat, j = k ∧ k ≤ f.length ∧ T = S ∧ e 0 = .slice a1 f.length c1 ∧ e 1 = .slice a2 g.length c2 ∧ e 5 = .int .i64 ((k : Int) - 1) ∧ ∀ p, k ≤ p → f[p]? = g[p]?) f.length
    ⟨f.length, rfl, Nat.le_refl _, rfl, rfl, rfl, ?_, fun p hp => ?_⟩ ?_
  · exact congrArg (Value.int .i64) (wrap64 (by omega) (by omega))
  · rw [List.getElem?_eq_none (by omega), List.getElem?_eq_none (by omega)]
  rintro j e T ⟨k, rfl, hk, rfl, e0, e1', e5, hp⟩
  refine W.env3 e0 e1' e5 ?_
  repeat first|refine W.g ?_|refine L.p rfl rfl ?_|refine L.nil ?_|refine L.skip rfl ?_
  refine W.ite rfl (fun h => ?_) (fun h => ?_)
  · have hk1 : 1 ≤ j := by have := of_decide_eq_true h; omega
    clear h
    obtain ⟨m, rfl⟩ : ∃ m, j = m + 1 := ⟨j - 1, by omega⟩
    have hm : (((m + 1 : Nat) : Int) - 1) = (m : Int) := by omega
    rw [hm]
    obtain ⟨x, hx⟩ : ∃ x, f[m]? = some x := ⟨_, List.getElem?_eq_getElem (by omega)⟩
    obtain ⟨y, hy⟩ : ∃ y, g[m]? = some y := ⟨_, List.getElem?_eq_getElem (by omega)⟩
    repeat first|refine W.g ?_|refine L.p rfl rfl ?_|refine L.nil ?_|refine L.skip rfl ?_
    refine L.el hF1.1 (k := m) rfl (wv_get hx) rfl rfl rfl rfl (fun _ => rfl) rfl (fun p => ?_)
    repeat first|refine W.g ?_|refine L.p rfl rfl ?_|refine L.nil ?_|refine L.skip rfl ?_
    refine L.el hF2.1 (k := m) rfl (wv_get hy) rfl rfl rfl rfl (fun _ => rfl) rfl (fun p => ?_)
    repeat first|refine W.g ?_|refine L.p rfl rfl ?_|refine L.nil ?_|refine L.skip rfl ?_
    refine W.ite rfl (fun h => ?_) (fun h => ?_)
    · have hne : x ≠ y := by rw [v64_ne] at h; simpa using h
      clear h
      repeat first|refine W.g ?_|refine L.p rfl rfl ?_|refine L.nil ?_|refine L.skip rfl ?_
      refine L.el hF1.1 (k := m) rfl (wv_get hx) rfl rfl rfl rfl (fun _ => rfl) rfl (fun p => ?_)
      repeat first|refine W.g ?_|refine L.p rfl rfl ?_|refine L.nil ?_|refine L.skip rfl ?_
      refine L.el hF2.1 (k := m) rfl (wv_get hy) rfl rfl rfl rfl (fun _ => rfl) rfl (fun p => ?_)
      refine L.cl (ucmp_C _ _ _) rfl rfl ?_
      rintro _ _ ⟨rfl, rfl⟩
      refine ⟨fun _ => Cons.refl _, ?_⟩
      repeat first|refine W.g ?_|refine L.p rfl rfl ?_|refine L.nil ?_|refine L.skip rfl ?_
      refine ⟨.inr rfl, _, rfl, ?_, rfl⟩
      show Value.int .i64 (cmpI _ _) = _
      congr 1
      unfold cmpI
      have hd : f.drop (m + 1) = g.drop (m + 1) := drop_same hp
      have hne2 : x.toNat ≠ y.toNat := fun h => hne (BitVec.eq_of_toNat_eq h)
      rcases Nat.lt_or_gt_of_ne hne2 with h | h
      · have := cmp_at hx hy hd h
        rw [if_pos (by omega), if_pos (by omega)]
      · have := cmp_at hy hx hd.symm h
        rw [if_neg (by omega), if_pos (by omega), if_neg (by omega), if_pos (by omega)]
    · have hxy : x = y := by rw [v64_ne] at h; simpa using h
      clear h
      repeat first|refine W.g ?_|refine L.p rfl rfl ?_|refine L.nil ?_|refine L.skip rfl ?_
      refine ⟨m, by omega, m, rfl, by omega, rfl, rfl, rfl, ?_, fun p hp1 => ?_⟩
      · refine (force_eq rfl).trans ?_
        rw [wrap64 (by omega) (by omega)]
      · rcases Nat.lt_or_ge m p with h | h
        · exact hp p (by omega)
        · have : p = m := by omega
          subst this
          rw [hx, hy, hxy]
  · have hk0 : j = 0 := by have := of_decide_eq_false h; omega
    subst hk0
    clear h
    have hfg : f = g := List.ext_getElem? fun p => hp p (Nat.zero_le _)
    repeat first|refine W.g ?_|refine L.p rfl rfl ?_|refine L.nil ?_|refine L.skip rfl ?_
    refine ⟨.inr rfl, _, rfl, ?_, rfl⟩
    subst hfg
    unfold cmpI
    rw [if_neg (by omega), if_neg (by omega)]; rfl
end Go.Proofs.YtlnlcddbllcehaaDoor

/- Layer 1: sums. Conditions: none. -/
set_option linter.unusedSimpArgs false
set_option linter.unusedVariables false
set_option maxRecDepth 100000
set_option maxHeartbeats 4000000
namespace Go.Proofs.YtlnlcddbllcehaaDoor
open Go
variable {G : Nat} {Ext : FuncId → List Value → Mem → Outc → Mem → Prop}
theorem take_more {l : WL} {i : Nat} (h : l.length ≤ i) : l.take (i + 1) = l.take i := by rw [List.take_of_length_le (by omega), List.take_of_length_le h]
/-- what is made by 'add' -/
def SumR (S S' : Mem) (v : Value) (N : Nat) : Prop := ∃ (ro : Nat) (o : WL) (n : Nat), v = .slice (some ⟨ro, 0, none⟩) n n ∧ S.length ≤ ro ∧ Cons S S' ∧ S'.row? ro = some (newR (wv o) 39) ∧ o.length = n ∧ n < 1000000 ∧ wnum o = N
theorem add_C (a1 a2 : Option Addr) (c1 c2 : Nat) (l1 l2 : WL) (S : Mem) (h1 : WIn S a1 c1 l1) (h2 : WIn S a2 c2 l2) (n1 : l1.length < 100000) (n2 : l2.length < 100000) :
    C Tryd.prog G Ext 48 [.slice a1 l1.length c1, .slice a2 l2.length c2] S fun v S' => SumR S S' v (wnum l1 + wnum l2) := by
  refine C.fn Tryd.func48 rfl (by kernel_rfl) rfl ?_
  repeat first|refine W.g ?_|refine L.p rfl rfl ?_|refine L.nil ?_|refine L.skip rfl ?_
  refine W.ite rfl (fun h => ?_) (fun h => ?_)
  · have hlt : l1.length < l2.length := by have := of_decide_eq_true h; omega
    clear h
    rw [Nat.add_comm (wnum l1)]
    repeat first|refine W.g ?_|refine L.p rfl rfl ?_|refine L.nil ?_|refine L.skip rfl ?_
    have hw1 : IntKind.i64.wrap ((l2.length : Int) + 1) = ((l2.length + 1 : Nat) : Int) := by rw [wrap64 (by omega) (by omega)]; rfl
    refine L.mk (n := l2.length + 1) (m := l2.length + 1) (bytes := 8) (zv := v64 0#64) rfl rfl hw1 rfl hw1 (Nat.le_refl _) (by omega) rfl rfl ?_
    have hro : Mem.row? (S ++ [newR (List.replicate (l2.length + 1) (v64 0#64)) 39]) S.length = some (newR (wv (List.replicate (l2.length + 1) 0#64)) 39) := by
      rw [row_push_new rfl]; simp [wv]
    have hc := Cons.push S (newR (List.replicate (l2.length + 1) (v64 0#64)) 39)
    generalize S ++ [newR (List.replicate (l2.length + 1) (v64 0#64)) 39] = S1 at *
    obtain ⟨ro, hro0⟩ : ∃ ro, ro = S.length := ⟨_, rfl⟩
    rw [← hro0] at hro ⊢
    repeat first|refine W.g ?_|refine L.p rfl rfl ?_|refine L.nil ?_|refine L.skip rfl ?_
    refine W.loop (fun j e T => ∃ (i : Nat) (o : WL) (cr : Nat), j = l2.length - i ∧ i ≤ l2.length ∧ e 0 = .slice a2 l2.length c2 ∧ e 1 = .slice a1 l1.length c1 ∧ e 5 = .slice (some ⟨ro, 0, none⟩) (l2.length + 1) (l2.length + 1) ∧ e 6 = .int .u64 (cr : Int) ∧ e 21 = vi l2.length ∧ e 22 = vi i ∧ Cons S T ∧ T.row? ro = some (newR (wv o) 39) ∧ o.length = l2.length + 1 ∧ cr ≤ 1 ∧ wnum o + cr * 2 ^ (64 * i) = wnum (l2.take i) + wnum (l1.take i) ∧ ∀ p, i ≤ p → p < l2.length + 1 → o[p]? = some 0#64) l2.length
      ⟨0, List.replicate (l2.length + 1) 0#64, 0, by omega, by omega, rfl, rfl, rfl, rfl, rfl, rfl, hc, hro, by simp, by omega, by rw [wnum_zeros]; simp [wnum], fun p _ hp => by simp [hp]⟩ ?_
    clear hro hc
    rintro j e T ⟨i, o, cr, rfl, hi, e0, e1, e5, e6, e21, e22, hkT, hro, hol, hcr, hsum, hz⟩
    refine W.env6 e0 e1 e5 e6 e21 e22 ?_
    repeat first|refine W.g ?_|refine L.p rfl rfl ?_|refine L.nil ?_|refine L.skip rfl ?_
    refine W.ite rfl (fun h => ?_) (fun h => ?_)
    · have hin : i < l2.length := by have := of_decide_eq_true h; omega
      clear h
      obtain ⟨x, hx⟩ : ∃ x, l2[i]? = some x := ⟨_, List.getElem?_eq_getElem hin⟩
      have hxl := x.isLt
      have hz0 := hz i (Nat.le_refl _) (by omega)
      repeat first|refine W.g ?_|refine L.p rfl rfl ?_|refine L.nil ?_|refine L.skip rfl ?_
      refine W.ite rfl (fun h => ?_) (fun h => ?_)
      · have hi2 : i < l1.length := by have := of_decide_eq_true h; omega
        clear h
        obtain ⟨y, hy⟩ : ∃ y, l1[i]? = some y := ⟨_, List.getElem?_eq_getElem hi2⟩
        have hyl := y.isLt
        have hty := wnum_take_succ hy
        repeat first|refine W.g ?_|refine L.p rfl rfl ?_|refine L.nil ?_|refine L.skip rfl ?_
        refine L.el (h1.1.cons hkT) (k := i) rfl (wv_get hy) rfl rfl rfl rfl (fun _ => rfl) rfl (fun p => ?_)
        repeat first|refine W.g ?_|refine L.p rfl rfl ?_|refine L.nil ?_|refine L.skip rfl ?_
        refine L.el (h2.1.cons hkT) (k := i) rfl (wv_get hx) rfl rfl rfl rfl (fun _ => rfl) rfl (fun p => ?_)
        repeat first|refine W.g ?_|refine L.p rfl rfl ?_|refine L.nil ?_|refine L.skip rfl ?_
        refine L.add64 (a := x.toNat) (b := y.toNat) (c := cr) hcr rfl rfl ?_
        repeat first|refine W.g ?_|refine L.p rfl rfl ?_|refine L.nil ?_|refine L.skip rfl ?_
        obtain ⟨r, hr⟩ : ∃ r : BitVec 64, r = BitVec.ofNat 64 ((x.toNat + y.toNat + cr) % 18446744073709551616) := ⟨_, rfl⟩
        have hrv : r.toNat = (x.toNat + y.toNat + cr) % 18446744073709551616 := by rw [hr, BitVec.toNat_ofNat]; exact Nat.mod_eq_of_lt (Nat.mod_lt _ (by decide))
        rw [← hrv]
        refine L.elst hro rfl (by show 0 + (l2.length + 1) ≤ (wv o).length; rw [wv_len, hol]; omega) (k := i) rfl (by omega) rfl rfl rfl rfl (fun _ => rfl) (fun _ => rfl) rfl rfl rfl (fun p => ?_)
        have hr2 : Mem.row? (List.set T ro { newR (wv o) 39 with cells := (newR (wv o) 39).cells.set (0 + i) (v64 r) }) ro = some (newR (wv (o.set i r)) 39) := by
          rw [row_set_same hro rfl, Nat.zero_add]
          simp [newR, wv, List.map_set]
        have hk6 := hkT.set ro { newR (wv o) 39 with cells := (newR (wv o) 39).cells.set (0 + i) (v64 r) } (by omega)
        have hws := wnum_set (y := r) hz0
        generalize List.set T ro _ = T6 at *
        repeat first|refine W.g ?_|refine L.p rfl rfl ?_|refine L.nil ?_|refine L.skip rfl ?_
        refine ⟨l2.length - (i + 1), by omega, i + 1, o.set i r, (x.toNat + y.toNat + cr) / 18446744073709551616, rfl, by omega, rfl, rfl, rfl, rfl, rfl, ?_, hk6, hr2, by simpa using hol, by omega, ?_, fun p hp1 hp2 => ?_⟩
        · refine (force_eq rfl).trans ?_
          rw [wrap64 (by omega) (by omega)]; rfl
        · rw [wnum_take_succ hx, hty]
          have hz1 : (0#64 : BitVec 64).toNat * 2 ^ (64 * i) = 0 := Nat.zero_mul _
          rw [hz1, hrv] at hws
          have hp : 2 ^ (64 * (i + 1)) = 2 ^ (64 * i) * 18446744073709551616 := by rw [show 64 * (i + 1) = 64 * i + 64 by omega, Nat.pow_add]
          rw [hp]
          have e3 : (x.toNat + y.toNat + cr) / 18446744073709551616 * (2 ^ (64 * i) * 18446744073709551616) + (x.toNat + y.toNat + cr) % 18446744073709551616 * 2 ^ (64 * i) = (x.toNat + y.toNat + cr) * 2 ^ (64 * i) := by
            rw [Nat.mul_comm (2 ^ (64 * i)), ← Nat.mul_assoc, ← Nat.add_mul, Nat.mul_comm _ 18446744073709551616, Nat.div_add_mod]
          rw [Nat.add_mul, Nat.add_mul] at e3
          rw [Nat.mul_comm _ x.toNat, Nat.mul_comm _ (y.toNat)]
          omega
        · rw [List.getElem?_set, if_neg (by omega)]; exact hz p (by omega) hp2
      · have hi2 : l1.length ≤ i := by have := of_decide_eq_false h; omega
        clear h
        have hty : wnum (l1.take (i + 1)) = wnum (l1.take i) + 2 ^ (64 * i) * 0 := by rw [take_more hi2]; omega
        repeat first|refine W.g ?_|refine L.p rfl rfl ?_|refine L.nil ?_|refine L.skip rfl ?_
        refine L.el (h2.1.cons hkT) (k := i) rfl (wv_get hx) rfl rfl rfl rfl (fun _ => rfl) rfl (fun p => ?_)
        repeat first|refine W.g ?_|refine L.p rfl rfl ?_|refine L.nil ?_|refine L.skip rfl ?_
        refine L.add64 (a := x.toNat) (b := 0) (c := cr) hcr rfl rfl ?_
        repeat first|refine W.g ?_|refine L.p rfl rfl ?_|refine L.nil ?_|refine L.skip rfl ?_
        obtain ⟨r, hr⟩ : ∃ r : BitVec 64, r = BitVec.ofNat 64 ((x.toNat + 0 + cr) % 18446744073709551616) := ⟨_, rfl⟩
        have hrv : r.toNat = (x.toNat + 0 + cr) % 18446744073709551616 := by rw [hr, BitVec.toNat_ofNat]; exact Nat.mod_eq_of_lt (Nat.mod_lt _ (by decide))
        rw [← hrv]
        refine L.elst hro rfl (by show 0 + (l2.length + 1) ≤ (wv o).length; rw [wv_len, hol]; omega) (k := i) rfl (by omega) rfl rfl rfl rfl (fun _ => rfl) (fun _ => rfl) rfl rfl rfl (fun p => ?_)
        have hr2 : Mem.row? (List.set T ro { newR (wv o) 39 with cells := (newR (wv o) 39).cells.set (0 + i) (v64 r) }) ro = some (newR (wv (o.set i r)) 39) := by
          rw [row_set_same hro rfl, Nat.zero_add]
          simp [newR, wv, List.map_set]
        have hk6 := hkT.set ro { newR (wv o) 39 with cells := (newR (wv o) 39).cells.set (0 + i) (v64 r) } (by omega)
        have hws := wnum_set (y := r) hz0
        generalize List.set T ro _ = T6 at *
        repeat first|refine W.g ?_|refine L.p rfl rfl ?_|refine L.nil ?_|refine L.skip rfl ?_
        refine ⟨l2.length - (i + 1), by omega, i + 1, o.set i r, (x.toNat + 0 + cr) / 18446744073709551616, rfl, by omega, rfl, rfl, rfl, rfl, rfl, ?_, hk6, hr2, by simpa using hol, by omega, ?_, fun p hp1 hp2 => ?_⟩
        · refine (force_eq rfl).trans ?_
          rw [wrap64 (by omega) (by omega)]; rfl
        · rw [wnum_take_succ hx, hty]
          have hz1 : (0#64 : BitVec 64).toNat * 2 ^ (64 * i) = 0 := Nat.zero_mul _
          rw [hz1, hrv] at hws
          have hp : 2 ^ (64 * (i + 1)) = 2 ^ (64 * i) * 18446744073709551616 := by rw [show 64 * (i + 1) = 64 * i + 64 by omega, Nat.pow_add]
          rw [hp]
          have e3 : (x.toNat + 0 + cr) / 18446744073709551616 * (2 ^ (64 * i) * 18446744073709551616) + (x.toNat + 0 + cr) % 18446744073709551616 * 2 ^ (64 * i) = (x.toNat + 0 + cr) * 2 ^ (64 * i) := by
            rw [Nat.mul_comm (2 ^ (64 * i)), ← Nat.mul_assoc, ← Nat.add_mul, Nat.mul_comm _ 18446744073709551616, Nat.div_add_mod]
          rw [Nat.add_mul, Nat.add_mul] at e3
          rw [Nat.mul_comm _ x.toNat, Nat.mul_comm _ (0)]
          omega
        · rw [List.getElem?_set, if_neg (by omega)]; exact hz p (by omega) hp2
    · have hin : i = l2.length := by have := of_decide_eq_false h; omega
      subst hin
      clear h
      rw [List.take_length, List.take_of_length_le (show l1.length ≤ l2.length by omega)] at hsum
      have hz0 := hz l2.length (Nat.le_refl _) (by omega)
      obtain ⟨r, hr⟩ : ∃ r : BitVec 64, r = BitVec.ofNat 64 cr := ⟨_, rfl⟩
      have hrv : r.toNat = cr := by rw [hr, BitVec.toNat_ofNat]; exact Nat.mod_eq_of_lt (by omega)
      rw [← hrv]
      repeat first|refine W.g ?_|refine L.p rfl rfl ?_|refine L.nil ?_|refine L.skip rfl ?_
      refine L.elst hro rfl (by show 0 + (l2.length + 1) ≤ (wv o).length; rw [wv_len, hol]; omega) (k := l2.length) rfl (by omega) rfl rfl rfl rfl (fun _ => rfl) (fun _ => rfl) rfl rfl rfl (fun p => ?_)
      have hr2 : Mem.row? (List.set T ro { newR (wv o) 39 with cells := (newR (wv o) 39).cells.set (0 + l2.length) (v64 r) }) ro = some (newR (wv (o.set l2.length r)) 39) := by
        rw [row_set_same hro rfl, Nat.zero_add]
        simp [newR, wv, List.map_set]
      have hk6 := hkT.set ro { newR (wv o) 39 with cells := (newR (wv o) 39).cells.set (0 + l2.length) (v64 r) } (by omega)
      have hws := wnum_set (y := r) hz0
      generalize List.set T ro _ = T6 at *
      repeat first|refine W.g ?_|refine L.p rfl rfl ?_|refine L.nil ?_|refine L.skip rfl ?_
      have hz1 : (0#64 : BitVec 64).toNat * 2 ^ (64 * l2.length) = 0 := Nat.zero_mul _
      rw [hz1, hrv] at hws
      exact ⟨.inr rfl, _, rfl, ro, o.set l2.length r, l2.length + 1, rfl, by omega, hk6, hr2, by simpa using hol, by omega, by omega⟩
  · have hlt : l2.length ≤ l1.length := by have := of_decide_eq_false h; omega
    clear h
    repeat first|refine W.g ?_|refine L.p rfl rfl ?_|refine L.nil ?_|refine L.skip rfl ?_
    have hw1 : IntKind.i64.wrap ((l1.length : Int) + 1) = ((l1.length + 1 : Nat) : Int) := by rw [wrap64 (by omega) (by omega)]; rfl
    refine L.mk (n := l1.length + 1) (m := l1.length + 1) (bytes := 8) (zv := v64 0#64) rfl rfl hw1 rfl hw1 (Nat.le_refl _) (by omega) rfl rfl ?_
    have hro : Mem.row? (S ++ [newR (List.replicate (l1.length + 1) (v64 0#64)) 39]) S.length = some (newR (wv (List.replicate (l1.length + 1) 0#64)) 39) := by
      rw [row_push_new rfl]; simp [wv]
    have hc := Cons.push S (newR (List.replicate (l1.length + 1) (v64 0#64)) 39)
    generalize S ++ [newR (List.replicate (l1.length + 1) (v64 0#64)) 39] = S1 at *
    obtain ⟨ro, hro0⟩ : ∃ ro, ro = S.length := ⟨_, rfl⟩
    rw [← hro0] at hro ⊢
    repeat first|refine W.g ?_|refine L.p rfl rfl ?_|refine L.nil ?_|refine L.skip rfl ?_
    refine W.loop (fun j e T => ∃ (i : Nat) (o : WL) (cr : Nat), j = l1.length - i ∧ i ≤ l1.length ∧ e 0 = .slice a1 l1.length c1 ∧ e 1 = .slice a2 l2.length c2 ∧ e 5 = .slice (some ⟨ro, 0, none⟩) (l1.length + 1) (l1.length + 1) ∧ e 6 = .int .u64 (cr : Int) ∧ e 21 = vi l1.length ∧ e 22 = vi i ∧ Cons S T ∧ T.row? ro = some (newR (wv o) 39) ∧ o.length = l1.length + 1 ∧ cr ≤ 1 ∧ wnum o + cr * 2 ^ (64 * i) = wnum (l1.take i) + wnum (l2.take i) ∧ ∀ p, i ≤ p → p < l1.length + 1 → o[p]? = some 0#64) l1.length
      ⟨0, List.replicate (l1.length + 1) 0#64, 0, by omega, by omega, rfl, rfl, rfl, rfl, rfl, rfl, hc, hro, by simp, by omega, by rw [wnum_zeros]; simp [wnum], fun p _ hp => by simp [hp]⟩ ?_
    clear hro hc
    rintro j e T ⟨i, o, cr, rfl, hi, e0, e1, e5, e6, e21, e22, hkT, hro, hol, hcr, hsum, hz⟩
    refine W.env6 e0 e1 e5 e6 e21 e22 ?_
    repeat first|refine W.g ?_|refine L.p rfl rfl ?_|refine L.nil ?_|refine L.skip rfl ?_
    refine W.ite rfl (fun h => ?_) (fun h => ?_)
    · have hin : i < l1.length := by have := of_decide_eq_true h; omega
      clear h
      obtain ⟨x, hx⟩ : ∃ x, l1[i]? = some x := ⟨_, List.getElem?_eq_getElem hin⟩
      have hxl := x.isLt
      have hz0 := hz i (Nat.le_refl _) (by omega)
      repeat first|refine W.g ?_|refine L.p rfl rfl ?_|refine L.nil ?_|refine L.skip rfl ?_
      refine W.ite rfl (fun h => ?_) (fun h => ?_)
      · have hi2 : i < l2.length := by have := of_decide_eq_true h; omega
        clear h
        obtain ⟨y, hy⟩ : ∃ y, l2[i]? = some y := ⟨_, List.getElem?_eq_getElem hi2⟩
        have hyl := y.isLt
        have hty := wnum_take_succ hy
        repeat first|refine W.g ?_|refine L.p rfl rfl ?_|refine L.nil ?_|refine L.skip rfl ?_
        refine L.el (h2.1.cons hkT) (k := i) rfl (wv_get hy) rfl rfl rfl rfl (fun _ => rfl) rfl (fun p => ?_)
        repeat first|refine W.g ?_|refine L.p rfl rfl ?_|refine L.nil ?_|refine L.skip rfl ?_
        refine L.el (h1.1.cons hkT) (k := i) rfl (wv_get hx) rfl rfl rfl rfl (fun _ => rfl) rfl (fun p => ?_)
        repeat first|refine W.g ?_|refine L.p rfl rfl ?_|refine L.nil ?_|refine L.skip rfl ?_
        refine L.add64 (a := x.toNat) (b := y.toNat) (c := cr) hcr rfl rfl ?_
        repeat first|refine W.g ?_|refine L.p rfl rfl ?_|refine L.nil ?_|refine L.skip rfl ?_
        obtain ⟨r, hr⟩ : ∃ r : BitVec 64, r = BitVec.ofNat 64 ((x.toNat + y.toNat + cr) % 18446744073709551616) := ⟨_, rfl⟩
        have hrv : r.toNat = (x.toNat + y.toNat + cr) % 18446744073709551616 := by rw [hr, BitVec.toNat_ofNat]; exact Nat.mod_eq_of_lt (Nat.mod_lt _ (by decide))
        rw [← hrv]
        refine L.elst hro rfl (by show 0 + (l1.length + 1) ≤ (wv o).length; rw [wv_len, hol]; omega) (k := i) rfl (by omega) rfl rfl rfl rfl (fun _ => rfl) (fun _ => rfl) rfl rfl rfl (fun p => ?_)
        have hr2 : Mem.row? (List.set T ro { newR (wv o) 39 with cells := (newR (wv o) 39).cells.set (0 + i) (v64 r) }) ro = some (newR (wv (o.set i r)) 39) := by
          rw [row_set_same hro rfl, Nat.zero_add]
          simp [newR, wv, List.map_set]
        have hk6 := hkT.set ro { newR (wv o) 39 with cells := (newR (wv o) 39).cells.set (0 + i) (v64 r) } (by omega)
        have hws := wnum_set (y := r) hz0
        generalize List.set T ro _ = T6 at *
        repeat first|refine W.g ?_|refine L.p rfl rfl ?_|refine L.nil ?_|refine L.skip rfl ?_
        refine ⟨l1.length - (i + 1), by omega, i + 1, o.set i r, (x.toNat + y.toNat + cr) / 18446744073709551616, rfl, by omega, rfl, rfl, rfl, rfl, rfl, ?_, hk6, hr2, by simpa using hol, by omega, ?_, fun p hp1 hp2 => ?_⟩
        · refine (force_eq rfl).trans ?_
          rw [wrap64 (by omega) (by omega)]; rfl
        · rw [wnum_take_succ hx, hty]
          have hz1 : (0#64 : BitVec 64).toNat * 2 ^ (64 * i) = 0 := Nat.zero_mul _
          rw [hz1, hrv] at hws
          have hp : 2 ^ (64 * (i + 1)) = 2 ^ (64 * i) * 18446744073709551616 := by rw [show 64 * (i + 1) = 64 * i + 64 by omega, Nat.pow_add]
          rw [hp]
          have e3 : (x.toNat + y.toNat + cr) / 18446744073709551616 * (2 ^ (64 * i) * 18446744073709551616) + (x.toNat + y.toNat + cr) % 18446744073709551616 * 2 ^ (64 * i) = (x.toNat + y.toNat + cr) * 2 ^ (64 * i) := by
            rw [Nat.mul_comm (2 ^ (64 * i)), ← Nat.mul_assoc, ← Nat.add_mul, Nat.mul_comm _ 18446744073709551616, Nat.div_add_mod]
          rw [Nat.add_mul, Nat.add_mul] at e3
          rw [Nat.mul_comm _ x.toNat, Nat.mul_comm _ (y.toNat)]
          omega
        · rw [List.getElem?_set, if_neg (by omega)]; exact hz p (by omega) hp2
      · have hi2 : l2.length ≤ i := by have := of_decide_eq_false h; omega
        clear h
        have hty : wnum (l2.take (i + 1)) = wnum (l2.take i) + 2 ^ (64 * i) * 0 := by rw [take_more hi2]; omega
        repeat first|refine W.g ?_|refine L.p rfl rfl ?_|refine L.nil ?_|refine L.skip rfl ?_
        refine L.el (h1.1.cons hkT) (k := i) rfl (wv_get hx) rfl rfl rfl rfl (fun _ => rfl) rfl (fun p => ?_)
        repeat first|refine W.g ?_|refine L.p rfl rfl ?_|refine L.nil ?_|refine L.skip rfl ?_
        refine L.add64 (a := x.toNat) (b := 0) (c := cr) hcr rfl rfl ?_
        repeat first|refine W.g ?_|refine L.p rfl rfl ?_|refine L.nil ?_|refine L.skip rfl ?_
        obtain ⟨r, hr⟩ : ∃ r : BitVec 64, r = BitVec.ofNat 64 ((x.toNat + 0 + cr) % 18446744073709551616) := ⟨_, rfl⟩
        have hrv : r.toNat = (x.toNat + 0 + cr) % 18446744073709551616 := by rw [hr, BitVec.toNat_ofNat]; exact Nat.mod_eq_of_lt (Nat.mod_lt _ (by decide))
        rw [← hrv]
        refine L.elst hro rfl (by show 0 + (l1.length + 1) ≤ (wv o).length; rw [wv_len, hol]; omega) (k := i) rfl (by omega) rfl rfl rfl rfl (fun _ => rfl) (fun _ => rfl) rfl rfl rfl (fun p => ?_)
        have hr2 : Mem.row? (List.set T ro { newR (wv o) 39 with cells := (newR (wv o) 39).cells.set (0 + i) (v64 r) }) ro = some (newR (wv (o.set i r)) 39) := by
          rw [row_set_same hro rfl, Nat.zero_add]
          simp [newR, wv, List.map_set]
        have hk6 := hkT.set ro { newR (wv o) 39 with cells := (newR (wv o) 39).cells.set (0 + i) (v64 r) } (by omega)
        have hws := wnum_set (y := r) hz0
        generalize List.set T ro _ = T6 at *
        repeat first|refine W.g ?_|refine L.p rfl rfl ?_|refine L.nil ?_|refine L.skip rfl ?_
        refine ⟨l1.length - (i + 1), by omega, i + 1, o.set i r, (x.toNat + 0 + cr) / 18446744073709551616, rfl, by omega, rfl, rfl, rfl, rfl, rfl, ?_, hk6, hr2, by simpa using hol, by omega, ?_, fun p hp1 hp2 => ?_⟩
        · refine (force_eq rfl).trans ?_
          rw [wrap64 (by omega) (by omega)]; rfl
        · rw [wnum_take_succ hx, hty]
          have hz1 : (0#64 : BitVec 64).toNat * 2 ^ (64 * i) = 0 := Nat.zero_mul _
          rw [hz1, hrv] at hws
          have hp : 2 ^ (64 * (i + 1)) = 2 ^ (64 * i) * 18446744073709551616 := by rw [show 64 * (i + 1) = 64 * i + 64 by omega, Nat.pow_add]
          rw [hp]
          have e3 : (x.toNat + 0 + cr) / 18446744073709551616 * (2 ^ (64 * i) * 18446744073709551616) + (x.toNat + 0 + cr) % 18446744073709551616 * 2 ^ (64 * i) = (x.toNat + 0 + cr) * 2 ^ (64 * i) := by
            rw [Nat.mul_comm (2 ^ (64 * i)), ← Nat.mul_assoc, ← Nat.add_mul, Nat.mul_comm _ 18446744073709551616, Nat.div_add_mod]
          rw [Nat.add_mul, Nat.add_mul] at e3
          rw [Nat.mul_comm _ x.toNat, Nat.mul_comm _ (0)]
          omega
        · rw [List.getElem?_set, if_neg (by omega)]; exact hz p (by omega) hp2
    · have hin : i = l1.length := by have := of_decide_eq_false h; omega
      subst hin
      clear h
      rw [List.take_length, List.take_of_length_le (show l2.length ≤ l1.length by omega)] at hsum
      have hz0 := hz l1.length (Nat.le_refl _) (by omega)
      obtain ⟨r, hr⟩ : ∃ r : BitVec 64, r = BitVec.ofNat 64 cr := ⟨_, rfl⟩
      have hrv : r.toNat = cr := by rw [hr, BitVec.toNat_ofNat]; exact Nat.mod_eq_of_lt (by omega)
      rw [← hrv]
      repeat first|refine W.g ?_|refine L.p rfl rfl ?_|refine L.nil ?_|refine L.skip rfl ?_
      refine L.elst hro rfl (by show 0 + (l1.length + 1) ≤ (wv o).length; rw [wv_len, hol]; omega) (k := l1.length) rfl (by omega) rfl rfl rfl rfl (fun _ => rfl) (fun _ => rfl) rfl rfl rfl (fun p => ?_)
      have hr2 : Mem.row? (List.set T ro { newR (wv o) 39 with cells := (newR (wv o) 39).cells.set (0 + l1.length) (v64 r) }) ro = some (newR (wv (o.set l1.length r)) 39) := by
        rw [row_set_same hro rfl, Nat.zero_add]
        simp [newR, wv, List.map_set]
      have hk6 := hkT.set ro { newR (wv o) 39 with cells := (newR (wv o) 39).cells.set (0 + l1.length) (v64 r) } (by omega)
      have hws := wnum_set (y := r) hz0
      generalize List.set T ro _ = T6 at *
      repeat first|refine W.g ?_|refine L.p rfl rfl ?_|refine L.nil ?_|refine L.skip rfl ?_
      have hz1 : (0#64 : BitVec 64).toNat * 2 ^ (64 * l1.length) = 0 := Nat.zero_mul _
      rw [hz1, hrv] at hws
      exact ⟨.inr rfl, _, rfl, ro, o.set l1.length r, l1.length + 1, rfl, by omega, hk6, hr2, by simpa using hol, by omega, by omega⟩
def addL (l1 l2 : WL) : WL := if small l1 && small l2 then toldL (toW (wnum l1 + wnum l2)) else []
def addE (l1 l2 : WL) : Int := if small l1 && small l2 then toldE (toW (wnum l1 + wnum l2)) else 3
theorem natAdd_C (a1 a2 : Option Addr) (c1 c2 : Nat) (l1 l2 : WL) (S : Mem) (h1 : WIn S a1 c1 l1) (h2 : WIn S a2 c2 l2) :
    C Tryd.prog G Ext 20 [.slice a1 l1.length c1, .slice a2 l2.length c2] S fun v S' => ∃ d : Hd, v = .tuple #[d.v, .int .i64 (addE l1 l2)] ∧ RetW S S' d (addL l1 l2) := by
  refine C.fn Tryd.func20 rfl (by kernel_rfl) rfl ?_
  repeat first|refine W.g ?_|refine L.p rfl rfl ?_|refine L.nil ?_|refine L.skip rfl ?_
  refine L.bs [WS.v ⟨a1, c1, l1⟩, WS.v ⟨a2, c2, l2⟩] rfl rfl rfl rfl rfl rfl ?_
  have hc : Cons S (S ++ [newR [WS.v ⟨a1, c1, l1⟩, WS.v ⟨a2, c2, l2⟩] 22]) := Cons.push _ _
  have hs : Slv (S ++ [newR [WS.v ⟨a1, c1, l1⟩, WS.v ⟨a2, c2, l2⟩] 22]) 1 (.slice (some ⟨S.length, 0, none⟩) 2 2) 2 ([WS.mk a1 c1 l1, WS.mk a2 c2 l2].map WS.v) := Slv.all (row_push_new rfl) rfl rfl
  generalize S ++ [newR [WS.v ⟨a1, c1, l1⟩, WS.v ⟨a2, c2, l2⟩] 22] = S1 at *
  refine L.cl (fit_C _ [⟨a1, c1, l1⟩, ⟨a2, c2, l2⟩] S1 hs (fun w hw => by
    simp only [List.mem_cons, List.not_mem_nil, or_false] at hw
    rcases hw with rfl | rfl
    · exact h1.cons hc
    · exact h2.cons hc) (by simp)) rfl rfl ?_
  rintro _ _ ⟨rfl, rfl⟩
  refine ⟨nofun, ?_⟩
  repeat first|refine W.g ?_|refine L.p rfl rfl ?_|refine L.nil ?_|refine L.skip rfl ?_
  refine W.ite rfl (fun h => ?_) (fun h => ?_)
  · have hsm : (small l1 && small l2) = false := by
      have h0 := h
      simp at h0
      cases hq : small l1 <;> simp_all
    repeat first|refine W.g ?_|refine L.p rfl rfl ?_|refine L.nil ?_|refine L.skip rfl ?_
    exact ⟨.inr rfl, _, rfl, Hd0, (by unfold addE; rw [hsm]; rfl), by unfold addL; rw [hsm]; exact RetW.nil hc⟩
  have hsm : (small l1 && small l2) = true := by
    have h0 := h
    simp at h0
    cases hq : small l1 <;> simp_all
  clear h
  have hsm2 := hsm
  rw [Bool.and_eq_true] at hsm2
  rename Mem => S1
  have hI1 := h1.cons hc
  have hI2 := h2.cons hc
  repeat first|refine W.g ?_|refine L.p rfl rfl ?_|refine L.nil ?_|refine L.skip rfl ?_
  refine L.cl (trim_C a1 c1 l1 _ hI1) rfl rfl ?_
  rintro _ _ ⟨rfl, rfl⟩
  refine ⟨nofun, ?_⟩
  repeat first|refine W.g ?_|refine L.p rfl rfl ?_|refine L.nil ?_|refine L.skip rfl ?_
  refine L.cl (trim_C a2 c2 l2 _ hI2) rfl rfl ?_
  rintro _ _ ⟨rfl, rfl⟩
  refine ⟨nofun, ?_⟩
  have b1 : (fm l1).length ≤ 128 := of_decide_eq_true hsm2.1
  have b2 : (fm l2).length ≤ 128 := of_decide_eq_true hsm2.2
  repeat first|refine W.g ?_|refine L.p rfl rfl ?_|refine L.nil ?_|refine L.skip rfl ?_
  refine L.cl (add_C a1 a2 c1 c2 (fm l1) (fm l2) _ hI1.form hI2.form (by omega) (by omega)) rfl rfl ?_
  rintro _ S2 ⟨ro, o, n, rfl, hro, k2, hr, hol, hn, hnum⟩
  refine ⟨nofun, ?_⟩
  rw [show wnum (fm l1) = wnum l1 from wnum_toW _, show wnum (fm l2) = wnum l2 from wnum_toW _] at hnum
  have hO : WOwn S2 S.length (some ⟨ro, 0, none⟩) n o := WOwn.row hr hol (by have := hc.len; omega) (by omega)
  refine L.cl (told_C S _ _ o S2 hO (hc.trans k2)) rfl (by rw [hol]; rfl) ?_
  rintro _ _ ⟨rfl, d2, rfl, hR2⟩
  refine ⟨nofun, ?_⟩
  repeat first|refine W.g ?_|refine L.p rfl rfl ?_|refine L.nil ?_|refine L.skip rfl ?_
  have t := told_fm o
  unfold fm at t
  rw [hnum] at t
  rw [← t.1] at hR2
  exact ⟨.inr rfl, _, rfl, d2, by unfold addE; rw [hsm, if_pos rfl, t.2]; rfl, by unfold addL; rw [hsm, if_pos rfl]; exact hR2⟩
end Go.Proofs.YtlnlcddbllcehaaDoor

/- Layer 1: the laws of division. Conditions: none. -/
set_option linter.unusedSimpArgs false
set_option linter.unusedVariables false
set_option maxRecDepth 100000
set_option exponentiation.threshold 20000
namespace Go.Proofs.YtlnlcddbllcehaaDoor
open Go
theorem two64 {s : Nat} (hs : s ≤ 64) : 2 ^ s * 2 ^ (64 - s) = 18446744073709551616 := by
  rw [← Nat.pow_add, show s + (64 - s) = 64 by omega]
/-- a word moved up: what stays and what goes over -/
theorem up_word {x c s : Nat} (hs : s < 64) (hc : c < 2 ^ s) : (c ||| x * 2 ^ s % 18446744073709551616) + 18446744073709551616 * (x / 2 / 2 ^ (63 - s)) = c + x * 2 ^ s := by
  have h1 := two64 (s := s) (by omega)
  have h2 : x * 2 ^ s % 18446744073709551616 = 2 ^ s * (x % 2 ^ (64 - s)) := by
    rw [← h1, Nat.mul_comm x, Nat.mul_mod_mul_left]
  have h3 : x / 2 / 2 ^ (63 - s) = x / 2 ^ (64 - s) := by
    rw [Nat.div_div_eq_div_mul, show 64 - s = 63 - s + 1 by omega, Nat.pow_succ, Nat.mul_comm 2]
  rw [h2, h3, Nat.or_comm, ← Nat.two_pow_add_eq_or_of_lt hc]
  conv => lhs; rw [← h1]
  have h4 := Nat.div_add_mod x (2 ^ (64 - s))
  have h5 : x * 2 ^ s = 2 ^ s * (2 ^ (64 - s) * (x / 2 ^ (64 - s))) + 2 ^ s * (x % 2 ^ (64 - s)) := by
    rw [← Nat.mul_add, h4, Nat.mul_comm]
  rw [h5, Nat.mul_assoc]; omega
theorem up_over {x s : Nat} (hs : s < 64) (hx : x < 18446744073709551616) : x / 2 / 2 ^ (63 - s) < 2 ^ s := by
  have h1 := two64 (s := s) (by omega)
  have h3 : x / 2 / 2 ^ (63 - s) = x / 2 ^ (64 - s) := by
    rw [Nat.div_div_eq_div_mul, show 64 - s = 63 - s + 1 by omega, Nat.pow_succ, Nat.mul_comm 2]
  rw [h3]
  exact Nat.div_lt_of_lt_mul (by rw [Nat.mul_comm, h1]; exact hx)
theorem up_low {x c s : Nat} (hs : s < 64) (hc : c < 2 ^ s) : (c ||| x * 2 ^ s % 18446744073709551616) < 18446744073709551616 := by
  have h : (2 : Nat) ^ 64 = 18446744073709551616 := by decide
  rw [← h]
  refine Nat.or_lt_two_pow (Nat.lt_of_lt_of_le hc (Nat.pow_le_pow_right (by decide) (by omega))) (Nat.mod_lt _ (by rw [h]; decide))
/-- a word moved down, with what comes out of the next one -/
def dnW (x y s : Nat) : Nat := x / 2 ^ s ||| y * 2 % 18446744073709551616 * 2 ^ (63 - s) % 18446744073709551616
theorem dn_eq {x y s : Nat} (hs : s < 64) (hx : x < 18446744073709551616) : dnW x y s = x / 2 ^ s + 2 ^ (64 - s) * (y % 2 ^ s) := by
  have h1 := two64 (s := s) (by omega)
  have h2 : y * 2 % 18446744073709551616 * 2 ^ (63 - s) % 18446744073709551616 = 2 ^ (64 - s) * (y % 2 ^ s) := by
    rw [Nat.mod_mul_mod, Nat.mul_assoc, Nat.mul_comm 2, ← Nat.pow_succ, show (63 - s).succ = 64 - s by omega, ← h1, Nat.mul_comm (2 ^ s), Nat.mul_comm y, Nat.mul_mod_mul_left]
  have h3 : x / 2 ^ s < 2 ^ (64 - s) := Nat.div_lt_of_lt_mul (by rw [h1]; exact hx)
  unfold dnW
  rw [h2, Nat.or_comm, ← Nat.two_pow_add_eq_or_of_lt h3, Nat.add_comm]
theorem dn_lt {x y s : Nat} (hs : s < 64) (hx : x < 18446744073709551616) : dnW x y s < 18446744073709551616 := by
  have h1 := two64 (s := s) (by omega)
  have h3 : x / 2 ^ s < 2 ^ (64 - s) := Nat.div_lt_of_lt_mul (by rw [h1]; exact hx)
  have h4 : y % 2 ^ s < 2 ^ s := Nat.mod_lt _ (Nat.two_pow_pos s)
  have h5 : 2 ^ (64 - s) * (y % 2 ^ s + 1) ≤ 2 ^ (64 - s) * 2 ^ s := Nat.mul_le_mul_left _ h4
  rw [dn_eq hs hx, ← h1, Nat.mul_comm (2 ^ s)]
  rw [Nat.mul_add] at h5
  omega
theorem dn_num {x W s : Nat} (hs : s < 64) (hx : x < 18446744073709551616) : (x + 18446744073709551616 * W) / 2 ^ s = dnW x (W % 18446744073709551616) s + 18446744073709551616 * (W / 2 ^ s) := by
  have h1 := two64 (s := s) (by omega)
  have h2 : W % 18446744073709551616 % 2 ^ s = W % 2 ^ s := Nat.mod_mod_of_dvd _ ⟨2 ^ (64 - s), h1.symm⟩
  have h4 := Nat.div_add_mod W (2 ^ s)
  rw [dn_eq hs hx, h2]
  conv => lhs; rw [← h1, Nat.mul_assoc, Nat.add_mul_div_left _ _ (Nat.two_pow_pos s)]
  have h5 : 2 ^ (64 - s) * W = 2 ^ (64 - s) * (2 ^ s * (W / 2 ^ s)) + 2 ^ (64 - s) * (W % 2 ^ s) := by rw [← Nat.mul_add, h4]
  rw [h5, ← Nat.mul_assoc, Nat.mul_comm (2 ^ (64 - s)) (2 ^ s), h1]; omega
/-- a word of a list moved down -/
def dnAt (l : WL) (s p : Nat) : BitVec 64 := BitVec.ofNat 64 (dnW (l.getD p 0#64).toNat (l.getD (p + 1) 0#64).toNat s)
def dnL (l : WL) (s : Nat) : WL := (List.range l.length).map (dnAt l s)
theorem dnL_len (l : WL) (s : Nat) : (dnL l s).length = l.length := by simp [dnL]
theorem dnL_cons (x : BitVec 64) (l : WL) (s : Nat) : dnL (x :: l) s = dnAt (x :: l) s 0 :: dnL l s := by
  unfold dnL
  rw [List.length_cons, List.range_succ_eq_map, List.map_cons, List.map_map]
  congr 1
theorem wnum_head (l : WL) : wnum l % 18446744073709551616 = (l.getD 0 0#64).toNat := by
  cases l with
  | nil => rfl
  | cons x l =>
    have := x.isLt
    show (x.toNat + 18446744073709551616 * wnum l) % 18446744073709551616 = x.toNat
    omega
theorem dnL_num (l : WL) {s : Nat} (hs : s < 64) : wnum (dnL l s) = wnum l / 2 ^ s := by
  induction l with
  | nil => show 0 = 0 / 2 ^ s; rw [Nat.zero_div]
  | cons x l ih =>
    have hx := x.isLt
    rw [dnL_cons, wnum, ih, wnum, dn_num hs hx, wnum_head]
    show (BitVec.ofNat 64 (dnW x.toNat (l.getD 0 0#64).toNat s)).toNat + _ = _
    rw [BitVec.toNat_ofNat, Nat.mod_eq_of_lt (dn_lt hs hx)]
/-- a digit is not too small -/
theorem est_top {u v ul vl P U T : Nat} (hu : u = ul + P * U) (hl : ul < P) (hv : v = vl + P * T) (hT : 0 < T) : u < (U / T + 1) * v := by
  have h1 : U < T * (U / T + 1) := Nat.lt_mul_div_succ U hT
  have h2 : P * (U + 1) ≤ P * (T * (U / T + 1)) := Nat.mul_le_mul_left _ h1
  have h3 : P * (T * (U / T + 1)) ≤ (U / T + 1) * v := by
    rw [hv, Nat.mul_comm (U / T + 1), Nat.add_mul, Nat.mul_assoc]; omega
  rw [Nat.mul_add] at h2
  omega
/-- a quotient out of moved numbers -/
theorem div_moved {a b Q u s : Nat} (h : a * 2 ^ s = Q * (b * 2 ^ s) + u) (hu : u < b * 2 ^ s) : a / b = Q ∧ u / 2 ^ s = a % b := by
  have hp := Nat.two_pow_pos s
  have h1 : a * 2 ^ s / (b * 2 ^ s) = Q := by
    rw [h, Nat.mul_comm Q, Nat.mul_add_div (by omega), Nat.div_eq_of_lt hu, Nat.add_zero]
  have h2 : a * 2 ^ s % (b * 2 ^ s) = u := by
    rw [h, Nat.mul_comm Q, Nat.mul_add_mod, Nat.mod_eq_of_lt hu]
  rw [Nat.mul_div_mul_right _ _ hp] at h1
  rw [Nat.mul_mod_mul_right] at h2
  exact ⟨h1, by rw [← h2, Nat.mul_div_cancel _ hp]⟩
/-- taking a product off, word by word -/
theorem sub_step {W V C l P x y q cr : Nat} (hx : x < 18446744073709551616) (hy : y < 18446744073709551616) (hq : q < 18446744073709551616) (hcr : cr < 18446744073709551616) (hl : l ≤ 1) :
    ((x + 18446744073709551616 - (q * y + cr) % 18446744073709551616 - l) % 18446744073709551616) + (q * y + cr + l) = x + 18446744073709551616 * ((q * y + cr) / 18446744073709551616 + if x < (q * y + cr) % 18446744073709551616 + l then 1 else 0) := by
  generalize q * y + cr = z
  split <;> omega
/-! ### words as the walk reckons them -/
theorem word_of {n : Nat} (h : n < 18446744073709551616) : ∃ r : BitVec 64, r.toNat = n := ⟨BitVec.ofNat 64 n, by rw [BitVec.toNat_ofNat]; exact Nat.mod_eq_of_lt h⟩
theorem or_nat {a b : Nat} (ha : a < 18446744073709551616) (hb : b < 18446744073709551616) : IntKind.u64.wrap ((BitVec.ofInt IntKind.u64.bits (a : Int) ||| BitVec.ofInt IntKind.u64.bits (b : Int)).toNat : Int) = ((a ||| b : Nat) : Int) := by
  obtain ⟨x, rfl⟩ := word_of ha
  obtain ⟨y, rfl⟩ := word_of hb
  rw [bits_u64, ofInt_toNat, ofInt_toNat, wrap_u64, ofInt_toNat, BitVec.toNat_or]
theorem wmod (n : Nat) : IntKind.u64.wrap (n : Int) = ((n % 18446744073709551616 : Nat) : Int) := by
  rw [wrap_u64, BitVec.toNat_ofInt]
  show (((n : Int) % ((2 ^ 64 : Nat) : Int)).toNat : Int) = _
  omega
theorem shl_nat (x s : Nat) : IntKind.u64.wrap ((x : Int) * 2 ^ s) = ((x * 2 ^ s % 18446744073709551616 : Nat) : Int) := by
  rw [← wmod, Int.natCast_mul, Int.natCast_pow]; rfl
theorem fdivn (n k : Nat) : Int.fdiv (n : Int) (2 ^ k) = ((n / 2 ^ k : Nat) : Int) := by
  rw [show ((2 : Int) ^ k) = ((2 ^ k : Nat) : Int) by rw [Int.natCast_pow]; rfl]; exact fdiv_nat _ _
end Go.Proofs.YtlnlcddbllcehaaDoor

/- Two words divided by one: the law of the estimates. Conditions: none. -/
set_option linter.unusedSimpArgs false
set_option linter.unusedVariables false
set_option maxRecDepth 100000
namespace Go.Proofs.YtlnlcddbllcehaaDoor
open Go
/-- an estimate of half a digit that is not too small: q, and what is left of the upper digits -/
structure QEst (u v y1 y0 q r : Nat) : Prop where
  eq : q * y1 + r = u
  ge : u * 4294967296 + v < (q + 1) * (y1 * 4294967296 + y0)
  le : q ≤ 4294967297
theorem QEst.init {u v y1 y0 : Nat} (hu : u < y1 * 4294967296 + y0) (hv : v < 4294967296) (h1 : 2147483648 ≤ y1) (h0 : y0 < 4294967296) : QEst u v y1 y0 (u / y1) (u % y1) := by
  have hd := Nat.div_add_mod u y1
  have hm := Nat.mod_lt u (show 0 < y1 by omega)
  rw [Nat.mul_comm] at hd
  refine ⟨hd, ?_, ?_⟩
  · have h2 : u + 1 ≤ (u / y1 + 1) * y1 := by rw [Nat.add_mul]; omega
    have h3 := Nat.mul_le_mul_right 4294967296 h2
    have h4 : (u / y1 + 1) * (y1 * 4294967296) ≤ (u / y1 + 1) * (y1 * 4294967296 + y0) := Nat.mul_le_mul_left _ (Nat.le_add_right _ _)
    rw [← Nat.mul_assoc] at h4
    omega
  · have h2 : u < 4294967298 * y1 := by omega
    have := Nat.div_lt_of_lt_mul (show u < y1 * 4294967298 by rw [Nat.mul_comm]; exact h2)
    omega
theorem QEst.dec {u v y1 y0 q r : Nat} (h : QEst u v y1 y0 q r) (hu : u < y1 * 4294967296 + y0) (hv : v < 4294967296) (hb : 4294967296 ≤ q ∨ 4294967296 * r + v < q * y0) : 1 ≤ q ∧ QEst u v y1 y0 (q - 1) (r + y1) ∧ q - 1 ≤ 4294967296 := by
  obtain ⟨he, hg, hl⟩ := h
  have hlt : u * 4294967296 + v < q * (y1 * 4294967296 + y0) := by
    rcases hb with hb | hb
    · have h2 : 4294967296 * (y1 * 4294967296 + y0) ≤ q * (y1 * 4294967296 + y0) := Nat.mul_le_mul_right _ hb
      omega
    · rw [Nat.mul_add, ← Nat.mul_assoc, ← he, Nat.add_mul]
      clear he hg hl hu
      generalize q * y1 = A at *
      generalize q * y0 = B at *
      omega
  have hq : 1 ≤ q := by
    rcases Nat.eq_zero_or_pos q with h0 | h0
    · subst h0; rw [Nat.zero_mul] at hlt; omega
    · exact h0
  refine ⟨hq, ⟨?_, ?_, by omega⟩, by omega⟩
  · obtain ⟨p, rfl⟩ : ∃ p, q = p + 1 := ⟨q - 1, by omega⟩
    rw [Nat.add_sub_cancel, ← he, Nat.add_mul]; omega
  · rw [Nat.sub_add_cancel hq]; exact hlt
theorem QEst.fin {u v y1 y0 q r : Nat} (h : QEst u v y1 y0 q r) (hb : q * y0 ≤ 4294967296 * r + v) : (u * 4294967296 + v) / (y1 * 4294967296 + y0) = q := by
  obtain ⟨he, hg, hl⟩ := h
  refine Nat.div_eq_of_lt_le ?_ hg
  rw [Nat.mul_add, ← Nat.mul_assoc, ← he, Nat.add_mul]
  omega
theorem QEst.fin2 {u v y1 y0 q r : Nat} (h : QEst u v y1 y0 q r) (hr : 4294967296 ≤ r) (hq : q ≤ 4294967296) (h0 : y0 < 4294967296) : (u * 4294967296 + v) / (y1 * 4294967296 + y0) = q := by
  refine h.fin ?_
  have h1 : q * y0 ≤ 4294967296 * 4294967296 := Nat.mul_le_mul hq (by omega)
  omega
/-- two words over one, half by half -/
theorem div_halves {u v w y q1 q0 t : Nat} (hy : 0 < y) (h1 : (u * 4294967296 + v) / y = q1) (ht : t = (u * 4294967296 + v) % y) (h0 : (t * 4294967296 + w) / y = q0) :
    ((u * 4294967296 + v) * 4294967296 + w) / y = q1 * 4294967296 + q0 ∧ ((u * 4294967296 + v) * 4294967296 + w) % y = (t * 4294967296 + w) % y := by
  have hd := Nat.div_add_mod (u * 4294967296 + v) y
  rw [h1, ← ht] at hd
  have he : (u * 4294967296 + v) * 4294967296 + w = y * (q1 * 4294967296) + (t * 4294967296 + w) := by
    rw [← Nat.mul_assoc]; omega
  refine ⟨?_, ?_⟩
  · rw [he, Nat.mul_add_div hy, h0]
  · rw [he, Nat.mul_add_mod]
end Go.Proofs.YtlnlcddbllcehaaDoor

/- Two words divided by one. Conditions: the upper one is below the divisor. -/
set_option linter.unusedSimpArgs false
set_option linter.unusedVariables false
set_option maxRecDepth 100000
set_option maxHeartbeats 4000000
namespace Go.Proofs.YtlnlcddbllcehaaDoor
open Go Ie
variable {G : Nat} {Ext : FuncId → List Value → Mem → Outc → Mem → Prop}
theorem lz_C (n : Nat) (hn : n < 18446744073709551616) (S : Mem) : C Tryd.prog G Ext 84 [.int .u64 (n : Int)] S fun v S' => v = vi (64 - blen n) ∧ S' = S := by
  refine C.fn Tryd.func84 rfl (by kernel_rfl) rfl ?_
  repeat first|refine W.g ?_|refine L.p rfl rfl ?_|refine L.nil ?_|refine L.skip rfl ?_
  refine L.cl (len64_C n hn S) rfl rfl ?_
  rintro _ _ ⟨rfl, rfl⟩
  refine ⟨nofun, ?_⟩
  have hb : blen n ≤ 64 := blen_le.2 hn
  repeat first|refine W.g ?_|refine L.p rfl rfl ?_|refine L.nil ?_|refine L.skip rfl ?_
  refine ⟨.inr rfl, _, rfl, (force_eq rfl).trans ?_, rfl⟩
  rw [wrap64 (by omega) (by omega)]
  show Value.int .i64 _ = Value.int .i64 _
  congr 1; omega
theorem umulw (a b : Nat) : IntKind.u64.wrap ((a : Int) * (b : Int)) = ((a * b % 18446744073709551616 : Nat) : Int) := by rw [← Int.natCast_mul, wmod]
theorem usub {a b : Nat} (ha : a < 18446744073709551616) (hb : b ≤ a) : IntKind.u64.wrap ((a : Int) - (b : Int)) = ((a - b : Nat) : Int) := by
  rw [wrapU64 (by omega) (by omega)]; omega
theorem uaddw (a b : Nat) : IntKind.u64.wrap ((a : Int) + (b : Int)) = (((a + b) % 18446744073709551616 : Nat) : Int) := by rw [← Int.natCast_add, wmod]
/-- a difference of words, where the true one is a word -/
theorem usubm {a b : Nat} {r : Nat} (h : a % 18446744073709551616 = (b + r) % 18446744073709551616) (hr : r < 18446744073709551616) : IntKind.u64.wrap (((a % 18446744073709551616 : Nat) : Int) - ((b % 18446744073709551616 : Nat) : Int)) = (r : Int) := by
  rw [wrap_u64, BitVec.toNat_ofInt]
  show ((((a % 18446744073709551616 : Nat) : Int) - ((b % 18446744073709551616 : Nat) : Int)) % ((2 ^ 64 : Nat) : Int)).toNat = (r : Int)
  have e : ((2 ^ 64 : Nat) : Int) = 18446744073709551616 := by decide
  rw [e]
  omega
theorem nquo {a b : Nat} (ha : a < 18446744073709551616) : IntKind.u64.wrap (Int.tdiv (a : Int) (b : Int)) = ((a / b : Nat) : Int) := by
  rw [show Int.tdiv (a : Int) (b : Int) = ((a / b : Nat) : Int) from (Int.ofNat_tdiv a b).symm]
  have := Nat.div_le_self a b
  generalize a / b = q at *
  rw [wrapU64 (by omega) (by omega)]
/-- two words over one -/
theorem div64_C (hi lo y : Nat) (S : Mem) (hlt : hi < y) (hlo : lo < 18446744073709551616) (hy : y < 18446744073709551616) :
    C Tryd.prog gN Ext 92 [.int .u64 (hi : Int), .int .u64 (lo : Int), .int .u64 (y : Int)] S fun v S' => v = .tuple #[.int .u64 (((hi * 18446744073709551616 + lo) / y : Nat) : Int), .int .u64 (((hi * 18446744073709551616 + lo) % y : Nat) : Int)] ∧ S' = S := by
  refine C.fn Tryd.func92 rfl (by kernel_rfl) rfl ?_
  repeat first|refine W.g ?_|refine L.p rfl rfl ?_|refine L.nil ?_|refine L.skip rfl ?_
  refine W.ite rfl (fun h => ?_) (fun h => ?_)
  · exfalso; have := eq_of_beq h; omega
  clear h
  repeat first|refine W.g ?_|refine L.p rfl rfl ?_|refine L.nil ?_|refine L.skip rfl ?_
  refine W.ite rfl (fun h => ?_) (fun h => ?_)
  · exfalso; have := of_decide_eq_true h; omega
  clear h
  repeat first|refine W.g ?_|refine L.p rfl rfl ?_|refine L.nil ?_|refine L.skip rfl ?_
  refine W.ite rfl (fun h => ?_) (fun h => ?_)
  · have h0 : hi = 0 := by have := eq_of_beq h; omega
    clear h
    subst h0
    repeat first|refine W.g ?_|refine L.p rfl rfl ?_|refine L.nil ?_|refine L.skip rfl ?_
    refine L.quo rfl rfl (by omega) rfl ?_
    repeat first|refine W.g ?_|refine L.p rfl rfl ?_|refine L.nil ?_|refine L.skip rfl ?_
    refine L.rem rfl rfl (by omega) rfl ?_
    repeat first|refine W.g ?_|refine L.p rfl rfl ?_|refine L.nil ?_|refine L.skip rfl ?_
    refine ⟨.inr rfl, _, rfl, (force_eq rfl).trans ?_, rfl⟩
    rw [nquo hlo, show Int.tmod (lo : Int) (y : Int) = ((lo % y : Nat) : Int) from (Int.ofNat_tmod lo y).symm, Nat.zero_mul, Nat.zero_add]
    rfl
  clear h
  obtain ⟨s, hs⟩ : ∃ s, s = 64 - blen y := ⟨_, rfl⟩
  have hb64 : blen y ≤ 64 := blen_le.2 hy
  have hb0 : 0 < blen y := by unfold blen; rw [if_neg (by omega)]; omega
  have hylt : y < 2 ^ blen y := blen_le.1 (Nat.le_refl _)
  have hyge : 2 ^ (blen y - 1) ≤ y := by
    refine Classical.byContradiction fun hc => ?_
    have := blen_le.2 (show y < 2 ^ (blen y - 1) by omega)
    omega
  have hs64 : s < 64 := by omega
  obtain ⟨Y, hYd⟩ : ∃ Y, Y = y * 2 ^ s := ⟨_, rfl⟩
  have hYlt : Y < 18446744073709551616 := by
    have h1 : 2 ^ blen y * 2 ^ s = 18446744073709551616 := by rw [← Nat.pow_add, show blen y + s = 64 by omega]
    rw [hYd, ← h1]; exact Nat.mul_lt_mul_of_pos_right hylt (Nat.two_pow_pos s)
  have hYge : 9223372036854775808 ≤ Y := by
    have h1 : 2 ^ (blen y - 1) * 2 ^ s = 9223372036854775808 := by rw [← Nat.pow_add, show blen y - 1 + s = 63 by omega]
    rw [hYd, ← h1]; exact Nat.mul_le_mul_right _ hyge
  have hup := up_word (x := lo) (c := 0) hs64 (Nat.two_pow_pos s)
  have hcv := up_over (x := lo) hs64 hlo
  have h2s := two64 (s := s) (by omega)
  have hdd : lo / 2 / 2 ^ (63 - s) = lo / 2 ^ (64 - s) := by
    rw [Nat.div_div_eq_div_mul, show 64 - s = 63 - s + 1 by omega, Nat.pow_succ, Nat.mul_comm 2]
  rw [Nat.zero_or, Nat.zero_add] at hup
  rw [hdd] at hup hcv
  obtain ⟨u, hu⟩ : ∃ u, u = hi * 2 ^ s + lo / 2 ^ (64 - s) := ⟨_, rfl⟩
  obtain ⟨z, hz⟩ : ∃ z, z = lo * 2 ^ s % 18446744073709551616 := ⟨_, rfl⟩
  have hzlt : z < 18446744073709551616 := by omega
  have huY : u < Y := by
    have h1 : (hi + 1) * 2 ^ s ≤ y * 2 ^ s := Nat.mul_le_mul_right _ hlt
    rw [Nat.add_mul] at h1
    omega
  have hN : (hi * 18446744073709551616 + lo) * 2 ^ s = u * 18446744073709551616 + z := by
    rw [Nat.add_mul, Nat.mul_right_comm, hu, hz, Nat.add_mul]; omega
  obtain ⟨y1, hy1⟩ : ∃ y1, y1 = Y / 4294967296 := ⟨_, rfl⟩
  obtain ⟨y0, hy0⟩ : ∃ y0, y0 = Y % 4294967296 := ⟨_, rfl⟩
  obtain ⟨v, hv⟩ : ∃ v, v = z / 4294967296 := ⟨_, rfl⟩
  obtain ⟨w, hw⟩ : ∃ w, w = z % 4294967296 := ⟨_, rfl⟩
  have hY : Y = y1 * 4294967296 + y0 := by omega
  have hvl : v < 4294967296 := by omega
  have hwl : w < 4294967296 := by omega
  have hy0l : y0 < 4294967296 := by omega
  have hy1l : y1 < 4294967296 := by omega
  have hy1g : 2147483648 ≤ y1 := by omega
  have hzv : z = v * 4294967296 + w := by omega
  -- the values as the program has them
  have w0 : IntKind.u64.wrap (s : Int) = (s : Int) := wrapU64 (by omega) (by omega)
  have w0' : min (Int.toNat (s : Int)) IntKind.u64.bits = s := by rw [bits_u64, Int.toNat_natCast]; omega
  have w1 : IntKind.u64.wrap ((y : Int) * 2 ^ s) = (Y : Int) := by rw [shl_nat, ← hYd, Nat.mod_eq_of_lt hYlt]
  have w2 : Int.fdiv (Y : Int) (2 ^ min (Int.toNat 32) IntKind.u64.bits) = (y1 : Int) := by rw [shrHi, hy1]
  have w3 : IntKind.u64.wrap ((BitVec.ofInt IntKind.u64.bits (Y : Int) &&& BitVec.ofInt IntKind.u64.bits 4294967295).toNat : Int) = (y0 : Int) := by rw [andLo hYlt, hy0]
  have hiY : hi * 2 ^ s < 18446744073709551616 := by omega
  have w4 : IntKind.u64.wrap ((BitVec.ofInt IntKind.u64.bits (IntKind.u64.wrap ((hi : Int) * 2 ^ s)) ||| BitVec.ofInt IntKind.u64.bits (Int.fdiv (lo : Int) (2 ^ (64 - s)))).toNat : Int) = (u : Int) := by
    rw [shl_nat, Nat.mod_eq_of_lt hiY, fdivn, or_nat hiY (by have := Nat.div_le_self lo (2 ^ (64 - s)); omega), hu, Nat.mul_comm hi, Nat.two_pow_add_eq_or_of_lt hcv]
  have w5 : IntKind.u64.wrap ((lo : Int) * 2 ^ s) = (z : Int) := by rw [shl_nat, hz]
  have w6 : Int.fdiv (z : Int) (2 ^ min (Int.toNat 32) IntKind.u64.bits) = (v : Int) := by rw [shrHi, hv]
  have w7 : IntKind.u64.wrap ((BitVec.ofInt IntKind.u64.bits (z : Int) &&& BitVec.ofInt IntKind.u64.bits 4294967295).toNat : Int) = (w : Int) := by rw [andLo hzlt, hw]
  have hQ0 : QEst u v y1 y0 (u / y1) (u % y1) := QEst.init (by omega) hvl hy1g hy0l
  have wr1 : IntKind.u64.wrap ((u : Int) - IntKind.u64.wrap (((u / y1 : Nat) : Int) * (y1 : Int))) = ((u % y1 : Nat) : Int) := by
    have h1 := Nat.div_add_mod u y1
    rw [Nat.mul_comm] at h1
    rw [umul (a := u / y1) (b := y1) (by omega), usub (by omega) (by omega)]
    congr 1; omega
  repeat first|refine W.g ?_|refine L.p rfl rfl ?_|refine L.nil ?_|refine L.skip rfl ?_
  refine L.cl (lz_C y hy S) rfl rfl ?_
  rintro _ _ ⟨rfl, rfl⟩
  refine ⟨nofun, ?_⟩
  rename Mem => S
  rw [show ((64 - blen y : Nat)) = s from hs.symm]
  repeat first|refine W.g ?_|refine L.p rfl rfl ?_|refine L.nil ?_|refine L.skip rfl ?_
  rw [w0, w0', w1, w2, w3]
  refine L.shr (64 - s) rfl rfl ?_ (by rw [bits_u64]; omega) rfl ?_
  · rw [wrapU64 (by omega) (by omega)]; omega
  repeat first|refine W.g ?_|refine L.p rfl rfl ?_|refine L.nil ?_|refine L.skip rfl ?_
  rw [w4, w0', w5, w6, w7]
  refine L.quo rfl rfl (by omega) rfl ?_
  rw [nquo (by omega)]
  repeat first|refine W.g ?_|refine L.p rfl rfl ?_|refine L.nil ?_|refine L.skip rfl ?_
  rw [wr1]
  refine W.mono (R := fun x e' S' => x = .exit 0 ∧ S' = S ∧ ∃ q : Nat, e' 8 = .int .u64 (s : Int) ∧ e' 2 = .int .u64 (Y : Int) ∧ e' 9 = .int .u64 (y1 : Int) ∧ e' 10 = .int .u64 (y0 : Int) ∧ e' 11 = .int .u64 (u : Int) ∧ e' 13 = .int .u64 (v : Int) ∧ e' 14 = .int .u64 (w : Int) ∧ e' 15 = .int .u64 (q : Int) ∧ (u * 4294967296 + v) / Y = q) ?_ ?_
  · refine W.loop (fun j e' S' => S' = S ∧ ∃ q r : Nat, j = q ∧ e' 8 = .int .u64 (s : Int) ∧ e' 2 = .int .u64 (Y : Int) ∧ e' 9 = .int .u64 (y1 : Int) ∧ e' 10 = .int .u64 (y0 : Int) ∧ e' 11 = .int .u64 (u : Int) ∧ e' 13 = .int .u64 (v : Int) ∧ e' 14 = .int .u64 (w : Int) ∧ e' 15 = .int .u64 (q : Int) ∧ e' 16 = .int .u64 (r : Int) ∧ QEst u v y1 y0 q r ∧ r < 4294967296) (u / y1)
      ⟨rfl, u / y1, u % y1, rfl, rfl, rfl, rfl, rfl, rfl, rfl, rfl, rfl, rfl, hQ0, by have := Nat.mod_lt u (show 0 < y1 by omega); omega⟩ ?_
    rintro j e T ⟨rfl, q, r, rfl, e8, e2, e9, e10, e11, e13, e14, eq, er, hQ, hr⟩
    refine W.env9 e8 e2 e9 e10 e11 e13 e14 eq er ?_
    have hql := hQ.le
    have hwq : IntKind.u64.wrap ((j : Int) * (y0 : Int)) = ((j * y0 : Nat) : Int) := umul (Nat.lt_of_le_of_lt (Nat.mul_le_mul hql (show y0 ≤ 4294967295 by omega)) (by decide))
    have hwr : IntKind.u64.wrap (IntKind.u64.wrap (4294967296 * (r : Int)) + (v : Int)) = ((4294967296 * r + v : Nat) : Int) := by
      rw [show IntKind.u64.wrap (4294967296 * (r : Int)) = ((4294967296 * r : Nat) : Int) from umul (a := 4294967296) (b := r) (by omega), uadd (by omega)]
    repeat first|refine W.g ?_|refine L.p rfl rfl ?_|refine L.nil ?_|refine L.skip rfl ?_
    cases hb : decide ((j : Int) ≥ 4294967296)
    · have hq32 : j < 4294967296 := by have := of_decide_eq_false hb; omega
      clear hb
      repeat first|refine W.g ?_|refine L.p rfl rfl ?_|refine L.nil ?_|refine L.skip rfl ?_
      refine W.ite rfl (fun h => ?_) (fun h => ?_)
      · have hgt : 4294967296 * r + v < j * y0 := by rw [hwq, hwr] at h; have := of_decide_eq_true h; omega
        clear h
        obtain ⟨hq1, hQ2, hq2⟩ := hQ.dec (by omega) (by omega) (.inr hgt)
        have hw1 : IntKind.u64.wrap ((j : Int) - 1) = ((j - 1 : Nat) : Int) := by rw [wrapU64 (by omega) (by omega)]; omega
        have hw2 : IntKind.u64.wrap ((r : Int) + (y1 : Int)) = ((r + y1 : Nat) : Int) := uadd (by omega)
        repeat first|refine W.g ?_|refine L.p rfl rfl ?_|refine L.nil ?_|refine L.skip rfl ?_
        refine W.ite rfl (fun h => ?_) (fun h => ?_)
        · have hge : 4294967296 ≤ r + y1 := by rw [hw2] at h; have := of_decide_eq_true h; omega
          clear h
          have hf := hQ2.fin2 hge hq2 (by omega)
          rw [← hY] at hf
          repeat first|refine W.g ?_|refine L.p rfl rfl ?_|refine L.nil ?_|refine L.skip rfl ?_
          exact ⟨rfl, rfl, j - 1, rfl, rfl, rfl, rfl, rfl, rfl, rfl, (force_eq rfl).trans (congrArg (Value.int .u64) hw1), hf⟩
        · have hlt : r + y1 < 4294967296 := by rw [hw2] at h; have := of_decide_eq_false h; omega
          clear h
          repeat first|refine W.g ?_|refine L.p rfl rfl ?_|refine L.nil ?_|refine L.skip rfl ?_
          exact ⟨j - 1, by omega, rfl, j - 1, r + y1, rfl, rfl, rfl, rfl, rfl, rfl, rfl, rfl, (force_eq rfl).trans (congrArg (Value.int .u64) hw1), (force_eq rfl).trans (congrArg (Value.int .u64) hw2), hQ2, hlt⟩
      · have hle : j * y0 ≤ 4294967296 * r + v := by rw [hwq, hwr] at h; have := of_decide_eq_false h; omega
        clear h
        have hf := hQ.fin hle
        rw [← hY] at hf
        repeat first|refine W.g ?_|refine L.p rfl rfl ?_|refine L.nil ?_|refine L.skip rfl ?_
        exact ⟨rfl, rfl, j, rfl, rfl, rfl, rfl, rfl, rfl, rfl, rfl, hf⟩
    · have hq32 : 4294967296 ≤ j := by have := of_decide_eq_true hb; omega
      clear hb
      repeat first|refine W.g ?_|refine L.p rfl rfl ?_|refine L.nil ?_|refine L.skip rfl ?_
      refine W.ite rfl (fun h => ?_) (fun h => ?_)
      rotate_left
      · cases h
      clear h
      obtain ⟨hq1, hQ2, hq2⟩ := hQ.dec (by omega) (by omega) (.inl hq32)
      have hw1 : IntKind.u64.wrap ((j : Int) - 1) = ((j - 1 : Nat) : Int) := by rw [wrapU64 (by omega) (by omega)]; omega
      have hw2 : IntKind.u64.wrap ((r : Int) + (y1 : Int)) = ((r + y1 : Nat) : Int) := uadd (by omega)
      repeat first|refine W.g ?_|refine L.p rfl rfl ?_|refine L.nil ?_|refine L.skip rfl ?_
      refine W.ite rfl (fun h => ?_) (fun h => ?_)
      · have hge : 4294967296 ≤ r + y1 := by rw [hw2] at h; have := of_decide_eq_true h; omega
        clear h
        have hf := hQ2.fin2 hge hq2 (by omega)
        rw [← hY] at hf
        repeat first|refine W.g ?_|refine L.p rfl rfl ?_|refine L.nil ?_|refine L.skip rfl ?_
        exact ⟨rfl, rfl, j - 1, rfl, rfl, rfl, rfl, rfl, rfl, rfl, (force_eq rfl).trans (congrArg (Value.int .u64) hw1), hf⟩
      · have hlt : r + y1 < 4294967296 := by rw [hw2] at h; have := of_decide_eq_false h; omega
        clear h
        repeat first|refine W.g ?_|refine L.p rfl rfl ?_|refine L.nil ?_|refine L.skip rfl ?_
        exact ⟨j - 1, by omega, rfl, j - 1, r + y1, rfl, rfl, rfl, rfl, rfl, rfl, rfl, rfl, (force_eq rfl).trans (congrArg (Value.int .u64) hw1), (force_eq rfl).trans (congrArg (Value.int .u64) hw2), hQ2, hlt⟩
  rintro _ e T ⟨rfl, hT, q1, e8, e2, e9, e10, e11, e13, e14, e15, hq1⟩
  subst hT
  rename Mem => S
  refine W.env8 e8 e2 e9 e10 e11 e13 e14 e15 ?_
  have hq1l : q1 < 4294967296 := by
    rw [← hq1]
    exact Nat.div_lt_of_lt_mul (by omega)
  obtain ⟨t, ht⟩ : ∃ t, t = (u * 4294967296 + v) % Y := ⟨_, rfl⟩
  have htl : t < Y := by rw [ht]; exact Nat.mod_lt _ (by omega)
  have wt : IntKind.u64.wrap (IntKind.u64.wrap (IntKind.u64.wrap ((u : Int) * 4294967296) + (v : Int)) - IntKind.u64.wrap ((q1 : Int) * (Y : Int))) = (t : Int) := by
    rw [show IntKind.u64.wrap ((u : Int) * 4294967296) = ((u * 4294967296 % 18446744073709551616 : Nat) : Int) from umulw u 4294967296, uaddw, umulw, Nat.mod_add_mod]
    refine usubm ?_ (by omega)
    congr 1
    have := Nat.div_add_mod (u * 4294967296 + v) Y
    rw [hq1, ← ht, Nat.mul_comm] at this
    exact this.symm
  have hQ0 : QEst t w y1 y0 (t / y1) (t % y1) := QEst.init (by omega) hwl hy1g hy0l
  have wr2 : IntKind.u64.wrap ((t : Int) - IntKind.u64.wrap (((t / y1 : Nat) : Int) * (y1 : Int))) = ((t % y1 : Nat) : Int) := by
    have h1 := Nat.div_add_mod t y1
    rw [Nat.mul_comm] at h1
    rw [umul (a := t / y1) (b := y1) (by omega), usub (by omega) (by omega)]
    congr 1; omega
  repeat first|refine W.g ?_|refine L.p rfl rfl ?_|refine L.nil ?_|refine L.skip rfl ?_
  rw [wt]
  refine L.quo rfl rfl (by omega) rfl ?_
  rw [nquo (by omega)]
  repeat first|refine W.g ?_|refine L.p rfl rfl ?_|refine L.nil ?_|refine L.skip rfl ?_
  rw [wr2]
  refine W.mono (R := fun x e' S' => x = .exit 2 ∧ S' = S ∧ ∃ q : Nat, e' 8 = .int .u64 (s : Int) ∧ e' 2 = .int .u64 (Y : Int) ∧ e' 9 = .int .u64 (y1 : Int) ∧ e' 10 = .int .u64 (y0 : Int) ∧ e' 11 = .int .u64 (u : Int) ∧ e' 13 = .int .u64 (v : Int) ∧ e' 14 = .int .u64 (w : Int) ∧ e' 15 = .int .u64 (q1 : Int) ∧ e' 17 = .int .u64 (t : Int) ∧ e' 18 = .int .u64 (q : Int) ∧ (t * 4294967296 + w) / Y = q) ?_ ?_
  · refine W.loop (fun j e' S' => S' = S ∧ ∃ q r : Nat, j = q ∧ e' 8 = .int .u64 (s : Int) ∧ e' 2 = .int .u64 (Y : Int) ∧ e' 9 = .int .u64 (y1 : Int) ∧ e' 10 = .int .u64 (y0 : Int) ∧ e' 11 = .int .u64 (u : Int) ∧ e' 13 = .int .u64 (v : Int) ∧ e' 14 = .int .u64 (w : Int) ∧ e' 15 = .int .u64 (q1 : Int) ∧ e' 17 = .int .u64 (t : Int) ∧ e' 18 = .int .u64 (q : Int) ∧ e' 16 = .int .u64 (r : Int) ∧ QEst t w y1 y0 q r ∧ r < 4294967296) (t / y1)
      ⟨rfl, t / y1, t % y1, rfl, rfl, rfl, rfl, rfl, rfl, rfl, rfl, rfl, rfl, rfl, rfl, hQ0, by have := Nat.mod_lt t (show 0 < y1 by omega); omega⟩ ?_
    rintro j e T ⟨rfl, q, r, rfl, e8, e2, e9, e10, e11, e13, e14, e15, e17, eq, er, hQ, hr⟩
    refine W.env10 e8 e2 e9 e10 e11 e13 e14 e15 e17 eq ?_
    refine W.env (t := 16) (v := .int .u64 (r : Int)) (by exact er) ?_
    have hql := hQ.le
    have hwq : IntKind.u64.wrap ((j : Int) * (y0 : Int)) = ((j * y0 : Nat) : Int) := umul (Nat.lt_of_le_of_lt (Nat.mul_le_mul hql (show y0 ≤ 4294967295 by omega)) (by decide))
    have hwr : IntKind.u64.wrap (IntKind.u64.wrap (4294967296 * (r : Int)) + (w : Int)) = ((4294967296 * r + w : Nat) : Int) := by
      rw [show IntKind.u64.wrap (4294967296 * (r : Int)) = ((4294967296 * r : Nat) : Int) from umul (a := 4294967296) (b := r) (by omega), uadd (by omega)]
    repeat first|refine W.g ?_|refine L.p rfl rfl ?_|refine L.nil ?_|refine L.skip rfl ?_
    cases hb : decide ((j : Int) ≥ 4294967296)
    · have hq32 : j < 4294967296 := by have := of_decide_eq_false hb; omega
      clear hb
      repeat first|refine W.g ?_|refine L.p rfl rfl ?_|refine L.nil ?_|refine L.skip rfl ?_
      refine W.ite rfl (fun h => ?_) (fun h => ?_)
      · have hgt : 4294967296 * r + w < j * y0 := by rw [hwq, hwr] at h; have := of_decide_eq_true h; omega
        clear h
        obtain ⟨hq1, hQ2, hq2⟩ := hQ.dec (by omega) (by omega) (.inr hgt)
        have hw1 : IntKind.u64.wrap ((j : Int) - 1) = ((j - 1 : Nat) : Int) := by rw [wrapU64 (by omega) (by omega)]; omega
        have hw2 : IntKind.u64.wrap ((r : Int) + (y1 : Int)) = ((r + y1 : Nat) : Int) := uadd (by omega)
        repeat first|refine W.g ?_|refine L.p rfl rfl ?_|refine L.nil ?_|refine L.skip rfl ?_
        refine W.ite rfl (fun h => ?_) (fun h => ?_)
        · have hge : 4294967296 ≤ r + y1 := by rw [hw2] at h; have := of_decide_eq_true h; omega
          clear h
          have hf := hQ2.fin2 hge hq2 (by omega)
          rw [← hY] at hf
          repeat first|refine W.g ?_|refine L.p rfl rfl ?_|refine L.nil ?_|refine L.skip rfl ?_
          exact ⟨rfl, rfl, j - 1, rfl, rfl, rfl, rfl, rfl, rfl, rfl, rfl, rfl, (force_eq rfl).trans (congrArg (Value.int .u64) hw1), hf⟩
        · have hlt : r + y1 < 4294967296 := by rw [hw2] at h; have := of_decide_eq_false h; omega
          clear h
          repeat first|refine W.g ?_|refine L.p rfl rfl ?_|refine L.nil ?_|refine L.skip rfl ?_
          exact ⟨j - 1, by omega, rfl, j - 1, r + y1, rfl, rfl, rfl, rfl, rfl, rfl, rfl, rfl, rfl, rfl, (force_eq rfl).trans (congrArg (Value.int .u64) hw1), (force_eq rfl).trans (congrArg (Value.int .u64) hw2), hQ2, hlt⟩
      · have hle : j * y0 ≤ 4294967296 * r + w := by rw [hwq, hwr] at h; have := of_decide_eq_false h; omega
        clear h
        have hf := hQ.fin hle
        rw [← hY] at hf
        repeat first|refine W.g ?_|refine L.p rfl rfl ?_|refine L.nil ?_|refine L.skip rfl ?_
        exact ⟨rfl, rfl, j, rfl, rfl, rfl, rfl, rfl, rfl, rfl, rfl, rfl, rfl, hf⟩
    · have hq32 : 4294967296 ≤ j := by have := of_decide_eq_true hb; omega
      clear hb
      repeat first|refine W.g ?_|refine L.p rfl rfl ?_|refine L.nil ?_|refine L.skip rfl ?_
      refine W.ite rfl (fun h => ?_) (fun h => ?_)
      rotate_left
      · cases h
      clear h
      obtain ⟨hq1, hQ2, hq2⟩ := hQ.dec (by omega) (by omega) (.inl hq32)
      have hw1 : IntKind.u64.wrap ((j : Int) - 1) = ((j - 1 : Nat) : Int) := by rw [wrapU64 (by omega) (by omega)]; omega
      have hw2 : IntKind.u64.wrap ((r : Int) + (y1 : Int)) = ((r + y1 : Nat) : Int) := uadd (by omega)
      repeat first|refine W.g ?_|refine L.p rfl rfl ?_|refine L.nil ?_|refine L.skip rfl ?_
      refine W.ite rfl (fun h => ?_) (fun h => ?_)
      · have hge : 4294967296 ≤ r + y1 := by rw [hw2] at h; have := of_decide_eq_true h; omega
        clear h
        have hf := hQ2.fin2 hge hq2 (by omega)
        rw [← hY] at hf
        repeat first|refine W.g ?_|refine L.p rfl rfl ?_|refine L.nil ?_|refine L.skip rfl ?_
        exact ⟨rfl, rfl, j - 1, rfl, rfl, rfl, rfl, rfl, rfl, rfl, rfl, rfl, (force_eq rfl).trans (congrArg (Value.int .u64) hw1), hf⟩
      · have hlt : r + y1 < 4294967296 := by rw [hw2] at h; have := of_decide_eq_false h; omega
        clear h
        repeat first|refine W.g ?_|refine L.p rfl rfl ?_|refine L.nil ?_|refine L.skip rfl ?_
        exact ⟨j - 1, by omega, rfl, j - 1, r + y1, rfl, rfl, rfl, rfl, rfl, rfl, rfl, rfl, rfl, rfl, (force_eq rfl).trans (congrArg (Value.int .u64) hw1), (force_eq rfl).trans (congrArg (Value.int .u64) hw2), hQ2, hlt⟩
  clear hQ0
  rintro _ e T ⟨rfl, hT, q0, e8, e2, e9, e10, e11, e13, e14, e15, e17, e18, hq0⟩
  refine W.env10 e8 e2 e9 e10 e11 e13 e14 e15 e17 e18 ?_
  rename Mem => S
  have hq0l : q0 < 4294967296 := by
    rw [← hq0]
    exact Nat.div_lt_of_lt_mul (by omega)
  have hh := div_halves (u := u) (v := v) (w := w) (y := Y) (by omega) hq1 ht hq0
  have he : (u * 4294967296 + v) * 4294967296 + w = (hi * 18446744073709551616 + lo) * 2 ^ s := by rw [hN, hzv]; omega
  have hh1 : (hi * 18446744073709551616 + lo) / y = q1 * 4294967296 + q0 := by
    rw [← hh.1, he, hYd, Nat.mul_div_mul_right _ _ (Nat.two_pow_pos s)]
  have hh2 : (t * 4294967296 + w) % Y = (hi * 18446744073709551616 + lo) % y * 2 ^ s := by
    rw [← hh.2, he, hYd, Nat.mul_mod_mul_right]
  have wq : IntKind.u64.wrap (IntKind.u64.wrap ((q1 : Int) * 4294967296) + (q0 : Int)) = (((hi * 18446744073709551616 + lo) / y : Nat) : Int) := by
    rw [show IntKind.u64.wrap ((q1 : Int) * 4294967296) = ((q1 * 4294967296 : Nat) : Int) from umul (a := q1) (b := 4294967296) (by omega), uadd (by omega), hh1]
  have wm : IntKind.u64.wrap (IntKind.u64.wrap (IntKind.u64.wrap ((t : Int) * 4294967296) + (w : Int)) - IntKind.u64.wrap ((q0 : Int) * (Y : Int))) = (((t * 4294967296 + w) % Y : Nat) : Int) := by
    rw [show IntKind.u64.wrap ((t : Int) * 4294967296) = ((t * 4294967296 % 18446744073709551616 : Nat) : Int) from umulw t 4294967296, uaddw, umulw, Nat.mod_add_mod]
    refine usubm ?_ (Nat.lt_trans (Nat.mod_lt _ (by omega)) hYlt)
    have h3 := Nat.div_add_mod (t * 4294967296 + w) Y
    rw [hq0, Nat.mul_comm Y] at h3
    rw [h3]
  repeat first|refine W.g ?_|refine L.p rfl rfl ?_|refine L.nil ?_|refine L.skip rfl ?_
  refine ⟨.inr rfl, _, rfl, (force_eq rfl).trans ?_, ?_⟩
  rotate_left
  · exact hT
  rw [wm, wq, w0', fdivn, hh2, Nat.mul_div_cancel _ (Nat.two_pow_pos s)]
  rfl
end Go.Proofs.YtlnlcddbllcehaaDoor

/- Layer 1: a number moved by less than a limb. Conditions: none. -/
set_option linter.unusedSimpArgs false
set_option linter.unusedVariables false
set_option maxRecDepth 100000
set_option maxHeartbeats 4000000
namespace Go.Proofs.YtlnlcddbllcehaaDoor
open Go
variable {G : Nat} {Ext : FuncId → List Value → Mem → Outc → Mem → Prop}
theorem pow64_succ (i : Nat) : 2 ^ (64 * (i + 1)) = 2 ^ (64 * i) * 18446744073709551616 := by rw [show 64 * (i + 1) = 64 * i + 64 by omega, Nat.pow_add]
theorem zero_word (k : Nat) : (0#64 : BitVec 64).toNat * k = 0 := Nat.zero_mul _
theorem row_set_w {S : Mem} {b k : Nat} {o : WL} {r : BitVec 64} (h : S.row? b = some (newR (wv o) 39)) : Mem.row? (List.set S b { newR (wv o) 39 with cells := (newR (wv o) 39).cells.set (0 + k) (v64 r) }) b = some (newR (wv (o.set k r)) 39) := by
  rw [row_set_same h rfl, Nat.zero_add]
  simp [newR, wv, List.map_set]
theorem shr1 (x : Nat) : Int.fdiv (x : Int) (2 ^ min (Int.toNat 1) IntKind.u64.bits) = ((x / 2 : Nat) : Int) := fdiv_nat x 2
theorem left_C (a : Option Addr) (c : Nat) (l : WL) (s : Nat) (S : Mem) (h : WIn S a c l) (hs : s < 64) (hn : l.length < 100000) :
    C Tryd.prog G Ext 85 [.slice a l.length c, vi s] S fun v S' => ∃ (ro : Nat) (o : WL), v = .slice (some ⟨ro, 0, none⟩) (l.length + 1) (l.length + 1) ∧ S.length ≤ ro ∧ Cons S S' ∧ S'.row? ro = some (newR (wv o) 39) ∧ o.length = l.length + 1 ∧ wnum o = wnum l * 2 ^ s := by
  have hmin : min (Int.toNat (s : Int)) IntKind.u64.bits = s := by rw [bits_u64, Int.toNat_natCast]; omega
  refine C.fn Tryd.func85 rfl (by kernel_rfl) rfl ?_
  repeat first|refine W.g ?_|refine L.p rfl rfl ?_|refine L.nil ?_|refine L.skip rfl ?_
  have hw1 : IntKind.i64.wrap ((l.length : Int) + 1) = ((l.length + 1 : Nat) : Int) := by rw [wrap64 (by omega) (by omega)]; rfl
  refine L.mk (n := l.length + 1) (m := l.length + 1) (bytes := 8) (zv := v64 0#64) rfl rfl hw1 rfl hw1 (Nat.le_refl _) (by omega) rfl rfl ?_
  have hro : Mem.row? (S ++ [newR (List.replicate (l.length + 1) (v64 0#64)) 39]) S.length = some (newR (wv (List.replicate (l.length + 1) 0#64)) 39) := by
    rw [row_push_new rfl]; simp [wv]
  have hc := Cons.push S (newR (List.replicate (l.length + 1) (v64 0#64)) 39)
  generalize S ++ [newR (List.replicate (l.length + 1) (v64 0#64)) 39] = S1 at *
  obtain ⟨ro, hro0⟩ : ∃ ro, ro = S.length := ⟨_, rfl⟩
  rw [← hro0] at hro ⊢
  repeat first|refine W.g ?_|refine L.p rfl rfl ?_|refine L.nil ?_|refine L.skip rfl ?_
  refine W.loop (fun j e T => ∃ (i : Nat) (o : WL) (x0 : BitVec 64), j = l.length - i ∧ i ≤ l.length ∧ e 1 = vi s ∧ e 5 = .slice (some ⟨ro, 0, none⟩) (l.length + 1) (l.length + 1) ∧ e 12 = .slice a l.length c ∧ e 13 = vi l.length ∧ e 14 = vi i ∧ Cons S T ∧ T.row? ro = some (newR (wv o) 39) ∧ o.length = l.length + 1 ∧ o[i]? = some x0 ∧ x0.toNat < 2 ^ s ∧ wnum o = wnum (l.take i) * 2 ^ s ∧ ∀ p, i < p → p < l.length + 1 → o[p]? = some 0#64) l.length
    ⟨0, List.replicate (l.length + 1) 0#64, 0#64, by omega, by omega, rfl, rfl, rfl, rfl, rfl, hc, hro, by simp, by simp, Nat.two_pow_pos s, by rw [wnum_zeros]; simp [wnum], fun p _ hp => by simp [hp]⟩ ?_
  clear hro hc
  rintro j e T ⟨i, o, x0, rfl, hi, e1, e5, e12, e13, e14, hkT, hro, hol, hx0, hxs, hsum, hz⟩
  refine W.env5 e1 e5 e12 e13 e14 ?_
  repeat first|refine W.g ?_|refine L.p rfl rfl ?_|refine L.nil ?_|refine L.skip rfl ?_
  refine W.ite rfl (fun h => ?_) (fun h => ?_)
  · have hin : i < l.length := by have := of_decide_eq_true h; omega
    clear h
    obtain ⟨x, hx⟩ : ∃ x, l[i]? = some x := ⟨_, List.getElem?_eq_getElem hin⟩
    have hxl := x.isLt
    have hz1 := hz (i + 1) (by omega) (by omega)
    have hsl : Slv T 1 (.slice (some ⟨ro, 0, none⟩) (l.length + 1) (l.length + 1)) (l.length + 1) (wv o) := Slv.all hro rfl (by rw [wv_len, hol, Nat.mul_one])
    repeat first|refine W.g ?_|refine L.p rfl rfl ?_|refine L.nil ?_|refine L.skip rfl ?_
    refine L.el (h.1.cons hkT) (k := i) rfl (wv_get hx) rfl rfl rfl rfl (fun _ => rfl) rfl (fun p => ?_)
    repeat first|refine W.g ?_|refine L.p rfl rfl ?_|refine L.nil ?_|refine L.skip rfl ?_
    refine L.el hsl (k := i) rfl (wv_get hx0) rfl rfl rfl rfl (fun _ => rfl) rfl (fun p => ?_)
    repeat first|refine W.g ?_|refine L.p rfl rfl ?_|refine L.nil ?_|refine L.skip rfl ?_
    have hup := up_word (x := x.toNat) hs hxs
    obtain ⟨r, hr⟩ := word_of (up_low (x := x.toNat) hs hxs)
    obtain ⟨r2, hr2⟩ := word_of (Nat.lt_trans (up_over hs hxl) (by rw [← show (2 : Nat) ^ 64 = 18446744073709551616 by decide]; exact Nat.pow_lt_pow_right (by decide) hs))
    have hov : r2.toNat < 2 ^ s := by rw [hr2]; exact up_over hs hxl
    rw [hmin, shl_nat, or_nat x0.isLt (Nat.mod_lt _ (by decide)), ← hr]
    refine L.elst hro rfl (by show 0 + (l.length + 1) ≤ (wv o).length; rw [wv_len, hol]; omega) (k := i) rfl (by omega) rfl rfl rfl rfl (fun _ => rfl) (fun _ => rfl) rfl rfl rfl (fun p => ?_)
    have hro2 := row_set_w (k := i) (r := r) hro
    have hk6 := hkT.set ro { newR (wv o) 39 with cells := (newR (wv o) 39).cells.set (0 + i) (v64 r) } (by omega)
    generalize List.set T ro _ = T6 at *
    repeat first|refine W.g ?_|refine L.p rfl rfl ?_|refine L.nil ?_|refine L.skip rfl ?_
    refine L.shr (63 - s) rfl rfl ?_ (by rw [bits_u64]; omega) rfl ?_
    · rw [wrap64 (by omega) (by omega)]; omega
    rw [shr1, fdivn, ← hr2]
    repeat first|refine W.g ?_|refine L.p rfl rfl ?_|refine L.nil ?_|refine L.skip rfl ?_
    refine L.elst hro2 rfl (by show 0 + (l.length + 1) ≤ (wv (o.set i r)).length; rw [wv_len, List.length_set, hol]; omega) (k := i + 1) (by rw [wrap64 (by omega) (by omega)]; rfl) (by omega) rfl rfl rfl rfl (fun _ => rfl) (fun _ => rfl) rfl rfl rfl (fun p => ?_)
    have hro3 := row_set_w (k := i + 1) (r := r2) hro2
    have hk7 := hk6.set ro { newR (wv (o.set i r)) 39 with cells := (newR (wv (o.set i r)) 39).cells.set (0 + (i + 1)) (v64 r2) } (by omega)
    generalize List.set T6 ro _ = T7 at *
    repeat first|refine W.g ?_|refine L.p rfl rfl ?_|refine L.nil ?_|refine L.skip rfl ?_
    have hs1 := wnum_set (y := r) hx0
    have hs2 := wnum_set (l := o.set i r) (q := i + 1) (x := 0#64) (y := r2) (by rw [List.getElem?_set, if_neg (by omega)]; exact hz1)
    refine ⟨l.length - (i + 1), by omega, i + 1, (o.set i r).set (i + 1) r2, r2, rfl, by omega, rfl, rfl, rfl, rfl, ?_, hk7, hro3, by simpa using hol, ?_, hov, ?_, fun p hp1 hp2 => ?_⟩
    · refine (force_eq rfl).trans ?_
      rw [wrap64 (by omega) (by omega)]; rfl
    · rw [List.getElem?_set, if_pos rfl, if_pos (by rw [List.length_set, hol]; omega)]
    · rw [wnum_take_succ hx]
      rw [zero_word, pow64_succ] at hs2
      rw [← hr, ← hr2] at hup
      have e3 : (r.toNat + 18446744073709551616 * r2.toNat) * 2 ^ (64 * i) = (x0.toNat + x.toNat * 2 ^ s) * 2 ^ (64 * i) := by rw [hup]
      rw [Nat.add_mul, Nat.add_mul, Nat.mul_comm 18446744073709551616, Nat.mul_assoc, Nat.mul_comm 18446744073709551616] at e3
      rw [Nat.add_mul, Nat.mul_comm _ x.toNat, Nat.mul_right_comm]
      omega
    · rw [List.getElem?_set, if_neg (by omega), List.getElem?_set, if_neg (by omega)]; exact hz p (by omega) hp2
  · have hin : i = l.length := by have := of_decide_eq_false h; omega
    subst hin
    clear h
    rw [List.take_length] at hsum
    repeat first|refine W.g ?_|refine L.p rfl rfl ?_|refine L.nil ?_|refine L.skip rfl ?_
    exact ⟨.inr rfl, _, rfl, ro, o, rfl, by omega, hkT, hro, hol, hsum⟩
theorem shl1 (x : Nat) : IntKind.u64.wrap ((x : Int) * 2 ^ min (Int.toNat 1) IntKind.u64.bits) = ((x * 2 % 18446744073709551616 : Nat) : Int) := shl_nat x 1
theorem dnAt_val {l : WL} {s i : Nat} {x : BitVec 64} (hs : s < 64) (h : l[i]? = some x) : (dnAt l s i).toNat = dnW x.toNat (l.getD (i + 1) 0#64).toNat s := by
  unfold dnAt
  rw [List.getD_eq_getElem?_getD, h, Option.getD_some, BitVec.toNat_ofNat]
  exact Nat.mod_eq_of_lt (dn_lt hs x.isLt)
theorem right_C (a : Option Addr) (c : Nat) (l : WL) (s : Nat) (S : Mem) (h : WIn S a c l) (hs : s < 64) (hn : l.length < 100000) :
    C Tryd.prog G Ext 87 [.slice a l.length c, vi s] S fun v S' => ∃ (ro : Nat), v = .slice (some ⟨ro, 0, none⟩) l.length l.length ∧ S.length ≤ ro ∧ Cons S S' ∧ S'.row? ro = some (newR (wv (dnL l s)) 39) := by
  have hmin : min (Int.toNat (s : Int)) IntKind.u64.bits = s := by rw [bits_u64, Int.toNat_natCast]; omega
  refine C.fn Tryd.func87 rfl (by kernel_rfl) rfl ?_
  repeat first|refine W.g ?_|refine L.p rfl rfl ?_|refine L.nil ?_|refine L.skip rfl ?_
  refine L.mk (n := l.length) (m := l.length) (bytes := 8) (zv := v64 0#64) rfl rfl rfl rfl rfl (Nat.le_refl _) (by omega) rfl rfl ?_
  have hro : Mem.row? (S ++ [newR (List.replicate l.length (v64 0#64)) 39]) S.length = some (newR (wv (List.replicate l.length 0#64)) 39) := by
    rw [row_push_new rfl]; simp [wv]
  have hc := Cons.push S (newR (List.replicate l.length (v64 0#64)) 39)
  generalize S ++ [newR (List.replicate l.length (v64 0#64)) 39] = S1 at *
  obtain ⟨ro, hro0⟩ : ∃ ro, ro = S.length := ⟨_, rfl⟩
  rw [← hro0] at hro ⊢
  repeat first|refine W.g ?_|refine L.p rfl rfl ?_|refine L.nil ?_|refine L.skip rfl ?_
  refine W.loop (fun j e T => ∃ (i : Nat) (o : WL), j = l.length - i ∧ i ≤ l.length ∧ e 0 = .slice a l.length c ∧ e 1 = vi s ∧ e 5 = .slice (some ⟨ro, 0, none⟩) l.length l.length ∧ e 11 = vi l.length ∧ e 12 = vi i ∧ Cons S T ∧ T.row? ro = some (newR (wv o) 39) ∧ o.length = l.length ∧ ∀ p, p < i → o[p]? = some (dnAt l s p)) l.length
    ⟨0, List.replicate l.length 0#64, by omega, by omega, rfl, rfl, rfl, rfl, rfl, hc, hro, by simp, fun p hp => by omega⟩ ?_
  clear hro hc
  rintro j e T ⟨i, o, rfl, hi, e0, e1, e5, e11, e12, hkT, hro, hol, hz⟩
  refine W.env5 e0 e1 e5 e11 e12 ?_
  repeat first|refine W.g ?_|refine L.p rfl rfl ?_|refine L.nil ?_|refine L.skip rfl ?_
  refine W.ite rfl (fun h => ?_) (fun h => ?_)
  · have hin : i < l.length := by have := of_decide_eq_true h; omega
    clear h
    obtain ⟨x, hx⟩ : ∃ x, l[i]? = some x := ⟨_, List.getElem?_eq_getElem hin⟩
    have hxl := x.isLt
    have hdv := dnAt_val hs hx
    obtain ⟨r1, hr1⟩ := word_of (n := x.toNat / 2 ^ s) (Nat.lt_of_le_of_lt (Nat.div_le_self _ _) hxl)
    have hi1 : IntKind.i64.wrap ((i : Int) + 1) = ((i + 1 : Nat) : Int) := by rw [wrap64 (by omega) (by omega)]; rfl
    repeat first|refine W.g ?_|refine L.p rfl rfl ?_|refine L.nil ?_|refine L.skip rfl ?_
    refine L.el (h.1.cons hkT) (k := i) rfl (wv_get hx) rfl rfl rfl rfl (fun _ => rfl) rfl (fun p => ?_)
    repeat first|refine W.g ?_|refine L.p rfl rfl ?_|refine L.nil ?_|refine L.skip rfl ?_
    rw [hmin, fdivn, ← hr1]
    refine L.elst hro rfl (by show 0 + l.length ≤ (wv o).length; rw [wv_len, hol]; omega) (k := i) rfl hin rfl rfl rfl rfl (fun _ => rfl) (fun _ => rfl) rfl rfl rfl (fun p => ?_)
    have hro2 := row_set_w (k := i) (r := r1) hro
    have hk6 := hkT.set ro { newR (wv o) 39 with cells := (newR (wv o) 39).cells.set (0 + i) (v64 r1) } (by omega)
    generalize List.set T ro _ = T6 at *
    repeat first|refine W.g ?_|refine L.p rfl rfl ?_|refine L.nil ?_|refine L.skip rfl ?_
    refine W.ite rfl (fun h => ?_) (fun h => ?_)
    · have hi2 : i + 1 < l.length := by rw [hi1] at h; have := of_decide_eq_true h; omega
      clear h
      obtain ⟨y, hy⟩ : ∃ y, l[i + 1]? = some y := ⟨_, List.getElem?_eq_getElem hi2⟩
      rw [List.getD_eq_getElem?_getD, hy, Option.getD_some] at hdv
      unfold dnW at hdv
      rw [← hr1] at hdv
      have hsl : Slv T6 1 (.slice (some ⟨ro, 0, none⟩) l.length l.length) l.length (wv (o.set i r1)) := Slv.all hro2 rfl (by rw [wv_len, List.length_set, hol, Nat.mul_one])
      have hg : (o.set i r1)[i]? = some r1 := by rw [List.getElem?_set, if_pos rfl, if_pos (by omega)]
      repeat first|refine W.g ?_|refine L.p rfl rfl ?_|refine L.nil ?_|refine L.skip rfl ?_
      refine L.el hsl (k := i) rfl (wv_get hg) rfl rfl rfl rfl (fun _ => rfl) rfl (fun p => ?_)
      repeat first|refine W.g ?_|refine L.p rfl rfl ?_|refine L.nil ?_|refine L.skip rfl ?_
      refine L.el (h.1.cons hk6) (k := i + 1) hi1 (wv_get hy) rfl rfl rfl rfl (fun _ => rfl) rfl (fun p => ?_)
      repeat first|refine W.g ?_|refine L.p rfl rfl ?_|refine L.nil ?_|refine L.skip rfl ?_
      refine L.shl (63 - s) rfl rfl ?_ (by rw [bits_u64]; omega) rfl ?_
      · rw [wrap64 (by omega) (by omega)]; omega
      rw [shl1, shl_nat]
      repeat first|refine W.g ?_|refine L.p rfl rfl ?_|refine L.nil ?_|refine L.skip rfl ?_
      rw [or_nat r1.isLt (Nat.mod_lt _ (by decide)), ← hdv]
      refine L.elst hro2 rfl (by show 0 + l.length ≤ (wv (o.set i r1)).length; rw [wv_len, List.length_set, hol]; omega) (k := i) rfl hin rfl rfl rfl rfl (fun _ => rfl) (fun _ => rfl) rfl rfl rfl (fun p => ?_)
      have hro3 := row_set_w (k := i) (r := dnAt l s i) hro2
      have hk7 := hk6.set ro { newR (wv (o.set i r1)) 39 with cells := (newR (wv (o.set i r1)) 39).cells.set (0 + i) (v64 (dnAt l s i)) } (by omega)
      generalize List.set T6 ro _ = T7 at *
      repeat first|refine W.g ?_|refine L.p rfl rfl ?_|refine L.nil ?_|refine L.skip rfl ?_
      refine ⟨l.length - (i + 1), by omega, i + 1, (o.set i r1).set i (dnAt l s i), rfl, by omega, rfl, rfl, rfl, rfl, (force_eq rfl).trans (congrArg (Value.int .i64) hi1), hk7, hro3, by simpa using hol, fun p hp => ?_⟩
      rcases Nat.lt_or_eq_of_le (Nat.le_of_lt_succ hp) with h1 | rfl
      · rw [List.getElem?_set, if_neg (by omega), List.getElem?_set, if_neg (by omega)]; exact hz p h1
      · rw [List.getElem?_set, if_pos rfl, if_pos (by rw [List.length_set]; omega)]
    · have hi2 : l.length ≤ i + 1 := by rw [hi1] at h; have := of_decide_eq_false h; omega
      clear h
      rw [List.getD_eq_getElem?_getD, List.getElem?_eq_none hi2] at hdv
      have hd0 : dnAt l s i = r1 := by
        apply BitVec.eq_of_toNat_eq
        rw [hdv, hr1]
        show x.toNat / 2 ^ s ||| 0 * 2 % 18446744073709551616 * 2 ^ (63 - s) % 18446744073709551616 = _
        rw [Nat.zero_mul, Nat.zero_mod]
        exact Nat.or_zero _
      repeat first|refine W.g ?_|refine L.p rfl rfl ?_|refine L.nil ?_|refine L.skip rfl ?_
      refine ⟨l.length - (i + 1), by omega, i + 1, o.set i r1, rfl, by omega, rfl, rfl, rfl, rfl, (force_eq rfl).trans (congrArg (Value.int .i64) hi1), hk6, hro2, by simpa using hol, fun p hp => ?_⟩
      rcases Nat.lt_or_eq_of_le (Nat.le_of_lt_succ hp) with h1 | rfl
      · rw [List.getElem?_set, if_neg (by omega)]; exact hz p h1
      · rw [List.getElem?_set, if_pos rfl, if_pos (by omega), hd0]
  · have hin : i = l.length := by have := of_decide_eq_false h; omega
    subst hin
    clear h
    have hfin : o = dnL l s := by
      apply List.ext_getElem?
      intro p
      by_cases hp : p < l.length
      · rw [hz p hp]
        unfold dnL
        rw [List.getElem?_map, List.getElem?_range hp]; rfl
      · rw [List.getElem?_eq_none (by omega), List.getElem?_eq_none (by rw [dnL_len]; omega)]
    rw [hfin] at hro
    repeat first|refine W.g ?_|refine L.p rfl rfl ?_|refine L.nil ?_|refine L.skip rfl ?_
    exact ⟨.inr rfl, _, rfl, ro, rfl, by omega, hkT, hro⟩
end Go.Proofs.YtlnlcddbllcehaaDoor

/- Layer 1: differences. Conditions: none. -/
set_option linter.unusedSimpArgs false
set_option linter.unusedVariables false
set_option maxRecDepth 100000
set_option maxHeartbeats 4000000
namespace Go.Proofs.YtlnlcddbllcehaaDoor
open Go
variable {G : Nat} {Ext : FuncId → List Value → Mem → Outc → Mem → Prop}
theorem word_ofN {n : Nat} (h : n < 18446744073709551616) : ∃ r : BitVec 64, r.toNat = n := ⟨BitVec.ofNat 64 n, by rw [BitVec.toNat_ofNat]; exact Nat.mod_eq_of_lt h⟩
theorem sub_one {x y l : Nat} (hx : x < 18446744073709551616) (hy : y < 18446744073709551616) (hl : l ≤ 1) : (x + 18446744073709551616 - y - l) % 18446744073709551616 + (y + l) = x + 18446744073709551616 * (if x < y + l then 1 else 0) := by
  split <;> omega
def subL (l1 l2 : WL) : WL := if small l1 && small l2 then (if wnum l1 < wnum l2 then [] else toldL (toW (wnum l1 - wnum l2))) else []
def subE (l1 l2 : WL) : Int := if small l1 && small l2 then (if wnum l1 < wnum l2 then 10 else toldE (toW (wnum l1 - wnum l2))) else 3
theorem natSub_C (a1 a2 : Option Addr) (c1 c2 : Nat) (l1 l2 : WL) (S : Mem) (h1 : WIn S a1 c1 l1) (h2 : WIn S a2 c2 l2) :
    C Tryd.prog G Ext 25 [.slice a1 l1.length c1, .slice a2 l2.length c2] S fun v S' => ∃ d : Hd, v = .tuple #[d.v, .int .i64 (subE l1 l2)] ∧ RetW S S' d (subL l1 l2) := by
  refine C.fn Tryd.func25 rfl (by kernel_rfl) rfl ?_
  repeat first|refine W.g ?_|refine L.p rfl rfl ?_|refine L.nil ?_|refine L.skip rfl ?_
  refine L.bs [WS.v ⟨a1, c1, l1⟩, WS.v ⟨a2, c2, l2⟩] rfl rfl rfl rfl rfl rfl ?_
  have hc : Cons S (S ++ [newR [WS.v ⟨a1, c1, l1⟩, WS.v ⟨a2, c2, l2⟩] 22]) := Cons.push _ _
  have hs : Slv (S ++ [newR [WS.v ⟨a1, c1, l1⟩, WS.v ⟨a2, c2, l2⟩] 22]) 1 (.slice (some ⟨S.length, 0, none⟩) 2 2) 2 ([WS.mk a1 c1 l1, WS.mk a2 c2 l2].map WS.v) := Slv.all (row_push_new rfl) rfl rfl
  generalize S ++ [newR [WS.v ⟨a1, c1, l1⟩, WS.v ⟨a2, c2, l2⟩] 22] = S1 at *
  refine L.cl (fit_C _ [⟨a1, c1, l1⟩, ⟨a2, c2, l2⟩] S1 hs (fun w hw => by
    simp only [List.mem_cons, List.not_mem_nil, or_false] at hw
    rcases hw with rfl | rfl
    · exact h1.cons hc
    · exact h2.cons hc) (by simp)) rfl rfl ?_
  rintro _ _ ⟨rfl, rfl⟩
  refine ⟨nofun, ?_⟩
  repeat first|refine W.g ?_|refine L.p rfl rfl ?_|refine L.nil ?_|refine L.skip rfl ?_
  refine W.ite rfl (fun h => ?_) (fun h => ?_)
  · have hsm : (small l1 && small l2) = false := by
      have h0 := h
      simp at h0
      cases hq : small l1 <;> simp_all
    repeat first|refine W.g ?_|refine L.p rfl rfl ?_|refine L.nil ?_|refine L.skip rfl ?_
    exact ⟨.inr rfl, _, rfl, Hd0, (by unfold subE; rw [hsm]; rfl), by unfold subL; rw [hsm]; exact RetW.nil hc⟩
  have hsm : (small l1 && small l2) = true := by
    have h0 := h
    simp at h0
    cases hq : small l1 <;> simp_all
  clear h
  have hsm2 := hsm
  rw [Bool.and_eq_true] at hsm2
  rename Mem => S1
  have hI1 := h1.cons hc
  have hI2 := h2.cons hc
  repeat first|refine W.g ?_|refine L.p rfl rfl ?_|refine L.nil ?_|refine L.skip rfl ?_
  refine L.cl (natCmp_C a1 a2 c1 c2 l1 l2 _ hI1 hI2) rfl rfl ?_
  rintro _ _ ⟨rfl, rfl⟩
  refine ⟨nofun, ?_⟩
  repeat first|refine W.g ?_|refine L.p rfl rfl ?_|refine L.nil ?_|refine L.skip rfl ?_
  refine W.ite rfl (fun h => ?_) (fun h => ?_)
  · have hlt : wnum l1 < wnum l2 := by
      have h0 := of_decide_eq_true h
      unfold cmpI at h0
      split at h0
      · omega
      · split at h0 <;> omega
    clear h
    repeat first|refine W.g ?_|refine L.p rfl rfl ?_|refine L.nil ?_|refine L.skip rfl ?_
    exact ⟨.inr rfl, _, rfl, Hd0, (by unfold subE; rw [hsm, if_pos rfl, if_pos hlt]; rfl), by unfold subL; rw [hsm, if_pos rfl, if_pos hlt]; exact RetW.nil hc⟩
  have hge : ¬ wnum l1 < wnum l2 := by
    intro hlt
    have h0 := of_decide_eq_false h
    unfold cmpI at h0
    rw [if_pos (by omega)] at h0
    omega
  clear h
  repeat first|refine W.g ?_|refine L.p rfl rfl ?_|refine L.nil ?_|refine L.skip rfl ?_
  refine L.cl (trim_C a1 c1 l1 _ hI1) rfl rfl ?_
  rintro _ _ ⟨rfl, rfl⟩
  refine ⟨nofun, ?_⟩
  repeat first|refine W.g ?_|refine L.p rfl rfl ?_|refine L.nil ?_|refine L.skip rfl ?_
  refine L.cl (trim_C a2 c2 l2 _ hI2) rfl rfl ?_
  rintro _ _ ⟨rfl, rfl⟩
  refine ⟨nofun, ?_⟩
  rename Mem => S1
  have hF1 := hI1.form
  have hF2 := hI2.form
  have hll : (fm l2).length ≤ (fm l1).length := by
    refine Classical.byContradiction fun hc => ?_
    have := cmp_len (l1 := l1) (l2 := l2) (by omega)
    omega
  have b1 : (fm l1).length ≤ 128 := of_decide_eq_true hsm2.1
  have eE : subE l1 l2 = toldE (toW (wnum (fm l1) - wnum (fm l2))) := by unfold subE; rw [hsm, if_pos rfl, if_neg hge, show wnum (fm l1) = wnum l1 from wnum_toW _, show wnum (fm l2) = wnum l2 from wnum_toW _]
  have eL : subL l1 l2 = toldL (toW (wnum (fm l1) - wnum (fm l2))) := by unfold subL; rw [hsm, if_pos rfl, if_neg hge, show wnum (fm l1) = wnum l1 from wnum_toW _, show wnum (fm l2) = wnum l2 from wnum_toW _]
  have hge2 : wnum (fm l2) ≤ wnum (fm l1) := by rw [show wnum (fm l1) = wnum l1 from wnum_toW _, show wnum (fm l2) = wnum l2 from wnum_toW _]; omega
  rw [eE, eL]
  clear hsm hsm2 eE eL hI1 hI2 hs hge
  generalize fm l1 = f1 at *
  generalize fm l2 = f2 at *
  repeat first|refine W.g ?_|refine L.p rfl rfl ?_|refine L.nil ?_|refine L.skip rfl ?_
  refine L.mk (n := f1.length) (m := f1.length) (bytes := 8) (zv := v64 0#64) rfl rfl rfl rfl rfl (Nat.le_refl _) (by omega) rfl rfl ?_
  have hro : Mem.row? (S1 ++ [newR (List.replicate f1.length (v64 0#64)) 39]) S1.length = some (newR (wv (List.replicate f1.length 0#64)) 39) := by
    rw [row_push_new rfl]; simp [wv]
  have hk5 := Cons.push S1 (newR (List.replicate f1.length (v64 0#64)) 39)
  have hSr : S.length ≤ S1.length := hc.len
  generalize S1 ++ [newR (List.replicate f1.length (v64 0#64)) 39] = S3 at *
  obtain ⟨ro, hro0⟩ : ∃ ro, ro = S1.length := ⟨_, rfl⟩
  rw [← hro0] at hro hSr ⊢
  repeat first|refine W.g ?_|refine L.p rfl rfl ?_|refine L.nil ?_|refine L.skip rfl ?_
  refine W.loop (fun j e T => ∃ (i : Nat) (o : WL) (cr : Nat), j = f1.length - i ∧ i ≤ f1.length ∧ e 0 = .slice a1 f1.length c1 ∧ e 1 = .slice a2 f2.length c2 ∧ e 6 = .slice (some ⟨ro, 0, none⟩) f1.length f1.length ∧ e 7 = .int .u64 (cr : Int) ∧ e 27 = vi f1.length ∧ e 28 = vi i ∧ Cons S1 T ∧ T.row? ro = some (newR (wv o) 39) ∧ o.length = f1.length ∧ cr ≤ 1 ∧ wnum o + wnum (f2.take i) = wnum (f1.take i) + cr * 2 ^ (64 * i) ∧ ∀ p, i ≤ p → p < f1.length → o[p]? = some 0#64) f1.length
    ⟨0, List.replicate f1.length 0#64, 0, by omega, by omega, rfl, rfl, rfl, rfl, rfl, rfl, hk5, hro, by simp, by omega, by rw [wnum_zeros]; simp [wnum], fun p _ hp => by simp [hp]⟩ ?_
  clear hro hk5
  rintro j e T ⟨i, o, cr, rfl, hi, e0, e1, e6, e7, e27, e28, hkT, hro, hol, hcr, hsum, hz⟩
  refine W.env6 e0 e1 e6 e7 e27 e28 ?_
  repeat first|refine W.g ?_|refine L.p rfl rfl ?_|refine L.nil ?_|refine L.skip rfl ?_
  refine W.ite rfl (fun h => ?_) (fun h => ?_)
  · have hin : i < f1.length := by have := of_decide_eq_true h; omega
    clear h
    obtain ⟨x, hx⟩ : ∃ x, f1[i]? = some x := ⟨_, List.getElem?_eq_getElem hin⟩
    have hxl := x.isLt
    have hz0 := hz i (Nat.le_refl _) hin
    repeat first|refine W.g ?_|refine L.p rfl rfl ?_|refine L.nil ?_|refine L.skip rfl ?_
    refine W.ite rfl (fun h => ?_) (fun h => ?_)
    · have hi2 : i < f2.length := by have := of_decide_eq_true h; omega
      clear h
      obtain ⟨y, hy⟩ : ∃ y, f2[i]? = some y := ⟨_, List.getElem?_eq_getElem hi2⟩
      have hyl := y.isLt
      have hty := wnum_take_succ hy
      repeat first|refine W.g ?_|refine L.p rfl rfl ?_|refine L.nil ?_|refine L.skip rfl ?_
      refine L.el (hF2.1.cons hkT) (k := i) rfl (wv_get hy) rfl rfl rfl rfl (fun _ => rfl) rfl (fun p => ?_)
      repeat first|refine W.g ?_|refine L.p rfl rfl ?_|refine L.nil ?_|refine L.skip rfl ?_
      refine L.el (hF1.1.cons hkT) (k := i) rfl (wv_get hx) rfl rfl rfl rfl (fun _ => rfl) rfl (fun p => ?_)
      repeat first|refine W.g ?_|refine L.p rfl rfl ?_|refine L.nil ?_|refine L.skip rfl ?_
      refine L.sub64 (a := x.toNat) (b := y.toNat) (c := cr) hcr rfl rfl ?_
      repeat first|refine W.g ?_|refine L.p rfl rfl ?_|refine L.nil ?_|refine L.skip rfl ?_
      obtain ⟨r, hrv⟩ := word_ofN (show (x.toNat + 18446744073709551616 - y.toNat - cr) % 18446744073709551616 < 18446744073709551616 from Nat.mod_lt _ (by decide))
      have hst := sub_one (x := x.toNat) (y := y.toNat) (l := cr) (by omega) (by omega) hcr
      rw [← hrv] at hst ⊢
      obtain ⟨cr2, hcr2⟩ : ∃ cr2, cr2 = (if x.toNat < y.toNat + cr then 1 else 0 : Nat) := ⟨_, rfl⟩
      have hcl : cr2 ≤ 1 := by rw [hcr2]; split <;> omega
      rw [← hcr2] at hst ⊢
      refine L.elst hro rfl (by show 0 + f1.length ≤ (wv o).length; rw [wv_len, hol]; omega) (k := i) rfl (by omega) rfl rfl rfl rfl (fun _ => rfl) (fun _ => rfl) rfl rfl rfl (fun p => ?_)
      have hr2 : Mem.row? (List.set T ro { newR (wv o) 39 with cells := (newR (wv o) 39).cells.set (0 + i) (v64 r) }) ro = some (newR (wv (o.set i r)) 39) := by
        rw [row_set_same hro rfl, Nat.zero_add]
        simp [newR, wv, List.map_set]
      have hk6 := hkT.set ro { newR (wv o) 39 with cells := (newR (wv o) 39).cells.set (0 + i) (v64 r) } (by omega)
      have hws := wnum_set (y := r) hz0
      generalize List.set T ro _ = T6 at *
      repeat first|refine W.g ?_|refine L.p rfl rfl ?_|refine L.nil ?_|refine L.skip rfl ?_
      refine ⟨f1.length - (i + 1), by omega, i + 1, o.set i r, cr2, rfl, by omega, rfl, rfl, rfl, rfl, rfl, ?_, hk6, hr2, by simpa using hol, hcl, ?_, fun p hp1 hp2 => ?_⟩
      · refine (force_eq rfl).trans ?_
        rw [wrap64 (by omega) (by omega)]; rfl
      · rw [wnum_take_succ hx, hty]
        have hz1 : (0#64 : BitVec 64).toNat * 2 ^ (64 * i) = 0 := Nat.zero_mul _
        rw [hz1] at hws
        have hp : 2 ^ (64 * (i + 1)) = 2 ^ (64 * i) * 18446744073709551616 := by rw [show 64 * (i + 1) = 64 * i + 64 by omega, Nat.pow_add]
        rw [hp]
        have e3 : (r.toNat + (y.toNat + cr)) * 2 ^ (64 * i) = (x.toNat + 18446744073709551616 * cr2) * 2 ^ (64 * i) := by rw [hst]
        rw [Nat.add_mul, Nat.add_mul, Nat.add_mul, Nat.mul_comm _ cr2, Nat.mul_assoc] at e3
        rw [Nat.mul_comm (2 ^ (64 * i)) 18446744073709551616, Nat.mul_comm _ x.toNat, Nat.mul_comm _ (y.toNat)]
        omega
      · rw [List.getElem?_set, if_neg (by omega)]; exact hz p (by omega) hp2
    · have hi2 : f2.length ≤ i := by have := of_decide_eq_false h; omega
      clear h
      have hty : wnum (f2.take (i + 1)) = wnum (f2.take i) + 2 ^ (64 * i) * 0 := by rw [take_more hi2]; omega
      repeat first|refine W.g ?_|refine L.p rfl rfl ?_|refine L.nil ?_|refine L.skip rfl ?_
      refine L.el (hF1.1.cons hkT) (k := i) rfl (wv_get hx) rfl rfl rfl rfl (fun _ => rfl) rfl (fun p => ?_)
      repeat first|refine W.g ?_|refine L.p rfl rfl ?_|refine L.nil ?_|refine L.skip rfl ?_
      refine L.sub64 (a := x.toNat) (b := 0) (c := cr) hcr rfl rfl ?_
      repeat first|refine W.g ?_|refine L.p rfl rfl ?_|refine L.nil ?_|refine L.skip rfl ?_
      obtain ⟨r, hrv⟩ := word_ofN (show (x.toNat + 18446744073709551616 - 0 - cr) % 18446744073709551616 < 18446744073709551616 from Nat.mod_lt _ (by decide))
      have hst := sub_one (x := x.toNat) (y := 0) (l := cr) (by omega) (by omega) hcr
      rw [← hrv] at hst ⊢
      obtain ⟨cr2, hcr2⟩ : ∃ cr2, cr2 = (if x.toNat < 0 + cr then 1 else 0 : Nat) := ⟨_, rfl⟩
      have hcl : cr2 ≤ 1 := by rw [hcr2]; split <;> omega
      rw [← hcr2] at hst ⊢
      refine L.elst hro rfl (by show 0 + f1.length ≤ (wv o).length; rw [wv_len, hol]; omega) (k := i) rfl (by omega) rfl rfl rfl rfl (fun _ => rfl) (fun _ => rfl) rfl rfl rfl (fun p => ?_)
      have hr2 : Mem.row? (List.set T ro { newR (wv o) 39 with cells := (newR (wv o) 39).cells.set (0 + i) (v64 r) }) ro = some (newR (wv (o.set i r)) 39) := by
        rw [row_set_same hro rfl, Nat.zero_add]
        simp [newR, wv, List.map_set]
      have hk6 := hkT.set ro { newR (wv o) 39 with cells := (newR (wv o) 39).cells.set (0 + i) (v64 r) } (by omega)
      have hws := wnum_set (y := r) hz0
      generalize List.set T ro _ = T6 at *
      repeat first|refine W.g ?_|refine L.p rfl rfl ?_|refine L.nil ?_|refine L.skip rfl ?_
      refine ⟨f1.length - (i + 1), by omega, i + 1, o.set i r, cr2, rfl, by omega, rfl, rfl, rfl, rfl, rfl, ?_, hk6, hr2, by simpa using hol, hcl, ?_, fun p hp1 hp2 => ?_⟩
      · refine (force_eq rfl).trans ?_
        rw [wrap64 (by omega) (by omega)]; rfl
      · rw [wnum_take_succ hx, hty]
        have hz1 : (0#64 : BitVec 64).toNat * 2 ^ (64 * i) = 0 := Nat.zero_mul _
        rw [hz1] at hws
        have hp : 2 ^ (64 * (i + 1)) = 2 ^ (64 * i) * 18446744073709551616 := by rw [show 64 * (i + 1) = 64 * i + 64 by omega, Nat.pow_add]
        rw [hp]
        have e3 : (r.toNat + (0 + cr)) * 2 ^ (64 * i) = (x.toNat + 18446744073709551616 * cr2) * 2 ^ (64 * i) := by rw [hst]
        rw [Nat.add_mul, Nat.add_mul, Nat.add_mul, Nat.mul_comm _ cr2, Nat.mul_assoc] at e3
        rw [Nat.mul_comm (2 ^ (64 * i)) 18446744073709551616, Nat.mul_comm _ x.toNat, Nat.mul_comm _ (0)]
        omega
      · rw [List.getElem?_set, if_neg (by omega)]; exact hz p (by omega) hp2
  · have hin : i = f1.length := by have := of_decide_eq_false h; omega
    subst hin
    clear h
    rw [List.take_length, List.take_of_length_le (show f2.length ≤ f1.length by omega)] at hsum
    have hlt := wnum_lt o
    rw [hol] at hlt
    have hcr0 : cr = 0 := by
      rcases Nat.lt_or_ge 0 cr with h | h
      · have h1 : cr = 1 := by omega
        subst h1
        rw [Nat.one_mul] at hsum
        omega
      · omega
    subst hcr0
    rw [Nat.zero_mul, Nat.add_zero] at hsum
    have hnum : wnum o = wnum f1 - wnum f2 := by omega
    have hO : WOwn T S.length (some ⟨ro, 0, none⟩) f1.length o := WOwn.row hro hol hSr (by omega)
    repeat first|refine W.g ?_|refine L.p rfl rfl ?_|refine L.nil ?_|refine L.skip rfl ?_
    refine L.cl (told_C S _ _ o T hO (hc.trans hkT)) rfl (by rw [hol]; rfl) ?_
    rintro _ _ ⟨rfl, d2, rfl, hR2⟩
    refine ⟨nofun, ?_⟩
    repeat first|refine W.g ?_|refine L.p rfl rfl ?_|refine L.nil ?_|refine L.skip rfl ?_
    have t := told_fm o
    unfold fm at t
    rw [hnum] at t
    rw [← t.1] at hR2
    exact ⟨.inr rfl, _, rfl, d2, by rw [t.2]; rfl, hR2⟩
end Go.Proofs.YtlnlcddbllcehaaDoor

/- Layer 1: one digit of a quotient. Conditions: none. -/
set_option linter.unusedSimpArgs false
set_option linter.unusedVariables false
set_option maxRecDepth 100000
set_option maxHeartbeats 4000000
namespace Go.Proofs.YtlnlcddbllcehaaDoor
open Go Ie
variable {Ext : FuncId → List Value → Mem → Outc → Mem → Prop}
theorem mid_slv {S : Mem} {b n c : Nat} {lo m hi : WL} (hr : S.row? b = some (newR (wv (lo ++ m ++ hi)) 39)) (hm : m.length = n) : Slv S 1 (.slice (some ⟨b, lo.length, none⟩) n c) n (wv m) := by
  have hn : lo.length + n * 1 ≤ (newR (wv (lo ++ m ++ hi)) 39).cells.length := by
    show _ ≤ (wv (lo ++ m ++ hi)).length
    rw [wv_len, List.length_append, List.length_append]; omega
  have := Slv.of (c := c) hr hn (.inl rfl)
  have e : ((newR (wv (lo ++ m ++ hi)) 39).cells.drop lo.length).take (n * 1) = wv m := by
    show ((wv (lo ++ m ++ hi)).drop lo.length).take (n * 1) = wv m
    unfold wv
    rw [← List.map_drop, ← List.map_take, List.append_assoc, List.drop_left, Nat.mul_one, ← hm, List.take_left]
  rwa [e] at this
theorem mid_set {S : Mem} {b k : Nat} {lo m hi : WL} {r : BitVec 64} (h : S.row? b = some (newR (wv (lo ++ m ++ hi)) 39)) (hk : k < m.length) : Mem.row? (List.set S b { newR (wv (lo ++ m ++ hi)) 39 with cells := (newR (wv (lo ++ m ++ hi)) 39).cells.set (lo.length + k) (v64 r) }) b = some (newR (wv (lo ++ m.set k r ++ hi)) 39) := by
  rw [row_set_same h rfl]
  have e : (lo ++ m ++ hi).set (lo.length + k) r = lo ++ m.set k r ++ hi := by
    rw [List.append_assoc, List.append_assoc, List.set_append, if_neg (by omega), Nat.add_sub_cancel_left, List.set_append, if_pos hk]
  show some (newR ((wv (lo ++ m ++ hi)).set (lo.length + k) (v64 r)) 39) = _
  rw [← e]
  unfold wv
  rw [List.map_set]
theorem WIn.keepb {S S' : Mem} {b c : Nat} {a : Option Addr} {l : WL} (h : WIn S a c l) (hk : Keep b S S') (hf : ∀ x, a = some x → x.block ≠ b) : WIn S' a c l := ⟨h.1.keepb hk hf, h.2⟩
theorem take_two {l : WL} {n : Nat} {x y : BitVec 64} (hl : l.length = n + 2) (hx : l[n]? = some x) (hy : l[n + 1]? = some y) : wnum l = wnum (l.take n) + 2 ^ (64 * n) * (y.toNat * 18446744073709551616 + x.toNat) := by
  have h1 := wnum_take_succ hx
  have h2 := wnum_take_succ hy
  rw [List.take_of_length_le (by omega), h1, pow64_succ] at h2
  rw [h2, Nat.mul_add, Nat.mul_assoc, Nat.mul_comm 18446744073709551616]; omega
/-- an estimate of a digit -/
def Est (f m0 : WL) (q : Nat) : Prop := q < 18446744073709551616 ∧ wnum m0 < (q + 1) * wnum f
theorem digit_C (b c : Nat) (av : Option Addr) (cv : Nat) (lo m0 hi f : WL) (S : Mem) (hr : S.row? b = some (newR (wv (lo ++ m0 ++ hi)) 39)) (hv : WIn S av cv f) (hne : ∀ x, av = some x → x.block ≠ b)
    (hm0 : m0.length = f.length + 1) (hf : 0 < f.length) (hcan : Canon f) (hfl : f.length < 100000) (hlt : wnum m0 < wnum f * 18446744073709551616) :
    C Tryd.prog gN Ext 86 [.slice (some ⟨b, lo.length, none⟩) (f.length + 1) c, .slice av f.length cv] S fun v T => ∃ (q : BitVec 64) (m : WL), v = v64 q ∧ T.length = S.length ∧ Keep b S T ∧ T.row? b = some (newR (wv (lo ++ m ++ hi)) 39) ∧ m.length = f.length + 1 ∧ wnum m + q.toNat * wnum f = wnum m0 ∧ wnum m < wnum f := by
  obtain ⟨n, hn⟩ : ∃ n, f.length = n + 1 := ⟨f.length - 1, by omega⟩
  obtain ⟨t, ht⟩ : ∃ t, f[n]? = some t := ⟨_, List.getElem?_eq_getElem (by omega)⟩
  have ht0 : t.toNat ≠ 0 := fun e => hcan (by
    rw [List.getLast?_eq_getElem?, hn, Nat.add_sub_cancel, ht]
    exact congrArg some (BitVec.eq_of_toNat_eq (by simpa using e)))
  obtain ⟨x1, hx1⟩ : ∃ x, m0[n]? = some x := ⟨_, List.getElem?_eq_getElem (by omega)⟩
  obtain ⟨x2, hx2⟩ : ∃ x, m0[n + 1]? = some x := ⟨_, List.getElem?_eq_getElem (by omega)⟩
  have hm2 := take_two (by omega) hx1 hx2
  have hfv := wnum_take_succ ht
  rw [List.take_of_length_le (by omega)] at hfv
  have hlo1 := wnum_lt (m0.take n)
  rw [List.length_take, Nat.min_eq_left (by omega)] at hlo1
  have hn1 : IntKind.i64.wrap ((f.length : Int) - 1) = (n : Int) := by rw [wrap64 (by omega) (by omega)]; omega
  have hsl0 : Slv S 1 (.slice (some ⟨b, lo.length, none⟩) (f.length + 1) c) (f.length + 1) (wv m0) := mid_slv hr (by omega)
  refine C.fn Tryd.func86 rfl (by kernel_rfl) rfl ?_
  repeat first|refine W.g ?_|refine L.p rfl rfl ?_|refine L.nil ?_|refine L.skip rfl ?_
  refine L.el hsl0 (k := f.length) rfl (wv_get (by rw [hn]; exact hx2)) rfl rfl rfl rfl (fun _ => rfl) rfl (fun p => ?_)
  repeat first|refine W.g ?_|refine L.p rfl rfl ?_|refine L.nil ?_|refine L.skip rfl ?_
  refine L.el hv.1 (k := n) hn1 (wv_get ht) rfl rfl rfl rfl (fun _ => rfl) rfl (fun p => ?_)
  repeat first|refine W.g ?_|refine L.p rfl rfl ?_|refine L.nil ?_|refine L.skip rfl ?_
  refine W.mono (R := fun x e' S' => x = .nrm ∧ S' = S ∧ ∃ q : Nat, e' 0 = .slice (some ⟨b, lo.length, none⟩) (f.length + 1) c ∧ e' 1 = .slice av f.length cv ∧ e' 5 = vi f.length ∧ e' 6 = .int .u64 (q : Int) ∧ Est f m0 q) ?_ ?_
  · refine W.ite rfl (fun h => ?_) (fun h => ?_)
    · have hxt : x2.toNat < t.toNat := by have := of_decide_eq_true h; omega
      clear h
      repeat first|refine W.g ?_|refine L.p rfl rfl ?_|refine L.nil ?_|refine L.skip rfl ?_
      refine L.el hsl0 (k := f.length) rfl (wv_get (by rw [hn]; exact hx2)) rfl rfl rfl rfl (fun _ => rfl) rfl (fun p => ?_)
      repeat first|refine W.g ?_|refine L.p rfl rfl ?_|refine L.nil ?_|refine L.skip rfl ?_
      refine L.el hsl0 (k := n) hn1 (wv_get hx1) rfl rfl rfl rfl (fun _ => rfl) rfl (fun p => ?_)
      repeat first|refine W.g ?_|refine L.p rfl rfl ?_|refine L.nil ?_|refine L.skip rfl ?_
      refine L.el hv.1 (k := n) hn1 (wv_get ht) rfl rfl rfl rfl (fun _ => rfl) rfl (fun p => ?_)
      repeat first|refine W.g ?_|refine L.p rfl rfl ?_|refine L.nil ?_|refine L.skip rfl ?_
      refine L.cl (div64_C x2.toNat x1.toNat t.toNat S hxt x1.isLt t.isLt) rfl rfl ?_
      rintro _ _ ⟨rfl, rfl⟩
      refine ⟨nofun, ?_⟩
      repeat first|refine W.g ?_|refine L.p rfl rfl ?_|refine L.nil ?_|refine L.skip rfl ?_
      refine ⟨rfl, rfl, _, rfl, rfl, rfl, rfl, ?_, est_top hm2 hlo1 hfv (by omega)⟩
      have := x1.isLt
      exact Nat.div_lt_of_lt_mul (by have := Nat.mul_le_mul_right 18446744073709551616 (Nat.succ_le_of_lt hxt); rw [Nat.succ_mul] at this; omega)
    · repeat first|refine W.g ?_|refine L.p rfl rfl ?_|refine L.nil ?_|refine L.skip rfl ?_
      refine ⟨rfl, rfl, 18446744073709551615, rfl, rfl, rfl, rfl, by decide, ?_⟩
      rw [Nat.mul_comm]; exact hlt
  clear hx1 hx2 hm2 hlo1
  rintro _ e S1 ⟨rfl, hS1, q, e0, e1, e5, e6, hq, hest⟩
  subst hS1
  rename Mem => S
  refine W.env4 e0 e1 e5 e6 ?_
  repeat first|refine W.g ?_|refine L.p rfl rfl ?_|refine L.nil ?_|refine L.skip rfl ?_
  refine W.loop (fun j e T => ∃ (i : Nat) (m : WL) (cr l : Nat), j = f.length - i ∧ i ≤ f.length ∧ e 0 = .slice (some ⟨b, lo.length, none⟩) (f.length + 1) c ∧ e 1 = .slice av f.length cv ∧ e 5 = vi f.length ∧ e 6 = .int .u64 (q : Int) ∧ e 7 = .int .u64 (cr : Int) ∧ e 8 = .int .u64 (l : Int) ∧ e 46 = vi f.length ∧ e 47 = vi i ∧ T.length = S.length ∧ Keep b S T ∧ T.row? b = some (newR (wv (lo ++ m ++ hi)) 39) ∧ m.length = f.length + 1 ∧ cr < 18446744073709551616 ∧ l ≤ 1 ∧ wnum m + q * wnum (f.take i) = wnum m0 + (cr + l) * 2 ^ (64 * i)) f.length
    ⟨0, m0, 0, 0, by omega, by omega, rfl, rfl, rfl, rfl, rfl, rfl, rfl, rfl, rfl, Keep.refl _ _, hr, hm0, by decide, by decide, by simp [wnum]⟩ ?_
  rintro j e T ⟨i, m, cr, l, rfl, hi2, e0, e1, e5, e6, e7, e8, e46, e47, hln, hk, hro, hml, hcr, hl, hsum⟩
  refine W.env8 e0 e1 e5 e6 e7 e8 e46 e47 ?_
  repeat first|refine W.g ?_|refine L.p rfl rfl ?_|refine L.nil ?_|refine L.skip rfl ?_
  refine W.ite rfl (fun h => ?_) (fun h => ?_)
  · have hin : i < f.length := by have := of_decide_eq_true h; omega
    clear h
    obtain ⟨y, hy⟩ : ∃ y, f[i]? = some y := ⟨_, List.getElem?_eq_getElem hin⟩
    obtain ⟨x, hx⟩ : ∃ x, m[i]? = some x := ⟨_, List.getElem?_eq_getElem (by omega)⟩
    have hsl : Slv T 1 (.slice (some ⟨b, lo.length, none⟩) (f.length + 1) c) (f.length + 1) (wv m) := mid_slv hro hml
    obtain ⟨qw, hqw⟩ := word_of hq
    have hxl := x.isLt
    have hyl := y.isLt
    obtain ⟨XY, hXY⟩ : ∃ XY, XY = q * y.toNat := ⟨_, rfl⟩
    have hXYl : XY ≤ 18446744073709551615 * 18446744073709551615 := by rw [hXY]; exact Nat.mul_le_mul (by omega) (by omega)
    have hlo2 : (qw * y).toNat = XY % 18446744073709551616 := by rw [BitVec.toNat_mul, hXY, hqw]
    have hhi2 : (hiW qw y).toNat = XY / 18446744073709551616 := by rw [hiW_val, hXY, hqw]
    repeat first|refine W.g ?_|refine L.p rfl rfl ?_|refine L.nil ?_|refine L.skip rfl ?_
    refine L.el (hv.keepb hk hne).1 (k := i) rfl (wv_get hy) rfl rfl rfl rfl (fun _ => rfl) rfl (fun p => ?_)
    repeat first|refine W.g ?_|refine L.p rfl rfl ?_|refine L.nil ?_|refine L.skip rfl ?_
    rw [← hqw]
    refine L.cl (mul64_C qw y T) rfl rfl ?_
    rintro _ T5 ⟨rfl, hT5⟩
    have hT5 := hT5.symm
    subst hT5
    refine ⟨nofun, ?_⟩
    repeat first|refine W.g ?_|refine L.p rfl rfl ?_|refine L.nil ?_|refine L.skip rfl ?_
    rw [hlo2, hhi2]
    refine L.add64 (a := XY % 18446744073709551616) (b := cr) (c := 0) (by omega) rfl rfl ?_
    repeat first|refine W.g ?_|refine L.p rfl rfl ?_|refine L.nil ?_|refine L.skip rfl ?_
    rw [uadd (a := XY / 18446744073709551616) (b := (XY % 18446744073709551616 + cr + 0) / 18446744073709551616) (by omega)]
    rw [show (XY % 18446744073709551616 + cr + 0) % 18446744073709551616 = (XY + cr) % 18446744073709551616 by omega, show XY / 18446744073709551616 + (XY % 18446744073709551616 + cr + 0) / 18446744073709551616 = (XY + cr) / 18446744073709551616 by omega]
    refine L.el hsl (k := i) rfl (wv_get hx) rfl rfl rfl rfl (fun _ => rfl) rfl (fun p => ?_)
    repeat first|refine W.g ?_|refine L.p rfl rfl ?_|refine L.nil ?_|refine L.skip rfl ?_
    refine L.sub64 (a := x.toNat) (b := (XY + cr) % 18446744073709551616) (c := l) hl rfl rfl ?_
    repeat first|refine W.g ?_|refine L.p rfl rfl ?_|refine L.nil ?_|refine L.skip rfl ?_
    obtain ⟨r, hrv⟩ := word_of (show (x.toNat + 18446744073709551616 - (XY + cr) % 18446744073709551616 - l) % 18446744073709551616 < 18446744073709551616 from Nat.mod_lt _ (by decide))
    have hst := sub_step (W := 0) (V := 0) (C := 0) (P := 0) hxl hyl hq hcr hl
    rw [← hXY, ← hrv] at hst
    rw [← hrv]
    obtain ⟨l2, hl2⟩ : ∃ l2, l2 = (if x.toNat < (XY + cr) % 18446744073709551616 + l then 1 else 0 : Nat) := ⟨_, rfl⟩
    have hll : l2 ≤ 1 := by rw [hl2]; split <;> omega
    rw [← hl2] at hst ⊢
    refine L.elst hro rfl (by show lo.length + (f.length + 1) ≤ (wv (lo ++ m ++ hi)).length; rw [wv_len, List.length_append, List.length_append, hml]; omega) (k := i) rfl (by omega) rfl rfl rfl rfl (fun _ => rfl) (fun _ => rfl) rfl rfl rfl (fun p => ?_)
    have hro2 := mid_set (k := i) (r := r) hro (by omega)
    have hk6 := hk.trans (Keep.set b T { newR (wv (lo ++ m ++ hi)) 39 with cells := (newR (wv (lo ++ m ++ hi)) 39).cells.set (lo.length + i) (v64 r) })
    have hln6 : (List.set T b { newR (wv (lo ++ m ++ hi)) 39 with cells := (newR (wv (lo ++ m ++ hi)) 39).cells.set (lo.length + i) (v64 r) }).length = S.length := by rw [List.length_set, hln]
    have hws := wnum_set (y := r) hx
    generalize List.set T b _ = T6 at *
    repeat first|refine W.g ?_|refine L.p rfl rfl ?_|refine L.nil ?_|refine L.skip rfl ?_
    rw [hqw]
    refine ⟨f.length - (i + 1), by omega, i + 1, m.set i r, (XY + cr) / 18446744073709551616, l2, rfl, by omega, rfl, rfl, rfl, rfl, rfl, rfl, rfl, ?_, hln6, hk6, hro2, by simpa using hml, by omega, hll, ?_⟩
    · refine (force_eq rfl).trans ?_
      rw [wrap64 (by omega) (by omega)]; rfl
    · rw [wnum_take_succ hy, pow64_succ]
      have e3 : (r.toNat + (XY + cr + l)) * 2 ^ (64 * i) = (x.toNat + 18446744073709551616 * ((XY + cr) / 18446744073709551616 + l2)) * 2 ^ (64 * i) := by rw [hst]
      rw [Nat.add_mul, Nat.add_mul (XY + cr), Nat.add_mul XY, Nat.add_mul x.toNat, Nat.mul_comm 18446744073709551616, Nat.mul_assoc, Nat.mul_comm 18446744073709551616] at e3
      rw [Nat.add_mul cr] at hsum
      have e4 : q * (2 ^ (64 * i) * y.toNat) = XY * 2 ^ (64 * i) := by rw [hXY, Nat.mul_assoc, Nat.mul_comm y.toNat]
      rw [Nat.mul_add, e4]
      omega
  have hin : i = f.length := by have := of_decide_eq_false h; omega
  subst hin
  clear h
  rw [List.take_length] at hsum
  obtain ⟨x, hx⟩ : ∃ x, m[f.length]? = some x := ⟨_, List.getElem?_eq_getElem (by omega)⟩
  have hxl := x.isLt
  have hsl : Slv T 1 (.slice (some ⟨b, lo.length, none⟩) (f.length + 1) c) (f.length + 1) (wv m) := mid_slv hro hml
  repeat first|refine W.g ?_|refine L.p rfl rfl ?_|refine L.nil ?_|refine L.skip rfl ?_
  refine L.el hsl (k := f.length) rfl (wv_get hx) rfl rfl rfl rfl (fun _ => rfl) rfl (fun p => ?_)
  repeat first|refine W.g ?_|refine L.p rfl rfl ?_|refine L.nil ?_|refine L.skip rfl ?_
  refine L.sub64 (a := x.toNat) (b := cr) (c := l) hl rfl rfl ?_
  repeat first|refine W.g ?_|refine L.p rfl rfl ?_|refine L.nil ?_|refine L.skip rfl ?_
  obtain ⟨r, hrv⟩ := word_of (show (x.toNat + 18446744073709551616 - cr - l) % 18446744073709551616 < 18446744073709551616 from Nat.mod_lt _ (by decide))
  have hst := sub_one (x := x.toNat) (y := cr) (l := l) hxl hcr hl
  rw [← hrv] at hst ⊢
  obtain ⟨l2, hl2⟩ : ∃ l2, l2 = (if x.toNat < cr + l then 1 else 0 : Nat) := ⟨_, rfl⟩
  have hll : l2 ≤ 1 := by rw [hl2]; split <;> omega
  rw [← hl2] at hst ⊢
  refine L.elst hro rfl (by show lo.length + (f.length + 1) ≤ (wv (lo ++ m ++ hi)).length; rw [wv_len, List.length_append, List.length_append, hml]; omega) (k := f.length) rfl (by omega) rfl rfl rfl rfl (fun _ => rfl) (fun _ => rfl) rfl rfl rfl (fun p => ?_)
  have hro2 := mid_set (k := f.length) (r := r) hro (by omega)
  have hk6 := hk.trans (Keep.set b T { newR (wv (lo ++ m ++ hi)) 39 with cells := (newR (wv (lo ++ m ++ hi)) 39).cells.set (lo.length + f.length) (v64 r) })
  have hln6 : (List.set T b { newR (wv (lo ++ m ++ hi)) 39 with cells := (newR (wv (lo ++ m ++ hi)) 39).cells.set (lo.length + f.length) (v64 r) }).length = S.length := by rw [List.length_set, hln]
  have hws := wnum_set (y := r) hx
  generalize List.set T b _ = T6 at *
  repeat first|refine W.g ?_|refine L.p rfl rfl ?_|refine L.nil ?_|refine L.skip rfl ?_
  have hsum2 : wnum (m.set f.length r) + q * wnum f = wnum m0 + l2 * 2 ^ (64 * (f.length + 1)) := by
    rw [pow64_succ]
    have e3 : (r.toNat + (cr + l)) * 2 ^ (64 * f.length) = (x.toNat + 18446744073709551616 * l2) * 2 ^ (64 * f.length) := by rw [hst]
    rw [Nat.add_mul, Nat.add_mul x.toNat, Nat.mul_comm 18446744073709551616, Nat.mul_assoc, Nat.mul_comm 18446744073709551616] at e3
    omega
  clear hsum hst hws hsl hro hrv hx hk hln hcr hl hl2
  have hml2 : (m.set f.length r).length = f.length + 1 := by simpa using hml
  clear hml
  generalize m.set f.length r = m1 at *
  -- one too many, or two
  refine W.loop (fun j e T => ∃ (m : WL) (q l : Nat), j = q ∧ e 0 = .slice (some ⟨b, lo.length, none⟩) (f.length + 1) c ∧ e 1 = .slice av f.length cv ∧ e 5 = vi f.length ∧ e 6 = .int .u64 (q : Int) ∧ e 8 = .int .u64 (l : Int) ∧ T.length = S.length ∧ Keep b S T ∧ T.row? b = some (newR (wv (lo ++ m ++ hi)) 39) ∧ m.length = f.length + 1 ∧ l ≤ 1 ∧ wnum m + q * wnum f = wnum m0 + l * 2 ^ (64 * (f.length + 1)) ∧ Est f m0 q) q
    ⟨m1, q, l2, rfl, rfl, rfl, rfl, rfl, rfl, hln6, hk6, hro2, hml2, hll, hsum2, hq, hest⟩ ?_
  clear hsum2 hll hml2 hro2 hk6 hln6 hest hq e0 e1 e5 e6 e7 e8 e46 e47
  clear e
  rintro j e T ⟨m, q, l, rfl, e0, e1, e5, e6, e8, hln, hk, hro, hml, hl, hsum, hq, hest⟩
  refine W.env5 e0 e1 e5 e6 e8 ?_
  repeat first|refine W.g ?_|refine L.p rfl rfl ?_|refine L.nil ?_|refine L.skip rfl ?_
  refine W.ite rfl (fun h => ?_) (fun h => ?_)
  rotate_left
  · have hl0 : l = 0 := by have := of_decide_eq_false h; omega
    subst hl0
    rw [Nat.zero_mul, Nat.add_zero] at hsum
    clear h
    obtain ⟨qw, hqw⟩ := word_of hq
    repeat first|refine W.g ?_|refine L.p rfl rfl ?_|refine L.nil ?_|refine L.skip rfl ?_
    rw [← hqw]
    refine ⟨.inr rfl, _, rfl, qw, m, rfl, hln, hk, hro, hml, by rw [hqw]; exact hsum, ?_⟩
    rw [Nat.add_mul, Nat.one_mul] at hest
    omega
  have hl1 : l = 1 := by have := of_decide_eq_true h; omega
  subst hl1
  clear h
  rw [Nat.one_mul] at hsum
  have hmlt := wnum_lt m
  rw [hml] at hmlt
  have hq1 : 1 ≤ j := by
    rcases Nat.eq_zero_or_pos j with h0 | h0
    · subst h0; rw [Nat.zero_mul] at hsum; omega
    · exact h0
  have hwq : IntKind.u64.wrap ((j : Int) - 1) = ((j - 1 : Nat) : Int) := usub (b := 1) hq hq1
  have hqs : j * wnum f = (j - 1) * wnum f + wnum f := by
    conv => lhs; rw [show j = j - 1 + 1 by omega, Nat.add_mul, Nat.one_mul]
  repeat first|refine W.g ?_|refine L.p rfl rfl ?_|refine L.nil ?_|refine L.skip rfl ?_
  refine W.loop (fun k e T => ∃ (i : Nat) (m2 : WL) (cr : Nat), k = f.length - i ∧ i ≤ f.length ∧ e 0 = .slice (some ⟨b, lo.length, none⟩) (f.length + 1) c ∧ e 1 = .slice av f.length cv ∧ e 5 = vi f.length ∧ e 6 = .int .u64 ((j - 1 : Nat) : Int) ∧ e 8 = .int .u64 1 ∧ e 13 = .int .u64 (cr : Int) ∧ e 100 = vi f.length ∧ e 101 = vi i ∧ T.length = S.length ∧ Keep b S T ∧ T.row? b = some (newR (wv (lo ++ m2 ++ hi)) 39) ∧ m2.length = f.length + 1 ∧ cr ≤ 1 ∧ wnum m2 + cr * 2 ^ (64 * i) = wnum m + wnum (f.take i)) f.length
    ⟨0, m, 0, by omega, by omega, rfl, rfl, rfl, (force_eq rfl).trans (congrArg (Value.int .u64) hwq), rfl, rfl, rfl, rfl, hln, hk, hro, hml, by decide, by simp [wnum]⟩ ?_
  clear hln hk hro hml e0 e1 e5 e6 e8
  clear e
  obtain ⟨m1, hm1⟩ : ∃ m1, m1 = m := ⟨_, rfl⟩
  rw [← hm1] at hmlt hsum ⊢
  clear hm1 m
  rintro k e T ⟨i, m, cr, rfl, hi2, e0, e1, e5, e6, e8, e13, e100, e101, hln, hk, hro, hml, hcr, hsm⟩
  refine W.env8 e0 e1 e5 e6 e8 e13 e100 e101 ?_
  have hsl : Slv T 1 (.slice (some ⟨b, lo.length, none⟩) (f.length + 1) c) (f.length + 1) (wv m) := mid_slv hro hml
  repeat first|refine W.g ?_|refine L.p rfl rfl ?_|refine L.nil ?_|refine L.skip rfl ?_
  refine W.ite rfl (fun h => ?_) (fun h => ?_)
  · have hin : i < f.length := by have := of_decide_eq_true h; omega
    clear h
    obtain ⟨y, hy⟩ : ∃ y, f[i]? = some y := ⟨_, List.getElem?_eq_getElem hin⟩
    obtain ⟨x, hx⟩ : ∃ x, m[i]? = some x := ⟨_, List.getElem?_eq_getElem (by omega)⟩
    have hxl := x.isLt
    have hyl := y.isLt
    repeat first|refine W.g ?_|refine L.p rfl rfl ?_|refine L.nil ?_|refine L.skip rfl ?_
    refine L.el hsl (k := i) rfl (wv_get hx) rfl rfl rfl rfl (fun _ => rfl) rfl (fun p => ?_)
    repeat first|refine W.g ?_|refine L.p rfl rfl ?_|refine L.nil ?_|refine L.skip rfl ?_
    refine L.el (hv.keepb hk hne).1 (k := i) rfl (wv_get hy) rfl rfl rfl rfl (fun _ => rfl) rfl (fun p => ?_)
    repeat first|refine W.g ?_|refine L.p rfl rfl ?_|refine L.nil ?_|refine L.skip rfl ?_
    refine L.add64 (a := x.toNat) (b := y.toNat) (c := cr) hcr rfl rfl ?_
    repeat first|refine W.g ?_|refine L.p rfl rfl ?_|refine L.nil ?_|refine L.skip rfl ?_
    obtain ⟨r, hrv⟩ := word_of (show (x.toNat + y.toNat + cr) % 18446744073709551616 < 18446744073709551616 from Nat.mod_lt _ (by decide))
    rw [← hrv]
    refine L.elst hro rfl (by show lo.length + (f.length + 1) ≤ (wv (lo ++ m ++ hi)).length; rw [wv_len, List.length_append, List.length_append, hml]; omega) (k := i) rfl (by omega) rfl rfl rfl rfl (fun _ => rfl) (fun _ => rfl) rfl rfl rfl (fun p => ?_)
    have hro2 := mid_set (k := i) (r := r) hro (by omega)
    have hk6 := hk.trans (Keep.set b T { newR (wv (lo ++ m ++ hi)) 39 with cells := (newR (wv (lo ++ m ++ hi)) 39).cells.set (lo.length + i) (v64 r) })
    have hln6 : (List.set T b { newR (wv (lo ++ m ++ hi)) 39 with cells := (newR (wv (lo ++ m ++ hi)) 39).cells.set (lo.length + i) (v64 r) }).length = S.length := by rw [List.length_set, hln]
    have hws := wnum_set (y := r) hx
    generalize List.set T b _ = T6 at *
    repeat first|refine W.g ?_|refine L.p rfl rfl ?_|refine L.nil ?_|refine L.skip rfl ?_
    refine ⟨f.length - (i + 1), by omega, i + 1, m.set i r, (x.toNat + y.toNat + cr) / 18446744073709551616, rfl, by omega, rfl, rfl, rfl, rfl, rfl, rfl, rfl, ?_, hln6, hk6, hro2, by simpa using hml, by omega, ?_⟩
    · refine (force_eq rfl).trans ?_
      rw [wrap64 (by omega) (by omega)]; rfl
    · rw [wnum_take_succ hy, pow64_succ]
      have e3 : (r.toNat + (x.toNat + y.toNat + cr) / 18446744073709551616 * 18446744073709551616) * 2 ^ (64 * i) = (x.toNat + y.toNat + cr) * 2 ^ (64 * i) := by rw [hrv]; congr 1; omega
      rw [Nat.add_mul, Nat.add_mul (x.toNat + y.toNat), Nat.add_mul x.toNat, Nat.mul_assoc, Nat.mul_comm 18446744073709551616] at e3
      rw [Nat.mul_comm _ y.toNat]
      omega
  have hin : i = f.length := by have := of_decide_eq_false h; omega
  subst hin
  clear h
  rw [List.take_length] at hsm
  obtain ⟨x, hx⟩ : ∃ x, m[f.length]? = some x := ⟨_, List.getElem?_eq_getElem (by omega)⟩
  have hxl := x.isLt
  repeat first|refine W.g ?_|refine L.p rfl rfl ?_|refine L.nil ?_|refine L.skip rfl ?_
  refine L.el hsl (k := f.length) rfl (wv_get hx) rfl rfl rfl rfl (fun _ => rfl) rfl (fun p => ?_)
  repeat first|refine W.g ?_|refine L.p rfl rfl ?_|refine L.nil ?_|refine L.skip rfl ?_
  refine L.add64 (a := x.toNat) (b := 0) (c := cr) hcr rfl rfl ?_
  repeat first|refine W.g ?_|refine L.p rfl rfl ?_|refine L.nil ?_|refine L.skip rfl ?_
  obtain ⟨r, hrv⟩ := word_of (show (x.toNat + 0 + cr) % 18446744073709551616 < 18446744073709551616 from Nat.mod_lt _ (by decide))
  rw [← hrv]
  obtain ⟨c2, hc2⟩ : ∃ c2, c2 = (x.toNat + 0 + cr) / 18446744073709551616 := ⟨_, rfl⟩
  have hc2l : c2 ≤ 1 := by omega
  rw [← hc2]
  refine L.elst hro rfl (by show lo.length + (f.length + 1) ≤ (wv (lo ++ m ++ hi)).length; rw [wv_len, List.length_append, List.length_append, hml]; omega) (k := f.length) rfl (by omega) rfl rfl rfl rfl (fun _ => rfl) (fun _ => rfl) rfl rfl rfl (fun p => ?_)
  have hro2 := mid_set (k := f.length) (r := r) hro (by omega)
  have hk6 := hk.trans (Keep.set b T { newR (wv (lo ++ m ++ hi)) 39 with cells := (newR (wv (lo ++ m ++ hi)) 39).cells.set (lo.length + f.length) (v64 r) })
  have hln6 : (List.set T b { newR (wv (lo ++ m ++ hi)) 39 with cells := (newR (wv (lo ++ m ++ hi)) 39).cells.set (lo.length + f.length) (v64 r) }).length = S.length := by rw [List.length_set, hln]
  have hws := wnum_set (y := r) hx
  generalize List.set T b _ = T6 at *
  have hsum2 : wnum (m.set f.length r) + (j - 1) * wnum f = wnum m0 + (1 - c2) * 2 ^ (64 * (f.length + 1)) := by
    have e3 : (r.toNat + c2 * 18446744073709551616) * 2 ^ (64 * f.length) = (x.toNat + cr) * 2 ^ (64 * f.length) := by rw [hrv, hc2]; congr 1; omega
    rw [Nat.add_mul, Nat.add_mul x.toNat, Nat.mul_assoc, Nat.mul_comm 18446744073709551616] at e3
    rw [pow64_succ] at hsum ⊢
    rcases Nat.lt_or_ge c2 1 with h0 | h0
    · rw [show c2 = 0 by omega, Nat.zero_mul] at e3
      rw [show 1 - c2 = 1 by omega, Nat.one_mul]
      omega
    · rw [show c2 = 1 by omega, Nat.one_mul] at e3
      rw [show 1 - c2 = 0 by omega, Nat.zero_mul]
      omega
  have hest2 : Est f m0 (j - 1) := by
    refine ⟨by omega, ?_⟩
    rw [Nat.sub_add_cancel hq1]
    omega
  repeat first|refine W.g ?_|refine L.p rfl rfl ?_|refine L.nil ?_|refine L.skip rfl ?_
  refine ⟨j - 1, by omega, m.set f.length r, j - 1, 1 - c2, rfl, rfl, rfl, rfl, rfl, ?_, hln6, hk6, hro2, by simpa using hml, by omega, hsum2, hest2⟩
  exact (force_eq rfl).trans (congrArg (Value.int .u64) (usub (a := 1) (b := c2) (by decide) hc2l))
end Go.Proofs.YtlnlcddbllcehaaDoor

/- Layer 1: quotients of numbers in their form. Conditions: none. -/
set_option linter.unusedSimpArgs false
set_option linter.unusedVariables false
set_option maxRecDepth 100000
set_option maxHeartbeats 4000000
namespace Go.Proofs.YtlnlcddbllcehaaDoor
open Go Ie
variable {Ext : FuncId → List Value → Mem → Outc → Mem → Prop}
theorem div_step {lo m hi m' V : WL} {q j n : Nat} (hlo : lo.length = j) (hm : m.length = n + 1) (hm' : m'.length = n + 1) (hV : V.length = n) (h : wnum (lo ++ m ++ hi) < wnum V * 2 ^ (64 * (j + 1))) :
    wnum m < wnum V * 18446744073709551616 ∧ (wnum m' + q * wnum V = wnum m → wnum m' < wnum V → wnum (lo ++ m' ++ hi) + q * 2 ^ (64 * j) * wnum V = wnum (lo ++ m ++ hi) ∧ wnum (lo ++ m' ++ hi) < wnum V * 2 ^ (64 * j)) := by
  have eo : wnum (lo ++ m ++ hi) = wnum lo + 2 ^ (64 * j) * (wnum m + 2 ^ (64 * (n + 1)) * wnum hi) := by rw [List.append_assoc, wnum_append lo, wnum_append m, hlo, hm]
  have eo' : wnum (lo ++ m' ++ hi) = wnum lo + 2 ^ (64 * j) * (wnum m' + 2 ^ (64 * (n + 1)) * wnum hi) := by rw [List.append_assoc, wnum_append lo, wnum_append m', hlo, hm']
  rw [eo] at h ⊢
  rw [eo']
  have hVl := wnum_lt V
  rw [hV] at hVl
  have hlol := wnum_lt lo
  rw [hlo] at hlol
  have hp := Nat.two_pow_pos (64 * j)
  rw [pow64_succ j, ← Nat.mul_assoc] at h
  have hz : wnum hi = 0 := by
    refine Classical.byContradiction fun hc => ?_
    have h1 : 2 ^ (64 * (n + 1)) * 1 ≤ 2 ^ (64 * (n + 1)) * wnum hi := Nat.mul_le_mul_left _ (by omega)
    have h2 : 2 ^ (64 * j) * 2 ^ (64 * (n + 1)) ≤ 2 ^ (64 * j) * (wnum m + 2 ^ (64 * (n + 1)) * wnum hi) := Nat.mul_le_mul_left _ (by omega)
    have h3 : wnum V * 2 ^ (64 * j) * 18446744073709551616 ≤ 2 ^ (64 * n) * 2 ^ (64 * j) * 18446744073709551616 := Nat.mul_le_mul_right _ (Nat.mul_le_mul_right _ (by omega))
    rw [pow64_succ n] at h2
    have e : 2 ^ (64 * n) * 2 ^ (64 * j) * 18446744073709551616 = 2 ^ (64 * j) * (2 ^ (64 * n) * 18446744073709551616) := by rw [Nat.mul_comm (2 ^ (64 * n)), Nat.mul_assoc]
    rw [pow64_succ n] at h h1
    omega
  rw [hz, Nat.mul_zero, Nat.add_zero] at h ⊢
  rw [Nat.add_zero]
  constructor
  · have h1 : 2 ^ (64 * j) * wnum m < 2 ^ (64 * j) * (wnum V * 18446744073709551616) := by
      rw [← Nat.mul_assoc, Nat.mul_comm _ (wnum V)]; omega
    exact Nat.lt_of_mul_lt_mul_left h1
  · intro e1 e2
    constructor
    · rw [← e1, Nat.mul_add, Nat.mul_comm q, Nat.mul_assoc]; omega
    · have h1 : 2 ^ (64 * j) * (wnum m' + 1) ≤ 2 ^ (64 * j) * wnum V := Nat.mul_le_mul_left _ e2
      rw [Nat.mul_comm (wnum V)]
      rw [Nat.mul_add] at h1
      omega
theorem take_low {l : WL} {n : Nat} (h : wnum l < 2 ^ (64 * n)) : wnum (l.take n) = wnum l := by
  by_cases hn : n ≤ l.length
  · have h1 := wnum_append (l.take n) (l.drop n)
    rw [List.take_append_drop, List.length_take, Nat.min_eq_left hn] at h1
    have : wnum (l.drop n) = 0 := by
      refine Classical.byContradiction fun hc => ?_
      have : 2 ^ (64 * n) * 1 ≤ 2 ^ (64 * n) * wnum (l.drop n) := Nat.mul_le_mul_left _ (by omega)
      omega
    rw [this, Nat.mul_zero] at h1
    omega
  · rw [List.take_of_length_le (by omega)]
theorem part_row {b n c k h : Nat} {lv hv : Value} {kd kd' : IntKind} (hl : lv = .int kd (k : Int)) (hh : hv = .int kd' (h : Int)) (hk : k ≤ h) (hc : h ≤ c) (hcU : c < UNK) (hkc : k < c) : aslice 1 (some ⟨b, 0, none⟩) n c (some lv) (some hv) none = some (.slice (some ⟨b, k, none⟩) (h - k) (c - k)) := by
  rw [aslice_at (.inr ⟨kd, congrArg some hl⟩) (.inr ⟨kd', congrArg some hh⟩) hk (by unfold knownCap; rw [if_pos hcU]; exact hc), if_pos hcU]
  unfold acut
  rw [if_neg (by omega)]
  show some (Value.slice (some (Addr.add ⟨b, 0, none⟩ (k * 1))) (h - k) (c - k)) = _
  rw [add_one, Nat.zero_add]
theorem WOwn.nil {S : Mem} (N : Nat) : WOwn S N none 0 [] := ⟨⟨Slv.nil _ _ _ _, by decide, fun _ => rfl, by decide⟩, nofun⟩
/-- the lengths of moved numbers -/
theorem moved_len {f : WL} {t : BitVec 64} {n s : Nat} (hn : f.length = n + 1) (ht : f[n]? = some t) (ht0 : t ≠ 0#64) (hs : s = 64 - blen t.toNat) : (toW (wnum f * 2 ^ s)).length = n + 1 ∧ s < 64 := by
  have hb64 : blen t.toNat ≤ 64 := blen_le.2 t.isLt
  have hne : t.toNat ≠ 0 := fun e => ht0 (BitVec.eq_of_toNat_eq (by simpa using e))
  have hb0 : 0 < blen t.toNat := by unfold blen; rw [if_neg hne]; omega
  have hb := blen_top (l := f) (x := t) (by rw [List.getLast?_eq_getElem?, hn, Nat.add_sub_cancel]; exact ht) ht0
  rw [hn, Nat.add_sub_cancel] at hb
  have h1 : wnum f < 2 ^ (64 * n + blen t.toNat) := blen_le.1 (by omega)
  have h2 : wnum f * 2 ^ s < 2 ^ (64 * (n + 1)) := by
    have : 2 ^ (64 * n + blen t.toNat) * 2 ^ s = 2 ^ (64 * (n + 1)) := by rw [← Nat.pow_add]; congr 1; omega
    rw [← this]
    exact Nat.mul_lt_mul_of_pos_right h1 (Nat.two_pow_pos s)
  have h3 := (toW_len _ (n + 1)).2 h2
  have h4 : ¬ (toW (wnum f * 2 ^ s)).length ≤ n := by
    intro hc
    have := (toW_len _ n).1 hc
    have h5 : ¬ wnum f < 2 ^ (64 * n) := fun hc2 => by have := blen_le.2 hc2; omega
    have h6 : wnum f * 1 ≤ wnum f * 2 ^ s := Nat.mul_le_mul_left _ (Nat.two_pow_pos s)
    omega
  exact ⟨by omega, by omega⟩
/-- what 'div' hands out -/
def DivR (S S' : Mem) (v : Value) (a b : WL) : Prop := ∃ (aq : Option Addr) (cq : Nat) (lq : WL) (ar : Option Addr) (cr : Nat) (lr : WL), v = .tuple #[.slice aq lq.length cq, .slice ar lr.length cr] ∧ Cons S S' ∧ WOwn S' S.length aq cq lq ∧ WOwn S' S.length ar cr lr ∧ wnum lq = wnum a / wnum b ∧ wnum lr = wnum a % wnum b ∧ lq.length ≤ a.length + 1 ∧ lr.length ≤ a.length ∧ ∀ x y, aq = some x → ar = some y → x.block ≠ y.block
theorem div_C (a1 a2 : Option Addr) (c1 c2 : Nat) (f1 f2 : WL) (S : Mem) (h1 : WIn S a1 c1 f1) (h2 : WIn S a2 c2 f2) (k1 : Canon f1) (k2 : Canon f2) (hne : 0 < f2.length) (n1 : f1.length < 1000) (n2 : f2.length < 1000) :
    C Tryd.prog gN Ext 67 [.slice a1 f1.length c1, .slice a2 f2.length c2] S fun v S' => DivR S S' v f1 f2 := by
  refine C.fn Tryd.func67 rfl (by kernel_rfl) rfl ?_
  repeat first|refine W.g ?_|refine L.p rfl rfl ?_|refine L.nil ?_|refine L.skip rfl ?_
  refine L.cl (natCmp_C a1 a2 c1 c2 f1 f2 _ h1 h2) rfl rfl ?_
  rintro _ _ ⟨rfl, rfl⟩
  refine ⟨nofun, ?_⟩
  rename Mem => S
  repeat first|refine W.g ?_|refine L.p rfl rfl ?_|refine L.nil ?_|refine L.skip rfl ?_
  refine W.ite rfl (fun h => ?_) (fun h => ?_)
  · have hlt : wnum f1 < wnum f2 := by
      have h0 := of_decide_eq_true h
      unfold cmpI at h0
      split at h0
      · omega
      · split at h0 <;> omega
    clear h
    repeat first|refine W.g ?_|refine L.p rfl rfl ?_|refine L.nil ?_|refine L.skip rfl ?_
    refine L.cl (clone_C a1 c1 f1 _ h1) rfl rfl ?_
    rintro _ S2 ⟨d, rfl, hR⟩
    refine ⟨nofun, ?_⟩
    obtain ⟨hO, hv⟩ := hR.own
    repeat first|refine W.g ?_|refine L.p rfl rfl ?_|refine L.nil ?_|refine L.skip rfl ?_
    refine ⟨.inr rfl, _, rfl, none, 0, [], d.ad, d.c, f1, ?_, hR.1, WOwn.nil _, hO, ?_, ?_, by simp, Nat.le_refl _, nofun⟩
    · rw [← hv]; rfl
    · rw [Nat.div_eq_of_lt hlt]; rfl
    · rw [Nat.mod_eq_of_lt hlt]
  have hge : wnum f2 ≤ wnum f1 := by
    refine Classical.byContradiction fun hc => ?_
    have h0 := of_decide_eq_false h
    unfold cmpI at h0
    rw [if_pos (by omega)] at h0
    omega
  clear h
  obtain ⟨n, hn⟩ : ∃ n, f2.length = n + 1 := ⟨f2.length - 1, by omega⟩
  have hll : f2.length ≤ f1.length := by
    refine Classical.byContradiction fun hc => ?_
    have := cmp_len (l1 := f1) (l2 := f2) (by unfold fm; rw [toW_wnum k1, toW_wnum k2]; omega)
    omega
  obtain ⟨t, ht⟩ : ∃ t, f2[n]? = some t := ⟨_, List.getElem?_eq_getElem (by omega)⟩
  have ht0 : t ≠ 0#64 := fun e => k2 (by rw [List.getLast?_eq_getElem?, hn, Nat.add_sub_cancel, ht, e])
  obtain ⟨s, hs⟩ : ∃ s, s = 64 - blen t.toNat := ⟨_, rfl⟩
  obtain ⟨hVn, hs64⟩ := moved_len hn ht ht0 hs
  have hn1 : IntKind.i64.wrap ((f2.length : Int) - 1) = (n : Int) := by rw [wrap64 (by omega) (by omega)]; omega
  repeat first|refine W.g ?_|refine L.p rfl rfl ?_|refine L.nil ?_|refine L.skip rfl ?_
  refine L.el h2.1 (k := n) hn1 (wv_get ht) rfl rfl rfl rfl (fun _ => rfl) rfl (fun p => ?_)
  repeat first|refine W.g ?_|refine L.p rfl rfl ?_|refine L.nil ?_|refine L.skip rfl ?_
  refine L.cl (lz_C t.toNat t.isLt S) rfl rfl ?_
  rintro _ _ ⟨rfl, rfl⟩
  refine ⟨nofun, ?_⟩
  rename Mem => S
  rw [← hs]
  repeat first|refine W.g ?_|refine L.p rfl rfl ?_|refine L.nil ?_|refine L.skip rfl ?_
  refine L.cl (left_C a1 c1 f1 s S h1 hs64 (by omega)) rfl rfl ?_
  rintro _ S1 ⟨ru, o, rfl, hru, kc1, hu, hol, hon⟩
  refine ⟨fun _ => kc1, ?_⟩
  repeat first|refine W.g ?_|refine L.p rfl rfl ?_|refine L.nil ?_|refine L.skip rfl ?_
  refine L.cl (left_C a2 c2 f2 s S1 (h2.cons kc1) hs64 (by omega)) rfl rfl ?_
  rintro _ S2 ⟨rv, o2, rfl, hrv, kc2, hv, hol2, hon2⟩
  refine ⟨fun _ => kc2, ?_⟩
  have hO2 : WOwn S2 S1.length (some ⟨rv, 0, none⟩) (f2.length + 1) o2 := WOwn.row hv hol2 hrv (by omega)
  repeat first|refine W.g ?_|refine L.p rfl rfl ?_|refine L.nil ?_|refine L.skip rfl ?_
  refine L.cl (trim_C (some ⟨rv, 0, none⟩) (f2.length + 1) o2 S2 hO2.1) rfl (by rw [hol2]; rfl) ?_
  rintro _ _ ⟨rfl, rfl⟩
  refine ⟨nofun, ?_⟩
  rename Mem => S2
  have hVI := hO2.1.form
  have hVc : Canon (fm o2) := canon_toW _
  have hVw : wnum (fm o2) = wnum f2 * 2 ^ s := (wnum_toW _).trans hon2
  have hVl : (fm o2).length = n + 1 := by unfold fm; rw [hon2]; exact hVn
  generalize fm o2 = V at *
  clear hO2 hol2 hon2 hv
  have hu2 : S2.row? ru = some (newR (wv o) 39) := kc2.row' hu
  have hruS : ru < S1.length := row_lt hu
  have hk2 := kc1.trans kc2
  obtain ⟨nq, hnq⟩ : ∃ nq, nq = f1.length - f2.length + 1 := ⟨_, rfl⟩
  have hwq : IntKind.i64.wrap (IntKind.i64.wrap ((f1.length : Int) - (f2.length : Int)) + 1) = (nq : Int) := by
    rw [wrap64 (x := (f1.length : Int) - (f2.length : Int)) (by omega) (by omega), wrap64 (by omega) (by omega)]; omega
  repeat first|refine W.g ?_|refine L.p rfl rfl ?_|refine L.nil ?_|refine L.skip rfl ?_
  refine L.mk (n := nq) (m := nq) (bytes := 8) (zv := v64 0#64) rfl rfl hwq rfl hwq (Nat.le_refl _) (by omega) rfl rfl ?_
  have hrq : Mem.row? (S2 ++ [newR (List.replicate nq (v64 0#64)) 39]) S2.length = some (newR (wv (List.replicate nq 0#64)) 39) := by
    rw [row_push_new rfl]; simp [wv]
  have kc3 := Cons.push S2 (newR (List.replicate nq (v64 0#64)) 39)
  generalize S2 ++ [newR (List.replicate nq (v64 0#64)) 39] = S3 at *
  obtain ⟨rq, hrq0⟩ : ∃ rq, rq = S2.length := ⟨_, rfl⟩
  rw [← hrq0] at hrq ⊢
  have hu3 := kc3.row' hu2
  have hV3 := hVI.cons kc3
  have hk3 := hk2.trans kc3
  have hS12 : S1.length ≤ S2.length := kc2.len
  have hrqu : rq ≠ ru := by omega
  have hrvq : rv < S2.length := by
    refine Classical.byContradiction fun hc => ?_
    obtain ⟨_, a, c, e, h0 | ⟨b, o, r, e2, e3, _⟩⟩ := hVI.1
    · omega
    · cases e; cases e2
      have := row_lt e3
      omega
  have hinit : wnum o < wnum V * 2 ^ (64 * nq) := by
    rw [hon, hVw, Nat.mul_right_comm]
    refine Nat.mul_lt_mul_of_pos_right ?_ (Nat.two_pow_pos s)
    have a1 := wnum_lt f1
    have a2 := toW_ge (N := wnum f2) (by rw [toW_wnum k2]; omega)
    rw [toW_wnum k2] at a2
    have a3 := Nat.mul_le_mul_right (2 ^ (64 * nq)) a2
    rw [← Nat.pow_add, show 64 * (f2.length - 1) + 64 * nq = 64 * f1.length by omega] at a3
    omega
  repeat first|refine W.g ?_|refine L.p rfl rfl ?_|refine L.nil ?_|refine L.skip rfl ?_
  refine W.loop (fun i e T => ∃ (o ql : WL), i ≤ nq ∧ e 6 = vi s ∧ e 7 = .slice (some ⟨ru, 0, none⟩) (f1.length + 1) (f1.length + 1) ∧ e 8 = .slice (some ⟨rv, 0, none⟩) V.length (f2.length + 1) ∧ e 9 = .slice (some ⟨rq, 0, none⟩) nq nq ∧ e 10 = .int .i64 ((i : Int) - 1) ∧ Cons S T ∧ T.row? ru = some (newR (wv o) 39) ∧ o.length = f1.length + 1 ∧ T.row? rq = some (newR (wv ql) 39) ∧ ql.length = nq ∧ WIn T (some ⟨rv, 0, none⟩) (f2.length + 1) V ∧ wnum ql * wnum V + wnum o = wnum f1 * 2 ^ s ∧ wnum o < wnum V * 2 ^ (64 * i) ∧ ∀ p, p < i → ql[p]? = some 0#64) nq
    ⟨o, List.replicate nq 0#64, Nat.le_refl _, rfl, rfl, rfl, rfl, congrArg (Value.int .i64) (wrap64 (by omega) (by omega)), hk3, hu3, hol, hrq, by simp, hV3, by rw [wnum_zeros, Nat.zero_mul, Nat.zero_add, hon], hinit, fun p hp => by simp [hp]⟩ ?_
  clear hu hu2 hu3 hV3 hVI hk3 hk2 hrq kc3 hinit hon hol
  clear o
  rintro i e T ⟨o, ql, hi, e6, e7, e8, e9, e10, hkT, hu, hol, hrq, hql, hVT, hsum, hlt, hz⟩
  refine W.env5 e6 e7 e8 e9 e10 ?_
  repeat first|refine W.g ?_|refine L.p rfl rfl ?_|refine L.nil ?_|refine L.skip rfl ?_
  refine W.ite rfl (fun h => ?_) (fun h => ?_)
  · have hi1 : 1 ≤ i := by have := of_decide_eq_true h; omega
    clear h
    obtain ⟨j, rfl⟩ : ∃ j, i = j + 1 := ⟨i - 1, by omega⟩
    have hm : (((j + 1 : Nat) : Int) - 1) = (j : Int) := by omega
    rw [hm]
    obtain ⟨lo, hlo⟩ : ∃ lo, lo = o.take j := ⟨_, rfl⟩
    obtain ⟨m0, hm0⟩ : ∃ m0, m0 = (o.drop j).take (n + 2) := ⟨_, rfl⟩
    obtain ⟨hi', hhi⟩ : ∃ hi', hi' = (o.drop j).drop (n + 2) := ⟨_, rfl⟩
    have hoe : o = lo ++ m0 ++ hi' := by rw [hlo, hm0, hhi, List.append_assoc, List.take_append_drop, List.take_append_drop]
    have hlol : lo.length = j := by rw [hlo, List.length_take]; omega
    have hm0l : m0.length = V.length + 1 := by rw [hm0, List.length_take, List.length_drop]; omega
    rw [hoe] at hu hlt
    have hstep := fun (m' : WL) (q : Nat) (hm' : m'.length = V.length + 1) => div_step (lo := lo) (m := m0) (hi := hi') (m' := m') (V := V) (q := q) hlol hm0l hm' rfl hlt
    have hq0 := hz j (by omega)
    have hwj : IntKind.i64.wrap (IntKind.i64.wrap ((j : Int) + (V.length : Int)) + 1) = ((j + V.length + 1 : Nat) : Int) := by
      rw [wrap64 (x := (j : Int) + (V.length : Int)) (by omega) (by omega), wrap64 (by omega) (by omega)]; rfl
    repeat first|refine W.g ?_|refine L.p rfl rfl ?_|refine L.nil ?_|refine L.skip rfl ?_
    refine L.is (.slice (some ⟨ru, lo.length, none⟩) (V.length + 1) (f1.length + 1 - j)) ?_ rfl ?_
    · refine (slice_at0 rfl rfl rfl).trans ((part_row (kd := .i64) (kd' := .i64) (k := j) (h := j + V.length + 1) rfl (congrArg (Value.int .i64) hwj) (by omega) (by omega) (by unfold UNK; omega) (by omega)).trans ?_)
      rw [hlol]
      congr 2
      omega
    repeat first|refine W.g ?_|refine L.p rfl rfl ?_|refine L.nil ?_|refine L.skip rfl ?_
    refine L.cl (digit_C ru (f1.length + 1 - j) (some ⟨rv, 0, none⟩) (f2.length + 1) lo m0 hi' V T hu hVT (fun x hx => by cases hx; show rv ≠ ru; omega) hm0l (by omega) hVc (by omega) (hstep m0 0 hm0l).1) rfl rfl ?_
    rintro _ T2 ⟨q, m, rfl, hTl, kT2, hu2, hml, hqm, hmV⟩
    obtain ⟨hs1, hs2⟩ := (hstep m q.toNat hml).2 hqm hmV
    refine ⟨nofun, ?_⟩
    have hrq2 := kT2.row hrq hrqu
    repeat first|refine W.g ?_|refine L.p rfl rfl ?_|refine L.nil ?_|refine L.skip rfl ?_
    refine L.elst hrq2 rfl (by show 0 + nq ≤ (wv ql).length; rw [wv_len, hql]; omega) (k := j) rfl (by omega) rfl rfl rfl rfl (fun _ => rfl) (fun _ => rfl) rfl rfl rfl (fun p => ?_)
    have hrq3 := row_set_w (k := j) (r := q) hrq2
    have hu3 : Mem.row? (List.set T2 rq { newR (wv ql) 39 with cells := (newR (wv ql) 39).cells.set (0 + j) (v64 q) }) ru = some (newR (wv (lo ++ m ++ hi')) 39) := by
      rw [row_set_other _ hrqu]; exact hu2
    have hV2 : WIn T2 (some ⟨rv, 0, none⟩) (f2.length + 1) V := hVT.keepb kT2 (fun x hx => by cases hx; show rv ≠ ru; omega)
    have hV3 := hV2.keepb (Keep.set rq T2 { newR (wv ql) 39 with cells := (newR (wv ql) 39).cells.set (0 + j) (v64 q) }) (fun x hx => by cases hx; show rv ≠ rq; omega)
    have hk6 : Cons S (List.set T2 rq { newR (wv ql) 39 with cells := (newR (wv ql) 39).cells.set (0 + j) (v64 q) }) := (kT2.mono hkT hru).set rq _ (by have := kc1.len; omega)
    have hws := wnum_set (y := q) hq0
    rw [zero_word] at hws
    generalize List.set T2 rq _ = T6 at *
    repeat first|refine W.g ?_|refine L.p rfl rfl ?_|refine L.nil ?_|refine L.skip rfl ?_
    refine ⟨j, by omega, lo ++ m ++ hi', ql.set j q, by omega, rfl, rfl, rfl, rfl, (force_eq rfl).trans (congrArg (Value.int .i64) (wrap64 (by omega) (by omega))), hk6, hu3, ?_, hrq3, by simpa using hql, hV3, ?_, hs2, fun p hp => ?_⟩
    · have : (lo ++ m0 ++ hi').length = f1.length + 1 := by rw [← hoe]; exact hol
      simp only [List.length_append] at this ⊢
      omega
    · rw [← hsum, hoe, ← hs1, show wnum (ql.set j q) = wnum ql + q.toNat * 2 ^ (64 * j) by omega, Nat.add_mul]; omega
    · rw [List.getElem?_set, if_neg (by omega)]; exact hz p (by omega)
  have hi0 : i = 0 := by have := of_decide_eq_false h; omega
  subst hi0
  clear h
  rw [Nat.mul_zero, Nat.pow_zero, Nat.mul_one] at hlt
  have hVlt := wnum_lt V
  have hOu : WOwn T S.length (some ⟨ru, 0, none⟩) (f1.length + 1) o := WOwn.row hu hol hru (by omega)
  have hIu : WIn T (some ⟨ru, 0, none⟩) (f1.length + 1) (o.take V.length) := by
    have hle : V.length ≤ o.length := by omega
    have h0 := hOu.1.1.cut0 hle
    have hlen : (o.take V.length).length = V.length := by rw [List.length_take]; omega
    refine ⟨?_, by rw [hlen]; have := hOu.1.2.1; omega, nofun, by rw [hlen]; omega⟩
    rw [hlen]
    rwa [show (wv o).take V.length = wv (o.take V.length) by rw [wv, ← List.map_take]; rfl] at h0
  have hlen : (o.take V.length).length = V.length := by rw [List.length_take]; omega
  have htk : wnum (o.take V.length) = wnum o := take_low (by omega)
  rw [hVw] at hsum hlt
  obtain ⟨hdq, hdr⟩ := div_moved hsum.symm hlt
  have hOq : WOwn T S.length (some ⟨rq, 0, none⟩) nq ql := WOwn.row hrq hql (by have := kc1.len; omega) (by omega)
  have hTq : rq < T.length := row_lt hrq
  repeat first|refine W.g ?_|refine L.p rfl rfl ?_|refine L.nil ?_|refine L.skip rfl ?_
  refine L.is (.slice (some ⟨ru, 0, none⟩) (o.take V.length).length (f1.length + 1)) ?_ rfl ?_
  · rw [hlen]
    exact (slice_at0 rfl rfl rfl).trans (aslice_to (a := some ⟨ru, 0, none⟩) (c := f1.length + 1) (h := V.length) (kd := .i64) rfl (by unfold knownCap; rw [if_pos (by unfold UNK; omega)]; omega) nofun)
  repeat first|refine W.g ?_|refine L.p rfl rfl ?_|refine L.nil ?_|refine L.skip rfl ?_
  refine L.cl (right_C (some ⟨ru, 0, none⟩) (f1.length + 1) (o.take V.length) s T hIu hs64 (by omega)) rfl rfl ?_
  rintro _ T2 ⟨rr, rfl, hrr, kT2, hr⟩
  refine ⟨fun _ => kT2, ?_⟩
  repeat first|refine W.g ?_|refine L.p rfl rfl ?_|refine L.nil ?_|refine L.skip rfl ?_
  have hOr : WOwn T2 S.length (some ⟨rr, 0, none⟩) (o.take V.length).length (dnL (o.take V.length) s) := WOwn.row hr (dnL_len _ _) (by have := hkT.len; omega) (by omega)
  refine ⟨.inr rfl, _, rfl, some ⟨rq, 0, none⟩, nq, ql, some ⟨rr, 0, none⟩, _, dnL (o.take V.length) s, ?_, hkT.trans kT2, hOq.cons kT2, hOr, hdq.symm, ?_, by omega, by rw [dnL_len]; omega, fun x y hx hy => ?_⟩
  · rw [hql, dnL_len]; rfl
  · rw [dnL_num _ hs64, htk, hdr]
  · cases hx; cases hy
    show rq ≠ rr
    omega
end Go.Proofs.YtlnlcddbllcehaaDoor

/- Layer 1: quotients, the greatest common divisor. Conditions: none. -/
set_option linter.unusedSimpArgs false
set_option linter.unusedVariables false
set_option maxRecDepth 100000
set_option maxHeartbeats 4000000
set_option exponentiation.threshold 20000
namespace Go.Proofs.YtlnlcddbllcehaaDoor
open Go Ie
variable {Ext : FuncId → List Value → Mem → Outc → Mem → Prop}
def divQ (l1 l2 : WL) : WL := if small l1 && small l2 then (if wnum l2 = 0 then [] else toW (wnum l1 / wnum l2)) else []
def divM (l1 l2 : WL) : WL := if small l1 && small l2 then (if wnum l2 = 0 then [] else toW (wnum l1 % wnum l2)) else []
def divE (l1 l2 : WL) : Int := if small l1 && small l2 then (if wnum l2 = 0 then 11 else 0) else 3
theorem fm_nil (l : WL) : (fm l).length = 0 ↔ wnum l = 0 := by
  constructor
  · intro h
    have h2 := wnum_toW (wnum l)
    rw [show toW (wnum l) = [] from List.length_eq_zero_iff.1 h] at h2
    exact h2.symm
  · intro h
    unfold fm
    rw [h, toW_zero]; rfl
theorem Hd.at {a : Option Addr} {n c : Nat} {d : Hd} {b : Nat} (h : Value.slice a n c = d.v) (hb : d.a = some b) : a = some ⟨b, 0, none⟩ := by
  unfold Hd.v at h
  rw [hb] at h
  injection h with h1
theorem natDiv_C (a1 a2 : Option Addr) (c1 c2 : Nat) (l1 l2 : WL) (S : Mem) (h1 : WIn S a1 c1 l1) (h2 : WIn S a2 c2 l2) :
    C Tryd.prog gN Ext 54 [.slice a1 l1.length c1, .slice a2 l2.length c2] S fun v S' => ∃ d d2 : Hd, v = .tuple #[d.v, d2.v, .int .i64 (divE l1 l2)] ∧ RetW S S' d (divQ l1 l2) ∧ RetW S S' d2 (divM l1 l2) ∧ ∀ x y, d.a = some x → d2.a = some y → x ≠ y := by
  refine C.fn Tryd.func54 rfl (by kernel_rfl) rfl ?_
  repeat first|refine W.g ?_|refine L.p rfl rfl ?_|refine L.nil ?_|refine L.skip rfl ?_
  refine L.bs [WS.v ⟨a1, c1, l1⟩, WS.v ⟨a2, c2, l2⟩] rfl rfl rfl rfl rfl rfl ?_
  have hc : Cons S (S ++ [newR [WS.v ⟨a1, c1, l1⟩, WS.v ⟨a2, c2, l2⟩] 22]) := Cons.push _ _
  have hs : Slv (S ++ [newR [WS.v ⟨a1, c1, l1⟩, WS.v ⟨a2, c2, l2⟩] 22]) 1 (.slice (some ⟨S.length, 0, none⟩) 2 2) 2 ([WS.mk a1 c1 l1, WS.mk a2 c2 l2].map WS.v) := Slv.all (row_push_new rfl) rfl rfl
  generalize S ++ [newR [WS.v ⟨a1, c1, l1⟩, WS.v ⟨a2, c2, l2⟩] 22] = S1 at *
  refine L.cl (fit_C _ [⟨a1, c1, l1⟩, ⟨a2, c2, l2⟩] S1 hs (fun w hw => by
    simp only [List.mem_cons, List.not_mem_nil, or_false] at hw
    rcases hw with rfl | rfl
    · exact h1.cons hc
    · exact h2.cons hc) (by simp)) rfl rfl ?_
  rintro _ _ ⟨rfl, rfl⟩
  refine ⟨nofun, ?_⟩
  repeat first|refine W.g ?_|refine L.p rfl rfl ?_|refine L.nil ?_|refine L.skip rfl ?_
  refine W.ite rfl (fun h => ?_) (fun h => ?_)
  · have hsm : (small l1 && small l2) = false := by
      have h0 := h
      simp at h0
      cases hq : small l1 <;> simp_all
    repeat first|refine W.g ?_|refine L.p rfl rfl ?_|refine L.nil ?_|refine L.skip rfl ?_
    exact ⟨.inr rfl, _, rfl, Hd0, Hd0, (by unfold divE; rw [hsm]; rfl), (by unfold divQ; rw [hsm]; exact RetW.nil hc), (by unfold divM; rw [hsm]; exact RetW.nil hc), nofun⟩
  have hsm : (small l1 && small l2) = true := by
    have h0 := h
    simp at h0
    cases hq : small l1 <;> simp_all
  clear h
  have hsm2 := hsm
  rw [Bool.and_eq_true] at hsm2
  rename Mem => S1
  have hI1 := h1.cons hc
  have hI2 := h2.cons hc
  have b1 : (fm l1).length ≤ 128 := of_decide_eq_true hsm2.1
  have b2 : (fm l2).length ≤ 128 := of_decide_eq_true hsm2.2
  repeat first|refine W.g ?_|refine L.p rfl rfl ?_|refine L.nil ?_|refine L.skip rfl ?_
  refine L.cl (trim_C a1 c1 l1 _ hI1) rfl rfl ?_
  rintro _ _ ⟨rfl, rfl⟩
  refine ⟨nofun, ?_⟩
  repeat first|refine W.g ?_|refine L.p rfl rfl ?_|refine L.nil ?_|refine L.skip rfl ?_
  refine L.cl (trim_C a2 c2 l2 _ hI2) rfl rfl ?_
  rintro _ _ ⟨rfl, rfl⟩
  refine ⟨nofun, ?_⟩
  rename Mem => S1
  repeat first|refine W.g ?_|refine L.p rfl rfl ?_|refine L.nil ?_|refine L.skip rfl ?_
  refine W.ite rfl (fun h => ?_) (fun h => ?_)
  · have h0 : wnum l2 = 0 := by
      refine (fm_nil l2).1 ?_
      have := eq_of_beq h
      omega
    clear h
    repeat first|refine W.g ?_|refine L.p rfl rfl ?_|refine L.nil ?_|refine L.skip rfl ?_
    exact ⟨.inr rfl, _, rfl, Hd0, Hd0, (by unfold divE; rw [hsm, if_pos rfl, if_pos h0]; rfl), (by unfold divQ; rw [hsm, if_pos rfl, if_pos h0]; exact RetW.nil hc), (by unfold divM; rw [hsm, if_pos rfl, if_pos h0]; exact RetW.nil hc), nofun⟩
  have hlp : 0 < (fm l2).length := by
    refine Nat.pos_of_ne_zero fun e => ?_
    rw [e] at h
    cases h
  have h0 : wnum l2 ≠ 0 := fun e => by have := (fm_nil l2).2 e; omega
  clear h
  repeat first|refine W.g ?_|refine L.p rfl rfl ?_|refine L.nil ?_|refine L.skip rfl ?_
  refine L.cl (div_C a1 a2 c1 c2 (fm l1) (fm l2) S1 hI1.form hI2.form (canon_toW _) (canon_toW _) hlp (by omega) (by omega)) rfl rfl ?_
  rintro _ S2 ⟨aq, cq, lq, ar, cr, lr, rfl, kc, hq, hr, eq, er, hql, hrl, hap⟩
  refine ⟨fun _ => kc, ?_⟩
  rw [show wnum (fm l1) = wnum l1 from wnum_toW _, show wnum (fm l2) = wnum l2 from wnum_toW _] at eq er
  have hk := hc.trans kc
  repeat first|refine W.g ?_|refine L.p rfl rfl ?_|refine L.nil ?_|refine L.skip rfl ?_
  refine L.cl (trim_C aq cq lq S2 hq.1) rfl rfl ?_
  rintro _ _ ⟨rfl, rfl⟩
  refine ⟨nofun, ?_⟩
  repeat first|refine W.g ?_|refine L.p rfl rfl ?_|refine L.nil ?_|refine L.skip rfl ?_
  refine L.cl (clip_C aq cq (fm lq) _ hq.1.form) rfl rfl ?_
  rintro _ _ ⟨rfl, rfl⟩
  refine ⟨nofun, ?_⟩
  repeat first|refine W.g ?_|refine L.p rfl rfl ?_|refine L.nil ?_|refine L.skip rfl ?_
  refine L.cl (trim_C ar cr lr _ hr.1) rfl rfl ?_
  rintro _ _ ⟨rfl, rfl⟩
  refine ⟨nofun, ?_⟩
  repeat first|refine W.g ?_|refine L.p rfl rfl ?_|refine L.nil ?_|refine L.skip rfl ?_
  refine L.cl (clip_C ar cr (fm lr) _ hr.1.form) rfl rfl ?_
  rintro _ _ ⟨rfl, rfl⟩
  refine ⟨nofun, ?_⟩
  repeat first|refine W.g ?_|refine L.p rfl rfl ?_|refine L.nil ?_|refine L.skip rfl ?_
  obtain ⟨d, hd, hR⟩ := (hq.form.mono hc.len).clip hk
  obtain ⟨d2, hd2, hR2⟩ := (hr.form.mono hc.len).clip hk
  refine ⟨.inr rfl, _, rfl, d, d2, ?_, ?_, ?_, fun x y hx hy => ?_⟩
  · rw [← hd, ← hd2]; unfold divE; rw [hsm, if_pos rfl, if_neg h0]; rfl
  · unfold divQ; rw [hsm, if_pos rfl, if_neg h0, ← eq]; exact hR
  · unfold divM; rw [hsm, if_pos rfl, if_neg h0, ← er]; exact hR2
  · exact hap _ _ (Hd.at hd hx) (Hd.at hd2 hy)
def gcdL (l1 l2 : WL) : WL := if small l1 && small l2 then toW (Nat.gcd (wnum l1) (wnum l2)) else []
def gcdE (l1 l2 : WL) : Int := if small l1 && small l2 then 0 else 3
theorem gcd_small {l1 l2 : WL} (h1 : small l1 = true) (h2 : small l2 = true) : small (toW (Nat.gcd (wnum l1) (wnum l2))) = true := by
  have a1 : (toW (wnum l1)).length ≤ 128 := of_decide_eq_true h1
  have a2 : (toW (wnum l2)).length ≤ 128 := of_decide_eq_true h2
  rw [toW_len] at a1 a2
  rw [small_toW]
  refine decide_eq_true ?_
  rcases Nat.eq_zero_or_pos (wnum l2) with h | h
  · rw [h, Nat.gcd_zero_right]; exact a1
  · exact Nat.lt_of_le_of_lt (Nat.gcd_le_right _ h) a2
theorem natGcd_C (a1 a2 : Option Addr) (c1 c2 : Nat) (l1 l2 : WL) (S : Mem) (h1 : WIn S a1 c1 l1) (h2 : WIn S a2 c2 l2) :
    C Tryd.prog gN Ext 35 [.slice a1 l1.length c1, .slice a2 l2.length c2] S fun v S' => ∃ d : Hd, v = .tuple #[d.v, .int .i64 (gcdE l1 l2)] ∧ RetW S S' d (gcdL l1 l2) := by
  refine C.fn Tryd.func35 rfl (by kernel_rfl) rfl ?_
  repeat first|refine W.g ?_|refine L.p rfl rfl ?_|refine L.nil ?_|refine L.skip rfl ?_
  refine L.bs [WS.v ⟨a1, c1, l1⟩, WS.v ⟨a2, c2, l2⟩] rfl rfl rfl rfl rfl rfl ?_
  have hc : Cons S (S ++ [newR [WS.v ⟨a1, c1, l1⟩, WS.v ⟨a2, c2, l2⟩] 22]) := Cons.push _ _
  have hs : Slv (S ++ [newR [WS.v ⟨a1, c1, l1⟩, WS.v ⟨a2, c2, l2⟩] 22]) 1 (.slice (some ⟨S.length, 0, none⟩) 2 2) 2 ([WS.mk a1 c1 l1, WS.mk a2 c2 l2].map WS.v) := Slv.all (row_push_new rfl) rfl rfl
  generalize S ++ [newR [WS.v ⟨a1, c1, l1⟩, WS.v ⟨a2, c2, l2⟩] 22] = S1 at *
  refine L.cl (fit_C _ [⟨a1, c1, l1⟩, ⟨a2, c2, l2⟩] S1 hs (fun w hw => by
    simp only [List.mem_cons, List.not_mem_nil, or_false] at hw
    rcases hw with rfl | rfl
    · exact h1.cons hc
    · exact h2.cons hc) (by simp)) rfl rfl ?_
  rintro _ _ ⟨rfl, rfl⟩
  refine ⟨nofun, ?_⟩
  repeat first|refine W.g ?_|refine L.p rfl rfl ?_|refine L.nil ?_|refine L.skip rfl ?_
  refine W.ite rfl (fun h => ?_) (fun h => ?_)
  · have hsm : (small l1 && small l2) = false := by
      have h0 := h
      simp at h0
      cases hq : small l1 <;> simp_all
    repeat first|refine W.g ?_|refine L.p rfl rfl ?_|refine L.nil ?_|refine L.skip rfl ?_
    exact ⟨.inr rfl, _, rfl, Hd0, (by unfold gcdE; rw [hsm]; rfl), (by unfold gcdL; rw [hsm]; exact RetW.nil hc)⟩
  have hsm : (small l1 && small l2) = true := by
    have h0 := h
    simp at h0
    cases hq : small l1 <;> simp_all
  clear h
  have hsm2 := hsm
  rw [Bool.and_eq_true] at hsm2
  rename Mem => S1
  have hI1 := h1.cons hc
  have hI2 := h2.cons hc
  have b1 : (fm l1).length ≤ 128 := of_decide_eq_true hsm2.1
  have b2 : (fm l2).length ≤ 128 := of_decide_eq_true hsm2.2
  repeat first|refine W.g ?_|refine L.p rfl rfl ?_|refine L.nil ?_|refine L.skip rfl ?_
  refine L.cl (trim_C a1 c1 l1 _ hI1) rfl rfl ?_
  rintro _ _ ⟨rfl, rfl⟩
  refine ⟨nofun, ?_⟩
  repeat first|refine W.g ?_|refine L.p rfl rfl ?_|refine L.nil ?_|refine L.skip rfl ?_
  refine L.cl (clone_C a1 c1 (fm l1) _ hI1.form) rfl rfl ?_
  rintro _ S2 ⟨d1, rfl, hR1⟩
  refine ⟨fun _ => hR1.1, ?_⟩
  repeat first|refine W.g ?_|refine L.p rfl rfl ?_|refine L.nil ?_|refine L.skip rfl ?_
  refine L.cl (trim_C a2 c2 l2 S2 (hI2.cons hR1.1)) rfl rfl ?_
  rintro _ _ ⟨rfl, rfl⟩
  refine ⟨nofun, ?_⟩
  rename Mem => S2
  repeat first|refine W.g ?_|refine L.p rfl rfl ?_|refine L.nil ?_|refine L.skip rfl ?_
  refine L.cl (clone_C a2 c2 (fm l2) S2 (hI2.form.cons hR1.1)) rfl rfl ?_
  rintro _ S3 ⟨d2, rfl, hR2⟩
  refine ⟨fun _ => hR2.1, ?_⟩
  obtain ⟨hO1, hv1⟩ := hR1.own
  obtain ⟨hO2, hv2⟩ := hR2.own
  have hk := (hc.trans hR1.1).trans hR2.1
  have hln := hc.len
  have hln2 := hR1.1.len
  repeat first|refine W.g ?_|refine L.p rfl rfl ?_|refine L.nil ?_|refine L.skip rfl ?_
  refine W.loop (fun j e T => ∃ (ax ay : Option Addr) (cx cy : Nat) (fx fy : WL), j = wnum fy ∧ e 6 = .slice ax fx.length cx ∧ e 7 = .slice ay fy.length cy ∧ Cons S T ∧ WOwn T S.length ax cx fx ∧ WOwn T S.length ay cy fy ∧ Canon fx ∧ Canon fy ∧ fx.length ≤ 128 ∧ fy.length ≤ 128 ∧ Nat.gcd (wnum fx) (wnum fy) = Nat.gcd (wnum l1) (wnum l2)) (wnum (fm l2))
    ⟨d1.ad, d2.ad, d1.c, d2.c, fm l1, fm l2, rfl, hv1, hv2, hk, (hO1.cons hR2.1).mono (by omega), hO2.mono (by omega), canon_toW _, canon_toW _, b1, b2, by rw [show wnum (fm l1) = wnum l1 from wnum_toW _, show wnum (fm l2) = wnum l2 from wnum_toW _]⟩ ?_
  clear hO1 hO2 hv1 hv2 hk hR1 hR2 b1 b2
  rintro j e T ⟨ax, ay, cx, cy, fx, fy, rfl, e6, e7, kT, hx, hy, cX, cY, b1, b2, hg⟩
  refine W.env2 e6 e7 ?_
  repeat first|refine W.g ?_|refine L.p rfl rfl ?_|refine L.nil ?_|refine L.skip rfl ?_
  refine W.ite rfl (fun h => ?_) (fun h => ?_)
  · have hlp : 0 < fy.length := by have := of_decide_eq_true h; omega
    clear h
    have hpos : 0 < wnum fy := by
      refine Nat.pos_of_ne_zero fun e => ?_
      have := toW_wnum cY
      rw [e, toW_zero] at this
      rw [← this] at hlp
      simp at hlp
    repeat first|refine W.g ?_|refine L.p rfl rfl ?_|refine L.nil ?_|refine L.skip rfl ?_
    refine L.cl (div_C ax ay cx cy fx fy T hx.1 hy.1 cX cY hlp (by omega) (by omega)) rfl rfl ?_
    rintro _ T2 ⟨aq, cq, lq, ar, cr, lr, rfl, kc, hq, hr, eq, er, hql, hrl, hap⟩
    refine ⟨fun _ => kc, ?_⟩
    repeat first|refine W.g ?_|refine L.p rfl rfl ?_|refine L.nil ?_|refine L.skip rfl ?_
    refine L.cl (trim_C ar cr lr T2 hr.1) rfl rfl ?_
    rintro _ _ ⟨rfl, rfl⟩
    refine ⟨nofun, ?_⟩
    rename Mem => T2
    repeat first|refine W.g ?_|refine L.p rfl rfl ?_|refine L.nil ?_|refine L.skip rfl ?_
    have hw : wnum (fm lr) = wnum fx % wnum fy := (wnum_toW _).trans er
    have hll : (fm lr).length ≤ lr.length := toW_len_le lr
    refine ⟨wnum (fm lr), by rw [hw]; exact Nat.mod_lt _ hpos, ay, ar, cy, cr, fy, fm lr, rfl, rfl, rfl, kT.trans kc, hy.cons kc, hr.form.mono kT.len, cY, canon_toW _, b2, by omega, ?_⟩
    rw [hw, ← hg, Nat.gcd_comm (wnum fx) (wnum fy), Nat.gcd_comm (wnum fy) (wnum fx % wnum fy)]
    exact (Nat.gcd_rec (wnum fy) (wnum fx)).symm
  have hl0 : fy = [] := List.length_eq_zero_iff.1 (by have := of_decide_eq_false h; omega)
  clear h
  subst hl0
  rw [show wnum ([] : WL) = 0 from rfl, Nat.gcd_zero_right] at hg
  repeat first|refine W.g ?_|refine L.p rfl rfl ?_|refine L.nil ?_|refine L.skip rfl ?_
  refine L.cl (told_C S ax cx fx T hx kT) rfl rfl ?_
  rintro _ _ ⟨rfl, d, rfl, hR⟩
  refine ⟨nofun, ?_⟩
  repeat first|refine W.g ?_|refine L.p rfl rfl ?_|refine L.nil ?_|refine L.skip rfl ?_
  have hfx : fx = toW (Nat.gcd (wnum l1) (wnum l2)) := by rw [← hg, toW_wnum cX]
  have hsmg := gcd_small hsm2.1 hsm2.2
  refine ⟨.inr rfl, _, rfl, d, ?_, ?_⟩
  · unfold gcdE toldE; rw [hsm, hfx, hsmg]; rfl
  · unfold gcdL
    unfold toldL at hR
    rw [hfx, hsmg, if_pos rfl] at hR
    rw [hsm, if_pos rfl]
    unfold fm at hR
    rwa [wnum_toW] at hR
end Go.Proofs.YtlnlcddbllcehaaDoor

/- Numbers below the limit, and the statements' some. Conditions: none. -/
set_option linter.unusedSimpArgs false
set_option linter.unusedVariables false
set_option maxRecDepth 100000
set_option maxHeartbeats 4000000
set_option exponentiation.threshold 20000
namespace Go.Proofs.YtlnlcddbllcehaaDoor
open Go Ie
variable {Ext : FuncId → List Value → Mem → Outc → Mem → Prop}
/-! ### the limits, by numbers -/
theorem small_num (l : WL) : small l = decide (wnum l < 2 ^ 8192) := by
  unfold small
  exact decide_eq_decide.2 (toW_len (wnum l) 128)
theorem small_of {l : WL} (h : wnum l < 2 ^ 8192) : small l = true := by rw [small_num]; exact decide_eq_true h
theorem num_len {l : WL} {k : Nat} (h : l.length ≤ k) : wnum l < 2 ^ (64 * k) := Nat.lt_of_lt_of_le (wnum_lt l) (Nat.pow_le_pow_right (by decide) (by omega))
theorem told_num {N : Nat} (h : N < 2 ^ 8192) : toldL (toW N) = toW N ∧ toldE (toW N) = 0 := by
  have hs : small (toW N) = true := small_of (by rw [wnum_toW]; exact h)
  unfold toldL toldE
  rw [hs, if_pos rfl, if_pos rfl]
  exact ⟨by unfold fm; rw [wnum_toW], rfl⟩
theorem mul_num {l1 l2 : WL} (h1 : wnum l1 < 2 ^ 8192) (h2 : wnum l2 < 2 ^ 8192) (h : wnum l1 * wnum l2 < 2 ^ 8192) : mulL l1 l2 = toW (wnum l1 * wnum l2) ∧ mulE l1 l2 = 0 := by
  unfold mulL mulE
  rw [small_of h1, small_of h2]
  exact told_num h
theorem add_num {l1 l2 : WL} (h1 : wnum l1 < 2 ^ 8192) (h2 : wnum l2 < 2 ^ 8192) (h : wnum l1 + wnum l2 < 2 ^ 8192) : addL l1 l2 = toW (wnum l1 + wnum l2) ∧ addE l1 l2 = 0 := by
  unfold addL addE
  rw [small_of h1, small_of h2]
  exact told_num h
theorem sub_num {l1 l2 : WL} (h1 : wnum l1 < 2 ^ 8192) (h2 : wnum l2 < 2 ^ 8192) (h : wnum l2 ≤ wnum l1) : subL l1 l2 = toW (wnum l1 - wnum l2) ∧ subE l1 l2 = 0 := by
  unfold subL subE
  rw [small_of h1, small_of h2]
  have := told_num (N := wnum l1 - wnum l2) (by omega)
  simp only [Bool.and_self, if_true]
  rw [if_neg (by omega), if_neg (by omega)]
  exact this
theorem sub_below {l1 l2 : WL} (h1 : wnum l1 < 2 ^ 8192) (h2 : wnum l2 < 2 ^ 8192) (h : wnum l1 < wnum l2) : subL l1 l2 = [] ∧ subE l1 l2 = 10 := by
  unfold subL subE
  rw [small_of h1, small_of h2]
  simp only [Bool.and_self, if_true]
  rw [if_pos h, if_pos h]
  exact ⟨rfl, rfl⟩
theorem div_num {l1 l2 : WL} (h1 : wnum l1 < 2 ^ 8192) (h2 : wnum l2 < 2 ^ 8192) (h : wnum l2 ≠ 0) : divQ l1 l2 = toW (wnum l1 / wnum l2) ∧ divM l1 l2 = toW (wnum l1 % wnum l2) ∧ divE l1 l2 = 0 := by
  unfold divQ divM divE
  rw [small_of h1, small_of h2]
  simp only [Bool.and_self, if_true]
  rw [if_neg h, if_neg h, if_neg h]
  exact ⟨rfl, rfl, rfl⟩
theorem div_zero {l1 l2 : WL} (h1 : wnum l1 < 2 ^ 8192) (h2 : wnum l2 < 2 ^ 8192) (h : wnum l2 = 0) : divQ l1 l2 = [] ∧ divM l1 l2 = [] ∧ divE l1 l2 = 11 := by
  unfold divQ divM divE
  rw [small_of h1, small_of h2]
  simp only [Bool.and_self, if_true]
  rw [if_pos h, if_pos h, if_pos h]
  exact ⟨rfl, rfl, rfl⟩
theorem gcd_num {l1 l2 : WL} (h1 : wnum l1 < 2 ^ 8192) (h2 : wnum l2 < 2 ^ 8192) : gcdL l1 l2 = toW (Nat.gcd (wnum l1) (wnum l2)) ∧ gcdE l1 l2 = 0 := by
  unfold gcdL gcdE
  rw [small_of h1, small_of h2]
  exact ⟨rfl, rfl⟩
theorem toW_is {N : Nat} {r : WL} (hc : Canon r) (h : wnum r = N) : toW N = r := by rw [← h, toW_wnum hc]
theorem RetW.win {S S' : Mem} {d : Hd} {l : WL} (h : RetW S S' d l) : WIn S' d.ad d.c l := h.own.1.1
theorem RetW.val {S S' : Mem} {d : Hd} {l : WL} (h : RetW S S' d l) : d.v = .slice d.ad l.length d.c := h.own.2
theorem WIn.new {S : Mem} {b n : Nat} {l : WL} (h : S.row? b = some (newR (wv l) 39)) (hl : l.length = n) (hn : n < 1000000) : WIn S (some ⟨b, 0, none⟩) n l := (WOwn.row (N := 0) h hl (Nat.zero_le _) hn).1
theorem some_C (a : Option Addr) (c n : Nat) (l : WL) (S : Mem) (hI : Slv S 1 (.slice a l.length c) l.length (wv l)) (hlen : l.length < UNK) (hn : n < 100000) :
    C Tryd.prog gN Ext 18 [.slice a l.length c, vi n] S fun v S' => RefW S S' v (l.take n) := by
  refine C.fn Tryd.func18 rfl (by kernel_rfl) rfl ?_
  unfold UNK at hlen
  repeat first|refine W.g ?_|refine L.p rfl rfl ?_|refine L.nil ?_|refine L.skip rfl ?_
  refine W.loop (fun j e T => ∃ (i : Nat) (a3 : Option Addr) (c3 : Nat), j = l.length - i ∧ i ≤ l.length ∧ i ≤ n ∧ Cons S T ∧ e 0 = .slice a l.length c ∧ e 1 = vi n ∧ e 5 = .slice a3 i c3 ∧ e 6 = vi i ∧ Grow S.length T 39 1 (.slice a3 i c3) i (wv (l.take i))) l.length
    ⟨0, none, 0, by omega, by omega, by omega, Cons.refl _, rfl, rfl, rfl, rfl, Grow.nil _ _ _ _⟩ ?_
  rintro j e T ⟨i, a3, c3, rfl, hi, hin, hc, e0, e1, e5, e6, hg⟩
  refine W.env4 e0 e1 e5 e6 ?_
  have fin : (i = l.length ∨ i = n) → RefW S T (.slice a3 i c3) (l.take n) := fun h => by
    have e : l.take n = l.take i := by
      rcases h with h | h
      · rw [h, List.take_length]
        by_cases hc : n = l.length
        · rw [hc, List.take_length]
        · rw [List.take_of_length_le (by omega)]
      · rw [h]
    have hl : (l.take i).length = i := by rw [List.length_take]; omega
    rw [e]
    refine ⟨hc, a3, c3, by rw [hl], ?_⟩
    have := grow_win (l := l.take i) (a := a3) (c := c3) (N := S.length) (S := T) (el := 39) (by rw [hl]; exact hg) (by omega)
    exact this
  repeat first|refine W.g ?_|refine L.p rfl rfl ?_|refine L.nil ?_|refine L.skip rfl ?_
  cases hb : decide ((i : Int) < (l.length : Int))
  · have hil : i = l.length := by have := of_decide_eq_false hb; omega
    clear hb
    repeat first|refine W.g ?_|refine L.p rfl rfl ?_|refine L.nil ?_|refine L.skip rfl ?_
    refine W.ite rfl (fun h => ?_) (fun h => ?_)
    · cases h
    clear h
    repeat first|refine W.g ?_|refine L.p rfl rfl ?_|refine L.nil ?_|refine L.skip rfl ?_
    exact ⟨.inr rfl, _, rfl, fin (.inl hil)⟩
  have hil : i < l.length := by have := of_decide_eq_true hb; omega
  clear hb
  repeat first|refine W.g ?_|refine L.p rfl rfl ?_|refine L.nil ?_|refine L.skip rfl ?_
  refine W.ite rfl (fun h => ?_) (fun h => ?_)
  · have hin2 : i < n := by have := of_decide_eq_true h; omega
    clear h
    obtain ⟨x, hx⟩ : ∃ x, l[i]? = some x := ⟨_, List.getElem?_eq_getElem hil⟩
    repeat first|refine W.g ?_|refine L.p rfl rfl ?_|refine L.nil ?_|refine L.skip rfl ?_
    refine L.el (hI.cons hc) (k := i) rfl (wv_get hx) rfl rfl rfl rfl (fun _ => rfl) rfl (fun p => ?_)
    repeat first|refine W.g ?_|refine L.p rfl rfl ?_|refine L.nil ?_|refine L.skip rfl ?_
    refine L.push1 (w := v64 x) rfl hc.len (.inl hg) rfl rfl rfl rfl rfl (by omega) rfl (fun _ => rfl) (fun p a4 c4 S2 h2 h3 h4 => ?_)
    repeat first|refine W.g ?_|refine L.p rfl rfl ?_|refine L.nil ?_|refine L.skip rfl ?_
    refine ⟨l.length - (i + 1), by omega, i + 1, a4, c4, rfl, by omega, by omega, hc.trans' h4, rfl, rfl, rfl, congrArg (Value.int .i64) (wrap64 (by omega) (by omega)), ?_⟩
    have : wv (l.take (i + 1)) = wv (l.take i) ++ [v64 x] := by rw [List.take_add_one, hx, wv, List.map_append]; rfl
    rw [this]; exact h2
  · have hin2 : i = n := by have := of_decide_eq_false h; omega
    clear h
    repeat first|refine W.g ?_|refine L.p rfl rfl ?_|refine L.nil ?_|refine L.skip rfl ?_
    exact ⟨.inr rfl, _, rfl, fin (.inr hin2)⟩
end Go.Proofs.YtlnlcddbllcehaaDoor

/- Layer 4: what is left over a number: sums, differences, products. Conditions: the tables lie in memory. -/
set_option linter.unusedSimpArgs false
set_option linter.unusedVariables false
set_option maxRecDepth 100000
set_option maxHeartbeats 4000000
set_option exponentiation.threshold 20000
namespace Go.Proofs.YtlnlcddbllcehaaDoor
open Go Ie
variable {Ext : FuncId → List Value → Mem → Outc → Mem → Prop}
/-- what is wrong with numbers, and a modulus -/
def wrE (ls : List WL) (m : WL) : Int := if ls.all small then (if 4096 < blen (wnum m) then 3 else if wnum m = 0 then 11 else 0) else 3
theorem wrE_cases (ls : List WL) (m : WL) : wrE ls m = 3 ∨ wrE ls m = 11 ∨ wrE ls m = 0 := by
  unfold wrE
  split
  · split
    · exact .inl rfl
    · split
      · exact .inr (.inl rfl)
      · exact .inr (.inr rfl)
  · exact .inl rfl
theorem wrE_ok {ls : List WL} {m : WL} (h : wrE ls m = 0) : (∀ l ∈ ls, wnum l < 2 ^ 8192) ∧ wnum m < 2 ^ 4096 ∧ wnum m ≠ 0 := by
  unfold wrE at h
  split at h
  · rename_i h1
    split at h
    · cases h
    · rename_i h2
      split at h
      · cases h
      · rename_i h3
        refine ⟨fun l hl => ?_, blen_le.1 (by omega), h3⟩
        have := List.all_eq_true.1 h1 l hl
        rw [small_num] at this
        exact of_decide_eq_true this
  · cases h
theorem wr_le {n : Nat} (h : n < 2 ^ 4096) : n < 2 ^ 8192 := Nat.lt_of_lt_of_le h (Nat.pow_le_pow_right (by decide) (by decide))
theorem blen_small (l : WL) : decide (((blen (wnum l) : Nat) : Int) > 8192) = !small l := by
  rw [small_num, ← decide_not]
  refine decide_eq_decide.2 ?_
  have := @blen_le (wnum l) 8192
  omega
theorem blen0 {n : Nat} : blen n = 0 ↔ n = 0 := by
  have := @blen_le n 0
  rw [Nat.pow_zero] at this
  omega
theorem wrong_C (a : Option Addr) (c : Nat) (m : WL) (v : Value) (ws : List WS) (S : Mem) (hm : WIn S a c m) (hv : Slv S 1 v ws.length (ws.map WS.v)) (hw : ∀ w ∈ ws, WIn S w.a w.c w.l) (hn : ws.length < 1000000) :
    C Tryd.prog gN Ext 39 [.slice a m.length c, v] S fun r S' => r = .int .i64 (wrE (ws.map WS.l) m) ∧ S' = S := by
  obtain ⟨_, av, cv, rfl, _⟩ := id hv
  refine C.fn Tryd.func39 rfl (by kernel_rfl) rfl ?_
  repeat first|refine W.g ?_|refine L.p rfl rfl ?_|refine L.nil ?_|refine L.skip rfl ?_
  refine W.loop (fun j e S' => ∃ i : Nat, j = ws.length - i ∧ i ≤ ws.length ∧ S' = S ∧ e 0 = .slice a m.length c ∧ e 8 = .slice av ws.length cv ∧ e 9 = vi ws.length ∧ e 10 = vi i ∧ ∀ k w, k < i → ws[k]? = some w → small w.l = true) ws.length
    ⟨0, by omega, by omega, rfl, rfl, rfl, rfl, rfl, fun k w hk => by omega⟩ ?_
  rintro j e S' ⟨i, rfl, hi, rfl, e0, e8, e9, e10, hs⟩
  refine W.env4 e0 e8 e9 e10 ?_
  repeat first|refine W.g ?_|refine L.p rfl rfl ?_|refine L.nil ?_|refine L.skip rfl ?_
  refine W.ite rfl (fun h => ?_) (fun h => ?_)
  · have hin : i < ws.length := by simp at h; omega
    obtain ⟨w, hwi⟩ : ∃ w, ws[i]? = some w := ⟨_, List.getElem?_eq_getElem hin⟩
    clear h
    repeat first|refine W.g ?_|refine L.p rfl rfl ?_|refine L.nil ?_|refine L.skip rfl ?_
    refine L.el hv rfl (show (ws.map WS.v)[i]? = some (.slice w.a w.l.length w.c) by rw [List.getElem?_map, hwi]; rfl) rfl rfl rfl rfl (fun _ => rfl) rfl (fun p => ?_)
    repeat first|refine W.g ?_|refine L.p rfl rfl ?_|refine L.nil ?_|refine L.skip rfl ?_
    refine L.cl (bits_C w.a w.c w.l _ (hw w (List.mem_of_getElem? hwi))) rfl rfl ?_
    rintro _ _ ⟨rfl, rfl⟩
    refine ⟨nofun, ?_⟩
    repeat first|refine W.g ?_|refine L.p rfl rfl ?_|refine L.nil ?_|refine L.skip rfl ?_
    rw [blen_small]
    refine W.ite rfl (fun h => ?_) (fun h => ?_)
    · have hb : small w.l = false := by simpa using h
      repeat first|refine W.g ?_|refine L.p rfl rfl ?_|refine L.nil ?_|refine L.skip rfl ?_
      refine ⟨.inr rfl, _, rfl, (force_eq rfl).trans (congrArg (Value.int .i64) ?_), rfl⟩
      have : ¬ (ws.map WS.l).all small = true := fun ha => by
        have := List.all_eq_true.1 ha w.l (List.mem_map.2 ⟨w, List.mem_of_getElem? hwi, rfl⟩)
        rw [hb] at this; cases this
      unfold wrE
      rw [if_neg this]
    · have hb : small w.l = true := by simpa using h
      repeat first|refine W.g ?_|refine L.p rfl rfl ?_|refine L.nil ?_|refine L.skip rfl ?_
      refine ⟨ws.length - (i + 1), by omega, i + 1, rfl, by omega, rfl, rfl, rfl, rfl, ?_, fun k w' hk hk' => ?_⟩
      · refine (force_eq rfl).trans ?_
        rw [wrap64 (by omega) (by omega)]; rfl
      · rcases Nat.lt_or_eq_of_le (Nat.le_of_lt_succ hk) with h1 | rfl
        · exact hs k w' h1 hk'
        · rw [hwi] at hk'; cases hk'; exact hb
  · have hin : i = ws.length := by simp at h; omega
    subst hin
    clear h
    have ha : (ws.map WS.l).all small = true := by
      rw [List.all_eq_true]
      intro l hl
      obtain ⟨w, hw', rfl⟩ := List.mem_map.1 hl
      obtain ⟨k, hk⟩ := List.getElem?_of_mem hw'
      exact hs k w (List.getElem?_eq_some_iff.1 hk).1 hk
    unfold wrE
    rw [if_pos ha]
    repeat first|refine W.g ?_|refine L.p rfl rfl ?_|refine L.nil ?_|refine L.skip rfl ?_
    refine L.cl (bits_C a c m _ hm) rfl rfl ?_
    rintro _ _ ⟨rfl, rfl⟩
    refine ⟨nofun, ?_⟩
    repeat first|refine W.g ?_|refine L.p rfl rfl ?_|refine L.nil ?_|refine L.skip rfl ?_
    refine W.ite rfl (fun h => ?_) (fun h => ?_)
    · have := of_decide_eq_true h
      rw [if_pos (by omega)]
      repeat first|refine W.g ?_|refine L.p rfl rfl ?_|refine L.nil ?_|refine L.skip rfl ?_
      exact ⟨.inr rfl, _, rfl, rfl, rfl⟩
    have h1 := of_decide_eq_false h
    rw [if_neg (by omega)]
    clear h
    repeat first|refine W.g ?_|refine L.p rfl rfl ?_|refine L.nil ?_|refine L.skip rfl ?_
    refine W.ite rfl (fun h => ?_) (fun h => ?_)
    · have h2 : wnum m = 0 := blen0.1 (by have := eq_of_beq h; omega)
      rw [if_pos h2]
      repeat first|refine W.g ?_|refine L.p rfl rfl ?_|refine L.nil ?_|refine L.skip rfl ?_
      exact ⟨.inr rfl, _, rfl, rfl, rfl⟩
    have h2 : wnum m ≠ 0 := fun h0 => by
      rw [blen0.2 h0] at h; cases h
    rw [if_neg h2]
    repeat first|refine W.g ?_|refine L.p rfl rfl ?_|refine L.nil ?_|refine L.skip rfl ?_
    exact ⟨.inr rfl, _, rfl, rfl, rfl⟩
theorem modLeft_C (a1 a2 : Option Addr) (c1 c2 : Nat) (l m : WL) (S : Mem) (h1 : WIn S a1 c1 l) (h2 : WIn S a2 c2 m) (b1 : wnum l < 2 ^ 8192) (b2 : wnum m < 2 ^ 8192) (b0 : wnum m ≠ 0) :
    C Tryd.prog gN Ext 40 [.slice a1 l.length c1, .slice a2 m.length c2] S fun v S' => ∃ d : Hd, v = .tuple #[d.v, .int .i64 0] ∧ RetW S S' d (toW (wnum l % wnum m)) := by
  refine C.fn Tryd.func40 rfl (by kernel_rfl) rfl ?_
  repeat first|refine W.g ?_|refine L.p rfl rfl ?_|refine L.nil ?_|refine L.skip rfl ?_
  refine L.cl (natDiv_C a1 a2 c1 c2 l m S h1 h2) rfl rfl ?_
  rintro _ T ⟨d, d2, rfl, r1, r2, hap⟩
  refine ⟨fun _ => r1.1, ?_⟩
  have hd := div_num b1 b2 b0
  rw [hd.2.2]
  rw [hd.2.1] at r2
  repeat first|refine W.g ?_|refine L.p rfl rfl ?_|refine L.nil ?_|refine L.skip rfl ?_
  exact ⟨.inr rfl, _, rfl, d2, rfl, r2⟩
/-- what a call hands out: a number, or what is wrong -/
def ansL (E : Int) (N : Nat) : WL := if E = 0 then toW N else []
theorem ansL_len {E : Int} {N : Nat} (h : E = 0 → N < 2 ^ 8192) : (ansL E N).length ≤ 128 := by
  unfold ansL
  split
  · rename_i he; exact (toW_len N 128).2 (h he)
  · exact Nat.zero_le _
def AnsR (S S' : Mem) (v : Value) (E : Int) (N : Nat) : Prop := ∃ d : Hd, v = .tuple #[d.v, .int .i64 E] ∧ RetW S S' d (ansL E N)
theorem AnsR.ok {S S1 S' : Mem} {d : Hd} {N : Nat} (k : Cons S S1) (h : RetW S1 S' d (toW N)) : AnsR S S' (.tuple #[d.v, .int .i64 0]) 0 N := ⟨d, rfl, h.pre k⟩
theorem AnsR.no {S S' : Mem} {E : Int} {N : Nat} (k : Cons S S') (h : E ≠ 0) : AnsR S S' (.tuple #[.slice none 0 0, .int .i64 E]) E N := ⟨Hd0, rfl, by unfold ansL; rw [if_neg h]; exact RetW.nil k⟩
theorem pair_C (a0 a1 a2 : Option Addr) (c0 c1 c2 : Nat) (l n m : WL) (S : Mem) (h0 : WIn S a0 c0 l) (h1 : WIn S a1 c1 n) (hm : WIn S a2 c2 m) :
    C Tryd.prog gN Ext 49 [.slice a0 l.length c0, .slice a1 n.length c1, .slice a2 m.length c2] S fun v S' => (wrE [l, n] m ≠ 0 ∧ v = .tuple #[.slice none 0 0, .slice none 0 0, .int .i64 (wrE [l, n] m)] ∧ Cons S S') ∨ (wrE [l, n] m = 0 ∧ ∃ d d2 : Hd, v = .tuple #[d.v, d2.v, .int .i64 0] ∧ Cons S S' ∧ (∃ T T', Cons S T ∧ RetW T T' d (toW (wnum l % wnum m)) ∧ Cons T' S') ∧ ∃ T, Cons S T ∧ RetW T S' d2 (toW (wnum n % wnum m))) := by
  refine C.fn Tryd.func49 rfl (by kernel_rfl) rfl ?_
  repeat first|refine W.g ?_|refine L.p rfl rfl ?_|refine L.nil ?_|refine L.skip rfl ?_
  refine L.bs [WS.v ⟨a0, c0, l⟩, WS.v ⟨a1, c1, n⟩] rfl rfl rfl rfl rfl rfl ?_
  have hc : Cons S (S ++ [newR [WS.v ⟨a0, c0, l⟩, WS.v ⟨a1, c1, n⟩] 22]) := Cons.push _ _
  have hs : Slv (S ++ [newR [WS.v ⟨a0, c0, l⟩, WS.v ⟨a1, c1, n⟩] 22]) 1 (.slice (some ⟨S.length, 0, none⟩) 2 2) 2 ([WS.mk a0 c0 l, WS.mk a1 c1 n].map WS.v) := Slv.all (row_push_new rfl) rfl rfl
  generalize S ++ [newR [WS.v ⟨a0, c0, l⟩, WS.v ⟨a1, c1, n⟩] 22] = S1 at *
  refine L.cl (wrong_C a2 c2 m _ [⟨a0, c0, l⟩, ⟨a1, c1, n⟩] S1 (hm.cons hc) hs (fun w hw => by
    simp only [List.mem_cons, List.not_mem_nil, or_false] at hw
    rcases hw with rfl | rfl
    · exact h0.cons hc
    · exact h1.cons hc) (by simp)) rfl rfl ?_
  rintro _ _ ⟨rfl, rfl⟩
  refine ⟨nofun, ?_⟩
  simp only [List.map_cons, List.map_nil]
  rcases wrE_cases [l, n] m with hE | hE | hE
  · rw [hE]
    repeat first|refine W.g ?_|refine L.p rfl rfl ?_|refine L.nil ?_|refine L.skip rfl ?_
    refine W.ite rfl (fun h => ?_) (fun h => ?_)
    · repeat first|refine W.g ?_|refine L.p rfl rfl ?_|refine L.nil ?_|refine L.skip rfl ?_
      exact ⟨.inr rfl, _, rfl, .inl ⟨by decide, rfl, hc⟩⟩
    · cases h
  · rw [hE]
    repeat first|refine W.g ?_|refine L.p rfl rfl ?_|refine L.nil ?_|refine L.skip rfl ?_
    refine W.ite rfl (fun h => ?_) (fun h => ?_)
    · repeat first|refine W.g ?_|refine L.p rfl rfl ?_|refine L.nil ?_|refine L.skip rfl ?_
      exact ⟨.inr rfl, _, rfl, .inl ⟨by decide, rfl, hc⟩⟩
    · cases h
  obtain ⟨hls, hm1, hm0⟩ := wrE_ok hE
  rw [hE]
  repeat first|refine W.g ?_|refine L.p rfl rfl ?_|refine L.nil ?_|refine L.skip rfl ?_
  refine W.ite rfl (fun h => ?_) (fun h => ?_)
  · cases h
  clear h
  repeat first|refine W.g ?_|refine L.p rfl rfl ?_|refine L.nil ?_|refine L.skip rfl ?_
  refine L.cl (modLeft_C a0 a2 c0 c2 l m _ (h0.cons hc) (hm.cons hc) (hls l (by simp)) (wr_le hm1) hm0) rfl rfl ?_
  rintro _ S2 ⟨d, rfl, r1⟩
  refine ⟨fun _ => r1.1, ?_⟩
  repeat first|refine W.g ?_|refine L.p rfl rfl ?_|refine L.nil ?_|refine L.skip rfl ?_
  refine W.ite rfl (fun h => ?_) (fun h => ?_)
  · cases h
  clear h
  repeat first|refine W.g ?_|refine L.p rfl rfl ?_|refine L.nil ?_|refine L.skip rfl ?_
  refine L.cl (modLeft_C a1 a2 c1 c2 n m S2 ((h1.cons hc).cons r1.1) ((hm.cons hc).cons r1.1) (hls n (by simp)) (wr_le hm1) hm0) rfl rfl ?_
  rintro _ S3 ⟨d2, rfl, r2⟩
  refine ⟨fun _ => r2.1, ?_⟩
  repeat first|refine W.g ?_|refine L.p rfl rfl ?_|refine L.nil ?_|refine L.skip rfl ?_
  exact ⟨.inr rfl, _, rfl, .inr ⟨rfl, d, d2, rfl, (hc.trans r1.1).trans r2.1, ⟨_, _, hc, r1, r2.1⟩, _, hc.trans r1.1, r2⟩⟩
theorem of_C (a1 a2 : Option Addr) (c1 c2 : Nat) (l m : WL) (S : Mem) (h1 : WIn S a1 c1 l) (hm : WIn S a2 c2 m) :
    C Tryd.prog gN Ext 22 [.slice a1 l.length c1, .slice a2 m.length c2] S fun v S' => AnsR S S' v (wrE [l] m) (wnum l % wnum m) := by
  refine C.fn Tryd.func22 rfl (by kernel_rfl) rfl ?_
  repeat first|refine W.g ?_|refine L.p rfl rfl ?_|refine L.nil ?_|refine L.skip rfl ?_
  refine L.bs [WS.v ⟨a1, c1, l⟩] rfl rfl rfl rfl rfl rfl ?_
  have hc : Cons S (S ++ [newR [WS.v ⟨a1, c1, l⟩] 22]) := Cons.push _ _
  have hs : Slv (S ++ [newR [WS.v ⟨a1, c1, l⟩] 22]) 1 (.slice (some ⟨S.length, 0, none⟩) 1 1) 1 ([WS.mk a1 c1 l].map WS.v) := Slv.all (row_push_new rfl) rfl rfl
  generalize S ++ [newR [WS.v ⟨a1, c1, l⟩] 22] = S1 at *
  refine L.cl (wrong_C a2 c2 m _ [⟨a1, c1, l⟩] S1 (hm.cons hc) hs (fun w hw => by
    simp only [List.mem_cons, List.not_mem_nil, or_false] at hw
    rcases hw with rfl
    exact h1.cons hc) (by simp)) rfl rfl ?_
  rintro _ _ ⟨rfl, rfl⟩
  refine ⟨nofun, ?_⟩
  simp only [List.map_cons, List.map_nil]
  rcases wrE_cases [l] m with hE | hE | hE
  · rw [hE]
    repeat first|refine W.g ?_|refine L.p rfl rfl ?_|refine L.nil ?_|refine L.skip rfl ?_
    refine W.ite rfl (fun h => ?_) (fun h => ?_)
    · repeat first|refine W.g ?_|refine L.p rfl rfl ?_|refine L.nil ?_|refine L.skip rfl ?_
      exact ⟨.inr rfl, _, rfl, .no hc (by decide)⟩
    · cases h
  · rw [hE]
    repeat first|refine W.g ?_|refine L.p rfl rfl ?_|refine L.nil ?_|refine L.skip rfl ?_
    refine W.ite rfl (fun h => ?_) (fun h => ?_)
    · repeat first|refine W.g ?_|refine L.p rfl rfl ?_|refine L.nil ?_|refine L.skip rfl ?_
      exact ⟨.inr rfl, _, rfl, .no hc (by decide)⟩
    · cases h
  obtain ⟨hls, hm1, hm0⟩ := wrE_ok hE
  rw [hE]
  repeat first|refine W.g ?_|refine L.p rfl rfl ?_|refine L.nil ?_|refine L.skip rfl ?_
  refine W.ite rfl (fun h => ?_) (fun h => ?_)
  · cases h
  clear h
  repeat first|refine W.g ?_|refine L.p rfl rfl ?_|refine L.nil ?_|refine L.skip rfl ?_
  refine L.cl (modLeft_C a1 a2 c1 c2 l m _ (h1.cons hc) (hm.cons hc) (hls l (by simp)) (wr_le hm1) hm0) rfl rfl ?_
  rintro _ S2 ⟨d, rfl, r1⟩
  refine ⟨fun _ => r1.1, ?_⟩
  repeat first|refine W.g ?_|refine L.p rfl rfl ?_|refine L.nil ?_|refine L.skip rfl ?_
  exact ⟨.inr rfl, _, rfl, .ok hc r1⟩
theorem modAdd_C (a0 a1 a2 : Option Addr) (c0 c1 c2 : Nat) (l n m : WL) (S : Mem) (h0 : WIn S a0 c0 l) (h1 : WIn S a1 c1 n) (hm : WIn S a2 c2 m) :
    C Tryd.prog gN Ext 26 [.slice a0 l.length c0, .slice a1 n.length c1, .slice a2 m.length c2] S fun v S' => AnsR S S' v (wrE [l, n] m) ((wnum l + wnum n) % wnum m) := by
  refine C.fn Tryd.func26 rfl (by kernel_rfl) rfl ?_
  repeat first|refine W.g ?_|refine L.p rfl rfl ?_|refine L.nil ?_|refine L.skip rfl ?_
  refine L.cl (pair_C a0 a1 a2 c0 c1 c2 l n m S h0 h1 hm) rfl rfl ?_
  rintro _ S3 (⟨hE, rfl, k⟩ | ⟨hE, d, d2, rfl, k, ⟨T, T', q1, q2, q3⟩, T2, q4, q5⟩)
  · refine ⟨fun _ => k, ?_⟩
    obtain ⟨E, hE2⟩ : ∃ E, wrE [l, n] m = E := ⟨_, rfl⟩
    rw [hE2] at hE ⊢
    rcases wrE_cases [l, n] m with hE3 | hE3 | hE3
    · obtain rfl := hE2.symm.trans hE3
      repeat first|refine W.g ?_|refine L.p rfl rfl ?_|refine L.nil ?_|refine L.skip rfl ?_
      refine W.ite rfl (fun h => ?_) (fun h => ?_)
      · repeat first|refine W.g ?_|refine L.p rfl rfl ?_|refine L.nil ?_|refine L.skip rfl ?_
        exact ⟨.inr rfl, _, rfl, .no k (by decide)⟩
      · cases h
    · obtain rfl := hE2.symm.trans hE3
      repeat first|refine W.g ?_|refine L.p rfl rfl ?_|refine L.nil ?_|refine L.skip rfl ?_
      refine W.ite rfl (fun h => ?_) (fun h => ?_)
      · repeat first|refine W.g ?_|refine L.p rfl rfl ?_|refine L.nil ?_|refine L.skip rfl ?_
        exact ⟨.inr rfl, _, rfl, .no k (by decide)⟩
      · cases h
    · exact absurd (hE2.symm.trans hE3) hE
  refine ⟨fun _ => k, ?_⟩
  obtain ⟨hls, hm1, hm0⟩ := wrE_ok hE
  rw [hE]
  have hx := q2.win.cons q3
  have hy := q5.win
  have hxv := q2.val
  have hyv := q5.val
  have hx1 : wnum l % wnum m < wnum m := Nat.mod_lt _ (Nat.pos_of_ne_zero hm0)
  have hy1 : wnum n % wnum m < wnum m := Nat.mod_lt _ (Nat.pos_of_ne_zero hm0)
  have hm2 := wr_le hm1
  rw [hxv, hyv]
  repeat first|refine W.g ?_|refine L.p rfl rfl ?_|refine L.nil ?_|refine L.skip rfl ?_
  refine W.ite rfl (fun h => ?_) (fun h => ?_)
  · cases h
  clear h q1 q2 q3 q4 q5 hxv hyv
  clear T T' T2
  repeat first|refine W.g ?_|refine L.p rfl rfl ?_|refine L.nil ?_|refine L.skip rfl ?_
  have hsum : wnum l % wnum m + wnum n % wnum m < 2 ^ 8192 := by
    have : (2 : Nat) ^ 4097 ≤ 2 ^ 8192 := Nat.pow_le_pow_right (by decide) (by decide)
    have e : (2 : Nat) ^ 4097 = 2 ^ 4096 * 2 := Nat.pow_succ ..
    omega
  have ha := add_num (l1 := toW (wnum l % wnum m)) (l2 := toW (wnum n % wnum m)) (by rw [wnum_toW]; omega) (by rw [wnum_toW]; omega) (by rw [wnum_toW, wnum_toW]; exact hsum)
  refine L.cl (natAdd_C _ _ _ _ _ _ S3 hx hy) rfl rfl ?_
  rintro _ S4 ⟨d3, rfl, r3⟩
  refine ⟨fun _ => r3.1, ?_⟩
  rw [ha.2]
  rw [ha.1, wnum_toW, wnum_toW] at r3
  rw [r3.val]
  have hz := r3.win
  repeat first|refine W.g ?_|refine L.p rfl rfl ?_|refine L.nil ?_|refine L.skip rfl ?_
  refine W.ite rfl (fun h => ?_) (fun h => ?_)
  · cases h
  clear h
  repeat first|refine W.g ?_|refine L.p rfl rfl ?_|refine L.nil ?_|refine L.skip rfl ?_
  refine L.cl (modLeft_C _ a2 _ c2 _ m S4 hz ((hm.cons k).cons r3.1) (by rw [wnum_toW]; exact hsum) hm2 hm0) rfl rfl ?_
  rintro _ S5 ⟨d4, rfl, r4⟩
  refine ⟨fun _ => r4.1, ?_⟩
  repeat first|refine W.g ?_|refine L.p rfl rfl ?_|refine L.nil ?_|refine L.skip rfl ?_
  rw [wnum_toW, ← Nat.add_mod] at r4
  exact ⟨.inr rfl, _, rfl, .ok (k.trans r3.1) r4⟩
theorem modSub_C (a0 a1 a2 : Option Addr) (c0 c1 c2 : Nat) (l n m : WL) (S : Mem) (h0 : WIn S a0 c0 l) (h1 : WIn S a1 c1 n) (hm : WIn S a2 c2 m) :
    C Tryd.prog gN Ext 27 [.slice a0 l.length c0, .slice a1 n.length c1, .slice a2 m.length c2] S fun v S' => AnsR S S' v (wrE [l, n] m) ((wnum l % wnum m + wnum m - wnum n % wnum m) % wnum m) := by
  refine C.fn Tryd.func27 rfl (by kernel_rfl) rfl ?_
  repeat first|refine W.g ?_|refine L.p rfl rfl ?_|refine L.nil ?_|refine L.skip rfl ?_
  refine L.cl (pair_C a0 a1 a2 c0 c1 c2 l n m S h0 h1 hm) rfl rfl ?_
  rintro _ S3 (⟨hE, rfl, k⟩ | ⟨hE, d, d2, rfl, k, ⟨T, T', q1, q2, q3⟩, T2, q4, q5⟩)
  · refine ⟨fun _ => k, ?_⟩
    obtain ⟨E, hE2⟩ : ∃ E, wrE [l, n] m = E := ⟨_, rfl⟩
    rw [hE2] at hE ⊢
    rcases wrE_cases [l, n] m with hE3 | hE3 | hE3
    · obtain rfl := hE2.symm.trans hE3
      repeat first|refine W.g ?_|refine L.p rfl rfl ?_|refine L.nil ?_|refine L.skip rfl ?_
      refine W.ite rfl (fun h => ?_) (fun h => ?_)
      · repeat first|refine W.g ?_|refine L.p rfl rfl ?_|refine L.nil ?_|refine L.skip rfl ?_
        exact ⟨.inr rfl, _, rfl, .no k (by decide)⟩
      · cases h
    · obtain rfl := hE2.symm.trans hE3
      repeat first|refine W.g ?_|refine L.p rfl rfl ?_|refine L.nil ?_|refine L.skip rfl ?_
      refine W.ite rfl (fun h => ?_) (fun h => ?_)
      · repeat first|refine W.g ?_|refine L.p rfl rfl ?_|refine L.nil ?_|refine L.skip rfl ?_
        exact ⟨.inr rfl, _, rfl, .no k (by decide)⟩
      · cases h
    · exact absurd (hE2.symm.trans hE3) hE
  refine ⟨fun _ => k, ?_⟩
  obtain ⟨hls, hm1, hm0⟩ := wrE_ok hE
  rw [hE]
  have hx := q2.win.cons q3
  have hy := q5.win
  have hxv := q2.val
  have hyv := q5.val
  have hx1 : wnum l % wnum m < wnum m := Nat.mod_lt _ (Nat.pos_of_ne_zero hm0)
  have hy1 : wnum n % wnum m < wnum m := Nat.mod_lt _ (Nat.pos_of_ne_zero hm0)
  have hm2 := wr_le hm1
  rw [hxv, hyv]
  repeat first|refine W.g ?_|refine L.p rfl rfl ?_|refine L.nil ?_|refine L.skip rfl ?_
  refine W.ite rfl (fun h => ?_) (fun h => ?_)
  · cases h
  clear h q1 q2 q3 q4 q5 hxv hyv
  clear T T' T2
  repeat first|refine W.g ?_|refine L.p rfl rfl ?_|refine L.nil ?_|refine L.skip rfl ?_
  generalize hX : wnum l % wnum m = X at *
  generalize hY : wnum n % wnum m = Y at *
  generalize hM : wnum m = M at *
  rename Mem => S3
  refine L.cl (natCmp_C _ _ _ _ _ _ S3 hx hy) rfl rfl ?_
  rintro _ M' ⟨rfl, hM'⟩
  have hM' := hM'.symm
  subst hM'
  refine ⟨nofun, ?_⟩
  rw [wnum_toW, wnum_toW]
  repeat first|refine W.g ?_|refine L.p rfl rfl ?_|refine L.nil ?_|refine L.skip rfl ?_
  refine W.ite rfl (fun h => ?_) (fun h => ?_)
  · have hlt : X < Y := by
      have := of_decide_eq_true h
      unfold cmpI at this
      split at this <;> omega
    clear h
    have hsum : X + M < 2 ^ 8192 := by
      have : (2 : Nat) ^ 4097 ≤ 2 ^ 8192 := Nat.pow_le_pow_right (by decide) (by decide)
      have e : (2 : Nat) ^ 4097 = 2 ^ 4096 * 2 := Nat.pow_succ ..
      omega
    have ha := add_num (l1 := toW X) (l2 := m) (by rw [wnum_toW]; omega) (by omega) (by rw [wnum_toW, hM]; exact hsum)
    repeat first|refine W.g ?_|refine L.p rfl rfl ?_|refine L.nil ?_|refine L.skip rfl ?_
    refine L.cl (natAdd_C _ a2 _ c2 _ m S3 hx (hm.cons k)) rfl rfl ?_
    rintro _ S4 ⟨d3, rfl, r3⟩
    refine ⟨fun _ => r3.1, ?_⟩
    rw [ha.2]
    rw [ha.1, wnum_toW, hM] at r3
    rw [r3.val]
    have hz := r3.win
    repeat first|refine W.g ?_|refine L.p rfl rfl ?_|refine L.nil ?_|refine L.skip rfl ?_
    refine W.ite rfl (fun h => ?_) (fun h => ?_)
    · cases h
    clear h
    repeat first|refine W.g ?_|refine L.p rfl rfl ?_|refine L.nil ?_|refine L.skip rfl ?_
    have hs := sub_num (l1 := toW (X + M)) (l2 := toW Y) (by rw [wnum_toW]; exact hsum) (by rw [wnum_toW]; omega) (by rw [wnum_toW, wnum_toW]; omega)
    refine L.cl (natSub_C _ _ _ _ _ _ S4 hz (hy.cons r3.1)) rfl rfl ?_
    rintro _ S5 ⟨d4, rfl, r4⟩
    refine ⟨fun _ => r4.1, ?_⟩
    rw [hs.2]
    rw [hs.1, wnum_toW, wnum_toW] at r4
    repeat first|refine W.g ?_|refine L.p rfl rfl ?_|refine L.nil ?_|refine L.skip rfl ?_
    have e : (X + M - Y) % M = X + M - Y := Nat.mod_eq_of_lt (by omega)
    rw [← e] at r4
    exact ⟨.inr rfl, _, rfl, .ok (k.trans r3.1) r4⟩
  · have hge : Y ≤ X := by
      have := of_decide_eq_false h
      unfold cmpI at this
      split at this
      · omega
      · omega
    clear h
    repeat first|refine W.g ?_|refine L.p rfl rfl ?_|refine L.nil ?_|refine L.skip rfl ?_
    have hs := sub_num (l1 := toW X) (l2 := toW Y) (by rw [wnum_toW]; omega) (by rw [wnum_toW]; omega) (by rw [wnum_toW, wnum_toW]; omega)
    refine L.cl (natSub_C _ _ _ _ _ _ S3 hx hy) rfl rfl ?_
    rintro _ S5 ⟨d4, rfl, r4⟩
    refine ⟨fun _ => r4.1, ?_⟩
    rw [hs.2]
    rw [hs.1, wnum_toW, wnum_toW] at r4
    repeat first|refine W.g ?_|refine L.p rfl rfl ?_|refine L.nil ?_|refine L.skip rfl ?_
    have e : (X + M - Y) % M = X - Y := by rw [show X + M - Y = (X - Y) + M by omega, Nat.add_mod_right]; exact Nat.mod_eq_of_lt (by omega)
    rw [← e] at r4
    exact ⟨.inr rfl, _, rfl, .ok k r4⟩
theorem modTimes_C (a0 a1 a2 : Option Addr) (c0 c1 c2 : Nat) (l n m : WL) (S : Mem) (h0 : WIn S a0 c0 l) (h1 : WIn S a1 c1 n) (hm : WIn S a2 c2 m) (b0 : wnum l < 2 ^ 4096) (b1 : wnum n < 2 ^ 4096) (hm1 : wnum m < 2 ^ 4096) (hm0 : wnum m ≠ 0) (hS : SinOk S) (hG : gN ≤ S.length) :
    C Tryd.prog gN Ext 41 [.slice a0 l.length c0, .slice a1 n.length c1, .slice a2 m.length c2] S fun v S' => ∃ d : Hd, v = .tuple #[d.v, .int .i64 0] ∧ ∃ S1, Cons S S1 ∧ RetW S1 S' d (toW (wnum l * wnum n % wnum m)) := by
  refine C.fn Tryd.func41 rfl (by kernel_rfl) rfl ?_
  repeat first|refine W.g ?_|refine L.p rfl rfl ?_|refine L.nil ?_|refine L.skip rfl ?_
  have hp : wnum l * wnum n < 2 ^ 8192 := by
    have := Nat.mul_lt_mul'' b0 b1
    rwa [← Nat.pow_add] at this
  have hM := mul_num (wr_le b0) (wr_le b1) hp
  refine L.cl (mul_C _ _ _ _ _ _ S h0 h1 hS hG) rfl rfl ?_
  rintro _ S4 ⟨d3, rfl, r3⟩
  refine ⟨fun _ => r3.1, ?_⟩
  rw [hM.2]
  rw [hM.1] at r3
  rw [r3.val]
  have hz := r3.win
  repeat first|refine W.g ?_|refine L.p rfl rfl ?_|refine L.nil ?_|refine L.skip rfl ?_
  refine W.ite rfl (fun h => ?_) (fun h => ?_)
  · cases h
  clear h
  repeat first|refine W.g ?_|refine L.p rfl rfl ?_|refine L.nil ?_|refine L.skip rfl ?_
  refine L.cl (modLeft_C _ a2 _ c2 _ m S4 hz (hm.cons r3.1) (by rw [wnum_toW]; exact hp) (wr_le hm1) hm0) rfl rfl ?_
  rintro _ S5 ⟨d4, rfl, r4⟩
  refine ⟨fun _ => r4.1, ?_⟩
  repeat first|refine W.g ?_|refine L.p rfl rfl ?_|refine L.nil ?_|refine L.skip rfl ?_
  rw [wnum_toW] at r4
  exact ⟨.inr rfl, _, rfl, d4, rfl, _, r3.1, r4⟩
theorem modMul_C (a0 a1 a2 : Option Addr) (c0 c1 c2 : Nat) (l n m : WL) (S : Mem) (h0 : WIn S a0 c0 l) (h1 : WIn S a1 c1 n) (hm : WIn S a2 c2 m) (hS : SinOk S) (hG : gN ≤ S.length) :
    C Tryd.prog gN Ext 21 [.slice a0 l.length c0, .slice a1 n.length c1, .slice a2 m.length c2] S fun v S' => AnsR S S' v (wrE [l, n] m) (wnum l * wnum n % wnum m) := by
  refine C.fn Tryd.func21 rfl (by kernel_rfl) rfl ?_
  repeat first|refine W.g ?_|refine L.p rfl rfl ?_|refine L.nil ?_|refine L.skip rfl ?_
  refine L.cl (pair_C a0 a1 a2 c0 c1 c2 l n m S h0 h1 hm) rfl rfl ?_
  rintro _ S3 (⟨hE, rfl, k⟩ | ⟨hE, d, d2, rfl, k, ⟨T, T', q1, q2, q3⟩, T2, q4, q5⟩)
  · refine ⟨fun _ => k, ?_⟩
    obtain ⟨E, hE2⟩ : ∃ E, wrE [l, n] m = E := ⟨_, rfl⟩
    rw [hE2] at hE ⊢
    rcases wrE_cases [l, n] m with hE3 | hE3 | hE3
    · obtain rfl := hE2.symm.trans hE3
      repeat first|refine W.g ?_|refine L.p rfl rfl ?_|refine L.nil ?_|refine L.skip rfl ?_
      refine W.ite rfl (fun h => ?_) (fun h => ?_)
      · repeat first|refine W.g ?_|refine L.p rfl rfl ?_|refine L.nil ?_|refine L.skip rfl ?_
        exact ⟨.inr rfl, _, rfl, .no k (by decide)⟩
      · cases h
    · obtain rfl := hE2.symm.trans hE3
      repeat first|refine W.g ?_|refine L.p rfl rfl ?_|refine L.nil ?_|refine L.skip rfl ?_
      refine W.ite rfl (fun h => ?_) (fun h => ?_)
      · repeat first|refine W.g ?_|refine L.p rfl rfl ?_|refine L.nil ?_|refine L.skip rfl ?_
        exact ⟨.inr rfl, _, rfl, .no k (by decide)⟩
      · cases h
    · exact absurd (hE2.symm.trans hE3) hE
  refine ⟨fun _ => k, ?_⟩
  obtain ⟨hls, hm1, hm0⟩ := wrE_ok hE
  rw [hE]
  have hx := q2.win.cons q3
  have hy := q5.win
  have hxv := q2.val
  have hyv := q5.val
  have hx1 : wnum l % wnum m < wnum m := Nat.mod_lt _ (Nat.pos_of_ne_zero hm0)
  have hy1 : wnum n % wnum m < wnum m := Nat.mod_lt _ (Nat.pos_of_ne_zero hm0)
  have hm2 := wr_le hm1
  rw [hxv, hyv]
  repeat first|refine W.g ?_|refine L.p rfl rfl ?_|refine L.nil ?_|refine L.skip rfl ?_
  refine W.ite rfl (fun h => ?_) (fun h => ?_)
  · cases h
  clear h q1 q2 q3 q4 q5 hxv hyv
  clear T T' T2
  repeat first|refine W.g ?_|refine L.p rfl rfl ?_|refine L.nil ?_|refine L.skip rfl ?_
  refine L.cl (modTimes_C _ _ a2 _ _ c2 _ _ m S3 hx hy (hm.cons k) (by rw [wnum_toW]; omega) (by rw [wnum_toW]; omega) hm1 hm0 (hS.cons k) (Nat.le_trans hG k.len)) rfl rfl ?_
  rintro _ S4 ⟨d3, rfl, S5, k5, r3⟩
  refine ⟨fun _ => k5.trans r3.1, ?_⟩
  repeat first|refine W.g ?_|refine L.p rfl rfl ?_|refine L.nil ?_|refine L.skip rfl ?_
  rw [wnum_toW, wnum_toW, ← Nat.mul_mod] at r3
  exact ⟨.inr rfl, _, rfl, .ok (k.trans k5) r3⟩
end Go.Proofs.YtlnlcddbllcehaaDoor

/- Jumps to a label, walked. Conditions: none. -/
set_option linter.unusedVariables false
namespace Go.Proofs.YtlnlcddbllcehaaDoor
open Go
section
variable {P : Program} {G : Nat} {Ext : FuncId → List Value → Mem → Outc → Mem → Prop} {e : Env} {S : Mem} {Q : Xit → Env → Mem → Prop}
/-- a jump to l where J holds, or an end by Q -/
def Jmp (l : Nat) (J : Env → Mem → Prop) (Q : Xit → Env → Mem → Prop) : Xit → Env → Mem → Prop
  | .goto l', e, S => l' = l ∧ J e S
  | .nrm, e, S => Q .nrm e S
  | .exit i, e, S => Q (.exit i) e S
  | .ret, e, S => Q .ret e S
  | .pan v, e, S => Q (.pan v) e S
instance {l : Nat} : Go1 P G Ext (.label l) e S Q (Q .nrm e S) := ⟨fun h => ⟨_, _, _, .label l e S, h⟩⟩
instance {l : Nat} : Go1 P G Ext (.goto l) e S Q (Q (.goto l) e S) := ⟨fun h => ⟨_, _, _, .goto l e S, h⟩⟩
/-- a scope with one label: what holds whenever the label is met; the number goes down -/
theorem W.scope1 {body tail : Code} (l : Nat) (hl : findLabel body l = some (.seq .skip tail)) (I : Nat → Env → Mem → Prop) (step : ∀ k e S, I k e S → W P G Ext tail e S (Jmp l (fun e S => ∃ k', k' < k ∧ I k' e S) Q))
    (hu : ∀ l', l' ≠ l → findLabel body l' = none) (h0 : (∀ k e S, I k e S → W P G Ext tail e S (Jmp l (fun e S => ∃ k', I k' e S) Q)) → W P G Ext body e S (Jmp l (fun e S => ∃ k', I k' e S) Q)) : W P G Ext (.scope body) e S Q := by
  have fin : ∀ {x e S}, Jmp l (fun e S => ∃ k', I k' e S) Q x e S → (∃ e1 : Nat, x = .goto l ∧ ∃ k', I k' e S) ∨ (Q x e S ∧ ∀ l', x ≠ .goto l') := by
    intro x e S h
    cases x with
    | goto l' => obtain ⟨rfl, h⟩ := h; exact .inl ⟨0, rfl, h⟩
    | _ => exact .inr ⟨h, nofun⟩
  have key : ∀ k e S, I k e S → ∃ x e' S', Ex P G Ext (.scope body (.seq .skip tail) e S x e' S') ∧ Q x e' S' := by
    intro k
    induction k using Nat.strongRecOn with
    | _ k ih =>
      intro e S h
      obtain ⟨x, e', S', h1, h2⟩ := step k e S h
      have h1' : Ex P G Ext (.j (.code (.seq .skip tail) e S x e' S')) := .seq (.skipC e S) h1
      cases x with
      | goto l' =>
        obtain ⟨rfl, k', hk, h3⟩ := h2
        obtain ⟨x2, e2, S2, h4, h5⟩ := ih k' hk e' S' h3
        exact ⟨x2, e2, S2, .jump h1' hl h4, h5⟩
      | _ => exact ⟨_, e', S', .inScope h1' nofun, h2⟩
  obtain ⟨x, e', S', h1, h2⟩ := h0 fun k e S h => W.mono (step k e S h) fun x e S h => by
    cases x with
    | goto l' => exact ⟨h.1, let ⟨k', _, h3⟩ := h.2; ⟨k', h3⟩⟩
    | _ => exact h
  cases x with
  | goto l' =>
    obtain ⟨rfl, k', h3⟩ := h2
    obtain ⟨x2, e2, S2, h4, h5⟩ := key k' e' S' h3
    exact ⟨x2, e2, S2, .scope (.jump h1 hl h4), h5⟩
  | _ => exact ⟨_, e', S', .scope (.inScope h1 nofun), h2⟩
end
end Go.Proofs.YtlnlcddbllcehaaDoor

/- Layer 4: powers. Conditions: the tables lie in memory. -/
set_option linter.unusedSimpArgs false
set_option linter.unusedVariables false
set_option maxRecDepth 100000
set_option maxHeartbeats 4000000
set_option exponentiation.threshold 20000
namespace Go.Proofs.YtlnlcddbllcehaaDoor
open Go Ie
variable {Ext : FuncId → List Value → Mem → Outc → Mem → Prop}
theorem bit_limb {l : WL} {j : Nat} {x : BitVec 64} (h : l[j / 64]? = some x) : x.toNat.testBit (j % 64) = (wnum l).testBit j := by
  have hk : j / 64 ≤ l.length := by have := (List.getElem?_eq_some_iff.1 h).1; omega
  have h1 := wnum_append (l.take (j / 64)) (l.drop (j / 64))
  rw [List.take_append_drop, List.length_take, Nat.min_eq_left hk] at h1
  have h2 := wnum_lt (l.take (j / 64))
  rw [List.length_take, Nat.min_eq_left hk] at h2
  have h3 : wnum l / 2 ^ (64 * (j / 64)) = wnum (l.drop (j / 64)) := by
    rw [h1, Nat.add_mul_div_left _ _ (Nat.two_pow_pos _), Nat.div_eq_of_lt h2, Nat.zero_add]
  have h4 := wnum_head (l.drop (j / 64))
  have h5 : (l.drop (j / 64)).getD 0 0#64 = x := by
    rw [List.getD_eq_getElem?_getD, List.getElem?_drop, Nat.add_zero, h]; rfl
  rw [h5, ← h3] at h4
  rw [← h4, show (18446744073709551616 : Nat) = 2 ^ 64 by decide, Nat.testBit_mod_two_pow, Nat.testBit_div_two_pow, decide_eq_true (by omega : j % 64 < 64), Bool.true_and]
  congr 1
  omega
theorem and1b (y : BitVec 64) : (IntKind.u64.wrap ((BitVec.ofInt IntKind.u64.bits (y.toNat : Int) &&& BitVec.ofInt IntKind.u64.bits 1).toNat : Int) == 1) = y.toNat.testBit 0 := by
  have e : (BitVec.ofInt 64 (y.toNat : Int) &&& BitVec.ofInt 64 1).toNat = y.toNat % 2 := by
    rw [ofInt_toNat]
    show (y.toNat &&& 1) = _
    exact Nat.and_one_is_mod _
  show (IntKind.u64.wrap ((BitVec.ofInt 64 (y.toNat : Int) &&& BitVec.ofInt 64 1).toNat : Int) == 1) = _
  rw [e, wrapU64 (by omega) (by omega), Nat.testBit_zero]
  have := Nat.mod_two_eq_zero_or_one y.toNat
  rcases this with h | h <;> rw [h] <;> rfl
theorem bit_at {l : WL} {j : Nat} {x : BitVec 64} (h : l[j / 64]? = some x) : (IntKind.u64.wrap ((BitVec.ofInt IntKind.u64.bits (Int.fdiv (x.toNat : Int) (2 ^ (min (Int.tmod (j : Int) 64).toNat IntKind.u64.bits))) &&& BitVec.ofInt IntKind.u64.bits 1).toNat : Int) == 1) = (wnum l).testBit j := by
  rw [show min (Int.tmod (j : Int) 64).toNat IntKind.u64.bits = j % 64 by rw [show Int.tmod (j : Int) 64 = ((j % 64 : Nat) : Int) from (Int.ofNat_tmod j 64).symm, bits_u64, Int.toNat_natCast]; omega]
  rw [fdiv_shr, and1b, BitVec.toNat_ushiftRight, Nat.testBit_shiftRight, Nat.add_zero, bit_limb h]
theorem pow_sq {X M N j : Nat} (hb : N.testBit j = false) : (X ^ (N / 2 ^ (j + 1)) % M) * (X ^ (N / 2 ^ (j + 1)) % M) % M = X ^ (N / 2 ^ j) % M := by
  have e : N / 2 ^ (j + 1) = N / 2 ^ j / 2 := by rw [Nat.pow_succ, Nat.div_div_eq_div_mul]
  rw [Nat.testBit_eq_decide_div_mod_eq, decide_eq_false_iff_not] at hb
  generalize N / 2 ^ (j + 1) = A at *
  generalize N / 2 ^ j = B at *
  obtain rfl : B = A + A := by omega
  rw [← Nat.mul_mod, ← Nat.pow_add]
theorem pow_sqm {X M N j : Nat} (hb : N.testBit j = true) : (X ^ (N / 2 ^ (j + 1)) % M) * (X ^ (N / 2 ^ (j + 1)) % M) % M * (X % M) % M = X ^ (N / 2 ^ j) % M := by
  have e : N / 2 ^ (j + 1) = N / 2 ^ j / 2 := by rw [Nat.pow_succ, Nat.div_div_eq_div_mul]
  rw [Nat.testBit_eq_decide_div_mod_eq, decide_eq_true_eq] at hb
  generalize N / 2 ^ (j + 1) = A at *
  generalize N / 2 ^ j = B at *
  obtain rfl : B = A + A + 1 := by omega
  rw [← Nat.mul_mod (X ^ A) (X ^ A) M, ← Nat.mul_mod, Nat.pow_succ, Nat.pow_add]
theorem modPow_C (a0 a1 a2 : Option Addr) (c0 c1 c2 : Nat) (l n m : WL) (S : Mem) (h0 : WIn S a0 c0 l) (h1 : WIn S a1 c1 n) (hm : WIn S a2 c2 m) (hS : SinOk S) (hG : gN ≤ S.length) :
    C Tryd.prog gN Ext 11 [.slice a0 l.length c0, .slice a1 n.length c1, .slice a2 m.length c2] S fun v S' => AnsR S S' v (wrE [l, n] m) (wnum l ^ wnum n % wnum m) := by
  refine C.fn Tryd.func11 rfl (by kernel_rfl) rfl ?_
  obtain ⟨E0, hE0⟩ : ∃ E0, wrE [l, n] m = E0 := ⟨_, rfl⟩
  rw [hE0]
  repeat first|refine W.g ?_|refine L.p rfl rfl ?_|refine L.nil ?_|refine L.skip rfl ?_
  refine W.scope1 0 rfl (fun k e T => E0 = 0 ∧ k ≤ blen (wnum n) ∧ Cons S T ∧ e 1 = .slice a1 n.length c1 ∧ e 2 = .slice a2 m.length c2 ∧ (∃ ax cx, e 9 = .slice ax (toW (wnum l % wnum m)).length cx ∧ WIn T ax cx (toW (wnum l % wnum m))) ∧ e 10 = .int .i64 0 ∧ e 12 = vi k ∧
    ∃ (d : Hd) (T0 : Mem), e 11 = .slice d.ad (toW (wnum l ^ (wnum n / 2 ^ k) % wnum m)).length d.c ∧ Cons S T0 ∧ RetW T0 T d (toW (wnum l ^ (wnum n / 2 ^ k) % wnum m))) ?_ (fun l' h => by
      cases l' with
      | zero => exact absurd rfl h
      | succ k => rfl) ?_
  · rintro k e T ⟨hE, hk, hc, e1, e2, ⟨ax, cx, e9, wx⟩, e10, e12, d, T0, e11, kT, hR⟩
    refine W.env6 e1 e2 e9 e10 e11 e12 ?_
    clear e1 e2 e9 e10 e11 e12
    obtain ⟨hls, hm1, hm0⟩ := wrE_ok (hE0.trans hE)
    have hkb : blen (wnum n) ≤ 8192 := blen_le.2 (hls n (by simp))
    have hw := hR.win
    have hmp : 0 < wnum m := Nat.pos_of_ne_zero hm0
    have hX : wnum l % wnum m < wnum m := Nat.mod_lt _ hmp
    cases k with
    | zero =>
      repeat first|refine W.g ?_|refine L.p rfl rfl ?_|refine L.nil ?_|refine L.skip rfl ?_
      refine W.ite rfl (fun h => ?_) (fun h => ?_)
      · repeat first|refine W.g ?_|refine L.p rfl rfl ?_|refine L.nil ?_|refine L.skip rfl ?_
        rw [← hR.val]
        rw [Nat.pow_zero, Nat.div_one] at hR
        exact ⟨.inr rfl, _, rfl, by rw [hE]; exact .ok kT hR⟩
      · cases h
    | succ j =>
      have q0 : (((j + 1 : Nat) : Int) == 0) = false := beq_eq_false_iff_ne.2 (by omega)
      have q1 : IntKind.i64.wrap (((j + 1 : Nat) : Int) - 1) = (j : Int) := by rw [wrap64 (by omega) (by omega)]; omega
      have hY : wnum l ^ (wnum n / 2 ^ (j + 1)) % wnum m < wnum m := Nat.mod_lt _ hmp
      repeat first|refine W.g ?_|refine L.p rfl rfl ?_|refine L.nil ?_|refine L.skip rfl ?_
      rw [q0]
      repeat first|refine W.g ?_|refine L.p rfl rfl ?_|refine L.nil ?_|refine L.skip rfl ?_
      refine W.ite rfl (fun h => ?_) (fun h => ?_)
      · cases h
      clear h
      repeat first|refine W.g ?_|refine L.p rfl rfl ?_|refine L.nil ?_|refine L.skip rfl ?_
      rw [q1]
      repeat first|refine W.g ?_|refine L.p rfl rfl ?_|refine L.nil ?_|refine L.skip rfl ?_
      refine L.cl (modTimes_C _ _ a2 _ _ c2 _ _ m T hw hw (hm.cons hc) (by rw [wnum_toW]; omega) (by rw [wnum_toW]; omega) hm1 hm0 (hS.cons hc) (Nat.le_trans hG hc.len)) rfl rfl ?_
      rintro _ T2 ⟨d2, rfl, T1, k1, r2⟩
      have k2 := k1.trans r2.1
      refine ⟨fun _ => k2, ?_⟩
      rw [wnum_toW] at r2
      rw [r2.val]
      have w2 := r2.win
      have hj : j / 64 < n.length := by
        have h3 : blen (wnum n) ≤ 64 * n.length := blen_le.2 (wnum_lt n)
        omega
      obtain ⟨x, hx⟩ : ∃ x, n[j / 64]? = some x := ⟨_, List.getElem?_eq_getElem hj⟩
      have e1 : IntKind.i64.wrap (Int.tdiv (j : Int) 64) = ((j / 64 : Nat) : Int) := by
        rw [show Int.tdiv (j : Int) 64 = ((j / 64 : Nat) : Int) from (Int.ofNat_tdiv j 64).symm, wrap64 (by omega) (by omega)]
      repeat first|refine W.g ?_|refine L.p rfl rfl ?_|refine L.nil ?_|refine L.skip rfl ?_
      refine L.el (h1.cons (hc.trans k2)).1 e1 (wv_get hx) rfl rfl rfl rfl (fun _ => rfl) rfl (fun p => ?_)
      repeat first|refine W.g ?_|refine L.p rfl rfl ?_|refine L.nil ?_|refine L.skip rfl ?_
      refine W.ite (t := (wnum n).testBit j) ((force_eq rfl).trans (congrArg Value.bool (bit_at hx))) (fun hb => ?_) (fun hb => ?_)
      rotate_left
      · rw [pow_sq hb] at r2 w2 ⊢
        repeat first|refine W.g ?_|refine L.p rfl rfl ?_|refine L.nil ?_|refine L.skip rfl ?_
        exact ⟨rfl, j, by omega, hE, by omega, hc.trans k2, rfl, rfl, ⟨ax, cx, rfl, wx.cons k2⟩, rfl, rfl, d2, T1, rfl, hc.trans k1, r2⟩
      · repeat first|refine W.g ?_|refine L.p rfl rfl ?_|refine L.nil ?_|refine L.skip rfl ?_
        refine L.cl (modTimes_C _ _ a2 _ _ c2 _ _ m T2 w2 (wx.cons k2) (hm.cons (hc.trans k2)) (by rw [wnum_toW]; exact Nat.lt_trans (Nat.mod_lt _ hmp) hm1) (by rw [wnum_toW]; omega) hm1 hm0 (hS.cons (hc.trans k2)) (Nat.le_trans hG (hc.trans k2).len)) rfl rfl ?_
        rintro _ T4 ⟨d3, rfl, T3, k3, r3⟩
        have k4 := k3.trans r3.1
        refine ⟨fun _ => k4, ?_⟩
        rw [wnum_toW, wnum_toW, pow_sqm hb] at r3
        rw [r3.val]
        repeat first|refine W.g ?_|refine L.p rfl rfl ?_|refine L.nil ?_|refine L.skip rfl ?_
        exact ⟨rfl, j, by omega, hE, by omega, (hc.trans k2).trans k4, rfl, rfl, ⟨ax, cx, rfl, (wx.cons k2).cons k4⟩, rfl, rfl, d3, T3, rfl, (hc.trans k2).trans k3, r3⟩
  · intro hstep
    repeat first|refine W.g ?_|refine L.p rfl rfl ?_|refine L.nil ?_|refine L.skip rfl ?_
    refine L.bs [WS.v ⟨a0, c0, l⟩, WS.v ⟨a1, c1, n⟩] rfl rfl rfl rfl rfl rfl ?_
    have hc : Cons S (S ++ [newR [WS.v ⟨a0, c0, l⟩, WS.v ⟨a1, c1, n⟩] 22]) := Cons.push _ _
    have hs : Slv (S ++ [newR [WS.v ⟨a0, c0, l⟩, WS.v ⟨a1, c1, n⟩] 22]) 1 (.slice (some ⟨S.length, 0, none⟩) 2 2) 2 ([WS.mk a0 c0 l, WS.mk a1 c1 n].map WS.v) := Slv.all (row_push_new rfl) rfl rfl
    obtain ⟨S1, hS1⟩ : ∃ S1, S1 = S ++ [newR [WS.v ⟨a0, c0, l⟩, WS.v ⟨a1, c1, n⟩] 22] := ⟨_, rfl⟩
    rw [← hS1] at hc hs ⊢
    clear hS1
    refine L.cl (wrong_C a2 c2 m _ [⟨a0, c0, l⟩, ⟨a1, c1, n⟩] S1 (hm.cons hc) hs (fun w hw => by
      simp only [List.mem_cons, List.not_mem_nil, or_false] at hw
      rcases hw with rfl | rfl
      · exact h0.cons hc
      · exact h1.cons hc) (by simp)) rfl rfl ?_
    rintro _ M ⟨rfl, hM⟩
    have hM := hM.symm
    subst hM
    refine ⟨nofun, ?_⟩
    simp only [List.map_cons, List.map_nil]
    rcases wrE_cases [l, n] m with hE | hE | hE
    · obtain rfl := hE0.symm.trans hE
      rw [hE]
      repeat first|refine W.g ?_|refine L.p rfl rfl ?_|refine L.nil ?_|refine L.skip rfl ?_
      refine W.ite rfl (fun h => ?_) (fun h => ?_)
      · repeat first|refine W.g ?_|refine L.p rfl rfl ?_|refine L.nil ?_|refine L.skip rfl ?_
        exact ⟨.inr rfl, _, rfl, .no hc (by decide)⟩
      · cases h
    · obtain rfl := hE0.symm.trans hE
      rw [hE]
      repeat first|refine W.g ?_|refine L.p rfl rfl ?_|refine L.nil ?_|refine L.skip rfl ?_
      refine W.ite rfl (fun h => ?_) (fun h => ?_)
      · repeat first|refine W.g ?_|refine L.p rfl rfl ?_|refine L.nil ?_|refine L.skip rfl ?_
        exact ⟨.inr rfl, _, rfl, .no hc (by decide)⟩
      · cases h
    obtain ⟨hls, hm1, hm0⟩ := wrE_ok hE
    have hmp : 0 < wnum m := Nat.pos_of_ne_zero hm0
    rw [hE]
    repeat first|refine W.g ?_|refine L.p rfl rfl ?_|refine L.nil ?_|refine L.skip rfl ?_
    refine W.ite rfl (fun h => ?_) (fun h => ?_)
    · cases h
    clear h
    repeat first|refine W.g ?_|refine L.p rfl rfl ?_|refine L.nil ?_|refine L.skip rfl ?_
    refine L.cl (modLeft_C a0 a2 c0 c2 l m _ (h0.cons hc) (hm.cons hc) (hls l (by simp)) (wr_le hm1) hm0) rfl rfl ?_
    rintro _ S2 ⟨d, rfl, r1⟩
    refine ⟨fun _ => r1.1, ?_⟩
    rw [r1.val]
    have w1 := r1.win
    have k1 := hc.trans r1.1
    repeat first|refine W.g ?_|refine L.p rfl rfl ?_|refine L.nil ?_|refine L.skip rfl ?_
    refine W.ite rfl (fun h => ?_) (fun h => ?_)
    · cases h
    clear h
    repeat first|refine W.g ?_|refine L.p rfl rfl ?_|refine L.nil ?_|refine L.skip rfl ?_
    refine L.bsW [1#64] rfl rfl rfl rfl rfl rfl (fun b S3 k3 i3 => ?_)
    repeat first|refine W.g ?_|refine L.p rfl rfl ?_|refine L.nil ?_|refine L.skip rfl ?_
    have k13 := k1.trans k3
    refine L.cl (modLeft_C _ a2 _ c2 [1#64] m S3 i3 (hm.cons k13) (by rw [show wnum [1#64] = 1 from rfl]; omega) (wr_le hm1) hm0) rfl rfl ?_
    rintro _ S4 ⟨d4, rfl, r4⟩
    refine ⟨fun _ => r4.1, ?_⟩
    rw [r4.val]
    have k14 := k13.trans r4.1
    repeat first|refine W.g ?_|refine L.p rfl rfl ?_|refine L.nil ?_|refine L.skip rfl ?_
    refine L.cl (bits_C a1 c1 n S4 (h1.cons k14)) rfl rfl ?_
    rintro _ M ⟨rfl, hM⟩
    have hM := hM.symm
    subst hM
    refine ⟨nofun, ?_⟩
    refine L.p rfl rfl ?_
    refine L.nil ?_
    refine W.g ?_
    refine W.g ?_
    refine W.mono ?_ (fun _ _ _ h => h)
    refine hstep (blen (wnum n)) _ _ ?_
    have e : wnum n / 2 ^ blen (wnum n) = 0 := Nat.div_eq_of_lt (blen_le.1 (Nat.le_refl _))
    refine ⟨hE0.symm.trans hE, Nat.le_refl _, k14, rfl, rfl, ⟨_, _, rfl, (w1.cons k3).cons r4.1⟩, rfl, rfl, ?_⟩
    rw [e, Nat.pow_zero]
    exact ⟨d4, S3, rfl, k13, r4⟩
end Go.Proofs.YtlnlcddbllcehaaDoor
