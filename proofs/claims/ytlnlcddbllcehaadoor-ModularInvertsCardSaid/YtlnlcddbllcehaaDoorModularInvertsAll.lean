/- The proof of the statement ModularInverts. Conditions: none. -/
import Derived.Test.YtlnlcddbllcehaaDoorLibG
import Derived.Test.YtlnlcddbllcehaaDoorRows
import Derived.Test.YtlnlcddbllcehaaDoorTie
import Derived.Test.YtlnlcddbllcehaaDoorCards
import Derived.SevenTiedAt
import Derived.WalkKit
import Derived.ProofKit
import Derived.OpenShut
import Derived.ShutString
import Derived.ChangeOld
import Derived.Below

/- What the laws of layer 4 share. Conditions: none. -/
set_option linter.unusedSimpArgs false
set_option linter.unusedVariables false
set_option maxRecDepth 100000
set_option maxHeartbeats 4000000
set_option exponentiation.threshold 30000
namespace Go.Proofs.YtlnlcddbllcehaaDoor
open Go Ie
variable {Ext : FuncId → List Value → Mem → Outc → Mem → Prop}
theorem sameX_C (a1 a2 : Option Addr) (c1 c2 : Nat) (l m : WL) (S : Mem) (h1 : WIn S a1 c1 l) (h2 : WIn S a2 c2 m) (e : l = m) :
    C Tryd.prog gN Ext 23 [.slice a1 l.length c1, .slice a2 m.length c2] S fun v S' => v = .bool true ∧ S' = S := by
  subst e
  refine (sameW_C _ _ l l l.length l.length S h1.1 h2.1 h1.2.2.2 h2.2.2.2).mono fun v S' h => ?_
  rw [beq_self_eq_true (l : WL)] at h
  exact h
/-- lists that may be read -/
def Ws (S : Mem) (L : List WS) : Prop := ∀ w ∈ L, WIn S w.a w.c w.l
theorem Ws.nil (S : Mem) : Ws S [] := fun w hw => by simp at hw
theorem Ws.cons {S S' : Mem} {L : List WS} (h : Ws S L) (k : Cons S S') : Ws S' L := fun w hw => (h w hw).cons k
theorem Ws.add {S : Mem} {L : List WS} {a : Option Addr} {c : Nat} {l : WL} (h : Ws S L) (w : WIn S a c l) : Ws S (L ++ [⟨a, c, l⟩]) := fun x hx => by
  rcases List.mem_append.1 hx with hx | hx
  · exact h x hx
  · obtain rfl : x = ⟨a, c, l⟩ := by simpa using hx
    exact w
theorem Ws.at {S : Mem} {L : List WS} {a : Option Addr} {c : Nat} {l : WL} (h : Ws S L) (i : Nat) (e : L[i]? = some ⟨a, c, l⟩) : WIn S a c l := h _ (List.mem_of_getElem? e)
theorem AnsR.gotN {S S' : Mem} {v : Value} {E : Int} {N X : Nat} (h : AnsR S S' v E N) (hE : E = 0) (hN : N = X) : ∃ d : Hd, v = .tuple #[.slice d.ad (toW X).length d.c, .int .i64 0] ∧ RetW S S' d (toW X) := by
  subst hN
  exact h.got hE
theorem cmp_lt {a b : Nat} (h : a < b) : cmpI (a : Int) (b : Int) = -1 := by unfold cmpI; rw [if_pos (by omega)]
theorem take_lt {l : WL} {k : Nat} : wnum (l.take k) < 2 ^ (64 * k) := num_len (by rw [List.length_take]; omega)
theorem wrE_zero1 {l m : WL} (h2 : wnum l < 2 ^ 8192) (h1 : wnum m < 2 ^ 4096) (h0 : wnum m ≠ 0) : wrE [l] m = 0 := wrE_zero (fun x hx => by
  obtain rfl : x = l := by simpa using hx
  exact h2) h1 h0
end Go.Proofs.YtlnlcddbllcehaaDoor

/- Inverses modulo a number: Euclid's steps lead to the common divisor. Conditions: none. -/
set_option linter.unusedSimpArgs false
set_option linter.unusedVariables false
set_option maxRecDepth 100000
namespace Go.Proofs.YtlnlcddbllcehaaDoor
open Go
theorem inv_gcd (M : Nat) : ∀ q r s t : Nat, (invN M r q s t).1 = Nat.gcd r q := by
  intro q
  induction q using Nat.strongRecOn with
  | _ q ih =>
    intro r s t
    by_cases h : q = 0
    · subst h
      rw [invN_zero, Nat.gcd_zero_right]
    · rw [invN_step h, ih (r % q) (Nat.mod_lt _ (Nat.pos_of_ne_zero h)), Nat.gcd_comm r q, Nat.gcd_comm q, Nat.gcd_rec q r]
theorem invP_gcd (A M : Nat) : (invP A M).1 = Nat.gcd A M := by
  unfold invP
  rw [inv_gcd, Nat.gcd_comm, Nat.gcd_comm A M, Nat.gcd_rec M A]
theorem md (n M : Nat) : ∃ c : Int, ((n % M : Nat) : Int) = n - M * c := by
  refine ⟨((n / M : Nat) : Int), ?_⟩
  have h := Nat.div_add_mod n M
  have h2 : (M : Int) * ((n / M : Nat) : Int) + ((n % M : Nat) : Int) = n := by exact_mod_cast h
  omega
theorem invD_is (M k s t : Nat) (hM : 0 < M) : ∃ c : Int, ((invD M k s t : Nat) : Int) = s - k * t + M * c := by
  unfold invD
  obtain ⟨c1, h1⟩ := md s M
  obtain ⟨c2, h2⟩ := md (k * t) M
  obtain ⟨c3, h3⟩ := md (s % M + M - k * t % M) M
  have hlt : k * t % M < M := Nat.mod_lt _ hM
  have h4 : ((s % M + M - k * t % M : Nat) : Int) = ((s % M : Nat) : Int) + M - ((k * t % M : Nat) : Int) := by omega
  rw [h3, h4, h1, h2]
  push_cast
  exact ⟨1 - c1 + c2 - c3, by grind⟩
theorem inv_mul (A M : Nat) (hM : 0 < M) : ∀ q r s t : Nat, (∃ c : Int, (r : Int) = A * s + M * c) → (∃ c : Int, (q : Int) = A * t + M * c) → ∃ c : Int, (((invN M r q s t).1 : Nat) : Int) = A * ((invN M r q s t).2 : Nat) + M * c := by
  intro q
  induction q using Nat.strongRecOn with
  | _ q ih =>
    intro r s t hr hq
    by_cases h : q = 0
    · subst h
      rw [invN_zero]
      exact hr
    · rw [invN_step h]
      refine ih (r % q) (Nat.mod_lt _ (Nat.pos_of_ne_zero h)) q t _ hq ?_
      obtain ⟨c1, h1⟩ := hr
      obtain ⟨c2, h2⟩ := hq
      obtain ⟨c3, h3⟩ := invD_is M (r / q) s t hM
      have h4 := Nat.div_add_mod r q
      have h5 : (q : Int) * ((r / q : Nat) : Int) + ((r % q : Nat) : Int) = r := by exact_mod_cast h4
      generalize ((r / q : Nat) : Int) = k at *
      generalize ((r % q : Nat) : Int) = z at *
      rw [h3]
      exact ⟨c1 - k * c2 - A * c3, by grind⟩
theorem inv_one (A M : Nat) (hM : 0 < M) (h : (invP A M).1 = 1) : A * ((invP A M).2 % M) % M = 1 % M := by
  have h1 := inv_mul A M hM (A % M) M 0 1 ⟨1, by simp⟩ (by
    obtain ⟨c, hc⟩ := md A M
    exact ⟨-c, by rw [hc]; grind⟩)
  have h2 : invN M M (A % M) 0 1 = invP A M := rfl
  rw [h2, h] at h1
  obtain ⟨c, hc⟩ := h1
  rw [Nat.mul_mod_mod]
  generalize (invP A M).2 = s at *
  have h3 : ((A * s : Nat) : Int) % M = ((1 : Nat) : Int) % M := by
    rw [Int.emod_eq_emod_iff_emod_sub_eq_zero]
    refine Int.emod_eq_zero_of_dvd ⟨-c, ?_⟩
    push_cast
    push_cast at hc
    grind
  exact_mod_cast h3
end Go.Proofs.YtlnlcddbllcehaaDoor

/- The law of inverses, walked. Conditions: the tables lie in memory. -/
set_option linter.unusedSimpArgs false
set_option linter.unusedVariables false
set_option maxRecDepth 100000
set_option maxHeartbeats 4000000
set_option exponentiation.threshold 30000
namespace Go.Proofs.YtlnlcddbllcehaaDoor
open Go Ie
variable {Ext : FuncId → List Value → Mem → Outc → Mem → Prop}
theorem modInverts_C (a0 a1 : Option Addr) (c0 c1 : Nat) (l0 l1 : WL) (S : Mem) (h0 : Slv S 1 (.slice a0 l0.length c0) l0.length (wv l0)) (h1 : Slv S 1 (.slice a1 l1.length c1) l1.length (wv l1))
    (n0 : l0.length < UNK) (n1 : l1.length < UNK) (hS : SinOk S) (hG : gN ≤ S.length) :
    C Tryd.prog gN Ext 8 [.slice a0 l0.length c0, .slice a1 l1.length c1] S fun v S' => v = .bool true ∧ Cons S S' := by
  refine C.fn Tryd.func8 rfl (by kernel_rfl) rfl ?_
  have hW := Ws.nil S
  have hc := Cons.refl S
  repeat first|refine W.g ?_|refine L.p rfl rfl ?_|refine L.nil ?_|refine L.skip rfl ?_
  refine L.cl (some_C a0 c0 20 l0 _ (h0.cons hc) n0 (by decide)) rfl rfl ?_
  rintro _ T' ⟨k', x0, y0, rfl, w'⟩
  refine ⟨fun _ => k', ?_⟩
  replace hW := (hW.cons k').add w'
  replace hc := hc.trans k'
  clear k' w'
  repeat first|refine W.g ?_|refine L.p rfl rfl ?_|refine L.nil ?_|refine L.skip rfl ?_
  refine L.cl (some_C a1 c1 20 l1 _ (h1.cons hc) n1 (by decide)) rfl rfl ?_
  rintro _ T' ⟨k', x1, y1, rfl, w'⟩
  refine ⟨fun _ => k', ?_⟩
  replace hW := (hW.cons k').add w'
  replace hc := hc.trans k'
  clear k' w'
  repeat first|refine W.g ?_|refine L.p rfl rfl ?_|refine L.nil ?_|refine L.skip rfl ?_
  have b0 : wnum (l0.take 20) < 2 ^ 1280 := take_lt
  have b1 : wnum (l1.take 20) < 2 ^ 1280 := take_lt
  generalize l0.take 20 = la at *
  generalize l1.take 20 = lm at *
  replace b0 := up_pow b0 (show 1280 ≤ 8192 by decide)
  replace b1 := up_pow b1 (show 1280 ≤ 4096 by decide)
  have b1' := wr_le b1
  refine L.cl (bits_C _ _ lm _ (hW.at 1 rfl)) rfl rfl ?_
  rintro _ M ⟨rfl, hM⟩
  have hM := hM.symm
  subst hM
  refine ⟨fun _ => Cons.refl _, ?_⟩
  repeat first|refine W.g ?_|refine L.p rfl rfl ?_|refine L.nil ?_|refine L.skip rfl ?_
  by_cases hM0 : wnum lm = 0
  · rw [show ((blen (wnum lm) : Nat) : Int) = 0 by rw [hM0]; rfl]
    repeat first|refine W.g ?_|refine L.p rfl rfl ?_|refine L.nil ?_|refine L.skip rfl ?_
    refine W.ite rfl (fun h => ?_) (fun h => ?_)
    · clear h
      repeat first|refine W.g ?_|refine L.p rfl rfl ?_|refine L.nil ?_|refine L.skip rfl ?_
      refine L.cl (works_C _ (hS.cons hc) (Nat.le_trans hG hc.len)) rfl rfl ?_
      rintro _ M4 ⟨rfl, k4⟩
      refine ⟨fun _ => k4, ?_⟩
      repeat first|refine W.g ?_|refine L.p rfl rfl ?_|refine L.nil ?_|refine L.skip rfl ?_
      exact ⟨.inr rfl, _, rfl, rfl, hc.trans k4⟩
    · cases h
  rw [show (((blen (wnum lm) : Nat) : Int) == 0) = false from beq_eq_false_iff_ne.2 (by have := @blen0 (wnum lm); omega)]
  repeat first|refine W.g ?_|refine L.p rfl rfl ?_|refine L.nil ?_|refine L.skip rfl ?_
  refine W.ite rfl (fun h => ?_) (fun h => ?_)
  · cases h
  clear h
  have hmp : 0 < wnum lm := Nat.pos_of_ne_zero hM0
  have hlt : ∀ {N : Nat}, N % wnum lm < wnum lm := Nat.mod_lt _ hmp
  have hE : invE la lm = if Nat.gcd (wnum la) (wnum lm) = 1 then 0 else 40 := by
    unfold invE
    rw [if_pos (wrE_zero1 b0 b1 hM0), invP_gcd]
  repeat first|refine W.g ?_|refine L.p rfl rfl ?_|refine L.nil ?_|refine L.skip rfl ?_
  refine L.cl (modInv_C _ _ _ _ la lm _ (hW.at 0 rfl) (hW.at 1 rfl) (hS.cons hc) (Nat.le_trans hG hc.len)) rfl rfl ?_
  rintro _ T2 hr
  refine ⟨fun _ => let ⟨d, _, h⟩ := hr; h.1, ?_⟩
  by_cases hg : Nat.gcd (wnum la) (wnum lm) = 1
  · rw [if_pos hg] at hE
    obtain ⟨d2, rfl, hr'⟩ := hr.got hE
    clear hr
    have hone := inv_one (wnum la) (wnum lm) hmp (by rw [invP_gcd]; exact hg)
    generalize (invP (wnum la) (wnum lm)).2 = I at *
    replace hW := (hW.cons hr'.1).add hr'.win
    replace hc := hc.trans hr'.1
    clear hr'
    repeat first|refine W.g ?_|refine L.p rfl rfl ?_|refine L.nil ?_|refine L.skip rfl ?_
    refine L.cl (natGcd_C _ _ _ _ la lm _ (hW.at 0 rfl) (hW.at 1 rfl)) rfl rfl ?_
    rintro _ T' ⟨d3, rfl, hr⟩
    refine ⟨fun _ => hr.1, ?_⟩
    rw [(gcd_num (l1 := la) (l2 := lm) b0 b1').2]
    rw [(gcd_num (l1 := la) (l2 := lm) b0 b1').1] at hr
    rw [hr.val]
    replace hW := (hW.cons hr.1).add hr.win
    replace hc := hc.trans hr.1
    clear hr
    repeat first|refine W.g ?_|refine L.p rfl rfl ?_|refine L.nil ?_|refine L.skip rfl ?_
    refine L.cl (bits_C _ _ _ _ (hW.at 3 rfl)) rfl rfl ?_
    rintro _ M ⟨rfl, hM⟩
    have hM := hM.symm
    subst hM
    refine ⟨fun _ => Cons.refl _, ?_⟩
    repeat first|refine W.g ?_|refine L.p rfl rfl ?_|refine L.nil ?_|refine L.skip rfl ?_
    rw [wnum_toW, hg, show blen 1 = 1 from blen_one.2 rfl]
    repeat first|refine W.g ?_|refine L.p rfl rfl ?_|refine L.nil ?_|refine L.skip rfl ?_
    refine W.ite rfl (fun h => ?_) (fun h => ?_)
    · cases h
    clear h
    repeat first|refine W.g ?_|refine L.p rfl rfl ?_|refine L.nil ?_|refine L.skip rfl ?_
    refine W.ite rfl (fun h => ?_) (fun h => ?_)
    · cases h
    clear h
    repeat first|refine W.g ?_|refine L.p rfl rfl ?_|refine L.nil ?_|refine L.skip rfl ?_
    refine L.cl (modMul_C _ _ _ _ _ _ la _ lm _ (hW.at 0 rfl) (hW.at 2 rfl) (hW.at 1 rfl) (hS.cons hc) (Nat.le_trans hG hc.len)) rfl rfl ?_
    rintro _ T' hr
    refine ⟨fun _ => let ⟨d, _, h⟩ := hr; h.1, ?_⟩
    obtain ⟨d4, rfl, hr'⟩ := hr.gotN (X := 1 % wnum lm) (wrE_zero2 b0 (by rw [wnum_toW]; exact Nat.lt_trans hlt b1') b1 hM0) (by rw [wnum_toW]; exact hone)
    clear hr
    replace hW := (hW.cons hr'.1).add hr'.win
    replace hc := hc.trans hr'.1
    clear hr'
    repeat first|refine W.g ?_|refine L.p rfl rfl ?_|refine L.nil ?_|refine L.skip rfl ?_
    refine L.bsW [1#64] rfl rfl rfl rfl rfl rfl (fun b5 T' k' w' => ?_)
    replace hW := (hW.cons k').add w'
    replace hc := hc.trans k'
    clear k' w'
    repeat first|refine W.g ?_|refine L.p rfl rfl ?_|refine L.nil ?_|refine L.skip rfl ?_
    refine L.cl (of_C _ _ _ _ [1#64] lm _ (hW.at 5 rfl) (hW.at 1 rfl)) rfl rfl ?_
    rintro _ T' hr
    refine ⟨fun _ => let ⟨d, _, h⟩ := hr; h.1, ?_⟩
    obtain ⟨d6, rfl, hr'⟩ := hr.gotN (X := 1 % wnum lm) (wrE_zero1 one8192 b1 hM0) (rfl)
    clear hr
    replace hW := (hW.cons hr'.1).add hr'.win
    replace hc := hc.trans hr'.1
    clear hr'
    repeat first|refine W.g ?_|refine L.p rfl rfl ?_|refine L.nil ?_|refine L.skip rfl ?_
    refine L.cl (natCmp_C _ _ _ _ _ lm _ (hW.at 2 rfl) (hW.at 1 rfl)) rfl rfl ?_
    rintro _ M ⟨rfl, hM⟩
    have hM := hM.symm
    subst hM
    refine ⟨fun _ => Cons.refl _, ?_⟩
    repeat first|refine W.g ?_|refine L.p rfl rfl ?_|refine L.nil ?_|refine L.skip rfl ?_
    rw [wnum_toW, cmp_lt hlt]
    repeat first|refine W.g ?_|refine L.p rfl rfl ?_|refine L.nil ?_|refine L.skip rfl ?_
    refine L.cl (sameX_C _ _ _ _ _ _ _ (hW.at 4 rfl) (hW.at 6 rfl) rfl) rfl rfl ?_
    rintro _ M ⟨rfl, hM⟩
    have hM := hM.symm
    subst hM
    refine ⟨fun _ => Cons.refl _, ?_⟩
    repeat first|refine W.g ?_|refine L.p rfl rfl ?_|refine L.nil ?_|refine L.skip rfl ?_
    refine L.cl (works_C _ (hS.cons hc) (Nat.le_trans hG hc.len)) rfl rfl ?_
    rintro _ M4 ⟨rfl, k4⟩
    refine ⟨fun _ => k4, ?_⟩
    repeat first|refine W.g ?_|refine L.p rfl rfl ?_|refine L.nil ?_|refine L.skip rfl ?_
    exact ⟨.inr rfl, _, rfl, rfl, hc.trans k4⟩
  · rw [if_neg hg] at hE
    obtain ⟨d2, rfl, hr'⟩ := hr
    rw [hE] at hr' ⊢
    have e0 : ansL 40 ((invP (wnum la) (wnum lm)).2 % wnum lm) = [] := if_neg (by decide)
    rw [e0] at hr'
    rw [hr'.val]
    replace hW := (hW.cons hr'.1).add hr'.win
    replace hc := hc.trans hr'.1
    clear hr'
    repeat first|refine W.g ?_|refine L.p rfl rfl ?_|refine L.nil ?_|refine L.skip rfl ?_
    refine L.cl (natGcd_C _ _ _ _ la lm _ (hW.at 0 rfl) (hW.at 1 rfl)) rfl rfl ?_
    rintro _ T' ⟨d3, rfl, hr⟩
    refine ⟨fun _ => hr.1, ?_⟩
    rw [(gcd_num (l1 := la) (l2 := lm) b0 b1').2]
    rw [(gcd_num (l1 := la) (l2 := lm) b0 b1').1] at hr
    rw [hr.val]
    replace hW := (hW.cons hr.1).add hr.win
    replace hc := hc.trans hr.1
    clear hr
    repeat first|refine W.g ?_|refine L.p rfl rfl ?_|refine L.nil ?_|refine L.skip rfl ?_
    refine L.cl (bits_C _ _ _ _ (hW.at 3 rfl)) rfl rfl ?_
    rintro _ M ⟨rfl, hM⟩
    have hM := hM.symm
    subst hM
    refine ⟨fun _ => Cons.refl _, ?_⟩
    repeat first|refine W.g ?_|refine L.p rfl rfl ?_|refine L.nil ?_|refine L.skip rfl ?_
    rw [wnum_toW]
    have hb : blen (Nat.gcd (wnum la) (wnum lm)) ≠ 1 := fun h => hg (blen_one.1 h)
    repeat first|refine W.g ?_|refine L.p rfl rfl ?_|refine L.nil ?_|refine L.skip rfl ?_
    rw [show (((blen (Nat.gcd (wnum la) (wnum lm)) : Nat) : Int) == 1) = false from beq_eq_false_iff_ne.2 (by omega)]
    repeat first|refine W.g ?_|refine L.p rfl rfl ?_|refine L.nil ?_|refine L.skip rfl ?_
    refine W.ite rfl (fun h => ?_) (fun h => ?_)
    · cases h
    clear h
    repeat first|refine W.g ?_|refine L.p rfl rfl ?_|refine L.nil ?_|refine L.skip rfl ?_
    refine W.ite rfl (fun h => ?_) (fun h => ?_)
    · clear h
      repeat first|refine W.g ?_|refine L.p rfl rfl ?_|refine L.nil ?_|refine L.skip rfl ?_
      refine L.cl (works_C _ (hS.cons hc) (Nat.le_trans hG hc.len)) rfl rfl ?_
      rintro _ M4 ⟨rfl, k4⟩
      refine ⟨fun _ => k4, ?_⟩
      repeat first|refine W.g ?_|refine L.p rfl rfl ?_|refine L.nil ?_|refine L.skip rfl ?_
      exact ⟨.inr rfl, _, rfl, rfl, hc.trans k4⟩
    · cases h
end Go.Proofs.YtlnlcddbllcehaaDoor

/- The proof of the statement ModularInverts. Conditions: none. -/
namespace Go.Proofs.YtlnlcddbllcehaaDoor.modularInverts
open Go.ChangeShapes Go.WideShapes Go.ChangeAt Go.RowKit
open Go.ChangeMaps (open_string shut_string)
set_option linter.unusedVariables false

theorem own : ownKnob Tryd.prog.godebug = none := by kernel_rfl
theorem laidOut : laidOutB Tryd.prog = true := by kernel_rfl

theorem walk (a0 : Option Addr) (len0 cap0 : Nat) (z0 : List Int) (a1 : Option Addr) (len1 cap1 : Nat) (z1 : List Int) (w : World) (hG : gN ≤ w.heap.size) (hR : ∀ N, SinOk (mem0 w N)) (w0 : IsRow .u64 w a0 len0 cap0 z0) (hb0 : ∀ x, a0 = some x → x.block < w.heap.size) (w1 : IsRow .u64 w a1 len1 cap1 z1) (hb1 : ∀ x, a1 = some x → x.block < w.heap.size) :
    Calls Tryd.prog 8 #[.slice a0 len0 cap0, .slice a1 len1 cap1] w fun e w' => e = .returned (.bool true) ∧ Below w.heap.size w w' := by
  obtain ⟨hs0, hv0, hl0, hc0, hwf0⟩ := world_ints (N := 0) w0 (by simpa using hb0)
  have hcc0 := row_cap w0
  have hf0 : ∀ x, a0 = some x → x.block < (mem0 w).length := fun x hx => by rw [mem0_len]; have := hb0 x hx; omega
  obtain ⟨l0, hll0, hbl0⟩ := words_of z0 len0 hwf0 hl0
  rw [← hbl0] at hs0
  subst hll0
  obtain ⟨hs1, hv1, hl1, hc1, hwf1⟩ := world_ints (N := 0) w1 (by simpa using hb1)
  have hcc1 := row_cap w1
  have hf1 : ∀ x, a1 = some x → x.block < (mem0 w).length := fun x hx => by rw [mem0_len]; have := hb1 x hx; omega
  obtain ⟨l1, hll1, hbl1⟩ := words_of z1 len1 hwf1 hl1
  rw [← hbl1] at hs1
  subst hll1
  obtain ⟨v, S', hE, rfl, hcons⟩ := (modInverts_C (Ext := NoX) a0 a1 cap0 cap1 l0 l1 (mem0 w) hs0 hs1 (Nat.lt_of_le_of_lt hcc0.2 hcc0.1) (Nat.lt_of_le_of_lt hcc1.2 hcc1.1) (hR 0) (by rw [mem0_len]; omega))
  refine top_true (Checked.mixed Tryd.checked) (fun _ _ _ _ _ h => h.elim) hG (fun a ha => ?_) hE hcons
  simp only [List.mem_cons, List.not_mem_nil, or_false] at ha
  rcases ha with rfl | rfl
  · exact hv0
  · exact hv1

set_option maxRecDepth 100000 in
theorem lifted (os : Os) (started : os.Started) (H : Type) (enc : TypeId × Value → H) :
    ReturnsInHanded {} Tryd.checked os 8 .any (fun w args => (Rows.modularInvertsSpec.pre enc Tryd.prog Tryd.f8 [] false w args ∧ laidMetH Tryd.prog laidL w) ∧ sizedMet enc Tryd.prog Tryd.f8 (OpenSpec.ofChange Rows.modularInvertsSpec) false w args)
      (Rows.modularInvertsSpec.post enc Tryd.prog Tryd.f8 false true false false) := by
  refine returnsInHanded_of_change_and (C := Tryd.checked) (X := fun w _ => laidMetH Tryd.prog laidL w) (fun _ _ _ hh h => h.of_heap hh) own started (by kernel_rfl) Tryd.func8
    (ChangeSpec.witness_shaped (enc := enc) (C := Tryd.checked) (os := os) (X := fun w _ => laidMetH Tryd.prog laidL w) false (World.doorLaid Tryd.prog 400 os) #[.slice none 0 0, .slice none 0 0] 8 rfl (World.shaped_of_RefB (by kernel_rfl) (by kernel_rfl)) (by kernel_rfl) (by kernel_rfl) (by kernel_rfl) (door_met os _)) ?_
  intro W base args ds gs before hval0 hW _ _ hL _
  obtain ⟨hG, hR⟩ := of_laid hL
  have hval : ∀ (j : Nat) t v, Tryd.f8.params[j]? = some t → args[j]? = some v → Value.okWide Tryd.prog W .any base t v := hval0
  have hW' := hW
  obtain ⟨p, q, hA0, hV, rfl, hfz, hnd⟩ := hW
  have hA : DataW.TrodAll enc Tryd.prog W 0 (fun _ => true) true Tryd.f8.params.toList args.toList ds p := hA0
  rw [Tryd.params8] at hA hval
  obtain ⟨v0, vs0, d0, ds0, p0, q0, hargs, rfl, rfl, h0, r0⟩ := trodAll_cons hA
  obtain ⟨v1, vs1, d1, ds1, p1, q1, rfl, rfl, rfl, h1, r1⟩ := trodAll_cons r0
  obtain ⟨rfl, rfl, rfl⟩ := trodAll_nil r1
  obtain rfl : args = #[v0, v1] := by cases args; simp_all
  obtain ⟨rfl, rfl⟩ := trodVars_none hV
  obtain ⟨a0, len0, cap0, rfl⟩ := okWide_slice Tryd.underlying22 (hval 0 22 v0 rfl rfl)
  have hb0 : ∀ x, a0 = some x → x.block < W.heap.size := by rintro x rfl; exact okWide_block Tryd.underlying22 (hval 0 22 _ rfl rfl)
  have k0 := h0
  have lt0 : ∀ x ∈ p0, x.block < W.heap.size := by obtain ⟨m, hm⟩ := k0; exact DataW.trod_lt m _ _ _ hm
  obtain ⟨z0, w0⟩ : ∃ zs, IsRow .u64 W a0 len0 cap0 zs := by
    obtain ⟨fuel, hf⟩ := h0
    rcases open_ints Tryd.underlying22 Tryd.underlying39 (by kernel_rfl) hf with ⟨hcs, _⟩ | ⟨x, l, c, zs, hcs, _, hl, hm, hz, _, hcell, hwz⟩
    · simp [Value.cells] at hcs
      obtain ⟨rfl, rfl, rfl⟩ := hcs
      exact ⟨[], .inl ⟨rfl, rfl, rfl, rfl⟩⟩
    · simp [Value.cells] at hcs
      obtain ⟨rfl, rfl, rfl⟩ := hcs
      exact ⟨zs, .inr ⟨_, rfl, hl, hm, by simpa using hz, hcell, hwz⟩⟩
  obtain ⟨a1, len1, cap1, rfl⟩ := okWide_slice Tryd.underlying22 (hval 1 22 v1 rfl rfl)
  have hb1 : ∀ x, a1 = some x → x.block < W.heap.size := by rintro x rfl; exact okWide_block Tryd.underlying22 (hval 1 22 _ rfl rfl)
  have k1 := h1
  have lt1 : ∀ x ∈ p1, x.block < W.heap.size := by obtain ⟨m, hm⟩ := k1; exact DataW.trod_lt m _ _ _ hm
  obtain ⟨z1, w1⟩ : ∃ zs, IsRow .u64 W a1 len1 cap1 zs := by
    obtain ⟨fuel, hf⟩ := h1
    rcases open_ints Tryd.underlying22 Tryd.underlying39 (by kernel_rfl) hf with ⟨hcs, _⟩ | ⟨x, l, c, zs, hcs, _, hl, hm, hz, _, hcell, hwz⟩
    · simp [Value.cells] at hcs
      obtain ⟨rfl, rfl, rfl⟩ := hcs
      exact ⟨[], .inl ⟨rfl, rfl, rfl, rfl⟩⟩
    · simp [Value.cells] at hcs
      obtain ⟨rfl, rfl, rfl⟩ := hcs
      exact ⟨zs, .inr ⟨_, rfl, hl, hm, by simpa using hz, hcell, hwz⟩⟩
  clear hA0 hval0
  refine (walk a0 len0 cap0 z0 a1 len1 cap1 z1 W hG hR w0 hb0 w1 hb1).mono fun e W' ⟨he, bel⟩ => ?_
  subst he
  exact ⟨_, rfl, _, _, _, [], _, [], hW', trodAll_mk1 (shut_bool Tryd.underlying4 _), (trodAll_cons_mk (Below.trod laidOut (by kernel_rfl) (of_decide_eq_true (by kernel_rfl)) k0 bel lt0) (trodAll_cons_mk (Below.trod laidOut (by kernel_rfl) (of_decide_eq_true (by kernel_rfl)) k1 bel lt1) trodAll_mk0)), rfl, bel.frame _, fun h => by cases h⟩

theorem over : Rows.modularInvertsRow.holds Tryd.pinned (OpenSpec.ofChange Rows.modularInvertsSpec) :=
  OpenClaim.holds_of_wide 8 Tryd.f8 rfl rfl rfl rfl rfl rfl rfl ⟨rfl, rfl, rfl, rfl, rfl⟩ rfl rfl rfl rfl rfl (by kernel_rfl) Tryd.func8 (by kernel_rfl)
    (of_decide_eq_true (by kernel_rfl)) (by unfold Func.isWrapper; first | (rw [if_pos (by decide +kernel)]; kernel_rfl) | (rw [if_neg (by decide +kernel)]; exact ⟨rfl, rfl⟩))
    (fun os started H enc _ => lifted os started H enc)

/-- the card: the row, its variable tied to the program's text -/
theorem proved : Rows.ModularInvertsCardSaid :=
  Claim7.holds_tied_plain_at .later [] [.data, .data, .data] true (true, "7eeef222ccc28ed4efe3101caf646cc54bce785ba59262e261ca0340073ef9df") false
    over (fun _ h => by cases h) (by kernel_rfl) (fun _ h => by cases h) modularInverts_row_tie rfl ⟨rfl, rfl⟩ (by kernel_rfl) rfl
    (fun f fn hf hfn => by
      obtain rfl : f = 8 := Option.some.inj ((show Tryd.prog.funcNamed "vouch/vouchlaw04.ModularInverts" = some 8 by kernel_rfl).symm.trans hf) |>.symm
      obtain rfl : fn = Tryd.f8 := (Option.some.inj (Tryd.func8.symm.trans hfn)).symm
      exact ⟨by kernel_rfl, fun j t ht => by
        rw [Tryd.params8] at ht
        match j, ht with
        | 0, ht =>
          obtain rfl : t = 22 := by simpa using ht.symm
          exact (show Tryd.prog.wantsStandIn 22 = false by kernel_rfl)
        | 1, ht =>
          obtain rfl : t = 22 := by simpa using ht.symm
          exact (show Tryd.prog.wantsStandIn 22 = false by kernel_rfl)
        | j + 2, ht => simp at ht⟩)
    (by kernel_rfl)
end Go.Proofs.YtlnlcddbllcehaaDoor.modularInverts
