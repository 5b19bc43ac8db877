/- The proof of the statement WholeBack. Conditions: none. -/
import Derived.Test.YtbiigbicgfchiaaGreatDoorLidA
import Derived.Test.YtbiigbicgfchiaaGreatDoorLidB
import Derived.Test.YtbiigbicgfchiaaGreatDoorLidC
import Derived.Test.YtbiigbicgfchiaaGreatDoorLidD
import Derived.Test.YtbiigbicgfchiaaGreatDoorLidE
import Derived.Test.YtbiigbicgfchiaaGreatDoorLidF
import Derived.Test.YtbiigbicgfchiaaGreatDoorLidG
import Derived.Test.YtbiigbicgfchiaaGreatDoorRows
import Derived.Test.YtbiigbicgfchiaaGreatDoorTie
import Derived.Test.YtbiigbicgfchiaaGreatDoorCards
import Derived.SevenTiedAt
import Derived.WalkKit
import Derived.ProofKit
import Derived.OpenShut
import Derived.ShutString
import Derived.ChangeOld
import Derived.Below

/- The law that a number is read again out of its text, walked. Conditions: the tables lie in memory. -/
set_option linter.unusedSimpArgs false
set_option linter.unusedVariables false
set_option maxRecDepth 100000
set_option maxHeartbeats 4000000
set_option exponentiation.threshold 20000
namespace Go.Proofs.YtbiigbicgfchiaaGreatDoor
open Go Ie
variable {Ext : FuncId → List Value → Mem → Outc → Mem → Prop}
theorem digB_dig (n : Nat) : isDig (digB n) := by unfold isDig; rw [digB_val]; omega
theorem dec_digs (n : Nat) : (∀ x ∈ dec n, isDig x) ∧ decN 0 (dec n) = n := by
 induction n using Nat.strongRecOn with
 | _ n ih =>
  by_cases h : n < 10
  ·rw [dec_small h]
   refine ⟨fun x hx => ?_, ?_⟩
   ·rw [List.mem_singleton] at hx; rw [hx]; exact digB_dig n
   ·show 0 * 10 + ((digB n).toNat - 48) = n
    rw [digB_val]; omega
  ·rw [dec_big (by omega)]
   obtain ⟨h1, h2⟩ := ih (n / 10) (by omega)
   refine ⟨fun x hx => ?_, ?_⟩
   ·rcases List.mem_append.1 hx with hx | hx
    ·exact h1 x hx
    ·rw [List.mem_singleton] at hx; rw [hx]; exact digB_dig n
   ·rw [decN_snoc, h2, digB_val]; omega
def zeros (k : Nat) : BL := List.replicate k 48#8
theorem zeros_dig (k : Nat) : ∀ x ∈ zeros k, isDig x := fun x hx => by rw [List.eq_of_mem_replicate hx]; unfold isDig; decide
theorem decN_zeros (k : Nat) (l : BL) : decN 0 (zeros k ++ l) = decN 0 l := by
 induction k with
 | zero => rfl
 | succ k ih => exact ih
theorem prs_dec {k N : Nat} (hN : N < 2 ^ 8192) (hk : k ≤ 10) : prsE (zeros k ++ dec N) = 0 ∧ prsL (zeros k ++ dec N) = toW N := by
 have hl := dec_bound hN
 have hp := dec_len_pos N
 have hd := dec_digs N
 have h0 : prsE (zeros k ++ dec N) = 0 := by
  unfold prsE
  rw [if_neg (by rw [List.length_append]; unfold zeros; rw [List.length_replicate]; omega), if_neg, if_pos (by rw [decN_zeros, hd.2]; exact hN)]
  rintro (h | h)
  ·have := congrArg List.length h
   rw [List.length_append] at this
   have : (zeros k).length + (dec N).length = 0 := this
   omega
  ·exact h fun x hx => by
    rcases List.mem_append.1 hx with hx | hx
    ·exact zeros_dig k x hx
    ·exact hd.1 x hx
 exact ⟨h0, by unfold prsL; rw [if_pos h0, decN_zeros, hd.2]⟩
def txtK (neg : Bool) (k N : Nat) : BL := (if neg then [45#8] else []) ++ (zeros k ++ dec N)
theorem head_dig (k N : Nat) : ∃ c, (zeros k ++ dec N).head? = some c ∧ isDig c := by
 cases h : (zeros k ++ dec N) with
 | nil =>
  have := congrArg List.length h
  have hp := dec_len_pos N
  rw [List.length_append] at this
  have : (zeros k).length + (dec N).length = 0 := this
  omega
 | cons c l =>
  refine ⟨c, rfl, ?_⟩
  have hm : c ∈ zeros k ++ dec N := by rw [h]; exact List.mem_cons_self
  rcases List.mem_append.1 hm with hx | hx
  ·exact zeros_dig k c hx
  ·exact (dec_digs N).1 c hx
theorem txtK_neg (neg : Bool) (k N : Nat) : zNeg (txtK neg k N) = neg ∧ zRest (txtK neg k N) = zeros k ++ dec N := by
 cases neg
 ·have h1 : zNeg (txtK false k N) = false := by
   obtain ⟨c, hc, hd⟩ := head_dig k N
   unfold zNeg txtK
   simp only [Bool.false_eq_true, if_false, List.nil_append]
   rw [hc]
   unfold isDig at hd
   rw [beq_eq_false_iff_ne]
   intro e
   cases e
   revert hd
   decide
  exact ⟨h1, by unfold zRest; rw [h1]; rfl⟩
 ·exact ⟨rfl, rfl⟩
theorem txtK_prs {neg : Bool} {k N : Nat} (hN : N < 2 ^ 4096) (hk : k ≤ 10) : zprsE (txtK neg k N) = 0 ∧ zprsZ (txtK neg k N) = if neg then -(N : Int) else (N : Int) := by
 obtain ⟨h1, h2⟩ := txtK_neg neg k N
 obtain ⟨h3, h4⟩ := prs_dec (k := k) (up4 hN) hk
 have hl := dec_bound (up4 hN)
 have hZ : zprsZ (txtK neg k N) = if neg then -(N : Int) else (N : Int) := by
  unfold zprsZ
  rw [h1, h2, h4, zv_toW]
 refine ⟨?_, hZ⟩
 unfold zprsE
 rw [if_neg, h2, if_pos h3, hZ]
 ·refine zok_E ?_
  unfold zok
  cases neg
  ·simp only [Bool.false_eq_true, if_false]; rw [Int.natAbs_natCast]; exact hN
  ·simp only [if_true]; rw [Int.natAbs_neg, Int.natAbs_natCast]; exact hN
 ·unfold txtK zeros
  rw [List.length_append, List.length_append, List.length_replicate]
  have : (if neg = true then [45#8] else [] : BL).length ≤ 1 := by cases neg <;> decide
  omega
theorem zText_K (x : Int) : zText x = txtK (decide (x < 0)) 0 x.natAbs := by
 unfold zText txtK
 by_cases h : x < 0
 ·rw [if_pos h, decide_eq_true h]; rfl
 ·rw [if_neg h, decide_eq_false h]; rfl
theorem txtK_val (x : Int) : (if decide (x < 0) then -(x.natAbs : Int) else (x.natAbs : Int)) = x := by
 by_cases h : x < 0
 ·rw [decide_eq_true h, if_pos rfl]; omega
 ·rw [decide_eq_false h]; simp only [Bool.false_eq_true, if_false]; omega
theorem txtK_head (neg : Bool) (k N : Nat) : ∃ c, (txtK neg k N)[0]? = some c ∧ (c == 45#8) = neg := by
 cases neg
 ·obtain ⟨c, hc, hd⟩ := head_dig k N
  refine ⟨c, ?_, ?_⟩
  ·show ((zeros k ++ dec N) : BL)[0]? = some c
   rw [← hc, List.head?_eq_getElem?]
  ·unfold isDig at hd
   rw [beq_eq_false_iff_ne]
   intro e
   subst e
   revert hd
   decide
 ·exact ⟨45#8, rfl, rfl⟩
theorem txtK_len {neg : Bool} {k N : Nat} (hN : N < 2 ^ 4096) (hk : k ≤ 10) : 1 ≤ (txtK neg k N).length ∧ (txtK neg k N).length ≤ 3000 := by
 have hl := dec_bound (up4 hN)
 have hp := dec_len_pos N
 unfold txtK zeros
 rw [List.length_append, List.length_append, List.length_replicate]
 have : (if neg = true then [45#8] else [] : BL).length ≤ 1 := by cases neg <;> decide
 omega
theorem minus_minus (k N : Nat) (hN : N < 2 ^ 4096) (hk : k ≤ 10) : zprsE (45#8 :: txtK true k N) = 12 := by
 have hl := (txtK_len (neg := true) hN hk).2
 have h1 : zRest (45#8 :: txtK true k N) = txtK true k N := rfl
 unfold zprsE
 rw [if_neg (by simp; omega), h1]
 have h2 : prsE (txtK true k N) = 12 := by
  unfold prsE
  rw [if_neg (by omega), if_pos]
  right
  intro h
  have := h 45#8 (by unfold txtK; simp)
  unfold isDig at this
  revert this
  decide
 rw [h2, if_neg (by decide)]
theorem minus_zero : zprsE [45#8, 48#8] = 0 ∧ zprsZ [45#8, 48#8] = 0 := by
 have h := txtK_prs (neg := true) (k := 0) (N := 0) (Nat.two_pow_pos _) (by decide)
 have e : txtK true 0 0 = [45#8, 48#8] := by
  unfold txtK zeros
  rw [dec_small (by decide)]
  rfl
 rw [e] at h
 exact h
theorem yParse_C (s : BL) (S : Mem) (hl : s.length < 1000000000) : C Tryz.prog gN Ext 46 [.string (strB s)] S fun v S' => ZR S S' v (zprsE s) (zprsZ s) := (zParse_C s S hl).mono fun _ _ h => h.zr
theorem wholeBack_C (b0 : Bool) (a0 : Option Addr) (c0 : Nat) (l0 : WL) (S : Mem) (h0 : Slv S 1 (.slice a0 l0.length c0) l0.length (wv l0)) (n0 : l0.length < UNK) (hS : SinOk S) (hP : PowOk S) (hG : gN ≤ S.length) :
  C Tryz.prog gN Ext 9 [wZ b0 (.slice a0 l0.length c0)] S fun v S' => v = .bool true ∧ Cons S S' := by
 refine C.fn Tryz.func9 rfl (by kernel_rfl) rfl ?_
 repeat first|apply wg|refine ss rfl ?_|apply nl
 refine L.nr [.bool b0, .slice a0 l0.length c0] wT rfl rfl (fun b2 Tb2 gb2 kb2 rb2 => ?_)
 have kM := kb2
 replace h0 := h0.cons kM
 replace hS := hS.cons kM
 replace hP := hP.cons kM
 replace hG := Nat.le_trans hG kM.len
 have hZ := Zs.nil Tb2
 have hc := Cons.refl Tb2
 clear kb2 gb2
 repeat first|apply wg|refine ss rfl ?_|apply nl
 refine L.z2 (Cons.row (h := hc) rb2) rfl rfl rfl ?_
 repeat first|apply wg|refine ss rfl ?_|apply nl
 refine L.cl (zSome_C b0 a0 c0 64 l0 _ (h0.cons hc) n0 (by decide)) rfl rfl ?_
 rintro _ T' ⟨⟨a0, c0, rfl, w0⟩, k', hf0⟩
 refine ⟨fun _ => k', ?_⟩
 replace hZ := hZ.cons k'
 replace hc := hc.trans k'
 repeat first|apply wg|refine ss rfl ?_|apply nl
 have fA : zok (zv b0 (l0.take 64)) := by
  unfold zok
  rw [zv_abs]
  exact num_len (k := 64) (by rw [List.length_take]; omega)
 generalize zv b0 (l0.take 64) = A at *
 refine L.nr [.bool false, .slice none 0 0] wT rfl rfl (fun b0 T' g' k' r' => ?_)
 refine L.st2 r' rfl rfl rfl rfl rfl rfl (fun T' kk' r'' => ?_)
 have kx := kk'.mono k' g'
 replace hZ := (hZ.cons kx).add ⟨a0, c0, r'', w0.cons kx⟩
 replace hc := hc.trans kx
 clear kx kk' r'' r' k' g' w0
 repeat first|apply wg|refine ss rfl ?_|apply nl
 refine L.zl (hZ.at 0 rfl) rfl rfl rfl (fun u1 hu1 => ?_)
 repeat first|apply wg|refine ss rfl ?_|apply nl
 refine L.cv (nText_C hu1 fA (hP.cons hc)) rfl rfl fun T' k' => ?_
 replace hZ := hZ.cons k'
 replace hc := hc.trans k'
 repeat first|apply wg|refine ss rfl ?_|apply nl
 obtain ⟨s, hs⟩ : ∃ s, s = zText A := ⟨_, rfl⟩
 obtain ⟨ng, hng⟩ : ∃ ng, ng = decide (A < 0) := ⟨_, rfl⟩
 have hsK : s = txtK ng 0 A.natAbs := by rw [hs, hng, zText_K]
 have hval := txtK_val A
 rw [← hng] at hval
 rw [← hs]
 have hsl := txtK_len (neg := ng) (k := 0) fA (by decide)
 rw [← hsK] at hsl
 have hsp := txtK_prs (neg := ng) (k := 0) fA (by decide)
 rw [← hsK, hval] at hsp
 obtain ⟨ch, hch, hcn⟩ := txtK_head ng 0 A.natAbs
 rw [← hsK] at hch
 have hch8 : ((ch.toNat : Int) == 45) = ng := by rw [← hcn]; exact v8_beq ch 45#8
 have hp1 := yParse_C (Ext := Ext) s T' (by omega)
 rw [hsp.1, hsp.2] at hp1
 refine L.cl (hp1) rfl rfl ?_
 rintro _ T' hr
 refine ⟨fun _ => let ⟨_, _, k, _⟩ := hr; k, ?_⟩
 obtain ⟨_, rfl, k', ⟨a2, c2, rfl, w2⟩, hf2⟩ := hr.ok (rfl)
 clear hr
 replace hZ := hZ.cons k'
 replace hc := hc.trans k'
 repeat first|apply wg|refine ss rfl ?_|apply nl
 refine L.nr [.bool false, .slice none 0 0] wT rfl rfl (fun b2 T' g' k' r' => ?_)
 refine L.st2 r' rfl rfl rfl rfl rfl rfl (fun T' kk' r'' => ?_)
 have kx := kk'.mono k' g'
 replace hZ := (hZ.cons kx).add ⟨a2, c2, r'', w2.cons kx⟩
 replace hc := hc.trans kx
 clear kx kk' r'' r' k' g' w2
 repeat first|apply wg|refine ss rfl ?_|apply nl
 refine L.zl (hZ.at 0 rfl) rfl rfl rfl (fun u3 hu3 => ?_)
 repeat first|apply wg|refine ss rfl ?_|apply nl
 refine L.zl (hZ.at 1 rfl) rfl rfl rfl (fun u4 hu4 => ?_)
 repeat first|apply wg|refine ss rfl ?_|apply nl
 refine L.cv (zSame2_C hu3 hu4) rfl rfl fun T' k' => ?_
 replace hZ := hZ.cons k'
 replace hc := hc.trans k'
 repeat first|apply wg|refine ss rfl ?_|apply nl
 rw [show decide (A = A) = true from decide_eq_true rfl]
 repeat first|apply wg|refine ss rfl ?_|apply nl
 refine L.tlen rfl rfl rfl rfl ?_
 repeat first|apply wg|refine ss rfl ?_|apply nl
 rw [show decide ((s.length : Int) < 1) = false from decide_eq_false (by omega)]
 repeat first|apply wg|refine ss rfl ?_|apply nl
 refine L.sB (l := s) (i := 0) (b := ch) rfl rfl hch rfl rfl ?_
 repeat first|apply wg|refine ss rfl ?_|apply nl
 rw [hch8]
 repeat first|apply wg|refine ss rfl ?_|apply nl
 refine L.zl (hZ.at 0 rfl) rfl rfl rfl (fun u5 hu5 => ?_)
 repeat first|apply wg|refine ss rfl ?_|apply nl
 refine L.cv (nSign_C hu5) rfl rfl fun T' k' => ?_
 replace hZ := hZ.cons k'
 replace hc := hc.trans k'
 repeat first|apply wg|refine ss rfl ?_|apply nl
 have hsg : decide (cmpI A 0 < 0) = ng := by
  rw [hng]
  by_cases h : A < 0
  ·rw [cmp_neg h, decide_eq_true h]; rfl
  ·rw [decide_eq_false h]
   exact decide_eq_false (by rcases cmpI_vals A 0 with h1 | h1 | h1 <;> first | omega | exact absurd (cz1 h1) h)
 rw [hsg]
 refine W.ite (t := false) ((force_eq rfl).trans (congrArg Value.bool (bne_self_eq_false ng))) (fun h => ?_) (fun h => ?_)
 ·cases h
 clear h
 repeat first|apply wg|refine ss rfl ?_|apply nl
 refine L.tadd (a := [48#8, 48#8, 48#8]) (b := s) rfl rfl (by simp; omega) rfl ?_
 repeat first|apply wg|refine ss rfl ?_|apply nl
 refine L.sB (l := s) (i := 0) (b := ch) rfl rfl hch rfl rfl ?_
 repeat first|apply wg|refine ss rfl ?_|apply nl
 rw [hch8]
 have ft := txtK_prs (neg := ng) (k := 3) fA (by decide)
 have fl := txtK_len (neg := ng) (k := 3) fA (by decide)
 rw [hval] at ft
 obtain ⟨tt, htt⟩ : ∃ tt, tt = txtK ng 3 A.natAbs := ⟨_, rfl⟩
 rw [← htt] at ft fl
 have hmm : zprsE ([45#8] ++ tt) = if ng then 12 else 0 := by
  rw [htt]
  cases ng
  ·have := (txtK_prs (neg := true) (k := 3) fA (by decide)).1
   exact this
  ·exact minus_minus 3 _ fA (by decide)
 have hsK2 := hsK
 clear hng hsg hsK
 have hz0 := minus_zero
 cases ng
 ·have e : [48#8, 48#8, 48#8] ++ s = tt := by rw [htt, hsK2]; rfl
  rw [e]
  rw [if_neg Bool.false_ne_true] at hmm
  repeat first|apply wg|refine ss rfl ?_|apply nl
  refine W.condF rfl ?_
  repeat first|apply wg|refine ss rfl ?_|apply nl
  have hp2 := yParse_C (Ext := Ext) tt T' (by omega)
  rw [ft.1, ft.2] at hp2
  refine L.cl (hp2) rfl rfl ?_
  rintro _ T' hr
  refine ⟨fun _ => let ⟨_, _, k, _⟩ := hr; k, ?_⟩
  obtain ⟨_, rfl, k', ⟨a6, c6, rfl, w6⟩, hf6⟩ := hr.ok (rfl)
  clear hr
  replace hZ := hZ.cons k'
  replace hc := hc.trans k'
  repeat first|apply wg|refine ss rfl ?_|apply nl
  refine L.nr [.bool false, .slice none 0 0] wT rfl rfl (fun b6 T' g' k' r' => ?_)
  refine L.st2 r' rfl rfl rfl rfl rfl rfl (fun T' kk' r'' => ?_)
  have kx := kk'.mono k' g'
  replace hZ := (hZ.cons kx).add ⟨a6, c6, r'', w6.cons kx⟩
  replace hc := hc.trans kx
  clear kx kk' r'' r' k' g' w6
  repeat first|apply wg|refine ss rfl ?_|apply nl
  have hp3 := yParse_C (Ext := Ext) [45#8, 48#8] T' (by decide)
  rw [hz0.1, hz0.2] at hp3
  refine L.cl (hp3) rfl rfl ?_
  rintro _ T' hr
  refine ⟨fun _ => let ⟨_, _, k, _⟩ := hr; k, ?_⟩
  obtain ⟨_, rfl, k', ⟨a7, c7, rfl, w7⟩, hf7⟩ := hr.ok (rfl)
  clear hr
  replace hZ := hZ.cons k'
  replace hc := hc.trans k'
  repeat first|apply wg|refine ss rfl ?_|apply nl
  refine L.nr [.bool false, .slice none 0 0] wT rfl rfl (fun b7 T' g' k' r' => ?_)
  refine L.st2 r' rfl rfl rfl rfl rfl rfl (fun T' kk' r'' => ?_)
  have kx := kk'.mono k' g'
  replace hZ := (hZ.cons kx).add ⟨a7, c7, r'', w7.cons kx⟩
  replace hc := hc.trans kx
  clear kx kk' r'' r' k' g' w7
  repeat first|apply wg|refine ss rfl ?_|apply nl
  refine L.tadd (a := [45#8]) (b := tt) rfl rfl (by simp; omega) rfl ?_
  repeat first|apply wg|refine ss rfl ?_|apply nl
  have hp4 := yParse_C (Ext := Ext) ([45#8] ++ tt) T' (by simp; omega)
  rw [hmm] at hp4
  refine L.cl hp4 rfl rfl ?_
  rintro _ T' ⟨_, rfl, k', ⟨a8, c8, rfl, w8⟩, _⟩
  refine ⟨fun _ => k', ?_⟩
  replace hZ := hZ.cons k'
  replace hc := hc.trans k'
  repeat first|apply wg|refine ss rfl ?_|apply nl
  refine L.nr [.bool false, .slice none 0 0] wT rfl rfl (fun b8 T' g' k' r' => ?_)
  refine L.st2 r' rfl rfl rfl rfl rfl rfl (fun T' kk' r'' => ?_)
  have kx := kk'.mono k' g'
  replace hZ := (hZ.cons kx).add ⟨a8, c8, r'', w8.cons kx⟩
  replace hc := hc.trans kx
  clear kx kk' r'' r' k' g' w8
  repeat first|apply wg|refine ss rfl ?_|apply nl
  refine L.zl (hZ.at 0 rfl) rfl rfl rfl (fun u9 hu9 => ?_)
  repeat first|apply wg|refine ss rfl ?_|apply nl
  refine L.zl (hZ.at 2 rfl) rfl rfl rfl (fun u10 hu10 => ?_)
  repeat first|apply wg|refine ss rfl ?_|apply nl
  refine L.cv (zSame2_C hu9 hu10) rfl rfl fun T' k' => ?_
  replace hZ := hZ.cons k'
  replace hc := hc.trans k'
  repeat first|apply wg|refine ss rfl ?_|apply nl
  rw [show decide (A = A) = true from decide_eq_true rfl]
  repeat first|apply wg|refine ss rfl ?_|apply nl
  refine L.zl (hZ.at 3 rfl) rfl rfl rfl (fun u11 hu11 => ?_)
  repeat first|apply wg|refine ss rfl ?_|apply nl
  refine L.b0 rfl ?_
  repeat first|apply wg|refine ss rfl ?_|apply nl
  refine L.cv (zSame2_C hu11 (ZIs.zero _)) rfl rfl fun T' k' => ?_
  replace hZ := hZ.cons k'
  replace hc := hc.trans k'
  repeat first|apply wg|refine ss rfl ?_|apply nl
  refine L.sB (l := s) (i := 0) (b := ch) rfl rfl hch rfl rfl ?_
  repeat first|apply wg|refine ss rfl ?_|apply nl
  rw [hch8]
  repeat first|apply wg|refine ss rfl ?_|apply nl
  refine L.cv (works_C _ (hS.cons hc) (hP.cons hc) (Nat.le_trans hG hc.len)) rfl rfl fun M4 k4 => ?_
  repeat first|apply wg|refine ss rfl ?_|apply nl
  exact ⟨.inr rfl, _, rfl, rfl, (kM.trans hc).trans k4⟩
 ·have e : [45#8, 48#8, 48#8, 48#8] ++ s.drop 1 = tt := by rw [htt, hsK2]; rfl
  rw [if_pos rfl] at hmm
  repeat first|apply wg|refine ss rfl ?_|apply nl
  refine W.condT rfl ?_
  repeat first|apply wg|refine ss rfl ?_|apply nl
  refine L.from (l := s) (i := 1) rfl rfl hsl.1 rfl rfl ?_
  repeat first|apply wg|refine ss rfl ?_|apply nl
  refine L.tadd (a := [45#8, 48#8, 48#8, 48#8]) (b := s.drop 1) rfl rfl (by rw [List.length_drop]; simp; omega) rfl ?_
  rw [e]
  repeat first|apply wg|refine ss rfl ?_|apply nl
  have hp2 := yParse_C (Ext := Ext) tt T' (by omega)
  rw [ft.1, ft.2] at hp2
  refine L.cl (hp2) rfl rfl ?_
  rintro _ T' hr
  refine ⟨fun _ => let ⟨_, _, k, _⟩ := hr; k, ?_⟩
  obtain ⟨_, rfl, k', ⟨a6, c6, rfl, w6⟩, hf6⟩ := hr.ok (rfl)
  clear hr
  replace hZ := hZ.cons k'
  replace hc := hc.trans k'
  repeat first|apply wg|refine ss rfl ?_|apply nl
  refine L.nr [.bool false, .slice none 0 0] wT rfl rfl (fun b6 T' g' k' r' => ?_)
  refine L.st2 r' rfl rfl rfl rfl rfl rfl (fun T' kk' r'' => ?_)
  have kx := kk'.mono k' g'
  replace hZ := (hZ.cons kx).add ⟨a6, c6, r'', w6.cons kx⟩
  replace hc := hc.trans kx
  clear kx kk' r'' r' k' g' w6
  repeat first|apply wg|refine ss rfl ?_|apply nl
  have hp3 := yParse_C (Ext := Ext) [45#8, 48#8] T' (by decide)
  rw [hz0.1, hz0.2] at hp3
  refine L.cl (hp3) rfl rfl ?_
  rintro _ T' hr
  refine ⟨fun _ => let ⟨_, _, k, _⟩ := hr; k, ?_⟩
  obtain ⟨_, rfl, k', ⟨a7, c7, rfl, w7⟩, hf7⟩ := hr.ok (rfl)
  clear hr
  replace hZ := hZ.cons k'
  replace hc := hc.trans k'
  repeat first|apply wg|refine ss rfl ?_|apply nl
  refine L.nr [.bool false, .slice none 0 0] wT rfl rfl (fun b7 T' g' k' r' => ?_)
  refine L.st2 r' rfl rfl rfl rfl rfl rfl (fun T' kk' r'' => ?_)
  have kx := kk'.mono k' g'
  replace hZ := (hZ.cons kx).add ⟨a7, c7, r'', w7.cons kx⟩
  replace hc := hc.trans kx
  clear kx kk' r'' r' k' g' w7
  repeat first|apply wg|refine ss rfl ?_|apply nl
  refine L.tadd (a := [45#8]) (b := tt) rfl rfl (by simp; omega) rfl ?_
  repeat first|apply wg|refine ss rfl ?_|apply nl
  have hp4 := yParse_C (Ext := Ext) ([45#8] ++ tt) T' (by simp; omega)
  rw [hmm] at hp4
  refine L.cl hp4 rfl rfl ?_
  rintro _ T' ⟨_, rfl, k', ⟨a8, c8, rfl, w8⟩, _⟩
  refine ⟨fun _ => k', ?_⟩
  replace hZ := hZ.cons k'
  replace hc := hc.trans k'
  repeat first|apply wg|refine ss rfl ?_|apply nl
  refine L.nr [.bool false, .slice none 0 0] wT rfl rfl (fun b8 T' g' k' r' => ?_)
  refine L.st2 r' rfl rfl rfl rfl rfl rfl (fun T' kk' r'' => ?_)
  have kx := kk'.mono k' g'
  replace hZ := (hZ.cons kx).add ⟨a8, c8, r'', w8.cons kx⟩
  replace hc := hc.trans kx
  clear kx kk' r'' r' k' g' w8
  repeat first|apply wg|refine ss rfl ?_|apply nl
  refine L.zl (hZ.at 0 rfl) rfl rfl rfl (fun u9 hu9 => ?_)
  repeat first|apply wg|refine ss rfl ?_|apply nl
  refine L.zl (hZ.at 2 rfl) rfl rfl rfl (fun u10 hu10 => ?_)
  repeat first|apply wg|refine ss rfl ?_|apply nl
  refine L.cv (zSame2_C hu9 hu10) rfl rfl fun T' k' => ?_
  replace hZ := hZ.cons k'
  replace hc := hc.trans k'
  repeat first|apply wg|refine ss rfl ?_|apply nl
  rw [show decide (A = A) = true from decide_eq_true rfl]
  repeat first|apply wg|refine ss rfl ?_|apply nl
  refine L.zl (hZ.at 3 rfl) rfl rfl rfl (fun u11 hu11 => ?_)
  repeat first|apply wg|refine ss rfl ?_|apply nl
  refine L.b0 rfl ?_
  repeat first|apply wg|refine ss rfl ?_|apply nl
  refine L.cv (zSame2_C hu11 (ZIs.zero _)) rfl rfl fun T' k' => ?_
  replace hZ := hZ.cons k'
  replace hc := hc.trans k'
  repeat first|apply wg|refine ss rfl ?_|apply nl
  refine L.sB (l := s) (i := 0) (b := ch) rfl rfl hch rfl rfl ?_
  repeat first|apply wg|refine ss rfl ?_|apply nl
  rw [hch8]
  repeat first|apply wg|refine ss rfl ?_|apply nl
  refine L.cv (works_C _ (hS.cons hc) (hP.cons hc) (Nat.le_trans hG hc.len)) rfl rfl fun M4 k4 => ?_
  repeat first|apply wg|refine ss rfl ?_|apply nl
  exact ⟨.inr rfl, _, rfl, rfl, (kM.trans hc).trans k4⟩
end Go.Proofs.YtbiigbicgfchiaaGreatDoor

/- The proof of the statement WholeBack. Conditions: none. -/
namespace Go.Proofs.YtbiigbicgfchiaaGreatDoor.wholeBack
open Go.ChangeShapes Go.WideShapes Go.ChangeAt Go.RowKit
open Go.ChangeMaps (open_string shut_string)
theorem own : ownKnob Tryz.prog.godebug = none := by kernel_rfl
theorem laidOut : laidOutB Tryz.prog = true := by kernel_rfl
theorem walk (v0 : Value) (w : World) (hG : gN ≤ w.heap.size) (hR : ∀ N, SinOk (mem0 w N) ∧ PowOk (mem0 w N)) (w0 : ∃ N b l, WholeAt w N v0 b l) :
  Calls Tryz.prog 9 #[v0] w fun e w' => e = .returned (.bool true) ∧ Below w.heap.size w w' := by
 obtain ⟨N0, b0, l0, _, rfl, ⟨a0, c0, rfl, hk0, hn0, hu0, hw0⟩⟩ := w0
 obtain ⟨N, hN⟩ : ∃ N, N = N0 := ⟨_, rfl⟩
 obtain ⟨hs0, hv0, hf0⟩ := hw0 N (by omega)
 obtain ⟨v, S', hE, rfl, hcons⟩ := (wholeBack_C (Ext := NoX) b0 a0 c0 l0 (mem0 w N) hs0 (known_lt hk0 hu0) (hR N).1 (hR N).2 (by rw [mem0_len]; omega))
 refine top_true (Checked.mixed Tryz.checked) (fun _ _ _ _ _ h => h.elim) hG (fun a ha => ?_) hE hcons
 obtain rfl : a = .agg #[.bool b0, .slice a0 l0.length c0] := by simpa using ha
 exact VR.agg2 (scalar_VR _ rfl) hv0
set_option maxRecDepth 100000 in
theorem lifted (os : Os) (started : os.Started) (H : Type) (enc : TypeId × Value → H) :
  ReturnsInHanded {} Tryz.checked os 9 .any (fun w args => (Rows.wholeBackSpec.pre enc Tryz.prog Tryz.f9 [] false w args ∧ laidMetH Tryz.prog laidL w) ∧ sizedMet enc Tryz.prog Tryz.f9 (OpenSpec.ofChange Rows.wholeBackSpec) false w args)
   (Rows.wholeBackSpec.post enc Tryz.prog Tryz.f9 false true false false) := by
 refine returnsInHanded_of_change_and (C := Tryz.checked) (X := fun w _ => laidMetH Tryz.prog laidL w) (fun _ _ _ hh h => h.of_heap hh) own started (by kernel_rfl) Tryz.func9
  (ChangeSpec.witness_shaped (enc := enc) (C := Tryz.checked) (os := os) (X := fun w _ => laidMetH Tryz.prog laidL w) false (World.laidAll Tryz.prog os laidL) #[.agg #[.bool false, .slice none 0 0]] 8 rfl (World.shaped_of_ZipB (by kernel_rfl) (by kernel_rfl)) (by kernel_rfl) (by kernel_rfl) (by kernel_rfl) (door_met os _)) ?_
 intro W base args ds gs before hval0 hW _ _ hL _
 obtain ⟨hG, hR⟩ := of_laid hL
 have hval : ∀ (j : Nat) t v, Tryz.f9.params[j]? = some t → args[j]? = some v → Value.okWide Tryz.prog W .any base t v := hval0
 have hW' := hW
 obtain ⟨p, q, hA0, hV, rfl, hfz, hnd⟩ := hW
 have hA : DataW.TrodAll enc Tryz.prog W 0 (fun _ => true) true Tryz.f9.params.toList args.toList ds p := hA0
 rw [Tryz.params9] at hA hval
 obtain ⟨v0, vs0, d0, ds0, p0, q0, hargs, rfl, rfl, h0, r0⟩ := trodAll_cons hA
 obtain ⟨rfl, rfl, rfl⟩ := trodAll_nil r0
 obtain rfl : args = #[v0] := by cases args; simp_all
 obtain ⟨rfl, rfl⟩ := trodVars_none hV
 have lt0 : ∀ x ∈ p0, x.block < W.heap.size := by obtain ⟨m, hm⟩ := h0; exact DataW.trod_lt m _ _ _ hm
 clear hA0 hval0
 refine (walk v0 W hG hR (whole_world (okWide_struct Tryz.underlying24 (hval 0 24 v0 rfl rfl)) h0)).mono fun e W' ⟨he, bel⟩ => ?_
 subst he
 exact ⟨_, rfl, _, _, _, [], _, [], hW', trodAll_mk1 (shut_bool Tryz.underlying4 _), (trodAll_cons_mk (Below.trod laidOut (by kernel_rfl) (of_decide_eq_true (by kernel_rfl)) h0 bel lt0) trodAll_mk0), rfl, bel.frame _, fun h => by cases h⟩
theorem over : Rows.wholeBackRow.holds Tryz.pinned (OpenSpec.ofChange Rows.wholeBackSpec) :=
 OpenClaim.holds_of_wide 9 Tryz.f9 rfl rfl rfl rfl rfl rfl rfl ⟨rfl, rfl, rfl, rfl, rfl⟩ rfl rfl rfl rfl rfl (by kernel_rfl) Tryz.func9 (by kernel_rfl)
  (of_decide_eq_true (by kernel_rfl)) (by unfold Func.isWrapper; first | (rw [if_pos (by decide +kernel)]; kernel_rfl) | (rw [if_neg (by decide +kernel)]; exact ⟨rfl, rfl⟩))
  (fun os started H enc _ => lifted os started H enc)
theorem proved : Rows.WholeBackCardSaid :=
 Claim7.holds_tied_plain_at .later [] [.data, .data, .data, .data, .data, .data, .data, .sentinel, .sentinel, .pinned] true (true, "fec42c2c2770d3608b3b87db2f8cdd2caa924e50f3b388b6462229a161397f08") true
  over (fun _ h => by cases h) (by kernel_rfl) (fun _ h => by cases h) wholeBack_row_tie rfl ⟨rfl, rfl⟩ (by kernel_rfl) rfl
  (fun f fn hf hfn => by
   obtain rfl : f = 9 := Option.some.inj ((show Tryz.prog.funcNamed "vouch/vouchlaw02.WholeBack" = some 9 by kernel_rfl).symm.trans hf) |>.symm
   obtain rfl : fn = Tryz.f9 := (Option.some.inj (Tryz.func9.symm.trans hfn)).symm
   exact ⟨by kernel_rfl, fun j t ht => by
    rw [Tryz.params9] at ht
    match j, ht with
    | 0, ht =>
     obtain rfl : t = 24 := by simpa using ht.symm
     exact (show Tryz.prog.wantsStandIn 24 = false by kernel_rfl)
    | j + 1, ht => simp at ht⟩)
  (by kernel_rfl)
end Go.Proofs.YtbiigbicgfchiaaGreatDoor.wholeBack
