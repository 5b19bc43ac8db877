/- The proof of the statement ModularKnown. Conditions: none. -/
import Derived.Test.YtlnlcddbllcehaaDoorLibG
import Derived.Test.YtlnlcddbllcehaaDoorRows
import Derived.Test.YtlnlcddbllcehaaDoorTie
import Derived.Test.YtlnlcddbllcehaaDoorCards
import Derived.SevenTiedAt
import Derived.WalkKit
import Derived.ProofKit
import Derived.OpenShut
import Derived.ShutString
import Derived.ChangeOld
import Derived.Below

/- What the laws of layer 4 share. Conditions: none. -/
set_option linter.unusedSimpArgs false
set_option linter.unusedVariables false
set_option maxRecDepth 100000
set_option maxHeartbeats 4000000
set_option exponentiation.threshold 30000
namespace Go.Proofs.YtlnlcddbllcehaaDoor
open Go Ie
variable {Ext : FuncId → List Value → Mem → Outc → Mem → Prop}
theorem sameX_C (a1 a2 : Option Addr) (c1 c2 : Nat) (l m : WL) (S : Mem) (h1 : WIn S a1 c1 l) (h2 : WIn S a2 c2 m) (e : l = m) :
    C Tryd.prog gN Ext 23 [.slice a1 l.length c1, .slice a2 m.length c2] S fun v S' => v = .bool true ∧ S' = S := by
  subst e
  refine (sameW_C _ _ l l l.length l.length S h1.1 h2.1 h1.2.2.2 h2.2.2.2).mono fun v S' h => ?_
  rw [beq_self_eq_true (l : WL)] at h
  exact h
/-- lists that may be read -/
def Ws (S : Mem) (L : List WS) : Prop := ∀ w ∈ L, WIn S w.a w.c w.l
theorem Ws.nil (S : Mem) : Ws S [] := fun w hw => by simp at hw
theorem Ws.cons {S S' : Mem} {L : List WS} (h : Ws S L) (k : Cons S S') : Ws S' L := fun w hw => (h w hw).cons k
theorem Ws.add {S : Mem} {L : List WS} {a : Option Addr} {c : Nat} {l : WL} (h : Ws S L) (w : WIn S a c l) : Ws S (L ++ [⟨a, c, l⟩]) := fun x hx => by
  rcases List.mem_append.1 hx with hx | hx
  · exact h x hx
  · obtain rfl : x = ⟨a, c, l⟩ := by simpa using hx
    exact w
theorem Ws.at {S : Mem} {L : List WS} {a : Option Addr} {c : Nat} {l : WL} (h : Ws S L) (i : Nat) (e : L[i]? = some ⟨a, c, l⟩) : WIn S a c l := h _ (List.mem_of_getElem? e)
theorem AnsR.gotN {S S' : Mem} {v : Value} {E : Int} {N X : Nat} (h : AnsR S S' v E N) (hE : E = 0) (hN : N = X) : ∃ d : Hd, v = .tuple #[.slice d.ad (toW X).length d.c, .int .i64 0] ∧ RetW S S' d (toW X) := by
  subst hN
  exact h.got hE
theorem cmp_lt {a b : Nat} (h : a < b) : cmpI (a : Int) (b : Int) = -1 := by unfold cmpI; rw [if_pos (by omega)]
theorem take_lt {l : WL} {k : Nat} : wnum (l.take k) < 2 ^ (64 * k) := num_len (by rw [List.length_take]; omega)
theorem wrE_zero1 {l m : WL} (h2 : wnum l < 2 ^ 8192) (h1 : wnum m < 2 ^ 4096) (h0 : wnum m ≠ 0) : wrE [l] m = 0 := wrE_zero (fun x hx => by
  obtain rfl : x = l := by simpa using hx
  exact h2) h1 h0
end Go.Proofs.YtlnlcddbllcehaaDoor

/- The closed statement of layer 4: its lists, small numbers. Conditions: the tables lie in memory. -/
set_option linter.unusedSimpArgs false
set_option linter.unusedVariables false
set_option maxRecDepth 100000
set_option maxHeartbeats 4000000
set_option exponentiation.threshold 30000
namespace Go.Proofs.YtlnlcddbllcehaaDoor
open Go Ie
variable {Ext : FuncId → List Value → Mem → Outc → Mem → Prop}
theorem kn_set {S : Mem} {b k : Nat} {l : WL} {r : BitVec 64} (h : S.row? b = some (newR (wv l) 39)) : Mem.row? (S.set b { newR (wv l) 39 with cells := (newR (wv l) 39).cells.set (0 + k) (v64 r) }) b = some (newR (wv (l.set k r)) 39) := by
  rw [row_set_same h rfl, Nat.zero_add]
  simp only [newR, wv, List.map_set]
theorem u64_is (z : Int) : Value.int .u64 (IntKind.u64.wrap z) = v64 (BitVec.ofInt 64 z) := congrArg (Value.int .u64) (wrap_u64 z)
theorem one_C (n : Nat) (hn : n < 100000) (less : Bool) (S : Mem) : C Tryd.prog gN Ext 68 [vi n, .bool less] S fun v S' => ∃ l, RefW S S' v l := by
  refine C.fn Tryd.func68 rfl (by kernel_rfl) rfl ?_
  have e1 : IntKind.i64.wrap (Int.tdiv (n : Int) 64) = ((n / 64 : Nat) : Int) := by
    rw [show Int.tdiv (n : Int) 64 = ((n / 64 : Nat) : Int) from (Int.ofNat_tdiv n 64).symm, wrap64 (by omega) (by omega)]
  have e2 : IntKind.i64.wrap (IntKind.i64.wrap (Int.tdiv (n : Int) 64) + 1) = ((n / 64 + 1 : Nat) : Int) := by
    rw [e1, wrap64 (by omega) (by omega)]; rfl
  have e3 : Int.tmod (n : Int) 64 = ((n % 64 : Nat) : Int) := (Int.ofNat_tmod n 64).symm
  repeat first|refine W.g ?_|refine L.p rfl rfl ?_|refine L.nil ?_|refine L.skip rfl ?_
  refine L.mk (n := n / 64 + 1) (m := n / 64 + 1) (bytes := 8) (zv := v64 0#64) rfl rfl e2 rfl e2 (Nat.le_refl _) (by omega) rfl rfl ?_
  have hro : Mem.row? (S ++ [newR (List.replicate (n / 64 + 1) (v64 0#64)) 39]) S.length = some (newR (wv (List.replicate (n / 64 + 1) 0#64)) 39) := by
    rw [row_push_new rfl]; simp [wv]
  have hk := Cons.push S (newR (List.replicate (n / 64 + 1) (v64 0#64)) 39)
  generalize S ++ [newR (List.replicate (n / 64 + 1) (v64 0#64)) 39] = T at *
  obtain ⟨ro, hro0⟩ : ∃ ro, ro = S.length := ⟨_, rfl⟩
  rw [← hro0] at hro ⊢
  generalize hq : n / 64 + 1 = q at *
  repeat first|refine W.g ?_|refine L.p rfl rfl ?_|refine L.nil ?_|refine L.skip rfl ?_
  rw [e3, show min (Int.toNat ((n % 64 : Nat) : Int)) IntKind.u64.bits = n % 64 by rw [bits_u64, Int.toNat_natCast]; omega, u64_is]
  refine L.elst hro rfl (by show 0 + q ≤ (wv (List.replicate q 0#64)).length; rw [wv_len, List.length_replicate]; omega) (k := n / 64) e1 (by omega) rfl rfl rfl rfl (fun _ => rfl) (fun _ => rfl) rfl rfl rfl (fun p => ?_)
  have hr2 := kn_set (k := n / 64) (r := BitVec.ofInt 64 (1 * 2 ^ (n % 64))) hro
  have hk2 := hk.set ro { newR (wv (List.replicate q 0#64)) 39 with cells := (newR (wv (List.replicate q 0#64)) 39).cells.set (0 + n / 64) (v64 (BitVec.ofInt 64 (1 * 2 ^ (n % 64)))) } (by omega)
  generalize List.set T ro _ = T2 at *
  have hl : ((List.replicate q 0#64).set (n / 64) (BitVec.ofInt 64 (1 * 2 ^ (n % 64)))).length = q := by simp
  generalize (List.replicate q 0#64).set (n / 64) (BitVec.ofInt 64 (1 * 2 ^ (n % 64))) = o at *
  clear hro hk
  repeat first|refine W.g ?_|refine L.p rfl rfl ?_|refine L.nil ?_|refine L.skip rfl ?_
  refine W.loop (fun j e T => ∃ (i : Nat) (b : Bool) (o : WL), j = q - i ∧ i ≤ q ∧ o.length = q ∧ Cons S T ∧ T.row? ro = some (newR (wv o) 39) ∧ e 1 = .bool b ∧ e 5 = .slice (some ⟨ro, 0, none⟩) q q ∧ e 6 = vi i) q
    ⟨0, less, o, by omega, by omega, hl, hk2, hr2, rfl, rfl, rfl⟩ ?_
  clear hr2 hk2 hl
  rintro j e T ⟨i, b, o, rfl, hi, hl, hc, hr, ee1, ee5, ee6⟩
  refine W.env3 ee1 ee5 ee6 ?_
  clear ee1 ee5 ee6
  have hS : Slv T 1 (.slice (some ⟨ro, 0, none⟩) q q) q (wv o) := Slv.all hr rfl (by rw [wv_len, hl, Nat.mul_one])
  have fin : RefW S T (.slice (some ⟨ro, 0, none⟩) q q) o := ⟨hc, some ⟨ro, 0, none⟩, q, by rw [hl], (WOwn.row (N := 0) hr hl (Nat.zero_le _) (by omega)).1⟩
  repeat first|refine W.g ?_|refine L.p rfl rfl ?_|refine L.nil ?_|refine L.skip rfl ?_
  cases b with
  | false =>
    repeat first|refine W.g ?_|refine L.p rfl rfl ?_|refine L.nil ?_|refine L.skip rfl ?_
    refine W.ite rfl (fun h => ?_) (fun h => ?_)
    · cases h
    clear h
    repeat first|refine W.g ?_|refine L.p rfl rfl ?_|refine L.nil ?_|refine L.skip rfl ?_
    exact ⟨.inr rfl, _, rfl, o, fin⟩
  | true =>
    repeat first|refine W.g ?_|refine L.p rfl rfl ?_|refine L.nil ?_|refine L.skip rfl ?_
    refine W.ite rfl (fun h => ?_) (fun h => ?_)
    · have hin : i < q := by have := of_decide_eq_true h; omega
      clear h
      obtain ⟨x, hx⟩ : ∃ x, o[i]? = some x := ⟨_, List.getElem?_eq_getElem (by omega)⟩
      repeat first|refine W.g ?_|refine L.p rfl rfl ?_|refine L.nil ?_|refine L.skip rfl ?_
      refine L.el hS (k := i) rfl (wv_get hx) rfl rfl rfl rfl (fun _ => rfl) rfl (fun p => ?_)
      repeat first|refine W.g ?_|refine L.p rfl rfl ?_|refine L.nil ?_|refine L.skip rfl ?_
      rw [u64_is]
      refine L.elst hr rfl (by show 0 + q ≤ (wv o).length; rw [wv_len, hl]; omega) (k := i) rfl hin rfl rfl rfl rfl (fun _ => rfl) (fun _ => rfl) rfl rfl rfl (fun p => ?_)
      have hr2 := kn_set (k := i) (r := BitVec.ofInt 64 ((x.toNat : Int) - 1)) hr
      have hc2 := hc.set ro { newR (wv o) 39 with cells := (newR (wv o) 39).cells.set (0 + i) (v64 (BitVec.ofInt 64 ((x.toNat : Int) - 1))) } (by omega)
      have hl2 : (o.set i (BitVec.ofInt 64 ((x.toNat : Int) - 1))).length = q := by rw [List.length_set]; exact hl
      have hx2 : (o.set i (BitVec.ofInt 64 ((x.toNat : Int) - 1)))[i]? = some (BitVec.ofInt 64 ((x.toNat : Int) - 1)) := by rw [List.getElem?_set_self (by omega)]
      generalize List.set T ro _ = T3 at *
      generalize o.set i (BitVec.ofInt 64 ((x.toNat : Int) - 1)) = o2 at *
      have hS2 : Slv T3 1 (.slice (some ⟨ro, 0, none⟩) q q) q (wv o2) := Slv.all hr2 rfl (by rw [wv_len, hl2, Nat.mul_one])
      repeat first|refine W.g ?_|refine L.p rfl rfl ?_|refine L.nil ?_|refine L.skip rfl ?_
      refine L.el hS2 (k := i) rfl (wv_get hx2) rfl rfl rfl rfl (fun _ => rfl) rfl (fun p => ?_)
      repeat first|refine W.g ?_|refine L.p rfl rfl ?_|refine L.nil ?_|refine L.skip rfl ?_
      refine ⟨q - (i + 1), by omega, i + 1, _, o2, rfl, by omega, hl2, hc2, hr2, rfl, rfl, ?_⟩
      refine (force_eq rfl).trans ?_
      rw [wrap64 (by omega) (by omega)]; rfl
    · clear h
      repeat first|refine W.g ?_|refine L.p rfl rfl ?_|refine L.nil ?_|refine L.skip rfl ?_
      exact ⟨.inr rfl, _, rfl, o, fin⟩
theorem WIn.pre {S : Mem} {a : Option Addr} {c : Nat} {l : WL} (h : WIn S a c l) : WPre S a c l := ⟨h.1, h.2.1, h.2.2.1⟩
theorem u64_up {n : Nat} (h : n < 18446744073709551616) : Value.int .u64 (IntKind.u64.wrap (n : Int)) = v64 (BitVec.ofNat 64 n) := by
  rw [wrapU64 (by omega) (by omega)]
  refine congrArg (Value.int .u64) ?_
  rw [BitVec.toNat_ofNat, Nat.mod_eq_of_lt (by omega)]
theorem nat64 {n : Nat} (h : n < 18446744073709551616) : (BitVec.ofNat 64 n).toNat = n := by rw [BitVec.toNat_ofNat]; exact Nat.mod_eq_of_lt (by omega)
theorem knSmall_C (S : Mem) (hS : SinOk S) (hG : gN ≤ S.length) : C Tryd.prog gN Ext 36 [] S fun v S' => v = .bool true ∧ Cons S S' := by
  refine C.fn Tryd.func36 rfl (by kernel_rfl) rfl ?_
  repeat first|refine W.g ?_|refine L.p rfl rfl ?_|refine L.nil ?_|refine L.skip rfl ?_
  refine W.loop (fun j e T => ∃ xa : BitVec 64, j = 12 - xa.toNat ∧ Cons S T ∧ e 1 = v64 xa ∧ xa.toNat ≤ 12) 12 ⟨0#64, rfl, Cons.refl _, rfl, by decide⟩ ?_
  rintro j e T ⟨xa, rfl, hc, e1, ha⟩
  refine W.env e1 ?_
  clear e1
  repeat first|refine W.g ?_|refine L.p rfl rfl ?_|refine L.nil ?_|refine L.skip rfl ?_
  refine W.ite rfl (fun h => ?_) (fun h => ?_)
  · have ha2 : xa.toNat < 12 := by have := of_decide_eq_true h; omega
    clear h
    repeat first|refine W.g ?_|refine L.p rfl rfl ?_|refine L.nil ?_|refine L.skip rfl ?_
    refine W.loop (fun j e T => ∃ xb : BitVec 64, j = 14 - xb.toNat ∧ Cons S T ∧ e 1 = v64 xa ∧ e 2 = v64 xb ∧ xb.toNat ≤ 13) 14 ⟨0#64, rfl, hc, rfl, rfl, by decide⟩ ?_
    clear hc e T
    rintro j e T ⟨xb, rfl, hc, e1, e2, hb⟩
    refine W.env2 e1 e2 ?_
    clear e1 e2
    repeat first|refine W.g ?_|refine L.p rfl rfl ?_|refine L.nil ?_|refine L.skip rfl ?_
    refine W.ite rfl (fun h => ?_) (fun h => ?_)
    · have hb2 : xb.toNat < 12 := by have := of_decide_eq_true h; omega
      clear h
      repeat first|refine W.g ?_|refine L.p rfl rfl ?_|refine L.nil ?_|refine L.skip rfl ?_
      refine W.loop (fun j e T => ∃ xm : BitVec 64, j = 12 - xm.toNat ∧ Cons S T ∧ e 1 = v64 xa ∧ e 2 = v64 xb ∧ e 3 = v64 xm ∧ xm.toNat ≤ 12) 12 ⟨0#64, rfl, hc, rfl, rfl, rfl, by decide⟩ ?_
      clear hc e T
      rintro j e T ⟨xm, rfl, hc, e1, e2, e3, hm⟩
      refine W.env3 e1 e2 e3 ?_
      clear e1 e2 e3
      repeat first|refine W.g ?_|refine L.p rfl rfl ?_|refine L.nil ?_|refine L.skip rfl ?_
      refine W.ite rfl (fun h => ?_) (fun h => ?_)
      · have hm2 : xm.toNat < 12 := by have := of_decide_eq_true h; omega
        clear h
        have hW := Ws.nil T
        repeat first|refine W.g ?_|refine L.p rfl rfl ?_|refine L.nil ?_|refine L.skip rfl ?_
        refine L.bsW [xa] rfl rfl rfl rfl rfl rfl (fun b1 T' k' w' => ?_)
        replace hW := (hW.cons k').add w'
        replace hc := hc.trans k'
        clear k' w'
        repeat first|refine W.g ?_|refine L.p rfl rfl ?_|refine L.nil ?_|refine L.skip rfl ?_
        refine L.bsW [xb, 0#64] rfl rfl rfl rfl rfl rfl (fun b2 T' k' w' => ?_)
        replace hW := (hW.cons k').add w'
        replace hc := hc.trans k'
        clear k' w'
        repeat first|refine W.g ?_|refine L.p rfl rfl ?_|refine L.nil ?_|refine L.skip rfl ?_
        refine L.bsW [xm] rfl rfl rfl rfl rfl rfl (fun b3 T' k' w' => ?_)
        replace hW := (hW.cons k').add w'
        replace hc := hc.trans k'
        clear k' w'
        repeat first|refine W.g ?_|refine L.p rfl rfl ?_|refine L.nil ?_|refine L.skip rfl ?_
        refine L.cl (modReckons_C _ _ _ _ _ _ [xa] [xb, 0#64] [xm] _ (hW.at 0 rfl).pre (hW.at 1 rfl).pre (hW.at 2 rfl).pre (hS.cons hc) (Nat.le_trans hG hc.len)) rfl rfl ?_
        rintro _ T' ⟨rfl, k'⟩
        refine ⟨fun _ => k', ?_⟩
        replace hW := hW.cons k'
        replace hc := hc.trans k'
        clear k'
        repeat first|refine W.g ?_|refine L.p rfl rfl ?_|refine L.nil ?_|refine L.skip rfl ?_
        refine L.bsW [xa] rfl rfl rfl rfl rfl rfl (fun b1 T' k' w' => ?_)
        replace hW := (hW.cons k').add w'
        replace hc := hc.trans k'
        clear k' w'
        repeat first|refine W.g ?_|refine L.p rfl rfl ?_|refine L.nil ?_|refine L.skip rfl ?_
        refine L.bsW [xb] rfl rfl rfl rfl rfl rfl (fun b2 T' k' w' => ?_)
        replace hW := (hW.cons k').add w'
        replace hc := hc.trans k'
        clear k' w'
        repeat first|refine W.g ?_|refine L.p rfl rfl ?_|refine L.nil ?_|refine L.skip rfl ?_
        refine L.bsW [xm] rfl rfl rfl rfl rfl rfl (fun b3 T' k' w' => ?_)
        replace hW := (hW.cons k').add w'
        replace hc := hc.trans k'
        clear k' w'
        repeat first|refine W.g ?_|refine L.p rfl rfl ?_|refine L.nil ?_|refine L.skip rfl ?_
        refine L.cl (modPowers_C _ _ _ _ _ _ [xa] [xb] [xm] _ (hW.at 3 rfl).pre (hW.at 4 rfl).pre (hW.at 5 rfl).pre (hS.cons hc) (Nat.le_trans hG hc.len)) rfl rfl ?_
        rintro _ T' ⟨rfl, k'⟩
        refine ⟨fun _ => k', ?_⟩
        replace hW := hW.cons k'
        replace hc := hc.trans k'
        clear k'
        repeat first|refine W.g ?_|refine L.p rfl rfl ?_|refine L.nil ?_|refine L.skip rfl ?_
        refine W.ite rfl (fun h => ?_) (fun h => ?_)
        · cases h
        clear h
        repeat first|refine W.g ?_|refine L.p rfl rfl ?_|refine L.nil ?_|refine L.skip rfl ?_
        refine ⟨12 - (BitVec.ofNat 64 (xm.toNat + 1)).toNat, by rw [nat64 (by omega)]; omega, BitVec.ofNat 64 (xm.toNat + 1), rfl, hc, rfl, rfl, ?_, by rw [nat64 (by omega)]; omega⟩
        exact (force_eq rfl).trans (u64_up (n := xm.toNat + 1) (by omega))
      · clear h
        repeat first|refine W.g ?_|refine L.p rfl rfl ?_|refine L.nil ?_|refine L.skip rfl ?_
        have eb : IntKind.u64.wrap (IntKind.u64.wrap ((xb.toNat : Int) + 1) + Int.tmod (xa.toNat : Int) 2) = IntKind.u64.wrap ((xb.toNat + 1 + xa.toNat % 2 : Nat) : Int) := by
          rw [show Int.tmod (xa.toNat : Int) 2 = ((xa.toNat % 2 : Nat) : Int) from (Int.ofNat_tmod _ 2).symm, wrapU64 (x := (xb.toNat : Int) + 1) (by omega) (by omega)]; rfl
        refine ⟨14 - (BitVec.ofNat 64 (xb.toNat + 1 + xa.toNat % 2)).toNat, by rw [nat64 (by omega)]; omega, BitVec.ofNat 64 (xb.toNat + 1 + xa.toNat % 2), rfl, hc, rfl, ?_, by rw [nat64 (by omega)]; omega⟩
        refine (force_eq rfl).trans ?_
        rw [eb]
        exact u64_up (n := xb.toNat + 1 + xa.toNat % 2) (by omega)
    · clear h
      repeat first|refine W.g ?_|refine L.p rfl rfl ?_|refine L.nil ?_|refine L.skip rfl ?_
      refine ⟨12 - (BitVec.ofNat 64 (xa.toNat + 1)).toNat, by rw [nat64 (by omega)]; omega, BitVec.ofNat 64 (xa.toNat + 1), rfl, hc, ?_, by rw [nat64 (by omega)]; omega⟩
      exact (force_eq rfl).trans (u64_up (n := xa.toNat + 1) (by omega))
  · clear h
    repeat first|refine W.g ?_|refine L.p rfl rfl ?_|refine L.nil ?_|refine L.skip rfl ?_
    refine L.cl (works_C _ (hS.cons hc) (Nat.le_trans hG hc.len)) rfl rfl ?_
    rintro _ M4 ⟨rfl, k4⟩
    refine ⟨fun _ => k4, ?_⟩
    repeat first|refine W.g ?_|refine L.p rfl rfl ?_|refine L.nil ?_|refine L.skip rfl ?_
    exact ⟨.inr rfl, _, rfl, rfl, hc.trans k4⟩
end Go.Proofs.YtlnlcddbllcehaaDoor

/- The closed statement of layer 4, walked. Conditions: the tables lie in memory. -/
set_option linter.unusedSimpArgs false
set_option linter.unusedVariables false
set_option maxRecDepth 100000
set_option maxHeartbeats 4000000
set_option exponentiation.threshold 30000
namespace Go.Proofs.YtlnlcddbllcehaaDoor
open Go Ie
variable {Ext : FuncId → List Value → Mem → Outc → Mem → Prop}
theorem knLimits_C (S : Mem) (hS : SinOk S) (hG : gN ≤ S.length) : C Tryd.prog gN Ext 37 [] S fun v S' => v = .bool true ∧ Cons S S' := by
  refine C.fn Tryd.func37 rfl (by kernel_rfl) rfl ?_
  have hW := Ws.nil S
  have hc := Cons.refl S
  repeat first|refine W.g ?_|refine L.p rfl rfl ?_|refine L.nil ?_|refine L.skip rfl ?_
  refine L.cl (one_C 4096 (by decide) true _) rfl rfl ?_
  rintro _ T' ⟨l0, k', a0, c0, rfl, w'⟩
  refine ⟨fun _ => k', ?_⟩
  replace hW := (hW.cons k').add w'
  replace hc := hc.trans k'
  clear k' w'
  repeat first|refine W.g ?_|refine L.p rfl rfl ?_|refine L.nil ?_|refine L.skip rfl ?_
  refine L.cl (one_C 4096 (by decide) false _) rfl rfl ?_
  rintro _ T' ⟨l1, k', a1, c1, rfl, w'⟩
  refine ⟨fun _ => k', ?_⟩
  replace hW := (hW.cons k').add w'
  replace hc := hc.trans k'
  clear k' w'
  repeat first|refine W.g ?_|refine L.p rfl rfl ?_|refine L.nil ?_|refine L.skip rfl ?_
  refine L.cl (one_C 4095 (by decide) false _) rfl rfl ?_
  rintro _ T' ⟨l2, k', a2, c2, rfl, w'⟩
  refine ⟨fun _ => k', ?_⟩
  replace hW := (hW.cons k').add w'
  replace hc := hc.trans k'
  clear k' w'
  repeat first|refine W.g ?_|refine L.p rfl rfl ?_|refine L.nil ?_|refine L.skip rfl ?_
  refine L.cl (one_C 8192 (by decide) true _) rfl rfl ?_
  rintro _ T' ⟨l3, k', a3, c3, rfl, w'⟩
  refine ⟨fun _ => k', ?_⟩
  replace hW := (hW.cons k').add w'
  replace hc := hc.trans k'
  clear k' w'
  repeat first|refine W.g ?_|refine L.p rfl rfl ?_|refine L.nil ?_|refine L.skip rfl ?_
  refine L.cl (one_C 8192 (by decide) false _) rfl rfl ?_
  rintro _ T' ⟨l4, k', a4, c4, rfl, w'⟩
  refine ⟨fun _ => k', ?_⟩
  replace hW := (hW.cons k').add w'
  replace hc := hc.trans k'
  clear k' w'
  repeat first|refine W.g ?_|refine L.p rfl rfl ?_|refine L.nil ?_|refine L.skip rfl ?_
  refine L.cl (one_C 64 (by decide) true _) rfl rfl ?_
  rintro _ T' ⟨l5, k', a5, c5, rfl, w'⟩
  refine ⟨fun _ => k', ?_⟩
  replace hW := (hW.cons k').add w'
  replace hc := hc.trans k'
  clear k' w'
  repeat first|refine W.g ?_|refine L.p rfl rfl ?_|refine L.nil ?_|refine L.skip rfl ?_
  refine L.cl (one_C 64 (by decide) false _) rfl rfl ?_
  rintro _ T' ⟨l6, k', a6, c6, rfl, w'⟩
  refine ⟨fun _ => k', ?_⟩
  replace hW := (hW.cons k').add w'
  replace hc := hc.trans k'
  clear k' w'
  repeat first|refine W.g ?_|refine L.p rfl rfl ?_|refine L.nil ?_|refine L.skip rfl ?_
  refine L.bsW [1#64] rfl rfl rfl rfl rfl rfl (fun b7 T' k' w' => ?_)
  replace hW := (hW.cons k').add w'
  replace hc := hc.trans k'
  clear k' w'
  repeat first|refine W.g ?_|refine L.p rfl rfl ?_|refine L.nil ?_|refine L.skip rfl ?_
  refine L.bsW [0#64, 0#64] rfl rfl rfl rfl rfl rfl (fun b8 T' k' w' => ?_)
  replace hW := (hW.cons k').add w'
  replace hc := hc.trans k'
  clear k' w'
  repeat first|refine W.g ?_|refine L.p rfl rfl ?_|refine L.nil ?_|refine L.skip rfl ?_
  obtain ⟨ws, hws⟩ : ∃ ws : List WS, ws = [⟨a0, c0, l0⟩, ⟨a1, c1, l1⟩, ⟨a2, c2, l2⟩, ⟨a3, c3, l3⟩, ⟨a4, c4, l4⟩, ⟨a5, c5, l5⟩, ⟨a6, c6, l6⟩, ⟨some ⟨b7, 0, none⟩, 1, [1#64]⟩, ⟨none, 0, []⟩, ⟨some ⟨b8, 0, none⟩, 2, [0#64, 0#64]⟩] := ⟨_, rfl⟩
  have hww : ∀ w ∈ ws, WIn T' w.a w.c w.l := fun w hw => by
    rw [hws] at hw
    simp only [List.mem_cons, List.not_mem_nil, or_false] at hw
    rcases hw with rfl | rfl | rfl | rfl | rfl | rfl | rfl | rfl | rfl | rfl
    · exact hW.at 0 rfl
    · exact hW.at 1 rfl
    · exact hW.at 2 rfl
    · exact hW.at 3 rfl
    · exact hW.at 4 rfl
    · exact hW.at 5 rfl
    · exact hW.at 6 rfl
    · exact hW.at 7 rfl
    · exact ⟨Slv.nil _ _ _ _, by decide, fun _ => rfl, by decide⟩
    · exact hW.at 8 rfl
  refine L.bs (ws.map WS.v) rfl (by rw [hws]; rfl) rfl (by rw [hws]; rfl) (by rw [hws]; rfl) rfl ?_
  have k2 : Cons T' (T' ++ [newR (ws.map WS.v) 22]) := Cons.push _ _
  have hs : Slv (T' ++ [newR (ws.map WS.v) 22]) 1 (.slice (some ⟨T'.length, 0, none⟩) 10 10) 10 (ws.map WS.v) := Slv.all (row_push_new rfl) (by rw [hws]; rfl) (by rw [hws]; rfl)
  have hwn : ws.length = 10 := by rw [hws]; rfl
  clear hW hws
  obtain ⟨rb, hrb⟩ : ∃ rb, rb = T'.length := ⟨_, rfl⟩
  rw [← hrb] at hs ⊢
  obtain ⟨M0, hM0⟩ : ∃ M0, M0 = T' ++ [newR (ws.map WS.v) 22] := ⟨_, rfl⟩
  rw [← hM0] at hs k2 ⊢
  clear hM0 hrb
  replace hc := hc.trans k2
  replace hww : ∀ w ∈ ws, WIn M0 w.a w.c w.l := fun w hw => (hww w hw).cons k2
  clear k2
  have kS := hc
  replace hS := hS.cons kS
  replace hG := Nat.le_trans hG kS.len
  clear hc
  have get : ∀ i, i < 10 → ∃ w, ws[i]? = some w ∧ WIn M0 w.a w.c w.l := fun i hi => by
    obtain ⟨w, hw⟩ : ∃ w, ws[i]? = some w := ⟨_, List.getElem?_eq_getElem (by omega)⟩
    exact ⟨w, hw, hww w (List.mem_of_getElem? hw)⟩
  clear hww hwn
  repeat first|refine W.g ?_|refine L.p rfl rfl ?_|refine L.nil ?_|refine L.skip rfl ?_
  refine W.loop (fun j e T => ∃ i : Nat, j = 10 - i ∧ i ≤ 10 ∧ Cons M0 T ∧ e 1 = .slice (some ⟨rb, 0, none⟩) 10 10 ∧ e 2 = vi i) 10
    ⟨0, rfl, by decide, Cons.refl _, rfl, rfl⟩ ?_
  rintro j e T ⟨i, rfl, hi, hc, e1, e2⟩
  refine W.env2 e1 e2 ?_
  clear e1 e2
  repeat first|refine W.g ?_|refine L.p rfl rfl ?_|refine L.nil ?_|refine L.skip rfl ?_
  refine W.ite rfl (fun h => ?_) (fun h => ?_)
  · have hin : i < 10 := by have := of_decide_eq_true h; omega
    clear h
    have ei : Int.tmod (i : Int) 2 = ((i % 2 : Nat) : Int) := (Int.ofNat_tmod i 2).symm
    repeat first|refine W.g ?_|refine L.p rfl rfl ?_|refine L.nil ?_|refine L.skip rfl ?_
    refine W.loop (fun j e T => ∃ k : Nat, j = 12 - k ∧ k ≤ 11 ∧ Cons M0 T ∧ e 1 = .slice (some ⟨rb, 0, none⟩) 10 10 ∧ e 2 = vi i ∧ e 3 = vi k) (12 - i % 2)
      ⟨i % 2, rfl, by omega, hc, rfl, rfl, (force_eq rfl).trans (congrArg (Value.int .i64) ei)⟩ ?_
    clear hc e T
    rintro j e T ⟨k, rfl, hk, hc, e1, e2, e3⟩
    refine W.env3 e1 e2 e3 ?_
    clear e1 e2 e3
    repeat first|refine W.g ?_|refine L.p rfl rfl ?_|refine L.nil ?_|refine L.skip rfl ?_
    refine W.ite rfl (fun h => ?_) (fun h => ?_)
    · have hkn : k < 10 := by have := of_decide_eq_true h; omega
      clear h
      obtain ⟨wi, hwi, qi⟩ := get i hin
      obtain ⟨wk, hwk, qk⟩ := get k hkn
      obtain ⟨wj, hwj, qj⟩ := get ((i + k + 1) % 10) (Nat.mod_lt _ (by decide))
      have ej : Int.tmod (IntKind.i64.wrap (IntKind.i64.wrap ((i : Int) + (k : Int)) + 1)) 10 = (((i + k + 1) % 10 : Nat) : Int) := by
        rw [wrap64 (x := (i : Int) + (k : Int)) (by omega) (by omega), wrap64 (by omega) (by omega)]
        exact (Int.ofNat_tmod (i + k + 1) 10).symm
      have hW := (((Ws.nil T).add (qi.cons hc)).add (qj.cons hc)).add (qk.cons hc)
      clear qi qj qk
      repeat first|refine W.g ?_|refine L.p rfl rfl ?_|refine L.nil ?_|refine L.skip rfl ?_
      refine L.el (hs.cons hc) (k := i) rfl (show (ws.map WS.v)[i]? = some (.slice wi.a wi.l.length wi.c) by rw [List.getElem?_map, hwi]; rfl) rfl rfl rfl rfl (fun _ => rfl) rfl (fun p => ?_)
      repeat first|refine W.g ?_|refine L.p rfl rfl ?_|refine L.nil ?_|refine L.skip rfl ?_
      refine L.el (hs.cons hc) (k := ((i + k + 1) % 10)) ej (show (ws.map WS.v)[((i + k + 1) % 10)]? = some (.slice wj.a wj.l.length wj.c) by rw [List.getElem?_map, hwj]; rfl) rfl rfl rfl rfl (fun _ => rfl) rfl (fun p => ?_)
      repeat first|refine W.g ?_|refine L.p rfl rfl ?_|refine L.nil ?_|refine L.skip rfl ?_
      refine L.el (hs.cons hc) (k := k) rfl (show (ws.map WS.v)[k]? = some (.slice wk.a wk.l.length wk.c) by rw [List.getElem?_map, hwk]; rfl) rfl rfl rfl rfl (fun _ => rfl) rfl (fun p => ?_)
      repeat first|refine W.g ?_|refine L.p rfl rfl ?_|refine L.nil ?_|refine L.skip rfl ?_
      refine L.cl (modReckons_C _ _ _ _ _ _ wi.l wj.l wk.l _ (hW.at 0 rfl).pre (hW.at 1 rfl).pre (hW.at 2 rfl).pre (hS.cons hc) (Nat.le_trans hG hc.len)) rfl rfl ?_
      rintro _ T' ⟨rfl, k'⟩
      refine ⟨fun _ => k', ?_⟩
      replace hW := hW.cons k'
      replace hc := hc.trans k'
      clear k'
      repeat first|refine W.g ?_|refine L.p rfl rfl ?_|refine L.nil ?_|refine L.skip rfl ?_
      refine L.el (hs.cons hc) (k := i) rfl (show (ws.map WS.v)[i]? = some (.slice wi.a wi.l.length wi.c) by rw [List.getElem?_map, hwi]; rfl) rfl rfl rfl rfl (fun _ => rfl) rfl (fun p => ?_)
      repeat first|refine W.g ?_|refine L.p rfl rfl ?_|refine L.nil ?_|refine L.skip rfl ?_
      refine L.bsW [5#64] rfl rfl rfl rfl rfl rfl (fun b9 T' k' w' => ?_)
      replace hW := (hW.cons k').add w'
      replace hc := hc.trans k'
      clear k' w'
      repeat first|refine W.g ?_|refine L.p rfl rfl ?_|refine L.nil ?_|refine L.skip rfl ?_
      refine L.el (hs.cons hc) (k := k) rfl (show (ws.map WS.v)[k]? = some (.slice wk.a wk.l.length wk.c) by rw [List.getElem?_map, hwk]; rfl) rfl rfl rfl rfl (fun _ => rfl) rfl (fun p => ?_)
      repeat first|refine W.g ?_|refine L.p rfl rfl ?_|refine L.nil ?_|refine L.skip rfl ?_
      refine L.cl (modPowers_C _ _ _ _ _ _ wi.l [5#64] wk.l _ (hW.at 0 rfl).pre (hW.at 3 rfl).pre (hW.at 2 rfl).pre (hS.cons hc) (Nat.le_trans hG hc.len)) rfl rfl ?_
      rintro _ T' ⟨rfl, k'⟩
      refine ⟨fun _ => k', ?_⟩
      replace hW := hW.cons k'
      replace hc := hc.trans k'
      clear k'
      repeat first|refine W.g ?_|refine L.p rfl rfl ?_|refine L.nil ?_|refine L.skip rfl ?_
      refine W.ite rfl (fun h => ?_) (fun h => ?_)
      · cases h
      clear h
      repeat first|refine W.g ?_|refine L.p rfl rfl ?_|refine L.nil ?_|refine L.skip rfl ?_
      refine ⟨12 - (k + 2), by omega, k + 2, rfl, by omega, hc, rfl, rfl, ?_⟩
      refine (force_eq rfl).trans ?_
      rw [wrap64 (by omega) (by omega)]; rfl
    · clear h
      repeat first|refine W.g ?_|refine L.p rfl rfl ?_|refine L.nil ?_|refine L.skip rfl ?_
      refine ⟨10 - (i + 1), by omega, i + 1, rfl, by omega, hc, rfl, ?_⟩
      refine (force_eq rfl).trans ?_
      rw [wrap64 (by omega) (by omega)]; rfl
  · clear h
    have hW := Ws.nil T
    repeat first|refine W.g ?_|refine L.p rfl rfl ?_|refine L.nil ?_|refine L.skip rfl ?_
    refine L.cl (one_C 8191 (by decide) true _) rfl rfl ?_
    rintro _ T' ⟨l0, k', a0, c0, rfl, w'⟩
    refine ⟨fun _ => k', ?_⟩
    replace hW := (hW.cons k').add w'
    replace hc := hc.trans k'
    clear k' w'
    repeat first|refine W.g ?_|refine L.p rfl rfl ?_|refine L.nil ?_|refine L.skip rfl ?_
    refine L.cl (one_C 63 (by decide) true _) rfl rfl ?_
    rintro _ T' ⟨l1, k', a1, c1, rfl, w'⟩
    refine ⟨fun _ => k', ?_⟩
    replace hW := (hW.cons k').add w'
    replace hc := hc.trans k'
    clear k' w'
    repeat first|refine W.g ?_|refine L.p rfl rfl ?_|refine L.nil ?_|refine L.skip rfl ?_
    refine L.cl (one_C 128 (by decide) true _) rfl rfl ?_
    rintro _ T' ⟨l2, k', a2, c2, rfl, w'⟩
    refine ⟨fun _ => k', ?_⟩
    replace hW := (hW.cons k').add w'
    replace hc := hc.trans k'
    clear k' w'
    repeat first|refine W.g ?_|refine L.p rfl rfl ?_|refine L.nil ?_|refine L.skip rfl ?_
    refine L.cl (modPowers_C _ _ _ _ _ _ l0 l1 l2 _ (hW.at 0 rfl).pre (hW.at 1 rfl).pre (hW.at 2 rfl).pre (hS.cons hc) (Nat.le_trans hG hc.len)) rfl rfl ?_
    rintro _ T' ⟨rfl, k'⟩
    refine ⟨fun _ => k', ?_⟩
    replace hW := hW.cons k'
    replace hc := hc.trans k'
    clear k'
    repeat first|refine W.g ?_|refine L.p rfl rfl ?_|refine L.nil ?_|refine L.skip rfl ?_
    refine L.cl (one_C 99 (by decide) true _) rfl rfl ?_
    rintro _ T' ⟨l3, k', a3, c3, rfl, w'⟩
    refine ⟨fun _ => k', ?_⟩
    replace hW := (hW.cons k').add w'
    replace hc := hc.trans k'
    clear k' w'
    repeat first|refine W.g ?_|refine L.p rfl rfl ?_|refine L.nil ?_|refine L.skip rfl ?_
    refine L.cl (one_C 8192 (by decide) true _) rfl rfl ?_
    rintro _ T' ⟨l4, k', a4, c4, rfl, w'⟩
    refine ⟨fun _ => k', ?_⟩
    replace hW := (hW.cons k').add w'
    replace hc := hc.trans k'
    clear k' w'
    repeat first|refine W.g ?_|refine L.p rfl rfl ?_|refine L.nil ?_|refine L.skip rfl ?_
    refine L.bsW [7#64, 1#64] rfl rfl rfl rfl rfl rfl (fun b5 T' k' w' => ?_)
    replace hW := (hW.cons k').add w'
    replace hc := hc.trans k'
    clear k' w'
    repeat first|refine W.g ?_|refine L.p rfl rfl ?_|refine L.nil ?_|refine L.skip rfl ?_
    refine L.cl (modPowers_C _ _ _ _ _ _ l3 l4 [7#64, 1#64] _ (hW.at 3 rfl).pre (hW.at 4 rfl).pre (hW.at 5 rfl).pre (hS.cons hc) (Nat.le_trans hG hc.len)) rfl rfl ?_
    rintro _ T' ⟨rfl, k'⟩
    refine ⟨fun _ => k', ?_⟩
    replace hW := hW.cons k'
    replace hc := hc.trans k'
    clear k'
    repeat first|refine W.g ?_|refine L.p rfl rfl ?_|refine L.nil ?_|refine L.skip rfl ?_
    refine L.bsW [3#64] rfl rfl rfl rfl rfl rfl (fun b6 T' k' w' => ?_)
    replace hW := (hW.cons k').add w'
    replace hc := hc.trans k'
    clear k' w'
    repeat first|refine W.g ?_|refine L.p rfl rfl ?_|refine L.nil ?_|refine L.skip rfl ?_
    refine L.cl (one_C 8192 (by decide) false _) rfl rfl ?_
    rintro _ T' ⟨l7, k', a7, c7, rfl, w'⟩
    refine ⟨fun _ => k', ?_⟩
    replace hW := (hW.cons k').add w'
    replace hc := hc.trans k'
    clear k' w'
    repeat first|refine W.g ?_|refine L.p rfl rfl ?_|refine L.nil ?_|refine L.skip rfl ?_
    refine L.bsW [5#64] rfl rfl rfl rfl rfl rfl (fun b8 T' k' w' => ?_)
    replace hW := (hW.cons k').add w'
    replace hc := hc.trans k'
    clear k' w'
    repeat first|refine W.g ?_|refine L.p rfl rfl ?_|refine L.nil ?_|refine L.skip rfl ?_
    refine L.cl (modPowers_C _ _ _ _ _ _ [3#64] l7 [5#64] _ (hW.at 6 rfl).pre (hW.at 7 rfl).pre (hW.at 8 rfl).pre (hS.cons hc) (Nat.le_trans hG hc.len)) rfl rfl ?_
    rintro _ T' ⟨rfl, k'⟩
    refine ⟨fun _ => k', ?_⟩
    replace hW := hW.cons k'
    replace hc := hc.trans k'
    clear k'
    repeat first|refine W.g ?_|refine L.p rfl rfl ?_|refine L.nil ?_|refine L.skip rfl ?_
    refine L.cl (works_C _ (hS.cons hc) (Nat.le_trans hG hc.len)) rfl rfl ?_
    rintro _ M4 ⟨rfl, k4⟩
    refine ⟨fun _ => k4, ?_⟩
    repeat first|refine W.g ?_|refine L.p rfl rfl ?_|refine L.nil ?_|refine L.skip rfl ?_
    exact ⟨.inr rfl, _, rfl, rfl, (kS.trans hc).trans k4⟩
theorem modKnown_C (S : Mem) (hS : SinOk S) (hG : gN ≤ S.length) : C Tryd.prog gN Ext 9 [] S fun v S' => v = .bool true ∧ Cons S S' := by
  refine C.fn Tryd.func9 rfl (by kernel_rfl) rfl ?_
  repeat first|refine W.g ?_|refine L.p rfl rfl ?_|refine L.nil ?_|refine L.skip rfl ?_
  refine L.cl (knSmall_C S hS hG) rfl rfl ?_
  rintro _ M1 ⟨rfl, k1⟩
  refine ⟨fun _ => k1, ?_⟩
  repeat first|refine W.g ?_|refine L.p rfl rfl ?_|refine L.nil ?_|refine L.skip rfl ?_
  refine L.cl (knLimits_C M1 (hS.cons k1) (Nat.le_trans hG k1.len)) rfl rfl ?_
  rintro _ M2 ⟨rfl, k2⟩
  refine ⟨fun _ => k2, ?_⟩
  repeat first|refine W.g ?_|refine L.p rfl rfl ?_|refine L.nil ?_|refine L.skip rfl ?_
  exact ⟨.inr rfl, _, rfl, rfl, k1.trans k2⟩
end Go.Proofs.YtlnlcddbllcehaaDoor

/- The proof of the statement ModularKnown. Conditions: none. -/
namespace Go.Proofs.YtlnlcddbllcehaaDoor.modularKnown
open Go.ChangeShapes Go.WideShapes Go.ChangeAt Go.RowKit
open Go.ChangeMaps (open_string shut_string)
set_option linter.unusedVariables false

theorem own : ownKnob Tryd.prog.godebug = none := by kernel_rfl

theorem walk  (w : World) (hG : gN ≤ w.heap.size) (hR : ∀ N, SinOk (mem0 w N)) :
    Calls Tryd.prog 9 #[] w fun e w' => e = .returned (.bool true) ∧ Below w.heap.size w w' := by
  obtain ⟨v, S', hE, rfl, hcons⟩ := (modKnown_C (Ext := NoX) (mem0 w) (hR 0) (by rw [mem0_len]; omega))
  exact top_true (Checked.mixed Tryd.checked) (fun _ _ _ _ _ h => h.elim) hG (fun a ha => by simp at ha) hE hcons

set_option maxRecDepth 100000 in
theorem lifted (os : Os) (started : os.Started) (H : Type) (enc : TypeId × Value → H) :
    ReturnsInHanded {} Tryd.checked os 9 .any (fun w args => (Rows.modularKnownSpec.pre enc Tryd.prog Tryd.f9 [] false w args ∧ laidMetH Tryd.prog laidL w) ∧ sizedMet enc Tryd.prog Tryd.f9 (OpenSpec.ofChange Rows.modularKnownSpec) false w args)
      (Rows.modularKnownSpec.post enc Tryd.prog Tryd.f9 false true false false) := by
  refine returnsInHanded_of_change_and (C := Tryd.checked) (X := fun w _ => laidMetH Tryd.prog laidL w) (fun _ _ _ hh h => h.of_heap hh) own started (by kernel_rfl) Tryd.func9
    (ChangeSpec.witness_shaped (enc := enc) (C := Tryd.checked) (os := os) (X := fun w _ => laidMetH Tryd.prog laidL w) false (World.doorLaid Tryd.prog 400 os) #[] 8 rfl (World.shaped_of_RefB (by kernel_rfl) (by kernel_rfl)) (by kernel_rfl) (by kernel_rfl) (by kernel_rfl) (door_met os _)) ?_
  intro W base args ds gs before hval0 hW _ _ hL _
  obtain ⟨hG, hR⟩ := of_laid hL
  have hval : ∀ (j : Nat) t v, Tryd.f9.params[j]? = some t → args[j]? = some v → Value.okWide Tryd.prog W .any base t v := hval0
  have hW' := hW
  obtain ⟨p, q, hA0, hV, rfl, hfz, hnd⟩ := hW
  have hA : DataW.TrodAll enc Tryd.prog W 0 (fun _ => true) true Tryd.f9.params.toList args.toList ds p := hA0
  rw [Tryd.params9] at hA hval
  obtain ⟨rfl, rfl, rfl⟩ := trodAll_none hA
  obtain ⟨rfl, rfl⟩ := trodVars_none hV
  clear hA0 hval0
  simp only [List.append_nil] at hW'
  refine (walk  W hG hR).mono fun e W' ⟨he, bel⟩ => ?_
  subst he
  exact ⟨_, rfl, _, _, _, [], _, [], hW', trodAll_mk1 (shut_bool Tryd.underlying4 _), rfl, rfl, bel.frame _, fun h => by cases h⟩

theorem over : Rows.modularKnownRow.holds Tryd.pinned (OpenSpec.ofChange Rows.modularKnownSpec) :=
  OpenClaim.holds_of_wide 9 Tryd.f9 rfl rfl rfl rfl rfl rfl rfl ⟨rfl, rfl, rfl, rfl, rfl⟩ rfl rfl rfl rfl rfl (by kernel_rfl) Tryd.func9 (by kernel_rfl)
    (of_decide_eq_true (by kernel_rfl)) (by unfold Func.isWrapper; first | (rw [if_pos (by decide +kernel)]; kernel_rfl) | (rw [if_neg (by decide +kernel)]; exact ⟨rfl, rfl⟩))
    (fun os started H enc _ => lifted os started H enc)

/-- the card: the row, its variable tied to the program's text -/
theorem proved : Rows.ModularKnownCardSaid :=
  Claim7.holds_tied_plain_at .later [] [.data, .data, .data] true (true, "7eeef222ccc28ed4efe3101caf646cc54bce785ba59262e261ca0340073ef9df") false
    over (fun _ h => by cases h) (by kernel_rfl) (fun _ h => by cases h) modularKnown_row_tie rfl ⟨rfl, rfl⟩ (by kernel_rfl) rfl
    (fun f fn hf hfn => by
      obtain rfl : f = 9 := Option.some.inj ((show Tryd.prog.funcNamed "vouch/vouchlaw04.ModularKnown" = some 9 by kernel_rfl).symm.trans hf) |>.symm
      obtain rfl : fn = Tryd.f9 := (Option.some.inj (Tryd.func9.symm.trans hfn)).symm
      exact ⟨by kernel_rfl, fun j t ht => by
        rw [Tryd.params9] at ht
        simp at ht⟩)
    (by kernel_rfl)
end Go.Proofs.YtlnlcddbllcehaaDoor.modularKnown
