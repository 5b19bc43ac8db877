/- The proof of the statement CodingKnown. Conditions: none. -/
import Derived.Test.YtkiecgkgbogbaaaDoorLibD
import Derived.Test.YtkiecgkgbogbaaaDoorRows
import Derived.Test.YtkiecgkgbogbaaaDoorTie
import Derived.Test.YtkiecgkgbogbaaaDoorCards
import Derived.SevenTiedAt
import Derived.WalkKit
import Derived.ProofKit
import Derived.OpenShut
import Derived.ShutString
import Derived.ChangeOld
import Derived.Below

/- The law of reading, walked. Conditions: none. -/
set_option linter.unusedSimpArgs false
set_option linter.unusedVariables false
set_option maxRecDepth 100000
namespace Go.Proofs.YtkiecgkgbogbaaaDoor
open Go
variable {Ext : FuncId → List Value → Mem → Outc → Mem → Prop}
def outL (o : Option BL) : BL := o.getD []
def outE (o : Option BL) (code : Int) : Int := if o.isSome then 0 else code
theorem ResB.all {S S' : Mem} {v : Value} {o : Option BL} {code : Int} (h : ResB S S' v o code) : ∃ d : Hd, v = .tuple #[d.v, .int .i64 (outE o code)] ∧ OutB S S' d (outL o) := by
  cases o with
  | none => exact ⟨HdN, h.1, OutB.nil h.2⟩
  | some m => exact h
theorem OutB.slv {S S' : Mem} {d : Hd} {l : BL} (h : OutB S S' d l) : Slv S' 1 d.v d.n (bv l) := h.2.2.1.slv
theorem OutB.nlt {S S' : Mem} {d : Hd} {l : BL} (h : OutB S S' d l) : d.n < 1099511627776 := by have := h.2.2.1.len; rw [bv_len] at this; have := h.2.1; omega
theorem OutB.lt {S S' : Mem} {d : Hd} {l : BL} (h : OutB S S' d l) {b : Nat} (hb : d.a = some b) : b < S'.length := h.2.2.1.lt hb
theorem OutB.ge {S S' : Mem} {d : Hd} {l : BL} (h : OutB S S' d l) {b : Nat} (hb : d.a = some b) : S.length ≤ b := h.2.2.2 b hb
theorem OutB.wl {S S' : Mem} {d : Hd} {l : BL} (h : OutB S S' d l) (hl : l.length < 1000000000) : (bv l).length ≤ 1000000000000 := by rw [bv_len]; omega
theorem decS_len : ∀ (l : BL) (x b : Nat) (m : BL), decS x b l = some m → m.length ≤ l.length
  | [], x, b, m, h => by
    unfold decS at h
    split at h
    · cases h; simp
    · cases h
  | c :: l, x, b, m, h => by
    unfold decS at h
    rw [Option.bind_eq_some_iff] at h
    obtain ⟨d, _, h⟩ := h
    split at h
    · rw [Option.map_eq_some_iff] at h
      obtain ⟨m', h, rfl⟩ := h
      have := decS_len l _ _ m' h
      simp; omega
    · have := decS_len l _ _ m h
      simp; omega
theorem unB_len (l : BL) : (outL (unB l)).length ≤ l.length := by
  cases h : unB l with
  | none => exact Nat.zero_le _
  | some m =>
    unfold unB at h
    split at h
    · have := decS_len _ _ _ _ h
      have h1 := trimE_len (trimE l)
      have h2 := trimE_len l
      show m.length ≤ _
      omega
    · cases h
theorem unhexH_len : ∀ (l : BL) (o : Option Nat) (m : BL), unhexH o l = some m → m.length ≤ l.length
  | [], none, m, h => by cases h; simp
  | [], some _, m, h => by cases h
  | x :: l, none, m, h => by
    unfold unhexH at h
    rw [Option.bind_eq_some_iff] at h
    obtain ⟨d, _, h⟩ := h
    have := unhexH_len l _ m h
    simp; omega
  | x :: l, some a, m, h => by
    unfold unhexH at h
    rw [Option.bind_eq_some_iff] at h
    obtain ⟨d, _, h⟩ := h
    rw [Option.map_eq_some_iff] at h
    obtain ⟨m', h, rfl⟩ := h
    have := unhexH_len l _ m' h
    simp; omega
theorem unhex_len (l : BL) : (outL (unhexH none l)).length ≤ l.length := by
  cases h : unhexH none l with
  | none => exact Nat.zero_le _
  | some m => exact unhexH_len l _ m h
theorem reads_C (s : ByteArray) (S : Mem) (hR : RowsOk S) :
    C Tryd.prog 1 Ext 4 [.string s] S fun v S' => v = .bool true ∧ Cons S S' := by
  obtain ⟨l, rfl⟩ := strB_of s
  refine C.fn Tryd.func4 rfl (by kernel_rfl) rfl ?_
  repeat (first | refine W.seq ?_ | refine W.block ?_ | refine W.reg ?_ | refine W.skip ?_ | refine W.exit ?_ | refine W.ret ?_ | refine L.nil ?_ | refine L.p rfl rfl ?_ | refine L.skip rfl ?_)
  refine L.tlen rfl rfl rfl rfl ?_
  repeat (first | refine W.seq ?_ | refine W.block ?_ | refine W.reg ?_ | refine W.skip ?_ | refine W.exit ?_ | refine W.ret ?_ | refine L.nil ?_ | refine L.p rfl rfl ?_ | refine L.skip rfl ?_)
  refine W.ite rfl (fun h => ?_) (fun h => ?_)
  · repeat (first | refine W.seq ?_ | refine W.block ?_ | refine W.reg ?_ | refine W.skip ?_ | refine W.exit ?_ | refine W.ret ?_ | refine L.nil ?_ | refine L.p rfl rfl ?_ | refine L.skip rfl ?_)
    exact ⟨.inr rfl, _, rfl, rfl, Cons.refl _⟩
  have hl : l.length ≤ 4096 := by have := of_decide_eq_false h; omega
  clear h
  have n1 := unhex_len l
  have n2 := unB_len l
  repeat (first | refine W.seq ?_ | refine W.block ?_ | refine W.reg ?_ | refine W.skip ?_ | refine W.exit ?_ | refine W.ret ?_ | refine L.nil ?_ | refine L.p rfl rfl ?_ | refine L.skip rfl ?_)
  refine L.cl (unhex_C l (by omega) S) rfl rfl ?_
  rintro _ S1 hr
  obtain ⟨d1, rfl, o1⟩ := hr.all
  clear hr
  refine ⟨nofun, ?_⟩
  repeat (first | refine W.seq ?_ | refine W.block ?_ | refine W.reg ?_ | refine W.skip ?_ | refine W.exit ?_ | refine W.ret ?_ | refine L.nil ?_ | refine L.p rfl rfl ?_ | refine L.skip rfl ?_)
  refine L.cl (unbase64_C l (by omega) S1 (hR.cons o1.1)) rfl rfl ?_
  rintro _ S2 hr
  obtain ⟨d2, rfl, o2⟩ := hr.all
  clear hr
  refine ⟨nofun, ?_⟩
  have k2 := o1.1.trans o2.1
  repeat (first | refine W.seq ?_ | refine W.block ?_ | refine W.reg ?_ | refine W.skip ?_ | refine W.exit ?_ | refine W.ret ?_ | refine L.nil ?_ | refine L.p rfl rfl ?_ | refine L.skip rfl ?_)
  refine L.cl (unhex_C l (by omega) S2) rfl rfl ?_
  rintro _ S3 hr
  obtain ⟨d3, rfl, o3⟩ := hr.all
  clear hr
  refine ⟨nofun, ?_⟩
  have k3 := k2.trans o3.1
  repeat (first | refine W.seq ?_ | refine W.block ?_ | refine W.reg ?_ | refine W.skip ?_ | refine W.exit ?_ | refine W.ret ?_ | refine L.nil ?_ | refine L.p rfl rfl ?_ | refine L.skip rfl ?_)
  refine L.cl (unbase64_C l (by omega) S3 (hR.cons k3)) rfl rfl ?_
  rintro _ S4 hr
  obtain ⟨d4, rfl, o4⟩ := hr.all
  clear hr
  refine ⟨nofun, ?_⟩
  have k4 := k3.trans o4.1
  repeat (first | refine W.seq ?_ | refine W.block ?_ | refine W.reg ?_ | refine W.skip ?_ | refine W.exit ?_ | refine W.ret ?_ | refine L.nil ?_ | refine L.p rfl rfl ?_ | refine L.skip rfl ?_)
  refine L.cl (refUnhex_C l (by omega) S4) rfl rfl ?_
  rintro _ S5 hr
  obtain ⟨d5, rfl, o5⟩ := hr.all
  clear hr
  refine ⟨nofun, ?_⟩
  have k5 := k4.trans o5.1
  repeat (first | refine W.seq ?_ | refine W.block ?_ | refine W.reg ?_ | refine W.skip ?_ | refine W.exit ?_ | refine W.ret ?_ | refine L.nil ?_ | refine L.p rfl rfl ?_ | refine L.skip rfl ?_)
  have hq := refUnbase64_C (G := 1) (Ext := Ext) l (by omega) S5
  rw [refB_unB] at hq
  refine L.cl hq rfl rfl ?_
  rintro _ S6 hr
  obtain ⟨d6, rfl, o6⟩ := hr.all
  clear hr hq
  refine ⟨nofun, ?_⟩
  have k6 := k5.trans o6.1
  repeat (first | refine W.seq ?_ | refine W.block ?_ | refine W.reg ?_ | refine W.skip ?_ | refine W.exit ?_ | refine W.ret ?_ | refine L.nil ?_ | refine L.p rfl rfl ?_ | refine L.skip rfl ?_)
  rw [show (outE (unhexH none l) 60 != outE (unhexH none l) 60) = false from bne_self_eq_false _]
  repeat (first | refine W.seq ?_ | refine W.block ?_ | refine W.reg ?_ | refine W.skip ?_ | refine W.exit ?_ | refine W.ret ?_ | refine L.nil ?_ | refine L.p rfl rfl ?_ | refine L.skip rfl ?_)
  rw [show (outE (unB l) 61 != outE (unB l) 61) = false from bne_self_eq_false _]
  repeat (first | refine W.seq ?_ | refine W.block ?_ | refine W.reg ?_ | refine W.skip ?_ | refine W.exit ?_ | refine W.ret ?_ | refine L.nil ?_ | refine L.p rfl rfl ?_ | refine L.skip rfl ?_)
  rw [show (outE (unhexH none l) 60 != outE (unhexH none l) 60) = false from bne_self_eq_false _]
  repeat (first | refine W.seq ?_ | refine W.block ?_ | refine W.reg ?_ | refine W.skip ?_ | refine W.exit ?_ | refine W.ret ?_ | refine L.nil ?_ | refine L.p rfl rfl ?_ | refine L.skip rfl ?_)
  rw [show (outE (unB l) 61 != outE (unB l) 61) = false from bne_self_eq_false _]
  repeat (first | refine W.seq ?_ | refine W.block ?_ | refine W.reg ?_ | refine W.skip ?_ | refine W.exit ?_ | refine W.ret ?_ | refine L.nil ?_ | refine L.p rfl rfl ?_ | refine L.skip rfl ?_)
  have p1 := o1.post (o2.1.trans (o3.1.trans (o4.1.trans (o5.1.trans o6.1))))
  have p2 := o2.post (o3.1.trans (o4.1.trans (o5.1.trans o6.1)))
  have p3 := o3.post (o4.1.trans (o5.1.trans o6.1))
  have p4 := o4.post (o5.1.trans o6.1)
  have p5 := o5.post o6.1
  refine L.cl (same_C _ _ (outL (unhexH none l)) (outL (unhexH none l)) d1.n d5.n S6 p1.slv p5.slv p1.nlt p5.nlt) rfl rfl ?_
  rintro _ M5 ⟨rfl, hS⟩
  have hS := hS.symm
  subst hS
  refine ⟨nofun, ?_⟩
  rw [beq_self_eq_true]
  repeat (first | refine W.seq ?_ | refine W.block ?_ | refine W.reg ?_ | refine W.skip ?_ | refine W.exit ?_ | refine W.ret ?_ | refine L.nil ?_ | refine L.p rfl rfl ?_ | refine L.skip rfl ?_)
  refine L.cl (same_C _ _ (outL (unB l)) (outL (unB l)) d2.n d6.n S6 p2.slv o6.slv p2.nlt o6.nlt) rfl rfl ?_
  rintro _ M5 ⟨rfl, hS⟩
  have hS := hS.symm
  subst hS
  refine ⟨nofun, ?_⟩
  rw [beq_self_eq_true]
  repeat (first | refine W.seq ?_ | refine W.block ?_ | refine W.reg ?_ | refine W.skip ?_ | refine W.exit ?_ | refine W.ret ?_ | refine L.nil ?_ | refine L.p rfl rfl ?_ | refine L.skip rfl ?_)
  refine L.cl (same_C _ _ (outL (unhexH none l)) (outL (unhexH none l)) d3.n d5.n S6 p3.slv p5.slv p3.nlt p5.nlt) rfl rfl ?_
  rintro _ M5 ⟨rfl, hS⟩
  have hS := hS.symm
  subst hS
  refine ⟨nofun, ?_⟩
  rw [beq_self_eq_true]
  repeat (first | refine W.seq ?_ | refine W.block ?_ | refine W.reg ?_ | refine W.skip ?_ | refine W.exit ?_ | refine W.ret ?_ | refine L.nil ?_ | refine L.p rfl rfl ?_ | refine L.skip rfl ?_)
  refine L.cl (same_C _ _ (outL (unB l)) (outL (unB l)) d4.n d6.n S6 p4.slv o6.slv p4.nlt o6.nlt) rfl rfl ?_
  rintro _ M5 ⟨rfl, hS⟩
  have hS := hS.symm
  subst hS
  refine ⟨nofun, ?_⟩
  rw [beq_self_eq_true]
  repeat (first | refine W.seq ?_ | refine W.block ?_ | refine W.reg ?_ | refine W.skip ?_ | refine W.exit ?_ | refine W.ret ?_ | refine L.nil ?_ | refine L.p rfl rfl ?_ | refine L.skip rfl ?_)
  refine W.ite rfl (fun h => ?_) (fun h => ?_)
  · cases h
  repeat (first | refine W.seq ?_ | refine W.block ?_ | refine W.reg ?_ | refine W.skip ?_ | refine W.exit ?_ | refine W.ret ?_ | refine L.nil ?_ | refine L.p rfl rfl ?_ | refine L.skip rfl ?_)
  refine L.eff (v := .pointer (some ⟨S6.length, 0, none⟩)) (S1 := S6 ++ [newR [.slice none 0 0, .slice none 0 0] 34]) rfl rfl ?_
  have hB0 := BK.new S6
  generalize S6 ++ [newR [.slice none 0 0, .slice none 0 0] 34] = N0 at *
  obtain ⟨rb, hrb⟩ : ∃ rb, rb = S6.length := ⟨_, rfl⟩
  rw [← hrb] at hB0 ⊢
  repeat (first | refine W.seq ?_ | refine W.block ?_ | refine W.reg ?_ | refine W.skip ?_ | refine W.exit ?_ | refine W.ret ?_ | refine L.nil ?_ | refine L.p rfl rfl ?_ | refine L.skip rfl ?_)
  refine L.cl (bytes_BK d1 hB0 (by simp)) rfl rfl ?_
  rintro _ N1 hB1
  refine ⟨nofun, ?_⟩
  repeat (first | refine W.seq ?_ | refine W.block ?_ | refine W.reg ?_ | refine W.skip ?_ | refine W.exit ?_ | refine W.ret ?_ | refine L.nil ?_ | refine L.p rfl rfl ?_ | refine L.skip rfl ?_)
  refine L.cl (bytes_BK d2 hB1 (by simp)) rfl rfl ?_
  rintro _ N2 hB2
  refine ⟨nofun, ?_⟩
  repeat (first | refine W.seq ?_ | refine W.block ?_ | refine W.reg ?_ | refine W.skip ?_ | refine W.exit ?_ | refine W.ret ?_ | refine L.nil ?_ | refine L.p rfl rfl ?_ | refine L.skip rfl ?_)
  refine L.cl (bytes_BK d3 hB2 (by simp)) rfl rfl ?_
  rintro _ N3 hB3
  refine ⟨nofun, ?_⟩
  repeat (first | refine W.seq ?_ | refine W.block ?_ | refine W.reg ?_ | refine W.skip ?_ | refine W.exit ?_ | refine W.ret ?_ | refine L.nil ?_ | refine L.p rfl rfl ?_ | refine L.skip rfl ?_)
  refine L.cl (bytes_BK d4 hB3 (by simp)) rfl rfl ?_
  rintro _ N4 hB4
  refine ⟨nofun, ?_⟩
  repeat (first | refine W.seq ?_ | refine W.block ?_ | refine W.reg ?_ | refine W.skip ?_ | refine W.exit ?_ | refine W.ret ?_ | refine L.nil ?_ | refine L.p rfl rfl ?_ | refine L.skip rfl ?_)
  have w1 : (bv (outL (unhexH none l))).length ≤ 1000000000000 := by rw [bv_len]; omega
  have w2 : (bv (outL (unB l))).length ≤ 1000000000000 := by rw [bv_len]; omega
  refine L.cl (apart_BK hB4 ⟨by simp, by simp⟩ (.nil _ _) (.add p1.2.2.1 w1 (.add p2.2.2.1 w2 (.add p3.2.2.1 w1 (.add p4.2.2.1 w2 (.nil _ _))))) .nil
    (.add (fun b hb hm => ?_) (.add (fun b hb hm => ?_) (.add (fun b hb hm => ?_) (.add (fun x e hm => by simp [blks] at hm) .nil)))) (by simp [blks])) rfl rfl ?_
  · have := o1.lt hb
    have hm : b ∈ blks [d2, d3, d4] := hm
    simp only [mem_blks, blks_nil, List.not_mem_nil, or_false] at hm
    rcases hm with hm | hm | hm
    · have := o2.ge hm; omega
    · have := o3.ge hm; have := o2.1.len; omega
    · have := o4.ge hm; have := o2.1.len; have := o3.1.len; omega
  · have := o2.lt hb
    have hm : b ∈ blks [d3, d4] := hm
    simp only [mem_blks, blks_nil, List.not_mem_nil, or_false] at hm
    rcases hm with hm | hm
    · have := o3.ge hm; omega
    · have := o4.ge hm; have := o3.1.len; omega
  · have := o3.lt hb
    have hm : b ∈ blks [d4] := hm
    simp only [mem_blks, blks_nil, List.not_mem_nil, or_false] at hm
    have := o4.ge hm; omega
  rintro _ N5 ⟨rfl, hk⟩
  refine ⟨nofun, ?_⟩
  have hN5 : Cons S N5 := hk.cons0 k6 (fun x hm => by
    have hm : x ∈ blks [] ++ blks [d1, d2, d3, d4] := hm
    simp only [blks_nil, List.nil_append, mem_blks, List.not_mem_nil, or_false] at hm
    rcases hm with hm | hm | hm | hm
    · exact o1.ge hm
    · have := o2.ge hm; have := o1.1.len; omega
    · have := o3.ge hm; have := k2.len; omega
    · have := o4.ge hm; have := k3.len; omega)
  repeat (first | refine W.seq ?_ | refine W.block ?_ | refine W.reg ?_ | refine W.skip ?_ | refine W.exit ?_ | refine W.ret ?_ | refine L.nil ?_ | refine L.p rfl rfl ?_ | refine L.skip rfl ?_)
  refine L.cl (works_C _ (hR.cons hN5)) rfl rfl ?_
  rintro _ N6 ⟨rfl, hc⟩
  refine ⟨fun _ => hc, ?_⟩
  repeat (first | refine W.seq ?_ | refine W.block ?_ | refine W.reg ?_ | refine W.skip ?_ | refine W.exit ?_ | refine W.ret ?_ | refine L.nil ?_ | refine L.p rfl rfl ?_ | refine L.skip rfl ?_)
  exact ⟨.inr rfl, _, rfl, rfl, hN5.trans hc⟩
end Go.Proofs.YtkiecgkgbogbaaaDoor

/- Layer 6: what was told is read again, in any letters, cut short; pure. Conditions: none. -/
set_option linter.unusedSimpArgs false
set_option linter.unusedVariables false
set_option maxRecDepth 100000
namespace Go.Proofs.YtkiecgkgbogbaaaDoor
open Go
theorem hexV_hexD {n : Nat} (h : n < 16) : hexV (hexD n).toNat = some n := by
  have : ∀ n : Fin 16, hexV (hexD n.val).toNat = some n.val := by decide +kernel
  exact this ⟨n, h⟩
theorem hexS_cons (x : BitVec 8) (l : BL) : hexS (x :: l) = hexD (x.toNat / 16) :: hexD (x.toNat % 16) :: hexS l := rfl
theorem unhex_two' {p q : BitVec 8} {a b : Nat} (ha : hexV p.toNat = some a) (hb : hexV q.toNat = some b) (l : BL) : unhexH none (p :: q :: l) = (unhexH none l).map (BitVec.ofNat 8 (16 * a + b) :: ·) := by
  show (hexV p.toNat).bind _ = _
  rw [ha]
  show (hexV q.toNat).bind _ = _
  rw [hb]; rfl
theorem hl_join (x : BitVec 8) : BitVec.ofNat 8 (16 * (x.toNat / 16) + x.toNat % 16) = x := by
  rw [Nat.div_add_mod]; simp
theorem unhex_hexS : ∀ l : BL, unhexH none (hexS l) = some l
  | [] => rfl
  | x :: l => by
    have hx := x.isLt
    rw [hexS_cons, unhex_two' (hexV_hexD (by omega)) (hexV_hexD (by omega)), unhex_hexS l, hl_join]; rfl
/-- a great letter for a small one -/
def upN (n : Nat) : Nat := if 97 ≤ n then n - 32 else n
def upB (x : BitVec 8) : BitVec 8 := BitVec.ofNat 8 (upN x.toNat)
theorem hexV_upD {n : Nat} (h : n < 16) : hexV (upB (hexD n)).toNat = some n := by
  have : ∀ n : Fin 16, hexV (upB (hexD n.val)).toNat = some n.val := by decide +kernel
  exact this ⟨n, h⟩
theorem unhex_up : ∀ l : BL, unhexH none ((hexS l).map upB) = some l
  | [] => rfl
  | x :: l => by
    have hx := x.isLt
    rw [hexS_cons, List.map_cons, List.map_cons, unhex_two' (hexV_upD (by omega)) (hexV_upD (by omega)), unhex_up l, hl_join]; rfl
theorem up_wrap {x : BitVec 8} (h : 97 ≤ x.toNat) : IntKind.u8.wrap (IntKind.u8.wrap ((x.toNat : Int) - 97) + 65) = ((upB x).toNat : Int) := by
  have : ∀ n : Fin 256, 97 ≤ n.val → IntKind.u8.wrap (IntKind.u8.wrap ((n.val : Int) - 97) + 65) = ((BitVec.ofNat 8 (upN n.val)).toNat : Int) := by decide +kernel
  exact this ⟨x.toNat, x.isLt⟩ h
theorem up_same {x : BitVec 8} (h : ¬ 97 ≤ x.toNat) : upB x = x := by
  unfold upB upN; rw [if_neg h]; simp
/-- a small letter for a great one -/
def lowB (x : BitVec 8) : BitVec 8 := BitVec.ofNat 8 (lowN x.toNat)
theorem hexD_low {x : BitVec 8} {a : Nat} (h : hexV x.toNat = some a) : hexD a = lowB x := by
  have : ∀ n : Fin 256, ∀ a, hexV n.val = some a → hexD a = BitVec.ofNat 8 (lowN n.val) := by
    intro n a h
    have : ∀ n : Fin 256, (match hexV n.val with | some a => decide (hexD a = BitVec.ofNat 8 (lowN n.val)) | none => true) = true := by decide +kernel
    have := this n
    rw [h] at this
    exact of_decide_eq_true this
  exact this ⟨x.toNat, x.isLt⟩ a h
theorem low_two (x : BitVec 8) : lowB x = x ∨ ((lowB x).toNat : Int) = IntKind.u8.wrap (IntKind.u8.wrap ((x.toNat : Int) + 97) - 65) := by
  by_cases h : 65 ≤ x.toNat ∧ x.toNat ≤ 70
  · exact .inr (low_wrap h.1 h.2).symm
  · left; unfold lowB lowN; rw [if_neg h]; simp
theorem unhex_low : ∀ (l : BL) (o : Option Nat) (m : BL), (∀ a, o = some a → a < 16) → unhexH o l = some m → hexS m = (match o with | some a => [hexD a] | none => []) ++ l.map lowB
  | [], none, m, _, h => by cases h; rfl
  | [], some _, m, _, h => by cases h
  | x :: l, none, m, ho, h => by
    unfold unhexH at h
    rw [Option.bind_eq_some_iff] at h
    obtain ⟨d, hd, h⟩ := h
    rw [unhex_low l _ m (fun a e => by cases e; exact hexV_lt hd) h]
    show [hexD d] ++ _ = _
    rw [hexD_low hd]; rfl
  | x :: l, some a, m, ho, h => by
    unfold unhexH at h
    rw [Option.bind_eq_some_iff] at h
    obtain ⟨d, hd, h⟩ := h
    rw [Option.map_eq_some_iff] at h
    obtain ⟨m', h, rfl⟩ := h
    have ha := ho a rfl
    have hd16 := hexV_lt hd
    have := unhex_low l none m' nofun h
    rw [hexS_cons, this, List.map_cons, ← hexD_low hd, show (BitVec.ofNat 8 (16 * a + d)).toNat = 16 * a + d by rw [BitVec.toNat_ofNat]; omega, show (16 * a + d) / 16 = a by omega, show (16 * a + d) % 16 = d by omega]; rfl
theorem unhex_lowS {l m : BL} (h : unhexH none l = some m) : hexS m = l.map lowB := unhex_low l none m nofun h
/-- a text's beginning -/
theorem b64_take : ∀ (n : Nat) (l : BL), (b64S l).take (4 * n) = b64S (l.take (3 * n))
  | 0, l => by simp; rfl
  | n + 1, [] => by simp [b64S]
  | n + 1, [x] => by
    rw [List.take_of_length_le (by rw [b64S_len]; simp; omega), List.take_of_length_le (by simp; omega)]
  | n + 1, [x, y] => by
    rw [List.take_of_length_le (by rw [b64S_len]; simp; omega), List.take_of_length_le (by simp; omega)]
  | n + 1, x :: y :: z :: m => by
    show (grp [x, y, z] ++ b64S m).take (4 * (n + 1)) = _
    rw [show 3 * (n + 1) = 3 * n + 1 + 1 + 1 by omega, List.take_succ_cons, List.take_succ_cons, List.take_succ_cons]
    show _ = grp [x, y, z] ++ b64S (m.take (3 * n))
    rw [← b64_take n m, show 4 * (n + 1) = (grp [x, y, z]).length + 4 * n by show _ = 4 + _; omega, List.take_append]
    rw [List.take_of_length_le (by omega), Nat.add_sub_cancel_left]
theorem unB_take (n : Nat) (l : BL) : unB ((b64S l).take (4 * n)) = some (l.take (3 * n)) := by rw [b64_take, unB_back]
theorem unB_odd {l : BL} (h : l.length % 4 ≠ 0) : unB l = none := by unfold unB; rw [if_neg h]
end Go.Proofs.YtkiecgkgbogbaaaDoor

/- The law of there and back, walked. Conditions: none. -/
set_option linter.unusedSimpArgs false
set_option linter.unusedVariables false
set_option maxRecDepth 100000
namespace Go.Proofs.YtkiecgkgbogbaaaDoor
open Go
variable {Ext : FuncId → List Value → Mem → Outc → Mem → Prop}
theorem pick_nat (i : Int) (n : Nat) : ∃ k : Nat, pick i ((n : Int) + 1) = (k : Int) ∧ k ≤ n := by
  have h1 := Int.tmod_lt_of_pos i (show (0 : Int) < (n : Int) + 1 by omega)
  have h2 : - ((n : Int) + 1) < i.tmod ((n : Int) + 1) := Int.lt_tmod_of_pos i (by omega)
  unfold pick
  rw [if_neg (by omega)]
  split
  · exact ⟨(i.tmod ((n : Int) + 1) + ((n : Int) + 1)).toNat, by omega, by omega⟩
  · exact ⟨(i.tmod ((n : Int) + 1)).toNat, by omega, by omega⟩
theorem back_C (a : Option Addr) (c : Nat) (l : BL) (cut : Int) (S : Mem) (hs : Slv S 1 (.slice a l.length c) l.length (bv l)) (hk : Cut l.length c) (hR : RowsOk S) :
    C Tryd.prog 1 Ext 5 [.slice a l.length c, .int .i64 cut] S fun v S' => v = .bool true ∧ Cons S S' := by
  refine C.fn Tryd.func5 rfl (by kernel_rfl) rfl ?_
  repeat (first | refine W.seq ?_ | refine W.block ?_ | refine W.reg ?_ | refine W.skip ?_ | refine W.exit ?_ | refine W.ret ?_ | refine L.nil ?_ | refine L.p rfl rfl ?_ | refine L.skip rfl ?_)
  refine W.ite rfl (fun h => ?_) (fun h => ?_)
  · repeat (first | refine W.seq ?_ | refine W.block ?_ | refine W.reg ?_ | refine W.skip ?_ | refine W.exit ?_ | refine W.ret ?_ | refine L.nil ?_ | refine L.p rfl rfl ?_ | refine L.skip rfl ?_)
    exact ⟨.inr rfl, _, rfl, rfl, Cons.refl _⟩
  have hl : l.length ≤ 4096 := by have := of_decide_eq_false h; omega
  clear h
  have hI : BIn S a c l := ⟨hs, hk, by omega⟩
  have hxl := hexS_len l
  have hbl := b64S_len l
  repeat (first | refine W.seq ?_ | refine W.block ?_ | refine W.reg ?_ | refine W.skip ?_ | refine W.exit ?_ | refine W.ret ?_ | refine L.nil ?_ | refine L.p rfl rfl ?_ | refine L.skip rfl ?_)
  refine L.cl (hex_C _ _ l S hI.1 (by omega)) rfl rfl ?_
  rintro _ S1 ⟨rfl, c1⟩
  refine ⟨fun _ => c1, ?_⟩
  repeat (first | refine W.seq ?_ | refine W.block ?_ | refine W.reg ?_ | refine W.skip ?_ | refine W.exit ?_ | refine W.ret ?_ | refine L.nil ?_ | refine L.p rfl rfl ?_ | refine L.skip rfl ?_)
  refine L.cl (base64_C _ _ l S1 (hI.cons c1) (by omega) (hR.cons c1)) rfl rfl ?_
  rintro _ S2 ⟨rfl, c2⟩
  refine ⟨fun _ => c2, ?_⟩
  have k2 := c1.trans c2
  repeat (first | refine W.seq ?_ | refine W.block ?_ | refine W.reg ?_ | refine W.skip ?_ | refine W.exit ?_ | refine W.ret ?_ | refine L.nil ?_ | refine L.p rfl rfl ?_ | refine L.skip rfl ?_)
  have h3 := unhex_C (G := 1) (Ext := Ext) (hexS l) (by omega) S2
  rw [unhex_hexS] at h3
  refine L.cl h3 rfl rfl ?_
  rintro _ S3 hr
  obtain ⟨d1, rfl, o1⟩ := hr.some
  clear hr h3
  refine ⟨fun _ => o1.1, ?_⟩
  have k3 := k2.trans o1.1
  repeat (first | refine W.seq ?_ | refine W.block ?_ | refine W.reg ?_ | refine W.skip ?_ | refine W.exit ?_ | refine W.ret ?_ | refine L.nil ?_ | refine L.p rfl rfl ?_ | refine L.skip rfl ?_)
  have h4 := unbase64_C (Ext := Ext) (b64S l) (by omega) S3 (hR.cons k3)
  rw [unB_back] at h4
  refine L.cl h4 rfl rfl ?_
  rintro _ S4 hr
  obtain ⟨d2, rfl, o2⟩ := hr.some
  clear hr h4
  refine ⟨fun _ => o2.1, ?_⟩
  have k4 := k3.trans o2.1
  repeat (first | refine W.seq ?_ | refine W.block ?_ | refine W.reg ?_ | refine W.skip ?_ | refine W.exit ?_ | refine W.ret ?_ | refine L.nil ?_ | refine L.p rfl rfl ?_ | refine L.skip rfl ?_)
  have p1 := o1.post o2.1
  refine L.cl (same_C _ _ l l d1.n l.length S4 p1.slv (hI.cons k4).1 p1.nlt (by omega)) rfl rfl ?_
  rintro _ M5 ⟨rfl, hS⟩
  have hS := hS.symm
  subst hS
  refine ⟨nofun, ?_⟩
  rw [beq_self_eq_true]
  repeat (first | refine W.seq ?_ | refine W.block ?_ | refine W.reg ?_ | refine W.skip ?_ | refine W.exit ?_ | refine W.ret ?_ | refine L.nil ?_ | refine L.p rfl rfl ?_ | refine L.skip rfl ?_)
  refine L.cl (same_C _ _ l l d2.n l.length S4 o2.slv (hI.cons k4).1 o2.nlt (by omega)) rfl rfl ?_
  rintro _ M5 ⟨rfl, hS⟩
  have hS := hS.symm
  subst hS
  refine ⟨nofun, ?_⟩
  rw [beq_self_eq_true]
  repeat (first | refine W.seq ?_ | refine W.block ?_ | refine W.reg ?_ | refine W.skip ?_ | refine W.exit ?_ | refine W.ret ?_ | refine L.nil ?_ | refine L.p rfl rfl ?_ | refine L.skip rfl ?_)
  refine L.tlen rfl rfl rfl rfl ?_
  repeat (first | refine W.seq ?_ | refine W.block ?_ | refine W.reg ?_ | refine W.skip ?_ | refine W.exit ?_ | refine W.ret ?_ | refine L.nil ?_ | refine L.p rfl rfl ?_ | refine L.skip rfl ?_)
  rw [wrap64 (show -9223372036854775808 ≤ 2 * (l.length : Int) by omega) (by omega), hxl, show (((2 * l.length : Nat) : Int) != 2 * (l.length : Int)) = false by simp]
  repeat (first | refine W.seq ?_ | refine W.block ?_ | refine W.reg ?_ | refine W.skip ?_ | refine W.exit ?_ | refine W.ret ?_ | refine L.nil ?_ | refine L.p rfl rfl ?_ | refine L.skip rfl ?_)
  refine L.tlen rfl rfl rfl rfl ?_
  repeat (first | refine W.seq ?_ | refine W.block ?_ | refine W.reg ?_ | refine W.skip ?_ | refine W.exit ?_ | refine W.ret ?_ | refine L.nil ?_ | refine L.p rfl rfl ?_ | refine L.skip rfl ?_)
  refine W.ite rfl (fun h => ?_) (fun h => ?_)
  · exfalso
    have h0 := h
    rw [wrap64 (show -9223372036854775808 ≤ (l.length : Int) + 2 by omega) (by omega), show ((l.length : Int) + 2).tdiv 3 = (((l.length + 2) / 3 : Nat) : Int) from (Int.ofNat_tdiv (l.length + 2) 3).symm, wrap64 (show -9223372036854775808 ≤ (((l.length + 2) / 3 : Nat) : Int) by omega) (by omega), wrap64 (show -9223372036854775808 ≤ (((l.length + 2) / 3 : Nat) : Int) * 4 by omega) (by omega), hbl] at h0
    simp at h0
  clear h
  generalize hX : hexS l = X at *
  generalize hY : b64S l = Y at *
  repeat (first | refine W.seq ?_ | refine W.block ?_ | refine W.reg ?_ | refine W.skip ?_ | refine W.exit ?_ | refine W.ret ?_ | refine L.nil ?_ | refine L.p rfl rfl ?_ | refine L.skip rfl ?_)
  refine W.loop (fun j e T' => ∃ i, j = X.length - i ∧ i ≤ X.length ∧ Cons S4 T' ∧ e 0 = .slice a l.length c ∧ e 1 = .int .i64 cut ∧ e 5 = .string (strB X) ∧ e 6 = .string (strB Y) ∧ e 11 = .string (strB ((X.take i).map upB)) ∧ e 12 = vi i) X.length
    ⟨0, by omega, by omega, Cons.refl _, rfl, rfl, rfl, rfl, rfl, rfl⟩ ?_
  rintro j e T ⟨i, rfl, hi, hT, e0, e1, e5, e6, e11, e12⟩
  refine W.env6 e0 e1 e5 e6 e11 e12 ?_
  repeat (first | refine W.seq ?_ | refine W.block ?_ | refine W.reg ?_ | refine W.skip ?_ | refine W.exit ?_ | refine W.ret ?_ | refine L.nil ?_ | refine L.p rfl rfl ?_ | refine L.skip rfl ?_)
  refine L.tlen rfl rfl rfl rfl ?_
  repeat (first | refine W.seq ?_ | refine W.block ?_ | refine W.reg ?_ | refine W.skip ?_ | refine W.exit ?_ | refine W.ret ?_ | refine L.nil ?_ | refine L.p rfl rfl ?_ | refine L.skip rfl ?_)
  refine W.ite rfl (fun h => ?_) (fun h => ?_)
  · have hin : i < X.length := by have := of_decide_eq_true h; omega
    clear h
    obtain ⟨x, hx⟩ : ∃ x, X[i]? = some x := ⟨_, List.getElem?_eq_getElem hin⟩
    have hx8 := x.isLt
    have htk : ((X.take (i + 1)).map upB) = ((X.take i).map upB) ++ [upB x] := by
      rw [List.take_add_one, hx, List.map_append]; rfl
    have hlt : ((X.take i).map upB).length ≤ 10000 := by rw [List.length_map, List.length_take]; omega
    repeat (first | refine W.seq ?_ | refine W.block ?_ | refine W.reg ?_ | refine W.skip ?_ | refine W.exit ?_ | refine W.ret ?_ | refine L.nil ?_ | refine L.p rfl rfl ?_ | refine L.skip rfl ?_)
    refine L.sB (i := i) rfl rfl hx rfl rfl ?_
    repeat (first | refine W.seq ?_ | refine W.block ?_ | refine W.reg ?_ | refine W.skip ?_ | refine W.exit ?_ | refine W.ret ?_ | refine L.nil ?_ | refine L.p rfl rfl ?_ | refine L.skip rfl ?_)
    refine W.ite rfl (fun h => ?_) (fun h => ?_)
    · have h97 : 97 ≤ x.toNat := by have := of_decide_eq_true h; omega
      clear h
      repeat (first | refine W.seq ?_ | refine W.block ?_ | refine W.reg ?_ | refine W.skip ?_ | refine W.exit ?_ | refine W.ret ?_ | refine L.nil ?_ | refine L.p rfl rfl ?_ | refine L.skip rfl ?_)
      refine L.bs [v8 (upB x)] rfl rfl rfl ?_ rfl rfl ?_
      · exact congrArg (fun v => [(0, v)]) (congrArg (Value.int .u8) (up_wrap h97))
      have c6 : Cons T (T ++ [newR [v8 (upB x)] 5]) := Cons.push _ _
      have hH : HdOk (T ++ [newR [v8 (upB x)] 5]) 5 ⟨some T.length, 1, 1⟩ (bv [upB x]) := HdOk.full (row_push_new rfl) rfl rfl rfl (by decide)
      generalize T ++ [newR [v8 (upB x)] 5] = T1 at *
      repeat (first | refine W.seq ?_ | refine W.block ?_ | refine W.reg ?_ | refine W.skip ?_ | refine W.exit ?_ | refine W.ret ?_ | refine L.nil ?_ | refine L.p rfl rfl ?_ | refine L.skip rfl ?_)
      refine L.text (h := ⟨some T.length, 1, 1⟩) rfl hH rfl rfl rfl rfl ?_
      repeat (first | refine W.seq ?_ | refine W.block ?_ | refine W.reg ?_ | refine W.skip ?_ | refine W.exit ?_ | refine W.ret ?_ | refine L.nil ?_ | refine L.p rfl rfl ?_ | refine L.skip rfl ?_)
      refine L.tadd rfl rfl (by show _ + 1 < _; omega) rfl ?_
      repeat (first | refine W.seq ?_ | refine W.block ?_ | refine W.reg ?_ | refine W.skip ?_ | refine W.exit ?_ | refine W.ret ?_ | refine L.nil ?_ | refine L.p rfl rfl ?_ | refine L.skip rfl ?_)
      refine ⟨X.length - (i + 1), by omega, i + 1, rfl, by omega, hT.trans c6, rfl, rfl, rfl, rfl, ?_, ?_⟩
      · rw [htk]; rfl
      · refine (force_eq rfl).trans ?_
        rw [wrap64 (by omega) (by omega)]; rfl
    · have h97 : ¬ 97 ≤ x.toNat := by have := of_decide_eq_false h; omega
      clear h
      repeat (first | refine W.seq ?_ | refine W.block ?_ | refine W.reg ?_ | refine W.skip ?_ | refine W.exit ?_ | refine W.ret ?_ | refine L.nil ?_ | refine L.p rfl rfl ?_ | refine L.skip rfl ?_)
      refine L.bs [v8 (upB x)] rfl rfl rfl ?_ rfl rfl ?_
      · exact congrArg (fun v => [(0, v)]) (congrArg v8 (up_same h97).symm)
      have c6 : Cons T (T ++ [newR [v8 (upB x)] 5]) := Cons.push _ _
      have hH : HdOk (T ++ [newR [v8 (upB x)] 5]) 5 ⟨some T.length, 1, 1⟩ (bv [upB x]) := HdOk.full (row_push_new rfl) rfl rfl rfl (by decide)
      generalize T ++ [newR [v8 (upB x)] 5] = T1 at *
      repeat (first | refine W.seq ?_ | refine W.block ?_ | refine W.reg ?_ | refine W.skip ?_ | refine W.exit ?_ | refine W.ret ?_ | refine L.nil ?_ | refine L.p rfl rfl ?_ | refine L.skip rfl ?_)
      refine L.text (h := ⟨some T.length, 1, 1⟩) rfl hH rfl rfl rfl rfl ?_
      repeat (first | refine W.seq ?_ | refine W.block ?_ | refine W.reg ?_ | refine W.skip ?_ | refine W.exit ?_ | refine W.ret ?_ | refine L.nil ?_ | refine L.p rfl rfl ?_ | refine L.skip rfl ?_)
      refine L.tadd rfl rfl (by show _ + 1 < _; omega) rfl ?_
      repeat (first | refine W.seq ?_ | refine W.block ?_ | refine W.reg ?_ | refine W.skip ?_ | refine W.exit ?_ | refine W.ret ?_ | refine L.nil ?_ | refine L.p rfl rfl ?_ | refine L.skip rfl ?_)
      refine ⟨X.length - (i + 1), by omega, i + 1, rfl, by omega, hT.trans c6, rfl, rfl, rfl, rfl, ?_, ?_⟩
      · rw [htk]; rfl
      · refine (force_eq rfl).trans ?_
        rw [wrap64 (by omega) (by omega)]; rfl
  have hin : i = X.length := by have := of_decide_eq_false h; omega
  subst hin
  clear h
  rw [List.take_length]
  have kT := k4.trans hT
  repeat (first | refine W.seq ?_ | refine W.block ?_ | refine W.reg ?_ | refine W.skip ?_ | refine W.exit ?_ | refine W.ret ?_ | refine L.nil ?_ | refine L.p rfl rfl ?_ | refine L.skip rfl ?_)
  have h3 := unhex_C (G := 1) (Ext := Ext) (X.map upB) (by rw [List.length_map]; omega) T
  rw [show unhexH none (X.map upB) = some l by rw [← hX]; exact unhex_up l] at h3
  refine L.cl h3 rfl rfl ?_
  rintro _ S6 hr
  obtain ⟨d3, rfl, o3⟩ := hr.some
  clear hr h3
  refine ⟨fun _ => o3.1, ?_⟩
  have k6 := kT.trans o3.1
  repeat (first | refine W.seq ?_ | refine W.block ?_ | refine W.reg ?_ | refine W.skip ?_ | refine W.exit ?_ | refine W.ret ?_ | refine L.nil ?_ | refine L.p rfl rfl ?_ | refine L.skip rfl ?_)
  refine L.tadd (b := [61#8]) rfl rfl (by show _ + 1 < _; omega) rfl ?_
  repeat (first | refine W.seq ?_ | refine W.block ?_ | refine W.reg ?_ | refine W.skip ?_ | refine W.exit ?_ | refine W.ret ?_ | refine L.nil ?_ | refine L.p rfl rfl ?_ | refine L.skip rfl ?_)
  have h4 := unbase64_C (Ext := Ext) (Y ++ [61#8]) (by rw [List.length_append]; show _ + 1 < _; omega) S6 (hR.cons k6)
  rw [unB_odd (by rw [List.length_append]; show (_ + 1) % 4 ≠ 0; omega)] at h4
  refine L.cl h4 rfl rfl ?_
  rintro _ S7 hr
  obtain ⟨rfl, c7⟩ := hr.none
  clear hr h4
  refine ⟨fun _ => c7, ?_⟩
  have k7 := k6.trans c7
  repeat (first | refine W.seq ?_ | refine W.block ?_ | refine W.reg ?_ | refine W.skip ?_ | refine W.exit ?_ | refine W.ret ?_ | refine L.nil ?_ | refine L.p rfl rfl ?_ | refine L.skip rfl ?_)
  refine L.tadd (b := [48#8]) rfl rfl (by show _ + 1 < _; omega) rfl ?_
  repeat (first | refine W.seq ?_ | refine W.block ?_ | refine W.reg ?_ | refine W.skip ?_ | refine W.exit ?_ | refine W.ret ?_ | refine L.nil ?_ | refine L.p rfl rfl ?_ | refine L.skip rfl ?_)
  have h5 := unhex_C (G := 1) (Ext := Ext) (X ++ [48#8]) (by rw [List.length_append]; show _ + 1 < _; omega) S7
  rw [unhexH_odd (X ++ [48#8]) none (by rw [List.length_append]; show (_ + 1 + 0) % 2 = 1; omega)] at h5
  refine L.cl h5 rfl rfl ?_
  rintro _ S8 hr
  obtain ⟨rfl, c8⟩ := hr.none
  clear hr h5
  refine ⟨fun _ => c8, ?_⟩
  have k8 := k7.trans c8
  repeat (first | refine W.seq ?_ | refine W.block ?_ | refine W.reg ?_ | refine W.skip ?_ | refine W.exit ?_ | refine W.ret ?_ | refine L.nil ?_ | refine L.p rfl rfl ?_ | refine L.skip rfl ?_)
  have p3 := o3.post (c7.trans c8)
  refine L.cl (same_C _ _ l l d3.n l.length S8 p3.slv (hI.cons k8).1 p3.nlt (by omega)) rfl rfl ?_
  rintro _ M5 ⟨rfl, hS⟩
  have hS := hS.symm
  subst hS
  refine ⟨nofun, ?_⟩
  rw [beq_self_eq_true]
  repeat (first | refine W.seq ?_ | refine W.block ?_ | refine W.reg ?_ | refine W.skip ?_ | refine W.exit ?_ | refine W.ret ?_ | refine L.nil ?_ | refine L.p rfl rfl ?_ | refine L.skip rfl ?_)
  refine W.ite rfl (fun h => ?_) (fun h => ?_)
  · cases h
  clear h
  repeat (first | refine W.seq ?_ | refine W.block ?_ | refine W.reg ?_ | refine W.skip ?_ | refine W.exit ?_ | refine W.ret ?_ | refine L.nil ?_ | refine L.p rfl rfl ?_ | refine L.skip rfl ?_)
  refine L.tlen rfl rfl rfl rfl ?_
  repeat (first | refine W.seq ?_ | refine W.block ?_ | refine W.reg ?_ | refine W.skip ?_ | refine W.exit ?_ | refine W.ret ?_ | refine L.nil ?_ | refine L.p rfl rfl ?_ | refine L.skip rfl ?_)
  rw [wrap64 (show -9223372036854775808 ≤ (Y.length : Int) + 1 by omega) (by omega)]
  refine L.cl (pick_C cut ((Y.length : Int) + 1) (by omega) S8) rfl rfl ?_
  rintro _ M5 ⟨rfl, hS⟩
  have hS := hS.symm
  subst hS
  refine ⟨nofun, ?_⟩
  obtain ⟨k, hkp, hkl⟩ : ∃ k : Nat, pick cut ((Y.length : Int) + 1) = (k : Int) ∧ k ≤ Y.length := pick_nat cut Y.length
  rw [hkp]
  repeat (first | refine W.seq ?_ | refine W.block ?_ | refine W.reg ?_ | refine W.skip ?_ | refine W.exit ?_ | refine W.ret ?_ | refine L.nil ?_ | refine L.p rfl rfl ?_ | refine L.skip rfl ?_)
  refine L.upto (i := k) rfl rfl hkl rfl rfl ?_
  repeat (first | refine W.seq ?_ | refine W.block ?_ | refine W.reg ?_ | refine W.skip ?_ | refine W.exit ?_ | refine W.ret ?_ | refine L.nil ?_ | refine L.p rfl rfl ?_ | refine L.skip rfl ?_)
  have h6 := unbase64_C (Ext := Ext) (Y.take k) (by rw [List.length_take]; omega) S8 (hR.cons k8)
  by_cases hk4 : k % 4 = 0
  · have h7 : unB (Y.take k) = some (l.take (3 * (k / 4))) := by
      rw [← hY]
      have := unB_take (k / 4) l
      rwa [show 4 * (k / 4) = k by omega] at this
    rw [h7] at h6
    refine L.cl h6 rfl rfl ?_
    rintro _ S9 hr
    obtain ⟨d4, rfl, o4⟩ := hr.some
    clear hr h6
    refine ⟨fun _ => o4.1, ?_⟩
    have k9 := k8.trans o4.1
    repeat (first | refine W.seq ?_ | refine W.block ?_ | refine W.reg ?_ | refine W.skip ?_ | refine W.exit ?_ | refine W.ret ?_ | refine L.nil ?_ | refine L.p rfl rfl ?_ | refine L.skip rfl ?_)
    rw [show ((k : Int).tmod 4) = ((k % 4 : Nat) : Int) from (Int.ofNat_tmod k 4).symm, hk4, show ((((0 : Nat) : Int)) == 0) = true from rfl]
    repeat (first | refine W.seq ?_ | refine W.block ?_ | refine W.reg ?_ | refine W.skip ?_ | refine W.exit ?_ | refine W.ret ?_ | refine L.nil ?_ | refine L.p rfl rfl ?_ | refine L.skip rfl ?_)
    rw [show ((k : Int).tdiv 4) = ((k / 4 : Nat) : Int) from (Int.ofNat_tdiv k 4).symm, wrap64 (show -9223372036854775808 ≤ ((k / 4 : Nat) : Int) by omega) (by omega), wrap64 (show -9223372036854775808 ≤ ((k / 4 : Nat) : Int) * 3 by omega) (by omega)]
    refine L.min (c := ((min l.length (3 * (k / 4)) : Nat) : Int)) rfl rfl rfl ?_ ?_
    · split <;> omega
    have hmn : min l.length (3 * (k / 4)) ≤ l.length := Nat.min_le_left _ _
    obtain ⟨a9, c9, hsl, hI9⟩ := (hI.cons k9).part (lo := none) (hi := some (.int .i64 ((min l.length (3 * (k / 4)) : Nat) : Int))) (k := 0) (h := min l.length (3 * (k / 4))) (.inl ⟨rfl, rfl⟩) (.inr ⟨_, rfl⟩) (Nat.zero_le _) hmn
    rw [List.drop_zero, Nat.sub_zero, show l.take (min l.length (3 * (k / 4))) = l.take (3 * (k / 4)) by rw [Nat.min_comm, ← List.take_eq_take_min]] at hsl hI9
    refine L.is (.slice a9 (l.take (3 * (k / 4))).length c9) ?_ rfl ?_
    · exact (slice_at0 rfl rfl rfl).trans hsl
    refine L.cl (same_C _ _ (l.take (3 * (k / 4))) (l.take (3 * (k / 4))) d4.n _ S9 o4.slv hI9.1 o4.nlt (by rw [List.length_take]; omega)) rfl rfl ?_
    rintro _ M5 ⟨rfl, hS⟩
    have hS := hS.symm
    subst hS
    refine ⟨fun _ => Cons.refl _, ?_⟩
    rw [show (l.take (3 * (k / 4)) == l.take (3 * (k / 4))) = true from beq_self_eq_true _]
    repeat (first | refine W.seq ?_ | refine W.block ?_ | refine W.reg ?_ | refine W.skip ?_ | refine W.exit ?_ | refine W.ret ?_ | refine L.nil ?_ | refine L.p rfl rfl ?_ | refine L.skip rfl ?_)
    refine L.cl (works_C _ (hR.cons k9)) rfl rfl ?_
    rintro _ S10 ⟨rfl, c10⟩
    refine ⟨fun _ => c10, ?_⟩
    repeat (first | refine W.seq ?_ | refine W.block ?_ | refine W.reg ?_ | refine W.skip ?_ | refine W.exit ?_ | refine W.ret ?_ | refine L.nil ?_ | refine L.p rfl rfl ?_ | refine L.skip rfl ?_)
    exact ⟨.inr rfl, _, rfl, rfl, k9.trans c10⟩
  · rw [unB_odd (by rw [List.length_take, Nat.min_eq_left hkl]; exact hk4)] at h6
    refine L.cl h6 rfl rfl ?_
    rintro _ S9 hr
    obtain ⟨rfl, c9⟩ := hr.none
    clear hr h6
    refine ⟨fun _ => c9, ?_⟩
    have k9 := k8.trans c9
    repeat (first | refine W.seq ?_ | refine W.block ?_ | refine W.reg ?_ | refine W.skip ?_ | refine W.exit ?_ | refine W.ret ?_ | refine L.nil ?_ | refine L.p rfl rfl ?_ | refine L.skip rfl ?_)
    rw [show ((k : Int).tmod 4) = ((k % 4 : Nat) : Int) from (Int.ofNat_tmod k 4).symm, show (((k % 4 : Nat) : Int) == 0) = false by rw [beq_eq_false_iff_ne]; omega]
    repeat (first | refine W.seq ?_ | refine W.block ?_ | refine W.reg ?_ | refine W.skip ?_ | refine W.exit ?_ | refine W.ret ?_ | refine L.nil ?_ | refine L.p rfl rfl ?_ | refine L.skip rfl ?_)
    refine L.cl (works_C _ (hR.cons k9)) rfl rfl ?_
    rintro _ S10 ⟨rfl, c10⟩
    refine ⟨fun _ => c10, ?_⟩
    repeat (first | refine W.seq ?_ | refine W.block ?_ | refine W.reg ?_ | refine W.skip ?_ | refine W.exit ?_ | refine W.ret ?_ | refine L.nil ?_ | refine L.p rfl rfl ?_ | refine L.skip rfl ?_)
    exact ⟨.inr rfl, _, rfl, rfl, k9.trans c10⟩
end Go.Proofs.YtkiecgkgbogbaaaDoor

/- The law of texts told again, walked. Conditions: none. -/
set_option linter.unusedSimpArgs false
set_option linter.unusedVariables false
set_option maxRecDepth 100000
namespace Go.Proofs.YtkiecgkgbogbaaaDoor
open Go
variable {Ext : FuncId → List Value → Mem → Outc → Mem → Prop}
theorem once_C (s : ByteArray) (S : Mem) (hR : RowsOk S) :
    C Tryd.prog 1 Ext 6 [.string s] S fun v S' => v = .bool true ∧ Cons S S' := by
  obtain ⟨l, rfl⟩ := strB_of s
  refine C.fn Tryd.func6 rfl (by kernel_rfl) rfl ?_
  repeat (first | refine W.seq ?_ | refine W.block ?_ | refine W.reg ?_ | refine W.skip ?_ | refine W.exit ?_ | refine W.ret ?_ | refine L.nil ?_ | refine L.p rfl rfl ?_ | refine L.skip rfl ?_)
  refine L.tlen rfl rfl rfl rfl ?_
  repeat (first | refine W.seq ?_ | refine W.block ?_ | refine W.reg ?_ | refine W.skip ?_ | refine W.exit ?_ | refine W.ret ?_ | refine L.nil ?_ | refine L.p rfl rfl ?_ | refine L.skip rfl ?_)
  refine W.ite rfl (fun h => ?_) (fun h => ?_)
  · repeat (first | refine W.seq ?_ | refine W.block ?_ | refine W.reg ?_ | refine W.skip ?_ | refine W.exit ?_ | refine W.ret ?_ | refine L.nil ?_ | refine L.p rfl rfl ?_ | refine L.skip rfl ?_)
    exact ⟨.inr rfl, _, rfl, rfl, Cons.refl _⟩
  have hl : l.length ≤ 4096 := by have := of_decide_eq_false h; omega
  clear h
  have n2 := unB_len l
  repeat (first | refine W.seq ?_ | refine W.block ?_ | refine W.reg ?_ | refine W.skip ?_ | refine W.exit ?_ | refine W.ret ?_ | refine L.nil ?_ | refine L.p rfl rfl ?_ | refine L.skip rfl ?_)
  refine L.cl (unbase64_C l (by omega) S hR) rfl rfl ?_
  rintro _ S1 hr
  cases hu : unB l with
  | none =>
    rw [hu] at hr
    obtain ⟨rfl, c1⟩ := hr.none
    refine ⟨fun _ => c1, ?_⟩
    repeat (first | refine W.seq ?_ | refine W.block ?_ | refine W.reg ?_ | refine W.skip ?_ | refine W.exit ?_ | refine W.ret ?_ | refine L.nil ?_ | refine L.p rfl rfl ?_ | refine L.skip rfl ?_)
    refine W.ite rfl (fun h => ?_) (fun h => ?_)
    · cases h
    clear hu hr
    obtain ⟨S2, hS2⟩ : ∃ S2, S2 = S1 := ⟨_, rfl⟩
    rw [← hS2] at c1 ⊢
    repeat (first | refine W.seq ?_ | refine W.block ?_ | refine W.reg ?_ | refine W.skip ?_ | refine W.exit ?_ | refine W.ret ?_ | refine L.nil ?_ | refine L.p rfl rfl ?_ | refine L.skip rfl ?_)
    refine L.cl (unhex_C l (by omega) S2) rfl rfl ?_
    rintro _ S3 hr
    have k2 : Cons S S2 := by assumption
    cases hu : unhexH none l with
    | none =>
      rw [hu] at hr
      obtain ⟨rfl, c3⟩ := hr.none
      refine ⟨fun _ => c3, ?_⟩
      repeat (first | refine W.seq ?_ | refine W.block ?_ | refine W.reg ?_ | refine W.skip ?_ | refine W.exit ?_ | refine W.ret ?_ | refine L.nil ?_ | refine L.p rfl rfl ?_ | refine L.skip rfl ?_)
      refine W.ite rfl (fun h => ?_) (fun h => ?_)
      rotate_left
      · cases h
      repeat (first | refine W.seq ?_ | refine W.block ?_ | refine W.reg ?_ | refine W.skip ?_ | refine W.exit ?_ | refine W.ret ?_ | refine L.nil ?_ | refine L.p rfl rfl ?_ | refine L.skip rfl ?_)
      refine L.cl (works_C _ (hR.cons (k2.trans c3))) rfl rfl ?_
      rintro _ S4 ⟨rfl, c4⟩
      refine ⟨fun _ => c4, ?_⟩
      repeat (first | refine W.seq ?_ | refine W.block ?_ | refine W.reg ?_ | refine W.skip ?_ | refine W.exit ?_ | refine W.ret ?_ | refine L.nil ?_ | refine L.p rfl rfl ?_ | refine L.skip rfl ?_)
      exact ⟨.inr rfl, _, rfl, rfl, (k2.trans c3).trans c4⟩
    | some m =>
      rw [hu] at hr
      obtain ⟨d, rfl, o⟩ := hr.some
      refine ⟨fun _ => o.1, ?_⟩
      have hml := unhex_len l
      rw [hu] at hml
      have hml : m.length ≤ l.length := hml
      have hlow := unhex_lowS hu
      repeat (first | refine W.seq ?_ | refine W.block ?_ | refine W.reg ?_ | refine W.skip ?_ | refine W.exit ?_ | refine W.ret ?_ | refine L.nil ?_ | refine L.p rfl rfl ?_ | refine L.skip rfl ?_)
      refine W.ite rfl (fun h => ?_) (fun h => ?_)
      · cases h
      repeat (first | refine W.seq ?_ | refine W.block ?_ | refine W.reg ?_ | refine W.skip ?_ | refine W.exit ?_ | refine W.ret ?_ | refine L.nil ?_ | refine L.p rfl rfl ?_ | refine L.skip rfl ?_)
      have hb := o.bin
      have h5 := hex_C (G := 1) (Ext := Ext) _ _ _ S3 hb.1.1 (by omega)
      rw [← hb.2] at h5
      refine L.cl h5 rfl rfl ?_
      rintro _ S4 ⟨rfl, c4⟩
      refine ⟨fun _ => c4, ?_⟩
      have k4 := k2.trans (o.1.trans c4)
      repeat (first | refine W.seq ?_ | refine W.block ?_ | refine W.reg ?_ | refine W.skip ?_ | refine W.exit ?_ | refine W.ret ?_ | refine L.nil ?_ | refine L.p rfl rfl ?_ | refine L.skip rfl ?_)
      refine L.tlen rfl rfl rfl rfl ?_
      repeat (first | refine W.seq ?_ | refine W.block ?_ | refine W.reg ?_ | refine W.skip ?_ | refine W.exit ?_ | refine W.ret ?_ | refine L.nil ?_ | refine L.p rfl rfl ?_ | refine L.skip rfl ?_)
      refine L.tlen rfl rfl rfl rfl ?_
      repeat (first | refine W.seq ?_ | refine W.block ?_ | refine W.reg ?_ | refine W.skip ?_ | refine W.exit ?_ | refine W.ret ?_ | refine L.nil ?_ | refine L.p rfl rfl ?_ | refine L.skip rfl ?_)
      rw [hlow, show (((l.map lowB).length : Int) != (l.length : Int)) = false by simp]
      refine W.ite rfl (fun h => ?_) (fun h => ?_)
      · cases h
      repeat (first | refine W.seq ?_ | refine W.block ?_ | refine W.reg ?_ | refine W.skip ?_ | refine W.exit ?_ | refine W.ret ?_ | refine L.nil ?_ | refine L.p rfl rfl ?_ | refine L.skip rfl ?_)
      refine W.loop (fun j e T' => ∃ i, j = l.length - i ∧ i ≤ l.length ∧ T' = S4 ∧ e 0 = .string (strB l) ∧ e 7 = .string (strB (l.map lowB)) ∧ e 8 = vi i) l.length
        ⟨0, by omega, by omega, rfl, rfl, rfl, rfl⟩ ?_
      rintro j e T ⟨i, rfl, hi, rfl, e0, e7, e8⟩
      refine W.env3 e0 e7 e8 ?_
      repeat (first | refine W.seq ?_ | refine W.block ?_ | refine W.reg ?_ | refine W.skip ?_ | refine W.exit ?_ | refine W.ret ?_ | refine L.nil ?_ | refine L.p rfl rfl ?_ | refine L.skip rfl ?_)
      refine L.tlen rfl rfl rfl rfl ?_
      repeat (first | refine W.seq ?_ | refine W.block ?_ | refine W.reg ?_ | refine W.skip ?_ | refine W.exit ?_ | refine W.ret ?_ | refine L.nil ?_ | refine L.p rfl rfl ?_ | refine L.skip rfl ?_)
      refine W.ite rfl (fun h => ?_) (fun h => ?_)
      · have hin : i < l.length := by have := of_decide_eq_true h; omega
        clear h
        obtain ⟨x, hx⟩ : ∃ x, l[i]? = some x := ⟨_, List.getElem?_eq_getElem hin⟩
        have hx2 : (l.map lowB)[i]? = some (lowB x) := by simp [hx]
        have hxl := x.isLt
        repeat (first | refine W.seq ?_ | refine W.block ?_ | refine W.reg ?_ | refine W.skip ?_ | refine W.exit ?_ | refine W.ret ?_ | refine L.nil ?_ | refine L.p rfl rfl ?_ | refine L.skip rfl ?_)
        refine L.sB (i := i) rfl rfl hx2 rfl rfl ?_
        repeat (first | refine W.seq ?_ | refine W.block ?_ | refine W.reg ?_ | refine W.skip ?_ | refine W.exit ?_ | refine W.ret ?_ | refine L.nil ?_ | refine L.p rfl rfl ?_ | refine L.skip rfl ?_)
        refine L.sB (i := i) rfl rfl hx rfl rfl ?_
        repeat (first | refine W.seq ?_ | refine W.block ?_ | refine W.reg ?_ | refine W.skip ?_ | refine W.exit ?_ | refine W.ret ?_ | refine L.nil ?_ | refine L.p rfl rfl ?_ | refine L.skip rfl ?_)
        rw [v8_ne]
        rcases low_two x with h2 | h2
        · rw [h2, bne_self_eq_false]
          repeat (first | refine W.seq ?_ | refine W.block ?_ | refine W.reg ?_ | refine W.skip ?_ | refine W.exit ?_ | refine W.ret ?_ | refine L.nil ?_ | refine L.p rfl rfl ?_ | refine L.skip rfl ?_)
          refine W.ite rfl (fun h => ?_) (fun h => ?_)
          · cases h
          repeat (first | refine W.seq ?_ | refine W.block ?_ | refine W.reg ?_ | refine W.skip ?_ | refine W.exit ?_ | refine W.ret ?_ | refine L.nil ?_ | refine L.p rfl rfl ?_ | refine L.skip rfl ?_)
          refine ⟨l.length - (i + 1), by omega, i + 1, rfl, by omega, rfl, rfl, rfl, ?_⟩
          refine (force_eq rfl).trans ?_
          rw [wrap64 (by omega) (by omega)]; rfl
        · cases hb8 : (lowB x != x) with
          | false =>
            repeat (first | refine W.seq ?_ | refine W.block ?_ | refine W.reg ?_ | refine W.skip ?_ | refine W.exit ?_ | refine W.ret ?_ | refine L.nil ?_ | refine L.p rfl rfl ?_ | refine L.skip rfl ?_)
            refine W.ite rfl (fun h => ?_) (fun h => ?_)
            · cases h
            repeat (first | refine W.seq ?_ | refine W.block ?_ | refine W.reg ?_ | refine W.skip ?_ | refine W.exit ?_ | refine W.ret ?_ | refine L.nil ?_ | refine L.p rfl rfl ?_ | refine L.skip rfl ?_)
            refine ⟨l.length - (i + 1), by omega, i + 1, rfl, by omega, rfl, rfl, rfl, ?_⟩
            refine (force_eq rfl).trans ?_
            rw [wrap64 (by omega) (by omega)]; rfl
          | true =>
            repeat (first | refine W.seq ?_ | refine W.block ?_ | refine W.reg ?_ | refine W.skip ?_ | refine W.exit ?_ | refine W.ret ?_ | refine L.nil ?_ | refine L.p rfl rfl ?_ | refine L.skip rfl ?_)
            refine L.sB (i := i) rfl rfl hx2 rfl rfl ?_
            repeat (first | refine W.seq ?_ | refine W.block ?_ | refine W.reg ?_ | refine W.skip ?_ | refine W.exit ?_ | refine W.ret ?_ | refine L.nil ?_ | refine L.p rfl rfl ?_ | refine L.skip rfl ?_)
            refine L.sB (i := i) rfl rfl hx rfl rfl ?_
            repeat (first | refine W.seq ?_ | refine W.block ?_ | refine W.reg ?_ | refine W.skip ?_ | refine W.exit ?_ | refine W.ret ?_ | refine L.nil ?_ | refine L.p rfl rfl ?_ | refine L.skip rfl ?_)
            rw [← h2, bne_self_eq_false]
            repeat (first | refine W.seq ?_ | refine W.block ?_ | refine W.reg ?_ | refine W.skip ?_ | refine W.exit ?_ | refine W.ret ?_ | refine L.nil ?_ | refine L.p rfl rfl ?_ | refine L.skip rfl ?_)
            refine W.ite rfl (fun h => ?_) (fun h => ?_)
            · cases h
            repeat (first | refine W.seq ?_ | refine W.block ?_ | refine W.reg ?_ | refine W.skip ?_ | refine W.exit ?_ | refine W.ret ?_ | refine L.nil ?_ | refine L.p rfl rfl ?_ | refine L.skip rfl ?_)
            refine ⟨l.length - (i + 1), by omega, i + 1, rfl, by omega, rfl, rfl, rfl, ?_⟩
            refine (force_eq rfl).trans ?_
            rw [wrap64 (by omega) (by omega)]; rfl
      · repeat (first | refine W.seq ?_ | refine W.block ?_ | refine W.reg ?_ | refine W.skip ?_ | refine W.exit ?_ | refine W.ret ?_ | refine L.nil ?_ | refine L.p rfl rfl ?_ | refine L.skip rfl ?_)
        refine L.cl (works_C _ (hR.cons k4)) rfl rfl ?_
        rintro _ S5 ⟨rfl, c5⟩
        refine ⟨fun _ => c5, ?_⟩
        repeat (first | refine W.seq ?_ | refine W.block ?_ | refine W.reg ?_ | refine W.skip ?_ | refine W.exit ?_ | refine W.ret ?_ | refine L.nil ?_ | refine L.p rfl rfl ?_ | refine L.skip rfl ?_)
        exact ⟨.inr rfl, _, rfl, rfl, k4.trans c5⟩
  | some m =>
    rw [hu] at hr
    obtain ⟨d, rfl, o⟩ := hr.some
    refine ⟨fun _ => o.1, ?_⟩
    rw [hu] at n2
    have n2 : m.length ≤ l.length := n2
    have htold := unB_told hu
    repeat (first | refine W.seq ?_ | refine W.block ?_ | refine W.reg ?_ | refine W.skip ?_ | refine W.exit ?_ | refine W.ret ?_ | refine L.nil ?_ | refine L.p rfl rfl ?_ | refine L.skip rfl ?_)
    have hb := o.bin
    have h5 := base64_C (Ext := Ext) _ _ _ S1 hb.1 (by omega) (hR.cons o.1)
    rw [← hb.2, htold] at h5
    refine L.cl h5 rfl rfl ?_
    rintro _ S2 ⟨rfl, c2⟩
    refine ⟨fun _ => c2, ?_⟩
    have c12 := o.1.trans c2
    repeat (first | refine W.seq ?_ | refine W.block ?_ | refine W.reg ?_ | refine W.skip ?_ | refine W.exit ?_ | refine W.ret ?_ | refine L.nil ?_ | refine L.p rfl rfl ?_ | refine L.skip rfl ?_)
    rw [strB_same, show decide (l = l) = true by simp]
    repeat (first | refine W.seq ?_ | refine W.block ?_ | refine W.reg ?_ | refine W.skip ?_ | refine W.exit ?_ | refine W.ret ?_ | refine L.nil ?_ | refine L.p rfl rfl ?_ | refine L.skip rfl ?_)
    repeat (first | refine W.seq ?_ | refine W.block ?_ | refine W.reg ?_ | refine W.skip ?_ | refine W.exit ?_ | refine W.ret ?_ | refine L.nil ?_ | refine L.p rfl rfl ?_ | refine L.skip rfl ?_)
    refine W.ite rfl (fun h => ?_) (fun h => ?_)
    · cases h
    clear htold n2 hb h5 hu hr o
    repeat (first | refine W.seq ?_ | refine W.block ?_ | refine W.reg ?_ | refine W.skip ?_ | refine W.exit ?_ | refine W.ret ?_ | refine L.nil ?_ | refine L.p rfl rfl ?_ | refine L.skip rfl ?_)
    refine L.cl (unhex_C l (by omega) S2) rfl rfl ?_
    rintro _ S3 hr
    have k2 : Cons S S2 := by assumption
    cases hu : unhexH none l with
    | none =>
      rw [hu] at hr
      obtain ⟨rfl, c3⟩ := hr.none
      refine ⟨fun _ => c3, ?_⟩
      repeat (first | refine W.seq ?_ | refine W.block ?_ | refine W.reg ?_ | refine W.skip ?_ | refine W.exit ?_ | refine W.ret ?_ | refine L.nil ?_ | refine L.p rfl rfl ?_ | refine L.skip rfl ?_)
      refine W.ite rfl (fun h => ?_) (fun h => ?_)
      rotate_left
      · cases h
      repeat (first | refine W.seq ?_ | refine W.block ?_ | refine W.reg ?_ | refine W.skip ?_ | refine W.exit ?_ | refine W.ret ?_ | refine L.nil ?_ | refine L.p rfl rfl ?_ | refine L.skip rfl ?_)
      refine L.cl (works_C _ (hR.cons (k2.trans c3))) rfl rfl ?_
      rintro _ S4 ⟨rfl, c4⟩
      refine ⟨fun _ => c4, ?_⟩
      repeat (first | refine W.seq ?_ | refine W.block ?_ | refine W.reg ?_ | refine W.skip ?_ | refine W.exit ?_ | refine W.ret ?_ | refine L.nil ?_ | refine L.p rfl rfl ?_ | refine L.skip rfl ?_)
      exact ⟨.inr rfl, _, rfl, rfl, (k2.trans c3).trans c4⟩
    | some m =>
      rw [hu] at hr
      obtain ⟨d, rfl, o⟩ := hr.some
      refine ⟨fun _ => o.1, ?_⟩
      have hml := unhex_len l
      rw [hu] at hml
      have hml : m.length ≤ l.length := hml
      have hlow := unhex_lowS hu
      repeat (first | refine W.seq ?_ | refine W.block ?_ | refine W.reg ?_ | refine W.skip ?_ | refine W.exit ?_ | refine W.ret ?_ | refine L.nil ?_ | refine L.p rfl rfl ?_ | refine L.skip rfl ?_)
      refine W.ite rfl (fun h => ?_) (fun h => ?_)
      · cases h
      repeat (first | refine W.seq ?_ | refine W.block ?_ | refine W.reg ?_ | refine W.skip ?_ | refine W.exit ?_ | refine W.ret ?_ | refine L.nil ?_ | refine L.p rfl rfl ?_ | refine L.skip rfl ?_)
      have hb := o.bin
      have h5 := hex_C (G := 1) (Ext := Ext) _ _ _ S3 hb.1.1 (by omega)
      rw [← hb.2] at h5
      refine L.cl h5 rfl rfl ?_
      rintro _ S4 ⟨rfl, c4⟩
      refine ⟨fun _ => c4, ?_⟩
      have k4 := k2.trans (o.1.trans c4)
      repeat (first | refine W.seq ?_ | refine W.block ?_ | refine W.reg ?_ | refine W.skip ?_ | refine W.exit ?_ | refine W.ret ?_ | refine L.nil ?_ | refine L.p rfl rfl ?_ | refine L.skip rfl ?_)
      refine L.tlen rfl rfl rfl rfl ?_
      repeat (first | refine W.seq ?_ | refine W.block ?_ | refine W.reg ?_ | refine W.skip ?_ | refine W.exit ?_ | refine W.ret ?_ | refine L.nil ?_ | refine L.p rfl rfl ?_ | refine L.skip rfl ?_)
      refine L.tlen rfl rfl rfl rfl ?_
      repeat (first | refine W.seq ?_ | refine W.block ?_ | refine W.reg ?_ | refine W.skip ?_ | refine W.exit ?_ | refine W.ret ?_ | refine L.nil ?_ | refine L.p rfl rfl ?_ | refine L.skip rfl ?_)
      rw [hlow, show (((l.map lowB).length : Int) != (l.length : Int)) = false by simp]
      refine W.ite rfl (fun h => ?_) (fun h => ?_)
      · cases h
      repeat (first | refine W.seq ?_ | refine W.block ?_ | refine W.reg ?_ | refine W.skip ?_ | refine W.exit ?_ | refine W.ret ?_ | refine L.nil ?_ | refine L.p rfl rfl ?_ | refine L.skip rfl ?_)
      refine W.loop (fun j e T' => ∃ i, j = l.length - i ∧ i ≤ l.length ∧ T' = S4 ∧ e 0 = .string (strB l) ∧ e 7 = .string (strB (l.map lowB)) ∧ e 8 = vi i) l.length
        ⟨0, by omega, by omega, rfl, rfl, rfl, rfl⟩ ?_
      rintro j e T ⟨i, rfl, hi, rfl, e0, e7, e8⟩
      refine W.env3 e0 e7 e8 ?_
      repeat (first | refine W.seq ?_ | refine W.block ?_ | refine W.reg ?_ | refine W.skip ?_ | refine W.exit ?_ | refine W.ret ?_ | refine L.nil ?_ | refine L.p rfl rfl ?_ | refine L.skip rfl ?_)
      refine L.tlen rfl rfl rfl rfl ?_
      repeat (first | refine W.seq ?_ | refine W.block ?_ | refine W.reg ?_ | refine W.skip ?_ | refine W.exit ?_ | refine W.ret ?_ | refine L.nil ?_ | refine L.p rfl rfl ?_ | refine L.skip rfl ?_)
      refine W.ite rfl (fun h => ?_) (fun h => ?_)
      · have hin : i < l.length := by have := of_decide_eq_true h; omega
        clear h
        obtain ⟨x, hx⟩ : ∃ x, l[i]? = some x := ⟨_, List.getElem?_eq_getElem hin⟩
        have hx2 : (l.map lowB)[i]? = some (lowB x) := by simp [hx]
        have hxl := x.isLt
        repeat (first | refine W.seq ?_ | refine W.block ?_ | refine W.reg ?_ | refine W.skip ?_ | refine W.exit ?_ | refine W.ret ?_ | refine L.nil ?_ | refine L.p rfl rfl ?_ | refine L.skip rfl ?_)
        refine L.sB (i := i) rfl rfl hx2 rfl rfl ?_
        repeat (first | refine W.seq ?_ | refine W.block ?_ | refine W.reg ?_ | refine W.skip ?_ | refine W.exit ?_ | refine W.ret ?_ | refine L.nil ?_ | refine L.p rfl rfl ?_ | refine L.skip rfl ?_)
        refine L.sB (i := i) rfl rfl hx rfl rfl ?_
        repeat (first | refine W.seq ?_ | refine W.block ?_ | refine W.reg ?_ | refine W.skip ?_ | refine W.exit ?_ | refine W.ret ?_ | refine L.nil ?_ | refine L.p rfl rfl ?_ | refine L.skip rfl ?_)
        rw [v8_ne]
        rcases low_two x with h2 | h2
        · rw [h2, bne_self_eq_false]
          repeat (first | refine W.seq ?_ | refine W.block ?_ | refine W.reg ?_ | refine W.skip ?_ | refine W.exit ?_ | refine W.ret ?_ | refine L.nil ?_ | refine L.p rfl rfl ?_ | refine L.skip rfl ?_)
          refine W.ite rfl (fun h => ?_) (fun h => ?_)
          · cases h
          repeat (first | refine W.seq ?_ | refine W.block ?_ | refine W.reg ?_ | refine W.skip ?_ | refine W.exit ?_ | refine W.ret ?_ | refine L.nil ?_ | refine L.p rfl rfl ?_ | refine L.skip rfl ?_)
          refine ⟨l.length - (i + 1), by omega, i + 1, rfl, by omega, rfl, rfl, rfl, ?_⟩
          refine (force_eq rfl).trans ?_
          rw [wrap64 (by omega) (by omega)]; rfl
        · cases hb8 : (lowB x != x) with
          | false =>
            repeat (first | refine W.seq ?_ | refine W.block ?_ | refine W.reg ?_ | refine W.skip ?_ | refine W.exit ?_ | refine W.ret ?_ | refine L.nil ?_ | refine L.p rfl rfl ?_ | refine L.skip rfl ?_)
            refine W.ite rfl (fun h => ?_) (fun h => ?_)
            · cases h
            repeat (first | refine W.seq ?_ | refine W.block ?_ | refine W.reg ?_ | refine W.skip ?_ | refine W.exit ?_ | refine W.ret ?_ | refine L.nil ?_ | refine L.p rfl rfl ?_ | refine L.skip rfl ?_)
            refine ⟨l.length - (i + 1), by omega, i + 1, rfl, by omega, rfl, rfl, rfl, ?_⟩
            refine (force_eq rfl).trans ?_
            rw [wrap64 (by omega) (by omega)]; rfl
          | true =>
            repeat (first | refine W.seq ?_ | refine W.block ?_ | refine W.reg ?_ | refine W.skip ?_ | refine W.exit ?_ | refine W.ret ?_ | refine L.nil ?_ | refine L.p rfl rfl ?_ | refine L.skip rfl ?_)
            refine L.sB (i := i) rfl rfl hx2 rfl rfl ?_
            repeat (first | refine W.seq ?_ | refine W.block ?_ | refine W.reg ?_ | refine W.skip ?_ | refine W.exit ?_ | refine W.ret ?_ | refine L.nil ?_ | refine L.p rfl rfl ?_ | refine L.skip rfl ?_)
            refine L.sB (i := i) rfl rfl hx rfl rfl ?_
            repeat (first | refine W.seq ?_ | refine W.block ?_ | refine W.reg ?_ | refine W.skip ?_ | refine W.exit ?_ | refine W.ret ?_ | refine L.nil ?_ | refine L.p rfl rfl ?_ | refine L.skip rfl ?_)
            rw [← h2, bne_self_eq_false]
            repeat (first | refine W.seq ?_ | refine W.block ?_ | refine W.reg ?_ | refine W.skip ?_ | refine W.exit ?_ | refine W.ret ?_ | refine L.nil ?_ | refine L.p rfl rfl ?_ | refine L.skip rfl ?_)
            refine W.ite rfl (fun h => ?_) (fun h => ?_)
            · cases h
            repeat (first | refine W.seq ?_ | refine W.block ?_ | refine W.reg ?_ | refine W.skip ?_ | refine W.exit ?_ | refine W.ret ?_ | refine L.nil ?_ | refine L.p rfl rfl ?_ | refine L.skip rfl ?_)
            refine ⟨l.length - (i + 1), by omega, i + 1, rfl, by omega, rfl, rfl, rfl, ?_⟩
            refine (force_eq rfl).trans ?_
            rw [wrap64 (by omega) (by omega)]; rfl
      · repeat (first | refine W.seq ?_ | refine W.block ?_ | refine W.reg ?_ | refine W.skip ?_ | refine W.exit ?_ | refine W.ret ?_ | refine L.nil ?_ | refine L.p rfl rfl ?_ | refine L.skip rfl ?_)
        refine L.cl (works_C _ (hR.cons k4)) rfl rfl ?_
        rintro _ S5 ⟨rfl, c5⟩
        refine ⟨fun _ => c5, ?_⟩
        repeat (first | refine W.seq ?_ | refine W.block ?_ | refine W.reg ?_ | refine W.skip ?_ | refine W.exit ?_ | refine W.ret ?_ | refine L.nil ?_ | refine L.p rfl rfl ?_ | refine L.skip rfl ?_)
        exact ⟨.inr rfl, _, rfl, rfl, k4.trans c5⟩
end Go.Proofs.YtkiecgkgbogbaaaDoor

/- The law of telling, walked. Conditions: none. -/
set_option linter.unusedSimpArgs false
set_option linter.unusedVariables false
set_option maxRecDepth 100000
namespace Go.Proofs.YtkiecgkgbogbaaaDoor
open Go
variable {Ext : FuncId → List Value → Mem → Outc → Mem → Prop}
theorem lent_bin {S : Mem} {b : Nat} {l : BL} (h : S.row? b = some (grownR (bv (l ++ marks 16)) 5 1)) (hl : l.length < 4294967296) : BIn S (some ⟨b, 0, none⟩) (UNK + (l.length + 16)) l := by
  refine ⟨?_, .of (by rw [knownCap_unk]; omega), by omega⟩
  have := Slv.of (sz := 1) (n := l.length) (o := 0) (c := UNK + (l.length + 16)) h (by show 0 + l.length * 1 ≤ (bv (l ++ marks 16)).length; rw [bv_len, List.length_append]; omega) (.inl rfl)
  rwa [show ((grownR (bv (l ++ marks 16)) 5 1).cells.drop 0).take (l.length * 1) = bv l by
    show ((bv (l ++ marks 16)).drop 0).take (l.length * 1) = bv l
    rw [List.drop_zero, Nat.mul_one, bv_app, List.take_append_of_le_length (by rw [bv_len]; omega), List.take_of_length_le (by rw [bv_len]; omega)]] at this
theorem tells_C (a : Option Addr) (c : Nat) (l : BL) (S : Mem) (hs : Slv S 1 (.slice a l.length c) l.length (bv l)) (hk : Cut l.length c) (hR : RowsOk S) :
    C Tryd.prog 1 Ext 3 [.slice a l.length c] S fun v S' => v = .bool true ∧ Cons S S' := by
  refine C.fn Tryd.func3 rfl (by kernel_rfl) rfl ?_
  repeat (first | refine W.seq ?_ | refine W.block ?_ | refine W.reg ?_ | refine W.skip ?_ | refine W.exit ?_ | refine W.ret ?_ | refine L.nil ?_ | refine L.p rfl rfl ?_ | refine L.skip rfl ?_)
  refine W.ite rfl (fun h => ?_) (fun h => ?_)
  · repeat (first | refine W.seq ?_ | refine W.block ?_ | refine W.reg ?_ | refine W.skip ?_ | refine W.exit ?_ | refine W.ret ?_ | refine L.nil ?_ | refine L.p rfl rfl ?_ | refine L.skip rfl ?_)
    exact ⟨.inr rfl, _, rfl, rfl, Cons.refl _⟩
  have hl : l.length ≤ 4096 := by have := of_decide_eq_false h; omega
  clear h
  have hI : BIn S a c l := ⟨hs, hk, by omega⟩
  repeat (first | refine W.seq ?_ | refine W.block ?_ | refine W.reg ?_ | refine W.skip ?_ | refine W.exit ?_ | refine W.ret ?_ | refine L.nil ?_ | refine L.p rfl rfl ?_ | refine L.skip rfl ?_)
  refine L.cl (lent_C _ l S hI.1 (by omega)) rfl rfl ?_
  rintro _ S1 ⟨c1, b, hb, rfl, hr⟩
  refine ⟨fun _ => c1, ?_⟩
  have hx := lent_bin hr (by omega)
  repeat (first | refine W.seq ?_ | refine W.block ?_ | refine W.reg ?_ | refine W.skip ?_ | refine W.exit ?_ | refine W.ret ?_ | refine L.nil ?_ | refine L.p rfl rfl ?_ | refine L.skip rfl ?_)
  refine L.cl (hex_C _ _ l S1 hx.1 (by omega)) rfl rfl ?_
  rintro _ S2 ⟨rfl, c2⟩
  refine ⟨fun _ => c2, ?_⟩
  have c12 := c1.trans c2
  repeat (first | refine W.seq ?_ | refine W.block ?_ | refine W.reg ?_ | refine W.skip ?_ | refine W.exit ?_ | refine W.ret ?_ | refine L.nil ?_ | refine L.p rfl rfl ?_ | refine L.skip rfl ?_)
  refine L.cl (refHex_C _ _ l S2 (hI.cons c12).1 (by omega)) rfl rfl ?_
  rintro _ S3 ⟨rfl, c3⟩
  refine ⟨fun _ => c3, ?_⟩
  have c13 := c12.trans c3
  repeat (first | refine W.seq ?_ | refine W.block ?_ | refine W.reg ?_ | refine W.skip ?_ | refine W.exit ?_ | refine W.ret ?_ | refine L.nil ?_ | refine L.p rfl rfl ?_ | refine L.skip rfl ?_)
  rw [strB_same, decide_eq_true (rfl : hexS l = hexS l)]
  repeat (first | refine W.seq ?_ | refine W.block ?_ | refine W.reg ?_ | refine W.skip ?_ | refine W.exit ?_ | refine W.ret ?_ | refine L.nil ?_ | refine L.p rfl rfl ?_ | refine L.skip rfl ?_)
  refine L.cl (base64_C _ _ l S3 (hx.cons (c2.trans c3)) (by omega) (hR.cons c13)) rfl rfl ?_
  rintro _ S4 ⟨rfl, c4⟩
  refine ⟨fun _ => c4, ?_⟩
  have c14 := c13.trans c4
  repeat (first | refine W.seq ?_ | refine W.block ?_ | refine W.reg ?_ | refine W.skip ?_ | refine W.exit ?_ | refine W.ret ?_ | refine L.nil ?_ | refine L.p rfl rfl ?_ | refine L.skip rfl ?_)
  refine L.cl (refBase64_C _ _ l S4 (hI.cons c14).1 (by omega)) rfl rfl ?_
  rintro _ S5 ⟨rfl, c5⟩
  refine ⟨fun _ => c5, ?_⟩
  have c15 := c14.trans c5
  repeat (first | refine W.seq ?_ | refine W.block ?_ | refine W.reg ?_ | refine W.skip ?_ | refine W.exit ?_ | refine W.ret ?_ | refine L.nil ?_ | refine L.p rfl rfl ?_ | refine L.skip rfl ?_)
  rw [strB_same, decide_eq_true (rfl : b64S l = b64S l)]
  repeat (first | refine W.seq ?_ | refine W.block ?_ | refine W.reg ?_ | refine W.skip ?_ | refine W.exit ?_ | refine W.ret ?_ | refine L.nil ?_ | refine L.p rfl rfl ?_ | refine L.skip rfl ?_)
  have c25 := ((c2.trans c3).trans c4).trans c5
  refine L.cl (kept_C _ l b _ S5 (c25.row' hr) rfl rfl (hI.cons c15).1 (by omega)) rfl rfl ?_
  rintro _ S6 ⟨rfl, hS⟩
  have hS := hS.symm
  subst hS
  refine ⟨fun _ => Cons.refl _, ?_⟩
  repeat (first | refine W.seq ?_ | refine W.block ?_ | refine W.reg ?_ | refine W.skip ?_ | refine W.exit ?_ | refine W.ret ?_ | refine L.nil ?_ | refine L.p rfl rfl ?_ | refine L.skip rfl ?_)
  refine L.cl (works_C _ (hR.cons c15)) rfl rfl ?_
  rintro _ S7 ⟨rfl, c7⟩
  refine ⟨fun _ => c7, ?_⟩
  repeat (first | refine W.seq ?_ | refine W.block ?_ | refine W.reg ?_ | refine W.skip ?_ | refine W.exit ?_ | refine W.ret ?_ | refine L.nil ?_ | refine L.p rfl rfl ?_ | refine L.skip rfl ?_)
  exact ⟨.inr rfl, _, rfl, rfl, c15.trans c7⟩
end Go.Proofs.YtkiecgkgbogbaaaDoor

/- Texts turned into bytes. Conditions: none. -/
set_option linter.unusedSimpArgs false
set_option linter.unusedVariables false
namespace Go.Proofs.YtkiecgkgbogbaaaDoor
open Go
variable {P : Program} {G : Nat} {Ext : FuncId → List Value → Mem → Outc → Mem → Prop} {e : Env} {S : Mem} {fl : Bool} {ops : Array Oper} {K : Kont}
variable {rest : List Oper} {dst : Option Tmp} {ty : TypeId} {pos : String} {af : Array Edge} {gd : Option (Nat × Bool)}
theorem strB_bytes (l : BL) : ((strB l).data.toList.map fun b => Value.int .u8 (b.toNat : Int)) = bv l := by
  unfold strB bv
  simp only [List.map_map]
  refine List.map_congr_left fun x _ => ?_
  show Value.int .u8 (((UInt8.ofNat x.toNat).toNat : Nat) : Int) = .int .u8 (x.toNat : Int)
  rw [UInt8.toNat_ofNat']
  rw [Nat.mod_eq_of_lt x.isLt]
/-- a text's bytes, in memory of their own -/
theorem L.bytes {s d el : TypeId} {x : Operand} {l : BL} (hx : e.eval x = .string (strB l)) (hs : P.underlying s = some .string) (hd : P.underlying d = some (.slice el)) (hel : isBytes P el = true)
    (hw : awanted ops ⟨dst, .convert s d x, ty, pos, af, gd⟩ e = true)
    (k : L P G Ext fl ops rest (e.put dst (.slice (some ⟨S.length, 0, none⟩) l.length (UNK + l.length))) (S ++ [grownR (bv l) el 1]) K) : L P G Ext fl ops (⟨dst, .convert s d x, ty, pos, af, gd⟩ :: rest) e S K := by
  refine L.eff hw ?_ k
  unfold aeff
  dsimp only
  rw [hx, hs, hd]
  simp only [hel, if_true, strB_bytes, strB_size]
theorem BIn.grown {S : Mem} {b n : Nat} {l : BL} {el : TypeId} (h : S.row? b = some (grownR (bv l) el 1)) (hn : l.length = n) (hl : l.length < 1000000) : BIn S (some ⟨b, 0, none⟩) (UNK + n) l := by
  subst hn
  exact ⟨Slv.all h rfl (by show (bv l).length = _; rw [bv_len, Nat.mul_one]), .of (by rw [knownCap_unk]; omega), by omega⟩
theorem BIn.newl {S : Mem} {b n : Nat} {l : BL} {el : TypeId} (h : S.row? b = some (newR (bv l) el)) (hn : l.length = n) (hl : l.length < 1000000) : BIn S (some ⟨b, 0, none⟩) n l := by
  subst hn
  exact ⟨Slv.all h rfl (by show (bv l).length = _; rw [bv_len, Nat.mul_one]), .inl ⟨by unfold UNK; omega, Nat.le_refl _⟩, by omega⟩
end Go.Proofs.YtkiecgkgbogbaaaDoor

/- The closed law of coding, walked. Conditions: none. -/
set_option linter.unusedSimpArgs false
set_option linter.unusedVariables false
set_option maxRecDepth 100000
namespace Go.Proofs.YtkiecgkgbogbaaaDoor
open Go
variable {Ext : FuncId → List Value → Mem → Outc → Mem → Prop}
theorem i8 (z : Int) : Value.int .u8 (IntKind.u8.wrap z) = v8 (BitVec.ofInt 8 z) := by rw [wrap_u8]
theorem known_C (S : Mem) (hR : RowsOk S) : C Tryd.prog 1 Ext 7 [] S fun v S' => v = .bool true ∧ Cons S S' := by
  refine C.fn Tryd.func7 rfl (by kernel_rfl) rfl ?_
  obtain ⟨ss, hss⟩ : ∃ ss : List ByteArray, ss = [⟨#[]⟩, ⟨#[48, 48, 102, 70, 49, 65]⟩, ⟨#[48]⟩, ⟨#[48, 103]⟩, ⟨#[48, 120]⟩, ⟨#[32, 48, 48]⟩, ⟨#[48, 48, 32]⟩, ⟨#[84, 81, 61, 61]⟩, ⟨#[84, 87, 69, 61]⟩, ⟨#[84, 87, 70, 117]⟩, ⟨#[84, 82, 61, 61]⟩, ⟨#[84, 81, 61]⟩, ⟨#[84, 81]⟩, ⟨#[84, 61, 61, 61]⟩, ⟨#[84, 81, 61, 61, 84, 81, 61, 61]⟩, ⟨#[84, 87, 45, 117]⟩, ⟨#[84, 87, 70, 117, 10]⟩, ⟨#[61, 61, 61, 61]⟩, ⟨#[61]⟩, ⟨#[61, 61]⟩, ⟨#[84, 61, 81, 61]⟩, ⟨#[84, 87, 70, 61, 117, 61, 61, 61]⟩, ⟨#[84, 81, 61, 61, 0, 0, 0, 0]⟩, ⟨#[84, 87, 70, 117, 84, 87, 70, 61]⟩, ⟨#[84, 87, 70, 117, 84, 87, 71, 61]⟩, ⟨#[65, 65, 65, 65]⟩, ⟨#[47, 47, 47, 47]⟩, ⟨#[195, 164, 97, 97]⟩, ⟨#[48, 217, 160]⟩] := ⟨_, rfl⟩
  have hs29 : ss.length = 29 := by rw [hss]; rfl
  repeat (first | refine W.seq ?_ | refine W.block ?_ | refine W.reg ?_ | refine W.skip ?_ | refine W.exit ?_ | refine W.ret ?_ | refine L.nil ?_ | refine L.p rfl rfl ?_ | refine L.skip rfl ?_)
  refine L.bs (ss.map Value.string) rfl (by rw [List.length_map, hs29]) rfl (by subst hss; rfl) (by subst hss; rfl) rfl ?_
  have c1 : Cons S (S ++ [newR (ss.map Value.string) 9]) := Cons.push _ _
  have hsl : Slv (S ++ [newR (ss.map Value.string) 9]) 1 (.slice (some ⟨S.length, 0, none⟩) 29 29) 29 (ss.map Value.string) := Slv.all (row_push_new rfl) rfl (by simp [hs29])
  generalize S ++ [newR (ss.map Value.string) 9] = S1 at *
  generalize S.length = b1 at *
  clear hss
  repeat (first | refine W.seq ?_ | refine W.block ?_ | refine W.reg ?_ | refine W.skip ?_ | refine W.exit ?_ | refine W.ret ?_ | refine L.nil ?_ | refine L.p rfl rfl ?_ | refine L.skip rfl ?_)
  refine W.loop (fun j e S' => ∃ i : Nat, j = 29 - i ∧ i ≤ 29 ∧ e 11 = .slice (some ⟨b1, 0, none⟩) 29 29 ∧ e 12 = vi 29 ∧ e 13 = vi i ∧ Cons S1 S') 29
    ⟨0, by omega, by omega, rfl, rfl, rfl, Cons.refl _⟩ ?_
  rintro j e S2 ⟨i, rfl, hi, e1, e2, e3, c2⟩
  refine W.env3 e1 e2 e3 ?_
  have k2 := c1.trans c2
  repeat (first | refine W.seq ?_ | refine W.block ?_ | refine W.reg ?_ | refine W.skip ?_ | refine W.exit ?_ | refine W.ret ?_ | refine L.nil ?_ | refine L.p rfl rfl ?_ | refine L.skip rfl ?_)
  refine W.ite rfl (fun h => ?_) (fun h => ?_)
  · have hin : i < 29 := by have := of_decide_eq_true h; omega
    obtain ⟨x, hx⟩ : ∃ x, ss[i]? = some x := ⟨_, List.getElem?_eq_getElem (by omega)⟩
    clear h
    repeat (first | refine W.seq ?_ | refine W.block ?_ | refine W.reg ?_ | refine W.skip ?_ | refine W.exit ?_ | refine W.ret ?_ | refine L.nil ?_ | refine L.p rfl rfl ?_ | refine L.skip rfl ?_)
    refine L.el (hsl.cons c2) rfl (by rw [List.getElem?_map, hx]; rfl : (ss.map Value.string)[i]? = some (.string x)) rfl rfl rfl rfl (fun _ => rfl) rfl (fun p => ?_)
    repeat (first | refine W.seq ?_ | refine W.block ?_ | refine W.reg ?_ | refine W.skip ?_ | refine W.exit ?_ | refine W.ret ?_ | refine L.nil ?_ | refine L.p rfl rfl ?_ | refine L.skip rfl ?_)
    refine L.cl (reads_C x S2 (hR.cons k2)) rfl rfl ?_
    rintro _ S3 ⟨rfl, c3⟩
    refine ⟨fun _ => c3, ?_⟩
    repeat (first | refine W.seq ?_ | refine W.block ?_ | refine W.reg ?_ | refine W.skip ?_ | refine W.exit ?_ | refine W.ret ?_ | refine L.nil ?_ | refine L.p rfl rfl ?_ | refine L.skip rfl ?_)
    have k3 := k2.trans c3
    refine L.cl (once_C x S3 (hR.cons k3)) rfl rfl ?_
    rintro _ S4 ⟨rfl, c4⟩
    refine ⟨fun _ => c4, ?_⟩
    repeat (first | refine W.seq ?_ | refine W.block ?_ | refine W.reg ?_ | refine W.skip ?_ | refine W.exit ?_ | refine W.ret ?_ | refine L.nil ?_ | refine L.p rfl rfl ?_ | refine L.skip rfl ?_)
    refine W.ite rfl (fun h => ?_) (fun h => ?_)
    · cases h
    repeat (first | refine W.seq ?_ | refine W.block ?_ | refine W.reg ?_ | refine W.skip ?_ | refine W.exit ?_ | refine W.ret ?_ | refine L.nil ?_ | refine L.p rfl rfl ?_ | refine L.skip rfl ?_)
    refine ⟨29 - (i + 1), by omega, i + 1, rfl, by omega, rfl, rfl, ?_, (c2.trans c3).trans c4⟩
    refine (force_eq rfl).trans ?_
    rw [wrap64 (by omega) (by omega)]; rfl
  clear h e1 e2 e3 hi hsl c2
  rename Mem => S2
  generalize S2 = S2 at *
  repeat (first | refine W.seq ?_ | refine W.block ?_ | refine W.reg ?_ | refine W.skip ?_ | refine W.exit ?_ | refine W.ret ?_ | refine L.nil ?_ | refine L.p rfl rfl ?_ | refine L.skip rfl ?_)
  refine W.loop (fun j e S' => ∃ i : Nat, j = 256 - i ∧ i ≤ 256 ∧ e 3 = vi i ∧ Cons S S') 256 ⟨0, by omega, by omega, rfl, k2⟩ ?_
  clear k2
  rintro j e S2 ⟨i, rfl, hi, e3, k2⟩
  refine W.env e3 ?_
  repeat (first | refine W.seq ?_ | refine W.block ?_ | refine W.reg ?_ | refine W.skip ?_ | refine W.exit ?_ | refine W.ret ?_ | refine L.nil ?_ | refine L.p rfl rfl ?_ | refine L.skip rfl ?_)
  refine W.ite rfl (fun h => ?_) (fun h => ?_)
  · have hin : i < 256 := by have := of_decide_eq_true h; omega
    clear h
    repeat (first | refine W.seq ?_ | refine W.block ?_ | refine W.reg ?_ | refine W.skip ?_ | refine W.exit ?_ | refine W.ret ?_ | refine L.nil ?_ | refine L.p rfl rfl ?_ | refine L.skip rfl ?_)
    obtain ⟨x, hx⟩ : ∃ x : BitVec 8, x = BitVec.ofInt 8 (i : Int) := ⟨_, rfl⟩
    have hxv : Value.int .u8 (IntKind.u8.wrap (i : Int)) = v8 x := by rw [hx]; exact i8 _
    rw [hxv]
    refine L.bs [v8 x] rfl rfl rfl rfl rfl rfl ?_
    have c3 : Cons S2 (S2 ++ [newR [v8 x] 5]) := Cons.push _ _
    have hH : HdOk (S2 ++ [newR [v8 x] 5]) 5 ⟨some S2.length, 1, 1⟩ (bv [x]) := HdOk.full (row_push_new rfl) rfl rfl rfl (by decide)
    generalize S2 ++ [newR [v8 x] 5] = S3 at *
    repeat (first | refine W.seq ?_ | refine W.block ?_ | refine W.reg ?_ | refine W.skip ?_ | refine W.exit ?_ | refine W.ret ?_ | refine L.nil ?_ | refine L.p rfl rfl ?_ | refine L.skip rfl ?_)
    refine L.text (h := ⟨some S2.length, 1, 1⟩) rfl hH rfl rfl rfl rfl ?_
    have k3 := k2.trans c3
    repeat (first | refine W.seq ?_ | refine W.block ?_ | refine W.reg ?_ | refine W.skip ?_ | refine W.exit ?_ | refine W.ret ?_ | refine L.nil ?_ | refine L.p rfl rfl ?_ | refine L.skip rfl ?_)
    refine L.bytes (l := [x]) rfl rfl rfl rfl rfl ?_
    have c4 : Cons S3 (S3 ++ [grownR (bv [x]) 5 1]) := Cons.push _ _
    have hI4 : BIn (S3 ++ [grownR (bv [x]) 5 1]) (some ⟨S3.length, 0, none⟩) (UNK + 1) [x] := BIn.grown (row_push_new rfl) rfl (by simp)
    generalize S3 ++ [grownR (bv [x]) 5 1] = S4 at *
    have k4 := k3.trans c4
    repeat (first | refine W.seq ?_ | refine W.block ?_ | refine W.reg ?_ | refine W.skip ?_ | refine W.exit ?_ | refine W.ret ?_ | refine L.nil ?_ | refine L.p rfl rfl ?_ | refine L.skip rfl ?_)
    refine L.cl (tells_C _ _ [x] S4 hI4.1 hI4.2.1 (hR.cons k4)) rfl rfl ?_
    rintro _ S5 ⟨rfl, c5⟩
    refine ⟨fun _ => c5, ?_⟩
    repeat (first | refine W.seq ?_ | refine W.block ?_ | refine W.reg ?_ | refine W.skip ?_ | refine W.exit ?_ | refine W.ret ?_ | refine L.nil ?_ | refine L.p rfl rfl ?_ | refine L.skip rfl ?_)
    have k5 := k4.trans c5
    obtain ⟨y, hy⟩ : ∃ y : BitVec 8, y = BitVec.ofInt 8 (IntKind.i64.wrap (255 - (i : Int))) := ⟨_, rfl⟩
    obtain ⟨z, hz⟩ : ∃ z : BitVec 8, z = BitVec.ofInt 8 (IntKind.i64.wrap ((i : Int) * 7)) := ⟨_, rfl⟩
    refine L.bs [v8 x, v8 y, v8 z] rfl rfl rfl ?_ rfl rfl ?_
    · rw [hy, hz, ← i8, ← i8, ← hxv]; rfl
    have c6 : Cons S5 (S5 ++ [newR [v8 x, v8 y, v8 z] 5]) := Cons.push _ _
    have hI6 : BIn (S5 ++ [newR [v8 x, v8 y, v8 z] 5]) (some ⟨S5.length, 0, none⟩) 3 [x, y, z] := BIn.newl (row_push_new rfl) rfl (by simp)
    generalize S5 ++ [newR [v8 x, v8 y, v8 z] 5] = S6 at *
    have k6 := k5.trans c6
    refine L.cl (tells_C _ _ [x, y, z] S6 hI6.1 hI6.2.1 (hR.cons k6)) rfl rfl ?_
    rintro _ S7 ⟨rfl, c7⟩
    refine ⟨fun _ => c7, ?_⟩
    repeat (first | refine W.seq ?_ | refine W.block ?_ | refine W.reg ?_ | refine W.skip ?_ | refine W.exit ?_ | refine W.ret ?_ | refine L.nil ?_ | refine L.p rfl rfl ?_ | refine L.skip rfl ?_)
    have k7 := k6.trans c7
    refine L.bs [v8 x, v8 x] rfl rfl rfl ?_ rfl rfl ?_
    · rw [← hxv]; rfl
    have c8 : Cons S7 (S7 ++ [newR [v8 x, v8 x] 5]) := Cons.push _ _
    have hI8 : BIn (S7 ++ [newR [v8 x, v8 x] 5]) (some ⟨S7.length, 0, none⟩) 2 [x, x] := BIn.newl (row_push_new rfl) rfl (by simp)
    generalize S7 ++ [newR [v8 x, v8 x] 5] = S8 at *
    have k8 := k7.trans c8
    repeat (first | refine W.seq ?_ | refine W.block ?_ | refine W.reg ?_ | refine W.skip ?_ | refine W.exit ?_ | refine W.ret ?_ | refine L.nil ?_ | refine L.p rfl rfl ?_ | refine L.skip rfl ?_)
    refine L.cl (back_C _ _ [x, x] (i : Int) S8 hI8.1 hI8.2.1 (hR.cons k8)) rfl rfl ?_
    rintro _ S9 ⟨rfl, c9⟩
    refine ⟨fun _ => c9, ?_⟩
    repeat (first | refine W.seq ?_ | refine W.block ?_ | refine W.reg ?_ | refine W.skip ?_ | refine W.exit ?_ | refine W.ret ?_ | refine L.nil ?_ | refine L.p rfl rfl ?_ | refine L.skip rfl ?_)
    have k9 := k8.trans c9
    refine L.cl (reads_C _ S9 (hR.cons k9)) rfl rfl ?_
    rintro _ S10 ⟨rfl, c10⟩
    refine ⟨fun _ => c10, ?_⟩
    repeat (first | refine W.seq ?_ | refine W.block ?_ | refine W.reg ?_ | refine W.skip ?_ | refine W.exit ?_ | refine W.ret ?_ | refine L.nil ?_ | refine L.p rfl rfl ?_ | refine L.skip rfl ?_)
    have k10 := k9.trans c10
    refine L.cl (reads_C _ S10 (hR.cons k10)) rfl rfl ?_
    rintro _ S11 ⟨rfl, c11⟩
    refine ⟨fun _ => c11, ?_⟩
    repeat (first | refine W.seq ?_ | refine W.block ?_ | refine W.reg ?_ | refine W.skip ?_ | refine W.exit ?_ | refine W.ret ?_ | refine L.nil ?_ | refine L.p rfl rfl ?_ | refine L.skip rfl ?_)
    have k11 := k10.trans c11
    refine W.ite rfl (fun h => ?_) (fun h => ?_)
    · cases h
    clear h c3 c4 c5 c6 c7 c8 c9 c10 c11 k2 k3 k4 k5 k6 k7 k8 k9 k10 hH hI4 hI6 hI8 hy hz y z
    repeat (first | refine W.seq ?_ | refine W.block ?_ | refine W.reg ?_ | refine W.skip ?_ | refine W.exit ?_ | refine W.ret ?_ | refine L.nil ?_ | refine L.p rfl rfl ?_ | refine L.skip rfl ?_)
    obtain ⟨ps, hps⟩ : ∃ ps : List BL, ps = [[84#8, 87#8, 70#8, 117#8, 84#8, 87#8, 69#8, 61#8], [84#8, 87#8, 70#8, 117#8, 84#8, 81#8, 61#8, 61#8]] := ⟨_, rfl⟩
    have hp2 : ps.length = 2 := by rw [hps]; rfl
    have hp8 : ∀ p ∈ ps, p.length = 8 := by rw [hps]; intro p hp; simp at hp; rcases hp with rfl | rfl <;> rfl
    refine L.bs (ps.map fun p => Value.string (strB p)) rfl (by rw [List.length_map, hp2]) rfl (by rw [hps]; rfl) (by rw [hps]; rfl) rfl ?_
    have c12 : Cons S11 (S11 ++ [newR (ps.map fun p => Value.string (strB p)) 9]) := Cons.push _ _
    have hsl : Slv (S11 ++ [newR (ps.map fun p => Value.string (strB p)) 9]) 1 (.slice (some ⟨S11.length, 0, none⟩) 2 2) 2 (ps.map fun p => Value.string (strB p)) := Slv.all (row_push_new rfl) rfl (by simp [hp2])
    generalize S11 ++ [newR (ps.map fun p => Value.string (strB p)) 9] = S12 at *
    generalize S11.length = b2 at *
    have k12 := k11.trans c12
    clear hps c12 k11
    repeat (first | refine W.seq ?_ | refine W.block ?_ | refine W.reg ?_ | refine W.skip ?_ | refine W.exit ?_ | refine W.ret ?_ | refine L.nil ?_ | refine L.p rfl rfl ?_ | refine L.skip rfl ?_)
    refine W.loop (fun j e S' => ∃ t : Nat, j = 2 - t ∧ t ≤ 2 ∧ e 3 = vi i ∧ e 4 = .string (strB [x]) ∧ e 73 = .slice (some ⟨b2, 0, none⟩) 2 2 ∧ e 74 = vi 2 ∧ e 75 = vi t ∧ Cons S12 S') 2
      ⟨0, by omega, by omega, rfl, rfl, rfl, rfl, rfl, Cons.refl _⟩ ?_
    rintro j e T ⟨t, rfl, ht, e3, e4, e73, e74, e75, cT⟩
    refine W.env5 e3 e4 e73 e74 e75 ?_
    have kT := k12.trans cT
    repeat (first | refine W.seq ?_ | refine W.block ?_ | refine W.reg ?_ | refine W.skip ?_ | refine W.exit ?_ | refine W.ret ?_ | refine L.nil ?_ | refine L.p rfl rfl ?_ | refine L.skip rfl ?_)
    refine W.ite rfl (fun h => ?_) (fun h => ?_)
    · have htn : t < 2 := by have := of_decide_eq_true h; omega
      obtain ⟨p, hp⟩ : ∃ p, ps[t]? = some p := ⟨_, List.getElem?_eq_getElem (by omega)⟩
      have hpl := hp8 p (List.mem_of_getElem? hp)
      clear h
      repeat (first | refine W.seq ?_ | refine W.block ?_ | refine W.reg ?_ | refine W.skip ?_ | refine W.exit ?_ | refine W.ret ?_ | refine L.nil ?_ | refine L.p rfl rfl ?_ | refine L.skip rfl ?_)
      refine L.el (hsl.cons cT) rfl (by rw [List.getElem?_map, hp]; rfl : (ps.map fun p => Value.string (strB p))[t]? = some (.string (strB p))) rfl rfl rfl rfl (fun _ => rfl) rfl (fun p => ?_)
      repeat (first | refine W.seq ?_ | refine W.block ?_ | refine W.reg ?_ | refine W.skip ?_ | refine W.exit ?_ | refine W.ret ?_ | refine L.nil ?_ | refine L.p rfl rfl ?_ | refine L.skip rfl ?_)
      refine L.tlen rfl rfl rfl rfl ?_
      rw [hpl]
      repeat (first | refine W.seq ?_ | refine W.block ?_ | refine W.reg ?_ | refine W.skip ?_ | refine W.exit ?_ | refine W.ret ?_ | refine L.nil ?_ | refine L.p rfl rfl ?_ | refine L.skip rfl ?_)
      obtain ⟨q, hq, hq7⟩ : ∃ q : Nat, ((i : Int).tmod ((8 : Nat) : Int)) = (q : Int) ∧ q ≤ 7 := ⟨i % 8, (Int.ofNat_tmod i 8).symm, by omega⟩
      rw [hq]
      repeat (first | refine W.seq ?_ | refine W.block ?_ | refine W.reg ?_ | refine W.skip ?_ | refine W.exit ?_ | refine W.ret ?_ | refine L.nil ?_ | refine L.p rfl rfl ?_ | refine L.skip rfl ?_)
      refine L.upto (i := q) rfl rfl (by omega) rfl rfl ?_
      repeat (first | refine W.seq ?_ | refine W.block ?_ | refine W.reg ?_ | refine W.skip ?_ | refine W.exit ?_ | refine W.ret ?_ | refine L.nil ?_ | refine L.p rfl rfl ?_ | refine L.skip rfl ?_)
      refine L.tadd (b := [x]) rfl rfl (by rw [List.length_take]; simp; omega) rfl ?_
      repeat (first | refine W.seq ?_ | refine W.block ?_ | refine W.reg ?_ | refine W.skip ?_ | refine W.exit ?_ | refine W.ret ?_ | refine L.nil ?_ | refine L.p rfl rfl ?_ | refine L.skip rfl ?_)
      rw [show IntKind.i64.wrap ((q : Int) + 1) = ((q + 1 : Nat) : Int) by rw [wrap64 (by omega) (by omega)]; rfl]
      refine L.from (i := q + 1) rfl rfl (by omega) rfl rfl ?_
      repeat (first | refine W.seq ?_ | refine W.block ?_ | refine W.reg ?_ | refine W.skip ?_ | refine W.exit ?_ | refine W.ret ?_ | refine L.nil ?_ | refine L.p rfl rfl ?_ | refine L.skip rfl ?_)
      refine L.tadd rfl rfl (by simp; omega) rfl ?_
      repeat (first | refine W.seq ?_ | refine W.block ?_ | refine W.reg ?_ | refine W.skip ?_ | refine W.exit ?_ | refine W.ret ?_ | refine L.nil ?_ | refine L.p rfl rfl ?_ | refine L.skip rfl ?_)
      refine L.cl (reads_C _ T (hR.cons kT)) rfl rfl ?_
      rintro _ T1 ⟨rfl, d1⟩
      refine ⟨fun _ => d1, ?_⟩
      repeat (first | refine W.seq ?_ | refine W.block ?_ | refine W.reg ?_ | refine W.skip ?_ | refine W.exit ?_ | refine W.ret ?_ | refine L.nil ?_ | refine L.p rfl rfl ?_ | refine L.skip rfl ?_)
      have q1 := kT.trans d1
      rw [show IntKind.i64.wrap (7 - (q : Int)) = ((7 - q : Nat) : Int) by rw [wrap64 (by omega) (by omega)]; omega]
      refine L.upto (i := 7 - q) rfl rfl (by omega) rfl rfl ?_
      repeat (first | refine W.seq ?_ | refine W.block ?_ | refine W.reg ?_ | refine W.skip ?_ | refine W.exit ?_ | refine W.ret ?_ | refine L.nil ?_ | refine L.p rfl rfl ?_ | refine L.skip rfl ?_)
      refine L.tadd (b := [x]) rfl rfl (by rw [List.length_take]; simp; omega) rfl ?_
      repeat (first | refine W.seq ?_ | refine W.block ?_ | refine W.reg ?_ | refine W.skip ?_ | refine W.exit ?_ | refine W.ret ?_ | refine L.nil ?_ | refine L.p rfl rfl ?_ | refine L.skip rfl ?_)
      rw [show IntKind.i64.wrap (8 - (q : Int)) = ((8 - q : Nat) : Int) by rw [wrap64 (by omega) (by omega)]; omega]
      refine L.from (i := 8 - q) rfl rfl (by omega) rfl rfl ?_
      repeat (first | refine W.seq ?_ | refine W.block ?_ | refine W.reg ?_ | refine W.skip ?_ | refine W.exit ?_ | refine W.ret ?_ | refine L.nil ?_ | refine L.p rfl rfl ?_ | refine L.skip rfl ?_)
      refine L.tadd rfl rfl (by simp; omega) rfl ?_
      repeat (first | refine W.seq ?_ | refine W.block ?_ | refine W.reg ?_ | refine W.skip ?_ | refine W.exit ?_ | refine W.ret ?_ | refine L.nil ?_ | refine L.p rfl rfl ?_ | refine L.skip rfl ?_)
      refine L.cl (reads_C _ T1 (hR.cons q1)) rfl rfl ?_
      rintro _ T2 ⟨rfl, d2⟩
      refine ⟨fun _ => d2, ?_⟩
      repeat (first | refine W.seq ?_ | refine W.block ?_ | refine W.reg ?_ | refine W.skip ?_ | refine W.exit ?_ | refine W.ret ?_ | refine L.nil ?_ | refine L.p rfl rfl ?_ | refine L.skip rfl ?_)
      have q2 := q1.trans d2
      refine L.upto (i := 4) rfl rfl (by omega) rfl rfl ?_
      repeat (first | refine W.seq ?_ | refine W.block ?_ | refine W.reg ?_ | refine W.skip ?_ | refine W.exit ?_ | refine W.ret ?_ | refine L.nil ?_ | refine L.p rfl rfl ?_ | refine L.skip rfl ?_)
      refine L.tadd (b := [x]) rfl rfl (by rw [List.length_take]; simp; omega) rfl ?_
      repeat (first | refine W.seq ?_ | refine W.block ?_ | refine W.reg ?_ | refine W.skip ?_ | refine W.exit ?_ | refine W.ret ?_ | refine L.nil ?_ | refine L.p rfl rfl ?_ | refine L.skip rfl ?_)
      refine L.from (i := 5) rfl rfl (by omega) rfl rfl ?_
      repeat (first | refine W.seq ?_ | refine W.block ?_ | refine W.reg ?_ | refine W.skip ?_ | refine W.exit ?_ | refine W.ret ?_ | refine L.nil ?_ | refine L.p rfl rfl ?_ | refine L.skip rfl ?_)
      refine L.tadd rfl rfl (by simp; omega) rfl ?_
      repeat (first | refine W.seq ?_ | refine W.block ?_ | refine W.reg ?_ | refine W.skip ?_ | refine W.exit ?_ | refine W.ret ?_ | refine L.nil ?_ | refine L.p rfl rfl ?_ | refine L.skip rfl ?_)
      refine L.cl (once_C _ T2 (hR.cons q2)) rfl rfl ?_
      rintro _ T3 ⟨rfl, d3⟩
      refine ⟨fun _ => d3, ?_⟩
      repeat (first | refine W.seq ?_ | refine W.block ?_ | refine W.reg ?_ | refine W.skip ?_ | refine W.exit ?_ | refine W.ret ?_ | refine L.nil ?_ | refine L.p rfl rfl ?_ | refine L.skip rfl ?_)
      have q3 := q2.trans d3
      refine L.upto (i := 7) rfl rfl (by omega) rfl rfl ?_
      repeat (first | refine W.seq ?_ | refine W.block ?_ | refine W.reg ?_ | refine W.skip ?_ | refine W.exit ?_ | refine W.ret ?_ | refine L.nil ?_ | refine L.p rfl rfl ?_ | refine L.skip rfl ?_)
      refine L.tadd (b := [x]) rfl rfl (by rw [List.length_take]; simp; omega) rfl ?_
      repeat (first | refine W.seq ?_ | refine W.block ?_ | refine W.reg ?_ | refine W.skip ?_ | refine W.exit ?_ | refine W.ret ?_ | refine L.nil ?_ | refine L.p rfl rfl ?_ | refine L.skip rfl ?_)
      refine L.cl (reads_C _ T3 (hR.cons q3)) rfl rfl ?_
      rintro _ T4 ⟨rfl, d4⟩
      refine ⟨fun _ => d4, ?_⟩
      repeat (first | refine W.seq ?_ | refine W.block ?_ | refine W.reg ?_ | refine W.skip ?_ | refine W.exit ?_ | refine W.ret ?_ | refine L.nil ?_ | refine L.p rfl rfl ?_ | refine L.skip rfl ?_)
      have q4 := q3.trans d4
      refine L.upto (i := 6) rfl rfl (by omega) rfl rfl ?_
      repeat (first | refine W.seq ?_ | refine W.block ?_ | refine W.reg ?_ | refine W.skip ?_ | refine W.exit ?_ | refine W.ret ?_ | refine L.nil ?_ | refine L.p rfl rfl ?_ | refine L.skip rfl ?_)
      refine L.tadd (b := [x]) rfl rfl (by rw [List.length_take]; simp; omega) rfl ?_
      repeat (first | refine W.seq ?_ | refine W.block ?_ | refine W.reg ?_ | refine W.skip ?_ | refine W.exit ?_ | refine W.ret ?_ | refine L.nil ?_ | refine L.p rfl rfl ?_ | refine L.skip rfl ?_)
      refine L.from (i := 7) rfl rfl (by omega) rfl rfl ?_
      repeat (first | refine W.seq ?_ | refine W.block ?_ | refine W.reg ?_ | refine W.skip ?_ | refine W.exit ?_ | refine W.ret ?_ | refine L.nil ?_ | refine L.p rfl rfl ?_ | refine L.skip rfl ?_)
      refine L.tadd rfl rfl (by simp; omega) rfl ?_
      repeat (first | refine W.seq ?_ | refine W.block ?_ | refine W.reg ?_ | refine W.skip ?_ | refine W.exit ?_ | refine W.ret ?_ | refine L.nil ?_ | refine L.p rfl rfl ?_ | refine L.skip rfl ?_)
      refine L.cl (reads_C _ T4 (hR.cons q4)) rfl rfl ?_
      rintro _ T5 ⟨rfl, d5⟩
      refine ⟨fun _ => d5, ?_⟩
      repeat (first | refine W.seq ?_ | refine W.block ?_ | refine W.reg ?_ | refine W.skip ?_ | refine W.exit ?_ | refine W.ret ?_ | refine L.nil ?_ | refine L.p rfl rfl ?_ | refine L.skip rfl ?_)
      refine W.ite rfl (fun h => ?_) (fun h => ?_)
      · cases h
      repeat (first | refine W.seq ?_ | refine W.block ?_ | refine W.reg ?_ | refine W.skip ?_ | refine W.exit ?_ | refine W.ret ?_ | refine L.nil ?_ | refine L.p rfl rfl ?_ | refine L.skip rfl ?_)
      refine ⟨2 - (t + 1), by omega, t + 1, rfl, by omega, rfl, rfl, rfl, rfl, ?_, ((((cT.trans d1).trans d2).trans d3).trans d4).trans d5⟩
      refine (force_eq rfl).trans ?_
      rw [wrap64 (by omega) (by omega)]; rfl
    clear h
    repeat (first | refine W.seq ?_ | refine W.block ?_ | refine W.reg ?_ | refine W.skip ?_ | refine W.exit ?_ | refine W.ret ?_ | refine L.nil ?_ | refine L.p rfl rfl ?_ | refine L.skip rfl ?_)
    refine ⟨256 - (i + 1), by omega, i + 1, rfl, by omega, ?_, kT⟩
    refine (force_eq rfl).trans ?_
    rw [wrap64 (by omega) (by omega)]; rfl
  clear h e3 hi
  repeat (first | refine W.seq ?_ | refine W.block ?_ | refine W.reg ?_ | refine W.skip ?_ | refine W.exit ?_ | refine W.ret ?_ | refine L.nil ?_ | refine L.p rfl rfl ?_ | refine L.skip rfl ?_)
  refine L.mk (n := 70) (m := 70) (bytes := 1) (zv := v8 0#8) rfl rfl rfl rfl rfl (by decide) (by decide) rfl rfl ?_
  have hrm : Mem.row? (S2 ++ [newR (List.replicate 70 (v8 0#8)) 5]) S2.length = some (newR (List.replicate 70 (v8 0#8)) 5) := row_push_new rfl
  have hSm : S.length ≤ S2.length := k2.len
  have k3 := k2.trans (Cons.push S2 (newR (List.replicate 70 (v8 0#8)) 5))
  generalize S2 ++ [newR (List.replicate 70 (v8 0#8)) 5] = S3 at *
  obtain ⟨rm, hrm0⟩ : ∃ rm, rm = S2.length := ⟨_, rfl⟩
  rw [← hrm0] at hrm hSm ⊢
  clear hrm0
  repeat (first | refine W.seq ?_ | refine W.block ?_ | refine W.reg ?_ | refine W.skip ?_ | refine W.exit ?_ | refine W.ret ?_ | refine L.nil ?_ | refine L.p rfl rfl ?_ | refine L.skip rfl ?_)
  refine W.loop (fun j e S' => ∃ (n : Nat) (l : BL), j = 70 - n ∧ n ≤ 70 ∧ e 8 = .slice (some ⟨rm, 0, none⟩) 70 70 ∧ e 9 = vi n ∧ Cons S S' ∧ S'.row? rm = some (newR (bv l) 5) ∧ l.length = 70) 70
    ⟨0, List.replicate 70 0#8, by omega, by omega, rfl, rfl, k3, by rw [hrm]; rfl, by simp⟩ ?_
  clear k3 hrm k2
  rintro j e T ⟨n, l, rfl, hn, e8, e9, kT, hr8, hl8⟩
  refine W.env2 e8 e9 ?_
  repeat (first | refine W.seq ?_ | refine W.block ?_ | refine W.reg ?_ | refine W.skip ?_ | refine W.exit ?_ | refine W.ret ?_ | refine L.nil ?_ | refine L.p rfl rfl ?_ | refine L.skip rfl ?_)
  refine W.ite rfl (fun h => ?_) (fun h => ?_)
  · have hin : n < 70 := by have := of_decide_eq_true h; omega
    clear h
    repeat (first | refine W.seq ?_ | refine W.block ?_ | refine W.reg ?_ | refine W.skip ?_ | refine W.exit ?_ | refine W.ret ?_ | refine L.nil ?_ | refine L.p rfl rfl ?_ | refine L.skip rfl ?_)
    refine L.elst hr8 rfl (by simp [newR, bv_len, hl8]) rfl hin rfl rfl rfl rfl (fun _ => rfl) (fun _ => rfl) rfl rfl rfl (fun p => ?_)
    have hset := row_set_same (x := newR (bv (l.set n (BitVec.ofInt 8 (IntKind.i64.wrap (IntKind.i64.wrap ((n : Int) * (n : Int)) + 3))))) 5) hr8 rfl
    have kT2 := kT.set rm (newR (bv (l.set n (BitVec.ofInt 8 (IntKind.i64.wrap (IntKind.i64.wrap ((n : Int) * (n : Int)) + 3))))) 5) hSm
    have hsame : ({ newR (bv l) 5 with cells := (newR (bv l) 5).cells.set (0 + n) (Value.int .u8 (IntKind.u8.wrap (IntKind.i64.wrap (IntKind.i64.wrap ((n : Int) * (n : Int)) + 3)))) } : Row) = newR (bv (l.set n (BitVec.ofInt 8 (IntKind.i64.wrap (IntKind.i64.wrap ((n : Int) * (n : Int)) + 3))))) 5 := by
      rw [i8, Nat.zero_add]
      simp only [newR, bv, List.map_set]
    rw [hsame]
    have hl9 : (l.set n (BitVec.ofInt 8 (IntKind.i64.wrap (IntKind.i64.wrap ((n : Int) * (n : Int)) + 3)))).length = 70 := by simpa using hl8
    generalize l.set n (BitVec.ofInt 8 (IntKind.i64.wrap (IntKind.i64.wrap ((n : Int) * (n : Int)) + 3))) = m at *
    generalize List.set T rm (newR (bv m) 5) = T2 at *
    clear hsame hr8
    repeat (first | refine W.seq ?_ | refine W.block ?_ | refine W.reg ?_ | refine W.skip ?_ | refine W.exit ?_ | refine W.ret ?_ | refine L.nil ?_ | refine L.p rfl rfl ?_ | refine L.skip rfl ?_)
    refine W.loop (fun j e S' => ∃ k : Nat, j = 8 - k ∧ k ≤ 8 ∧ e 8 = .slice (some ⟨rm, 0, none⟩) 70 70 ∧ e 9 = vi n ∧ e 10 = vi k ∧ Cons T2 S') 8
      ⟨0, by omega, by omega, rfl, rfl, rfl, Cons.refl _⟩ ?_
    clear e8 e9 e
    rintro j e T3 ⟨k, rfl, hk, e8, e9, e10, c3⟩
    refine W.env3 e8 e9 e10 ?_
    have hr3 := c3.row' hset
    repeat (first | refine W.seq ?_ | refine W.block ?_ | refine W.reg ?_ | refine W.skip ?_ | refine W.exit ?_ | refine W.ret ?_ | refine L.nil ?_ | refine L.p rfl rfl ?_ | refine L.skip rfl ?_)
    refine W.ite rfl (fun h => ?_) (fun h => ?_)
    · have hk8 : k < 8 := by have := of_decide_eq_true h; omega
      clear h
      have hI : BIn T3 (some ⟨rm, 0, none⟩) 70 m := BIn.newl hr3 hl9 (by omega)
      obtain ⟨a1, c1', q1, q2⟩ := hI.part (lo := none) (hi := some (vi n)) (k := 0) (h := n) (.inl ⟨rfl, rfl⟩) (.inr ⟨.i64, rfl⟩) (by omega) (by omega)
      repeat (first | refine W.seq ?_ | refine W.block ?_ | refine W.reg ?_ | refine W.skip ?_ | refine W.exit ?_ | refine W.ret ?_ | refine L.nil ?_ | refine L.p rfl rfl ?_ | refine L.skip rfl ?_)
      refine L.is (.slice a1 ((m.drop 0).take (n - 0)).length c1') ?_ rfl ?_
      · rw [hl9] at q1
        exact (slice_at0 rfl rfl rfl).trans q1
      repeat (first | refine W.seq ?_ | refine W.block ?_ | refine W.reg ?_ | refine W.skip ?_ | refine W.exit ?_ | refine W.ret ?_ | refine L.nil ?_ | refine L.p rfl rfl ?_ | refine L.skip rfl ?_)
      refine L.cl (back_C a1 c1' _ _ T3 q2.1 q2.2.1 (hR.cons (kT2.trans c3))) rfl rfl ?_
      rintro _ T4 ⟨rfl, c4⟩
      refine ⟨nofun, ?_⟩
      repeat (first | refine W.seq ?_ | refine W.block ?_ | refine W.reg ?_ | refine W.skip ?_ | refine W.exit ?_ | refine W.ret ?_ | refine L.nil ?_ | refine L.p rfl rfl ?_ | refine L.skip rfl ?_)
      refine W.ite rfl (fun h => ?_) (fun h => ?_)
      · cases h
      repeat (first | refine W.seq ?_ | refine W.block ?_ | refine W.reg ?_ | refine W.skip ?_ | refine W.exit ?_ | refine W.ret ?_ | refine L.nil ?_ | refine L.p rfl rfl ?_ | refine L.skip rfl ?_)
      refine ⟨8 - (k + 1), by omega, k + 1, rfl, by omega, rfl, rfl, ?_, c3.trans c4⟩
      refine (force_eq rfl).trans ?_
      rw [wrap64 (by omega) (by omega)]; rfl
    · repeat (first | refine W.seq ?_ | refine W.block ?_ | refine W.reg ?_ | refine W.skip ?_ | refine W.exit ?_ | refine W.ret ?_ | refine L.nil ?_ | refine L.p rfl rfl ?_ | refine L.skip rfl ?_)
      refine ⟨70 - (n + 1), by omega, n + 1, m, rfl, by omega, rfl, ?_, kT2.trans c3, hr3, hl9⟩
      refine (force_eq rfl).trans ?_
      rw [wrap64 (by omega) (by omega)]; rfl
  · repeat (first | refine W.seq ?_ | refine W.block ?_ | refine W.reg ?_ | refine W.skip ?_ | refine W.exit ?_ | refine W.ret ?_ | refine L.nil ?_ | refine L.p rfl rfl ?_ | refine L.skip rfl ?_)
    refine L.cl (works_C _ (hR.cons kT)) rfl rfl ?_
    rintro _ T2 ⟨rfl, c2⟩
    refine ⟨nofun, ?_⟩
    repeat (first | refine W.seq ?_ | refine W.block ?_ | refine W.reg ?_ | refine W.skip ?_ | refine W.exit ?_ | refine W.ret ?_ | refine L.nil ?_ | refine L.p rfl rfl ?_ | refine L.skip rfl ?_)
    exact ⟨.inr rfl, _, rfl, rfl, kT.trans c2⟩
end Go.Proofs.YtkiecgkgbogbaaaDoor

/- The proof of the statement CodingKnown. Conditions: none. -/
namespace Go.Proofs.YtkiecgkgbogbaaaDoor.codingKnown
open Go.ChangeShapes Go.WideShapes Go.ChangeAt Go.RowKit
open Go.ChangeMaps (open_string shut_string)
set_option linter.unusedVariables false

theorem own : ownKnob Tryd.prog.godebug = none := by kernel_rfl

theorem walk  (w : World) (hG : 1 ≤ w.heap.size) (hR : ∀ N, RowsOk (mem0 w N)) :
    Calls Tryd.prog 7 #[] w fun e w' => e = .returned (.bool true) ∧ Below w.heap.size w w' := by
  obtain ⟨v, S', hE, rfl, hcons⟩ := known_C (Ext := fun _ _ _ _ _ => False) (mem0 w) (hR 0)
  exact top_true (Checked.mixed Tryd.checked) (fun _ _ _ _ _ h => h.elim) hG (fun a ha => by simp at ha) hE hcons

set_option maxRecDepth 100000 in
theorem lifted (os : Os) (started : os.Started) (H : Type) (enc : TypeId × Value → H) :
    ReturnsInHanded {} Tryd.checked os 7 .any (fun w args => (Rows.codingKnownSpec.pre enc Tryd.prog Tryd.f7 [] false w args ∧ laidMetH Tryd.prog laidL w) ∧ sizedMet enc Tryd.prog Tryd.f7 (OpenSpec.ofChange Rows.codingKnownSpec) false w args)
      (Rows.codingKnownSpec.post enc Tryd.prog Tryd.f7 false true false false) := by
  refine returnsInHanded_of_change_and (C := Tryd.checked) (X := fun w _ => laidMetH Tryd.prog laidL w) (fun _ _ _ hh h => h.of_heap hh) own started (by kernel_rfl) Tryd.func7
    (ChangeSpec.witness_shaped (enc := enc) (C := Tryd.checked) (os := os) (X := fun w _ => laidMetH Tryd.prog laidL w) false (World.doorLaid Tryd.prog 400 os) #[] 8 rfl (World.shaped_of_RefB (by kernel_rfl) (by kernel_rfl)) (by kernel_rfl) (by kernel_rfl) (by kernel_rfl) (door_met os _)) ?_
  intro W base args ds gs before hval0 hW _ _ hL _
  obtain ⟨hG, hR⟩ := of_laid hL
  have hval : ∀ (j : Nat) t v, Tryd.f7.params[j]? = some t → args[j]? = some v → Value.okWide Tryd.prog W .any base t v := hval0
  have hW' := hW
  obtain ⟨p, q, hA0, hV, rfl, hfz, hnd⟩ := hW
  have hA : DataW.TrodAll enc Tryd.prog W 0 (fun _ => true) true Tryd.f7.params.toList args.toList ds p := hA0
  rw [Tryd.params7] at hA hval
  obtain ⟨rfl, rfl, rfl⟩ := trodAll_none hA
  obtain ⟨rfl, rfl⟩ := trodVars_none hV
  clear hA0 hval0
  simp only [List.append_nil] at hW'
  refine (walk  W hG hR).mono fun e W' ⟨he, bel⟩ => ?_
  subst he
  exact ⟨_, rfl, _, _, _, [], _, [], hW', trodAll_mk1 (shut_bool Tryd.underlying4 _), rfl, rfl, bel.frame _, fun h => by cases h⟩

theorem over : Rows.codingKnownRow.holds Tryd.pinned (OpenSpec.ofChange Rows.codingKnownSpec) :=
  OpenClaim.holds_of_wide 7 Tryd.f7 rfl rfl rfl rfl rfl rfl rfl ⟨rfl, rfl, rfl, rfl, rfl⟩ rfl rfl rfl rfl rfl (by kernel_rfl) Tryd.func7 (by kernel_rfl)
    (of_decide_eq_true (by kernel_rfl)) (by unfold Func.isWrapper; first | (rw [if_pos (by decide +kernel)]; kernel_rfl) | (rw [if_neg (by decide +kernel)]; exact ⟨rfl, rfl⟩))
    (fun os started H enc _ => lifted os started H enc)

/-- the card: the row, its variable tied to the program's text -/
theorem proved : Rows.CodingKnownCardSaid :=
  Claim7.holds_tied_plain_at .later [] [.data] true (true, "f8b44dcaa85ac0566c79ab81753e15c4d3dda83bef56da4901400e8532865c88") false
    over (fun _ h => by cases h) (by kernel_rfl) (fun _ h => by cases h) codingKnown_row_tie rfl ⟨rfl, rfl⟩ (by kernel_rfl) rfl
    (fun f fn hf hfn => by
      obtain rfl : f = 7 := Option.some.inj ((show Tryd.prog.funcNamed "vouch/vouchlaw06.CodingKnown" = some 7 by kernel_rfl).symm.trans hf) |>.symm
      obtain rfl : fn = Tryd.f7 := (Option.some.inj (Tryd.func7.symm.trans hfn)).symm
      exact ⟨by kernel_rfl, fun j t ht => by
        rw [Tryd.params7] at ht
        simp at ht⟩)
    (by kernel_rfl)
end Go.Proofs.YtkiecgkgbogbaaaDoor.codingKnown
