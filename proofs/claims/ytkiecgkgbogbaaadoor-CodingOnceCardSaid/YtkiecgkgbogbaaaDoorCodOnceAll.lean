/- The proof of the statement CodingOnce. Conditions: none. -/
import Derived.Test.YtkiecgkgbogbaaaDoorLibD
import Derived.Test.YtkiecgkgbogbaaaDoorRows
import Derived.Test.YtkiecgkgbogbaaaDoorTie
import Derived.Test.YtkiecgkgbogbaaaDoorCards
import Derived.SevenTiedAt
import Derived.WalkKit
import Derived.ProofKit
import Derived.OpenShut
import Derived.ShutString
import Derived.ChangeOld
import Derived.Below

/- The law of reading, walked. Conditions: none. -/
set_option linter.unusedSimpArgs false
set_option linter.unusedVariables false
set_option maxRecDepth 100000
namespace Go.Proofs.YtkiecgkgbogbaaaDoor
open Go
variable {Ext : FuncId → List Value → Mem → Outc → Mem → Prop}
def outL (o : Option BL) : BL := o.getD []
def outE (o : Option BL) (code : Int) : Int := if o.isSome then 0 else code
theorem ResB.all {S S' : Mem} {v : Value} {o : Option BL} {code : Int} (h : ResB S S' v o code) : ∃ d : Hd, v = .tuple #[d.v, .int .i64 (outE o code)] ∧ OutB S S' d (outL o) := by
  cases o with
  | none => exact ⟨HdN, h.1, OutB.nil h.2⟩
  | some m => exact h
theorem OutB.slv {S S' : Mem} {d : Hd} {l : BL} (h : OutB S S' d l) : Slv S' 1 d.v d.n (bv l) := h.2.2.1.slv
theorem OutB.nlt {S S' : Mem} {d : Hd} {l : BL} (h : OutB S S' d l) : d.n < 1099511627776 := by have := h.2.2.1.len; rw [bv_len] at this; have := h.2.1; omega
theorem OutB.lt {S S' : Mem} {d : Hd} {l : BL} (h : OutB S S' d l) {b : Nat} (hb : d.a = some b) : b < S'.length := h.2.2.1.lt hb
theorem OutB.ge {S S' : Mem} {d : Hd} {l : BL} (h : OutB S S' d l) {b : Nat} (hb : d.a = some b) : S.length ≤ b := h.2.2.2 b hb
theorem OutB.wl {S S' : Mem} {d : Hd} {l : BL} (h : OutB S S' d l) (hl : l.length < 1000000000) : (bv l).length ≤ 1000000000000 := by rw [bv_len]; omega
theorem decS_len : ∀ (l : BL) (x b : Nat) (m : BL), decS x b l = some m → m.length ≤ l.length
  | [], x, b, m, h => by
    unfold decS at h
    split at h
    · cases h; simp
    · cases h
  | c :: l, x, b, m, h => by
    unfold decS at h
    rw [Option.bind_eq_some_iff] at h
    obtain ⟨d, _, h⟩ := h
    split at h
    · rw [Option.map_eq_some_iff] at h
      obtain ⟨m', h, rfl⟩ := h
      have := decS_len l _ _ m' h
      simp; omega
    · have := decS_len l _ _ m h
      simp; omega
theorem unB_len (l : BL) : (outL (unB l)).length ≤ l.length := by
  cases h : unB l with
  | none => exact Nat.zero_le _
  | some m =>
    unfold unB at h
    split at h
    · have := decS_len _ _ _ _ h
      have h1 := trimE_len (trimE l)
      have h2 := trimE_len l
      show m.length ≤ _
      omega
    · cases h
theorem unhexH_len : ∀ (l : BL) (o : Option Nat) (m : BL), unhexH o l = some m → m.length ≤ l.length
  | [], none, m, h => by cases h; simp
  | [], some _, m, h => by cases h
  | x :: l, none, m, h => by
    unfold unhexH at h
    rw [Option.bind_eq_some_iff] at h
    obtain ⟨d, _, h⟩ := h
    have := unhexH_len l _ m h
    simp; omega
  | x :: l, some a, m, h => by
    unfold unhexH at h
    rw [Option.bind_eq_some_iff] at h
    obtain ⟨d, _, h⟩ := h
    rw [Option.map_eq_some_iff] at h
    obtain ⟨m', h, rfl⟩ := h
    have := unhexH_len l _ m' h
    simp; omega
theorem unhex_len (l : BL) : (outL (unhexH none l)).length ≤ l.length := by
  cases h : unhexH none l with
  | none => exact Nat.zero_le _
  | some m => exact unhexH_len l _ m h
theorem reads_C (s : ByteArray) (S : Mem) (hR : RowsOk S) :
    C Tryd.prog 1 Ext 4 [.string s] S fun v S' => v = .bool true ∧ Cons S S' := by
  obtain ⟨l, rfl⟩ := strB_of s
  refine C.fn Tryd.func4 rfl (by kernel_rfl) rfl ?_
  repeat (first | refine W.seq ?_ | refine W.block ?_ | refine W.reg ?_ | refine W.skip ?_ | refine W.exit ?_ | refine W.ret ?_ | refine L.nil ?_ | refine L.p rfl rfl ?_ | refine L.skip rfl ?_)
  refine L.tlen rfl rfl rfl rfl ?_
  repeat (first | refine W.seq ?_ | refine W.block ?_ | refine W.reg ?_ | refine W.skip ?_ | refine W.exit ?_ | refine W.ret ?_ | refine L.nil ?_ | refine L.p rfl rfl ?_ | refine L.skip rfl ?_)
  refine W.ite rfl (fun h => ?_) (fun h => ?_)
  · repeat (first | refine W.seq ?_ | refine W.block ?_ | refine W.reg ?_ | refine W.skip ?_ | refine W.exit ?_ | refine W.ret ?_ | refine L.nil ?_ | refine L.p rfl rfl ?_ | refine L.skip rfl ?_)
    exact ⟨.inr rfl, _, rfl, rfl, Cons.refl _⟩
  have hl : l.length ≤ 4096 := by have := of_decide_eq_false h; omega
  clear h
  have n1 := unhex_len l
  have n2 := unB_len l
  repeat (first | refine W.seq ?_ | refine W.block ?_ | refine W.reg ?_ | refine W.skip ?_ | refine W.exit ?_ | refine W.ret ?_ | refine L.nil ?_ | refine L.p rfl rfl ?_ | refine L.skip rfl ?_)
  refine L.cl (unhex_C l (by omega) S) rfl rfl ?_
  rintro _ S1 hr
  obtain ⟨d1, rfl, o1⟩ := hr.all
  clear hr
  refine ⟨nofun, ?_⟩
  repeat (first | refine W.seq ?_ | refine W.block ?_ | refine W.reg ?_ | refine W.skip ?_ | refine W.exit ?_ | refine W.ret ?_ | refine L.nil ?_ | refine L.p rfl rfl ?_ | refine L.skip rfl ?_)
  refine L.cl (unbase64_C l (by omega) S1 (hR.cons o1.1)) rfl rfl ?_
  rintro _ S2 hr
  obtain ⟨d2, rfl, o2⟩ := hr.all
  clear hr
  refine ⟨nofun, ?_⟩
  have k2 := o1.1.trans o2.1
  repeat (first | refine W.seq ?_ | refine W.block ?_ | refine W.reg ?_ | refine W.skip ?_ | refine W.exit ?_ | refine W.ret ?_ | refine L.nil ?_ | refine L.p rfl rfl ?_ | refine L.skip rfl ?_)
  refine L.cl (unhex_C l (by omega) S2) rfl rfl ?_
  rintro _ S3 hr
  obtain ⟨d3, rfl, o3⟩ := hr.all
  clear hr
  refine ⟨nofun, ?_⟩
  have k3 := k2.trans o3.1
  repeat (first | refine W.seq ?_ | refine W.block ?_ | refine W.reg ?_ | refine W.skip ?_ | refine W.exit ?_ | refine W.ret ?_ | refine L.nil ?_ | refine L.p rfl rfl ?_ | refine L.skip rfl ?_)
  refine L.cl (unbase64_C l (by omega) S3 (hR.cons k3)) rfl rfl ?_
  rintro _ S4 hr
  obtain ⟨d4, rfl, o4⟩ := hr.all
  clear hr
  refine ⟨nofun, ?_⟩
  have k4 := k3.trans o4.1
  repeat (first | refine W.seq ?_ | refine W.block ?_ | refine W.reg ?_ | refine W.skip ?_ | refine W.exit ?_ | refine W.ret ?_ | refine L.nil ?_ | refine L.p rfl rfl ?_ | refine L.skip rfl ?_)
  refine L.cl (refUnhex_C l (by omega) S4) rfl rfl ?_
  rintro _ S5 hr
  obtain ⟨d5, rfl, o5⟩ := hr.all
  clear hr
  refine ⟨nofun, ?_⟩
  have k5 := k4.trans o5.1
  repeat (first | refine W.seq ?_ | refine W.block ?_ | refine W.reg ?_ | refine W.skip ?_ | refine W.exit ?_ | refine W.ret ?_ | refine L.nil ?_ | refine L.p rfl rfl ?_ | refine L.skip rfl ?_)
  have hq := refUnbase64_C (G := 1) (Ext := Ext) l (by omega) S5
  rw [refB_unB] at hq
  refine L.cl hq rfl rfl ?_
  rintro _ S6 hr
  obtain ⟨d6, rfl, o6⟩ := hr.all
  clear hr hq
  refine ⟨nofun, ?_⟩
  have k6 := k5.trans o6.1
  repeat (first | refine W.seq ?_ | refine W.block ?_ | refine W.reg ?_ | refine W.skip ?_ | refine W.exit ?_ | refine W.ret ?_ | refine L.nil ?_ | refine L.p rfl rfl ?_ | refine L.skip rfl ?_)
  rw [show (outE (unhexH none l) 60 != outE (unhexH none l) 60) = false from bne_self_eq_false _]
  repeat (first | refine W.seq ?_ | refine W.block ?_ | refine W.reg ?_ | refine W.skip ?_ | refine W.exit ?_ | refine W.ret ?_ | refine L.nil ?_ | refine L.p rfl rfl ?_ | refine L.skip rfl ?_)
  rw [show (outE (unB l) 61 != outE (unB l) 61) = false from bne_self_eq_false _]
  repeat (first | refine W.seq ?_ | refine W.block ?_ | refine W.reg ?_ | refine W.skip ?_ | refine W.exit ?_ | refine W.ret ?_ | refine L.nil ?_ | refine L.p rfl rfl ?_ | refine L.skip rfl ?_)
  rw [show (outE (unhexH none l) 60 != outE (unhexH none l) 60) = false from bne_self_eq_false _]
  repeat (first | refine W.seq ?_ | refine W.block ?_ | refine W.reg ?_ | refine W.skip ?_ | refine W.exit ?_ | refine W.ret ?_ | refine L.nil ?_ | refine L.p rfl rfl ?_ | refine L.skip rfl ?_)
  rw [show (outE (unB l) 61 != outE (unB l) 61) = false from bne_self_eq_false _]
  repeat (first | refine W.seq ?_ | refine W.block ?_ | refine W.reg ?_ | refine W.skip ?_ | refine W.exit ?_ | refine W.ret ?_ | refine L.nil ?_ | refine L.p rfl rfl ?_ | refine L.skip rfl ?_)
  have p1 := o1.post (o2.1.trans (o3.1.trans (o4.1.trans (o5.1.trans o6.1))))
  have p2 := o2.post (o3.1.trans (o4.1.trans (o5.1.trans o6.1)))
  have p3 := o3.post (o4.1.trans (o5.1.trans o6.1))
  have p4 := o4.post (o5.1.trans o6.1)
  have p5 := o5.post o6.1
  refine L.cl (same_C _ _ (outL (unhexH none l)) (outL (unhexH none l)) d1.n d5.n S6 p1.slv p5.slv p1.nlt p5.nlt) rfl rfl ?_
  rintro _ M5 ⟨rfl, hS⟩
  have hS := hS.symm
  subst hS
  refine ⟨nofun, ?_⟩
  rw [beq_self_eq_true]
  repeat (first | refine W.seq ?_ | refine W.block ?_ | refine W.reg ?_ | refine W.skip ?_ | refine W.exit ?_ | refine W.ret ?_ | refine L.nil ?_ | refine L.p rfl rfl ?_ | refine L.skip rfl ?_)
  refine L.cl (same_C _ _ (outL (unB l)) (outL (unB l)) d2.n d6.n S6 p2.slv o6.slv p2.nlt o6.nlt) rfl rfl ?_
  rintro _ M5 ⟨rfl, hS⟩
  have hS := hS.symm
  subst hS
  refine ⟨nofun, ?_⟩
  rw [beq_self_eq_true]
  repeat (first | refine W.seq ?_ | refine W.block ?_ | refine W.reg ?_ | refine W.skip ?_ | refine W.exit ?_ | refine W.ret ?_ | refine L.nil ?_ | refine L.p rfl rfl ?_ | refine L.skip rfl ?_)
  refine L.cl (same_C _ _ (outL (unhexH none l)) (outL (unhexH none l)) d3.n d5.n S6 p3.slv p5.slv p3.nlt p5.nlt) rfl rfl ?_
  rintro _ M5 ⟨rfl, hS⟩
  have hS := hS.symm
  subst hS
  refine ⟨nofun, ?_⟩
  rw [beq_self_eq_true]
  repeat (first | refine W.seq ?_ | refine W.block ?_ | refine W.reg ?_ | refine W.skip ?_ | refine W.exit ?_ | refine W.ret ?_ | refine L.nil ?_ | refine L.p rfl rfl ?_ | refine L.skip rfl ?_)
  refine L.cl (same_C _ _ (outL (unB l)) (outL (unB l)) d4.n d6.n S6 p4.slv o6.slv p4.nlt o6.nlt) rfl rfl ?_
  rintro _ M5 ⟨rfl, hS⟩
  have hS := hS.symm
  subst hS
  refine ⟨nofun, ?_⟩
  rw [beq_self_eq_true]
  repeat (first | refine W.seq ?_ | refine W.block ?_ | refine W.reg ?_ | refine W.skip ?_ | refine W.exit ?_ | refine W.ret ?_ | refine L.nil ?_ | refine L.p rfl rfl ?_ | refine L.skip rfl ?_)
  refine W.ite rfl (fun h => ?_) (fun h => ?_)
  · cases h
  repeat (first | refine W.seq ?_ | refine W.block ?_ | refine W.reg ?_ | refine W.skip ?_ | refine W.exit ?_ | refine W.ret ?_ | refine L.nil ?_ | refine L.p rfl rfl ?_ | refine L.skip rfl ?_)
  refine L.eff (v := .pointer (some ⟨S6.length, 0, none⟩)) (S1 := S6 ++ [newR [.slice none 0 0, .slice none 0 0] 34]) rfl rfl ?_
  have hB0 := BK.new S6
  generalize S6 ++ [newR [.slice none 0 0, .slice none 0 0] 34] = N0 at *
  obtain ⟨rb, hrb⟩ : ∃ rb, rb = S6.length := ⟨_, rfl⟩
  rw [← hrb] at hB0 ⊢
  repeat (first | refine W.seq ?_ | refine W.block ?_ | refine W.reg ?_ | refine W.skip ?_ | refine W.exit ?_ | refine W.ret ?_ | refine L.nil ?_ | refine L.p rfl rfl ?_ | refine L.skip rfl ?_)
  refine L.cl (bytes_BK d1 hB0 (by simp)) rfl rfl ?_
  rintro _ N1 hB1
  refine ⟨nofun, ?_⟩
  repeat (first | refine W.seq ?_ | refine W.block ?_ | refine W.reg ?_ | refine W.skip ?_ | refine W.exit ?_ | refine W.ret ?_ | refine L.nil ?_ | refine L.p rfl rfl ?_ | refine L.skip rfl ?_)
  refine L.cl (bytes_BK d2 hB1 (by simp)) rfl rfl ?_
  rintro _ N2 hB2
  refine ⟨nofun, ?_⟩
  repeat (first | refine W.seq ?_ | refine W.block ?_ | refine W.reg ?_ | refine W.skip ?_ | refine W.exit ?_ | refine W.ret ?_ | refine L.nil ?_ | refine L.p rfl rfl ?_ | refine L.skip rfl ?_)
  refine L.cl (bytes_BK d3 hB2 (by simp)) rfl rfl ?_
  rintro _ N3 hB3
  refine ⟨nofun, ?_⟩
  repeat (first | refine W.seq ?_ | refine W.block ?_ | refine W.reg ?_ | refine W.skip ?_ | refine W.exit ?_ | refine W.ret ?_ | refine L.nil ?_ | refine L.p rfl rfl ?_ | refine L.skip rfl ?_)
  refine L.cl (bytes_BK d4 hB3 (by simp)) rfl rfl ?_
  rintro _ N4 hB4
  refine ⟨nofun, ?_⟩
  repeat (first | refine W.seq ?_ | refine W.block ?_ | refine W.reg ?_ | refine W.skip ?_ | refine W.exit ?_ | refine W.ret ?_ | refine L.nil ?_ | refine L.p rfl rfl ?_ | refine L.skip rfl ?_)
  have w1 : (bv (outL (unhexH none l))).length ≤ 1000000000000 := by rw [bv_len]; omega
  have w2 : (bv (outL (unB l))).length ≤ 1000000000000 := by rw [bv_len]; omega
  refine L.cl (apart_BK hB4 ⟨by simp, by simp⟩ (.nil _ _) (.add p1.2.2.1 w1 (.add p2.2.2.1 w2 (.add p3.2.2.1 w1 (.add p4.2.2.1 w2 (.nil _ _))))) .nil
    (.add (fun b hb hm => ?_) (.add (fun b hb hm => ?_) (.add (fun b hb hm => ?_) (.add (fun x e hm => by simp [blks] at hm) .nil)))) (by simp [blks])) rfl rfl ?_
  · have := o1.lt hb
    have hm : b ∈ blks [d2, d3, d4] := hm
    simp only [mem_blks, blks_nil, List.not_mem_nil, or_false] at hm
    rcases hm with hm | hm | hm
    · have := o2.ge hm; omega
    · have := o3.ge hm; have := o2.1.len; omega
    · have := o4.ge hm; have := o2.1.len; have := o3.1.len; omega
  · have := o2.lt hb
    have hm : b ∈ blks [d3, d4] := hm
    simp only [mem_blks, blks_nil, List.not_mem_nil, or_false] at hm
    rcases hm with hm | hm
    · have := o3.ge hm; omega
    · have := o4.ge hm; have := o3.1.len; omega
  · have := o3.lt hb
    have hm : b ∈ blks [d4] := hm
    simp only [mem_blks, blks_nil, List.not_mem_nil, or_false] at hm
    have := o4.ge hm; omega
  rintro _ N5 ⟨rfl, hk⟩
  refine ⟨nofun, ?_⟩
  have hN5 : Cons S N5 := hk.cons0 k6 (fun x hm => by
    have hm : x ∈ blks [] ++ blks [d1, d2, d3, d4] := hm
    simp only [blks_nil, List.nil_append, mem_blks, List.not_mem_nil, or_false] at hm
    rcases hm with hm | hm | hm | hm
    · exact o1.ge hm
    · have := o2.ge hm; have := o1.1.len; omega
    · have := o3.ge hm; have := k2.len; omega
    · have := o4.ge hm; have := k3.len; omega)
  repeat (first | refine W.seq ?_ | refine W.block ?_ | refine W.reg ?_ | refine W.skip ?_ | refine W.exit ?_ | refine W.ret ?_ | refine L.nil ?_ | refine L.p rfl rfl ?_ | refine L.skip rfl ?_)
  refine L.cl (works_C _ (hR.cons hN5)) rfl rfl ?_
  rintro _ N6 ⟨rfl, hc⟩
  refine ⟨fun _ => hc, ?_⟩
  repeat (first | refine W.seq ?_ | refine W.block ?_ | refine W.reg ?_ | refine W.skip ?_ | refine W.exit ?_ | refine W.ret ?_ | refine L.nil ?_ | refine L.p rfl rfl ?_ | refine L.skip rfl ?_)
  exact ⟨.inr rfl, _, rfl, rfl, hN5.trans hc⟩
end Go.Proofs.YtkiecgkgbogbaaaDoor

/- Layer 6: what was told is read again, in any letters, cut short; pure. Conditions: none. -/
set_option linter.unusedSimpArgs false
set_option linter.unusedVariables false
set_option maxRecDepth 100000
namespace Go.Proofs.YtkiecgkgbogbaaaDoor
open Go
theorem hexV_hexD {n : Nat} (h : n < 16) : hexV (hexD n).toNat = some n := by
  have : ∀ n : Fin 16, hexV (hexD n.val).toNat = some n.val := by decide +kernel
  exact this ⟨n, h⟩
theorem hexS_cons (x : BitVec 8) (l : BL) : hexS (x :: l) = hexD (x.toNat / 16) :: hexD (x.toNat % 16) :: hexS l := rfl
theorem unhex_two' {p q : BitVec 8} {a b : Nat} (ha : hexV p.toNat = some a) (hb : hexV q.toNat = some b) (l : BL) : unhexH none (p :: q :: l) = (unhexH none l).map (BitVec.ofNat 8 (16 * a + b) :: ·) := by
  show (hexV p.toNat).bind _ = _
  rw [ha]
  show (hexV q.toNat).bind _ = _
  rw [hb]; rfl
theorem hl_join (x : BitVec 8) : BitVec.ofNat 8 (16 * (x.toNat / 16) + x.toNat % 16) = x := by
  rw [Nat.div_add_mod]; simp
theorem unhex_hexS : ∀ l : BL, unhexH none (hexS l) = some l
  | [] => rfl
  | x :: l => by
    have hx := x.isLt
    rw [hexS_cons, unhex_two' (hexV_hexD (by omega)) (hexV_hexD (by omega)), unhex_hexS l, hl_join]; rfl
/-- a great letter for a small one -/
def upN (n : Nat) : Nat := if 97 ≤ n then n - 32 else n
def upB (x : BitVec 8) : BitVec 8 := BitVec.ofNat 8 (upN x.toNat)
theorem hexV_upD {n : Nat} (h : n < 16) : hexV (upB (hexD n)).toNat = some n := by
  have : ∀ n : Fin 16, hexV (upB (hexD n.val)).toNat = some n.val := by decide +kernel
  exact this ⟨n, h⟩
theorem unhex_up : ∀ l : BL, unhexH none ((hexS l).map upB) = some l
  | [] => rfl
  | x :: l => by
    have hx := x.isLt
    rw [hexS_cons, List.map_cons, List.map_cons, unhex_two' (hexV_upD (by omega)) (hexV_upD (by omega)), unhex_up l, hl_join]; rfl
theorem up_wrap {x : BitVec 8} (h : 97 ≤ x.toNat) : IntKind.u8.wrap (IntKind.u8.wrap ((x.toNat : Int) - 97) + 65) = ((upB x).toNat : Int) := by
  have : ∀ n : Fin 256, 97 ≤ n.val → IntKind.u8.wrap (IntKind.u8.wrap ((n.val : Int) - 97) + 65) = ((BitVec.ofNat 8 (upN n.val)).toNat : Int) := by decide +kernel
  exact this ⟨x.toNat, x.isLt⟩ h
theorem up_same {x : BitVec 8} (h : ¬ 97 ≤ x.toNat) : upB x = x := by
  unfold upB upN; rw [if_neg h]; simp
/-- a small letter for a great one -/
def lowB (x : BitVec 8) : BitVec 8 := BitVec.ofNat 8 (lowN x.toNat)
theorem hexD_low {x : BitVec 8} {a : Nat} (h : hexV x.toNat = some a) : hexD a = lowB x := by
  have : ∀ n : Fin 256, ∀ a, hexV n.val = some a → hexD a = BitVec.ofNat 8 (lowN n.val) := by
    intro n a h
    have : ∀ n : Fin 256, (match hexV n.val with | some a => decide (hexD a = BitVec.ofNat 8 (lowN n.val)) | none => true) = true := by decide +kernel
    have := this n
    rw [h] at this
    exact of_decide_eq_true this
  exact this ⟨x.toNat, x.isLt⟩ a h
theorem low_two (x : BitVec 8) : lowB x = x ∨ ((lowB x).toNat : Int) = IntKind.u8.wrap (IntKind.u8.wrap ((x.toNat : Int) + 97) - 65) := by
  by_cases h : 65 ≤ x.toNat ∧ x.toNat ≤ 70
  · exact .inr (low_wrap h.1 h.2).symm
  · left; unfold lowB lowN; rw [if_neg h]; simp
theorem unhex_low : ∀ (l : BL) (o : Option Nat) (m : BL), (∀ a, o = some a → a < 16) → unhexH o l = some m → hexS m = (match o with | some a => [hexD a] | none => []) ++ l.map lowB
  | [], none, m, _, h => by cases h; rfl
  | [], some _, m, _, h => by cases h
  | x :: l, none, m, ho, h => by
    unfold unhexH at h
    rw [Option.bind_eq_some_iff] at h
    obtain ⟨d, hd, h⟩ := h
    rw [unhex_low l _ m (fun a e => by cases e; exact hexV_lt hd) h]
    show [hexD d] ++ _ = _
    rw [hexD_low hd]; rfl
  | x :: l, some a, m, ho, h => by
    unfold unhexH at h
    rw [Option.bind_eq_some_iff] at h
    obtain ⟨d, hd, h⟩ := h
    rw [Option.map_eq_some_iff] at h
    obtain ⟨m', h, rfl⟩ := h
    have ha := ho a rfl
    have hd16 := hexV_lt hd
    have := unhex_low l none m' nofun h
    rw [hexS_cons, this, List.map_cons, ← hexD_low hd, show (BitVec.ofNat 8 (16 * a + d)).toNat = 16 * a + d by rw [BitVec.toNat_ofNat]; omega, show (16 * a + d) / 16 = a by omega, show (16 * a + d) % 16 = d by omega]; rfl
theorem unhex_lowS {l m : BL} (h : unhexH none l = some m) : hexS m = l.map lowB := unhex_low l none m nofun h
/-- a text's beginning -/
theorem b64_take : ∀ (n : Nat) (l : BL), (b64S l).take (4 * n) = b64S (l.take (3 * n))
  | 0, l => by simp; rfl
  | n + 1, [] => by simp [b64S]
  | n + 1, [x] => by
    rw [List.take_of_length_le (by rw [b64S_len]; simp; omega), List.take_of_length_le (by simp; omega)]
  | n + 1, [x, y] => by
    rw [List.take_of_length_le (by rw [b64S_len]; simp; omega), List.take_of_length_le (by simp; omega)]
  | n + 1, x :: y :: z :: m => by
    show (grp [x, y, z] ++ b64S m).take (4 * (n + 1)) = _
    rw [show 3 * (n + 1) = 3 * n + 1 + 1 + 1 by omega, List.take_succ_cons, List.take_succ_cons, List.take_succ_cons]
    show _ = grp [x, y, z] ++ b64S (m.take (3 * n))
    rw [← b64_take n m, show 4 * (n + 1) = (grp [x, y, z]).length + 4 * n by show _ = 4 + _; omega, List.take_append]
    rw [List.take_of_length_le (by omega), Nat.add_sub_cancel_left]
theorem unB_take (n : Nat) (l : BL) : unB ((b64S l).take (4 * n)) = some (l.take (3 * n)) := by rw [b64_take, unB_back]
theorem unB_odd {l : BL} (h : l.length % 4 ≠ 0) : unB l = none := by unfold unB; rw [if_neg h]
end Go.Proofs.YtkiecgkgbogbaaaDoor

/- The law of texts told again, walked. Conditions: none. -/
set_option linter.unusedSimpArgs false
set_option linter.unusedVariables false
set_option maxRecDepth 100000
namespace Go.Proofs.YtkiecgkgbogbaaaDoor
open Go
variable {Ext : FuncId → List Value → Mem → Outc → Mem → Prop}
theorem once_C (s : ByteArray) (S : Mem) (hR : RowsOk S) :
    C Tryd.prog 1 Ext 6 [.string s] S fun v S' => v = .bool true ∧ Cons S S' := by
  obtain ⟨l, rfl⟩ := strB_of s
  refine C.fn Tryd.func6 rfl (by kernel_rfl) rfl ?_
  repeat (first | refine W.seq ?_ | refine W.block ?_ | refine W.reg ?_ | refine W.skip ?_ | refine W.exit ?_ | refine W.ret ?_ | refine L.nil ?_ | refine L.p rfl rfl ?_ | refine L.skip rfl ?_)
  refine L.tlen rfl rfl rfl rfl ?_
  repeat (first | refine W.seq ?_ | refine W.block ?_ | refine W.reg ?_ | refine W.skip ?_ | refine W.exit ?_ | refine W.ret ?_ | refine L.nil ?_ | refine L.p rfl rfl ?_ | refine L.skip rfl ?_)
  refine W.ite rfl (fun h => ?_) (fun h => ?_)
  · repeat (first | refine W.seq ?_ | refine W.block ?_ | refine W.reg ?_ | refine W.skip ?_ | refine W.exit ?_ | refine W.ret ?_ | refine L.nil ?_ | refine L.p rfl rfl ?_ | refine L.skip rfl ?_)
    exact ⟨.inr rfl, _, rfl, rfl, Cons.refl _⟩
  have hl : l.length ≤ 4096 := by have := of_decide_eq_false h; omega
  clear h
  have n2 := unB_len l
  repeat (first | refine W.seq ?_ | refine W.block ?_ | refine W.reg ?_ | refine W.skip ?_ | refine W.exit ?_ | refine W.ret ?_ | refine L.nil ?_ | refine L.p rfl rfl ?_ | refine L.skip rfl ?_)
  refine L.cl (unbase64_C l (by omega) S hR) rfl rfl ?_
  rintro _ S1 hr
  cases hu : unB l with
  | none =>
    rw [hu] at hr
    obtain ⟨rfl, c1⟩ := hr.none
    refine ⟨fun _ => c1, ?_⟩
    repeat (first | refine W.seq ?_ | refine W.block ?_ | refine W.reg ?_ | refine W.skip ?_ | refine W.exit ?_ | refine W.ret ?_ | refine L.nil ?_ | refine L.p rfl rfl ?_ | refine L.skip rfl ?_)
    refine W.ite rfl (fun h => ?_) (fun h => ?_)
    · cases h
    clear hu hr
    obtain ⟨S2, hS2⟩ : ∃ S2, S2 = S1 := ⟨_, rfl⟩
    rw [← hS2] at c1 ⊢
    repeat (first | refine W.seq ?_ | refine W.block ?_ | refine W.reg ?_ | refine W.skip ?_ | refine W.exit ?_ | refine W.ret ?_ | refine L.nil ?_ | refine L.p rfl rfl ?_ | refine L.skip rfl ?_)
    refine L.cl (unhex_C l (by omega) S2) rfl rfl ?_
    rintro _ S3 hr
    have k2 : Cons S S2 := by assumption
    cases hu : unhexH none l with
    | none =>
      rw [hu] at hr
      obtain ⟨rfl, c3⟩ := hr.none
      refine ⟨fun _ => c3, ?_⟩
      repeat (first | refine W.seq ?_ | refine W.block ?_ | refine W.reg ?_ | refine W.skip ?_ | refine W.exit ?_ | refine W.ret ?_ | refine L.nil ?_ | refine L.p rfl rfl ?_ | refine L.skip rfl ?_)
      refine W.ite rfl (fun h => ?_) (fun h => ?_)
      rotate_left
      · cases h
      repeat (first | refine W.seq ?_ | refine W.block ?_ | refine W.reg ?_ | refine W.skip ?_ | refine W.exit ?_ | refine W.ret ?_ | refine L.nil ?_ | refine L.p rfl rfl ?_ | refine L.skip rfl ?_)
      refine L.cl (works_C _ (hR.cons (k2.trans c3))) rfl rfl ?_
      rintro _ S4 ⟨rfl, c4⟩
      refine ⟨fun _ => c4, ?_⟩
      repeat (first | refine W.seq ?_ | refine W.block ?_ | refine W.reg ?_ | refine W.skip ?_ | refine W.exit ?_ | refine W.ret ?_ | refine L.nil ?_ | refine L.p rfl rfl ?_ | refine L.skip rfl ?_)
      exact ⟨.inr rfl, _, rfl, rfl, (k2.trans c3).trans c4⟩
    | some m =>
      rw [hu] at hr
      obtain ⟨d, rfl, o⟩ := hr.some
      refine ⟨fun _ => o.1, ?_⟩
      have hml := unhex_len l
      rw [hu] at hml
      have hml : m.length ≤ l.length := hml
      have hlow := unhex_lowS hu
      repeat (first | refine W.seq ?_ | refine W.block ?_ | refine W.reg ?_ | refine W.skip ?_ | refine W.exit ?_ | refine W.ret ?_ | refine L.nil ?_ | refine L.p rfl rfl ?_ | refine L.skip rfl ?_)
      refine W.ite rfl (fun h => ?_) (fun h => ?_)
      · cases h
      repeat (first | refine W.seq ?_ | refine W.block ?_ | refine W.reg ?_ | refine W.skip ?_ | refine W.exit ?_ | refine W.ret ?_ | refine L.nil ?_ | refine L.p rfl rfl ?_ | refine L.skip rfl ?_)
      have hb := o.bin
      have h5 := hex_C (G := 1) (Ext := Ext) _ _ _ S3 hb.1.1 (by omega)
      rw [← hb.2] at h5
      refine L.cl h5 rfl rfl ?_
      rintro _ S4 ⟨rfl, c4⟩
      refine ⟨fun _ => c4, ?_⟩
      have k4 := k2.trans (o.1.trans c4)
      repeat (first | refine W.seq ?_ | refine W.block ?_ | refine W.reg ?_ | refine W.skip ?_ | refine W.exit ?_ | refine W.ret ?_ | refine L.nil ?_ | refine L.p rfl rfl ?_ | refine L.skip rfl ?_)
      refine L.tlen rfl rfl rfl rfl ?_
      repeat (first | refine W.seq ?_ | refine W.block ?_ | refine W.reg ?_ | refine W.skip ?_ | refine W.exit ?_ | refine W.ret ?_ | refine L.nil ?_ | refine L.p rfl rfl ?_ | refine L.skip rfl ?_)
      refine L.tlen rfl rfl rfl rfl ?_
      repeat (first | refine W.seq ?_ | refine W.block ?_ | refine W.reg ?_ | refine W.skip ?_ | refine W.exit ?_ | refine W.ret ?_ | refine L.nil ?_ | refine L.p rfl rfl ?_ | refine L.skip rfl ?_)
      rw [hlow, show (((l.map lowB).length : Int) != (l.length : Int)) = false by simp]
      refine W.ite rfl (fun h => ?_) (fun h => ?_)
      · cases h
      repeat (first | refine W.seq ?_ | refine W.block ?_ | refine W.reg ?_ | refine W.skip ?_ | refine W.exit ?_ | refine W.ret ?_ | refine L.nil ?_ | refine L.p rfl rfl ?_ | refine L.skip rfl ?_)
      refine W.loop (fun j e T' => ∃ i, j = l.length - i ∧ i ≤ l.length ∧ T' = S4 ∧ e 0 = .string (strB l) ∧ e 7 = .string (strB (l.map lowB)) ∧ e 8 = vi i) l.length
        ⟨0, by omega, by omega, rfl, rfl, rfl, rfl⟩ ?_
      rintro j e T ⟨i, rfl, hi, rfl, e0, e7, e8⟩
      refine W.env3 e0 e7 e8 ?_
      repeat (first | refine W.seq ?_ | refine W.block ?_ | refine W.reg ?_ | refine W.skip ?_ | refine W.exit ?_ | refine W.ret ?_ | refine L.nil ?_ | refine L.p rfl rfl ?_ | refine L.skip rfl ?_)
      refine L.tlen rfl rfl rfl rfl ?_
      repeat (first | refine W.seq ?_ | refine W.block ?_ | refine W.reg ?_ | refine W.skip ?_ | refine W.exit ?_ | refine W.ret ?_ | refine L.nil ?_ | refine L.p rfl rfl ?_ | refine L.skip rfl ?_)
      refine W.ite rfl (fun h => ?_) (fun h => ?_)
      · have hin : i < l.length := by have := of_decide_eq_true h; omega
        clear h
        obtain ⟨x, hx⟩ : ∃ x, l[i]? = some x := ⟨_, List.getElem?_eq_getElem hin⟩
        have hx2 : (l.map lowB)[i]? = some (lowB x) := by simp [hx]
        have hxl := x.isLt
        repeat (first | refine W.seq ?_ | refine W.block ?_ | refine W.reg ?_ | refine W.skip ?_ | refine W.exit ?_ | refine W.ret ?_ | refine L.nil ?_ | refine L.p rfl rfl ?_ | refine L.skip rfl ?_)
        refine L.sB (i := i) rfl rfl hx2 rfl rfl ?_
        repeat (first | refine W.seq ?_ | refine W.block ?_ | refine W.reg ?_ | refine W.skip ?_ | refine W.exit ?_ | refine W.ret ?_ | refine L.nil ?_ | refine L.p rfl rfl ?_ | refine L.skip rfl ?_)
        refine L.sB (i := i) rfl rfl hx rfl rfl ?_
        repeat (first | refine W.seq ?_ | refine W.block ?_ | refine W.reg ?_ | refine W.skip ?_ | refine W.exit ?_ | refine W.ret ?_ | refine L.nil ?_ | refine L.p rfl rfl ?_ | refine L.skip rfl ?_)
        rw [v8_ne]
        rcases low_two x with h2 | h2
        · rw [h2, bne_self_eq_false]
          repeat (first | refine W.seq ?_ | refine W.block ?_ | refine W.reg ?_ | refine W.skip ?_ | refine W.exit ?_ | refine W.ret ?_ | refine L.nil ?_ | refine L.p rfl rfl ?_ | refine L.skip rfl ?_)
          refine W.ite rfl (fun h => ?_) (fun h => ?_)
          · cases h
          repeat (first | refine W.seq ?_ | refine W.block ?_ | refine W.reg ?_ | refine W.skip ?_ | refine W.exit ?_ | refine W.ret ?_ | refine L.nil ?_ | refine L.p rfl rfl ?_ | refine L.skip rfl ?_)
          refine ⟨l.length - (i + 1), by omega, i + 1, rfl, by omega, rfl, rfl, rfl, ?_⟩
          refine (force_eq rfl).trans ?_
          rw [wrap64 (by omega) (by omega)]; rfl
        · cases hb8 : (lowB x != x) with
          | false =>
            repeat (first | refine W.seq ?_ | refine W.block ?_ | refine W.reg ?_ | refine W.skip ?_ | refine W.exit ?_ | refine W.ret ?_ | refine L.nil ?_ | refine L.p rfl rfl ?_ | refine L.skip rfl ?_)
            refine W.ite rfl (fun h => ?_) (fun h => ?_)
            · cases h
            repeat (first | refine W.seq ?_ | refine W.block ?_ | refine W.reg ?_ | refine W.skip ?_ | refine W.exit ?_ | refine W.ret ?_ | refine L.nil ?_ | refine L.p rfl rfl ?_ | refine L.skip rfl ?_)
            refine ⟨l.length - (i + 1), by omega, i + 1, rfl, by omega, rfl, rfl, rfl, ?_⟩
            refine (force_eq rfl).trans ?_
            rw [wrap64 (by omega) (by omega)]; rfl
          | true =>
            repeat (first | refine W.seq ?_ | refine W.block ?_ | refine W.reg ?_ | refine W.skip ?_ | refine W.exit ?_ | refine W.ret ?_ | refine L.nil ?_ | refine L.p rfl rfl ?_ | refine L.skip rfl ?_)
            refine L.sB (i := i) rfl rfl hx2 rfl rfl ?_
            repeat (first | refine W.seq ?_ | refine W.block ?_ | refine W.reg ?_ | refine W.skip ?_ | refine W.exit ?_ | refine W.ret ?_ | refine L.nil ?_ | refine L.p rfl rfl ?_ | refine L.skip rfl ?_)
            refine L.sB (i := i) rfl rfl hx rfl rfl ?_
            repeat (first | refine W.seq ?_ | refine W.block ?_ | refine W.reg ?_ | refine W.skip ?_ | refine W.exit ?_ | refine W.ret ?_ | refine L.nil ?_ | refine L.p rfl rfl ?_ | refine L.skip rfl ?_)
            rw [← h2, bne_self_eq_false]
            repeat (first | refine W.seq ?_ | refine W.block ?_ | refine W.reg ?_ | refine W.skip ?_ | refine W.exit ?_ | refine W.ret ?_ | refine L.nil ?_ | refine L.p rfl rfl ?_ | refine L.skip rfl ?_)
            refine W.ite rfl (fun h => ?_) (fun h => ?_)
            · cases h
            repeat (first | refine W.seq ?_ | refine W.block ?_ | refine W.reg ?_ | refine W.skip ?_ | refine W.exit ?_ | refine W.ret ?_ | refine L.nil ?_ | refine L.p rfl rfl ?_ | refine L.skip rfl ?_)
            refine ⟨l.length - (i + 1), by omega, i + 1, rfl, by omega, rfl, rfl, rfl, ?_⟩
            refine (force_eq rfl).trans ?_
            rw [wrap64 (by omega) (by omega)]; rfl
      · repeat (first | refine W.seq ?_ | refine W.block ?_ | refine W.reg ?_ | refine W.skip ?_ | refine W.exit ?_ | refine W.ret ?_ | refine L.nil ?_ | refine L.p rfl rfl ?_ | refine L.skip rfl ?_)
        refine L.cl (works_C _ (hR.cons k4)) rfl rfl ?_
        rintro _ S5 ⟨rfl, c5⟩
        refine ⟨fun _ => c5, ?_⟩
        repeat (first | refine W.seq ?_ | refine W.block ?_ | refine W.reg ?_ | refine W.skip ?_ | refine W.exit ?_ | refine W.ret ?_ | refine L.nil ?_ | refine L.p rfl rfl ?_ | refine L.skip rfl ?_)
        exact ⟨.inr rfl, _, rfl, rfl, k4.trans c5⟩
  | some m =>
    rw [hu] at hr
    obtain ⟨d, rfl, o⟩ := hr.some
    refine ⟨fun _ => o.1, ?_⟩
    rw [hu] at n2
    have n2 : m.length ≤ l.length := n2
    have htold := unB_told hu
    repeat (first | refine W.seq ?_ | refine W.block ?_ | refine W.reg ?_ | refine W.skip ?_ | refine W.exit ?_ | refine W.ret ?_ | refine L.nil ?_ | refine L.p rfl rfl ?_ | refine L.skip rfl ?_)
    have hb := o.bin
    have h5 := base64_C (Ext := Ext) _ _ _ S1 hb.1 (by omega) (hR.cons o.1)
    rw [← hb.2, htold] at h5
    refine L.cl h5 rfl rfl ?_
    rintro _ S2 ⟨rfl, c2⟩
    refine ⟨fun _ => c2, ?_⟩
    have c12 := o.1.trans c2
    repeat (first | refine W.seq ?_ | refine W.block ?_ | refine W.reg ?_ | refine W.skip ?_ | refine W.exit ?_ | refine W.ret ?_ | refine L.nil ?_ | refine L.p rfl rfl ?_ | refine L.skip rfl ?_)
    rw [strB_same, show decide (l = l) = true by simp]
    repeat (first | refine W.seq ?_ | refine W.block ?_ | refine W.reg ?_ | refine W.skip ?_ | refine W.exit ?_ | refine W.ret ?_ | refine L.nil ?_ | refine L.p rfl rfl ?_ | refine L.skip rfl ?_)
    repeat (first | refine W.seq ?_ | refine W.block ?_ | refine W.reg ?_ | refine W.skip ?_ | refine W.exit ?_ | refine W.ret ?_ | refine L.nil ?_ | refine L.p rfl rfl ?_ | refine L.skip rfl ?_)
    refine W.ite rfl (fun h => ?_) (fun h => ?_)
    · cases h
    clear htold n2 hb h5 hu hr o
    repeat (first | refine W.seq ?_ | refine W.block ?_ | refine W.reg ?_ | refine W.skip ?_ | refine W.exit ?_ | refine W.ret ?_ | refine L.nil ?_ | refine L.p rfl rfl ?_ | refine L.skip rfl ?_)
    refine L.cl (unhex_C l (by omega) S2) rfl rfl ?_
    rintro _ S3 hr
    have k2 : Cons S S2 := by assumption
    cases hu : unhexH none l with
    | none =>
      rw [hu] at hr
      obtain ⟨rfl, c3⟩ := hr.none
      refine ⟨fun _ => c3, ?_⟩
      repeat (first | refine W.seq ?_ | refine W.block ?_ | refine W.reg ?_ | refine W.skip ?_ | refine W.exit ?_ | refine W.ret ?_ | refine L.nil ?_ | refine L.p rfl rfl ?_ | refine L.skip rfl ?_)
      refine W.ite rfl (fun h => ?_) (fun h => ?_)
      rotate_left
      · cases h
      repeat (first | refine W.seq ?_ | refine W.block ?_ | refine W.reg ?_ | refine W.skip ?_ | refine W.exit ?_ | refine W.ret ?_ | refine L.nil ?_ | refine L.p rfl rfl ?_ | refine L.skip rfl ?_)
      refine L.cl (works_C _ (hR.cons (k2.trans c3))) rfl rfl ?_
      rintro _ S4 ⟨rfl, c4⟩
      refine ⟨fun _ => c4, ?_⟩
      repeat (first | refine W.seq ?_ | refine W.block ?_ | refine W.reg ?_ | refine W.skip ?_ | refine W.exit ?_ | refine W.ret ?_ | refine L.nil ?_ | refine L.p rfl rfl ?_ | refine L.skip rfl ?_)
      exact ⟨.inr rfl, _, rfl, rfl, (k2.trans c3).trans c4⟩
    | some m =>
      rw [hu] at hr
      obtain ⟨d, rfl, o⟩ := hr.some
      refine ⟨fun _ => o.1, ?_⟩
      have hml := unhex_len l
      rw [hu] at hml
      have hml : m.length ≤ l.length := hml
      have hlow := unhex_lowS hu
      repeat (first | refine W.seq ?_ | refine W.block ?_ | refine W.reg ?_ | refine W.skip ?_ | refine W.exit ?_ | refine W.ret ?_ | refine L.nil ?_ | refine L.p rfl rfl ?_ | refine L.skip rfl ?_)
      refine W.ite rfl (fun h => ?_) (fun h => ?_)
      · cases h
      repeat (first | refine W.seq ?_ | refine W.block ?_ | refine W.reg ?_ | refine W.skip ?_ | refine W.exit ?_ | refine W.ret ?_ | refine L.nil ?_ | refine L.p rfl rfl ?_ | refine L.skip rfl ?_)
      have hb := o.bin
      have h5 := hex_C (G := 1) (Ext := Ext) _ _ _ S3 hb.1.1 (by omega)
      rw [← hb.2] at h5
      refine L.cl h5 rfl rfl ?_
      rintro _ S4 ⟨rfl, c4⟩
      refine ⟨fun _ => c4, ?_⟩
      have k4 := k2.trans (o.1.trans c4)
      repeat (first | refine W.seq ?_ | refine W.block ?_ | refine W.reg ?_ | refine W.skip ?_ | refine W.exit ?_ | refine W.ret ?_ | refine L.nil ?_ | refine L.p rfl rfl ?_ | refine L.skip rfl ?_)
      refine L.tlen rfl rfl rfl rfl ?_
      repeat (first | refine W.seq ?_ | refine W.block ?_ | refine W.reg ?_ | refine W.skip ?_ | refine W.exit ?_ | refine W.ret ?_ | refine L.nil ?_ | refine L.p rfl rfl ?_ | refine L.skip rfl ?_)
      refine L.tlen rfl rfl rfl rfl ?_
      repeat (first | refine W.seq ?_ | refine W.block ?_ | refine W.reg ?_ | refine W.skip ?_ | refine W.exit ?_ | refine W.ret ?_ | refine L.nil ?_ | refine L.p rfl rfl ?_ | refine L.skip rfl ?_)
      rw [hlow, show (((l.map lowB).length : Int) != (l.length : Int)) = false by simp]
      refine W.ite rfl (fun h => ?_) (fun h => ?_)
      · cases h
      repeat (first | refine W.seq ?_ | refine W.block ?_ | refine W.reg ?_ | refine W.skip ?_ | refine W.exit ?_ | refine W.ret ?_ | refine L.nil ?_ | refine L.p rfl rfl ?_ | refine L.skip rfl ?_)
      refine W.loop (fun j e T' => ∃ i, j = l.length - i ∧ i ≤ l.length ∧ T' = S4 ∧ e 0 = .string (strB l) ∧ e 7 = .string (strB (l.map lowB)) ∧ e 8 = vi i) l.length
        ⟨0, by omega, by omega, rfl, rfl, rfl, rfl⟩ ?_
      rintro j e T ⟨i, rfl, hi, rfl, e0, e7, e8⟩
      refine W.env3 e0 e7 e8 ?_
      repeat (first | refine W.seq ?_ | refine W.block ?_ | refine W.reg ?_ | refine W.skip ?_ | refine W.exit ?_ | refine W.ret ?_ | refine L.nil ?_ | refine L.p rfl rfl ?_ | refine L.skip rfl ?_)
      refine L.tlen rfl rfl rfl rfl ?_
      repeat (first | refine W.seq ?_ | refine W.block ?_ | refine W.reg ?_ | refine W.skip ?_ | refine W.exit ?_ | refine W.ret ?_ | refine L.nil ?_ | refine L.p rfl rfl ?_ | refine L.skip rfl ?_)
      refine W.ite rfl (fun h => ?_) (fun h => ?_)
      · have hin : i < l.length := by have := of_decide_eq_true h; omega
        clear h
        obtain ⟨x, hx⟩ : ∃ x, l[i]? = some x := ⟨_, List.getElem?_eq_getElem hin⟩
        have hx2 : (l.map lowB)[i]? = some (lowB x) := by simp [hx]
        have hxl := x.isLt
        repeat (first | refine W.seq ?_ | refine W.block ?_ | refine W.reg ?_ | refine W.skip ?_ | refine W.exit ?_ | refine W.ret ?_ | refine L.nil ?_ | refine L.p rfl rfl ?_ | refine L.skip rfl ?_)
        refine L.sB (i := i) rfl rfl hx2 rfl rfl ?_
        repeat (first | refine W.seq ?_ | refine W.block ?_ | refine W.reg ?_ | refine W.skip ?_ | refine W.exit ?_ | refine W.ret ?_ | refine L.nil ?_ | refine L.p rfl rfl ?_ | refine L.skip rfl ?_)
        refine L.sB (i := i) rfl rfl hx rfl rfl ?_
        repeat (first | refine W.seq ?_ | refine W.block ?_ | refine W.reg ?_ | refine W.skip ?_ | refine W.exit ?_ | refine W.ret ?_ | refine L.nil ?_ | refine L.p rfl rfl ?_ | refine L.skip rfl ?_)
        rw [v8_ne]
        rcases low_two x with h2 | h2
        · rw [h2, bne_self_eq_false]
          repeat (first | refine W.seq ?_ | refine W.block ?_ | refine W.reg ?_ | refine W.skip ?_ | refine W.exit ?_ | refine W.ret ?_ | refine L.nil ?_ | refine L.p rfl rfl ?_ | refine L.skip rfl ?_)
          refine W.ite rfl (fun h => ?_) (fun h => ?_)
          · cases h
          repeat (first | refine W.seq ?_ | refine W.block ?_ | refine W.reg ?_ | refine W.skip ?_ | refine W.exit ?_ | refine W.ret ?_ | refine L.nil ?_ | refine L.p rfl rfl ?_ | refine L.skip rfl ?_)
          refine ⟨l.length - (i + 1), by omega, i + 1, rfl, by omega, rfl, rfl, rfl, ?_⟩
          refine (force_eq rfl).trans ?_
          rw [wrap64 (by omega) (by omega)]; rfl
        · cases hb8 : (lowB x != x) with
          | false =>
            repeat (first | refine W.seq ?_ | refine W.block ?_ | refine W.reg ?_ | refine W.skip ?_ | refine W.exit ?_ | refine W.ret ?_ | refine L.nil ?_ | refine L.p rfl rfl ?_ | refine L.skip rfl ?_)
            refine W.ite rfl (fun h => ?_) (fun h => ?_)
            · cases h
            repeat (first | refine W.seq ?_ | refine W.block ?_ | refine W.reg ?_ | refine W.skip ?_ | refine W.exit ?_ | refine W.ret ?_ | refine L.nil ?_ | refine L.p rfl rfl ?_ | refine L.skip rfl ?_)
            refine ⟨l.length - (i + 1), by omega, i + 1, rfl, by omega, rfl, rfl, rfl, ?_⟩
            refine (force_eq rfl).trans ?_
            rw [wrap64 (by omega) (by omega)]; rfl
          | true =>
            repeat (first | refine W.seq ?_ | refine W.block ?_ | refine W.reg ?_ | refine W.skip ?_ | refine W.exit ?_ | refine W.ret ?_ | refine L.nil ?_ | refine L.p rfl rfl ?_ | refine L.skip rfl ?_)
            refine L.sB (i := i) rfl rfl hx2 rfl rfl ?_
            repeat (first | refine W.seq ?_ | refine W.block ?_ | refine W.reg ?_ | refine W.skip ?_ | refine W.exit ?_ | refine W.ret ?_ | refine L.nil ?_ | refine L.p rfl rfl ?_ | refine L.skip rfl ?_)
            refine L.sB (i := i) rfl rfl hx rfl rfl ?_
            repeat (first | refine W.seq ?_ | refine W.block ?_ | refine W.reg ?_ | refine W.skip ?_ | refine W.exit ?_ | refine W.ret ?_ | refine L.nil ?_ | refine L.p rfl rfl ?_ | refine L.skip rfl ?_)
            rw [← h2, bne_self_eq_false]
            repeat (first | refine W.seq ?_ | refine W.block ?_ | refine W.reg ?_ | refine W.skip ?_ | refine W.exit ?_ | refine W.ret ?_ | refine L.nil ?_ | refine L.p rfl rfl ?_ | refine L.skip rfl ?_)
            refine W.ite rfl (fun h => ?_) (fun h => ?_)
            · cases h
            repeat (first | refine W.seq ?_ | refine W.block ?_ | refine W.reg ?_ | refine W.skip ?_ | refine W.exit ?_ | refine W.ret ?_ | refine L.nil ?_ | refine L.p rfl rfl ?_ | refine L.skip rfl ?_)
            refine ⟨l.length - (i + 1), by omega, i + 1, rfl, by omega, rfl, rfl, rfl, ?_⟩
            refine (force_eq rfl).trans ?_
            rw [wrap64 (by omega) (by omega)]; rfl
      · repeat (first | refine W.seq ?_ | refine W.block ?_ | refine W.reg ?_ | refine W.skip ?_ | refine W.exit ?_ | refine W.ret ?_ | refine L.nil ?_ | refine L.p rfl rfl ?_ | refine L.skip rfl ?_)
        refine L.cl (works_C _ (hR.cons k4)) rfl rfl ?_
        rintro _ S5 ⟨rfl, c5⟩
        refine ⟨fun _ => c5, ?_⟩
        repeat (first | refine W.seq ?_ | refine W.block ?_ | refine W.reg ?_ | refine W.skip ?_ | refine W.exit ?_ | refine W.ret ?_ | refine L.nil ?_ | refine L.p rfl rfl ?_ | refine L.skip rfl ?_)
        exact ⟨.inr rfl, _, rfl, rfl, k4.trans c5⟩
end Go.Proofs.YtkiecgkgbogbaaaDoor

/- The proof of the statement CodingOnce. Conditions: none. -/
namespace Go.Proofs.YtkiecgkgbogbaaaDoor.codingOnce
open Go.ChangeShapes Go.WideShapes Go.ChangeAt Go.RowKit
open Go.ChangeMaps (open_string shut_string)
set_option linter.unusedVariables false

theorem own : ownKnob Tryd.prog.godebug = none := by kernel_rfl

theorem walk (a0 : ByteArray) (w : World) (hG : 1 ≤ w.heap.size) (hR : ∀ N, RowsOk (mem0 w N)) (w0 : a0.size ≤ maxLen) :
    Calls Tryd.prog 6 #[.string a0] w fun e w' => e = .returned (.bool true) ∧ Below w.heap.size w w' := by
  obtain ⟨v, S', hE, rfl, hcons⟩ := once_C (Ext := fun _ _ _ _ _ => False) a0 (mem0 w) (hR 0)
  refine top_true (Checked.mixed Tryd.checked) (fun _ _ _ _ _ h => h.elim) hG (fun a ha => ?_) hE hcons
  obtain rfl : a = .string a0 := by simpa using ha
  exact scalar_VR _ rfl

set_option maxRecDepth 100000 in
theorem lifted (os : Os) (started : os.Started) (H : Type) (enc : TypeId × Value → H) :
    ReturnsInHanded {} Tryd.checked os 6 .any (fun w args => (Rows.codingOnceSpec.pre enc Tryd.prog Tryd.f6 [] false w args ∧ laidMetH Tryd.prog laidL w) ∧ sizedMet enc Tryd.prog Tryd.f6 (OpenSpec.ofChange Rows.codingOnceSpec) false w args)
      (Rows.codingOnceSpec.post enc Tryd.prog Tryd.f6 false true false false) := by
  refine returnsInHanded_of_change_and (C := Tryd.checked) (X := fun w _ => laidMetH Tryd.prog laidL w) (fun _ _ _ hh h => h.of_heap hh) own started (by kernel_rfl) Tryd.func6
    (ChangeSpec.witness_shaped (enc := enc) (C := Tryd.checked) (os := os) (X := fun w _ => laidMetH Tryd.prog laidL w) false (World.doorLaid Tryd.prog 400 os) #[.string ByteArray.empty] 8 rfl (World.shaped_of_RefB (by kernel_rfl) (by kernel_rfl)) (by kernel_rfl) (by kernel_rfl) (by kernel_rfl) (door_met os _)) ?_
  intro W base args ds gs before hval0 hW _ _ hL _
  obtain ⟨hG, hR⟩ := of_laid hL
  have hval : ∀ (j : Nat) t v, Tryd.f6.params[j]? = some t → args[j]? = some v → Value.okWide Tryd.prog W .any base t v := hval0
  have hW' := hW
  obtain ⟨p, q, hA0, hV, rfl, hfz, hnd⟩ := hW
  have hA : DataW.TrodAll enc Tryd.prog W 0 (fun _ => true) true Tryd.f6.params.toList args.toList ds p := hA0
  rw [Tryd.params6] at hA hval
  obtain ⟨v0, vs0, d0, ds0, p0, q0, hargs, rfl, rfl, h0, r0⟩ := trodAll_cons hA
  obtain ⟨rfl, rfl, rfl⟩ := trodAll_nil r0
  obtain rfl : args = #[v0] := by cases args; simp_all
  obtain ⟨rfl, rfl⟩ := trodVars_none hV
  obtain ⟨a0, rfl, rfl, rfl, w0⟩ := open_string Tryd.underlying9 (hval 0 9 v0 rfl rfl) h0
  clear hA0 hval0
  simp only [List.append_nil] at hW'
  refine (walk a0 W hG hR w0).mono fun e W' ⟨he, bel⟩ => ?_
  subst he
  exact ⟨_, rfl, _, _, _, [], _, [], hW', trodAll_mk1 (shut_bool Tryd.underlying4 _), (trodAll_cons_mk (shut_string Tryd.underlying9 w0) trodAll_mk0), rfl, bel.frame _, fun h => by cases h⟩

theorem over : Rows.codingOnceRow.holds Tryd.pinned (OpenSpec.ofChange Rows.codingOnceSpec) :=
  OpenClaim.holds_of_wide 6 Tryd.f6 rfl rfl rfl rfl rfl rfl rfl ⟨rfl, rfl, rfl, rfl, rfl⟩ rfl rfl rfl rfl rfl (by kernel_rfl) Tryd.func6 (by kernel_rfl)
    (of_decide_eq_true (by kernel_rfl)) (by unfold Func.isWrapper; first | (rw [if_pos (by decide +kernel)]; kernel_rfl) | (rw [if_neg (by decide +kernel)]; exact ⟨rfl, rfl⟩))
    (fun os started H enc _ => lifted os started H enc)

/-- the card: the row, its variable tied to the program's text -/
theorem proved : Rows.CodingOnceCardSaid :=
  Claim7.holds_tied_plain_at .later [] [.data] true (true, "f8b44dcaa85ac0566c79ab81753e15c4d3dda83bef56da4901400e8532865c88") false
    over (fun _ h => by cases h) (by kernel_rfl) (fun _ h => by cases h) codingOnce_row_tie rfl ⟨rfl, rfl⟩ (by kernel_rfl) rfl
    (fun f fn hf hfn => by
      obtain rfl : f = 6 := Option.some.inj ((show Tryd.prog.funcNamed "vouch/vouchlaw06.CodingOnce" = some 6 by kernel_rfl).symm.trans hf) |>.symm
      obtain rfl : fn = Tryd.f6 := (Option.some.inj (Tryd.func6.symm.trans hfn)).symm
      exact ⟨by kernel_rfl, fun j t ht => by
        rw [Tryd.params6] at ht
        match j, ht with
        | 0, ht =>
          obtain rfl : t = 9 := by simpa using ht.symm
          exact (show Tryd.prog.wantsStandIn 9 = false by kernel_rfl)
        | j + 1, ht => simp at ht⟩)
    (by kernel_rfl)
end Go.Proofs.YtkiecgkgbogbaaaDoor.codingOnce
