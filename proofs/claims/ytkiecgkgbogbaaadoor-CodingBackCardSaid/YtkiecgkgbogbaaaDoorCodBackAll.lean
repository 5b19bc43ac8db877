/- The proof of the statement CodingBack. Conditions: none. -/
import Derived.Test.YtkiecgkgbogbaaaDoorLibD
import Derived.Test.YtkiecgkgbogbaaaDoorRows
import Derived.Test.YtkiecgkgbogbaaaDoorTie
import Derived.Test.YtkiecgkgbogbaaaDoorCards
import Derived.SevenTiedAt
import Derived.WalkKit
import Derived.ProofKit
import Derived.OpenShut
import Derived.ShutString
import Derived.ChangeOld
import Derived.Below

/- The law of reading, walked. Conditions: none. -/
set_option linter.unusedSimpArgs false
set_option linter.unusedVariables false
set_option maxRecDepth 100000
namespace Go.Proofs.YtkiecgkgbogbaaaDoor
open Go
variable {Ext : FuncId → List Value → Mem → Outc → Mem → Prop}
def outL (o : Option BL) : BL := o.getD []
def outE (o : Option BL) (code : Int) : Int := if o.isSome then 0 else code
theorem ResB.all {S S' : Mem} {v : Value} {o : Option BL} {code : Int} (h : ResB S S' v o code) : ∃ d : Hd, v = .tuple #[d.v, .int .i64 (outE o code)] ∧ OutB S S' d (outL o) := by
  cases o with
  | none => exact ⟨HdN, h.1, OutB.nil h.2⟩
  | some m => exact h
theorem OutB.slv {S S' : Mem} {d : Hd} {l : BL} (h : OutB S S' d l) : Slv S' 1 d.v d.n (bv l) := h.2.2.1.slv
theorem OutB.nlt {S S' : Mem} {d : Hd} {l : BL} (h : OutB S S' d l) : d.n < 1099511627776 := by have := h.2.2.1.len; rw [bv_len] at this; have := h.2.1; omega
theorem OutB.lt {S S' : Mem} {d : Hd} {l : BL} (h : OutB S S' d l) {b : Nat} (hb : d.a = some b) : b < S'.length := h.2.2.1.lt hb
theorem OutB.ge {S S' : Mem} {d : Hd} {l : BL} (h : OutB S S' d l) {b : Nat} (hb : d.a = some b) : S.length ≤ b := h.2.2.2 b hb
theorem OutB.wl {S S' : Mem} {d : Hd} {l : BL} (h : OutB S S' d l) (hl : l.length < 1000000000) : (bv l).length ≤ 1000000000000 := by rw [bv_len]; omega
theorem decS_len : ∀ (l : BL) (x b : Nat) (m : BL), decS x b l = some m → m.length ≤ l.length
  | [], x, b, m, h => by
    unfold decS at h
    split at h
    · cases h; simp
    · cases h
  | c :: l, x, b, m, h => by
    unfold decS at h
    rw [Option.bind_eq_some_iff] at h
    obtain ⟨d, _, h⟩ := h
    split at h
    · rw [Option.map_eq_some_iff] at h
      obtain ⟨m', h, rfl⟩ := h
      have := decS_len l _ _ m' h
      simp; omega
    · have := decS_len l _ _ m h
      simp; omega
theorem unB_len (l : BL) : (outL (unB l)).length ≤ l.length := by
  cases h : unB l with
  | none => exact Nat.zero_le _
  | some m =>
    unfold unB at h
    split at h
    · have := decS_len _ _ _ _ h
      have h1 := trimE_len (trimE l)
      have h2 := trimE_len l
      show m.length ≤ _
      omega
    · cases h
theorem unhexH_len : ∀ (l : BL) (o : Option Nat) (m : BL), unhexH o l = some m → m.length ≤ l.length
  | [], none, m, h => by cases h; simp
  | [], some _, m, h => by cases h
  | x :: l, none, m, h => by
    unfold unhexH at h
    rw [Option.bind_eq_some_iff] at h
    obtain ⟨d, _, h⟩ := h
    have := unhexH_len l _ m h
    simp; omega
  | x :: l, some a, m, h => by
    unfold unhexH at h
    rw [Option.bind_eq_some_iff] at h
    obtain ⟨d, _, h⟩ := h
    rw [Option.map_eq_some_iff] at h
    obtain ⟨m', h, rfl⟩ := h
    have := unhexH_len l _ m' h
    simp; omega
theorem unhex_len (l : BL) : (outL (unhexH none l)).length ≤ l.length := by
  cases h : unhexH none l with
  | none => exact Nat.zero_le _
  | some m => exact unhexH_len l _ m h
theorem reads_C (s : ByteArray) (S : Mem) (hR : RowsOk S) :
    C Tryd.prog 1 Ext 4 [.string s] S fun v S' => v = .bool true ∧ Cons S S' := by
  obtain ⟨l, rfl⟩ := strB_of s
  refine C.fn Tryd.func4 rfl (by kernel_rfl) rfl ?_
  repeat (first | refine W.seq ?_ | refine W.block ?_ | refine W.reg ?_ | refine W.skip ?_ | refine W.exit ?_ | refine W.ret ?_ | refine L.nil ?_ | refine L.p rfl rfl ?_ | refine L.skip rfl ?_)
  refine L.tlen rfl rfl rfl rfl ?_
  repeat (first | refine W.seq ?_ | refine W.block ?_ | refine W.reg ?_ | refine W.skip ?_ | refine W.exit ?_ | refine W.ret ?_ | refine L.nil ?_ | refine L.p rfl rfl ?_ | refine L.skip rfl ?_)
  refine W.ite rfl (fun h => ?_) (fun h => ?_)
  · repeat (first | refine W.seq ?_ | refine W.block ?_ | refine W.reg ?_ | refine W.skip ?_ | refine W.exit ?_ | refine W.ret ?_ | refine L.nil ?_ | refine L.p rfl rfl ?_ | refine L.skip rfl ?_)
    exact ⟨.inr rfl, _, rfl, rfl, Cons.refl _⟩
  have hl : l.length ≤ 4096 := by have := of_decide_eq_false h; omega
  clear h
  have n1 := unhex_len l
  have n2 := unB_len l
  repeat (first | refine W.seq ?_ | refine W.block ?_ | refine W.reg ?_ | refine W.skip ?_ | refine W.exit ?_ | refine W.ret ?_ | refine L.nil ?_ | refine L.p rfl rfl ?_ | refine L.skip rfl ?_)
  refine L.cl (unhex_C l (by omega) S) rfl rfl ?_
  rintro _ S1 hr
  obtain ⟨d1, rfl, o1⟩ := hr.all
  clear hr
  refine ⟨nofun, ?_⟩
  repeat (first | refine W.seq ?_ | refine W.block ?_ | refine W.reg ?_ | refine W.skip ?_ | refine W.exit ?_ | refine W.ret ?_ | refine L.nil ?_ | refine L.p rfl rfl ?_ | refine L.skip rfl ?_)
  refine L.cl (unbase64_C l (by omega) S1 (hR.cons o1.1)) rfl rfl ?_
  rintro _ S2 hr
  obtain ⟨d2, rfl, o2⟩ := hr.all
  clear hr
  refine ⟨nofun, ?_⟩
  have k2 := o1.1.trans o2.1
  repeat (first | refine W.seq ?_ | refine W.block ?_ | refine W.reg ?_ | refine W.skip ?_ | refine W.exit ?_ | refine W.ret ?_ | refine L.nil ?_ | refine L.p rfl rfl ?_ | refine L.skip rfl ?_)
  refine L.cl (unhex_C l (by omega) S2) rfl rfl ?_
  rintro _ S3 hr
  obtain ⟨d3, rfl, o3⟩ := hr.all
  clear hr
  refine ⟨nofun, ?_⟩
  have k3 := k2.trans o3.1
  repeat (first | refine W.seq ?_ | refine W.block ?_ | refine W.reg ?_ | refine W.skip ?_ | refine W.exit ?_ | refine W.ret ?_ | refine L.nil ?_ | refine L.p rfl rfl ?_ | refine L.skip rfl ?_)
  refine L.cl (unbase64_C l (by omega) S3 (hR.cons k3)) rfl rfl ?_
  rintro _ S4 hr
  obtain ⟨d4, rfl, o4⟩ := hr.all
  clear hr
  refine ⟨nofun, ?_⟩
  have k4 := k3.trans o4.1
  repeat (first | refine W.seq ?_ | refine W.block ?_ | refine W.reg ?_ | refine W.skip ?_ | refine W.exit ?_ | refine W.ret ?_ | refine L.nil ?_ | refine L.p rfl rfl ?_ | refine L.skip rfl ?_)
  refine L.cl (refUnhex_C l (by omega) S4) rfl rfl ?_
  rintro _ S5 hr
  obtain ⟨d5, rfl, o5⟩ := hr.all
  clear hr
  refine ⟨nofun, ?_⟩
  have k5 := k4.trans o5.1
  repeat (first | refine W.seq ?_ | refine W.block ?_ | refine W.reg ?_ | refine W.skip ?_ | refine W.exit ?_ | refine W.ret ?_ | refine L.nil ?_ | refine L.p rfl rfl ?_ | refine L.skip rfl ?_)
  have hq := refUnbase64_C (G := 1) (Ext := Ext) l (by omega) S5
  rw [refB_unB] at hq
  refine L.cl hq rfl rfl ?_
  rintro _ S6 hr
  obtain ⟨d6, rfl, o6⟩ := hr.all
  clear hr hq
  refine ⟨nofun, ?_⟩
  have k6 := k5.trans o6.1
  repeat (first | refine W.seq ?_ | refine W.block ?_ | refine W.reg ?_ | refine W.skip ?_ | refine W.exit ?_ | refine W.ret ?_ | refine L.nil ?_ | refine L.p rfl rfl ?_ | refine L.skip rfl ?_)
  rw [show (outE (unhexH none l) 60 != outE (unhexH none l) 60) = false from bne_self_eq_false _]
  repeat (first | refine W.seq ?_ | refine W.block ?_ | refine W.reg ?_ | refine W.skip ?_ | refine W.exit ?_ | refine W.ret ?_ | refine L.nil ?_ | refine L.p rfl rfl ?_ | refine L.skip rfl ?_)
  rw [show (outE (unB l) 61 != outE (unB l) 61) = false from bne_self_eq_false _]
  repeat (first | refine W.seq ?_ | refine W.block ?_ | refine W.reg ?_ | refine W.skip ?_ | refine W.exit ?_ | refine W.ret ?_ | refine L.nil ?_ | refine L.p rfl rfl ?_ | refine L.skip rfl ?_)
  rw [show (outE (unhexH none l) 60 != outE (unhexH none l) 60) = false from bne_self_eq_false _]
  repeat (first | refine W.seq ?_ | refine W.block ?_ | refine W.reg ?_ | refine W.skip ?_ | refine W.exit ?_ | refine W.ret ?_ | refine L.nil ?_ | refine L.p rfl rfl ?_ | refine L.skip rfl ?_)
  rw [show (outE (unB l) 61 != outE (unB l) 61) = false from bne_self_eq_false _]
  repeat (first | refine W.seq ?_ | refine W.block ?_ | refine W.reg ?_ | refine W.skip ?_ | refine W.exit ?_ | refine W.ret ?_ | refine L.nil ?_ | refine L.p rfl rfl ?_ | refine L.skip rfl ?_)
  have p1 := o1.post (o2.1.trans (o3.1.trans (o4.1.trans (o5.1.trans o6.1))))
  have p2 := o2.post (o3.1.trans (o4.1.trans (o5.1.trans o6.1)))
  have p3 := o3.post (o4.1.trans (o5.1.trans o6.1))
  have p4 := o4.post (o5.1.trans o6.1)
  have p5 := o5.post o6.1
  refine L.cl (same_C _ _ (outL (unhexH none l)) (outL (unhexH none l)) d1.n d5.n S6 p1.slv p5.slv p1.nlt p5.nlt) rfl rfl ?_
  rintro _ M5 ⟨rfl, hS⟩
  have hS := hS.symm
  subst hS
  refine ⟨nofun, ?_⟩
  rw [beq_self_eq_true]
  repeat (first | refine W.seq ?_ | refine W.block ?_ | refine W.reg ?_ | refine W.skip ?_ | refine W.exit ?_ | refine W.ret ?_ | refine L.nil ?_ | refine L.p rfl rfl ?_ | refine L.skip rfl ?_)
  refine L.cl (same_C _ _ (outL (unB l)) (outL (unB l)) d2.n d6.n S6 p2.slv o6.slv p2.nlt o6.nlt) rfl rfl ?_
  rintro _ M5 ⟨rfl, hS⟩
  have hS := hS.symm
  subst hS
  refine ⟨nofun, ?_⟩
  rw [beq_self_eq_true]
  repeat (first | refine W.seq ?_ | refine W.block ?_ | refine W.reg ?_ | refine W.skip ?_ | refine W.exit ?_ | refine W.ret ?_ | refine L.nil ?_ | refine L.p rfl rfl ?_ | refine L.skip rfl ?_)
  refine L.cl (same_C _ _ (outL (unhexH none l)) (outL (unhexH none l)) d3.n d5.n S6 p3.slv p5.slv p3.nlt p5.nlt) rfl rfl ?_
  rintro _ M5 ⟨rfl, hS⟩
  have hS := hS.symm
  subst hS
  refine ⟨nofun, ?_⟩
  rw [beq_self_eq_true]
  repeat (first | refine W.seq ?_ | refine W.block ?_ | refine W.reg ?_ | refine W.skip ?_ | refine W.exit ?_ | refine W.ret ?_ | refine L.nil ?_ | refine L.p rfl rfl ?_ | refine L.skip rfl ?_)
  refine L.cl (same_C _ _ (outL (unB l)) (outL (unB l)) d4.n d6.n S6 p4.slv o6.slv p4.nlt o6.nlt) rfl rfl ?_
  rintro _ M5 ⟨rfl, hS⟩
  have hS := hS.symm
  subst hS
  refine ⟨nofun, ?_⟩
  rw [beq_self_eq_true]
  repeat (first | refine W.seq ?_ | refine W.block ?_ | refine W.reg ?_ | refine W.skip ?_ | refine W.exit ?_ | refine W.ret ?_ | refine L.nil ?_ | refine L.p rfl rfl ?_ | refine L.skip rfl ?_)
  refine W.ite rfl (fun h => ?_) (fun h => ?_)
  · cases h
  repeat (first | refine W.seq ?_ | refine W.block ?_ | refine W.reg ?_ | refine W.skip ?_ | refine W.exit ?_ | refine W.ret ?_ | refine L.nil ?_ | refine L.p rfl rfl ?_ | refine L.skip rfl ?_)
  refine L.eff (v := .pointer (some ⟨S6.length, 0, none⟩)) (S1 := S6 ++ [newR [.slice none 0 0, .slice none 0 0] 34]) rfl rfl ?_
  have hB0 := BK.new S6
  generalize S6 ++ [newR [.slice none 0 0, .slice none 0 0] 34] = N0 at *
  obtain ⟨rb, hrb⟩ : ∃ rb, rb = S6.length := ⟨_, rfl⟩
  rw [← hrb] at hB0 ⊢
  repeat (first | refine W.seq ?_ | refine W.block ?_ | refine W.reg ?_ | refine W.skip ?_ | refine W.exit ?_ | refine W.ret ?_ | refine L.nil ?_ | refine L.p rfl rfl ?_ | refine L.skip rfl ?_)
  refine L.cl (bytes_BK d1 hB0 (by simp)) rfl rfl ?_
  rintro _ N1 hB1
  refine ⟨nofun, ?_⟩
  repeat (first | refine W.seq ?_ | refine W.block ?_ | refine W.reg ?_ | refine W.skip ?_ | refine W.exit ?_ | refine W.ret ?_ | refine L.nil ?_ | refine L.p rfl rfl ?_ | refine L.skip rfl ?_)
  refine L.cl (bytes_BK d2 hB1 (by simp)) rfl rfl ?_
  rintro _ N2 hB2
  refine ⟨nofun, ?_⟩
  repeat (first | refine W.seq ?_ | refine W.block ?_ | refine W.reg ?_ | refine W.skip ?_ | refine W.exit ?_ | refine W.ret ?_ | refine L.nil ?_ | refine L.p rfl rfl ?_ | refine L.skip rfl ?_)
  refine L.cl (bytes_BK d3 hB2 (by simp)) rfl rfl ?_
  rintro _ N3 hB3
  refine ⟨nofun, ?_⟩
  repeat (first | refine W.seq ?_ | refine W.block ?_ | refine W.reg ?_ | refine W.skip ?_ | refine W.exit ?_ | refine W.ret ?_ | refine L.nil ?_ | refine L.p rfl rfl ?_ | refine L.skip rfl ?_)
  refine L.cl (bytes_BK d4 hB3 (by simp)) rfl rfl ?_
  rintro _ N4 hB4
  refine ⟨nofun, ?_⟩
  repeat (first | refine W.seq ?_ | refine W.block ?_ | refine W.reg ?_ | refine W.skip ?_ | refine W.exit ?_ | refine W.ret ?_ | refine L.nil ?_ | refine L.p rfl rfl ?_ | refine L.skip rfl ?_)
  have w1 : (bv (outL (unhexH none l))).length ≤ 1000000000000 := by rw [bv_len]; omega
  have w2 : (bv (outL (unB l))).length ≤ 1000000000000 := by rw [bv_len]; omega
  refine L.cl (apart_BK hB4 ⟨by simp, by simp⟩ (.nil _ _) (.add p1.2.2.1 w1 (.add p2.2.2.1 w2 (.add p3.2.2.1 w1 (.add p4.2.2.1 w2 (.nil _ _))))) .nil
    (.add (fun b hb hm => ?_) (.add (fun b hb hm => ?_) (.add (fun b hb hm => ?_) (.add (fun x e hm => by simp [blks] at hm) .nil)))) (by simp [blks])) rfl rfl ?_
  · have := o1.lt hb
    have hm : b ∈ blks [d2, d3, d4] := hm
    simp only [mem_blks, blks_nil, List.not_mem_nil, or_false] at hm
    rcases hm with hm | hm | hm
    · have := o2.ge hm; omega
    · have := o3.ge hm; have := o2.1.len; omega
    · have := o4.ge hm; have := o2.1.len; have := o3.1.len; omega
  · have := o2.lt hb
    have hm : b ∈ blks [d3, d4] := hm
    simp only [mem_blks, blks_nil, List.not_mem_nil, or_false] at hm
    rcases hm with hm | hm
    · have := o3.ge hm; omega
    · have := o4.ge hm; have := o3.1.len; omega
  · have := o3.lt hb
    have hm : b ∈ blks [d4] := hm
    simp only [mem_blks, blks_nil, List.not_mem_nil, or_false] at hm
    have := o4.ge hm; omega
  rintro _ N5 ⟨rfl, hk⟩
  refine ⟨nofun, ?_⟩
  have hN5 : Cons S N5 := hk.cons0 k6 (fun x hm => by
    have hm : x ∈ blks [] ++ blks [d1, d2, d3, d4] := hm
    simp only [blks_nil, List.nil_append, mem_blks, List.not_mem_nil, or_false] at hm
    rcases hm with hm | hm | hm | hm
    · exact o1.ge hm
    · have := o2.ge hm; have := o1.1.len; omega
    · have := o3.ge hm; have := k2.len; omega
    · have := o4.ge hm; have := k3.len; omega)
  repeat (first | refine W.seq ?_ | refine W.block ?_ | refine W.reg ?_ | refine W.skip ?_ | refine W.exit ?_ | refine W.ret ?_ | refine L.nil ?_ | refine L.p rfl rfl ?_ | refine L.skip rfl ?_)
  refine L.cl (works_C _ (hR.cons hN5)) rfl rfl ?_
  rintro _ N6 ⟨rfl, hc⟩
  refine ⟨fun _ => hc, ?_⟩
  repeat (first | refine W.seq ?_ | refine W.block ?_ | refine W.reg ?_ | refine W.skip ?_ | refine W.exit ?_ | refine W.ret ?_ | refine L.nil ?_ | refine L.p rfl rfl ?_ | refine L.skip rfl ?_)
  exact ⟨.inr rfl, _, rfl, rfl, hN5.trans hc⟩
end Go.Proofs.YtkiecgkgbogbaaaDoor

/- Layer 6: what was told is read again, in any letters, cut short; pure. Conditions: none. -/
set_option linter.unusedSimpArgs false
set_option linter.unusedVariables false
set_option maxRecDepth 100000
namespace Go.Proofs.YtkiecgkgbogbaaaDoor
open Go
theorem hexV_hexD {n : Nat} (h : n < 16) : hexV (hexD n).toNat = some n := by
  have : ∀ n : Fin 16, hexV (hexD n.val).toNat = some n.val := by decide +kernel
  exact this ⟨n, h⟩
theorem hexS_cons (x : BitVec 8) (l : BL) : hexS (x :: l) = hexD (x.toNat / 16) :: hexD (x.toNat % 16) :: hexS l := rfl
theorem unhex_two' {p q : BitVec 8} {a b : Nat} (ha : hexV p.toNat = some a) (hb : hexV q.toNat = some b) (l : BL) : unhexH none (p :: q :: l) = (unhexH none l).map (BitVec.ofNat 8 (16 * a + b) :: ·) := by
  show (hexV p.toNat).bind _ = _
  rw [ha]
  show (hexV q.toNat).bind _ = _
  rw [hb]; rfl
theorem hl_join (x : BitVec 8) : BitVec.ofNat 8 (16 * (x.toNat / 16) + x.toNat % 16) = x := by
  rw [Nat.div_add_mod]; simp
theorem unhex_hexS : ∀ l : BL, unhexH none (hexS l) = some l
  | [] => rfl
  | x :: l => by
    have hx := x.isLt
    rw [hexS_cons, unhex_two' (hexV_hexD (by omega)) (hexV_hexD (by omega)), unhex_hexS l, hl_join]; rfl
/-- a great letter for a small one -/
def upN (n : Nat) : Nat := if 97 ≤ n then n - 32 else n
def upB (x : BitVec 8) : BitVec 8 := BitVec.ofNat 8 (upN x.toNat)
theorem hexV_upD {n : Nat} (h : n < 16) : hexV (upB (hexD n)).toNat = some n := by
  have : ∀ n : Fin 16, hexV (upB (hexD n.val)).toNat = some n.val := by decide +kernel
  exact this ⟨n, h⟩
theorem unhex_up : ∀ l : BL, unhexH none ((hexS l).map upB) = some l
  | [] => rfl
  | x :: l => by
    have hx := x.isLt
    rw [hexS_cons, List.map_cons, List.map_cons, unhex_two' (hexV_upD (by omega)) (hexV_upD (by omega)), unhex_up l, hl_join]; rfl
theorem up_wrap {x : BitVec 8} (h : 97 ≤ x.toNat) : IntKind.u8.wrap (IntKind.u8.wrap ((x.toNat : Int) - 97) + 65) = ((upB x).toNat : Int) := by
  have : ∀ n : Fin 256, 97 ≤ n.val → IntKind.u8.wrap (IntKind.u8.wrap ((n.val : Int) - 97) + 65) = ((BitVec.ofNat 8 (upN n.val)).toNat : Int) := by decide +kernel
  exact this ⟨x.toNat, x.isLt⟩ h
theorem up_same {x : BitVec 8} (h : ¬ 97 ≤ x.toNat) : upB x = x := by
  unfold upB upN; rw [if_neg h]; simp
/-- a small letter for a great one -/
def lowB (x : BitVec 8) : BitVec 8 := BitVec.ofNat 8 (lowN x.toNat)
theorem hexD_low {x : BitVec 8} {a : Nat} (h : hexV x.toNat = some a) : hexD a = lowB x := by
  have : ∀ n : Fin 256, ∀ a, hexV n.val = some a → hexD a = BitVec.ofNat 8 (lowN n.val) := by
    intro n a h
    have : ∀ n : Fin 256, (match hexV n.val with | some a => decide (hexD a = BitVec.ofNat 8 (lowN n.val)) | none => true) = true := by decide +kernel
    have := this n
    rw [h] at this
    exact of_decide_eq_true this
  exact this ⟨x.toNat, x.isLt⟩ a h
theorem low_two (x : BitVec 8) : lowB x = x ∨ ((lowB x).toNat : Int) = IntKind.u8.wrap (IntKind.u8.wrap ((x.toNat : Int) + 97) - 65) := by
  by_cases h : 65 ≤ x.toNat ∧ x.toNat ≤ 70
  · exact .inr (low_wrap h.1 h.2).symm
  · left; unfold lowB lowN; rw [if_neg h]; simp
theorem unhex_low : ∀ (l : BL) (o : Option Nat) (m : BL), (∀ a, o = some a → a < 16) → unhexH o l = some m → hexS m = (match o with | some a => [hexD a] | none => []) ++ l.map lowB
  | [], none, m, _, h => by cases h; rfl
  | [], some _, m, _, h => by cases h
  | x :: l, none, m, ho, h => by
    unfold unhexH at h
    rw [Option.bind_eq_some_iff] at h
    obtain ⟨d, hd, h⟩ := h
    rw [unhex_low l _ m (fun a e => by cases e; exact hexV_lt hd) h]
    show [hexD d] ++ _ = _
    rw [hexD_low hd]; rfl
  | x :: l, some a, m, ho, h => by
    unfold unhexH at h
    rw [Option.bind_eq_some_iff] at h
    obtain ⟨d, hd, h⟩ := h
    rw [Option.map_eq_some_iff] at h
    obtain ⟨m', h, rfl⟩ := h
    have ha := ho a rfl
    have hd16 := hexV_lt hd
    have := unhex_low l none m' nofun h
    rw [hexS_cons, this, List.map_cons, ← hexD_low hd, show (BitVec.ofNat 8 (16 * a + d)).toNat = 16 * a + d by rw [BitVec.toNat_ofNat]; omega, show (16 * a + d) / 16 = a by omega, show (16 * a + d) % 16 = d by omega]; rfl
theorem unhex_lowS {l m : BL} (h : unhexH none l = some m) : hexS m = l.map lowB := unhex_low l none m nofun h
/-- a text's beginning -/
theorem b64_take : ∀ (n : Nat) (l : BL), (b64S l).take (4 * n) = b64S (l.take (3 * n))
  | 0, l => by simp; rfl
  | n + 1, [] => by simp [b64S]
  | n + 1, [x] => by
    rw [List.take_of_length_le (by rw [b64S_len]; simp; omega), List.take_of_length_le (by simp; omega)]
  | n + 1, [x, y] => by
    rw [List.take_of_length_le (by rw [b64S_len]; simp; omega), List.take_of_length_le (by simp; omega)]
  | n + 1, x :: y :: z :: m => by
    show (grp [x, y, z] ++ b64S m).take (4 * (n + 1)) = _
    rw [show 3 * (n + 1) = 3 * n + 1 + 1 + 1 by omega, List.take_succ_cons, List.take_succ_cons, List.take_succ_cons]
    show _ = grp [x, y, z] ++ b64S (m.take (3 * n))
    rw [← b64_take n m, show 4 * (n + 1) = (grp [x, y, z]).length + 4 * n by show _ = 4 + _; omega, List.take_append]
    rw [List.take_of_length_le (by omega), Nat.add_sub_cancel_left]
theorem unB_take (n : Nat) (l : BL) : unB ((b64S l).take (4 * n)) = some (l.take (3 * n)) := by rw [b64_take, unB_back]
theorem unB_odd {l : BL} (h : l.length % 4 ≠ 0) : unB l = none := by unfold unB; rw [if_neg h]
end Go.Proofs.YtkiecgkgbogbaaaDoor

/- The law of there and back, walked. Conditions: none. -/
set_option linter.unusedSimpArgs false
set_option linter.unusedVariables false
set_option maxRecDepth 100000
namespace Go.Proofs.YtkiecgkgbogbaaaDoor
open Go
variable {Ext : FuncId → List Value → Mem → Outc → Mem → Prop}
theorem pick_nat (i : Int) (n : Nat) : ∃ k : Nat, pick i ((n : Int) + 1) = (k : Int) ∧ k ≤ n := by
  have h1 := Int.tmod_lt_of_pos i (show (0 : Int) < (n : Int) + 1 by omega)
  have h2 : - ((n : Int) + 1) < i.tmod ((n : Int) + 1) := Int.lt_tmod_of_pos i (by omega)
  unfold pick
  rw [if_neg (by omega)]
  split
  · exact ⟨(i.tmod ((n : Int) + 1) + ((n : Int) + 1)).toNat, by omega, by omega⟩
  · exact ⟨(i.tmod ((n : Int) + 1)).toNat, by omega, by omega⟩
theorem back_C (a : Option Addr) (c : Nat) (l : BL) (cut : Int) (S : Mem) (hs : Slv S 1 (.slice a l.length c) l.length (bv l)) (hk : Cut l.length c) (hR : RowsOk S) :
    C Tryd.prog 1 Ext 5 [.slice a l.length c, .int .i64 cut] S fun v S' => v = .bool true ∧ Cons S S' := by
  refine C.fn Tryd.func5 rfl (by kernel_rfl) rfl ?_
  repeat (first | refine W.seq ?_ | refine W.block ?_ | refine W.reg ?_ | refine W.skip ?_ | refine W.exit ?_ | refine W.ret ?_ | refine L.nil ?_ | refine L.p rfl rfl ?_ | refine L.skip rfl ?_)
  refine W.ite rfl (fun h => ?_) (fun h => ?_)
  · repeat (first | refine W.seq ?_ | refine W.block ?_ | refine W.reg ?_ | refine W.skip ?_ | refine W.exit ?_ | refine W.ret ?_ | refine L.nil ?_ | refine L.p rfl rfl ?_ | refine L.skip rfl ?_)
    exact ⟨.inr rfl, _, rfl, rfl, Cons.refl _⟩
  have hl : l.length ≤ 4096 := by have := of_decide_eq_false h; omega
  clear h
  have hI : BIn S a c l := ⟨hs, hk, by omega⟩
  have hxl := hexS_len l
  have hbl := b64S_len l
  repeat (first | refine W.seq ?_ | refine W.block ?_ | refine W.reg ?_ | refine W.skip ?_ | refine W.exit ?_ | refine W.ret ?_ | refine L.nil ?_ | refine L.p rfl rfl ?_ | refine L.skip rfl ?_)
  refine L.cl (hex_C _ _ l S hI.1 (by omega)) rfl rfl ?_
  rintro _ S1 ⟨rfl, c1⟩
  refine ⟨fun _ => c1, ?_⟩
  repeat (first | refine W.seq ?_ | refine W.block ?_ | refine W.reg ?_ | refine W.skip ?_ | refine W.exit ?_ | refine W.ret ?_ | refine L.nil ?_ | refine L.p rfl rfl ?_ | refine L.skip rfl ?_)
  refine L.cl (base64_C _ _ l S1 (hI.cons c1) (by omega) (hR.cons c1)) rfl rfl ?_
  rintro _ S2 ⟨rfl, c2⟩
  refine ⟨fun _ => c2, ?_⟩
  have k2 := c1.trans c2
  repeat (first | refine W.seq ?_ | refine W.block ?_ | refine W.reg ?_ | refine W.skip ?_ | refine W.exit ?_ | refine W.ret ?_ | refine L.nil ?_ | refine L.p rfl rfl ?_ | refine L.skip rfl ?_)
  have h3 := unhex_C (G := 1) (Ext := Ext) (hexS l) (by omega) S2
  rw [unhex_hexS] at h3
  refine L.cl h3 rfl rfl ?_
  rintro _ S3 hr
  obtain ⟨d1, rfl, o1⟩ := hr.some
  clear hr h3
  refine ⟨fun _ => o1.1, ?_⟩
  have k3 := k2.trans o1.1
  repeat (first | refine W.seq ?_ | refine W.block ?_ | refine W.reg ?_ | refine W.skip ?_ | refine W.exit ?_ | refine W.ret ?_ | refine L.nil ?_ | refine L.p rfl rfl ?_ | refine L.skip rfl ?_)
  have h4 := unbase64_C (Ext := Ext) (b64S l) (by omega) S3 (hR.cons k3)
  rw [unB_back] at h4
  refine L.cl h4 rfl rfl ?_
  rintro _ S4 hr
  obtain ⟨d2, rfl, o2⟩ := hr.some
  clear hr h4
  refine ⟨fun _ => o2.1, ?_⟩
  have k4 := k3.trans o2.1
  repeat (first | refine W.seq ?_ | refine W.block ?_ | refine W.reg ?_ | refine W.skip ?_ | refine W.exit ?_ | refine W.ret ?_ | refine L.nil ?_ | refine L.p rfl rfl ?_ | refine L.skip rfl ?_)
  have p1 := o1.post o2.1
  refine L.cl (same_C _ _ l l d1.n l.length S4 p1.slv (hI.cons k4).1 p1.nlt (by omega)) rfl rfl ?_
  rintro _ M5 ⟨rfl, hS⟩
  have hS := hS.symm
  subst hS
  refine ⟨nofun, ?_⟩
  rw [beq_self_eq_true]
  repeat (first | refine W.seq ?_ | refine W.block ?_ | refine W.reg ?_ | refine W.skip ?_ | refine W.exit ?_ | refine W.ret ?_ | refine L.nil ?_ | refine L.p rfl rfl ?_ | refine L.skip rfl ?_)
  refine L.cl (same_C _ _ l l d2.n l.length S4 o2.slv (hI.cons k4).1 o2.nlt (by omega)) rfl rfl ?_
  rintro _ M5 ⟨rfl, hS⟩
  have hS := hS.symm
  subst hS
  refine ⟨nofun, ?_⟩
  rw [beq_self_eq_true]
  repeat (first | refine W.seq ?_ | refine W.block ?_ | refine W.reg ?_ | refine W.skip ?_ | refine W.exit ?_ | refine W.ret ?_ | refine L.nil ?_ | refine L.p rfl rfl ?_ | refine L.skip rfl ?_)
  refine L.tlen rfl rfl rfl rfl ?_
  repeat (first | refine W.seq ?_ | refine W.block ?_ | refine W.reg ?_ | refine W.skip ?_ | refine W.exit ?_ | refine W.ret ?_ | refine L.nil ?_ | refine L.p rfl rfl ?_ | refine L.skip rfl ?_)
  rw [wrap64 (show -9223372036854775808 ≤ 2 * (l.length : Int) by omega) (by omega), hxl, show (((2 * l.length : Nat) : Int) != 2 * (l.length : Int)) = false by simp]
  repeat (first | refine W.seq ?_ | refine W.block ?_ | refine W.reg ?_ | refine W.skip ?_ | refine W.exit ?_ | refine W.ret ?_ | refine L.nil ?_ | refine L.p rfl rfl ?_ | refine L.skip rfl ?_)
  refine L.tlen rfl rfl rfl rfl ?_
  repeat (first | refine W.seq ?_ | refine W.block ?_ | refine W.reg ?_ | refine W.skip ?_ | refine W.exit ?_ | refine W.ret ?_ | refine L.nil ?_ | refine L.p rfl rfl ?_ | refine L.skip rfl ?_)
  refine W.ite rfl (fun h => ?_) (fun h => ?_)
  · exfalso
    have h0 := h
    rw [wrap64 (show -9223372036854775808 ≤ (l.length : Int) + 2 by omega) (by omega), show ((l.length : Int) + 2).tdiv 3 = (((l.length + 2) / 3 : Nat) : Int) from (Int.ofNat_tdiv (l.length + 2) 3).symm, wrap64 (show -9223372036854775808 ≤ (((l.length + 2) / 3 : Nat) : Int) by omega) (by omega), wrap64 (show -9223372036854775808 ≤ (((l.length + 2) / 3 : Nat) : Int) * 4 by omega) (by omega), hbl] at h0
    simp at h0
  clear h
  generalize hX : hexS l = X at *
  generalize hY : b64S l = Y at *
  repeat (first | refine W.seq ?_ | refine W.block ?_ | refine W.reg ?_ | refine W.skip ?_ | refine W.exit ?_ | refine W.ret ?_ | refine L.nil ?_ | refine L.p rfl rfl ?_ | refine L.skip rfl ?_)
  refine W.loop (fun j e T' => ∃ i, j = X.length - i ∧ i ≤ X.length ∧ Cons S4 T' ∧ e 0 = .slice a l.length c ∧ e 1 = .int .i64 cut ∧ e 5 = .string (strB X) ∧ e 6 = .string (strB Y) ∧ e 11 = .string (strB ((X.take i).map upB)) ∧ e 12 = vi i) X.length
    ⟨0, by omega, by omega, Cons.refl _, rfl, rfl, rfl, rfl, rfl, rfl⟩ ?_
  rintro j e T ⟨i, rfl, hi, hT, e0, e1, e5, e6, e11, e12⟩
  refine W.env6 e0 e1 e5 e6 e11 e12 ?_
  repeat (first | refine W.seq ?_ | refine W.block ?_ | refine W.reg ?_ | refine W.skip ?_ | refine W.exit ?_ | refine W.ret ?_ | refine L.nil ?_ | refine L.p rfl rfl ?_ | refine L.skip rfl ?_)
  refine L.tlen rfl rfl rfl rfl ?_
  repeat (first | refine W.seq ?_ | refine W.block ?_ | refine W.reg ?_ | refine W.skip ?_ | refine W.exit ?_ | refine W.ret ?_ | refine L.nil ?_ | refine L.p rfl rfl ?_ | refine L.skip rfl ?_)
  refine W.ite rfl (fun h => ?_) (fun h => ?_)
  · have hin : i < X.length := by have := of_decide_eq_true h; omega
    clear h
    obtain ⟨x, hx⟩ : ∃ x, X[i]? = some x := ⟨_, List.getElem?_eq_getElem hin⟩
    have hx8 := x.isLt
    have htk : ((X.take (i + 1)).map upB) = ((X.take i).map upB) ++ [upB x] := by
      rw [List.take_add_one, hx, List.map_append]; rfl
    have hlt : ((X.take i).map upB).length ≤ 10000 := by rw [List.length_map, List.length_take]; omega
    repeat (first | refine W.seq ?_ | refine W.block ?_ | refine W.reg ?_ | refine W.skip ?_ | refine W.exit ?_ | refine W.ret ?_ | refine L.nil ?_ | refine L.p rfl rfl ?_ | refine L.skip rfl ?_)
    refine L.sB (i := i) rfl rfl hx rfl rfl ?_
    repeat (first | refine W.seq ?_ | refine W.block ?_ | refine W.reg ?_ | refine W.skip ?_ | refine W.exit ?_ | refine W.ret ?_ | refine L.nil ?_ | refine L.p rfl rfl ?_ | refine L.skip rfl ?_)
    refine W.ite rfl (fun h => ?_) (fun h => ?_)
    · have h97 : 97 ≤ x.toNat := by have := of_decide_eq_true h; omega
      clear h
      repeat (first | refine W.seq ?_ | refine W.block ?_ | refine W.reg ?_ | refine W.skip ?_ | refine W.exit ?_ | refine W.ret ?_ | refine L.nil ?_ | refine L.p rfl rfl ?_ | refine L.skip rfl ?_)
      refine L.bs [v8 (upB x)] rfl rfl rfl ?_ rfl rfl ?_
      · exact congrArg (fun v => [(0, v)]) (congrArg (Value.int .u8) (up_wrap h97))
      have c6 : Cons T (T ++ [newR [v8 (upB x)] 5]) := Cons.push _ _
      have hH : HdOk (T ++ [newR [v8 (upB x)] 5]) 5 ⟨some T.length, 1, 1⟩ (bv [upB x]) := HdOk.full (row_push_new rfl) rfl rfl rfl (by decide)
      generalize T ++ [newR [v8 (upB x)] 5] = T1 at *
      repeat (first | refine W.seq ?_ | refine W.block ?_ | refine W.reg ?_ | refine W.skip ?_ | refine W.exit ?_ | refine W.ret ?_ | refine L.nil ?_ | refine L.p rfl rfl ?_ | refine L.skip rfl ?_)
      refine L.text (h := ⟨some T.length, 1, 1⟩) rfl hH rfl rfl rfl rfl ?_
      repeat (first | refine W.seq ?_ | refine W.block ?_ | refine W.reg ?_ | refine W.skip ?_ | refine W.exit ?_ | refine W.ret ?_ | refine L.nil ?_ | refine L.p rfl rfl ?_ | refine L.skip rfl ?_)
      refine L.tadd rfl rfl (by show _ + 1 < _; omega) rfl ?_
      repeat (first | refine W.seq ?_ | refine W.block ?_ | refine W.reg ?_ | refine W.skip ?_ | refine W.exit ?_ | refine W.ret ?_ | refine L.nil ?_ | refine L.p rfl rfl ?_ | refine L.skip rfl ?_)
      refine ⟨X.length - (i + 1), by omega, i + 1, rfl, by omega, hT.trans c6, rfl, rfl, rfl, rfl, ?_, ?_⟩
      · rw [htk]; rfl
      · refine (force_eq rfl).trans ?_
        rw [wrap64 (by omega) (by omega)]; rfl
    · have h97 : ¬ 97 ≤ x.toNat := by have := of_decide_eq_false h; omega
      clear h
      repeat (first | refine W.seq ?_ | refine W.block ?_ | refine W.reg ?_ | refine W.skip ?_ | refine W.exit ?_ | refine W.ret ?_ | refine L.nil ?_ | refine L.p rfl rfl ?_ | refine L.skip rfl ?_)
      refine L.bs [v8 (upB x)] rfl rfl rfl ?_ rfl rfl ?_
      · exact congrArg (fun v => [(0, v)]) (congrArg v8 (up_same h97).symm)
      have c6 : Cons T (T ++ [newR [v8 (upB x)] 5]) := Cons.push _ _
      have hH : HdOk (T ++ [newR [v8 (upB x)] 5]) 5 ⟨some T.length, 1, 1⟩ (bv [upB x]) := HdOk.full (row_push_new rfl) rfl rfl rfl (by decide)
      generalize T ++ [newR [v8 (upB x)] 5] = T1 at *
      repeat (first | refine W.seq ?_ | refine W.block ?_ | refine W.reg ?_ | refine W.skip ?_ | refine W.exit ?_ | refine W.ret ?_ | refine L.nil ?_ | refine L.p rfl rfl ?_ | refine L.skip rfl ?_)
      refine L.text (h := ⟨some T.length, 1, 1⟩) rfl hH rfl rfl rfl rfl ?_
      repeat (first | refine W.seq ?_ | refine W.block ?_ | refine W.reg ?_ | refine W.skip ?_ | refine W.exit ?_ | refine W.ret ?_ | refine L.nil ?_ | refine L.p rfl rfl ?_ | refine L.skip rfl ?_)
      refine L.tadd rfl rfl (by show _ + 1 < _; omega) rfl ?_
      repeat (first | refine W.seq ?_ | refine W.block ?_ | refine W.reg ?_ | refine W.skip ?_ | refine W.exit ?_ | refine W.ret ?_ | refine L.nil ?_ | refine L.p rfl rfl ?_ | refine L.skip rfl ?_)
      refine ⟨X.length - (i + 1), by omega, i + 1, rfl, by omega, hT.trans c6, rfl, rfl, rfl, rfl, ?_, ?_⟩
      · rw [htk]; rfl
      · refine (force_eq rfl).trans ?_
        rw [wrap64 (by omega) (by omega)]; rfl
  have hin : i = X.length := by have := of_decide_eq_false h; omega
  subst hin
  clear h
  rw [List.take_length]
  have kT := k4.trans hT
  repeat (first | refine W.seq ?_ | refine W.block ?_ | refine W.reg ?_ | refine W.skip ?_ | refine W.exit ?_ | refine W.ret ?_ | refine L.nil ?_ | refine L.p rfl rfl ?_ | refine L.skip rfl ?_)
  have h3 := unhex_C (G := 1) (Ext := Ext) (X.map upB) (by rw [List.length_map]; omega) T
  rw [show unhexH none (X.map upB) = some l by rw [← hX]; exact unhex_up l] at h3
  refine L.cl h3 rfl rfl ?_
  rintro _ S6 hr
  obtain ⟨d3, rfl, o3⟩ := hr.some
  clear hr h3
  refine ⟨fun _ => o3.1, ?_⟩
  have k6 := kT.trans o3.1
  repeat (first | refine W.seq ?_ | refine W.block ?_ | refine W.reg ?_ | refine W.skip ?_ | refine W.exit ?_ | refine W.ret ?_ | refine L.nil ?_ | refine L.p rfl rfl ?_ | refine L.skip rfl ?_)
  refine L.tadd (b := [61#8]) rfl rfl (by show _ + 1 < _; omega) rfl ?_
  repeat (first | refine W.seq ?_ | refine W.block ?_ | refine W.reg ?_ | refine W.skip ?_ | refine W.exit ?_ | refine W.ret ?_ | refine L.nil ?_ | refine L.p rfl rfl ?_ | refine L.skip rfl ?_)
  have h4 := unbase64_C (Ext := Ext) (Y ++ [61#8]) (by rw [List.length_append]; show _ + 1 < _; omega) S6 (hR.cons k6)
  rw [unB_odd (by rw [List.length_append]; show (_ + 1) % 4 ≠ 0; omega)] at h4
  refine L.cl h4 rfl rfl ?_
  rintro _ S7 hr
  obtain ⟨rfl, c7⟩ := hr.none
  clear hr h4
  refine ⟨fun _ => c7, ?_⟩
  have k7 := k6.trans c7
  repeat (first | refine W.seq ?_ | refine W.block ?_ | refine W.reg ?_ | refine W.skip ?_ | refine W.exit ?_ | refine W.ret ?_ | refine L.nil ?_ | refine L.p rfl rfl ?_ | refine L.skip rfl ?_)
  refine L.tadd (b := [48#8]) rfl rfl (by show _ + 1 < _; omega) rfl ?_
  repeat (first | refine W.seq ?_ | refine W.block ?_ | refine W.reg ?_ | refine W.skip ?_ | refine W.exit ?_ | refine W.ret ?_ | refine L.nil ?_ | refine L.p rfl rfl ?_ | refine L.skip rfl ?_)
  have h5 := unhex_C (G := 1) (Ext := Ext) (X ++ [48#8]) (by rw [List.length_append]; show _ + 1 < _; omega) S7
  rw [unhexH_odd (X ++ [48#8]) none (by rw [List.length_append]; show (_ + 1 + 0) % 2 = 1; omega)] at h5
  refine L.cl h5 rfl rfl ?_
  rintro _ S8 hr
  obtain ⟨rfl, c8⟩ := hr.none
  clear hr h5
  refine ⟨fun _ => c8, ?_⟩
  have k8 := k7.trans c8
  repeat (first | refine W.seq ?_ | refine W.block ?_ | refine W.reg ?_ | refine W.skip ?_ | refine W.exit ?_ | refine W.ret ?_ | refine L.nil ?_ | refine L.p rfl rfl ?_ | refine L.skip rfl ?_)
  have p3 := o3.post (c7.trans c8)
  refine L.cl (same_C _ _ l l d3.n l.length S8 p3.slv (hI.cons k8).1 p3.nlt (by omega)) rfl rfl ?_
  rintro _ M5 ⟨rfl, hS⟩
  have hS := hS.symm
  subst hS
  refine ⟨nofun, ?_⟩
  rw [beq_self_eq_true]
  repeat (first | refine W.seq ?_ | refine W.block ?_ | refine W.reg ?_ | refine W.skip ?_ | refine W.exit ?_ | refine W.ret ?_ | refine L.nil ?_ | refine L.p rfl rfl ?_ | refine L.skip rfl ?_)
  refine W.ite rfl (fun h => ?_) (fun h => ?_)
  · cases h
  clear h
  repeat (first | refine W.seq ?_ | refine W.block ?_ | refine W.reg ?_ | refine W.skip ?_ | refine W.exit ?_ | refine W.ret ?_ | refine L.nil ?_ | refine L.p rfl rfl ?_ | refine L.skip rfl ?_)
  refine L.tlen rfl rfl rfl rfl ?_
  repeat (first | refine W.seq ?_ | refine W.block ?_ | refine W.reg ?_ | refine W.skip ?_ | refine W.exit ?_ | refine W.ret ?_ | refine L.nil ?_ | refine L.p rfl rfl ?_ | refine L.skip rfl ?_)
  rw [wrap64 (show -9223372036854775808 ≤ (Y.length : Int) + 1 by omega) (by omega)]
  refine L.cl (pick_C cut ((Y.length : Int) + 1) (by omega) S8) rfl rfl ?_
  rintro _ M5 ⟨rfl, hS⟩
  have hS := hS.symm
  subst hS
  refine ⟨nofun, ?_⟩
  obtain ⟨k, hkp, hkl⟩ : ∃ k : Nat, pick cut ((Y.length : Int) + 1) = (k : Int) ∧ k ≤ Y.length := pick_nat cut Y.length
  rw [hkp]
  repeat (first | refine W.seq ?_ | refine W.block ?_ | refine W.reg ?_ | refine W.skip ?_ | refine W.exit ?_ | refine W.ret ?_ | refine L.nil ?_ | refine L.p rfl rfl ?_ | refine L.skip rfl ?_)
  refine L.upto (i := k) rfl rfl hkl rfl rfl ?_
  repeat (first | refine W.seq ?_ | refine W.block ?_ | refine W.reg ?_ | refine W.skip ?_ | refine W.exit ?_ | refine W.ret ?_ | refine L.nil ?_ | refine L.p rfl rfl ?_ | refine L.skip rfl ?_)
  have h6 := unbase64_C (Ext := Ext) (Y.take k) (by rw [List.length_take]; omega) S8 (hR.cons k8)
  by_cases hk4 : k % 4 = 0
  · have h7 : unB (Y.take k) = some (l.take (3 * (k / 4))) := by
      rw [← hY]
      have := unB_take (k / 4) l
      rwa [show 4 * (k / 4) = k by omega] at this
    rw [h7] at h6
    refine L.cl h6 rfl rfl ?_
    rintro _ S9 hr
    obtain ⟨d4, rfl, o4⟩ := hr.some
    clear hr h6
    refine ⟨fun _ => o4.1, ?_⟩
    have k9 := k8.trans o4.1
    repeat (first | refine W.seq ?_ | refine W.block ?_ | refine W.reg ?_ | refine W.skip ?_ | refine W.exit ?_ | refine W.ret ?_ | refine L.nil ?_ | refine L.p rfl rfl ?_ | refine L.skip rfl ?_)
    rw [show ((k : Int).tmod 4) = ((k % 4 : Nat) : Int) from (Int.ofNat_tmod k 4).symm, hk4, show ((((0 : Nat) : Int)) == 0) = true from rfl]
    repeat (first | refine W.seq ?_ | refine W.block ?_ | refine W.reg ?_ | refine W.skip ?_ | refine W.exit ?_ | refine W.ret ?_ | refine L.nil ?_ | refine L.p rfl rfl ?_ | refine L.skip rfl ?_)
    rw [show ((k : Int).tdiv 4) = ((k / 4 : Nat) : Int) from (Int.ofNat_tdiv k 4).symm, wrap64 (show -9223372036854775808 ≤ ((k / 4 : Nat) : Int) by omega) (by omega), wrap64 (show -9223372036854775808 ≤ ((k / 4 : Nat) : Int) * 3 by omega) (by omega)]
    refine L.min (c := ((min l.length (3 * (k / 4)) : Nat) : Int)) rfl rfl rfl ?_ ?_
    · split <;> omega
    have hmn : min l.length (3 * (k / 4)) ≤ l.length := Nat.min_le_left _ _
    obtain ⟨a9, c9, hsl, hI9⟩ := (hI.cons k9).part (lo := none) (hi := some (.int .i64 ((min l.length (3 * (k / 4)) : Nat) : Int))) (k := 0) (h := min l.length (3 * (k / 4))) (.inl ⟨rfl, rfl⟩) (.inr ⟨_, rfl⟩) (Nat.zero_le _) hmn
    rw [List.drop_zero, Nat.sub_zero, show l.take (min l.length (3 * (k / 4))) = l.take (3 * (k / 4)) by rw [Nat.min_comm, ← List.take_eq_take_min]] at hsl hI9
    refine L.is (.slice a9 (l.take (3 * (k / 4))).length c9) ?_ rfl ?_
    · exact (slice_at0 rfl rfl rfl).trans hsl
    refine L.cl (same_C _ _ (l.take (3 * (k / 4))) (l.take (3 * (k / 4))) d4.n _ S9 o4.slv hI9.1 o4.nlt (by rw [List.length_take]; omega)) rfl rfl ?_
    rintro _ M5 ⟨rfl, hS⟩
    have hS := hS.symm
    subst hS
    refine ⟨fun _ => Cons.refl _, ?_⟩
    rw [show (l.take (3 * (k / 4)) == l.take (3 * (k / 4))) = true from beq_self_eq_true _]
    repeat (first | refine W.seq ?_ | refine W.block ?_ | refine W.reg ?_ | refine W.skip ?_ | refine W.exit ?_ | refine W.ret ?_ | refine L.nil ?_ | refine L.p rfl rfl ?_ | refine L.skip rfl ?_)
    refine L.cl (works_C _ (hR.cons k9)) rfl rfl ?_
    rintro _ S10 ⟨rfl, c10⟩
    refine ⟨fun _ => c10, ?_⟩
    repeat (first | refine W.seq ?_ | refine W.block ?_ | refine W.reg ?_ | refine W.skip ?_ | refine W.exit ?_ | refine W.ret ?_ | refine L.nil ?_ | refine L.p rfl rfl ?_ | refine L.skip rfl ?_)
    exact ⟨.inr rfl, _, rfl, rfl, k9.trans c10⟩
  · rw [unB_odd (by rw [List.length_take, Nat.min_eq_left hkl]; exact hk4)] at h6
    refine L.cl h6 rfl rfl ?_
    rintro _ S9 hr
    obtain ⟨rfl, c9⟩ := hr.none
    clear hr h6
    refine ⟨fun _ => c9, ?_⟩
    have k9 := k8.trans c9
    repeat (first | refine W.seq ?_ | refine W.block ?_ | refine W.reg ?_ | refine W.skip ?_ | refine W.exit ?_ | refine W.ret ?_ | refine L.nil ?_ | refine L.p rfl rfl ?_ | refine L.skip rfl ?_)
    rw [show ((k : Int).tmod 4) = ((k % 4 : Nat) : Int) from (Int.ofNat_tmod k 4).symm, show (((k % 4 : Nat) : Int) == 0) = false by rw [beq_eq_false_iff_ne]; omega]
    repeat (first | refine W.seq ?_ | refine W.block ?_ | refine W.reg ?_ | refine W.skip ?_ | refine W.exit ?_ | refine W.ret ?_ | refine L.nil ?_ | refine L.p rfl rfl ?_ | refine L.skip rfl ?_)
    refine L.cl (works_C _ (hR.cons k9)) rfl rfl ?_
    rintro _ S10 ⟨rfl, c10⟩
    refine ⟨fun _ => c10, ?_⟩
    repeat (first | refine W.seq ?_ | refine W.block ?_ | refine W.reg ?_ | refine W.skip ?_ | refine W.exit ?_ | refine W.ret ?_ | refine L.nil ?_ | refine L.p rfl rfl ?_ | refine L.skip rfl ?_)
    exact ⟨.inr rfl, _, rfl, rfl, k9.trans c10⟩
end Go.Proofs.YtkiecgkgbogbaaaDoor

/- The proof of the statement CodingBack. Conditions: none. -/
namespace Go.Proofs.YtkiecgkgbogbaaaDoor.codingBack
open Go.ChangeShapes Go.WideShapes Go.ChangeAt Go.RowKit
open Go.ChangeMaps (open_string shut_string)
set_option linter.unusedVariables false

theorem own : ownKnob Tryd.prog.godebug = none := by kernel_rfl
theorem laidOut : laidOutB Tryd.prog = true := by kernel_rfl

theorem walk (a0 : Option Addr) (len0 cap0 : Nat) (z0 : List Int) (a1 : Int) (w : World) (hG : 1 ≤ w.heap.size) (hR : ∀ N, RowsOk (mem0 w N)) (w0 : IsRow .u8 w a0 len0 cap0 z0) (hb0 : ∀ x, a0 = some x → x.block < w.heap.size) (w1 : (Lit.int .i64 a1).wf = true) :
    Calls Tryd.prog 5 #[.slice a0 len0 cap0, .int .i64 a1] w fun e w' => e = .returned (.bool true) ∧ Below w.heap.size w w' := by
  obtain ⟨hs0, hv0, hl0, hc0, hwf0⟩ := world_ints (N := 0) w0 (by simpa using hb0)
  have hcc0 := row_cap w0
  have hf0 : ∀ x, a0 = some x → x.block < (mem0 w).length := fun x hx => by rw [mem0_len]; have := hb0 x hx; omega
  obtain ⟨l0, hll0, hbl0⟩ := bytes_of z0 len0 hwf0 hl0
  rw [← hbl0] at hs0
  subst hll0
  have hx1 : -9223372036854775808 ≤ a1 ∧ a1 ≤ 9223372036854775807 := by simpa [Lit.wf, IntKind.min, IntKind.max, IntKind.signed, IntKind.bits] using w1
  obtain ⟨v, S', hE, rfl, hcons⟩ := back_C (Ext := fun _ _ _ _ _ => False) a0 cap0 l0 a1 (mem0 w) hs0 (.inl hcc0) (hR 0)
  refine top_true (Checked.mixed Tryd.checked) (fun _ _ _ _ _ h => h.elim) hG (fun a ha => ?_) hE hcons
  simp only [List.mem_cons, List.not_mem_nil, or_false] at ha
  rcases ha with rfl | rfl
  · exact hv0
  · exact scalar_VR _ rfl

set_option maxRecDepth 100000 in
theorem lifted (os : Os) (started : os.Started) (H : Type) (enc : TypeId × Value → H) :
    ReturnsInHanded {} Tryd.checked os 5 .any (fun w args => (Rows.codingBackSpec.pre enc Tryd.prog Tryd.f5 [] false w args ∧ laidMetH Tryd.prog laidL w) ∧ sizedMet enc Tryd.prog Tryd.f5 (OpenSpec.ofChange Rows.codingBackSpec) false w args)
      (Rows.codingBackSpec.post enc Tryd.prog Tryd.f5 false true false false) := by
  refine returnsInHanded_of_change_and (C := Tryd.checked) (X := fun w _ => laidMetH Tryd.prog laidL w) (fun _ _ _ hh h => h.of_heap hh) own started (by kernel_rfl) Tryd.func5
    (ChangeSpec.witness_shaped (enc := enc) (C := Tryd.checked) (os := os) (X := fun w _ => laidMetH Tryd.prog laidL w) false (World.doorLaid Tryd.prog 400 os) #[.slice none 0 0, .int .i64 0] 8 rfl (World.shaped_of_RefB (by kernel_rfl) (by kernel_rfl)) (by kernel_rfl) (by kernel_rfl) (by kernel_rfl) (door_met os _)) ?_
  intro W base args ds gs before hval0 hW _ _ hL _
  obtain ⟨hG, hR⟩ := of_laid hL
  have hval : ∀ (j : Nat) t v, Tryd.f5.params[j]? = some t → args[j]? = some v → Value.okWide Tryd.prog W .any base t v := hval0
  have hW' := hW
  obtain ⟨p, q, hA0, hV, rfl, hfz, hnd⟩ := hW
  have hA : DataW.TrodAll enc Tryd.prog W 0 (fun _ => true) true Tryd.f5.params.toList args.toList ds p := hA0
  rw [Tryd.params5] at hA hval
  obtain ⟨v0, vs0, d0, ds0, p0, q0, hargs, rfl, rfl, h0, r0⟩ := trodAll_cons hA
  obtain ⟨v1, vs1, d1, ds1, p1, q1, rfl, rfl, rfl, h1, r1⟩ := trodAll_cons r0
  obtain ⟨rfl, rfl, rfl⟩ := trodAll_nil r1
  obtain rfl : args = #[v0, v1] := by cases args; simp_all
  obtain ⟨rfl, rfl⟩ := trodVars_none hV
  obtain ⟨a0, len0, cap0, rfl⟩ := okWide_slice Tryd.underlying22 (hval 0 22 v0 rfl rfl)
  have hb0 : ∀ x, a0 = some x → x.block < W.heap.size := by rintro x rfl; exact okWide_block Tryd.underlying22 (hval 0 22 _ rfl rfl)
  have k0 := h0
  have lt0 : ∀ x ∈ p0, x.block < W.heap.size := by obtain ⟨m, hm⟩ := k0; exact DataW.trod_lt m _ _ _ hm
  obtain ⟨z0, w0⟩ : ∃ zs, IsRow .u8 W a0 len0 cap0 zs := by
    obtain ⟨fuel, hf⟩ := h0
    rcases open_ints Tryd.underlying22 Tryd.underlying5 (by kernel_rfl) hf with ⟨hcs, _⟩ | ⟨x, l, c, zs, hcs, _, hl, hm, hz, _, hcell, hwz⟩
    · simp [Value.cells] at hcs
      obtain ⟨rfl, rfl, rfl⟩ := hcs
      exact ⟨[], .inl ⟨rfl, rfl, rfl, rfl⟩⟩
    · simp [Value.cells] at hcs
      obtain ⟨rfl, rfl, rfl⟩ := hcs
      exact ⟨zs, .inr ⟨_, rfl, hl, hm, by simpa using hz, hcell, hwz⟩⟩
  obtain ⟨a1, rfl, rfl, rfl, w1⟩ := open_int Tryd.underlying3 (hval 1 3 v1 rfl rfl) h1
  clear hA0 hval0
  refine (walk a0 len0 cap0 z0 a1 W hG hR w0 hb0 w1).mono fun e W' ⟨he, bel⟩ => ?_
  subst he
  exact ⟨_, rfl, _, _, _, [], _, [], hW', trodAll_mk1 (shut_bool Tryd.underlying4 _), (trodAll_cons_mk (Below.trod laidOut (by kernel_rfl) (of_decide_eq_true (by kernel_rfl)) k0 bel lt0) (trodAll_cons_mk (shut_int Tryd.underlying3 w1) trodAll_mk0)), rfl, bel.frame _, fun h => by cases h⟩

theorem over : Rows.codingBackRow.holds Tryd.pinned (OpenSpec.ofChange Rows.codingBackSpec) :=
  OpenClaim.holds_of_wide 5 Tryd.f5 rfl rfl rfl rfl rfl rfl rfl ⟨rfl, rfl, rfl, rfl, rfl⟩ rfl rfl rfl rfl rfl (by kernel_rfl) Tryd.func5 (by kernel_rfl)
    (of_decide_eq_true (by kernel_rfl)) (by unfold Func.isWrapper; first | (rw [if_pos (by decide +kernel)]; kernel_rfl) | (rw [if_neg (by decide +kernel)]; exact ⟨rfl, rfl⟩))
    (fun os started H enc _ => lifted os started H enc)

/-- the card: the row, its variable tied to the program's text -/
theorem proved : Rows.CodingBackCardSaid :=
  Claim7.holds_tied_plain_at .later [] [.data] true (true, "f8b44dcaa85ac0566c79ab81753e15c4d3dda83bef56da4901400e8532865c88") false
    over (fun _ h => by cases h) (by kernel_rfl) (fun _ h => by cases h) codingBack_row_tie rfl ⟨rfl, rfl⟩ (by kernel_rfl) rfl
    (fun f fn hf hfn => by
      obtain rfl : f = 5 := Option.some.inj ((show Tryd.prog.funcNamed "vouch/vouchlaw06.CodingBack" = some 5 by kernel_rfl).symm.trans hf) |>.symm
      obtain rfl : fn = Tryd.f5 := (Option.some.inj (Tryd.func5.symm.trans hfn)).symm
      exact ⟨by kernel_rfl, fun j t ht => by
        rw [Tryd.params5] at ht
        match j, ht with
        | 0, ht =>
          obtain rfl : t = 22 := by simpa using ht.symm
          exact (show Tryd.prog.wantsStandIn 22 = false by kernel_rfl)
        | 1, ht =>
          obtain rfl : t = 3 := by simpa using ht.symm
          exact (show Tryd.prog.wantsStandIn 3 = false by kernel_rfl)
        | j + 2, ht => simp at ht⟩)
    (by kernel_rfl)
end Go.Proofs.YtkiecgkgbogbaaaDoor.codingBack
