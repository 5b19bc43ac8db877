/- What several proofs share, part 3: a model of memory, contracts of functions. Conditions: none. -/
import Derived.Test.YtccdlijohkljcaaLibB

/- Layer 1: lists of a call's own; Norm, Bits. Conditions: none. -/
set_option linter.unusedSimpArgs false
set_option linter.unusedVariables false
set_option maxRecDepth 100000
namespace Go.Proofs.Ytccdlijohkljcaa
open Go
variable {G : Nat} {Ext : FuncId → List Value → Mem → Outc → Mem → Prop}

/-- a list of words in a block of its own (from number N on) -/
def WOwn (S : Mem) (N : Nat) (a : Option Addr) (c : Nat) (l : WL) : Prop := WIn S a c l ∧ ∀ x, a = some x → x.off = 0 ∧ x.spot = none ∧ N ≤ x.block ∧ ∃ r, S.row? x.block = some r ∧ r.ro = none ∧ r.cells.take l.length = wv l
theorem WOwn.cons {S S' : Mem} {N : Nat} {a : Option Addr} {c : Nat} {l : WL} (h : WOwn S N a c l) (k : Cons S S') : WOwn S' N a c l :=
  ⟨h.1.cons k, fun x hx => let ⟨h1, h2, h3, r, h4, h5⟩ := h.2 x hx; ⟨h1, h2, h3, r, k.row' h4, h5⟩⟩
theorem WOwn.mono {S : Mem} {N M : Nat} {a : Option Addr} {c : Nat} {l : WL} (h : WOwn S N a c l) (k : M ≤ N) : WOwn S M a c l :=
  ⟨h.1, fun x hx => let ⟨h1, h2, h3, r, h4, h5⟩ := h.2 x hx; ⟨h1, h2, by omega, r, h4, h5⟩⟩
theorem WOwn.form {S : Mem} {N : Nat} {a : Option Addr} {c : Nat} {l : WL} (h : WOwn S N a c l) : WOwn S N a c (fm l) := by
  refine ⟨h.1.form, fun x hx => ?_⟩
  obtain ⟨h1, h2, h3, r, h4, h5, h6⟩ := h.2 x hx
  refine ⟨h1, h2, h3, r, h4, h5, ?_⟩
  have hl : (fm l).length ≤ l.length := toW_len_le l
  have : (r.cells.take l.length).take (fm l).length = (wv l).take (fm l).length := by rw [h6]
  rw [List.take_take, Nat.min_eq_left hl] at this
  rw [this, wv, ← List.map_take, toW_take]; rfl
theorem HdOk.wown {S : Mem} {N : Nat} {d : Hd} {l : WL} (h : HdOk S 56 d (wv l)) (hN : ∀ b, d.a = some b → N ≤ b) (hl : l.length < 1099511627776) : WOwn S N (d.a.map fun b => ⟨b, 0, none⟩) d.c l ∧ d.v = .slice (d.a.map fun b => ⟨b, 0, none⟩) l.length d.c := by
  have hn := h.len
  rw [wv_len] at hn
  have hv : d.v = .slice (d.a.map fun b => ⟨b, 0, none⟩) l.length d.c := by unfold Hd.v; rw [hn]
  have hs := h.slv
  rw [hv, ← hn] at hs
  refine ⟨⟨⟨hs, ?_, ?_, hl⟩, fun x hx => ?_⟩, hv⟩
  · obtain ⟨_, ⟨_, h2, h3⟩ | ⟨b, r, _, _, _, _, _, ⟨h3, h4⟩ | ⟨h3, _⟩⟩⟩ := h
    · omega
    · rw [h3, ← hn]; unfold knownCap; rw [if_pos (by omega)]; exact Nat.le_refl _
    · rw [h3, knownCap_unk]; omega
  · intro ha
    obtain ⟨_, ⟨_, h2, h3⟩ | ⟨b, r, h2, _⟩⟩ := h
    · exact h3
    · rw [h2] at ha; cases ha
  · obtain ⟨_, ⟨h2, _⟩ | ⟨b, r, h2, h3, h4, h5, h6, _⟩⟩ := h
    · rw [h2] at hx; cases hx
    · rw [h2] at hx; cases hx
      exact ⟨rfl, rfl, hN b h2, r, h3, h4, by rw [hn]; exact h6⟩
/-- what a call hands out: a list in new memory -/
def RetW (S S' : Mem) (d : Hd) (l : WL) : Prop := Cons S S' ∧ l.length < 1099511627776 ∧ HdOk S' 56 d (wv l) ∧ ∀ b, d.a = some b → S.length ≤ b
def Hd0 : Hd := ⟨none, 0, 0⟩
theorem RetW.nil {S S' : Mem} (k : Cons S S') : RetW S S' Hd0 [] := ⟨k, by decide, HdOk.nil _ _, nofun⟩
theorem RetW.pre {S S1 S' : Mem} {d : Hd} {l : WL} (k : Cons S S1) (h : RetW S1 S' d l) : RetW S S' d l := by
  obtain ⟨h1, h2, h4, h5⟩ := h
  exact ⟨k.trans h1, h2, h4, fun b e => Nat.le_trans k.len (h5 b e)⟩
theorem RetW.post {S S1 S' : Mem} {d : Hd} {l : WL} (h : RetW S S1 d l) (k : Cons S1 S') : RetW S S' d l := by
  obtain ⟨h1, h2, h4, h5⟩ := h
  exact ⟨h1.trans k, h2, h4.cons k, h5⟩
/-- its address, as a slice has it -/
def Hd.ad (d : Hd) : Option Addr := d.a.map fun b => ⟨b, 0, none⟩
theorem RetW.own {S S' : Mem} {d : Hd} {l : WL} (h : RetW S S' d l) : WOwn S' S.length d.ad d.c l ∧ d.v = .slice d.ad l.length d.c := h.2.2.1.wown h.2.2.2 h.2.1
theorem WOwn.clip {S0 S : Mem} {a : Option Addr} {c : Nat} {l : WL} (h : WOwn S S0.length a c l) (k : Cons S0 S) : ∃ d : Hd, .slice a l.length l.length = d.v ∧ RetW S0 S d l := by
  cases a with
  | none =>
    have hn : l.length = 0 := by have := h.1.2.1; rw [h.1.2.2.1 rfl] at this; simpa [knownCap, UNK] using this
    have : l = [] := List.length_eq_zero_iff.1 hn
    subst this
    exact ⟨Hd0, rfl, RetW.nil k⟩
  | some x =>
    obtain ⟨h1, h2, h3, r, h4, h5, h6⟩ := h.2 x rfl
    have hx : x = ⟨x.block, 0, none⟩ := by obtain ⟨b, o, s⟩ := x; simp at h1 h2; subst h1; subst h2; rfl
    have hlt := h.1.2.2.2
    refine ⟨⟨some x.block, l.length, l.length⟩, by rw [hx]; rfl, k, hlt, HdOk.full h4 h5 (wv_len l) h6 (by unfold UNK; omega), by rintro b ⟨⟩; exact h3⟩

theorem aslice_clip {size n c : Nat} {a : Option Addr} {hv mv : Value} {kd : IntKind} (hh : hv = .int kd (n : Int)) (hm : mv = .int kd (n : Int)) (hc : n ≤ knownCap c) (ha : a = none → c = 0) (hn : n < UNK) : aslice size a n c none (some hv) (some mv) = some (.slice a n n) := by
  subst hh; subst hm
  unfold aslice
  simp only [abound]
  rw [if_pos ⟨by omega, by omega⟩]
  simp only [Option.bind_some, Int.toNat_natCast]
  rw [if_pos ⟨by omega, by omega⟩]
  simp only [Option.bind_some, Int.toNat_natCast, hn, if_true]
  have hcut : acut size a 0 n n = .slice a n n := by
    unfold acut
    simp only [Nat.sub_zero, Nat.zero_mul]
    congr 1
    split
    · rfl
    · cases a <;> rfl
  cases a with
  | some x => exact congrArg some hcut
  | none =>
    have hc0 := ha rfl
    dsimp only
    rw [if_pos (by rw [hc0]; decide)]
    exact congrArg some hcut
theorem clip_C (a : Option Addr) (c : Nat) (l : WL) (S : Mem) (h : WIn S a c l) : C Try.prog G Ext 67 [.slice a l.length c] S fun v S' => v = .slice a l.length l.length ∧ S' = S := by
  refine C.fn Try.func67 rfl (by kernel_rfl) rfl ?_
  repeat (first | refine W.seq ?_ | refine W.block ?_ | refine W.reg ?_ | refine W.skip ?_ | refine W.exit ?_ | refine W.ret ?_ | refine L.nil ?_ | refine L.p rfl rfl ?_ | refine L.skip rfl ?_)
  refine L.is (.slice a l.length l.length) ?_ rfl ?_
  · rw [slice_at (a := a) (n := l.length) (c := c) rfl rfl rfl (fun e => by rw [h.2.2.1 e]; decide)]
    exact aslice_clip (kd := .i64) rfl rfl h.2.1 h.2.2.1 (by have := h.2.2.2; unfold UNK; omega)
  repeat (first | refine W.seq ?_ | refine W.block ?_ | refine W.reg ?_ | refine W.skip ?_ | refine W.exit ?_ | refine W.ret ?_ | refine L.nil ?_ | refine L.p rfl rfl ?_ | refine L.skip rfl ?_)
  exact ⟨.inr rfl, _, rfl, rfl, rfl⟩
/-- a number, if it is small enough; and the error -/
def toldL (l : WL) : WL := if small l then fm l else []
def toldE (l : WL) : Int := if small l then 0 else 3
theorem told_C (S0 : Mem) (a : Option Addr) (c : Nat) (l : WL) (S : Mem) (hO : WOwn S S0.length a c l) (k : Cons S0 S) : C Try.prog G Ext 54 [.slice a l.length c] S fun v S' => S' = S ∧ ∃ d : Hd, v = .tuple #[d.v, .int .i64 (toldE l)] ∧ RetW S0 S d (toldL l) := by
  refine C.fn Try.func54 rfl (by kernel_rfl) rfl ?_
  repeat (first | refine W.seq ?_ | refine W.block ?_ | refine W.reg ?_ | refine W.skip ?_ | refine W.exit ?_ | refine W.ret ?_ | refine L.nil ?_ | refine L.p rfl rfl ?_ | refine L.skip rfl ?_)
  refine L.cl (trim_C a c l S hO.1) rfl rfl ?_
  rintro _ _ ⟨rfl, rfl⟩
  refine ⟨nofun, ?_⟩
  repeat (first | refine W.seq ?_ | refine W.block ?_ | refine W.reg ?_ | refine W.skip ?_ | refine W.exit ?_ | refine W.ret ?_ | refine L.nil ?_ | refine L.p rfl rfl ?_ | refine L.skip rfl ?_)
  have hsm := small_len l
  refine W.ite rfl (fun h => ?_) (fun h => ?_)
  · have hs : small l = false := by rw [hsm] at h; simpa using h
    repeat (first | refine W.seq ?_ | refine W.block ?_ | refine W.reg ?_ | refine W.skip ?_ | refine W.exit ?_ | refine W.ret ?_ | refine L.nil ?_ | refine L.p rfl rfl ?_ | refine L.skip rfl ?_)
    exact ⟨.inr rfl, _, rfl, rfl, Hd0, (by unfold toldE; rw [hs]; rfl), by unfold toldL; rw [if_neg (by rw [hs]; decide)]; exact RetW.nil k⟩
  · have hs : small l = true := by rw [hsm] at h; simpa using h
    repeat (first | refine W.seq ?_ | refine W.block ?_ | refine W.reg ?_ | refine W.skip ?_ | refine W.exit ?_ | refine W.ret ?_ | refine L.nil ?_ | refine L.p rfl rfl ?_ | refine L.skip rfl ?_)
    refine L.cl (clip_C a c (fm l) _ hO.form.1) rfl rfl ?_
    rintro _ _ ⟨rfl, rfl⟩
    refine ⟨nofun, ?_⟩
    repeat (first | refine W.seq ?_ | refine W.block ?_ | refine W.reg ?_ | refine W.skip ?_ | refine W.exit ?_ | refine W.ret ?_ | refine L.nil ?_ | refine L.p rfl rfl ?_ | refine L.skip rfl ?_)
    obtain ⟨d, hd, hR⟩ := hO.form.clip k
    refine ⟨.inr rfl, _, rfl, rfl, d, (by rw [← hd]; unfold toldE; rw [hs]; rfl), ?_⟩
    unfold toldL
    rw [if_pos hs]
    exact hR
theorem fm_fm (l : WL) : fm (fm l) = fm l := by unfold fm; rw [wnum_toW]
theorem small_fm (l : WL) : small (fm l) = small l := by unfold small; rw [fm_fm]
theorem told_fm (l : WL) : toldL (fm l) = toldL l ∧ toldE (fm l) = toldE l := by unfold toldL toldE; rw [small_fm, fm_fm]; exact ⟨rfl, rfl⟩
theorem clone_C (a : Option Addr) (c : Nat) (l : WL) (S : Mem) (hI : WIn S a c l) : C Try.prog G Ext 55 [.slice a l.length c] S fun v S' => ∃ d : Hd, v = d.v ∧ RetW S S' d l := by
  have hnil : a = none → c = 0 ∧ l.length = 0 := fun e => by
    have h1 := hI.2.2.1 e
    have h2 := hI.2.1
    rw [h1] at h2
    exact ⟨h1, by simpa [knownCap, UNK] using h2⟩
  refine C.fn Try.func55 rfl (by kernel_rfl) rfl ?_
  repeat (first | refine W.seq ?_ | refine W.block ?_ | refine W.reg ?_ | refine W.skip ?_ | refine W.exit ?_ | refine W.ret ?_ | refine L.nil ?_ | refine L.p rfl rfl ?_ | refine L.skip rfl ?_)
  refine L.is (.bool a.isNone) (apure_nil (e := 56) rfl rfl rfl (fun e => by exact hnil e)) rfl ?_
  repeat (first | refine W.seq ?_ | refine W.block ?_ | refine W.reg ?_ | refine W.skip ?_ | refine W.exit ?_ | refine W.ret ?_ | refine L.nil ?_ | refine L.p rfl rfl ?_ | refine L.skip rfl ?_)
  refine W.ite rfl (fun h => ?_) (fun h => ?_)
  · have ha : a = none := by cases a <;> simp at h ⊢
    have hl : l = [] := List.length_eq_zero_iff.1 (hnil ha).2
    subst hl
    repeat (first | refine W.seq ?_ | refine W.block ?_ | refine W.reg ?_ | refine W.skip ?_ | refine W.exit ?_ | refine W.ret ?_ | refine L.nil ?_ | refine L.p rfl rfl ?_ | refine L.skip rfl ?_)
    exact ⟨.inr rfl, _, rfl, Hd0, rfl, RetW.nil (Cons.refl _)⟩
  · clear h
    repeat (first | refine W.seq ?_ | refine W.block ?_ | refine W.reg ?_ | refine W.skip ?_ | refine W.exit ?_ | refine W.ret ?_ | refine L.nil ?_ | refine L.p rfl rfl ?_ | refine L.skip rfl ?_)
    refine L.bs ([] : List Value) rfl rfl rfl rfl rfl rfl ?_
    have hr : Mem.row? (S ++ [newR [] 56]) S.length = some (newR [] 56) := row_push_new rfl
    have hc : Cons S (S ++ [newR [] 56]) := Cons.push _ _
    have h0 : HdOk (S ++ [newR [] 56]) 56 ⟨some S.length, 0, 0⟩ [] := HdOk.full hr rfl rfl rfl (by decide)
    generalize S ++ [newR [] 56] = S1 at *
    repeat (first | refine W.seq ?_ | refine W.block ?_ | refine W.reg ?_ | refine W.skip ?_ | refine W.exit ?_ | refine W.ret ?_ | refine L.nil ?_ | refine L.p rfl rfl ?_ | refine L.skip rfl ?_)
    refine L.appH (h := ⟨some S.length, 0, 0⟩) rfl h0 rfl rfl (hI.cons hc).1 (wv_one _) (by have := hI.2.2.2; show 0 + _ ≤ _; omega) rfl rfl (fun h' S2 k1 k2 k3 k4 => ?_)
    repeat (first | refine W.seq ?_ | refine W.block ?_ | refine W.reg ?_ | refine W.skip ?_ | refine W.exit ?_ | refine W.ret ?_ | refine L.nil ?_ | refine L.p rfl rfl ?_ | refine L.skip rfl ?_)
    refine ⟨.inr rfl, _, rfl, h', rfl, k4.cons0 hc (fun b hb => by simp at hb; omega), hI.2.2.2, by simpa using k1, fun b e => ?_⟩
    rcases k3 with ⟨k3, _⟩ | ⟨b', k3, k5⟩
    · rw [k3] at e; simp at e; omega
    · rw [k3] at e; cases e
      have := hc.len; omega
theorem norm_C (a : Option Addr) (c : Nat) (l : WL) (S : Mem) (hI : WIn S a c l) : C Try.prog G Ext 32 [.slice a l.length c] S fun v S' => ∃ d : Hd, v = .tuple #[d.v, .int .i64 (toldE l)] ∧ RetW S S' d (toldL l) := by
  refine C.fn Try.func32 rfl (by kernel_rfl) rfl ?_
  repeat (first | refine W.seq ?_ | refine W.block ?_ | refine W.reg ?_ | refine W.skip ?_ | refine W.exit ?_ | refine W.ret ?_ | refine L.nil ?_ | refine L.p rfl rfl ?_ | refine L.skip rfl ?_)
  refine L.bs [WS.v ⟨a, c, l⟩] rfl rfl rfl rfl rfl rfl ?_
  have hc : Cons S (S ++ [newR [WS.v ⟨a, c, l⟩] 24]) := Cons.push _ _
  have hs : Slv (S ++ [newR [WS.v ⟨a, c, l⟩] 24]) 1 (.slice (some ⟨S.length, 0, none⟩) 1 1) 1 ([WS.mk a c l].map WS.v) := Slv.all (row_push_new rfl) rfl rfl
  generalize S ++ [newR [WS.v ⟨a, c, l⟩] 24] = S1 at *
  refine L.cl (fit_C _ [⟨a, c, l⟩] S1 hs (fun w hw => by simp at hw; subst hw; exact hI.cons hc) (by simp)) rfl rfl ?_
  rintro _ _ ⟨rfl, rfl⟩
  refine ⟨nofun, ?_⟩
  repeat (first | refine W.seq ?_ | refine W.block ?_ | refine W.reg ?_ | refine W.skip ?_ | refine W.exit ?_ | refine W.ret ?_ | refine L.nil ?_ | refine L.p rfl rfl ?_ | refine L.skip rfl ?_)
  refine W.ite rfl (fun h => ?_) (fun h => ?_)
  · have hs : small l = false := by simpa using h
    repeat (first | refine W.seq ?_ | refine W.block ?_ | refine W.reg ?_ | refine W.skip ?_ | refine W.exit ?_ | refine W.ret ?_ | refine L.nil ?_ | refine L.p rfl rfl ?_ | refine L.skip rfl ?_)
    exact ⟨.inr rfl, _, rfl, Hd0, (by unfold toldE; rw [hs]; rfl), by unfold toldL; rw [if_neg (by rw [hs]; decide)]; exact RetW.nil hc⟩
  · have hs : small l = true := by simpa using h
    rename Mem => S1
    have hI1 := hI.cons hc
    repeat (first | refine W.seq ?_ | refine W.block ?_ | refine W.reg ?_ | refine W.skip ?_ | refine W.exit ?_ | refine W.ret ?_ | refine L.nil ?_ | refine L.p rfl rfl ?_ | refine L.skip rfl ?_)
    refine L.cl (trim_C a c l _ hI1) rfl rfl ?_
    rintro _ _ ⟨rfl, rfl⟩
    refine ⟨nofun, ?_⟩
    refine L.cl (clone_C a c (fm l) _ hI1.form) rfl rfl ?_
    rintro _ S2 ⟨d, rfl, hR⟩
    refine ⟨nofun, ?_⟩
    obtain ⟨hO, hv⟩ := hR.own
    refine L.cl (told_C _ d.ad d.c (fm l) S2 hO hR.1) rfl (by rw [← hv]; rfl) ?_
    rintro _ _ ⟨rfl, d2, rfl, hR2⟩
    refine ⟨nofun, ?_⟩
    repeat (first | refine W.seq ?_ | refine W.block ?_ | refine W.reg ?_ | refine W.skip ?_ | refine W.exit ?_ | refine W.ret ?_ | refine L.nil ?_ | refine L.p rfl rfl ?_ | refine L.skip rfl ?_)
    rw [(told_fm l).1] at hR2
    exact ⟨.inr rfl, _, rfl, d2, by rw [(told_fm l).2]; rfl, hR2.pre hc⟩
end Go.Proofs.Ytccdlijohkljcaa

/- Layer 1: how many bits. Conditions: none. -/
set_option linter.unusedSimpArgs false
set_option linter.unusedVariables false
set_option maxRecDepth 100000
namespace Go.Proofs.Ytccdlijohkljcaa
open Go
variable {G : Nat} {Ext : FuncId → List Value → Mem → Outc → Mem → Prop}

def LEN8 : ByteArray := ⟨(([0, 1] : List UInt8) ++ List.replicate 2 2 ++ List.replicate 4 3 ++ List.replicate 8 4 ++ List.replicate 16 5 ++ List.replicate 32 6 ++ List.replicate 64 7 ++ List.replicate 128 8).toArray⟩
theorem len8_tab {i : Nat} (h : i < 256) : LEN8[i]? = some (UInt8.ofNat (blen i)) ∧ blen i < 256 := by
  have : ∀ i : Fin 256, LEN8[i.val]? = some (UInt8.ofNat (blen i.val)) ∧ blen i.val < 256 := by decide +kernel
  exact this ⟨i, h⟩
theorem blen_div {n k : Nat} (h : 2 ^ k ≤ n) : blen n = k + blen (n / 2 ^ k) := by
  have h1 : n = n % 2 ^ k + 2 ^ k * (n / 2 ^ k) := by have := Nat.div_add_mod n (2 ^ k); omega
  have h2 : n / 2 ^ k ≠ 0 := Nat.pos_iff_ne_zero.1 (Nat.div_pos h (Nat.pow_pos (by decide)))
  conv => lhs; rw [h1]
  exact blen_shift (Nat.mod_lt _ (Nat.pow_pos (by decide))) h2
theorem fdiv_nat (n k : Nat) : Int.fdiv (n : Int) (k : Int) = ((n / k : Nat) : Int) := by rw [Int.fdiv_eq_ediv_of_nonneg _ (by omega)]; rfl
/-- halfway through: m is what is left, k bits are counted -/
def LenAt (S : Mem) (n B : Nat) : Xit → Env → Mem → Prop := fun x e S' => x = .nrm ∧ S' = S ∧ ∃ m k : Nat, e 0 = .int .u64 (m : Int) ∧ e 2 = vi k ∧ m < B ∧ k ≤ 64 ∧ blen n = k + blen m
theorem len64_C (n : Nat) (hn : n < 18446744073709551616) (S : Mem) : C Try.prog G Ext 59 [.int .u64 (n : Int)] S fun v S' => v = vi (blen n) ∧ S' = S := by
  refine C.fn Try.func59 rfl (by kernel_rfl) rfl ?_
  repeat (first | refine W.seq ?_ | refine W.block ?_ | refine W.reg ?_ | refine W.skip ?_ | refine W.exit ?_ | refine W.ret ?_ | refine L.nil ?_ | refine L.p rfl rfl ?_ | refine L.skip rfl ?_)
  refine W.mono (R := LenAt S n 4294967296) ?_ ?_
  · refine W.ite rfl (fun h => ?_) (fun h => ?_)
    · have hge : 2 ^ 32 ≤ n := by have h1 := of_decide_eq_true h; have e : (2 : Nat) ^ 32 = 4294967296 := by decide
                                  rw [e]; omega
      repeat (first | refine W.seq ?_ | refine W.block ?_ | refine W.reg ?_ | refine W.skip ?_ | refine W.exit ?_ | refine W.ret ?_ | refine L.nil ?_ | refine L.p rfl rfl ?_ | refine L.skip rfl ?_)
      refine ⟨rfl, rfl, n / 2 ^ 32, 32, ?_, rfl, ?_, by decide, blen_div hge⟩
      · exact (force_eq rfl).trans (congrArg (Value.int .u64) (fdiv_nat n (2 ^ 32)))
      · exact Nat.div_lt_of_lt_mul (by have e : (2 : Nat) ^ 32 = 4294967296 := by decide
                                       rw [e]; omega)
    · have hlt : n < 4294967296 := by have h1 := of_decide_eq_false h; omega
      repeat (first | refine W.seq ?_ | refine W.block ?_ | refine W.reg ?_ | refine W.skip ?_ | refine W.exit ?_ | refine W.ret ?_ | refine L.nil ?_ | refine L.p rfl rfl ?_ | refine L.skip rfl ?_)
      exact ⟨rfl, rfl, n, 0, rfl, rfl, hlt, by decide, by omega⟩
  rintro _ e1 S1 ⟨rfl, rfl, m1, k1, e0, e2, hm1, hk1, hb1⟩
  refine W.env2 e0 e2 ?_
  repeat (first | refine W.seq ?_ | refine W.block ?_ | refine W.reg ?_ | refine W.skip ?_ | refine W.exit ?_ | refine W.ret ?_ | refine L.nil ?_ | refine L.p rfl rfl ?_ | refine L.skip rfl ?_)
  refine W.mono (R := LenAt S1 n 65536) ?_ ?_
  · refine W.ite rfl (fun h => ?_) (fun h => ?_)
    · have hge : 2 ^ 16 ≤ m1 := by have h1 := of_decide_eq_true h; have e : (2 : Nat) ^ 16 = 65536 := by decide
                                   rw [e]; omega
      repeat (first | refine W.seq ?_ | refine W.block ?_ | refine W.reg ?_ | refine W.skip ?_ | refine W.exit ?_ | refine W.ret ?_ | refine L.nil ?_ | refine L.p rfl rfl ?_ | refine L.skip rfl ?_)
      refine ⟨rfl, rfl, m1 / 2 ^ 16, k1 + 16, ?_, ?_, ?_, ?_, ?_⟩
      · exact (force_eq rfl).trans (congrArg (Value.int .u64) (fdiv_nat m1 (2 ^ 16)))
      · refine (force_eq rfl).trans ?_
        rw [wrap64 (by omega) (by omega)]; rfl
      · exact Nat.div_lt_of_lt_mul (by have e : (2 : Nat) ^ 16 = 65536 := by decide
                                       rw [e]; omega)
      · have := blen_div hge
        have h9 := blen_le.2 (show n < 2 ^ 64 from hn)
        omega
      · rw [hb1, blen_div hge]; omega
    · have hlt : m1 < 65536 := by have h1 := of_decide_eq_false h; omega
      repeat (first | refine W.seq ?_ | refine W.block ?_ | refine W.reg ?_ | refine W.skip ?_ | refine W.exit ?_ | refine W.ret ?_ | refine L.nil ?_ | refine L.p rfl rfl ?_ | refine L.skip rfl ?_)
      exact ⟨rfl, rfl, m1, k1, rfl, rfl, hlt, hk1, hb1⟩
  clear e0 e2 hm1 hk1 hb1
  rintro _ e1 S1 ⟨rfl, rfl, m1, k1, e0, e2, hm1, hk1, hb1⟩
  refine W.env2 e0 e2 ?_
  repeat (first | refine W.seq ?_ | refine W.block ?_ | refine W.reg ?_ | refine W.skip ?_ | refine W.exit ?_ | refine W.ret ?_ | refine L.nil ?_ | refine L.p rfl rfl ?_ | refine L.skip rfl ?_)
  refine W.mono (R := LenAt S1 n 256) ?_ ?_
  · refine W.ite rfl (fun h => ?_) (fun h => ?_)
    · have hge : 2 ^ 8 ≤ m1 := by have h1 := of_decide_eq_true h; have e : (2 : Nat) ^ 8 = 256 := by decide
                                  rw [e]; omega
      repeat (first | refine W.seq ?_ | refine W.block ?_ | refine W.reg ?_ | refine W.skip ?_ | refine W.exit ?_ | refine W.ret ?_ | refine L.nil ?_ | refine L.p rfl rfl ?_ | refine L.skip rfl ?_)
      refine ⟨rfl, rfl, m1 / 2 ^ 8, k1 + 8, ?_, ?_, ?_, ?_, ?_⟩
      · exact (force_eq rfl).trans (congrArg (Value.int .u64) (fdiv_nat m1 (2 ^ 8)))
      · refine (force_eq rfl).trans ?_
        rw [wrap64 (by omega) (by omega)]; rfl
      · exact Nat.div_lt_of_lt_mul (by have e : (2 : Nat) ^ 8 = 256 := by decide
                                       rw [e]; omega)
      · have := blen_div hge
        have h9 := blen_le.2 (show n < 2 ^ 64 from hn)
        omega
      · rw [hb1, blen_div hge]; omega
    · have hlt : m1 < 256 := by have h1 := of_decide_eq_false h; omega
      repeat (first | refine W.seq ?_ | refine W.block ?_ | refine W.reg ?_ | refine W.skip ?_ | refine W.exit ?_ | refine W.ret ?_ | refine L.nil ?_ | refine L.p rfl rfl ?_ | refine L.skip rfl ?_)
      exact ⟨rfl, rfl, m1, k1, rfl, rfl, hlt, hk1, hb1⟩
  clear e0 e2 hm1 hk1 hb1
  rintro _ e1 S1 ⟨rfl, rfl, m1, k1, e0, e2, hm1, hk1, hb1⟩
  refine W.env2 e0 e2 ?_
  repeat (first | refine W.seq ?_ | refine W.block ?_ | refine W.reg ?_ | refine W.skip ?_ | refine W.exit ?_ | refine W.ret ?_ | refine L.nil ?_ | refine L.p rfl rfl ?_ | refine L.skip rfl ?_)
  obtain ⟨ht1, ht2⟩ := len8_tab hm1
  refine L.sx (s := LEN8) (i := m1) rfl ((force_eq rfl).trans (by rw [wrapU8 (by omega) (by omega)])) ht1 rfl rfl ?_
  repeat (first | refine W.seq ?_ | refine W.block ?_ | refine W.reg ?_ | refine W.skip ?_ | refine W.exit ?_ | refine W.ret ?_ | refine L.nil ?_ | refine L.p rfl rfl ?_ | refine L.skip rfl ?_)
  refine ⟨.inr rfl, _, rfl, (force_eq rfl).trans ?_, rfl⟩
  have hu : (UInt8.ofNat (blen m1)).toNat = blen m1 := by rw [UInt8.toNat_ofNat']; omega
  have hb8 := blen_le.2 (show m1 < 2 ^ 8 from hm1)
  rw [hu, wrap64 (x := (blen m1 : Int)) (by omega) (by omega), wrap64 (by omega) (by omega), hb1]
  rfl
theorem bits_C (a : Option Addr) (c : Nat) (l : WL) (S : Mem) (hI : WIn S a c l) : C Try.prog G Ext 43 [.slice a l.length c] S fun v S' => v = vi (blen (wnum l)) ∧ S' = S := by
  refine C.fn Try.func43 rfl (by kernel_rfl) rfl ?_
  repeat (first | refine W.seq ?_ | refine W.block ?_ | refine W.reg ?_ | refine W.skip ?_ | refine W.exit ?_ | refine W.ret ?_ | refine L.nil ?_ | refine L.p rfl rfl ?_ | refine L.skip rfl ?_)
  refine L.cl (trim_C a c l S hI) rfl rfl ?_
  rintro _ _ ⟨rfl, rfl⟩
  refine ⟨nofun, ?_⟩
  repeat (first | refine W.seq ?_ | refine W.block ?_ | refine W.reg ?_ | refine W.skip ?_ | refine W.exit ?_ | refine W.ret ?_ | refine L.nil ?_ | refine L.p rfl rfl ?_ | refine L.skip rfl ?_)
  have hF := hI.form
  have hc := canon_toW (wnum l)
  have hn := wnum_toW (wnum l)
  refine W.ite rfl (fun h => ?_) (fun h => ?_)
  · have h0 : fm l = [] := by simpa using h
    have : wnum l = 0 := by rw [← hn]; show wnum (fm l) = 0; rw [h0]; rfl
    repeat (first | refine W.seq ?_ | refine W.block ?_ | refine W.reg ?_ | refine W.skip ?_ | refine W.exit ?_ | refine W.ret ?_ | refine L.nil ?_ | refine L.p rfl rfl ?_ | refine L.skip rfl ?_)
    exact ⟨.inr rfl, _, rfl, by rw [this]; rfl, rfl⟩
  · have h0 : 0 < (fm l).length := by
      rcases Nat.eq_zero_or_pos (fm l).length with h1 | h1
      · rw [h1] at h; simp at h
      · exact h1
    clear h
    have hlen := hF.2.2.2
    obtain ⟨x, hx⟩ : ∃ x, (fm l).getLast? = some x := ⟨_, List.getLast?_eq_some_getLast (by intro e; rw [e] at h0; simp at h0)⟩
    have hxi : (fm l)[(fm l).length - 1]? = some x := by rw [← List.getLast?_eq_getElem?]; exact hx
    have hx0 : x ≠ 0#64 := fun e => hc (by rw [← e]; exact hx)
    have ht := blen_top hx hx0
    rw [show wnum (fm l) = wnum l from hn] at ht
    repeat (first | refine W.seq ?_ | refine W.block ?_ | refine W.reg ?_ | refine W.skip ?_ | refine W.exit ?_ | refine W.ret ?_ | refine L.nil ?_ | refine L.p rfl rfl ?_ | refine L.skip rfl ?_)
    refine L.el hF.1 (k := (fm l).length - 1) (by rw [wrap64 (by omega) (by omega)]; omega) (wv_get hxi) rfl rfl rfl rfl (fun _ => rfl) rfl (fun p => ?_)
    refine L.cl (len64_C x.toNat x.isLt _) rfl rfl ?_
    rintro _ _ ⟨rfl, rfl⟩
    refine ⟨nofun, ?_⟩
    repeat (first | refine W.seq ?_ | refine W.block ?_ | refine W.reg ?_ | refine W.skip ?_ | refine W.exit ?_ | refine W.ret ?_ | refine L.nil ?_ | refine L.p rfl rfl ?_ | refine L.skip rfl ?_)
    refine ⟨.inr rfl, _, rfl, (force_eq rfl).trans ?_, rfl⟩
    have hb := blen_le.2 (show x.toNat < 2 ^ 64 from x.isLt)
    rw [wrap64 (x := ((fm l).length : Int) - 1) (by omega) (by omega), wrap64 (x := 64 * (((fm l).length : Int) - 1)) (by omega) (by omega), wrap64 (by omega) (by omega), ht]
    congr 1
    omega
end Go.Proofs.Ytccdlijohkljcaa

/- Layer 1: numbers out of bytes. Conditions: none. -/
set_option linter.unusedSimpArgs false
set_option linter.unusedVariables false
set_option maxRecDepth 100000
namespace Go.Proofs.Ytccdlijohkljcaa
open Go
variable {G : Nat} {Ext : FuncId → List Value → Mem → Outc → Mem → Prop}

/-- a list of bytes that may be read, and cut -/
def BIn (S : Mem) (a : Option Addr) (c : Nat) (l : BL) : Prop := Slv S 1 (.slice a l.length c) l.length (bv l) ∧ Cut l.length c ∧ l.length < 1099511627776
theorem BIn.cons {S S' : Mem} {a : Option Addr} {c : Nat} {l : BL} (h : BIn S a c l) (k : Cons S S') : BIn S' a c l := ⟨h.1.cons k, h.2⟩
theorem BIn.part {S : Mem} {a : Option Addr} {c k h : Nat} {l : BL} {lo hi : Option Value} (hI : BIn S a c l) (hl : LoIs lo k) (hh : HiIs hi l.length h) (hk : k ≤ h) (hn : h ≤ l.length) :
    ∃ a' c', aslice 1 a l.length c lo hi none = some (.slice a' ((l.drop k).take (h - k)).length c') ∧ BIn S a' c' ((l.drop k).take (h - k)) := by
  obtain ⟨a', c', h1, h2, h3, _⟩ := slv_part hI.1 hl hh hk hn hI.2.1
  have hlen : ((l.drop k).take (h - k)).length = h - k := by rw [List.length_take, List.length_drop]; omega
  refine ⟨a', c', by rw [hlen]; exact h1, ?_, by rw [hlen]; exact h3, by have := hI.2.2; omega⟩
  rw [hlen]
  rwa [show ((bv l).drop k).take (h - k) = bv ((l.drop k).take (h - k)) by simp [bv, List.map_take, List.map_drop]] at h2
theorem BIn.from {S : Mem} {a : Option Addr} {c k : Nat} {l : BL} {lv : Value} {kd : IntKind} (hI : BIn S a c l) (hl : lv = .int kd (k : Int)) (hk : k ≤ l.length) :
    ∃ a' c', aslice 1 a l.length c (some lv) none none = some (.slice a' (l.drop k).length c') ∧ BIn S a' c' (l.drop k) := by
  subst hl
  obtain ⟨a', c', h1, h2⟩ := hI.part (.inr ⟨kd, rfl⟩) (.inl ⟨rfl, rfl⟩) hk (Nat.le_refl _)
  rw [List.take_of_length_le (by rw [List.length_drop]; omega)] at h1 h2
  exact ⟨a', c', h1, h2⟩
theorem v8_eq0 (x : BitVec 8) : ((x.toNat : Int) == 0) = (x == 0#8) := by
  rw [Bool.eq_iff_iff]
  simp only [beq_iff_eq]
  exact ⟨fun h => BitVec.eq_of_toNat_eq (by simpa using h), fun h => by rw [h]; rfl⟩
theorem up8 {n : Nat} (h : n < 1099511627776) : IntKind.i64.wrap (Int.tdiv (IntKind.i64.wrap ((n : Int) + 7)) 8) = (((n + 7) / 8 : Nat) : Int) := by
  rw [wrap64 (x := (n : Int) + 7) (by omega) (by omega), show ((n : Int) + 7) = ((n + 7 : Nat) : Int) by omega, show Int.tdiv ((n + 7 : Nat) : Int) 8 = (((n + 7) / 8 : Nat) : Int) from (Int.ofNat_tdiv (n + 7) 8).symm, wrap64 (by omega) (by omega)]

theorem or_shl (x : BitVec 64) (c : BitVec 8) (s : Nat) : IntKind.u64.wrap ((BitVec.ofInt IntKind.u64.bits (x.toNat : Int) ||| BitVec.ofInt IntKind.u64.bits (IntKind.u64.wrap (IntKind.u64.wrap (c.toNat : Int) * 2 ^ s))).toNat : Int) = ((x ||| (c.setWidth 64) <<< s).toNat : Int) := by
  have hlt := c.isLt
  have hc : IntKind.u64.wrap (c.toNat : Int) = ((c.setWidth 64).toNat : Int) := by
    rw [wrapU64 (by omega) (by omega), BitVec.toNat_setWidth]; omega
  rw [hc, wrap_u64 (((c.setWidth 64).toNat : Int) * 2 ^ s), ofInt_shl, bits_u64, ofInt_toNat, ofInt_toNat, wrap_u64, ofInt_toNat]
theorem from_C (a : Option Addr) (c : Nat) (b : BL) (S : Mem) (hI : BIn S a c b) : C Try.prog G Ext 58 [.slice a b.length c] S fun v S' => ∃ d : Hd, v = .tuple #[d.v, .int .i64 (fromE b)] ∧ RetW S S' d (fromL b) := by
  refine C.fn Try.func58 rfl (by kernel_rfl) rfl ?_
  repeat (first | refine W.seq ?_ | refine W.block ?_ | refine W.reg ?_ | refine W.skip ?_ | refine W.exit ?_ | refine W.ret ?_ | refine L.nil ?_ | refine L.p rfl rfl ?_ | refine L.skip rfl ?_)
  refine W.loop (fun j e S' => ∃ (m : BL) (a' : Option Addr) (c' : Nat), j = m.length ∧ S' = S ∧ e 0 = .slice a' m.length c' ∧ BIn S a' c' m ∧ strip0 m = strip0 b) b.length ⟨b, a, c, rfl, rfl, rfl, hI, rfl⟩ ?_
  rintro j e S' ⟨m, a', c', rfl, rfl, e0, hm, hst⟩
  refine W.env e0 ?_
  have hml := hm.2.2
  repeat (first | refine W.seq ?_ | refine W.block ?_ | refine W.reg ?_ | refine W.skip ?_ | refine W.exit ?_ | refine W.ret ?_ | refine L.nil ?_ | refine L.p rfl rfl ?_ | refine L.skip rfl ?_)
  cases hb : decide ((m.length : Int) > 0)
  · have hm0 : m = [] := List.length_eq_zero_iff.1 (by have := of_decide_eq_false hb; omega)
    clear hb
    repeat (first | refine W.seq ?_ | refine W.block ?_ | refine W.reg ?_ | refine W.skip ?_ | refine W.exit ?_ | refine W.ret ?_ | refine L.nil ?_ | refine L.p rfl rfl ?_ | refine L.skip rfl ?_)
    refine W.ite rfl (fun h => ?_) (fun h => ?_)
    · cases h
    clear h
    have hF : strip0 b = m := by rw [← hst, hm0]; rfl
    clear hst hm0
    repeat (first | refine W.seq ?_ | refine W.block ?_ | refine W.reg ?_ | refine W.skip ?_ | refine W.exit ?_ | refine W.ret ?_ | refine L.nil ?_ | refine L.p rfl rfl ?_ | refine L.skip rfl ?_)
    refine W.ite rfl (fun h => ?_) (fun h => ?_)
    · have hbig : ¬ m.length ≤ 1024 := by have := of_decide_eq_true h; omega
      repeat (first | refine W.seq ?_ | refine W.block ?_ | refine W.reg ?_ | refine W.skip ?_ | refine W.exit ?_ | refine W.ret ?_ | refine L.nil ?_ | refine L.p rfl rfl ?_ | refine L.skip rfl ?_)
      refine ⟨.inr rfl, _, rfl, Hd0, ?_, ?_⟩
      · unfold fromE; rw [hF, if_neg hbig]; rfl
      · unfold fromL; rw [hF, if_neg hbig]; exact RetW.nil (Cons.refl _)
    have hsm : m.length ≤ 1024 := by have := of_decide_eq_false h; omega
    clear h
    repeat (first | refine W.seq ?_ | refine W.block ?_ | refine W.reg ?_ | refine W.skip ?_ | refine W.exit ?_ | refine W.ret ?_ | refine L.nil ?_ | refine L.p rfl rfl ?_ | refine L.skip rfl ?_)
    have hq := up8 hml
    refine L.mk (n := (m.length + 7) / 8) (m := (m.length + 7) / 8) (bytes := 8) (zv := v64 0#64) rfl rfl hq rfl hq (Nat.le_refl _) (by omega) rfl rfl ?_
    have hr : Mem.row? (S' ++ [newR (List.replicate ((m.length + 7) / 8) (v64 0#64)) 56]) S'.length = some (newR (List.replicate ((m.length + 7) / 8) (v64 0#64)) 56) := row_push_new rfl
    have hc : Cons S' (S' ++ [newR (List.replicate ((m.length + 7) / 8) (v64 0#64)) 56]) := Cons.push _ _
    generalize S' ++ [newR (List.replicate ((m.length + 7) / 8) (v64 0#64)) 56] = S1 at *
    obtain ⟨ro, hro⟩ : ∃ ro, ro = S'.length := ⟨_, rfl⟩
    rw [← hro] at hr ⊢
    repeat (first | refine W.seq ?_ | refine W.block ?_ | refine W.reg ?_ | refine W.skip ?_ | refine W.exit ?_ | refine W.ret ?_ | refine L.nil ?_ | refine L.p rfl rfl ?_ | refine L.skip rfl ?_)
    refine W.loop (fun j e T => ∃ (i : Nat) (o : WL), j = m.length - i ∧ i ≤ m.length ∧ e 0 = .slice a' m.length c' ∧ e 4 = .slice (some ⟨ro, 0, none⟩) ((m.length + 7) / 8) ((m.length + 7) / 8) ∧ e 27 = .slice a' m.length c' ∧ e 28 = vi m.length ∧ e 29 = vi i ∧
        Cons S' T ∧ T.row? ro = some (newR (wv o) 56) ∧ Laid m i o) m.length
      ⟨0, _, by omega, by omega, rfl, rfl, rfl, rfl, rfl, hc, by rw [hr]; simp [wv], laid_zero m⟩ ?_
    clear hr hc e0
    rintro j e T ⟨i, o, rfl, hi, e0, e4, e27, e28, e29, hc, hr, hL⟩
    refine W.env5 e0 e4 e27 e28 e29 ?_
    repeat (first | refine W.seq ?_ | refine W.block ?_ | refine W.reg ?_ | refine W.skip ?_ | refine W.exit ?_ | refine W.ret ?_ | refine L.nil ?_ | refine L.p rfl rfl ?_ | refine L.skip rfl ?_)
    refine W.ite rfl (fun h => ?_) (fun h => ?_)
    · have hin : i < m.length := by have := of_decide_eq_true h; omega
      clear h
      obtain ⟨cc, hcc⟩ : ∃ cc, m[i]? = some cc := ⟨_, List.getElem?_eq_getElem hin⟩
      obtain ⟨x, hx, hL2⟩ := laid_step hL hcc
      obtain ⟨k, hk⟩ : ∃ k, k = m.length - 1 - i := ⟨_, rfl⟩
      rw [← hk] at hx hL2
      repeat (first | refine W.seq ?_ | refine W.block ?_ | refine W.reg ?_ | refine W.skip ?_ | refine W.exit ?_ | refine W.ret ?_ | refine L.nil ?_ | refine L.p rfl rfl ?_ | refine L.skip rfl ?_)
      refine L.el (hm.1.cons hc) rfl (bv_get hcc) rfl rfl rfl rfl (fun _ => rfl) rfl (fun p => ?_)
      repeat (first | refine W.seq ?_ | refine W.block ?_ | refine W.reg ?_ | refine W.skip ?_ | refine W.exit ?_ | refine W.ret ?_ | refine L.nil ?_ | refine L.p rfl rfl ?_ | refine L.skip rfl ?_)
      have e1 : IntKind.i64.wrap (IntKind.i64.wrap ((m.length : Int) - 1) - (i : Int)) = (k : Int) := by
        rw [wrap64 (x := (m.length : Int) - 1) (by omega) (by omega), wrap64 (by omega) (by omega)]; omega
      rw [e1]
      have e2 : IntKind.i64.wrap (Int.tdiv (k : Int) 8) = ((k / 8 : Nat) : Int) := by
        rw [show Int.tdiv (k : Int) 8 = ((k / 8 : Nat) : Int) from (Int.ofNat_tdiv k 8).symm, wrap64 (by omega) (by omega)]
      have e3 : IntKind.i64.wrap (8 * Int.tmod (k : Int) 8) = ((8 * (k % 8) : Nat) : Int) := by
        rw [show Int.tmod (k : Int) 8 = ((k % 8 : Nat) : Int) from (Int.ofNat_tmod k 8).symm, wrap64 (by omega) (by omega)]; omega
      have hsl : Slv T 1 (.slice (some ⟨ro, 0, none⟩) ((m.length + 7) / 8) ((m.length + 7) / 8)) ((m.length + 7) / 8) (wv o) := Slv.all hr rfl (by rw [wv_len, hL.1, Nat.mul_one])
      have hkl : k / 8 < (m.length + 7) / 8 := by rw [← hL.1]; exact (List.getElem?_eq_some_iff.1 hx).1
      refine L.el hsl e2 (wv_get hx) rfl rfl rfl rfl (fun _ => rfl) rfl (fun p => ?_)
      repeat (first | refine W.seq ?_ | refine W.block ?_ | refine W.reg ?_ | refine W.skip ?_ | refine W.exit ?_ | refine W.ret ?_ | refine L.nil ?_ | refine L.p rfl rfl ?_ | refine L.skip rfl ?_)
      refine L.shl (8 * (k % 8)) rfl rfl e3 (by rw [bits_u64]; omega) rfl ?_
      repeat (first | refine W.seq ?_ | refine W.block ?_ | refine W.reg ?_ | refine W.skip ?_ | refine W.exit ?_ | refine W.ret ?_ | refine L.nil ?_ | refine L.p rfl rfl ?_ | refine L.skip rfl ?_)
      refine L.elst hr rfl (by show 0 + _ ≤ (wv o).length; rw [wv_len, hL.1]; omega) e2 hkl rfl rfl rfl rfl (fun _ => rfl) (fun _ => rfl) rfl rfl rfl (fun p => ?_)
      repeat (first | refine W.seq ?_ | refine W.block ?_ | refine W.reg ?_ | refine W.skip ?_ | refine W.exit ?_ | refine W.ret ?_ | refine L.nil ?_ | refine L.p rfl rfl ?_ | refine L.skip rfl ?_)
      refine ⟨m.length - (i + 1), by omega, i + 1, _, rfl, by omega, rfl, rfl, rfl, rfl, ?_, hc.set _ _ (by omega), ?_, hL2⟩
      · refine (force_eq rfl).trans ?_
        rw [wrap64 (by omega) (by omega)]; rfl
      · rw [row_set_same hr rfl, Nat.zero_add]
        rw [or_shl]
        simp only [newR, wv, List.map_set]
    have hin : i = m.length := by have := of_decide_eq_false h; omega
    subst hin
    clear h
    have hfin : o = toW (bnum b) := by rw [← bnum_strip0 b, hF]; exact laid_all hL (fun x l hl => strip0_head (l := b) (by rw [hF]; exact hl))
    repeat (first | refine W.seq ?_ | refine W.block ?_ | refine W.reg ?_ | refine W.skip ?_ | refine W.exit ?_ | refine W.ret ?_ | refine L.nil ?_ | refine L.p rfl rfl ?_ | refine L.skip rfl ?_)
    refine ⟨.inr rfl, _, rfl, ⟨some ro, o.length, o.length⟩, ?_, hc, ?_, ?_, ?_⟩
    · unfold fromE; rw [hF, if_pos hsm, hL.1]; rfl
    · unfold fromL; rw [hF, if_pos hsm, ← hfin, hL.1]; omega
    · unfold fromL; rw [hF, if_pos hsm, ← hfin]
      exact HdOk.full hr rfl (wv_len o) (by show (wv o).take _ = _; exact List.take_of_length_le (by rw [wv_len]; exact Nat.le_refl _)) (by rw [hL.1]; unfold UNK; omega)
    · rintro b' ⟨⟩; omega
  have hpos : 0 < m.length := by have := of_decide_eq_true hb; omega
  clear hb
  obtain ⟨x, m2, hm2⟩ : ∃ x m2, m = x :: m2 := by
    cases m with
    | nil => simp at hpos
    | cons x m => exact ⟨x, m, rfl⟩
  repeat (first | refine W.seq ?_ | refine W.block ?_ | refine W.reg ?_ | refine W.skip ?_ | refine W.exit ?_ | refine W.ret ?_ | refine L.nil ?_ | refine L.p rfl rfl ?_ | refine L.skip rfl ?_)
  refine L.el hm.1 (k := 0) rfl (bv_get (x := x) (by rw [hm2]; rfl)) rfl rfl rfl rfl (fun _ => rfl) rfl (fun p => ?_)
  repeat (first | refine W.seq ?_ | refine W.block ?_ | refine W.reg ?_ | refine W.skip ?_ | refine W.exit ?_ | refine W.ret ?_ | refine L.nil ?_ | refine L.p rfl rfl ?_ | refine L.skip rfl ?_)
  cases hx : (x == 0#8)
  · have hxe : ((x.toNat : Int) == 0) = false := by rw [v8_eq0]; exact hx
    rw [hxe]
    repeat (first | refine W.seq ?_ | refine W.block ?_ | refine W.reg ?_ | refine W.skip ?_ | refine W.exit ?_ | refine W.ret ?_ | refine L.nil ?_ | refine L.p rfl rfl ?_ | refine L.skip rfl ?_)
    refine W.ite rfl (fun h => ?_) (fun h => ?_)
    · cases h
    clear h
    have hF : strip0 b = m := by rw [← hst, hm2]; unfold strip0; rw [List.dropWhile_cons, if_neg (by rw [hx]; decide)]
    clear hst hm2 hx hxe
    repeat (first | refine W.seq ?_ | refine W.block ?_ | refine W.reg ?_ | refine W.skip ?_ | refine W.exit ?_ | refine W.ret ?_ | refine L.nil ?_ | refine L.p rfl rfl ?_ | refine L.skip rfl ?_)
    refine W.ite rfl (fun h => ?_) (fun h => ?_)
    · have hbig : ¬ m.length ≤ 1024 := by have := of_decide_eq_true h; omega
      repeat (first | refine W.seq ?_ | refine W.block ?_ | refine W.reg ?_ | refine W.skip ?_ | refine W.exit ?_ | refine W.ret ?_ | refine L.nil ?_ | refine L.p rfl rfl ?_ | refine L.skip rfl ?_)
      refine ⟨.inr rfl, _, rfl, Hd0, ?_, ?_⟩
      · unfold fromE; rw [hF, if_neg hbig]; rfl
      · unfold fromL; rw [hF, if_neg hbig]; exact RetW.nil (Cons.refl _)
    have hsm : m.length ≤ 1024 := by have := of_decide_eq_false h; omega
    clear h
    repeat (first | refine W.seq ?_ | refine W.block ?_ | refine W.reg ?_ | refine W.skip ?_ | refine W.exit ?_ | refine W.ret ?_ | refine L.nil ?_ | refine L.p rfl rfl ?_ | refine L.skip rfl ?_)
    have hq := up8 hml
    refine L.mk (n := (m.length + 7) / 8) (m := (m.length + 7) / 8) (bytes := 8) (zv := v64 0#64) rfl rfl hq rfl hq (Nat.le_refl _) (by omega) rfl rfl ?_
    have hr : Mem.row? (S' ++ [newR (List.replicate ((m.length + 7) / 8) (v64 0#64)) 56]) S'.length = some (newR (List.replicate ((m.length + 7) / 8) (v64 0#64)) 56) := row_push_new rfl
    have hc : Cons S' (S' ++ [newR (List.replicate ((m.length + 7) / 8) (v64 0#64)) 56]) := Cons.push _ _
    generalize S' ++ [newR (List.replicate ((m.length + 7) / 8) (v64 0#64)) 56] = S1 at *
    obtain ⟨ro, hro⟩ : ∃ ro, ro = S'.length := ⟨_, rfl⟩
    rw [← hro] at hr ⊢
    repeat (first | refine W.seq ?_ | refine W.block ?_ | refine W.reg ?_ | refine W.skip ?_ | refine W.exit ?_ | refine W.ret ?_ | refine L.nil ?_ | refine L.p rfl rfl ?_ | refine L.skip rfl ?_)
    refine W.loop (fun j e T => ∃ (i : Nat) (o : WL), j = m.length - i ∧ i ≤ m.length ∧ e 0 = .slice a' m.length c' ∧ e 4 = .slice (some ⟨ro, 0, none⟩) ((m.length + 7) / 8) ((m.length + 7) / 8) ∧ e 27 = .slice a' m.length c' ∧ e 28 = vi m.length ∧ e 29 = vi i ∧
        Cons S' T ∧ T.row? ro = some (newR (wv o) 56) ∧ Laid m i o) m.length
      ⟨0, _, by omega, by omega, rfl, rfl, rfl, rfl, rfl, hc, by rw [hr]; simp [wv], laid_zero m⟩ ?_
    clear hr hc e0
    rintro j e T ⟨i, o, rfl, hi, e0, e4, e27, e28, e29, hc, hr, hL⟩
    refine W.env5 e0 e4 e27 e28 e29 ?_
    repeat (first | refine W.seq ?_ | refine W.block ?_ | refine W.reg ?_ | refine W.skip ?_ | refine W.exit ?_ | refine W.ret ?_ | refine L.nil ?_ | refine L.p rfl rfl ?_ | refine L.skip rfl ?_)
    refine W.ite rfl (fun h => ?_) (fun h => ?_)
    · have hin : i < m.length := by have := of_decide_eq_true h; omega
      clear h
      obtain ⟨cc, hcc⟩ : ∃ cc, m[i]? = some cc := ⟨_, List.getElem?_eq_getElem hin⟩
      obtain ⟨x, hx, hL2⟩ := laid_step hL hcc
      obtain ⟨k, hk⟩ : ∃ k, k = m.length - 1 - i := ⟨_, rfl⟩
      rw [← hk] at hx hL2
      repeat (first | refine W.seq ?_ | refine W.block ?_ | refine W.reg ?_ | refine W.skip ?_ | refine W.exit ?_ | refine W.ret ?_ | refine L.nil ?_ | refine L.p rfl rfl ?_ | refine L.skip rfl ?_)
      refine L.el (hm.1.cons hc) rfl (bv_get hcc) rfl rfl rfl rfl (fun _ => rfl) rfl (fun p => ?_)
      repeat (first | refine W.seq ?_ | refine W.block ?_ | refine W.reg ?_ | refine W.skip ?_ | refine W.exit ?_ | refine W.ret ?_ | refine L.nil ?_ | refine L.p rfl rfl ?_ | refine L.skip rfl ?_)
      have e1 : IntKind.i64.wrap (IntKind.i64.wrap ((m.length : Int) - 1) - (i : Int)) = (k : Int) := by
        rw [wrap64 (x := (m.length : Int) - 1) (by omega) (by omega), wrap64 (by omega) (by omega)]; omega
      rw [e1]
      have e2 : IntKind.i64.wrap (Int.tdiv (k : Int) 8) = ((k / 8 : Nat) : Int) := by
        rw [show Int.tdiv (k : Int) 8 = ((k / 8 : Nat) : Int) from (Int.ofNat_tdiv k 8).symm, wrap64 (by omega) (by omega)]
      have e3 : IntKind.i64.wrap (8 * Int.tmod (k : Int) 8) = ((8 * (k % 8) : Nat) : Int) := by
        rw [show Int.tmod (k : Int) 8 = ((k % 8 : Nat) : Int) from (Int.ofNat_tmod k 8).symm, wrap64 (by omega) (by omega)]; omega
      have hsl : Slv T 1 (.slice (some ⟨ro, 0, none⟩) ((m.length + 7) / 8) ((m.length + 7) / 8)) ((m.length + 7) / 8) (wv o) := Slv.all hr rfl (by rw [wv_len, hL.1, Nat.mul_one])
      have hkl : k / 8 < (m.length + 7) / 8 := by rw [← hL.1]; exact (List.getElem?_eq_some_iff.1 hx).1
      refine L.el hsl e2 (wv_get hx) rfl rfl rfl rfl (fun _ => rfl) rfl (fun p => ?_)
      repeat (first | refine W.seq ?_ | refine W.block ?_ | refine W.reg ?_ | refine W.skip ?_ | refine W.exit ?_ | refine W.ret ?_ | refine L.nil ?_ | refine L.p rfl rfl ?_ | refine L.skip rfl ?_)
      refine L.shl (8 * (k % 8)) rfl rfl e3 (by rw [bits_u64]; omega) rfl ?_
      repeat (first | refine W.seq ?_ | refine W.block ?_ | refine W.reg ?_ | refine W.skip ?_ | refine W.exit ?_ | refine W.ret ?_ | refine L.nil ?_ | refine L.p rfl rfl ?_ | refine L.skip rfl ?_)
      refine L.elst hr rfl (by show 0 + _ ≤ (wv o).length; rw [wv_len, hL.1]; omega) e2 hkl rfl rfl rfl rfl (fun _ => rfl) (fun _ => rfl) rfl rfl rfl (fun p => ?_)
      repeat (first | refine W.seq ?_ | refine W.block ?_ | refine W.reg ?_ | refine W.skip ?_ | refine W.exit ?_ | refine W.ret ?_ | refine L.nil ?_ | refine L.p rfl rfl ?_ | refine L.skip rfl ?_)
      refine ⟨m.length - (i + 1), by omega, i + 1, _, rfl, by omega, rfl, rfl, rfl, rfl, ?_, hc.set _ _ (by omega), ?_, hL2⟩
      · refine (force_eq rfl).trans ?_
        rw [wrap64 (by omega) (by omega)]; rfl
      · rw [row_set_same hr rfl, Nat.zero_add]
        rw [or_shl]
        simp only [newR, wv, List.map_set]
    have hin : i = m.length := by have := of_decide_eq_false h; omega
    subst hin
    clear h
    have hfin : o = toW (bnum b) := by rw [← bnum_strip0 b, hF]; exact laid_all hL (fun x l hl => strip0_head (l := b) (by rw [hF]; exact hl))
    repeat (first | refine W.seq ?_ | refine W.block ?_ | refine W.reg ?_ | refine W.skip ?_ | refine W.exit ?_ | refine W.ret ?_ | refine L.nil ?_ | refine L.p rfl rfl ?_ | refine L.skip rfl ?_)
    refine ⟨.inr rfl, _, rfl, ⟨some ro, o.length, o.length⟩, ?_, hc, ?_, ?_, ?_⟩
    · unfold fromE; rw [hF, if_pos hsm, hL.1]; rfl
    · unfold fromL; rw [hF, if_pos hsm, ← hfin, hL.1]; omega
    · unfold fromL; rw [hF, if_pos hsm, ← hfin]
      exact HdOk.full hr rfl (wv_len o) (by show (wv o).take _ = _; exact List.take_of_length_le (by rw [wv_len]; exact Nat.le_refl _)) (by rw [hL.1]; unfold UNK; omega)
    · rintro b' ⟨⟩; omega
  · have hxe : ((x.toNat : Int) == 0) = true := by rw [v8_eq0]; exact hx
    have hx0 : x = 0#8 := by simpa using hx
    rw [hxe]
    repeat (first | refine W.seq ?_ | refine W.block ?_ | refine W.reg ?_ | refine W.skip ?_ | refine W.exit ?_ | refine W.ret ?_ | refine L.nil ?_ | refine L.p rfl rfl ?_ | refine L.skip rfl ?_)
    refine W.ite rfl (fun h => ?_) (fun h => ?_)
    rotate_left
    · cases h
    repeat (first | refine W.seq ?_ | refine W.block ?_ | refine W.reg ?_ | refine W.skip ?_ | refine W.exit ?_ | refine W.ret ?_ | refine L.nil ?_ | refine L.p rfl rfl ?_ | refine L.skip rfl ?_)
    obtain ⟨a2, c2, q1, q2⟩ := hm.from (lv := .int .i64 1) (k := 1) rfl (by omega)
    refine L.is (.slice a2 (m.drop 1).length c2) ((slice_at0 rfl rfl rfl).trans q1) rfl ?_
    repeat (first | refine W.seq ?_ | refine W.block ?_ | refine W.reg ?_ | refine W.skip ?_ | refine W.exit ?_ | refine W.ret ?_ | refine L.nil ?_ | refine L.p rfl rfl ?_ | refine L.skip rfl ?_)
    refine ⟨(m.drop 1).length, by rw [List.length_drop]; omega, m.drop 1, a2, c2, rfl, rfl, rfl, q2, by rw [← hst, hm2, hx0]; rfl⟩
end Go.Proofs.Ytccdlijohkljcaa

/- Layer 7: giving up; an item. Conditions: none. -/
set_option linter.unusedSimpArgs false
set_option linter.unusedVariables false
set_option maxRecDepth 100000
namespace Go.Proofs.Ytccdlijohkljcaa
open Go
variable {G : Nat} {Ext : FuncId → List Value → Mem → Outc → Mem → Prop}

def faultV (n : Int) : Value := .iface 80 (.agg #[.int .i64 n])
theorem fail_C (so : Bool) (n : Int) (S : Mem) : CO Try.prog G Ext 39 [.bool so, .int .i64 n] S fun o S' => o = (if so then .pan (faultV n) else .ret (.tuple #[])) ∧ S' = S := by
  refine CO.fn Try.func39 rfl (by kernel_rfl) rfl ?_
  repeat (first | refine W.seq ?_ | refine W.block ?_ | refine W.reg ?_ | refine W.skip ?_ | refine W.exit ?_ | refine W.ret ?_ | refine L.nil ?_ | refine L.p rfl rfl ?_ | refine L.skip rfl ?_)
  refine W.ite rfl (fun h => ?_) (fun h => ?_)
  · subst h
    repeat (first | refine W.seq ?_ | refine W.block ?_ | refine W.reg ?_ | refine W.skip ?_ | refine W.exit ?_ | refine W.ret ?_ | refine L.nil ?_ | refine L.p rfl rfl ?_ | refine L.skip rfl ?_)
    refine L.bd #[.int .i64 n] rfl rfl rfl rfl rfl ?_
    repeat (first | refine W.seq ?_ | refine W.block ?_ | refine W.reg ?_ | refine W.skip ?_ | refine W.exit ?_ | refine W.ret ?_ | refine L.nil ?_ | refine L.p rfl rfl ?_ | refine L.skip rfl ?_)
    refine L.panic rfl rfl ?_
    exact ⟨rfl, rfl, rfl⟩
  · subst h
    repeat (first | refine W.seq ?_ | refine W.block ?_ | refine W.reg ?_ | refine W.skip ?_ | refine W.exit ?_ | refine W.ret ?_ | refine L.nil ?_ | refine L.p rfl rfl ?_ | refine L.skip rfl ?_)
    exact ⟨_, rfl, rfl, rfl⟩
end Go.Proofs.Ytccdlijohkljcaa

/- Bytes out of numbers: plain laws. Conditions: none. -/
set_option linter.unusedSimpArgs false
set_option linter.unusedVariables false
namespace Go.Proofs.Ytccdlijohkljcaa
open Go

def byteAt (n k : Nat) : BitVec 8 := BitVec.ofNat 8 (n / 256 ^ k)
/-- how many bytes -/
def bsz (n : Nat) : Nat := (blen n + 7) / 8
/-- a number's bytes, the highest first -/
def toB (n : Nat) : BL := (List.range (bsz n)).map fun i => byteAt n (bsz n - 1 - i)
theorem toB_len (n : Nat) : (toB n).length = bsz n := by simp [toB]
theorem byte_limb {l : WL} {k : Nat} {x : BitVec 64} (h : l[k / 8]? = some x) : (x >>> (8 * (k % 8))).setWidth 8 = byteAt (wnum l) k := by
  have hx := limb_get h
  apply BitVec.eq_of_toNat_eq
  rw [BitVec.toNat_setWidth, BitVec.toNat_ushiftRight, Nat.shiftRight_eq_div_pow, hx]
  unfold byteAt
  rw [BitVec.toNat_ofNat, p256, show 8 * k = 64 * (k / 8) + 8 * (k % 8) by omega, Nat.pow_add, ← Nat.div_div_eq_div_mul]
  generalize wnum l / 2 ^ (64 * (k / 8)) = z
  have h8 : (2 : Nat) ^ 64 = 2 ^ (8 * (k % 8)) * 2 ^ (64 - 8 * (k % 8)) := by rw [← Nat.pow_add]; congr 1; omega
  rw [h8, Nat.mod_mul_right_div_self]
  exact Nat.mod_mod_of_dvd _ (Nat.pow_dvd_pow 2 (by omega))
theorem limb_in {l : WL} {k : Nat} (hl : Canon l) (h : k < bsz (wnum l)) : k / 8 < l.length := by
  have hl' := toW_wnum hl
  rcases Nat.lt_or_ge (k / 8) l.length with h1 | h1
  · exact h1
  · have h2 := wnum_lt l
    have h3 : wnum l < 2 ^ (64 * (k / 8)) := Nat.lt_of_lt_of_le h2 (Nat.pow_le_pow_right (by decide) (by omega))
    have h4 := blen_le.2 h3
    unfold bsz at h
    omega
theorem byte_zero {n k : Nat} (h : bsz n ≤ k) : byteAt n k = 0#8 := by
  unfold byteAt
  have h1 : blen n ≤ 8 * k := by unfold bsz at h; omega
  have h2 := blen_le.1 h1
  rw [← p256] at h2
  rw [Nat.div_eq_of_lt h2]
theorem byte_top {n : Nat} (h : 0 < bsz n) : byteAt n (bsz n - 1) ≠ 0#8 := by
  intro h0
  have h1 := congrArg BitVec.toNat h0
  unfold byteAt at h1
  rw [BitVec.toNat_ofNat] at h1
  have h2 : ¬ blen n ≤ 8 * (bsz n - 1) := by unfold bsz at h ⊢; omega
  have h3 : 2 ^ (8 * (bsz n - 1)) ≤ n := Nat.le_of_not_lt fun h4 => h2 (blen_le.2 h4)
  have h4 : n < 2 ^ (8 * bsz n) := blen_le.1 (by unfold bsz; omega)
  rw [← p256] at h3 h4
  have h5 : 0 < n / 256 ^ (bsz n - 1) := Nat.div_pos h3 (Nat.pow_pos (by decide))
  have h6 : n / 256 ^ (bsz n - 1) < 256 := Nat.div_lt_of_lt_mul (by rw [← Nat.pow_succ, show (bsz n - 1).succ = bsz n by omega]; exact h4)
  have h7 : n / 256 ^ (bsz n - 1) % 2 ^ 8 = n / 256 ^ (bsz n - 1) := Nat.mod_eq_of_lt h6
  rw [h7] at h1
  simp at h1
  omega
theorem strip0_snoc (l : BL) (c : BitVec 8) : strip0 (l ++ [c]) = if c ≠ 0#8 ∨ 0 < (strip0 l).length then strip0 l ++ [c] else [] := by
  induction l with
  | nil =>
    unfold strip0
    by_cases h : c = 0#8
    · subst h; rfl
    · rw [if_pos (.inl h)]
      simp [h]
  | cons x l ih =>
    rw [List.cons_append]
    unfold strip0 at ih ⊢
    by_cases hx : x = 0#8
    · rw [List.dropWhile_cons_of_pos (by simp [hx]), List.dropWhile_cons_of_pos (by simp [hx])]
      exact ih
    · rw [List.dropWhile_cons_of_neg (by simp [hx]), List.dropWhile_cons_of_neg (by simp [hx])]
      rw [if_pos (.inr (by simp))]; rfl
/-- the first t of the L bytes that a number is laid out in -/
def lead (n L t : Nat) : BL := (List.range t).map fun s => byteAt n (L - 1 - s)
theorem lead_succ (n L t : Nat) : lead n L (t + 1) = lead n L t ++ [byteAt n (L - 1 - t)] := by simp [lead, List.range_succ]
theorem strip0_zeros (k : Nat) (l : BL) : strip0 (List.replicate k 0#8 ++ l) = strip0 l := by
  induction k with
  | zero => rfl
  | succ k ih =>
    rw [List.replicate_succ, List.cons_append]
    unfold strip0 at ih ⊢
    rw [List.dropWhile_cons_of_pos (by simp)]
    exact ih
theorem lead_all {n L : Nat} (h : bsz n ≤ L) : strip0 (lead n L L) = toB n := by
  have h1 : lead n L L = List.replicate (L - bsz n) 0#8 ++ toB n := by
    apply List.ext_getElem?
    intro i
    rw [List.getElem?_append, List.getElem?_replicate]
    unfold lead toB
    simp only [List.getElem?_map, List.length_replicate]
    by_cases hi : i < L - bsz n
    · rw [if_pos hi, if_pos hi, List.getElem?_range (by omega)]
      simp only [Option.map_some]
      rw [byte_zero (by omega)]
    · rw [if_neg hi]
      by_cases hL : i < L
      · rw [List.getElem?_range hL, List.getElem?_range (by omega)]
        simp only [Option.map_some]
        rw [show L - 1 - i = bsz n - 1 - (i - (L - bsz n)) by omega]
      · rw [List.getElem?_eq_none (by simp; omega), List.getElem?_eq_none (by simp; omega)]; rfl
  rw [h1, strip0_zeros]
  have hb := fun h0 => byte_top (n := n) h0
  unfold strip0
  cases hq : toB n with
  | nil => rfl
  | cons x m =>
    have hp : 0 < bsz n := by have := congrArg List.length hq; rw [toB_len] at this; simp at this; omega
    have hx : (toB n)[0]? = some x := by rw [hq]; rfl
    unfold toB at hx
    rw [List.getElem?_map, List.getElem?_range hp] at hx
    simp only [Option.map_some, Nat.sub_zero, Option.some.injEq] at hx
    rw [List.dropWhile_cons_of_neg]
    rw [← hx]
    simpa using hb hp
/-- reading a number's bytes again -/
theorem bnum_toB (n : Nat) : bnum (toB n) = n := by
  have key : ∀ t, t ≤ bsz n → bnum (lead n (bsz n) t) = n / 256 ^ (bsz n - t) := by
    intro t
    induction t with
    | zero =>
      intro _
      have h4 : n < 2 ^ (8 * bsz n) := blen_le.1 (by unfold bsz; omega)
      rw [← p256] at h4
      rw [Nat.sub_zero, Nat.div_eq_of_lt h4]; rfl
    | succ t ih =>
      intro ht
      rw [lead_succ, bnum_app, ih (by omega)]
      simp only [bnum, List.length_singleton, Nat.pow_one, List.length_nil, Nat.pow_zero, Nat.mul_one, Nat.add_zero]
      unfold byteAt
      rw [BitVec.toNat_ofNat, show bsz n - 1 - t = bsz n - (t + 1) by omega, show bsz n - t = (bsz n - (t + 1)) + 1 by omega, Nat.pow_succ, ← Nat.div_div_eq_div_mul]
      generalize n / 256 ^ (bsz n - (t + 1)) = z
      have : (2 : Nat) ^ 8 = 256 := by decide
      rw [this]; omega
  have := key (bsz n) (Nat.le_refl _)
  rw [Nat.sub_self, Nat.pow_zero, Nat.div_one] at this
  exact this
end Go.Proofs.Ytccdlijohkljcaa

/- Layer 7, plainly: an item, an integer, a key's bytes. Conditions: none. -/
set_option linter.unusedSimpArgs false
set_option linter.unusedVariables false
namespace Go.Proofs.Ytccdlijohkljcaa
open Go

def bat (b : BL) (i : Nat) : Nat := (b[i]?.getD 0#8).toNat
theorem bat_of {b : BL} {i : Nat} {x : BitVec 8} (h : b[i]? = some x) : bat b i = x.toNat := by unfold bat; rw [h]; rfl
theorem bat_lt (b : BL) (i : Nat) : bat b i < 256 := (b[i]?.getD 0#8).isLt
theorem bat_some {b : BL} {i : Nat} (h : i < b.length) : ∃ x, b[i]? = some x ∧ bat b i = x.toNat := ⟨_, List.getElem?_eq_getElem h, bat_of (List.getElem?_eq_getElem h)⟩
theorem bat_drop (b : BL) (k i : Nat) : bat (b.drop k) i = bat b (k + i) := by unfold bat; rw [List.getElem?_drop]
/-- a long form's length -/
def lenN (b : BL) : Nat := bnum ((b.drop 2).take (bat b 1 - 128))
/-- the item that bytes begin with: how long its head is, how long its content; or the error -/
def itemS (b : BL) : Except Int (Nat × Nat) :=
  if b.length < 2 then .error 70
  else if bat b 1 = 128 ∨ 132 < bat b 1 then .error 72
  else if bat b 1 < 128 then (if b.length - 2 < bat b 1 then .error 70 else .ok (2, bat b 1))
  else if b.length - 2 < bat b 1 - 128 then .error 70
  else if bat b 2 = 0 ∨ lenN b < 128 then .error 72
  else if b.length - 2 - (bat b 1 - 128) < lenN b then .error 70
  else .ok (2 + (bat b 1 - 128), lenN b)
theorem itemS_ok {b : BL} {h n : Nat} (e : itemS b = .ok (h, n)) : 2 ≤ h ∧ h ≤ 6 ∧ h + n ≤ b.length := by
  unfold itemS at e
  by_cases h1 : b.length < 2
  · rw [if_pos h1] at e; cases e
  rw [if_neg h1] at e
  by_cases h2 : bat b 1 = 128 ∨ 132 < bat b 1
  · rw [if_pos h2] at e; cases e
  rw [if_neg h2] at e
  by_cases h3 : bat b 1 < 128
  · rw [if_pos h3] at e
    by_cases h4 : b.length - 2 < bat b 1
    · rw [if_pos h4] at e; cases e
    · rw [if_neg h4] at e; simp only [Except.ok.injEq, Prod.mk.injEq] at e; omega
  rw [if_neg h3] at e
  by_cases h4 : b.length - 2 < bat b 1 - 128
  · rw [if_pos h4] at e; cases e
  rw [if_neg h4] at e
  by_cases h5 : bat b 2 = 0 ∨ lenN b < 128
  · rw [if_pos h5] at e; cases e
  rw [if_neg h5] at e
  by_cases h6 : b.length - 2 - (bat b 1 - 128) < lenN b
  · rw [if_pos h6] at e; cases e
  · rw [if_neg h6] at e; simp only [Except.ok.injEq, Prod.mk.injEq] at e; omega
theorem lenN_lt {b : BL} (h : bat b 1 ≤ 132) : lenN b < 4294967296 := by
  unfold lenN
  have h1 := bnum_lt ((b.drop 2).take (bat b 1 - 128))
  have h2 : ((b.drop 2).take (bat b 1 - 128)).length ≤ 4 := by rw [List.length_take]; omega
  have h3 : 256 ^ ((b.drop 2).take (bat b 1 - 128)).length ≤ 256 ^ 4 := Nat.pow_le_pow_right (by decide) h2
  omega
theorem bnum_snoc (l : BL) (x : BitVec 8) : bnum (l ++ [x]) = bnum l * 256 + x.toNat := by
  rw [bnum_app]; simp [bnum]
theorem or_byte {n : Nat} {c : BitVec 8} (hn : n < 36028797018963968) : IntKind.i64.wrap ((BitVec.ofInt IntKind.i64.bits (IntKind.i64.wrap ((n : Int) * 2 ^ 8)) ||| BitVec.ofInt IntKind.i64.bits (IntKind.i64.wrap (c.toNat : Int))).toNat : Int) = ((n * 256 + c.toNat : Nat) : Int) := by
  have hc := c.isLt
  have e1 : IntKind.i64.wrap ((n : Int) * 2 ^ 8) = ((n * 256 : Nat) : Int) := by rw [wrap64 (by omega) (by omega)]; omega
  have e2 : IntKind.i64.wrap (c.toNat : Int) = ((c.toNat : Nat) : Int) := by rw [wrap64 (by omega) (by omega)]
  rw [e1, e2]
  have e3 : ∀ m : Nat, m < 2 ^ 64 → (BitVec.ofInt IntKind.i64.bits (m : Int)).toNat = m := fun m hm => by
    show (BitVec.ofInt 64 (m : Int)).toNat = m
    rw [BitVec.ofInt_natCast, BitVec.toNat_ofNat]; exact Nat.mod_eq_of_lt hm
  rw [BitVec.toNat_or, e3 _ (by omega), e3 _ (by omega)]
  have e4 : n * 256 ||| c.toNat = n * 256 + c.toNat := by
    have h := (Nat.two_pow_add_eq_or_of_lt (i := 8) (b := c.toNat) hc n).symm
    rw [Nat.mul_comm] at h
    exact h
  rw [e4, wrap64 (by omega) (by omega)]
end Go.Proofs.Ytccdlijohkljcaa

/- Layer 7: the item that bytes begin with. Conditions: none. -/
set_option linter.unusedSimpArgs false
set_option linter.unusedVariables false
set_option maxRecDepth 100000
namespace Go.Proofs.Ytccdlijohkljcaa
open Go
variable {G : Nat} {Ext : FuncId → List Value → Mem → Outc → Mem → Prop}

section
variable {e : Env} {S : Mem} {fl : Bool} {ops : Array Oper} {K : Kont}
variable {rest : List Oper} {dst : Option Tmp} {ty : TypeId} {pos : String} {af : Array Edge} {gd : Option (Nat × Bool)}
theorem L.fail {op : Op} {so : Bool} {n : Int} (hw : awanted ops ⟨dst, op, ty, pos, af, gd⟩ e = true) (hc : acall ⟨dst, op, ty, pos, af, gd⟩ e.eval = some (39, [.bool so, .int .i64 n]))
    (h1 : so = true → K.pan (faultV n) e S) (h2 : so = false → L Try.prog G Ext fl ops rest (e.put dst (.tuple #[])) S K) : L Try.prog G Ext fl ops (⟨dst, op, ty, pos, af, gd⟩ :: rest) e S K := by
  refine L.co (fail_C so n S) hw hc ?_
  rintro _ _ ⟨rfl, rfl⟩
  cases so with
  | true => exact h1 rfl
  | false => exact ⟨fun _ => Cons.refl _, h2 rfl⟩
end
theorem BIn.partT {S : Mem} {a : Option Addr} {c k h : Nat} {l : BL} {lo hi : Option Value} (hI : BIn S a c l) (hl : LoIs lo k) (hh : HiIs hi l.length h) (hk : k ≤ h) (hn : h ≤ l.length) :
    ∃ a' c', aslice 1 a l.length c lo hi none = some (.slice a' ((l.drop k).take (h - k)).length c') ∧ ∀ T, BIn T a c l → BIn T a' c' ((l.drop k).take (h - k)) := by
  obtain ⟨a', c', h1, h2⟩ := hI.part hl hh hk hn
  refine ⟨a', c', h1, fun T hT => ?_⟩
  obtain ⟨a2, c2, h3, h4⟩ := hT.part hl hh hk hn
  rw [h1] at h3
  simp only [Option.some.injEq, Value.slice.injEq] at h3
  obtain ⟨rfl, _, rfl⟩ := h3
  exact h4
theorem BIn.fromT {S : Mem} {a : Option Addr} {c k : Nat} {l : BL} {lv : Value} {kd : IntKind} (hI : BIn S a c l) (hl : lv = .int kd (k : Int)) (hk : k ≤ l.length) :
    ∃ a' c', aslice 1 a l.length c (some lv) none none = some (.slice a' (l.drop k).length c') ∧ ∀ T, BIn T a c l → BIn T a' c' (l.drop k) := by
  subst hl
  obtain ⟨a', c', h1, h2⟩ := hI.partT (.inr ⟨kd, rfl⟩) (.inl ⟨rfl, rfl⟩) hk (Nat.le_refl _)
  rw [List.take_of_length_le (by rw [List.length_drop]; omega)] at h1 h2
  exact ⟨a', c', h1, h2⟩
/-- how the item's reader ends -/
def ItemR (S : Mem) (a : Option Addr) (c : Nat) (b : BL) (o : Outc) (S' : Mem) : Prop := S' = S ∧ match itemS b with
  | .error e => o = .pan (faultV e)
  | .ok (h, n) => ∃ t a1 c1 a2 c2, b[0]? = some t ∧ o = .ret (.tuple #[v8 t, .slice a1 n c1, .slice a2 (b.length - (h + n)) c2]) ∧ (∀ T, BIn T a c b → BIn T a1 c1 ((b.drop h).take n)) ∧ ∀ T, BIn T a c b → BIn T a2 c2 (b.drop (h + n))
theorem itemR_err {S : Mem} {a : Option Addr} {c : Nat} {b : BL} {e : Int} (h : itemS b = .error e) : ItemR S a c b (.pan (faultV e)) S := ⟨rfl, by rw [h]⟩
theorem itemOk {S : Mem} {b m : BL} {h n : Nat} {t : BitVec 8} {a a1 a2 : Option Addr} {c c1 c2 : Nat} (hi : itemS b = .ok (h, n)) (ht : b[0]? = some t) (hm : m = b.drop h) (p1 : ∀ T, BIn T a c b → BIn T a1 c1 (m.take n)) (p2 : ∀ T, BIn T a c b → BIn T a2 c2 (m.drop n)) :
    ItemR S a c b (.ret (.tuple #[v8 t, .slice a1 n c1, .slice a2 (m.length - n) c2])) S := by
  refine ⟨rfl, ?_⟩
  rw [hi]
  subst hm
  exact ⟨t, a1, c1, a2, c2, ht, by rw [List.length_drop, Nat.sub_sub], p1, by simpa only [List.drop_drop] using p2⟩
theorem item_C (a : Option Addr) (c : Nat) (b : BL) (S : Mem) (hI : BIn S a c b) : CO Try.prog G Ext 38 [.slice a b.length c] S (ItemR S a c b) := by
  refine CO.fn Try.func38 rfl (by kernel_rfl) rfl ?_
  have hbl := hI.2.2
  repeat (first | refine W.seq ?_ | refine W.block ?_ | refine W.reg ?_ | refine W.skip ?_ | refine W.exit ?_ | refine W.ret ?_ | refine L.nil ?_ | refine L.p rfl rfl ?_ | refine L.skip rfl ?_)
  refine L.fail (so := decide ((b.length : Int) < 2)) rfl rfl (fun h => ?_) (fun h => ?_)
  · exact ⟨rfl, itemR_err (S := S) (b := b) (by unfold itemS; rw [if_pos (by have := of_decide_eq_true h; omega)])⟩
  have h2 : 2 ≤ b.length := by have := of_decide_eq_false h; omega
  clear h
  obtain ⟨t, ht, ht'⟩ := bat_some (b := b) (i := 0) (by omega)
  obtain ⟨x, hx, hx'⟩ := bat_some (b := b) (i := 1) (by omega)
  have hxl := x.isLt
  repeat (first | refine W.seq ?_ | refine W.block ?_ | refine W.reg ?_ | refine W.skip ?_ | refine W.exit ?_ | refine W.ret ?_ | refine L.nil ?_ | refine L.p rfl rfl ?_ | refine L.skip rfl ?_)
  refine L.el hI.1 (k := 0) rfl (bv_get ht) rfl rfl rfl rfl (fun _ => rfl) rfl (fun p => ?_)
  repeat (first | refine W.seq ?_ | refine W.block ?_ | refine W.reg ?_ | refine W.skip ?_ | refine W.exit ?_ | refine W.ret ?_ | refine L.nil ?_ | refine L.p rfl rfl ?_ | refine L.skip rfl ?_)
  refine L.el hI.1 (k := 1) rfl (bv_get hx) rfl rfl rfl rfl (fun _ => rfl) rfl (fun p => ?_)
  repeat (first | refine W.seq ?_ | refine W.block ?_ | refine W.reg ?_ | refine W.skip ?_ | refine W.exit ?_ | refine W.ret ?_ | refine L.nil ?_ | refine L.p rfl rfl ?_ | refine L.skip rfl ?_)
  rw [wrap64 (x := (x.toNat : Int)) (by omega) (by omega)]
  obtain ⟨a1, c1, q1, q2⟩ := hI.fromT (lv := .int .i64 2) (k := 2) rfl h2
  refine L.is (.slice a1 (b.drop 2).length c1) ((slice_at0 rfl rfl rfl).trans q1) rfl ?_
  have hl1 : (b.drop 2).length = b.length - 2 := List.length_drop
  repeat (first | refine W.seq ?_ | refine W.block ?_ | refine W.reg ?_ | refine W.skip ?_ | refine W.exit ?_ | refine W.ret ?_ | refine L.nil ?_ | refine L.p rfl rfl ?_ | refine L.skip rfl ?_)
  cases hq : ((x.toNat : Int) == 128)
  rotate_left
  · have hx8 : x.toNat = 128 := by have : (x.toNat : Int) = 128 := by simpa using hq
                                   omega
    repeat (first | refine W.seq ?_ | refine W.block ?_ | refine W.reg ?_ | refine W.skip ?_ | refine W.exit ?_ | refine W.ret ?_ | refine L.nil ?_ | refine L.p rfl rfl ?_ | refine L.skip rfl ?_)
    refine L.fail (so := true) rfl rfl (fun h => ?_) (fun h => ?_)
    · exact ⟨rfl, itemR_err (S := S) (b := b) (by unfold itemS; rw [if_neg (by omega), if_pos (by omega)])⟩
    · cases h
  have hx8 : x.toNat ≠ 128 := by
    have : ¬ (x.toNat : Int) = 128 := by simpa using hq
    omega
  repeat (first | refine W.seq ?_ | refine W.block ?_ | refine W.reg ?_ | refine W.skip ?_ | refine W.exit ?_ | refine W.ret ?_ | refine L.nil ?_ | refine L.p rfl rfl ?_ | refine L.skip rfl ?_)
  refine L.fail (so := decide ((x.toNat : Int) > 132)) rfl rfl (fun h => ?_) (fun h => ?_)
  · exact ⟨rfl, itemR_err (S := S) (b := b) (by unfold itemS; rw [if_neg (by omega), if_pos (by have := of_decide_eq_true h; omega)])⟩
  have hx4 : x.toNat ≤ 132 := by have := of_decide_eq_false h; omega
  clear h hq
  repeat (first | refine W.seq ?_ | refine W.block ?_ | refine W.reg ?_ | refine W.skip ?_ | refine W.exit ?_ | refine W.ret ?_ | refine L.nil ?_ | refine L.p rfl rfl ?_ | refine L.skip rfl ?_)
  refine W.ite rfl (fun h => ?_) (fun h => ?_)
  rotate_left
  · have hx7 : x.toNat < 128 := by have := of_decide_eq_false h; omega
    clear h
    repeat (first | refine W.seq ?_ | refine W.block ?_ | refine W.reg ?_ | refine W.skip ?_ | refine W.exit ?_ | refine W.ret ?_ | refine L.nil ?_ | refine L.p rfl rfl ?_ | refine L.skip rfl ?_)
    refine L.fail (so := decide ((((b.drop 2)).length : Int) < ((x.toNat : Nat) : Int))) rfl rfl (fun h => ?_) (fun h => ?_)
    · exact ⟨rfl, itemR_err (S := S) (b := b) ((fun h7 => by unfold itemS; rw [if_neg (by omega), if_neg (by omega), if_pos (by omega), if_pos (by omega)]) (by have := of_decide_eq_true h; omega))⟩
    have hle : x.toNat ≤ ((b.drop 2)).length := by have := of_decide_eq_false h; omega
    clear h
    repeat (first | refine W.seq ?_ | refine W.block ?_ | refine W.reg ?_ | refine W.skip ?_ | refine W.exit ?_ | refine W.ret ?_ | refine L.nil ?_ | refine L.p rfl rfl ?_ | refine L.skip rfl ?_)
    obtain ⟨y2, w2, z1, z2⟩ := (q2 S hI).partT (k := 0) (h := x.toNat) (.inl ⟨rfl, rfl⟩) (.inr ⟨.i64, rfl⟩) (Nat.zero_le _) hle
    obtain ⟨y3, w3, z3, z4⟩ := (q2 S hI).fromT (lv := .int .i64 ((x.toNat : Nat) : Int)) (k := x.toNat) rfl hle
    have hl2 : ((((b.drop 2)).drop 0).take (x.toNat - 0)).length = x.toNat := by rw [List.length_take, List.length_drop]; omega
    rw [hl2] at z1
    rw [show (((b.drop 2)).drop x.toNat).length = ((b.drop 2)).length - x.toNat from List.length_drop] at z3
    refine L.is (.slice y2 x.toNat w2) ((slice_at0 rfl rfl rfl).trans z1) rfl ?_
    repeat (first | refine W.seq ?_ | refine W.block ?_ | refine W.reg ?_ | refine W.skip ?_ | refine W.exit ?_ | refine W.ret ?_ | refine L.nil ?_ | refine L.p rfl rfl ?_ | refine L.skip rfl ?_)
    refine L.is (.slice y3 (((b.drop 2)).length - x.toNat) w3) ((slice_at0 rfl rfl rfl).trans z3) rfl ?_
    repeat (first | refine W.seq ?_ | refine W.block ?_ | refine W.reg ?_ | refine W.skip ?_ | refine W.exit ?_ | refine W.ret ?_ | refine L.nil ?_ | refine L.p rfl rfl ?_ | refine L.skip rfl ?_)
    exact ⟨_, rfl, (fun a2 c2 a3 c3 hle p1 p2 => itemOk (by unfold itemS; rw [if_neg (by omega), if_neg (by omega), if_pos (by omega), if_neg (by omega), hx']) ht rfl p1 p2) y2 w2 y3 w3 hle (fun T h => by have := z2 T (q2 T h); rw [List.drop_zero, Nat.sub_zero] at this; exact this) (fun T h => z4 T (q2 T h))⟩
  have hx7 : 128 < x.toNat := by have := of_decide_eq_true h; omega
  clear h
  obtain ⟨k, hk⟩ : ∃ k, k = x.toNat - 128 := ⟨_, rfl⟩
  have hk4 : k ≤ 4 := by omega
  repeat (first | refine W.seq ?_ | refine W.block ?_ | refine W.reg ?_ | refine W.skip ?_ | refine W.exit ?_ | refine W.ret ?_ | refine L.nil ?_ | refine L.p rfl rfl ?_ | refine L.skip rfl ?_)
  rw [show IntKind.i64.wrap ((x.toNat : Int) - 128) = (k : Int) by rw [wrap64 (by omega) (by omega)]; omega]
  repeat (first | refine W.seq ?_ | refine W.block ?_ | refine W.reg ?_ | refine W.skip ?_ | refine W.exit ?_ | refine W.ret ?_ | refine L.nil ?_ | refine L.p rfl rfl ?_ | refine L.skip rfl ?_)
  refine L.fail (so := decide (((b.drop 2).length : Int) < (k : Int))) rfl rfl (fun h => ?_) (fun h => ?_)
  · exact ⟨rfl, itemR_err (S := S) (b := b) (by unfold itemS; rw [if_neg (by omega), if_neg (by omega), if_neg (by omega), if_pos (by have := of_decide_eq_true h; omega)])⟩
  have hkl : k ≤ (b.drop 2).length := by have := of_decide_eq_false h; omega
  clear h
  repeat (first | refine W.seq ?_ | refine W.block ?_ | refine W.reg ?_ | refine W.skip ?_ | refine W.exit ?_ | refine W.ret ?_ | refine L.nil ?_ | refine L.p rfl rfl ?_ | refine L.skip rfl ?_)
  obtain ⟨a4, c4, z1, z2⟩ := (q2 S hI).part (k := 0) (h := k) (.inl ⟨rfl, rfl⟩) (.inr ⟨.i64, rfl⟩) (Nat.zero_le _) hkl
  have hd0 : ((b.drop 2).drop 0).take (k - 0) = (b.drop 2).take k := by rw [List.drop_zero, Nat.sub_zero]
  rw [hd0] at z1 z2
  obtain ⟨m, hm⟩ : ∃ m, m = (b.drop 2).take k := ⟨_, rfl⟩
  have hml : m.length = k := by rw [hm, List.length_take]; omega
  rw [← hm] at z1 z2
  refine L.is (.slice a4 m.length c4) ((slice_at0 rfl rfl rfl).trans z1) rfl ?_
  repeat (first | refine W.seq ?_ | refine W.block ?_ | refine W.reg ?_ | refine W.skip ?_ | refine W.exit ?_ | refine W.ret ?_ | refine L.nil ?_ | refine L.p rfl rfl ?_ | refine L.skip rfl ?_)
  refine W.loop (fun j e T => ∃ i, j = m.length - i ∧ i ≤ m.length ∧ S = T ∧ e 0 = .slice a1 (b.drop 2).length c1 ∧ e 5 = v8 t ∧ e 6 = vi (bnum (m.take i)) ∧ e 7 = vi k ∧ e 41 = .slice a4 m.length c4 ∧ e 42 = vi m.length ∧ e 43 = vi i) m.length
    ⟨0, by omega, by omega, rfl, rfl, rfl, rfl, rfl, rfl, rfl, rfl⟩ ?_
  rintro j e T ⟨i, rfl, hi, rfl, e0, e5, e6, e7, e41, e42, e43⟩
  refine W.env7 e0 e5 e6 e7 e41 e42 e43 ?_
  have hbn := bnum_lt (m.take i)
  have hbn2 : 256 ^ (m.take i).length ≤ 256 ^ 4 := Nat.pow_le_pow_right (by decide) (by rw [List.length_take]; omega)
  repeat (first | refine W.seq ?_ | refine W.block ?_ | refine W.reg ?_ | refine W.skip ?_ | refine W.exit ?_ | refine W.ret ?_ | refine L.nil ?_ | refine L.p rfl rfl ?_ | refine L.skip rfl ?_)
  refine W.ite rfl (fun h => ?_) (fun h => ?_)
  · have hin : i < m.length := by have := of_decide_eq_true h; omega
    clear h
    obtain ⟨cc, hcc⟩ : ∃ cc, m[i]? = some cc := ⟨_, List.getElem?_eq_getElem hin⟩
    repeat (first | refine W.seq ?_ | refine W.block ?_ | refine W.reg ?_ | refine W.skip ?_ | refine W.exit ?_ | refine W.ret ?_ | refine L.nil ?_ | refine L.p rfl rfl ?_ | refine L.skip rfl ?_)
    refine L.el z2.1 rfl (bv_get hcc) rfl rfl rfl rfl (fun _ => rfl) rfl (fun p => ?_)
    repeat (first | refine W.seq ?_ | refine W.block ?_ | refine W.reg ?_ | refine W.skip ?_ | refine W.exit ?_ | refine W.ret ?_ | refine L.nil ?_ | refine L.p rfl rfl ?_ | refine L.skip rfl ?_)
    refine ⟨m.length - (i + 1), by omega, i + 1, rfl, by omega, rfl, rfl, rfl, ?_, rfl, rfl, rfl, ?_⟩
    · refine (force_eq rfl).trans ?_
      rw [List.take_add_one, hcc]
      show _ = vi (bnum (m.take i ++ [cc]))
      rw [bnum_snoc]
      exact congrArg (Value.int .i64) (or_byte (n := bnum (m.take i)) (c := cc) (by omega))
    · refine (force_eq rfl).trans ?_
      rw [wrap64 (by omega) (by omega)]; rfl
  have hin : i = m.length := by have := of_decide_eq_false h; omega
  subst hin
  clear h
  rw [List.take_length]
  have hN : lenN b = bnum m := by unfold lenN; rw [hx', ← hk, hm]
  have hmb := lenN_lt (b := b) (by omega)
  obtain ⟨n, hn⟩ : ∃ n, n = bnum m := ⟨_, rfl⟩
  rw [← hn] at hN ⊢
  clear hbn hbn2
  obtain ⟨y, hy, hy'⟩ := bat_some (b := b) (i := 2) (by omega)
  have hyl := y.isLt
  have hyd : (b.drop 2)[0]? = some y := by rw [List.getElem?_drop]; exact hy
  repeat (first | refine W.seq ?_ | refine W.block ?_ | refine W.reg ?_ | refine W.skip ?_ | refine W.exit ?_ | refine W.ret ?_ | refine L.nil ?_ | refine L.p rfl rfl ?_ | refine L.skip rfl ?_)
  refine L.el (q2 S hI).1 (k := 0) rfl (bv_get hyd) rfl rfl rfl rfl (fun _ => rfl) rfl (fun p => ?_)
  repeat (first | refine W.seq ?_ | refine W.block ?_ | refine W.reg ?_ | refine W.skip ?_ | refine W.exit ?_ | refine W.ret ?_ | refine L.nil ?_ | refine L.p rfl rfl ?_ | refine L.skip rfl ?_)
  cases hq : ((y.toNat : Int) == 0)
  rotate_left
  · have hy0 : y.toNat = 0 := by have : (y.toNat : Int) = 0 := by simpa using hq
                                 omega
    repeat (first | refine W.seq ?_ | refine W.block ?_ | refine W.reg ?_ | refine W.skip ?_ | refine W.exit ?_ | refine W.ret ?_ | refine L.nil ?_ | refine L.p rfl rfl ?_ | refine L.skip rfl ?_)
    refine L.fail (so := true) rfl rfl (fun h => ?_) (fun h => ?_)
    · exact ⟨rfl, itemR_err (S := S) (b := b) (by unfold itemS; rw [if_neg (by omega), if_neg (by omega), if_neg (by omega), if_neg (by omega), if_pos (by omega)])⟩
    · cases h
  have hy0 : y.toNat ≠ 0 := by
    have : ¬ (y.toNat : Int) = 0 := by simpa using hq
    omega
  repeat (first | refine W.seq ?_ | refine W.block ?_ | refine W.reg ?_ | refine W.skip ?_ | refine W.exit ?_ | refine W.ret ?_ | refine L.nil ?_ | refine L.p rfl rfl ?_ | refine L.skip rfl ?_)
  refine L.fail (so := decide ((n : Int) < 128)) rfl rfl (fun h => ?_) (fun h => ?_)
  · exact ⟨rfl, itemR_err (S := S) (b := b) (by unfold itemS; rw [if_neg (by omega), if_neg (by omega), if_neg (by omega), if_neg (by omega), if_pos (by have := of_decide_eq_true h; omega)])⟩
  have hn7 : 128 ≤ n := by have := of_decide_eq_false h; omega
  clear h hq
  repeat (first | refine W.seq ?_ | refine W.block ?_ | refine W.reg ?_ | refine W.skip ?_ | refine W.exit ?_ | refine W.ret ?_ | refine L.nil ?_ | refine L.p rfl rfl ?_ | refine L.skip rfl ?_)
  obtain ⟨a5, c5, u1, u2⟩ := (q2 S hI).fromT (lv := .int .i64 (k : Int)) (k := k) rfl hkl
  refine L.is (.slice a5 ((b.drop 2).drop k).length c5) ((slice_at0 rfl rfl rfl).trans u1) rfl ?_
  have hl5 : ((b.drop 2).drop k).length = b.length - 2 - k := by rw [List.length_drop, List.length_drop]
  have hd5 : (b.drop 2).drop k = b.drop (2 + k) := List.drop_drop
  repeat (first | refine W.seq ?_ | refine W.block ?_ | refine W.reg ?_ | refine W.skip ?_ | refine W.exit ?_ | refine W.ret ?_ | refine L.nil ?_ | refine L.p rfl rfl ?_ | refine L.skip rfl ?_)
  refine L.fail (so := decide (((((b.drop 2).drop k)).length : Int) < ((n : Nat) : Int))) rfl rfl (fun h => ?_) (fun h => ?_)
  · exact ⟨rfl, itemR_err (S := S) (b := b) ((fun h7 => by unfold itemS; rw [if_neg (by omega), if_neg (by omega), if_neg (by omega), if_neg (by omega), if_neg (by omega), if_pos (by omega)]) (by have := of_decide_eq_true h; omega))⟩
  have hle : n ≤ (((b.drop 2).drop k)).length := by have := of_decide_eq_false h; omega
  clear h
  repeat (first | refine W.seq ?_ | refine W.block ?_ | refine W.reg ?_ | refine W.skip ?_ | refine W.exit ?_ | refine W.ret ?_ | refine L.nil ?_ | refine L.p rfl rfl ?_ | refine L.skip rfl ?_)
  obtain ⟨y2, w2, z1, z2⟩ := ((fun T h => u2 T (q2 T h)) S hI).partT (k := 0) (h := n) (.inl ⟨rfl, rfl⟩) (.inr ⟨.i64, rfl⟩) (Nat.zero_le _) hle
  obtain ⟨y3, w3, z3, z4⟩ := ((fun T h => u2 T (q2 T h)) S hI).fromT (lv := .int .i64 ((n : Nat) : Int)) (k := n) rfl hle
  have hl2 : (((((b.drop 2).drop k)).drop 0).take (n - 0)).length = n := by rw [List.length_take, List.length_drop]; omega
  rw [hl2] at z1
  rw [show ((((b.drop 2).drop k)).drop n).length = (((b.drop 2).drop k)).length - n from List.length_drop] at z3
  refine L.is (.slice y2 n w2) ((slice_at0 rfl rfl rfl).trans z1) rfl ?_
  repeat (first | refine W.seq ?_ | refine W.block ?_ | refine W.reg ?_ | refine W.skip ?_ | refine W.exit ?_ | refine W.ret ?_ | refine L.nil ?_ | refine L.p rfl rfl ?_ | refine L.skip rfl ?_)
  refine L.is (.slice y3 ((((b.drop 2).drop k)).length - n) w3) ((slice_at0 rfl rfl rfl).trans z3) rfl ?_
  repeat (first | refine W.seq ?_ | refine W.block ?_ | refine W.reg ?_ | refine W.skip ?_ | refine W.exit ?_ | refine W.ret ?_ | refine L.nil ?_ | refine L.p rfl rfl ?_ | refine L.skip rfl ?_)
  exact ⟨_, rfl, (fun a2 c2 a3 c3 hle p1 p2 => itemOk (by unfold itemS; rw [if_neg (by omega), if_neg (by omega), if_neg (by omega), if_neg (by omega), if_neg (by omega), if_neg (by omega), hx', hN, ← hk]) ht hd5 p1 p2) y2 w2 y3 w3 hle (fun T h => by have := z2 T ((fun T h => u2 T (q2 T h)) T h); rw [List.drop_zero, Nat.sub_zero] at this; exact this) (fun T h => z4 T ((fun T h => u2 T (q2 T h)) T h))⟩
end Go.Proofs.Ytccdlijohkljcaa

/- Layer 7: an integer's number. Conditions: none. -/
set_option linter.unusedSimpArgs false
set_option linter.unusedVariables false
set_option maxRecDepth 100000
namespace Go.Proofs.Ytccdlijohkljcaa
open Go
variable {G : Nat} {Ext : FuncId → List Value → Mem → Outc → Mem → Prop}

/-- bytes that are no integer's content -/
def badInt (b : BL) : Prop := b.length = 0 ∨ 128 ≤ bat b 0 ∨ (1 < b.length ∧ bat b 0 = 0 ∧ bat b 1 < 128)
instance (b : BL) : Decidable (badInt b) := by unfold badInt; infer_instance
/-- the number that an integer's content tells; or the error -/
def numS (b : BL) : Except Int WL :=
  if badInt b then .error 73 else if fromE b ≠ 0 ∨ 4096 < blen (bnum b) then .error 3 else .ok (toW (bnum b))
theorem fromE_ok {b : BL} (h : fromE b = 0) : fromL b = toW (bnum b) := by
  unfold fromE at h; unfold fromL
  split at h
  · rename_i h1; rw [if_pos h1]
  · cases h
/-- the integer that bytes begin with, and what stands behind it; or the error -/
def partS (m : BL) : Except Int (WL × BL) := match itemS m with
  | .error e => .error e
  | .ok (h, n) => if bat m 0 ≠ 2 then .error 71 else match numS ((m.drop h).take n) with
    | .error e => .error e
    | .ok l => .ok (l, m.drop (h + n))
/-- a key's two integers; or the error -/
def keyT (m : BL) : Except Int (WL × WL) := match partS m with
  | .error e => .error e
  | .ok (l1, r1) => match partS r1 with
    | .error e => .error e
    | .ok (l2, r2) => if 0 < r2.length then .error 74 else .ok (l1, l2)
/-- the key that bytes tell; or the error -/
def keyS (b : BL) : Except Int (WL × WL) := match itemS b with
  | .error e => .error e
  | .ok (h, n) => if bat b 0 ≠ 48 then .error 71 else if h + n < b.length then .error 74 else keyT ((b.drop h).take n)
/-- how the reader of a number ends -/
def NumR (S : Mem) (b : BL) (o : Outc) (S' : Mem) : Prop := match numS b with
  | .error e => o = .pan (faultV e) ∧ Cons S S'
  | .ok l => ∃ d : Hd, o = .ret d.v ∧ RetW S S' d l
theorem numR_err {S S' : Mem} {b : BL} {e : Int} (h : numS b = .error e) (k : Cons S S') : NumR S b (.pan (faultV e)) S' := by unfold NumR; rw [h]; exact ⟨rfl, k⟩
theorem numR_ok {S S' : Mem} {b : BL} {l : WL} {d : Hd} (h : numS b = .ok l) (k : RetW S S' d l) : NumR S b (.ret d.v) S' := by unfold NumR; rw [h]; exact ⟨d, rfl, k⟩
theorem number_C (a : Option Addr) (c : Nat) (b : BL) (S : Mem) (hI : BIn S a c b) : CO Try.prog G Ext 40 [.slice a b.length c] S (NumR S b) := by
  refine CO.fn Try.func40 rfl (by kernel_rfl) rfl ?_
  have hbl := hI.2.2
  repeat (first | refine W.seq ?_ | refine W.block ?_ | refine W.reg ?_ | refine W.skip ?_ | refine W.exit ?_ | refine W.ret ?_ | refine L.nil ?_ | refine L.p rfl rfl ?_ | refine L.skip rfl ?_)
  cases hq : ((b.length : Int) == 0)
  rotate_left
  · have h0 : b.length = 0 := by have : (b.length : Int) = 0 := by simpa using hq
                                 omega
    repeat (first | refine W.seq ?_ | refine W.block ?_ | refine W.reg ?_ | refine W.skip ?_ | refine W.exit ?_ | refine W.ret ?_ | refine L.nil ?_ | refine L.p rfl rfl ?_ | refine L.skip rfl ?_)
    refine L.fail (so := true) rfl rfl (fun h => ?_) (fun h => ?_)
    · exact ⟨rfl, numR_err (b := b) (by unfold numS; rw [if_pos (by unfold badInt; omega)]) (Cons.refl _)⟩
    · cases h
  have h0 : b.length ≠ 0 := by
    have : ¬ (b.length : Int) = 0 := by simpa using hq
    omega
  clear hq
  obtain ⟨x, hx, hx'⟩ := bat_some (b := b) (i := 0) (by omega)
  have hxl := x.isLt
  repeat (first | refine W.seq ?_ | refine W.block ?_ | refine W.reg ?_ | refine W.skip ?_ | refine W.exit ?_ | refine W.ret ?_ | refine L.nil ?_ | refine L.p rfl rfl ?_ | refine L.skip rfl ?_)
  refine L.el hI.1 (k := 0) rfl (bv_get hx) rfl rfl rfl rfl (fun _ => rfl) rfl (fun p => ?_)
  repeat (first | refine W.seq ?_ | refine W.block ?_ | refine W.reg ?_ | refine W.skip ?_ | refine W.exit ?_ | refine W.ret ?_ | refine L.nil ?_ | refine L.p rfl rfl ?_ | refine L.skip rfl ?_)
  cases hq : decide ((x.toNat : Int) ≥ 128)
  rotate_left
  · have h1 : 128 ≤ x.toNat := by have := of_decide_eq_true hq; omega
    repeat (first | refine W.seq ?_ | refine W.block ?_ | refine W.reg ?_ | refine W.skip ?_ | refine W.exit ?_ | refine W.ret ?_ | refine L.nil ?_ | refine L.p rfl rfl ?_ | refine L.skip rfl ?_)
    refine L.fail (so := true) rfl rfl (fun h => ?_) (fun h => ?_)
    · exact ⟨rfl, numR_err (b := b) (by unfold numS; rw [if_pos (by unfold badInt; omega)]) (Cons.refl _)⟩
    · cases h
  have h1 : x.toNat < 128 := by have := of_decide_eq_false hq; omega
  clear hq
  repeat (first | refine W.seq ?_ | refine W.block ?_ | refine W.reg ?_ | refine W.skip ?_ | refine W.exit ?_ | refine W.ret ?_ | refine L.nil ?_ | refine L.p rfl rfl ?_ | refine L.skip rfl ?_)
  cases hq : decide ((b.length : Int) > 1)
  · have h2 : b.length ≤ 1 := by have := of_decide_eq_false hq; omega
    clear hq
    repeat (first | refine W.seq ?_ | refine W.block ?_ | refine W.reg ?_ | refine W.skip ?_ | refine W.exit ?_ | refine W.ret ?_ | refine L.nil ?_ | refine L.p rfl rfl ?_ | refine L.skip rfl ?_)
    refine L.fail (so := false) rfl rfl (fun h => ?_) (fun h => ?_)
    · cases h
    clear h
    have hbad : ¬ badInt b := by unfold badInt; omega
    repeat (first | refine W.seq ?_ | refine W.block ?_ | refine W.reg ?_ | refine W.skip ?_ | refine W.exit ?_ | refine W.ret ?_ | refine L.nil ?_ | refine L.p rfl rfl ?_ | refine L.skip rfl ?_)
    refine L.cl (from_C a c b S hI) rfl rfl ?_
    rintro v S1 ⟨d, rfl, hR⟩
    refine ⟨fun _ => hR.1, ?_⟩
    repeat (first | refine W.seq ?_ | refine W.block ?_ | refine W.reg ?_ | refine W.skip ?_ | refine W.exit ?_ | refine W.ret ?_ | refine L.nil ?_ | refine L.p rfl rfl ?_ | refine L.skip rfl ?_)
    cases hq : (fromE b != 0)
    rotate_left
    · have hne : fromE b ≠ 0 := by simpa using hq
      repeat (first | refine W.seq ?_ | refine W.block ?_ | refine W.reg ?_ | refine W.skip ?_ | refine W.exit ?_ | refine W.ret ?_ | refine L.nil ?_ | refine L.p rfl rfl ?_ | refine L.skip rfl ?_)
      refine L.fail (so := true) rfl rfl (fun h => ?_) (fun h => ?_)
      · exact ⟨rfl, numR_err (b := b) (by unfold numS; rw [if_neg hbad, if_pos (.inl hne)]) hR.1⟩
      · cases h
    have he0 : fromE b = 0 := by simpa using hq
    have hfl := fromE_ok he0
    rw [hfl] at hR
    have hW := hR.own
    repeat (first | refine W.seq ?_ | refine W.block ?_ | refine W.reg ?_ | refine W.skip ?_ | refine W.exit ?_ | refine W.ret ?_ | refine L.nil ?_ | refine L.p rfl rfl ?_ | refine L.skip rfl ?_)
    refine L.cl (bits_C _ _ _ S1 hW.1.1) rfl (acall_eq (list1 hW.2)) ?_
    rintro v S2 ⟨rfl, rfl⟩
    refine ⟨fun _ => Cons.refl _, ?_⟩
    rw [wnum_toW]
    repeat (first | refine W.seq ?_ | refine W.block ?_ | refine W.reg ?_ | refine W.skip ?_ | refine W.exit ?_ | refine W.ret ?_ | refine L.nil ?_ | refine L.p rfl rfl ?_ | refine L.skip rfl ?_)
    refine L.fail (so := decide ((blen (bnum b) : Int) > 4096)) rfl rfl (fun h => ?_) (fun h => ?_)
    · exact ⟨rfl, numR_err (b := b) (by unfold numS; rw [if_neg hbad, if_pos (.inr (by have := of_decide_eq_true h; omega))]) hR.1⟩
    have hle : ¬ 4096 < blen (bnum b) := by have := of_decide_eq_false h; omega
    repeat (first | refine W.seq ?_ | refine W.block ?_ | refine W.reg ?_ | refine W.skip ?_ | refine W.exit ?_ | refine W.ret ?_ | refine L.nil ?_ | refine L.p rfl rfl ?_ | refine L.skip rfl ?_)
    exact ⟨_, rfl, numR_ok (by unfold numS; rw [if_neg hbad, if_neg (by omega)]) hR⟩
  have h2 : 1 < b.length := by have := of_decide_eq_true hq; omega
  clear hq
  repeat (first | refine W.seq ?_ | refine W.block ?_ | refine W.reg ?_ | refine W.skip ?_ | refine W.exit ?_ | refine W.ret ?_ | refine L.nil ?_ | refine L.p rfl rfl ?_ | refine L.skip rfl ?_)
  refine L.el hI.1 (k := 0) rfl (bv_get hx) rfl rfl rfl rfl (fun _ => rfl) rfl (fun p => ?_)
  repeat (first | refine W.seq ?_ | refine W.block ?_ | refine W.reg ?_ | refine W.skip ?_ | refine W.exit ?_ | refine W.ret ?_ | refine L.nil ?_ | refine L.p rfl rfl ?_ | refine L.skip rfl ?_)
  cases hq : ((x.toNat : Int) == 0)
  · have h3 : x.toNat ≠ 0 := by
      have : ¬ (x.toNat : Int) = 0 := by simpa using hq
      omega
    clear hq
    repeat (first | refine W.seq ?_ | refine W.block ?_ | refine W.reg ?_ | refine W.skip ?_ | refine W.exit ?_ | refine W.ret ?_ | refine L.nil ?_ | refine L.p rfl rfl ?_ | refine L.skip rfl ?_)
    refine L.fail (so := false) rfl rfl (fun h => ?_) (fun h => ?_)
    · cases h
    clear h
    have hbad : ¬ badInt b := by unfold badInt; omega
    repeat (first | refine W.seq ?_ | refine W.block ?_ | refine W.reg ?_ | refine W.skip ?_ | refine W.exit ?_ | refine W.ret ?_ | refine L.nil ?_ | refine L.p rfl rfl ?_ | refine L.skip rfl ?_)
    refine L.cl (from_C a c b S hI) rfl rfl ?_
    rintro v S1 ⟨d, rfl, hR⟩
    refine ⟨fun _ => hR.1, ?_⟩
    repeat (first | refine W.seq ?_ | refine W.block ?_ | refine W.reg ?_ | refine W.skip ?_ | refine W.exit ?_ | refine W.ret ?_ | refine L.nil ?_ | refine L.p rfl rfl ?_ | refine L.skip rfl ?_)
    cases hq : (fromE b != 0)
    rotate_left
    · have hne : fromE b ≠ 0 := by simpa using hq
      repeat (first | refine W.seq ?_ | refine W.block ?_ | refine W.reg ?_ | refine W.skip ?_ | refine W.exit ?_ | refine W.ret ?_ | refine L.nil ?_ | refine L.p rfl rfl ?_ | refine L.skip rfl ?_)
      refine L.fail (so := true) rfl rfl (fun h => ?_) (fun h => ?_)
      · exact ⟨rfl, numR_err (b := b) (by unfold numS; rw [if_neg hbad, if_pos (.inl hne)]) hR.1⟩
      · cases h
    have he0 : fromE b = 0 := by simpa using hq
    have hfl := fromE_ok he0
    rw [hfl] at hR
    have hW := hR.own
    repeat (first | refine W.seq ?_ | refine W.block ?_ | refine W.reg ?_ | refine W.skip ?_ | refine W.exit ?_ | refine W.ret ?_ | refine L.nil ?_ | refine L.p rfl rfl ?_ | refine L.skip rfl ?_)
    refine L.cl (bits_C _ _ _ S1 hW.1.1) rfl (acall_eq (list1 hW.2)) ?_
    rintro v S2 ⟨rfl, rfl⟩
    refine ⟨fun _ => Cons.refl _, ?_⟩
    rw [wnum_toW]
    repeat (first | refine W.seq ?_ | refine W.block ?_ | refine W.reg ?_ | refine W.skip ?_ | refine W.exit ?_ | refine W.ret ?_ | refine L.nil ?_ | refine L.p rfl rfl ?_ | refine L.skip rfl ?_)
    refine L.fail (so := decide ((blen (bnum b) : Int) > 4096)) rfl rfl (fun h => ?_) (fun h => ?_)
    · exact ⟨rfl, numR_err (b := b) (by unfold numS; rw [if_neg hbad, if_pos (.inr (by have := of_decide_eq_true h; omega))]) hR.1⟩
    have hle : ¬ 4096 < blen (bnum b) := by have := of_decide_eq_false h; omega
    repeat (first | refine W.seq ?_ | refine W.block ?_ | refine W.reg ?_ | refine W.skip ?_ | refine W.exit ?_ | refine W.ret ?_ | refine L.nil ?_ | refine L.p rfl rfl ?_ | refine L.skip rfl ?_)
    exact ⟨_, rfl, numR_ok (by unfold numS; rw [if_neg hbad, if_neg (by omega)]) hR⟩
  have h3 : x.toNat = 0 := by
    have : (x.toNat : Int) = 0 := by simpa using hq
    omega
  clear hq
  obtain ⟨y, hy, hy'⟩ := bat_some (b := b) (i := 1) (by omega)
  have hyl := y.isLt
  repeat (first | refine W.seq ?_ | refine W.block ?_ | refine W.reg ?_ | refine W.skip ?_ | refine W.exit ?_ | refine W.ret ?_ | refine L.nil ?_ | refine L.p rfl rfl ?_ | refine L.skip rfl ?_)
  refine L.el hI.1 (k := 1) rfl (bv_get hy) rfl rfl rfl rfl (fun _ => rfl) rfl (fun p => ?_)
  repeat (first | refine W.seq ?_ | refine W.block ?_ | refine W.reg ?_ | refine W.skip ?_ | refine W.exit ?_ | refine W.ret ?_ | refine L.nil ?_ | refine L.p rfl rfl ?_ | refine L.skip rfl ?_)
  refine L.fail (so := decide ((y.toNat : Int) < 128)) rfl rfl (fun h => ?_) (fun h => ?_)
  · exact ⟨rfl, numR_err (b := b) (by unfold numS; rw [if_pos (by have := of_decide_eq_true h; unfold badInt; omega)]) (Cons.refl _)⟩
  have h4 : 128 ≤ y.toNat := by have := of_decide_eq_false h; omega
  clear h
  have hbad : ¬ badInt b := by unfold badInt; omega
  repeat (first | refine W.seq ?_ | refine W.block ?_ | refine W.reg ?_ | refine W.skip ?_ | refine W.exit ?_ | refine W.ret ?_ | refine L.nil ?_ | refine L.p rfl rfl ?_ | refine L.skip rfl ?_)
  refine L.cl (from_C a c b S hI) rfl rfl ?_
  rintro v S1 ⟨d, rfl, hR⟩
  refine ⟨fun _ => hR.1, ?_⟩
  repeat (first | refine W.seq ?_ | refine W.block ?_ | refine W.reg ?_ | refine W.skip ?_ | refine W.exit ?_ | refine W.ret ?_ | refine L.nil ?_ | refine L.p rfl rfl ?_ | refine L.skip rfl ?_)
  cases hq : (fromE b != 0)
  rotate_left
  · have hne : fromE b ≠ 0 := by simpa using hq
    repeat (first | refine W.seq ?_ | refine W.block ?_ | refine W.reg ?_ | refine W.skip ?_ | refine W.exit ?_ | refine W.ret ?_ | refine L.nil ?_ | refine L.p rfl rfl ?_ | refine L.skip rfl ?_)
    refine L.fail (so := true) rfl rfl (fun h => ?_) (fun h => ?_)
    · exact ⟨rfl, numR_err (b := b) (by unfold numS; rw [if_neg hbad, if_pos (.inl hne)]) hR.1⟩
    · cases h
  have he0 : fromE b = 0 := by simpa using hq
  have hfl := fromE_ok he0
  rw [hfl] at hR
  have hW := hR.own
  repeat (first | refine W.seq ?_ | refine W.block ?_ | refine W.reg ?_ | refine W.skip ?_ | refine W.exit ?_ | refine W.ret ?_ | refine L.nil ?_ | refine L.p rfl rfl ?_ | refine L.skip rfl ?_)
  refine L.cl (bits_C _ _ _ S1 hW.1.1) rfl (acall_eq (list1 hW.2)) ?_
  rintro v S2 ⟨rfl, rfl⟩
  refine ⟨fun _ => Cons.refl _, ?_⟩
  rw [wnum_toW]
  repeat (first | refine W.seq ?_ | refine W.block ?_ | refine W.reg ?_ | refine W.skip ?_ | refine W.exit ?_ | refine W.ret ?_ | refine L.nil ?_ | refine L.p rfl rfl ?_ | refine L.skip rfl ?_)
  refine L.fail (so := decide ((blen (bnum b) : Int) > 4096)) rfl rfl (fun h => ?_) (fun h => ?_)
  · exact ⟨rfl, numR_err (b := b) (by unfold numS; rw [if_neg hbad, if_pos (.inr (by have := of_decide_eq_true h; omega))]) hR.1⟩
  have hle : ¬ 4096 < blen (bnum b) := by have := of_decide_eq_false h; omega
  repeat (first | refine W.seq ?_ | refine W.block ?_ | refine W.reg ?_ | refine W.skip ?_ | refine W.exit ?_ | refine W.ret ?_ | refine L.nil ?_ | refine L.p rfl rfl ?_ | refine L.skip rfl ?_)
  exact ⟨_, rfl, numR_ok (by unfold numS; rw [if_neg hbad, if_neg (by omega)]) hR⟩
end Go.Proofs.Ytccdlijohkljcaa

/- The reference of layer 7: an item. Conditions: none. -/
set_option linter.unusedSimpArgs false
set_option linter.unusedVariables false
set_option maxRecDepth 100000
namespace Go.Proofs.Ytccdlijohkljcaa
open Go
variable {G : Nat} {Ext : FuncId → List Value → Mem → Outc → Mem → Prop}

/-- the item at a place: its tag, where its content is, the error -/
def itemV (b : BL) (i : Int) : Value := if i < 0 ∨ (b.length : Int) < i then .tuple #[.int .u8 0, .int .i64 0, .int .i64 0, .int .i64 2] else match itemS (b.drop i.toNat) with
  | .error e => .tuple #[.int .u8 0, .int .i64 0, .int .i64 0, .int .i64 e]
  | .ok (h, n) => .tuple #[.int .u8 (bat b i.toNat), .int .i64 (i + h), .int .i64 (i + h + n), .int .i64 0]
theorem itemV_bad {b : BL} {i : Int} (h : i < 0 ∨ (b.length : Int) < i) : Value.tuple #[.int .u8 0, .int .i64 0, .int .i64 0, .int .i64 2] = itemV b i := by unfold itemV; rw [if_pos h]
theorem itemV_err {b : BL} {k : Nat} {e : Int} (h : k ≤ b.length) (he : itemS (b.drop k) = .error e) : Value.tuple #[.int .u8 0, .int .i64 0, .int .i64 0, .int .i64 e] = itemV b (k : Int) := by
  unfold itemV; rw [if_neg (by omega), Int.toNat_natCast, he]
theorem itemV_ok {b : BL} {k f n : Nat} (h : k ≤ b.length) (he : itemS (b.drop k) = .ok (f, n)) : itemV b (k : Int) = .tuple #[.int .u8 (bat b k), .int .i64 ((k : Int) + f), .int .i64 ((k : Int) + f + n), .int .i64 0] := by
  unfold itemV; rw [if_neg (by omega), Int.toNat_natCast, he]
theorem refItem_C (a : Option Addr) (c : Nat) (b : BL) (i : Int) (S : Mem) (hI : BIn S a c b) (hi1 : -9223372036854775808 ≤ i) (hi2 : i ≤ 9223372036854775807) : C Try.prog G Ext 27 [.slice a b.length c, .int .i64 i] S fun v S' => v = itemV b i ∧ S' = S := by
  refine C.fn Try.func27 rfl (by kernel_rfl) rfl ?_
  have hbl := hI.2.2
  repeat (first | refine W.seq ?_ | refine W.block ?_ | refine W.reg ?_ | refine W.skip ?_ | refine W.exit ?_ | refine W.ret ?_ | refine L.nil ?_ | refine L.p rfl rfl ?_ | refine L.skip rfl ?_)
  cases hq : decide (i < 0)
  rotate_left
  · have h0 := of_decide_eq_true hq
    repeat (first | refine W.seq ?_ | refine W.block ?_ | refine W.reg ?_ | refine W.skip ?_ | refine W.exit ?_ | refine W.ret ?_ | refine L.nil ?_ | refine L.p rfl rfl ?_ | refine L.skip rfl ?_)
    refine W.ite rfl (fun h => ?_) (fun h => ?_)
    rotate_left
    · cases h
    repeat (first | refine W.seq ?_ | refine W.block ?_ | refine W.reg ?_ | refine W.skip ?_ | refine W.exit ?_ | refine W.ret ?_ | refine L.nil ?_ | refine L.p rfl rfl ?_ | refine L.skip rfl ?_)
    exact ⟨.inr rfl, _, rfl, itemV_bad (.inl h0), rfl⟩
  have h0 := of_decide_eq_false hq
  clear hq
  repeat (first | refine W.seq ?_ | refine W.block ?_ | refine W.reg ?_ | refine W.skip ?_ | refine W.exit ?_ | refine W.ret ?_ | refine L.nil ?_ | refine L.p rfl rfl ?_ | refine L.skip rfl ?_)
  refine W.ite rfl (fun h => ?_) (fun h => ?_)
  · have h1 := of_decide_eq_true h
    repeat (first | refine W.seq ?_ | refine W.block ?_ | refine W.reg ?_ | refine W.skip ?_ | refine W.exit ?_ | refine W.ret ?_ | refine L.nil ?_ | refine L.p rfl rfl ?_ | refine L.skip rfl ?_)
    exact ⟨.inr rfl, _, rfl, itemV_bad (.inr h1), rfl⟩
  have h1 := of_decide_eq_false h
  clear h
  obtain ⟨k, rfl⟩ : ∃ k : Nat, i = (k : Int) := ⟨i.toNat, by omega⟩
  have hk : k ≤ b.length := by omega
  obtain ⟨m, hm⟩ : ∃ m, m = b.drop k := ⟨_, rfl⟩
  have hml : m.length = b.length - k := by rw [hm, List.length_drop]
  repeat (first | refine W.seq ?_ | refine W.block ?_ | refine W.reg ?_ | refine W.skip ?_ | refine W.exit ?_ | refine W.ret ?_ | refine L.nil ?_ | refine L.p rfl rfl ?_ | refine L.skip rfl ?_)
  rw [show IntKind.i64.wrap ((b.length : Int) - (k : Int)) = (m.length : Int) by rw [wrap64 (by omega) (by omega)]; omega]
  repeat (first | refine W.seq ?_ | refine W.block ?_ | refine W.reg ?_ | refine W.skip ?_ | refine W.exit ?_ | refine W.ret ?_ | refine L.nil ?_ | refine L.p rfl rfl ?_ | refine L.skip rfl ?_)
  refine W.ite rfl (fun h => ?_) (fun h => ?_)
  · have h2 := of_decide_eq_true h
    repeat (first | refine W.seq ?_ | refine W.block ?_ | refine W.reg ?_ | refine W.skip ?_ | refine W.exit ?_ | refine W.ret ?_ | refine L.nil ?_ | refine L.p rfl rfl ?_ | refine L.skip rfl ?_)
    exact ⟨.inr rfl, _, rfl, itemV_err hk (by rw [← hm]; unfold itemS; rw [if_pos (by omega)]), rfl⟩
  have h2 : 2 ≤ m.length := by have := of_decide_eq_false h; omega
  clear h
  obtain ⟨t, ht, ht'⟩ := bat_some (b := b) (i := k) (by omega)
  obtain ⟨x, hx, hx'⟩ := bat_some (b := b) (i := k + 1) (by omega)
  have hxm : bat m 1 = x.toNat := by rw [hm, bat_drop, hx']
  have hxl := x.isLt
  repeat (first | refine W.seq ?_ | refine W.block ?_ | refine W.reg ?_ | refine W.skip ?_ | refine W.exit ?_ | refine W.ret ?_ | refine L.nil ?_ | refine L.p rfl rfl ?_ | refine L.skip rfl ?_)
  rw [show IntKind.i64.wrap ((k : Int) + 1) = ((k + 1 : Nat) : Int) by rw [wrap64 (by omega) (by omega)]; omega]
  refine L.el hI.1 (k := k + 1) rfl (bv_get hx) rfl rfl rfl rfl (fun _ => rfl) rfl (fun p => ?_)
  repeat (first | refine W.seq ?_ | refine W.block ?_ | refine W.reg ?_ | refine W.skip ?_ | refine W.exit ?_ | refine W.ret ?_ | refine L.nil ?_ | refine L.p rfl rfl ?_ | refine L.skip rfl ?_)
  rw [wrap64 (x := (x.toNat : Int)) (by omega) (by omega), show IntKind.i64.wrap ((k : Int) + 2) = ((k + 2 : Nat) : Int) by rw [wrap64 (by omega) (by omega)]; omega]
  cases hq : ((x.toNat : Int) == 128)
  rotate_left
  · have hx8 : x.toNat = 128 := by have : (x.toNat : Int) = 128 := (by simpa using hq); omega
    repeat (first | refine W.seq ?_ | refine W.block ?_ | refine W.reg ?_ | refine W.skip ?_ | refine W.exit ?_ | refine W.ret ?_ | refine L.nil ?_ | refine L.p rfl rfl ?_ | refine L.skip rfl ?_)
    refine W.ite rfl (fun h => ?_) (fun h => ?_)
    rotate_left
    · cases h
    repeat (first | refine W.seq ?_ | refine W.block ?_ | refine W.reg ?_ | refine W.skip ?_ | refine W.exit ?_ | refine W.ret ?_ | refine L.nil ?_ | refine L.p rfl rfl ?_ | refine L.skip rfl ?_)
    exact ⟨.inr rfl, _, rfl, itemV_err hk (by rw [← hm]; unfold itemS; rw [if_neg (by omega), if_pos (by omega)]), rfl⟩
  have hx8 : x.toNat ≠ 128 := by
    have : ¬ (x.toNat : Int) = 128 := by simpa using hq
    omega
  clear hq
  repeat (first | refine W.seq ?_ | refine W.block ?_ | refine W.reg ?_ | refine W.skip ?_ | refine W.exit ?_ | refine W.ret ?_ | refine L.nil ?_ | refine L.p rfl rfl ?_ | refine L.skip rfl ?_)
  refine W.ite rfl (fun h => ?_) (fun h => ?_)
  · have hx4 := of_decide_eq_true h
    repeat (first | refine W.seq ?_ | refine W.block ?_ | refine W.reg ?_ | refine W.skip ?_ | refine W.exit ?_ | refine W.ret ?_ | refine L.nil ?_ | refine L.p rfl rfl ?_ | refine L.skip rfl ?_)
    exact ⟨.inr rfl, _, rfl, itemV_err hk (by rw [← hm]; unfold itemS; rw [if_neg (by omega), if_pos (by omega)]), rfl⟩
  have hx4 : x.toNat ≤ 132 := by have := of_decide_eq_false h; omega
  clear h
  repeat (first | refine W.seq ?_ | refine W.block ?_ | refine W.reg ?_ | refine W.skip ?_ | refine W.exit ?_ | refine W.ret ?_ | refine L.nil ?_ | refine L.p rfl rfl ?_ | refine L.skip rfl ?_)
  refine W.ite rfl (fun h => ?_) (fun h => ?_)
  rotate_left
  · have hx7 : x.toNat < 128 := by have := of_decide_eq_false h; omega
    clear h
    repeat (first | refine W.seq ?_ | refine W.block ?_ | refine W.reg ?_ | refine W.skip ?_ | refine W.exit ?_ | refine W.ret ?_ | refine L.nil ?_ | refine L.p rfl rfl ?_ | refine L.skip rfl ?_)
    rw [show IntKind.i64.wrap ((b.length : Int) - (((k + 2) : Nat) : Int)) = ((b.length - (k + 2) : Nat) : Int) by rw [wrap64 (by omega) (by omega)]; omega]
    repeat (first | refine W.seq ?_ | refine W.block ?_ | refine W.reg ?_ | refine W.skip ?_ | refine W.exit ?_ | refine W.ret ?_ | refine L.nil ?_ | refine L.p rfl rfl ?_ | refine L.skip rfl ?_)
    refine W.ite rfl (fun h => ?_) (fun h => ?_)
    · have hlt := of_decide_eq_true h
      repeat (first | refine W.seq ?_ | refine W.block ?_ | refine W.reg ?_ | refine W.skip ?_ | refine W.exit ?_ | refine W.ret ?_ | refine L.nil ?_ | refine L.p rfl rfl ?_ | refine L.skip rfl ?_)
      refine ⟨.inr rfl, _, rfl, itemV_err hk ((by rw [← hm]; unfold itemS; rw [if_neg (by omega), if_neg (by omega), if_pos (by omega), if_pos (by omega)])), rfl⟩
    have hle : x.toNat ≤ b.length - (k + 2) := by have := of_decide_eq_false h; omega
    clear h
    repeat (first | refine W.seq ?_ | refine W.block ?_ | refine W.reg ?_ | refine W.skip ?_ | refine W.exit ?_ | refine W.ret ?_ | refine L.nil ?_ | refine L.p rfl rfl ?_ | refine L.skip rfl ?_)
    refine L.el hI.1 (k := k) rfl (bv_get ht) rfl rfl rfl rfl (fun _ => rfl) rfl (fun p => ?_)
    repeat (first | refine W.seq ?_ | refine W.block ?_ | refine W.reg ?_ | refine W.skip ?_ | refine W.exit ?_ | refine W.ret ?_ | refine L.nil ?_ | refine L.p rfl rfl ?_ | refine L.skip rfl ?_)
    refine ⟨.inr rfl, _, rfl, ?_, rfl⟩
    rw [itemV_ok hk ((by rw [← hm]; unfold itemS; rw [if_neg (by omega), if_neg (by omega), if_pos (by omega), if_neg (by omega), hxm])), ht']
    refine (force_eq rfl).trans ?_
    rw [wrap64 (x := (((k + 2) : Nat) : Int) + ((x.toNat : Nat) : Int)) (by omega) (by omega)]
    rfl
  have hx7 : 128 < x.toNat := by have := of_decide_eq_true h; omega
  clear h
  obtain ⟨kk, hkk⟩ : ∃ kk, kk = x.toNat - 128 := ⟨_, rfl⟩
  have hk4 : kk ≤ 4 := by omega
  repeat (first | refine W.seq ?_ | refine W.block ?_ | refine W.reg ?_ | refine W.skip ?_ | refine W.exit ?_ | refine W.ret ?_ | refine L.nil ?_ | refine L.p rfl rfl ?_ | refine L.skip rfl ?_)
  rw [show IntKind.i64.wrap ((x.toNat : Int) - 128) = (kk : Int) by rw [wrap64 (by omega) (by omega)]; omega]
  repeat (first | refine W.seq ?_ | refine W.block ?_ | refine W.reg ?_ | refine W.skip ?_ | refine W.exit ?_ | refine W.ret ?_ | refine L.nil ?_ | refine L.p rfl rfl ?_ | refine L.skip rfl ?_)
  rw [show IntKind.i64.wrap ((b.length : Int) - ((k + 2 : Nat) : Int)) = ((b.length - (k + 2) : Nat) : Int) by rw [wrap64 (by omega) (by omega)]; omega]
  repeat (first | refine W.seq ?_ | refine W.block ?_ | refine W.reg ?_ | refine W.skip ?_ | refine W.exit ?_ | refine W.ret ?_ | refine L.nil ?_ | refine L.p rfl rfl ?_ | refine L.skip rfl ?_)
  refine W.ite rfl (fun h => ?_) (fun h => ?_)
  · have h5 := of_decide_eq_true h
    repeat (first | refine W.seq ?_ | refine W.block ?_ | refine W.reg ?_ | refine W.skip ?_ | refine W.exit ?_ | refine W.ret ?_ | refine L.nil ?_ | refine L.p rfl rfl ?_ | refine L.skip rfl ?_)
    exact ⟨.inr rfl, _, rfl, itemV_err hk (by rw [← hm]; unfold itemS; rw [if_neg (by omega), if_neg (by omega), if_neg (by omega), if_pos (by omega)]), rfl⟩
  have h5 : kk ≤ b.length - (k + 2) := by have := of_decide_eq_false h; omega
  clear h
  obtain ⟨d, hd⟩ : ∃ d, d = (m.drop 2).take kk := ⟨_, rfl⟩
  have hdl : d.length = kk := by rw [hd, List.length_take, List.length_drop]; omega
  have hdget : ∀ j, j < kk → d[j]? = b[k + 2 + j]? := fun j hj => by rw [hd, List.getElem?_take, if_pos hj, List.getElem?_drop, hm, List.getElem?_drop]; congr 1; omega
  repeat (first | refine W.seq ?_ | refine W.block ?_ | refine W.reg ?_ | refine W.skip ?_ | refine W.exit ?_ | refine W.ret ?_ | refine L.nil ?_ | refine L.p rfl rfl ?_ | refine L.skip rfl ?_)
  refine W.loop (fun j e T => ∃ i, j = kk - i ∧ i ≤ kk ∧ S = T ∧ e 0 = .slice a b.length c ∧ e 1 = vi k ∧ e 8 = vi (bnum (d.take i)) ∧ e 9 = vi (k + 2) ∧ e 10 = vi kk ∧ e 11 = vi i) kk
    ⟨0, by omega, by omega, rfl, rfl, rfl, rfl, rfl, rfl, rfl⟩ ?_
  rintro j e T ⟨i, rfl, hi, rfl, e0, e1, e8, e9, e10, e11⟩
  refine W.env6 e0 e1 e8 e9 e10 e11 ?_
  have hbn := bnum_lt (d.take i)
  have hbn2 : 256 ^ (d.take i).length ≤ 256 ^ 4 := Nat.pow_le_pow_right (by decide) (by rw [List.length_take]; omega)
  repeat (first | refine W.seq ?_ | refine W.block ?_ | refine W.reg ?_ | refine W.skip ?_ | refine W.exit ?_ | refine W.ret ?_ | refine L.nil ?_ | refine L.p rfl rfl ?_ | refine L.skip rfl ?_)
  refine W.ite rfl (fun h => ?_) (fun h => ?_)
  · have hin : i < kk := by have := of_decide_eq_true h; omega
    clear h
    obtain ⟨cc, hcc⟩ : ∃ cc, b[k + 2 + i]? = some cc := ⟨_, List.getElem?_eq_getElem (by omega)⟩
    have hcd : d[i]? = some cc := by rw [hdget i hin, hcc]
    repeat (first | refine W.seq ?_ | refine W.block ?_ | refine W.reg ?_ | refine W.skip ?_ | refine W.exit ?_ | refine W.ret ?_ | refine L.nil ?_ | refine L.p rfl rfl ?_ | refine L.skip rfl ?_)
    rw [show IntKind.i64.wrap (((k + 2 : Nat) : Int) + (i : Int)) = ((k + 2 + i : Nat) : Int) by rw [wrap64 (by omega) (by omega)]; omega]
    refine L.el hI.1 (k := k + 2 + i) rfl (bv_get hcc) rfl rfl rfl rfl (fun _ => rfl) rfl (fun p => ?_)
    repeat (first | refine W.seq ?_ | refine W.block ?_ | refine W.reg ?_ | refine W.skip ?_ | refine W.exit ?_ | refine W.ret ?_ | refine L.nil ?_ | refine L.p rfl rfl ?_ | refine L.skip rfl ?_)
    refine ⟨kk - (i + 1), by omega, i + 1, rfl, by omega, rfl, rfl, rfl, ?_, rfl, rfl, ?_⟩
    · refine (force_eq rfl).trans ?_
      rw [List.take_add_one, hcd]
      show _ = vi (bnum (d.take i ++ [cc]))
      rw [bnum_snoc]
      exact congrArg (Value.int .i64) (or_byte (n := bnum (d.take i)) (c := cc) (by omega))
    · refine (force_eq rfl).trans ?_
      rw [wrap64 (by omega) (by omega)]; rfl
  have hin : i = kk := by have := of_decide_eq_false h; omega
  subst hin
  clear h hbn hbn2
  rw [List.take_of_length_le (by omega)]
  have hN : lenN m = bnum d := by unfold lenN; rw [hxm, ← hkk, hd]
  have hmb := lenN_lt (b := m) (by omega)
  obtain ⟨n, hn⟩ : ∃ n, n = bnum d := ⟨_, rfl⟩
  rw [← hn] at hN ⊢
  obtain ⟨y, hy, hy'⟩ := bat_some (b := b) (i := k + 2) (by omega)
  have hym : bat m 2 = y.toNat := by rw [hm, bat_drop, hy']
  have hyl := y.isLt
  repeat (first | refine W.seq ?_ | refine W.block ?_ | refine W.reg ?_ | refine W.skip ?_ | refine W.exit ?_ | refine W.ret ?_ | refine L.nil ?_ | refine L.p rfl rfl ?_ | refine L.skip rfl ?_)
  cases hq : decide ((n : Int) < 128)
  rotate_left
  · have h6 := of_decide_eq_true hq
    repeat (first | refine W.seq ?_ | refine W.block ?_ | refine W.reg ?_ | refine W.skip ?_ | refine W.exit ?_ | refine W.ret ?_ | refine L.nil ?_ | refine L.p rfl rfl ?_ | refine L.skip rfl ?_)
    refine W.ite rfl (fun h => ?_) (fun h => ?_)
    rotate_left
    · cases h
    repeat (first | refine W.seq ?_ | refine W.block ?_ | refine W.reg ?_ | refine W.skip ?_ | refine W.exit ?_ | refine W.ret ?_ | refine L.nil ?_ | refine L.p rfl rfl ?_ | refine L.skip rfl ?_)
    exact ⟨.inr rfl, _, rfl, itemV_err hk (by rw [← hm]; unfold itemS; rw [if_neg (by omega), if_neg (by omega), if_neg (by omega), if_neg (by omega), if_pos (by omega)]), rfl⟩
  have h6 := of_decide_eq_false hq
  clear hq
  repeat (first | refine W.seq ?_ | refine W.block ?_ | refine W.reg ?_ | refine W.skip ?_ | refine W.exit ?_ | refine W.ret ?_ | refine L.nil ?_ | refine L.p rfl rfl ?_ | refine L.skip rfl ?_)
  refine L.el hI.1 (k := k + 2) rfl (bv_get hy) rfl rfl rfl rfl (fun _ => rfl) rfl (fun p => ?_)
  repeat (first | refine W.seq ?_ | refine W.block ?_ | refine W.reg ?_ | refine W.skip ?_ | refine W.exit ?_ | refine W.ret ?_ | refine L.nil ?_ | refine L.p rfl rfl ?_ | refine L.skip rfl ?_)
  refine W.ite rfl (fun h => ?_) (fun h => ?_)
  · have hy0 : y.toNat = 0 := by have : (y.toNat : Int) = 0 := (by simpa using h); omega
    repeat (first | refine W.seq ?_ | refine W.block ?_ | refine W.reg ?_ | refine W.skip ?_ | refine W.exit ?_ | refine W.ret ?_ | refine L.nil ?_ | refine L.p rfl rfl ?_ | refine L.skip rfl ?_)
    exact ⟨.inr rfl, _, rfl, itemV_err hk (by rw [← hm]; unfold itemS; rw [if_neg (by omega), if_neg (by omega), if_neg (by omega), if_neg (by omega), if_pos (by omega)]), rfl⟩
  have hy0 : y.toNat ≠ 0 := by
    have : ¬ (y.toNat : Int) = 0 := by simpa using h
    omega
  clear h
  repeat (first | refine W.seq ?_ | refine W.block ?_ | refine W.reg ?_ | refine W.skip ?_ | refine W.exit ?_ | refine W.ret ?_ | refine L.nil ?_ | refine L.p rfl rfl ?_ | refine L.skip rfl ?_)
  rw [show IntKind.i64.wrap (((k + 2 : Nat) : Int) + (i : Int)) = ((k + 2 + i : Nat) : Int) by rw [wrap64 (by omega) (by omega)]; omega]
  repeat (first | refine W.seq ?_ | refine W.block ?_ | refine W.reg ?_ | refine W.skip ?_ | refine W.exit ?_ | refine W.ret ?_ | refine L.nil ?_ | refine L.p rfl rfl ?_ | refine L.skip rfl ?_)
  rw [show IntKind.i64.wrap ((b.length : Int) - (((k + 2 + i) : Nat) : Int)) = ((b.length - (k + 2 + i) : Nat) : Int) by rw [wrap64 (by omega) (by omega)]; omega]
  repeat (first | refine W.seq ?_ | refine W.block ?_ | refine W.reg ?_ | refine W.skip ?_ | refine W.exit ?_ | refine W.ret ?_ | refine L.nil ?_ | refine L.p rfl rfl ?_ | refine L.skip rfl ?_)
  refine W.ite rfl (fun h => ?_) (fun h => ?_)
  · have hlt := of_decide_eq_true h
    repeat (first | refine W.seq ?_ | refine W.block ?_ | refine W.reg ?_ | refine W.skip ?_ | refine W.exit ?_ | refine W.ret ?_ | refine L.nil ?_ | refine L.p rfl rfl ?_ | refine L.skip rfl ?_)
    refine ⟨.inr rfl, _, rfl, itemV_err hk ((by rw [← hm]; unfold itemS; rw [if_neg (by omega), if_neg (by omega), if_neg (by omega), if_neg (by omega), if_neg (by omega), if_pos (by omega)])), rfl⟩
  have hle : n ≤ b.length - (k + 2 + i) := by have := of_decide_eq_false h; omega
  clear h
  repeat (first | refine W.seq ?_ | refine W.block ?_ | refine W.reg ?_ | refine W.skip ?_ | refine W.exit ?_ | refine W.ret ?_ | refine L.nil ?_ | refine L.p rfl rfl ?_ | refine L.skip rfl ?_)
  refine L.el hI.1 (k := k) rfl (bv_get ht) rfl rfl rfl rfl (fun _ => rfl) rfl (fun p => ?_)
  repeat (first | refine W.seq ?_ | refine W.block ?_ | refine W.reg ?_ | refine W.skip ?_ | refine W.exit ?_ | refine W.ret ?_ | refine L.nil ?_ | refine L.p rfl rfl ?_ | refine L.skip rfl ?_)
  refine ⟨.inr rfl, _, rfl, ?_, rfl⟩
  rw [itemV_ok hk ((by rw [← hm]; unfold itemS; rw [if_neg (by omega), if_neg (by omega), if_neg (by omega), if_neg (by omega), if_neg (by omega), if_neg (by omega), hxm, hN, ← hkk])), ht']
  refine (force_eq rfl).trans ?_
  rw [wrap64 (x := (((k + 2 + i) : Nat) : Int) + ((n : Nat) : Int)) (by omega) (by omega)]
  rw [show ((k:Int) + ((2 + i : Nat) : Int)) = ((k + 2 + i : Nat) : Int) by omega]; rfl
end Go.Proofs.Ytccdlijohkljcaa

/- Layer 7: a fault is caught. Conditions: none. -/
set_option linter.unusedSimpArgs false
set_option linter.unusedVariables false
set_option maxRecDepth 100000
namespace Go.Proofs.Ytccdlijohkljcaa
open Go
variable {G : Nat} {Ext : FuncId → List Value → Mem → Outc → Mem → Prop}

/-- where the error is written: a cell of its own -/
def caughtMem (S : Mem) (b : Nat) (r : Row) (n : Int) : Mem := (S ++ [newR [.int .i64 n] 80]).set b { r with cells := r.cells.set 0 (.int .i64 n) }
theorem caught_pan (n : Int) (b : Nat) (r : Row) (S : Mem) (hr : S.row? b = some r) (hro : r.ro = none) (hlen : 0 < r.cells.length) :
    DSim Try.prog G 37 [.pointer (some ⟨b, 0, none⟩)] (.pan (faultV n)) S .ret (caughtMem S b r n) := by
  have h : W Try.prog G NoX (match Try.f37.body with | some (.seq _ c) => c | _ => .skip) (((Env.of [.pointer (some ⟨b, 0, none⟩)]).put (some 5) (faultV n)).put (some 2) (faultV n)) S
      (fun x e' S' => (x = .nrm ∨ x = .ret) ∧ S' = caughtMem S b r n) := by
    repeat (first | refine W.seq ?_ | refine W.block ?_ | refine W.reg ?_ | refine W.skip ?_ | refine W.exit ?_ | refine W.ret ?_ | refine L.nil ?_ | refine L.p rfl rfl ?_ | refine L.skip rfl ?_)
    refine W.ite rfl (fun h => ?_) (fun h => ?_)
    · cases h
    clear h
    repeat (first | refine W.seq ?_ | refine W.block ?_ | refine W.reg ?_ | refine W.skip ?_ | refine W.exit ?_ | refine W.ret ?_ | refine L.nil ?_ | refine L.p rfl rfl ?_ | refine L.skip rfl ?_)
    refine L.eff (v := .pointer (some ⟨S.length, 0, none⟩)) (S1 := S ++ [newR [.int .i64 0] 80]) rfl rfl ?_
    refine L.st (ad := ⟨S.length, 0, none⟩) (vs := [.int .i64 n]) (write_of (o := 0) (row_push_new rfl) rfl (by simp [newR]) rfl) rfl rfl rfl rfl ?_
    rw [show (S ++ [newR [.int .i64 0] 80]).set S.length { newR [.int .i64 0] 80 with cells := putFrom (newR [.int .i64 0] 80).cells 0 [.int .i64 n] } = S ++ [newR [.int .i64 n] 80] by
      rw [List.set_append_right _ _ (Nat.le_refl _)]; simp [putFrom, newR]]
    repeat (first | refine W.seq ?_ | refine W.block ?_ | refine W.reg ?_ | refine W.skip ?_ | refine W.exit ?_ | refine W.ret ?_ | refine L.nil ?_ | refine L.p rfl rfl ?_ | refine L.skip rfl ?_)
    refine W.ite rfl (fun h => ?_) (fun h => ?_)
    · cases h
    clear h
    have hr1 : Mem.row? (S ++ [newR [.int .i64 n] 80]) b = some r := Cons.row (h := Cons.push _ _) hr
    have hr2 : Mem.row? (S ++ [newR [.int .i64 n] 80]) S.length = some (newR [.int .i64 n] 80) := row_push_new rfl
    repeat (first | refine W.seq ?_ | refine W.block ?_ | refine W.reg ?_ | refine W.skip ?_ | refine W.exit ?_ | refine W.ret ?_ | refine L.nil ?_ | refine L.p rfl rfl ?_ | refine L.skip rfl ?_)
    refine L.ld (a := ⟨S.length, 0, none⟩) (v := .int .i64 n) (cell_of hr2 rfl (.inl rfl)) rfl rfl rfl ?_
    repeat (first | refine W.seq ?_ | refine W.block ?_ | refine W.reg ?_ | refine W.skip ?_ | refine W.exit ?_ | refine W.ret ?_ | refine L.nil ?_ | refine L.p rfl rfl ?_ | refine L.skip rfl ?_)
    refine L.st (ad := ⟨b, 0, none⟩) (vs := [.int .i64 n]) (write_of (o := 0) hr1 hro (by simp; omega) rfl) rfl rfl rfl rfl ?_
    repeat (first | refine W.seq ?_ | refine W.block ?_ | refine W.reg ?_ | refine W.skip ?_ | refine W.exit ?_ | refine W.ret ?_ | refine L.nil ?_ | refine L.p rfl rfl ?_ | refine L.skip rfl ?_)
    refine ⟨.inl rfl, ?_⟩
    unfold caughtMem
    rw [putFrom_one _ _ _ hlen]
  obtain ⟨x, e', S', h1, h2, rfl⟩ := h
  exact dsim_recover (Checked.mixed Try.checked) (fun _ _ _ _ _ h => h.elim) (Try.func37) rfl (by kernel_rfl) (Nat.le_of_ble_eq_true rfl) rfl rfl rfl rfl rfl rfl rfl (Nat.lt_of_lt_of_le (Nat.lt_succ_self _) (Nat.le_of_ble_eq_true rfl)) h1 h2 rfl
theorem caught_ret (b : Nat) (S : Mem) : DSim Try.prog G 37 [.pointer (some ⟨b, 0, none⟩)] .ret S .ret S := by
  have h : W Try.prog G NoX (match Try.f37.body with | some (.seq _ c) => c | _ => .skip) (((Env.of [.pointer (some ⟨b, 0, none⟩)]).put (some 5) .nilIface).put (some 2) .nilIface) S
      (fun x e' S' => (x = .nrm ∨ x = .ret) ∧ S' = S) := by
    repeat (first | refine W.seq ?_ | refine W.block ?_ | refine W.reg ?_ | refine W.skip ?_ | refine W.exit ?_ | refine W.ret ?_ | refine L.nil ?_ | refine L.p rfl rfl ?_ | refine L.skip rfl ?_)
    refine W.ite rfl (fun h => ?_) (fun h => ?_)
    rotate_left
    · cases h
    clear h
    repeat (first | refine W.seq ?_ | refine W.block ?_ | refine W.reg ?_ | refine W.skip ?_ | refine W.exit ?_ | refine W.ret ?_ | refine L.nil ?_ | refine L.p rfl rfl ?_ | refine L.skip rfl ?_)
    exact ⟨.inr rfl, rfl⟩
  obtain ⟨x, e', S', h1, h2, rfl⟩ := h
  exact dsim_recover (Checked.mixed Try.checked) (fun _ _ _ _ _ h => h.elim) (Try.func37) rfl (by kernel_rfl) (Nat.le_of_ble_eq_true rfl) rfl rfl rfl rfl rfl rfl rfl (Nat.lt_of_lt_of_le (Nat.lt_succ_self _) (Nat.le_of_ble_eq_true rfl)) h1 h2 rfl
end Go.Proofs.Ytccdlijohkljcaa

/- Walks through functions that defer calls. Conditions: none. -/
set_option linter.unusedSimpArgs false
set_option linter.unusedVariables false
namespace Go.Proofs.Ytccdlijohkljcaa
open Go

/-- a run of code that may defer calls -/
def DW (P : Program) (G : Nat) (Ext : FuncId → List Value → Mem → Outc → Mem → Prop) (c : Code) (e : Env) (S : Mem) (Ds : List ADef) (Q : Xit → Env → Mem → List ADef → Prop) : Prop :=
  ∃ x e' S' Ds', DRun P G Ext c e S Ds x e' S' Ds' ∧ Q x e' S' Ds'
def DThn (K : Env → Mem → List ADef → Prop) (Q : Xit → Env → Mem → List ADef → Prop) : Xit → Env → Mem → List ADef → Prop
  | .nrm, e, S, Ds => K e S Ds
  | x, e, S, Ds => Q x e S Ds
section
variable {P : Program} {G : Nat} {Ext : FuncId → List Value → Mem → Outc → Mem → Prop} {Q : Xit → Env → Mem → List ADef → Prop} {e : Env} {S : Mem} {Ds : List ADef}
theorem DW.code {c : Code} (h : W P G Ext c e S fun x e S => Q x e S Ds) : DW P G Ext c e S Ds Q := let ⟨x, e', S', h1, h2⟩ := h; ⟨x, e', S', Ds, .code h1, h2⟩
theorem DW.seq {a b : Code} (h : DW P G Ext a e S Ds (DThn (fun e S Ds => DW P G Ext b e S Ds Q) Q)) : DW P G Ext (.seq a b) e S Ds Q := by
  obtain ⟨x, e1, S1, D1, h1, h2⟩ := h
  cases x with
  | nrm => obtain ⟨y, e2, S2, D2, h3, h4⟩ := h2; exact ⟨y, e2, S2, D2, .seq h1 h3, h4⟩
  | _ => exact ⟨_, e1, S1, D1, .seqOut h1 (by simp), h2⟩
/-- a call is deferred -/
theorem DW.defer {id : Nat} {c : Call} {fv : Operand} {f : FuncId} {first captured : Array Value} {dst : Option Tmp} {ty : TypeId} {pos : String} {af : Array Edge} (hc : c.callee = .value fv) (hf : e.eval fv = .func (.func f) first captured)
    (h : Q .nrm (e.put dst undef) S (⟨f, first.toList ++ c.args.toList.map e.eval ++ captured.toList⟩ :: Ds)) : DW P G Ext (.region id #[⟨dst, .defer c, ty, pos, af, none⟩] false) e S Ds Q :=
  ⟨_, _, _, _, .defer (n := 0) rfl (.nil _ _ _ _) rfl rfl rfl hc hf, h⟩
/-- a call of a function's text is deferred -/
theorem DW.deferFn {id : Nat} {c : Call} {fv : Operand} {f : FuncId} {first captured : Array Value} {v : Value} {dst dst0 : Option Tmp} {op0 : Op} {ty ty0 : TypeId} {pos pos0 : String} {af af0 : Array Edge} (hc : c.callee = .value fv)
    (hp : apure P ⟨dst0, op0, ty0, pos0, af0, none⟩ e.eval = some v) (hf : (e.put dst0 v).eval fv = .func (.func f) first captured)
    (h : Q .nrm ((e.put dst0 v).put dst undef) S (⟨f, first.toList ++ c.args.toList.map (e.put dst0 v).eval ++ captured.toList⟩ :: Ds)) : DW P G Ext (.region id #[⟨dst0, op0, ty0, pos0, af0, none⟩, ⟨dst, .defer c, ty, pos, af, none⟩] false) e S Ds Q :=
  ⟨_, _, _, _, .defer (n := 1) rfl (.pure (o := ⟨dst0, op0, ty0, pos0, af0, none⟩) rfl rfl hp (.nil _ _ _ _)) rfl rfl rfl hc hf, h⟩
end
/-- a function that defers calls: what it owes -/
theorem known_def {P : Program} {G : Nat} {Ext : FuncId → List Value → Mem → Outc → Mem → Prop} (hm : P.follows .mixedOrders = true) (hext : ∀ f args S out S', Ext f args S out S' → CallSim P G f args S out S') {f : FuncId} {fn : Func} {c : Code} {args : List Value} {S : Mem}
    {R : Value → Mem → Prop} (hf : P.funcs[f]? = some fn) (hb : fn.body = some c) (hok : fnOk P G fn c = true) (ha : Nat.ble args.length fn.ntmps = true)
    (h : DW P G Ext c (Env.of args) S [] fun x e S1 Ds => ∃ m v S', modeOf x = some m ∧ ALv P G fn e Ds m S1 (.ret v) S' ∧ R v S') : ∃ v S', Known P G f args S (.ret v) S' ∧ R v S' := by
  obtain ⟨x, e', S1, Ds, h1, m, v, S', h2, h3, h4⟩ := h
  exact ⟨v, S', callSim_def hm hext hf hb hok (Nat.le_of_ble_eq_true ha) h1 h2 h3, h4⟩
/-- what is known, used -/
theorem C.known {P : Program} {G : Nat} {f : FuncId} {args : List Value} {S : Mem} {R : Value → Mem → Prop} (h : ∃ v S', Known P G f args S (.ret v) S' ∧ R v S') : C P G (Known P G) f args S R := let ⟨v, S', h1, h2⟩ := h; ⟨v, S', .ext h1, h2⟩
end Go.Proofs.Ytccdlijohkljcaa

/- Layer 7: Integer. Conditions: none. -/
set_option linter.unusedSimpArgs false
set_option linter.unusedVariables false
set_option maxRecDepth 100000
namespace Go.Proofs.Ytccdlijohkljcaa
open Go
variable {G : Nat}

/-- the number, and the error -/
def intL (b : BL) : WL := match numS b with
  | .ok l => l
  | .error _ => []
def intE (b : BL) : Int := match numS b with
  | .ok _ => 0
  | .error e => e
theorem errRow (S : Mem) : Mem.row? (S ++ [newR [.int .i64 0] 27]) S.length = some (newR [.int .i64 0] 27) := row_push_new rfl
/-- the error is caught -/
theorem caught_new {S S1 : Mem} {n x : Int} (h : Cons (S ++ [newR [.int .i64 x] 27]) S1) : ∃ S', DSim Try.prog G 37 [.pointer (some ⟨S.length, 0, none⟩)] (.pan (faultV n)) S1 .ret S' ∧ Cons S S' ∧
    S'.row? S.length = some (newR [.int .i64 n] 27) := by
  have hr : S1.row? S.length = some (newR [.int .i64 x] 27) := Cons.row (h := h) (row_push_new rfl)
  have hlt := row_lt hr
  refine ⟨_, caught_pan n S.length _ S1 hr rfl (by simp [newR]), ?_, ?_⟩
  · unfold caughtMem
    exact (((Cons.push S _).trans h).pushr _).set _ _ (Nat.le_refl _)
  · unfold caughtMem
    rw [row_set_same (Cons.row (h := Cons.push _ _) hr) rfl]
    rfl
theorem aload_one {P : Program} {t : TypeId} {S : Mem} {a : Addr} {v : Value} (hl : loadOne P t = true) (hc : S.cell a = some v) : aloadAt P t (.pointer (some a)) S = some v := by
  unfold loadOne at hl
  simp only [aloadAt]
  split at hl
  · rename_i d i hd hi
    have hag : isAggD d = false := by simpa using hl
    simp only [hd, hi, hag, Bool.false_eq_true, if_false]
    exact hc
  · cases hl
theorem integer_C (a : Option Addr) (c : Nat) (b : BL) (S : Mem) (hI : BIn S a c b) : C Try.prog G (Known Try.prog G) 26 [.slice a b.length c] S fun v S' => ∃ d : Hd, v = .tuple #[d.v, .int .i64 (intE b)] ∧ RetW S S' d (intL b) := by
  refine C.known (known_def (Checked.mixed Try.checked) (fun _ _ _ _ _ h => h) Try.func26 rfl (by kernel_rfl) rfl ?_)
  refine DW.seq (DW.code ?_)
  repeat (first | refine W.seq ?_ | refine W.block ?_ | refine W.reg ?_ | refine W.skip ?_ | refine W.exit ?_ | refine W.ret ?_ | refine L.nil ?_ | refine L.p rfl rfl ?_ | refine L.skip rfl ?_)
  refine L.eff (v := .pointer (some ⟨S.length, 0, none⟩)) (S1 := S ++ [newR [.int .i64 0] 27]) rfl rfl ?_
  repeat (first | refine W.seq ?_ | refine W.block ?_ | refine W.reg ?_ | refine W.skip ?_ | refine W.exit ?_ | refine W.ret ?_ | refine L.nil ?_ | refine L.p rfl rfl ?_ | refine L.skip rfl ?_)
  refine DW.seq (DW.defer rfl rfl ?_)
  refine DW.code ?_
  have hC : Cons S (S ++ [newR [.int .i64 0] 27]) := Cons.push _ _
  have hI1 := hI.cons hC
  repeat (first | refine W.seq ?_ | refine W.block ?_ | refine W.reg ?_ | refine W.skip ?_ | refine W.exit ?_ | refine W.ret ?_ | refine L.nil ?_ | refine L.p rfl rfl ?_ | refine L.skip rfl ?_)
  refine L.co (number_C a c b _ hI1) rfl rfl ?_
  rintro o S1 hR
  unfold NumR at hR
  cases hn : numS b with
  | error n =>
    rw [hn] at hR
    obtain ⟨rfl, hc⟩ := hR
    refine ⟨rfl, ?_⟩
    obtain ⟨S2, q1, q2, q3⟩ := caught_new (G := G) (n := n) hc
    refine ⟨.pan (faultV n), _, S2, rfl, .cons q1 (.ret (v := .tuple #[.slice none 0 0, .int .i64 n]) ?_), Hd0, ?_, ?_⟩
    · have ha : aloadAt Try.prog 27 (.pointer (some ⟨S.length, 0, none⟩)) S2 = some (.int .i64 n) := aload_one rfl (cell_of (o := 0) (v := .int .i64 n) q3 rfl (.inl rfl))
      exact congrArg (fun o => Option.map (fun v => Value.tuple #[.slice none 0 0, v]) o) ha
    · unfold intE; rw [hn]; rfl
    · unfold intL; rw [hn]; exact RetW.nil q2
  | ok l =>
    rw [hn] at hR
    obtain ⟨d, rfl, hR⟩ := hR
    refine ⟨fun _ => hR.1, ?_⟩
    repeat (first | refine W.seq ?_ | refine W.block ?_ | refine W.reg ?_ | refine W.skip ?_ | refine W.exit ?_ | refine W.ret ?_ | refine L.nil ?_ | refine L.p rfl rfl ?_ | refine L.skip rfl ?_)
    obtain ⟨ρ, hρ⟩ : ∃ r, r = S.length := ⟨_, rfl⟩
    have hr : S1.row? S.length = some (newR [.int .i64 0] 27) := Cons.row (h := hR.1) (row_push_new rfl)
    refine L.st (ad := ⟨S.length, 0, none⟩) (vs := [.int .i64 0]) (write_of (o := 0) hr rfl (by simp [newR]) rfl) rfl rfl rfl rfl ?_
    have hset : S1.set S.length { newR [.int .i64 0] 27 with cells := putFrom (newR [.int .i64 0] 27).cells 0 [.int .i64 0] } = S1 := by
      refine List.ext_getElem? fun i => ?_
      rw [List.getElem?_set]
      split
      · rename_i h; subst h; rw [if_pos (row_lt hr)]; exact (Mem.row?_some hr).1.symm
      · rfl
    rw [hset]
    repeat (first | refine W.seq ?_ | refine W.block ?_ | refine W.reg ?_ | refine W.skip ?_ | refine W.exit ?_ | refine W.ret ?_ | refine L.nil ?_ | refine L.p rfl rfl ?_ | refine L.skip rfl ?_)
    refine ⟨.ret, _, S1, rfl, .cons (caught_ret _ _) (.ret (v := .tuple #[d.v, .int .i64 0]) ?_), d, ?_, ?_⟩
    · have ha : aloadAt Try.prog 27 (.pointer (some ⟨S.length, 0, none⟩)) S1 = some (.int .i64 0) := aload_one rfl (cell_of (o := 0) (v := .int .i64 0) hr rfl (.inl rfl))
      exact congrArg (fun o => Option.map (fun v => Value.tuple #[d.v, v]) o) ha
    · unfold intE; rw [hn]
    · unfold intL; rw [hn]; exact hR.pre hC
end Go.Proofs.Ytccdlijohkljcaa

/- A region that draws its order, where loads and stores are unordered but go to different rows. Conditions: none. -/
set_option linter.unusedSimpArgs false
set_option linter.unusedVariables false
namespace Go.Proofs.Ytccdlijohkljcaa
open Go
section
variable {P : Program} {G : Nat}
structure Order2 (P : Program) (ops : Array Oper) : Prop where
  less : ∀ {j : Nat} {o : Oper} {e : Edge}, ops[j]? = some o → e ∈ o.after → Region.binds .any e = true → e.on < j
  uniq : ∀ {i j : Nat} {oi oj : Oper} {d : Tmp}, ops[i]? = some oi → ops[j]? = some oj → i ≠ j → oi.dst = some d → oj.dst ≠ some d
  slot : ∀ {i j : Nat} {oi oj : Oper} {d : Tmp}, ops[i]? = some oi → ops[j]? = some oj → i ≠ j → oi.dst = some d → d ∈ oj.looksAt ops → Anc ops i j ∨ Anc ops j i
  effs : ∀ {i j : Nat} {oi oj : Oper}, ops[i]? = some oi → ops[j]? = some oj → i ≠ j → 2 ≤ opKind P oi → 2 ≤ opKind P oj → Anc ops i j ∨ Anc ops j i
theorem Order2.lt {ops : Array Oper} (h : Order2 P ops) {i j : Nat} (ha : Anc ops i j) : i < j := by
  induction ha with
  | edge ho he hb => exact h.less ho he hb
  | trans _ _ h1 h2 => exact Nat.lt_trans h1 h2
set_option maxHeartbeats 1000000 in
/-- a region that draws, by its run in the text's order; what a load reads, no unordered effect touches -/
theorem drawnR {ops : Array Oper} {n : Nat} (hord : Order2 P ops) (hok : opsOk n G ops = true) {e e' : Env} {S S' : Mem} {E : Nat → Env} {M : Nat → Mem} {V : Nat → Value} (hE0 : E 0 = e) (hM0 : M 0 = S) (hEN : E ops.size = e') (hMN : M ops.size = S')
    (hfact : ∀ (j : Nat) (o : Oper), ops[j]? = some o → Fact P G false ops E M V j o)
    (hloads : ∀ (i : Nat) (o : Oper), ops[i]? = some o → opKind P o = 1 → ∃ x ∈ o.op.operands, ∃ b, (∀ ρ u, VR ρ ((E i).eval x) u → ∃ c, At ρ b c) ∧ b < (M i).length ∧ (∀ S2 : Mem, S2[b]? = (M i)[b]? → aload P o (E i).eval S2 = some (V i)) ∧
      ∀ (k : Nat) (ok : Oper), ops[k]? = some ok → 2 ≤ opKind P ok → ¬ (Anc ops k i ∨ Anc ops i k) → (M (k + 1))[b]? = (M k)[b]?)
    {Q : Exit → Act → World → Prop} {ds : List Deferred} {ρ0 : Nat → Option Loc} {S0 : Mem} {w0 : World} (hK : Reach G n ds ρ0 S0 w0 e' S' (Q .normal))
    {ρ : Nat → Option Loc} {a : Act} {w : World} (hE : ER ρ e a) (hS : SR ρ S w) (hG : Glob G ρ) (hst : Stp ρ0 S0 w0 ρ S w) (hn : a.tmps.size = n) (hd : a.defers = ds) :
    wpAny P .any ops Q ops.size (Array.replicate ops.size false) a w := by
  have fact : ∀ {j : Nat} {o : Oper}, ops[j]? = some o → Fact P G false ops E M V j o := fun hj => hfact _ _ hj
  have lt : ∀ {j : Nat} {o : Oper}, ops[j]? = some o → j < ops.size := fun hj => (Array.getElem?_eq_some_iff.1 hj).1
  have getO : ∀ {j : Nat}, j < ops.size → ∃ o, ops[j]? = some o := fun hj => ⟨_, Array.getElem?_eq_getElem hj⟩
  -- memory stands still where nothing acts
  have mconst1 : ∀ {j : Nat} {o : Oper}, ops[j]? = some o → ¬ 2 ≤ opKind P o → M (j + 1) = M j := fun hj hk => by
    rcases (fact hj).2 with ⟨_, _, h⟩ | ⟨_, ⟨_, h⟩ | ⟨_, h⟩ | ⟨_, h, _⟩⟩
    · exact h
    · exact h
    · exact h
    · exact absurd h hk
  have mconst : ∀ (d a : Nat), a + d ≤ ops.size → (∀ k o, a ≤ k → k < a + d → ops[k]? = some o → ¬ 2 ≤ opKind P o) → M (a + d) = M a := by
    intro d
    induction d with
    | zero => intro a _ _; rfl
    | succ d ih =>
      intro a ha hk
      obtain ⟨o, ho⟩ := getO (j := a + d) (by omega)
      have := mconst1 ho (hk _ _ (by omega) (by omega) ho)
      rw [← Nat.add_assoc, this]
      exact ih a (by omega) (fun k o h1 h2 => hk k o h1 (by omega))
  have mrow : ∀ (b d a : Nat), a + d ≤ ops.size → (∀ k o, a ≤ k → k < a + d → ops[k]? = some o → 2 ≤ opKind P o → (M (k + 1))[b]? = (M k)[b]?) → (M (a + d))[b]? = (M a)[b]? := by
    intro b d
    induction d with
    | zero => intro a _ _; rfl
    | succ d ih =>
      intro a ha hk
      obtain ⟨o, ho⟩ := getO (j := a + d) (by omega)
      have h0 := ih a (by omega) (fun k o h1 h2 => hk k o h1 (by omega))
      rw [← h0, ← Nat.add_assoc]
      by_cases h2 : 2 ≤ opKind P o
      · exact hk _ _ (by omega) (by omega) ho h2
      · rw [mconst1 ho h2]
  -- what a slot holds
  have slotMiss : ∀ (j t : Nat), j ≤ ops.size → (∀ (k : Nat) (o : Oper), k < j → ops[k]? = some o → o.dst ≠ some t) → E j t = e t := by
    intro j
    induction j with
    | zero => intro t _ _; rw [hE0]
    | succ j ih =>
      intro t hj hk
      obtain ⟨o, ho⟩ := getO (j := j) (by omega)
      rw [(fact ho).1]
      have hne := hk j o (by omega) ho
      have : (E j).put o.dst (V j) t = E j t := by
        unfold Env.put
        split
        · rename_i d hd'
          rw [if_neg (fun h => hne (by rw [hd', h]))]
        · rfl
      rw [this]
      exact ih t (by omega) (fun k o h1 => hk k o (by omega))
  have slotHit : ∀ (j k t : Nat) (o : Oper), j ≤ ops.size → k < j → ops[k]? = some o → o.dst = some t → E j t = V k := by
    intro j
    induction j with
    | zero => intro k t o _ hk; omega
    | succ j ih =>
      intro k t o hj hk ho hdst
      obtain ⟨oj, hoj⟩ := getO (j := j) (by omega)
      rw [(fact hoj).1]
      by_cases hkj : k = j
      · subst hkj
        rw [ho] at hoj; cases hoj
        simp [Env.put, hdst]
      · have hne := hord.uniq ho hoj hkj hdst
        have : (E j).put oj.dst (V j) t = E j t := by
          unfold Env.put
          split
          · rename_i d hd'
            rw [if_neg (fun h => hne (by rw [hd', h]))]
          · rfl
        rw [this]
        exact ih k t o (by omega) (by omega) ho hdst
  -- the run
  have main : ∀ (fuel : Nat) (listed : Array Bool) (ρ : Nat → Option Loc) (m : Nat) (a : Act) (w : World), listed.toList.count false = fuel → Inv P G ops e M V ρ0 S0 w0 n ds ρ m listed a w → wpAny P .any ops Q fuel listed a w := by
    intro fuel
    induction fuel with
    | zero =>
      intro listed ρ m a w hcount I
      have all : ∀ k, k < ops.size → listed.getD k false = true := fun k hk => by
        rw [List.count_eq_zero] at hcount
        have hk' : k < listed.size := by rw [I.lsize]; exact hk
        have hmem : listed[k] ∈ listed.toList := by simp
        simp only [Array.getD_eq_getD_getElem?, Array.getElem?_eq_getElem hk', Option.getD_some]
        cases hb : listed[k] with
        | true => rfl
        | false => rw [hb] at hmem; exact absurd hmem hcount
      have hMm : M m = S' := by
        have := mconst (ops.size - m) m (by have := I.hm; omega) (fun k o h1 h2 ho hk => by
          have := (I.eff k o ho hk).1 (all k (lt ho)); omega)
        rw [show m + (ops.size - m) = ops.size from by have := I.hm; omega] at this
        rw [← this, hMN]
      refine ⟨?_, hK ρ a w ?_ (hMm ▸ I.sr) (hMm ▸ I.stp) I.size I.def_⟩
      · cases hr : Region.ready .any ops listed with
        | nil => rfl
        | cons i r =>
          have hi : i ∈ Region.ready .any ops listed := by rw [hr]; simp
          obtain ⟨h0, o, ho, _⟩ := mem_ready.1 hi
          have := all i (lt ho)
          have hi' : i < listed.size := by rw [I.lsize]; exact lt ho
          simp only [Array.getD_eq_getD_getElem?, Array.getElem?_eq_getElem hi', Option.getD_some] at h0 this
          rw [h0] at this; cases this
      · intro t
        rw [← hEN]
        by_cases hex : ∃ (k : Nat) (o : Oper), ops[k]? = some o ∧ o.dst = some t
        · obtain ⟨k, o, ho, hdst⟩ := hex
          rw [slotHit _ k t o (Nat.le_refl _) (lt ho) ho hdst]
          exact I.hit k o t ho (all k (lt ho)) hdst
        · rw [slotMiss _ t (Nat.le_refl _) (fun k o _ ho hdst => hex ⟨k, o, ho, hdst⟩)]
          exact I.miss t (fun k o ho _ hdst => hex ⟨k, o, ho, hdst⟩)
    | succ fuel ih =>
      intro listed ρ m a w hcount I
      refine ⟨fun hnil => ?_, fun i hi => ?_⟩
      · -- somebody may always come up
        exfalso
        have hmem : false ∈ listed.toList := by
          have : 0 < listed.toList.count false := by omega
          exact List.count_pos_iff.1 this
        obtain ⟨k, hk⟩ := List.mem_iff_getElem?.1 hmem
        have hleast : ∀ k : Nat, listed[k]? = some false → ∃ i, i ∈ Region.ready .any ops listed := by
          intro k
          induction k using Nat.strongRecOn with
          | _ k ihk =>
            intro hk
            have hks : k < ops.size := by rw [← I.lsize]; exact (Array.getElem?_eq_some_iff.1 hk).1
            obtain ⟨o, ho⟩ := getO hks
            by_cases hall : ∀ x ∈ o.after, Region.binds .any x = true → listed.getD x.on false = true
            · exact ⟨k, mem_ready.2 ⟨by simp [hk], o, ho, hall⟩⟩
            · simp only [Classical.not_forall] at hall
              obtain ⟨x, hx, hb, hxl⟩ := hall
              have hlt := hord.less ho hx hb
              refine ihk x.on hlt ?_
              have hxs : x.on < listed.size := by rw [I.lsize]; omega
              rw [Array.getElem?_eq_getElem hxs]
              simp only [Array.getD_eq_getD_getElem?, Array.getElem?_eq_getElem hxs, Option.getD_some] at hxl
              simpa using hxl
        obtain ⟨i, hi⟩ := hleast k (by simpa using hk)
        rw [hnil] at hi; cases hi
      · obtain ⟨h0, o, ho, hall⟩ := mem_ready.1 hi
        have hisz := lt ho
        have hil : i < listed.size := by rw [I.lsize]; exact hisz
        have hif : listed[i]? = some false := by
          rw [Array.getElem?_eq_getElem hil]
          simp only [Array.getD_eq_getD_getElem?, Array.getElem?_eq_getElem hil, Option.getD_some] at h0
          rw [h0]
        have hin : ¬ listed.getD i false = true := by simp [hif]
        have hpre : ∀ {k : Nat}, Anc ops k i → listed.getD k false = true := fun ha => I.ancReady ho hall ha
        have hpost : ∀ {k : Nat}, Anc ops i k → ¬ listed.getD k false = true := fun ha hk => hin (I.anc ha hk)
        -- the slots that it looks at
        have hlook : ∀ t, t ∈ o.looksAt ops → VR ρ (E i t) (a.tmps.getD t undef) := by
          intro t ht
          by_cases hex : ∃ (k : Nat) (ok : Oper), ops[k]? = some ok ∧ ok.dst = some t ∧ k ≠ i
          · obtain ⟨k, ok, hok', hdst, hne⟩ := hex
            rcases hord.slot hok' ho hne hdst ht with hA | hA
            · rw [slotHit i k t ok (by omega) (hord.lt hA) hok' hdst]
              exact I.hit k ok t hok' (hpre hA) hdst
            · have hki := hord.lt hA
              rw [slotMiss i t (by omega) (fun q oq hq hoq hdq => hord.uniq hoq hok' (by omega) hdq hdst)]
              refine I.miss t (fun q oq hoq hql hdq => ?_)
              by_cases hqk : q = k
              · subst hqk; exact hpost hA hql
              · exact hord.uniq hoq hok' hqk hdq hdst
          · rw [slotMiss i t (by omega) (fun q oq hq hoq hdq => hex ⟨q, oq, hoq, hdq, by omega⟩)]
            refine I.miss t (fun q oq hoq hql hdq => hex ⟨q, oq, hoq, hdq, fun hqi => ?_⟩)
            subst hqi; exact hin hql
        have hopv : ∀ x ∈ o.op.operands, VR ρ ((E i).eval x) (a.eval x) := fun x hx => eval_VR I.gl ((opsOk_mem hok ho).2 x hx) (fun t ht => hlook t (by
          subst ht
          simp only [Oper.looksAt, List.mem_append, List.mem_filterMap]
          exact .inl ⟨.tmp t, by simpa using hx, rfl⟩))
        have hwant : Region.wanted o (yielded ops a.tmps) = awanted ops o (E i) := wanted_eq I.size hok hlook
        have hdstlt : ∀ d, o.dst = some d → d < a.tmps.size := fun d h => by rw [I.size]; exact (opsOk_mem hok ho).1 d h
        have hcnt : (listed.setIfInBounds i true).toList.count false = fuel := by
          have := count_set_true listed.toList i (by simpa using hif)
          rw [Array.toList_setIfInBounds]
          omega
        have hset : ∀ k, (listed.setIfInBounds i true).getD k false = true ↔ listed.getD k false = true ∨ k = i := fun k => by
          by_cases hki : i = k
          · subst hki; simp [hil]
          · rw [getD_set_ne false hki]; constructor
            · exact .inl
            · rintro (h | h)
              · exact h
              · exact absurd h.symm hki
        -- how it goes on, once it has been carried out
        have go : ∀ (v' : Value) (ρ' : Nat → Option Loc) (m' : Nat) (w' : World), VR ρ' (V i) v' → m' ≤ ops.size → SR ρ' (M m') w' → Sub ρ ρ' → Stp ρ0 S0 w0 ρ' (M m') w' →
            (∀ (k : Nat) (ok : Oper), ops[k]? = some ok → 2 ≤ opKind P ok → ((listed.getD k false = true ∨ k = i) ↔ k < m')) → wpAny P .any ops Q fuel (listed.setIfInBounds i true) (a.put o.dst v') w' := by
          intro v' ρ' m' w' hv hm' hs hsub hstp heff
          refine ih _ ρ' m' _ w' hcnt ⟨fun j oj x hoj hjl hx hb => ?_, fun k ok t hok' hkl hdst => ?_, fun t hmiss => ?_, hm', fun k ok hok' hk => ?_, hs, fun g hg => (I.gl g hg).mono hsub, hstp, by rw [put_size]; exact I.size, by rw [put_defers']; exact I.def_, by simpa using I.lsize⟩
          · rw [hset] at hjl ⊢
            rcases hjl with hjl | rfl
            · exact .inl (I.closed j oj x hoj hjl hx hb)
            · rw [ho] at hoj; cases hoj; exact .inl (hall x hx hb)
          · by_cases hki : k = i
            · subst hki
              rw [ho] at hok'; cases hok'
              have hdl := hdstlt t hdst
              simp [Act.put, hdst, hdl]
              exact hv
            · rw [hset] at hkl
              have := (I.hit k ok t hok' (hkl.resolve_right hki) hdst).mono hsub
              have hne := hord.uniq hok' ho hki hdst
              rw [show (a.put o.dst v').tmps.getD t undef = a.tmps.getD t undef from ?_]
              · exact this
              · cases hd' : o.dst with
                | none => rfl
                | some d =>
                  simp only [Act.put, Array.getD_eq_getD_getElem?]
                  rw [Array.getElem?_setIfInBounds_ne (fun h => hne (by rw [hd', h]))]
          · have h1 : o.dst ≠ some t := hmiss i o ho ((hset i).2 (.inr rfl))
            have := (I.miss t (fun k ok hok' hkl => hmiss k ok hok' ((hset k).2 (.inl hkl)))).mono hsub
            rw [show (a.put o.dst v').tmps.getD t undef = a.tmps.getD t undef from ?_]
            · exact this
            · cases hd' : o.dst with
              | none => rfl
              | some d =>
                simp only [Act.put, Array.getD_eq_getD_getElem?]
                rw [Array.getElem?_setIfInBounds_ne (fun h => h1 (by rw [hd', h]))]
          · rw [hset]; exact heff k ok hok' hk
        -- where it acts on memory: memory is the text's
        have hact : 2 ≤ opKind P o → M m = M i ∧ ∀ (k : Nat) (ok : Oper), ops[k]? = some ok → 2 ≤ opKind P ok → ((listed.getD k false = true ∨ k = i) ↔ k < i + 1) := by
          intro hk2
          have hmi : m ≤ i := by
            rcases Nat.lt_or_ge i m with h9 | h9
            · exact absurd ((I.eff i o ho hk2).2 h9) hin
            · exact h9
          refine ⟨?_, fun k ok hok' hk => ?_⟩
          · have := mconst (i - m) m (by omega) (fun k ok h1 h2 hok' hk => by
              rcases hord.effs hok' ho (by omega) hk hk2 with hA | hA
              · have := (I.eff k ok hok' hk).1 (hpre hA); omega
              · have := hord.lt hA; omega)
            rw [show m + (i - m) = i from by omega] at this
            exact this.symm
          · by_cases hki : k = i
            · subst hki; exact ⟨fun _ => by omega, fun _ => .inr rfl⟩
            · rcases hord.effs hok' ho hki hk hk2 with hA | hA
              · have := hord.lt hA
                exact ⟨fun _ => by omega, fun _ => .inl (hpre hA)⟩
              · have := hord.lt hA
                exact ⟨fun hh => absurd (hh.resolve_right hki) (hpost hA), fun _ => by omega⟩
        have hquiet : ¬ 2 ≤ opKind P o → ∀ (k : Nat) (ok : Oper), ops[k]? = some ok → 2 ≤ opKind P ok → ((listed.getD k false = true ∨ k = i) ↔ k < m) := fun hk k ok hok' hk' => by
          rw [← I.eff k ok hok' hk']
          exact ⟨fun hh => hh.resolve_right (fun e => by subst e; rw [ho] at hok'; cases hok'; exact hk hk'), .inl⟩
        -- a step that leaves memory alone
        have same : ∀ (v' : Value), VR ρ (V i) v' → M (i + 1) = M i → wpAny P .any ops Q fuel (listed.setIfInBounds i true) (a.put o.dst v') w := fun v' hv hMi => by
          by_cases hk2 : 2 ≤ opKind P o
          · obtain ⟨h1, h2⟩ := hact hk2
            exact go v' ρ (i + 1) w hv (by omega) (by rw [hMi, ← h1]; exact I.sr) (Sub.refl _) (by rw [hMi, ← h1]; exact I.stp) h2
          · exact go v' ρ m w hv I.hm I.sr (Sub.refl _) I.stp (hquiet hk2)
        unfold wpOp
        simp only [ho]
        rw [hwant]
        rcases (fact ho).2 with ⟨hw, hV, hMi⟩ | ⟨hw, ⟨hp, hMi⟩ | ⟨hp, hMi⟩ | ⟨hp, hk2, _⟩⟩
        · rw [hw]
          simp only [Bool.false_eq_true, if_false]
          exact same undef (by rw [hV]; exact flat_VR ρ undef_flat) hMi
        · rw [hw]
          simp only [if_true]
          obtain ⟨v', hv', hrun⟩ := apure_sound hp hopv
          exact .inl (wp_value (hrun w) (same v' hv' hMi))
        · rw [hw]
          simp only [if_true]
          obtain ⟨hk1, _⟩ := aload_agree hp
          obtain ⟨x, hx, b, hb, hbl, hagree, hun⟩ := hloads i o ho hk1
          have hsame : (M m)[b]? = (M i)[b]? := by
            rcases Nat.lt_or_ge i m with him | him
            · have hc := mrow b (m - i) i (by have := I.hm; omega) (fun k ok h1 h2 hok' hk => by
                refine hun k ok hok' hk fun hA => ?_
                have hkl := (I.eff k ok hok' hk).2 (by omega)
                rcases hA with hA | hA
                · have := hord.lt hA; omega
                · exact hpost hA hkl)
              rw [show i + (m - i) = m from by omega] at hc
              exact hc
            · have hc := mrow b (i - m) m (by omega) (fun k ok h1 h2 hok' hk => by
                refine hun k ok hok' hk fun hA => ?_
                rcases hA with hA | hA
                · have := (I.eff k ok hok' hk).1 (hpre hA); omega
                · have := hord.lt hA; omega)
              rw [show m + (i - m) = i from by omega] at hc
              exact hc.symm
          obtain ⟨v', hv', hrun⟩ := aload_sound I.sr (hagree (M m) hsame) hopv
          exact .inl (wp_value hrun (same v' hv' hMi))
        · rw [hw]
          simp only [if_true]
          obtain ⟨h1, h2⟩ := hact hk2
          refine .inl (hp ρ a w _ _ hopv (h1 ▸ I.sr) I.gl fun v' ρ' w' q1 q2 q3 => ?_)
          exact go v' ρ' (i + 1) w' q1 (by omega) q2 q3.ext (Stp.trans (h1 ▸ I.stp) q3) h2
  refine main ops.size _ ρ 0 a w (by simp) ⟨fun j o x ho hl => ?_, fun k o t ho hl => ?_, fun t _ => hE t, Nat.zero_le _, fun k o ho _ => ?_, by rw [hM0]; exact hS, hG, by rw [hM0]; exact hst, hn, hd, by simp⟩
  · by_cases hj : j < ops.size
    · simp [hj] at hl
    · simp [hj] at hl
  · by_cases hk : k < ops.size
    · simp [hk] at hl
    · simp [hk] at hl
  · by_cases hk : k < ops.size
    · simp [hk]
    · simp [hk]
end
end Go.Proofs.Ytccdlijohkljcaa

/- A region that draws its order, with one allocation that may come at any time. Conditions: none. -/
set_option linter.unusedSimpArgs false
set_option linter.unusedVariables false
namespace Go.Proofs.Ytccdlijohkljcaa
open Go
section
variable {P : Program} {G : Nat}
/-- the state on the way; the slot X is not told -/
structure InvX (P : Program) (G : Nat) (ops : Array Oper) (e0 : Env) (M : Nat → Mem) (V : Nat → Value) (ρ0 : Nat → Option Loc) (S0 : Mem) (w0 : World) (n : Nat) (ds : List Deferred) (X : Option Tmp)
    (ρ : Nat → Option Loc) (m : Nat) (listed : Array Bool) (a : Act) (w : World) : Prop where
  closed : ∀ (j : Nat) (o : Oper) (x : Edge), ops[j]? = some o → listed.getD j false = true → x ∈ o.after → Region.binds .any x = true → listed.getD x.on false = true
  hit : ∀ (k : Nat) (o : Oper) (t : Tmp), ops[k]? = some o → listed.getD k false = true → o.dst = some t → X ≠ some t → VR ρ (V k) (a.tmps.getD t undef)
  miss : ∀ t, X ≠ some t → (∀ (k : Nat) (o : Oper), ops[k]? = some o → listed.getD k false = true → o.dst ≠ some t) → VR ρ (e0 t) (a.tmps.getD t undef)
  hm : m ≤ ops.size
  eff : ∀ (k : Nat) (o : Oper), ops[k]? = some o → 2 ≤ opKind P o → (listed.getD k false = true ↔ k < m)
  sr : SR ρ (M m) w
  gl : Glob G ρ
  stp : Stp ρ0 S0 w0 ρ (M m) w
  size : a.tmps.size = n
  def_ : a.defers = ds
  lsize : listed.size = ops.size
def ClosedL (ops : Array Oper) (listed : Array Bool) : Prop := ∀ (j : Nat) (o : Oper) (x : Edge), ops[j]? = some o → listed.getD j false = true → x ∈ o.after → Region.binds .any x = true → listed.getD x.on false = true
theorem ClosedL.anc {ops : Array Oper} {listed : Array Bool} (h : ClosedL ops listed) {i j : Nat} (ha : Anc ops i j) : listed.getD j false = true → listed.getD i false = true := by
  induction ha with
  | edge ho he hb => exact fun hj => h _ _ _ ho hj he hb
  | trans _ _ ih1 ih2 => exact fun hk => ih1 (ih2 hk)
theorem ClosedL.ready {ops : Array Oper} {listed : Array Bool} (h : ClosedL ops listed) {i j : Nat} {o : Oper} (ho : ops[j]? = some o) (hr : ∀ x ∈ o.after, Region.binds .any x = true → listed.getD x.on false = true) (ha : Anc ops i j) : listed.getD i false = true := by
  induction ha with
  | edge ho' he hb => rw [ho] at ho'; cases ho'; exact hr _ he hb
  | trans h1 h2 ih1 ih2 => exact h.anc h1 (ih2 ho)
structure Ord3 (P : Program) (ops : Array Oper) (A : Nat) : Prop where
  less : ∀ {j : Nat} {o : Oper} {e : Edge}, ops[j]? = some o → e ∈ o.after → Region.binds .any e = true → e.on < j
  uniq : ∀ {i j : Nat} {oi oj : Oper} {d : Tmp}, ops[i]? = some oi → ops[j]? = some oj → i ≠ j → oi.dst = some d → oj.dst ≠ some d
  slot : ∀ {i j : Nat} {oi oj : Oper} {d : Tmp}, ops[i]? = some oi → ops[j]? = some oj → i ≠ j → oi.dst = some d → d ∈ oj.looksAt ops → Anc ops i j ∨ Anc ops j i
  effs : ∀ {i j : Nat} {oi oj : Oper}, ops[i]? = some oi → ops[j]? = some oj → i ≠ j → i ≠ A → j ≠ A → 2 ≤ opKind P oi → 2 ≤ opKind P oj → Anc ops i j ∨ Anc ops j i
  late : ∀ {k : Nat} {ok : Oper}, ops[k]? = some ok → 2 ≤ opKind P ok → A < k → Anc ops A k
  wait : ∀ {j k : Nat} {oj ok : Oper} {e : Edge}, ops[j]? = some oj → e ∈ oj.after → Region.binds .any e = true → e.on = A → ops[k]? = some ok → 2 ≤ opKind P ok → k < A → Anc ops k j
theorem Ord3.lt {ops : Array Oper} {A : Nat} (h : Ord3 P ops A) {i j : Nat} (ha : Anc ops i j) : i < j := by
  induction ha with
  | edge ho he hb => exact h.less ho he hb
  | trans _ _ h1 h2 => exact Nat.lt_trans h1 h2
theorem Ord3.waits {ops : Array Oper} {A k i : Nat} {ok : Oper} (h : Ord3 P ops A) (ha : Anc ops A i) (hk : ops[k]? = some ok) (h2 : 2 ≤ opKind P ok) (hlt : k < A) : Anc ops k i := by
  generalize hA : A = A' at ha
  induction ha with
  | edge ho he hb => exact h.wait ho he hb hA.symm hk h2 hlt
  | trans h1 h2' ih1 ih2 => exact .trans (ih1 hA) h2'
set_option maxHeartbeats 2000000 in
/-- one operation, where memory is as the text has it -/
theorem InvX.step {ops : Array Oper} {n A : Nat} (hord : Ord3 P ops A) (hok : opsOk n G ops = true) {e : Env} {E : Nat → Env} {M : Nat → Mem} {V : Nat → Value} (hE0 : E 0 = e)
    (hfact : ∀ (j : Nat) (o : Oper), ops[j]? = some o → Fact P G false ops E M V j o)
    (hloads : ∀ (i : Nat) (o : Oper), ops[i]? = some o → opKind P o = 1 → ∃ x ∈ o.op.operands, ∃ b, (∀ ρ u, VR ρ ((E i).eval x) u → ∃ c, At ρ b c) ∧ b < (M i).length ∧ (∀ S2 : Mem, S2[b]? = (M i)[b]? → aload P o (E i).eval S2 = some (V i)) ∧
      ∀ (k : Nat) (ok : Oper), ops[k]? = some ok → 2 ≤ opKind P ok → ¬ (Anc ops k i ∨ Anc ops i k) → (M (k + 1))[b]? = (M k)[b]?)
    {ds : List Deferred} {ρ0 : Nat → Option Loc} {S0 : Mem} {w0 : World} {X : Option Tmp} {ρ : Nat → Option Loc} {m : Nat} {listed : Array Bool} {a : Act} {w : World} (I : InvX P G ops e M V ρ0 S0 w0 n ds X ρ m listed a w)
    {i : Nat} {o : Oper} (ho : ops[i]? = some o) (hif : listed[i]? = some false) (hall : ∀ x ∈ o.after, Region.binds .any x = true → listed.getD x.on false = true)
    (hX : ∀ t, X = some t → t ∉ o.looksAt ops) (hXd : ∀ t, X = some t → o.dst ≠ some t)
    (hin' : 2 ≤ opKind P o → ∀ (k : Nat) (ok : Oper), ops[k]? = some ok → 2 ≤ opKind P ok → k ≠ i → (listed.getD k false = true ↔ k < i))
    {Q : Exit → Act → World → Prop} {K : Act → World → Prop}
    (hK : ∀ (v' : Value) (ρ' : Nat → Option Loc) (m' : Nat) (w' : World), InvX P G ops e M V ρ0 S0 w0 n ds X ρ' m' (listed.setIfInBounds i true) (a.put o.dst v') w' → Stp ρ (M m) w ρ' (M m') w' → K (a.put o.dst v') w') : wpOp P ops Q i K a w := by
  have fact : ∀ {j : Nat} {o : Oper}, ops[j]? = some o → Fact P G false ops E M V j o := fun hj => hfact _ _ hj
  have lt : ∀ {j : Nat} {o : Oper}, ops[j]? = some o → j < ops.size := fun hj => (Array.getElem?_eq_some_iff.1 hj).1
  have getO : ∀ {j : Nat}, j < ops.size → ∃ o, ops[j]? = some o := fun hj => ⟨_, Array.getElem?_eq_getElem hj⟩
  -- memory stands still where nothing acts
  have mconst1 : ∀ {j : Nat} {o : Oper}, ops[j]? = some o → ¬ 2 ≤ opKind P o → M (j + 1) = M j := fun hj hk => by
    rcases (fact hj).2 with ⟨_, _, h⟩ | ⟨_, ⟨_, h⟩ | ⟨_, h⟩ | ⟨_, h, _⟩⟩
    · exact h
    · exact h
    · exact h
    · exact absurd h hk
  have mconst : ∀ (d a : Nat), a + d ≤ ops.size → (∀ k o, a ≤ k → k < a + d → ops[k]? = some o → ¬ 2 ≤ opKind P o) → M (a + d) = M a := by
    intro d
    induction d with
    | zero => intro a _ _; rfl
    | succ d ih =>
      intro a ha hk
      obtain ⟨o, ho⟩ := getO (j := a + d) (by omega)
      have := mconst1 ho (hk _ _ (by omega) (by omega) ho)
      rw [← Nat.add_assoc, this]
      exact ih a (by omega) (fun k o h1 h2 => hk k o h1 (by omega))
  have mrow : ∀ (b d a : Nat), a + d ≤ ops.size → (∀ k o, a ≤ k → k < a + d → ops[k]? = some o → 2 ≤ opKind P o → (M (k + 1))[b]? = (M k)[b]?) → (M (a + d))[b]? = (M a)[b]? := by
    intro b d
    induction d with
    | zero => intro a _ _; rfl
    | succ d ih =>
      intro a ha hk
      obtain ⟨o, ho⟩ := getO (j := a + d) (by omega)
      have h0 := ih a (by omega) (fun k o h1 h2 => hk k o h1 (by omega))
      rw [← h0, ← Nat.add_assoc]
      by_cases h2 : 2 ≤ opKind P o
      · exact hk _ _ (by omega) (by omega) ho h2
      · rw [mconst1 ho h2]
  -- what a slot holds
  have slotMiss : ∀ (j t : Nat), j ≤ ops.size → (∀ (k : Nat) (o : Oper), k < j → ops[k]? = some o → o.dst ≠ some t) → E j t = e t := by
    intro j
    induction j with
    | zero => intro t _ _; rw [hE0]
    | succ j ih =>
      intro t hj hk
      obtain ⟨o, ho⟩ := getO (j := j) (by omega)
      rw [(fact ho).1]
      have hne := hk j o (by omega) ho
      have : (E j).put o.dst (V j) t = E j t := by
        unfold Env.put
        split
        · rename_i d hd'
          rw [if_neg (fun h => hne (by rw [hd', h]))]
        · rfl
      rw [this]
      exact ih t (by omega) (fun k o h1 => hk k o (by omega))
  have slotHit : ∀ (j k t : Nat) (o : Oper), j ≤ ops.size → k < j → ops[k]? = some o → o.dst = some t → E j t = V k := by
    intro j
    induction j with
    | zero => intro k t o _ hk; omega
    | succ j ih =>
      intro k t o hj hk ho hdst
      obtain ⟨oj, hoj⟩ := getO (j := j) (by omega)
      rw [(fact hoj).1]
      by_cases hkj : k = j
      · subst hkj
        rw [ho] at hoj; cases hoj
        simp [Env.put, hdst]
      · have hne := hord.uniq ho hoj hkj hdst
        have : (E j).put oj.dst (V j) t = E j t := by
          unfold Env.put
          split
          · rename_i d hd'
            rw [if_neg (fun h => hne (by rw [hd', h]))]
          · rfl
        rw [this]
        exact ih k t o (by omega) (by omega) ho hdst
  have hisz := lt ho
  have hil : i < listed.size := by rw [I.lsize]; exact hisz
  have hin : ¬ listed.getD i false = true := by simp [hif]
  have hcl : ClosedL ops listed := I.closed
  have hpre : ∀ {k : Nat}, Anc ops k i → listed.getD k false = true := fun ha => hcl.ready ho hall ha
  have hpost : ∀ {k : Nat}, Anc ops i k → ¬ listed.getD k false = true := fun ha hk => hin (hcl.anc ha hk)
  -- the slots that it looks at
  have hlook : ∀ t, t ∈ o.looksAt ops → VR ρ (E i t) (a.tmps.getD t undef) := by
    intro t ht
    have hXt : X ≠ some t := fun h => hX t h ht
    by_cases hex : ∃ (k : Nat) (ok : Oper), ops[k]? = some ok ∧ ok.dst = some t ∧ k ≠ i
    · obtain ⟨k, ok, hok', hdst, hne⟩ := hex
      rcases hord.slot hok' ho hne hdst ht with hA | hA
      · rw [slotHit i k t ok (by omega) (hord.lt hA) hok' hdst]
        exact I.hit k ok t hok' (hpre hA) hdst hXt
      · have hki := hord.lt hA
        rw [slotMiss i t (by omega) (fun q oq hq hoq hdq => hord.uniq hoq hok' (by omega) hdq hdst)]
        refine I.miss t hXt (fun q oq hoq hql hdq => ?_)
        by_cases hqk : q = k
        · subst hqk; exact hpost hA hql
        · exact hord.uniq hoq hok' hqk hdq hdst
    · rw [slotMiss i t (by omega) (fun q oq hq hoq hdq => hex ⟨q, oq, hoq, hdq, by omega⟩)]
      refine I.miss t hXt (fun q oq hoq hql hdq => hex ⟨q, oq, hoq, hdq, fun hqi => ?_⟩)
      subst hqi; exact hin hql
  have hopv : ∀ x ∈ o.op.operands, VR ρ ((E i).eval x) (a.eval x) := fun x hx => eval_VR I.gl ((opsOk_mem hok ho).2 x hx) (fun t ht => hlook t (by
    subst ht
    simp only [Oper.looksAt, List.mem_append, List.mem_filterMap]
    exact .inl ⟨.tmp t, by simpa using hx, rfl⟩))
  have hwant : Region.wanted o (yielded ops a.tmps) = awanted ops o (E i) := wanted_eq I.size hok hlook
  have hdstlt : ∀ d, o.dst = some d → d < a.tmps.size := fun d h => by rw [I.size]; exact (opsOk_mem hok ho).1 d h
  have hset : ∀ k, (listed.setIfInBounds i true).getD k false = true ↔ listed.getD k false = true ∨ k = i := fun k => by
    by_cases hki : i = k
    · subst hki; simp [hil]
    · rw [getD_set_ne false hki]; constructor
      · exact .inl
      · rintro (h | h)
        · exact h
        · exact absurd h.symm hki
  -- how it goes on, once it has been carried out
  have go : ∀ (v' : Value) (ρ' : Nat → Option Loc) (m' : Nat) (w' : World), VR ρ' (V i) v' → m' ≤ ops.size → SR ρ' (M m') w' → Sub ρ ρ' → Stp ρ (M m) w ρ' (M m') w' →
      (∀ (k : Nat) (ok : Oper), ops[k]? = some ok → 2 ≤ opKind P ok → ((listed.getD k false = true ∨ k = i) ↔ k < m')) → K (a.put o.dst v') w' := by
    intro v' ρ' m' w' hv hm' hs hsub hstp heff
    refine hK _ ρ' m' w' ⟨fun j oj x hoj hjl hx hb => ?_, fun k ok t hok' hkl hdst hXt => ?_, fun t hXt hmiss => ?_, hm', fun k ok hok' hk => ?_, hs, fun g hg => (I.gl g hg).mono hsub, I.stp.trans hstp, by rw [put_size]; exact I.size, by rw [put_defers']; exact I.def_, by simpa using I.lsize⟩ hstp
    · rw [hset] at hjl ⊢
      rcases hjl with hjl | rfl
      · exact .inl (I.closed j oj x hoj hjl hx hb)
      · rw [ho] at hoj; cases hoj; exact .inl (hall x hx hb)
    · by_cases hki : k = i
      · subst hki
        rw [ho] at hok'; cases hok'
        have hdl := hdstlt t hdst
        simp [Act.put, hdst, hdl]
        exact hv
      · rw [hset] at hkl
        have := (I.hit k ok t hok' (hkl.resolve_right hki) hdst hXt).mono hsub
        have hne := hord.uniq hok' ho hki hdst
        rw [show (a.put o.dst v').tmps.getD t undef = a.tmps.getD t undef from ?_]
        · exact this
        · cases hd' : o.dst with
          | none => rfl
          | some d =>
            simp only [Act.put, Array.getD_eq_getD_getElem?]
            rw [Array.getElem?_setIfInBounds_ne (fun h => hne (by rw [hd', h]))]
    · have h1 : o.dst ≠ some t := hmiss i o ho ((hset i).2 (.inr rfl))
      have := (I.miss t hXt (fun k ok hok' hkl => hmiss k ok hok' ((hset k).2 (.inl hkl)))).mono hsub
      rw [show (a.put o.dst v').tmps.getD t undef = a.tmps.getD t undef from ?_]
      · exact this
      · cases hd' : o.dst with
        | none => rfl
        | some d =>
          simp only [Act.put, Array.getD_eq_getD_getElem?]
          rw [Array.getElem?_setIfInBounds_ne (fun h => h1 (by rw [hd', h]))]
    · rw [hset]; exact heff k ok hok' hk
  -- where it acts on memory: memory is the text's
  have hact : 2 ≤ opKind P o → M m = M i ∧ ∀ (k : Nat) (ok : Oper), ops[k]? = some ok → 2 ≤ opKind P ok → ((listed.getD k false = true ∨ k = i) ↔ k < i + 1) := by
    intro hk2
    have hmi : m ≤ i := by
      rcases Nat.lt_or_ge i m with h9 | h9
      · exact absurd ((I.eff i o ho hk2).2 h9) hin
      · exact h9
    refine ⟨?_, fun k ok hok' hk => ?_⟩
    · have := mconst (i - m) m (by omega) (fun k ok h1 h2 hok' hk => by
        have h3 := (hin' hk2 k ok hok' hk (by omega)).2 (by omega)
        have := (I.eff k ok hok' hk).1 h3
        omega)
      rw [show m + (i - m) = i from by omega] at this
      exact this.symm
    · by_cases hki : k = i
      · subst hki; exact ⟨fun _ => by omega, fun _ => .inr rfl⟩
      · have h3 := hin' hk2 k ok hok' hk hki
        exact ⟨fun hh => by have := h3.1 (hh.resolve_right hki); omega, fun hh => .inl (h3.2 (by omega))⟩
  have hquiet : ¬ 2 ≤ opKind P o → ∀ (k : Nat) (ok : Oper), ops[k]? = some ok → 2 ≤ opKind P ok → ((listed.getD k false = true ∨ k = i) ↔ k < m) := fun hk k ok hok' hk' => by
    rw [← I.eff k ok hok' hk']
    exact ⟨fun hh => hh.resolve_right (fun e => by subst e; rw [ho] at hok'; cases hok'; exact hk hk'), .inl⟩
  -- a step that leaves memory alone
  have same : ∀ (v' : Value), VR ρ (V i) v' → M (i + 1) = M i → K (a.put o.dst v') w := fun v' hv hMi => by
    by_cases hk2 : 2 ≤ opKind P o
    · obtain ⟨h1, h2⟩ := hact hk2
      exact go v' ρ (i + 1) w hv (by omega) (by rw [hMi, ← h1]; exact I.sr) (Sub.refl _) (by rw [hMi, ← h1]; exact Stp.refl _ _ _) h2
    · exact go v' ρ m w hv I.hm I.sr (Sub.refl _) (Stp.refl _ _ _) (hquiet hk2)
  unfold wpOp
  simp only [ho]
  rw [hwant]
  rcases (fact ho).2 with ⟨hw, hV, hMi⟩ | ⟨hw, ⟨hp, hMi⟩ | ⟨hp, hMi⟩ | ⟨hp, hk2, _⟩⟩
  · rw [hw]
    simp only [Bool.false_eq_true, if_false]
    exact same undef (by rw [hV]; exact flat_VR ρ undef_flat) hMi
  · rw [hw]
    simp only [if_true]
    obtain ⟨v', hv', hrun⟩ := apure_sound hp hopv
    exact .inl (wp_value (hrun w) (same v' hv' hMi))
  · rw [hw]
    simp only [if_true]
    obtain ⟨hk1, _⟩ := aload_agree hp
    obtain ⟨x, hx, b, hb, hbl, hagree, hun⟩ := hloads i o ho hk1
    have hsame : (M m)[b]? = (M i)[b]? := by
      rcases Nat.lt_or_ge i m with him | him
      · have hc := mrow b (m - i) i (by have := I.hm; omega) (fun k ok h1 h2 hok' hk => by
          refine hun k ok hok' hk fun hA => ?_
          have hkl := (I.eff k ok hok' hk).2 (by omega)
          rcases hA with hA | hA
          · have := hord.lt hA; omega
          · exact hpost hA hkl)
        rw [show i + (m - i) = m from by omega] at hc
        exact hc
      · have hc := mrow b (i - m) m (by omega) (fun k ok h1 h2 hok' hk => by
          refine hun k ok hok' hk fun hA => ?_
          rcases hA with hA | hA
          · have := (I.eff k ok hok' hk).1 (hpre hA); omega
          · have := hord.lt hA; omega)
        rw [show m + (i - m) = i from by omega] at hc
        exact hc.symm
    obtain ⟨v', hv', hrun⟩ := aload_sound I.sr (hagree (M m) hsame) hopv
    exact .inl (wp_value hrun (same v' hv' hMi))
  · rw [hw]
    simp only [if_true]
    obtain ⟨h1, h2⟩ := hact hk2
    refine .inl (hp ρ a w _ _ hopv (h1 ▸ I.sr) I.gl fun v' ρ' w' q1 q2 q3 => ?_)
    exact go v' ρ' (i + 1) w' q1 (by omega) q2 q3.ext (by rw [h1]; exact q3) h2
/-- an allocation that nobody knows of yet -/
theorem SR.beside {ρ : Nat → Option Loc} {S : Mem} {w : World} (h : SR ρ S w) (c : Array Value) (t : TypeId) : SR ρ S (w.alloc (.cells c t)) ∧ Stp ρ S w ρ S (w.alloc (.cells c t)) ∧ Lone ρ S w.heap.size := by
  have hold : ∀ k, k < w.heap.size → (w.alloc (.cells c t)).heap[k]? = w.heap[k]? := fun k hk => by
    show (w.heap.push _)[k]? = _
    rw [Array.getElem?_push, if_neg (by omega)]
  have hsz : (w.alloc (.cells c t)).heap.size = w.heap.size + 1 := by show (w.heap.push _).size = _; simp
  refine ⟨⟨fun r y hy hl => ?_, fun r L hL => ?_, h.inj⟩, ⟨Sub.refl _, rfl, rfl, rfl, by omega, fun b hb _ => hold b hb, fun _ _ h => h, fun _ _ h => h⟩, fun r ⟨L, h1, h2⟩ => ?_⟩
  · obtain ⟨L, h1, h2⟩ := h.live r y hy hl
    exact ⟨L, h1, h2.mono (Sub.refl _) (hold _ ((h.dom r L h1).2 y hy (by rw [hl]; nofun)))⟩
  · have := h.dom r L hL
    exact ⟨this.1, fun y hy hyo => by have := this.2 y hy hyo; omega⟩
  · have := h.dom r L h1
    refine ⟨S[r], List.getElem?_eq_getElem this.1, ?_⟩
    have h3 := this.2 _ (List.getElem?_eq_getElem this.1)
    cases hs : (S[r]'this.1).st with
    | opq => rfl
    | _ => have := h3 (by rw [hs]; nofun); omega
theorem set_comm {l : Array Bool} {i j : Nat} (h : i ≠ j) : (l.setIfInBounds i true).setIfInBounds j true = (l.setIfInBounds j true).setIfInBounds i true := by
  apply Array.ext_getElem?
  intro k
  simp only [Array.getElem?_setIfInBounds, Array.size_setIfInBounds]
  by_cases h1 : j = k <;> by_cases h2 : i = k <;> simp [h1, h2]
set_option maxHeartbeats 2000000 in
/-- a region that draws, by its run in the text's order, but that one allocation may come at any time -/
theorem drawnF {ops : Array Oper} {n A : Nat} (hord : Ord3 P ops A) (hok : opsOk n G ops = true) {e e' : Env} {S S' : Mem} {E : Nat → Env} {M : Nat → Mem} {V : Nat → Value} (hE0 : E 0 = e) (hM0 : M 0 = S) (hEN : E ops.size = e') (hMN : M ops.size = S')
    (hfact : ∀ (j : Nat) (o : Oper), ops[j]? = some o → Fact P G false ops E M V j o)
    (hloads : ∀ (i : Nat) (o : Oper), ops[i]? = some o → opKind P o = 1 → ∃ x ∈ o.op.operands, ∃ b, (∀ ρ u, VR ρ ((E i).eval x) u → ∃ c, At ρ b c) ∧ b < (M i).length ∧ (∀ S2 : Mem, S2[b]? = (M i)[b]? → aload P o (E i).eval S2 = some (V i)) ∧
      ∀ (k : Nat) (ok : Oper), ops[k]? = some ok → 2 ≤ opKind P ok → ¬ (Anc ops k i ∨ Anc ops i k) → (M (k + 1))[b]? = (M k)[b]?)
    {dA : Tmp} {tA ty : TypeId} {pos : String} {af : Array Edge} {z : Value} (hA : ops[A]? = some ⟨some dA, .alloc tA, ty, pos, af, none⟩) (hz : zeroOf P tA = some z) (hVA : V A = .pointer (some ⟨(M A).length, 0, none⟩)) (hMA : M (A + 1) = M A ++ [newR z.cells.toList tA])
    {Q : Exit → Act → World → Prop} {ds : List Deferred} {ρ0 : Nat → Option Loc} {S0 : Mem} {w0 : World} (hK : Reach G n ds ρ0 S0 w0 e' S' (Q .normal))
    {ρ : Nat → Option Loc} {a : Act} {w : World} (hE : ER ρ e a) (hS : SR ρ S w) (hG : Glob G ρ) (hst : Stp ρ0 S0 w0 ρ S w) (hn : a.tmps.size = n) (hd : a.defers = ds) :
    wpAny P .any ops Q ops.size (Array.replicate ops.size false) a w := by
  have fact : ∀ {j : Nat} {o : Oper}, ops[j]? = some o → Fact P G false ops E M V j o := fun hj => hfact _ _ hj
  have lt : ∀ {j : Nat} {o : Oper}, ops[j]? = some o → j < ops.size := fun hj => (Array.getElem?_eq_some_iff.1 hj).1
  have getO : ∀ {j : Nat}, j < ops.size → ∃ o, ops[j]? = some o := fun hj => ⟨_, Array.getElem?_eq_getElem hj⟩
  -- memory stands still where nothing acts
  have mconst1 : ∀ {j : Nat} {o : Oper}, ops[j]? = some o → ¬ 2 ≤ opKind P o → M (j + 1) = M j := fun hj hk => by
    rcases (fact hj).2 with ⟨_, _, h⟩ | ⟨_, ⟨_, h⟩ | ⟨_, h⟩ | ⟨_, h, _⟩⟩
    · exact h
    · exact h
    · exact h
    · exact absurd h hk
  have mconst : ∀ (d a : Nat), a + d ≤ ops.size → (∀ k o, a ≤ k → k < a + d → ops[k]? = some o → ¬ 2 ≤ opKind P o) → M (a + d) = M a := by
    intro d
    induction d with
    | zero => intro a _ _; rfl
    | succ d ih =>
      intro a ha hk
      obtain ⟨o, ho⟩ := getO (j := a + d) (by omega)
      have := mconst1 ho (hk _ _ (by omega) (by omega) ho)
      rw [← Nat.add_assoc, this]
      exact ih a (by omega) (fun k o h1 h2 => hk k o h1 (by omega))
  have mrow : ∀ (b d a : Nat), a + d ≤ ops.size → (∀ k o, a ≤ k → k < a + d → ops[k]? = some o → 2 ≤ opKind P o → (M (k + 1))[b]? = (M k)[b]?) → (M (a + d))[b]? = (M a)[b]? := by
    intro b d
    induction d with
    | zero => intro a _ _; rfl
    | succ d ih =>
      intro a ha hk
      obtain ⟨o, ho⟩ := getO (j := a + d) (by omega)
      have h0 := ih a (by omega) (fun k o h1 h2 => hk k o h1 (by omega))
      rw [← h0, ← Nat.add_assoc]
      by_cases h2 : 2 ≤ opKind P o
      · exact hk _ _ (by omega) (by omega) ho h2
      · rw [mconst1 ho h2]
  -- what a slot holds
  have slotMiss : ∀ (j t : Nat), j ≤ ops.size → (∀ (k : Nat) (o : Oper), k < j → ops[k]? = some o → o.dst ≠ some t) → E j t = e t := by
    intro j
    induction j with
    | zero => intro t _ _; rw [hE0]
    | succ j ih =>
      intro t hj hk
      obtain ⟨o, ho⟩ := getO (j := j) (by omega)
      rw [(fact ho).1]
      have hne := hk j o (by omega) ho
      have : (E j).put o.dst (V j) t = E j t := by
        unfold Env.put
        split
        · rename_i d hd'
          rw [if_neg (fun h => hne (by rw [hd', h]))]
        · rfl
      rw [this]
      exact ih t (by omega) (fun k o h1 => hk k o (by omega))
  have slotHit : ∀ (j k t : Nat) (o : Oper), j ≤ ops.size → k < j → ops[k]? = some o → o.dst = some t → E j t = V k := by
    intro j
    induction j with
    | zero => intro k t o _ hk; omega
    | succ j ih =>
      intro k t o hj hk ho hdst
      obtain ⟨oj, hoj⟩ := getO (j := j) (by omega)
      rw [(fact hoj).1]
      by_cases hkj : k = j
      · subst hkj
        rw [ho] at hoj; cases hoj
        simp [Env.put, hdst]
      · have hne := hord.uniq ho hoj hkj hdst
        have : (E j).put oj.dst (V j) t = E j t := by
          unfold Env.put
          split
          · rename_i d hd'
            rw [if_neg (fun h => hne (by rw [hd', h]))]
          · rfl
        rw [this]
        exact ih k t o (by omega) (by omega) ho hdst
  obtain ⟨hzr, hza, _⟩ := zeroOf_run hz
  have hAsz := lt hA
  have hAk : opKind P ⟨some dA, .alloc tA, ty, pos, af, none⟩ = 2 := rfl
  have hdA : dA < n := (opsOk_mem hok hA).1 dA rfl
  -- what is still to be done ahead of the allocation
  have main : ∀ (fuel : Nat) (listed : Array Bool) (a : Act) (w : World), listed.toList.count false = fuel →
      ((∃ ρ m, InvX P G ops e M V ρ0 S0 w0 n ds none ρ m listed a w) ∨
       (∃ ρ m lst b0, listed = lst.setIfInBounds A true ∧ lst[A]? = some false ∧ InvX P G ops e M V ρ0 S0 w0 n ds (some dA) ρ m lst a w ∧
        (∃ (k : Nat) (ok : Oper), ops[k]? = some ok ∧ 2 ≤ opKind P ok ∧ k < A ∧ ¬ lst.getD k false = true) ∧ (∀ x ∈ af, Region.binds .any x = true → lst.getD x.on false = true) ∧
        w0.heap.size ≤ b0 ∧ w.heap[b0]? = some (.cells z.cells tA) ∧ Lone ρ (M m) b0 ∧ a.tmps.getD dA undef = .pointer (some ⟨b0, 0, none⟩))) → wpAny P .any ops Q fuel listed a w := by
    intro fuel
    induction fuel with
    | zero =>
      intro listed a w hcount I
      have allL : ∀ k, k < listed.size → listed.getD k false = true := fun k hk' => by
        rw [List.count_eq_zero] at hcount
        have hmem : listed[k] ∈ listed.toList := by simp
        simp only [Array.getD_eq_getD_getElem?, Array.getElem?_eq_getElem hk', Option.getD_some]
        cases hb : listed[k] with
        | true => rfl
        | false => rw [hb] at hmem; exact absurd hmem hcount
      rcases I with ⟨ρ, m, I⟩ | ⟨ρ, m, lst, b0, rfl, hlA, I, ⟨k, ok, hk, hk2, hkA, hkl⟩, _⟩
      · have all : ∀ k, k < ops.size → listed.getD k false = true := fun k hk => allL k (by rw [I.lsize]; exact hk)
        have hMm : M m = S' := by
          have := mconst (ops.size - m) m (by have := I.hm; omega) (fun k o h1 h2 ho hk => by
            have := (I.eff k o ho hk).1 (all k (lt ho)); omega)
          rw [show m + (ops.size - m) = ops.size from by have := I.hm; omega] at this
          rw [← this, hMN]
        refine ⟨?_, hK ρ a w ?_ (hMm ▸ I.sr) (hMm ▸ I.stp) I.size I.def_⟩
        · cases hr : Region.ready .any ops listed with
          | nil => rfl
          | cons i r =>
            have hi : i ∈ Region.ready .any ops listed := by rw [hr]; simp
            obtain ⟨h0, o, ho, _⟩ := mem_ready.1 hi
            have := all i (lt ho)
            have hi' : i < listed.size := by rw [I.lsize]; exact lt ho
            simp only [Array.getD_eq_getD_getElem?, Array.getElem?_eq_getElem hi', Option.getD_some] at h0 this
            rw [h0] at this; cases this
        · intro t
          rw [← hEN]
          by_cases hex : ∃ (k : Nat) (o : Oper), ops[k]? = some o ∧ o.dst = some t
          · obtain ⟨k, o, ho, hdst⟩ := hex
            rw [slotHit _ k t o (Nat.le_refl _) (lt ho) ho hdst]
            exact I.hit k o t ho (all k (lt ho)) hdst nofun
          · rw [slotMiss _ t (Nat.le_refl _) (fun k o _ ho hdst => hex ⟨k, o, ho, hdst⟩)]
            exact I.miss t nofun (fun k o ho _ hdst => hex ⟨k, o, ho, hdst⟩)
      · have := allL k (by simp; rw [I.lsize]; exact lt hk)
        rw [getD_set_ne false (by omega)] at this
        exact absurd this hkl
    | succ fuel ih =>
      intro listed a w hcount I
      have hlsz : listed.size = ops.size := by
        rcases I with ⟨ρ, m, I⟩ | ⟨ρ, m, lst, b0, rfl, hlA, I, _⟩
        · exact I.lsize
        · simp [I.lsize]
      refine ⟨fun hnil => ?_, fun i hi => ?_⟩
      · exfalso
        have hmem : false ∈ listed.toList := by
          have : 0 < listed.toList.count false := by omega
          exact List.count_pos_iff.1 this
        obtain ⟨k, hk⟩ := List.mem_iff_getElem?.1 hmem
        have hleast : ∀ k : Nat, listed[k]? = some false → ∃ i, i ∈ Region.ready .any ops listed := by
          intro k
          induction k using Nat.strongRecOn with
          | _ k ihk =>
            intro hk
            have hks : k < ops.size := by rw [← hlsz]; exact (Array.getElem?_eq_some_iff.1 hk).1
            obtain ⟨o, ho⟩ := getO hks
            by_cases hall : ∀ x ∈ o.after, Region.binds .any x = true → listed.getD x.on false = true
            · exact ⟨k, mem_ready.2 ⟨by simp [hk], o, ho, hall⟩⟩
            · simp only [Classical.not_forall] at hall
              obtain ⟨x, hx, hb, hxl⟩ := hall
              have hlt := hord.less ho hx hb
              refine ihk x.on hlt ?_
              have hxs : x.on < listed.size := by rw [hlsz]; omega
              rw [Array.getElem?_eq_getElem hxs]
              simp only [Array.getD_eq_getD_getElem?, Array.getElem?_eq_getElem hxs, Option.getD_some] at hxl
              simpa using hxl
        obtain ⟨i, hi⟩ := hleast k (by simpa using hk)
        rw [hnil] at hi; cases hi
      · obtain ⟨h0, o, ho, hall⟩ := mem_ready.1 hi
        have hisz := lt ho
        have hil : i < listed.size := by rw [hlsz]; exact hisz
        have hif : listed[i]? = some false := by
          rw [Array.getElem?_eq_getElem hil]
          simp only [Array.getD_eq_getD_getElem?, Array.getElem?_eq_getElem hil, Option.getD_some] at h0
          rw [h0]
        have hin : ¬ listed.getD i false = true := by simp [hif]
        have hcnt : (listed.setIfInBounds i true).toList.count false = fuel := by
          have := count_set_true listed.toList i (by simpa using hif)
          rw [Array.toList_setIfInBounds]
          omega
        rcases I with ⟨ρ, m, I⟩ | ⟨ρ, m, lst, b0, rfl, hlA, I, ⟨k, ok, hk, hk2, hkA, hkl⟩, hAr, hb0, hbh, hlone, hptr⟩
        · have hcl : ClosedL ops listed := I.closed
          have hpre : ∀ {k : Nat}, Anc ops k i → listed.getD k false = true := fun ha => hcl.ready ho hall ha
          have hpost : ∀ {k : Nat}, Anc ops i k → ¬ listed.getD k false = true := fun ha hk => hin (hcl.anc ha hk)
          by_cases hpend : i = A ∧ ∃ (k : Nat) (ok : Oper), ops[k]? = some ok ∧ 2 ≤ opKind P ok ∧ k < A ∧ ¬ listed.getD k false = true
          · -- the allocation comes up early
            obtain ⟨rfl, htodo⟩ := hpend
            rw [hA] at ho; cases ho
            obtain ⟨s1, s2, s3⟩ := I.sr.beside z.cells tA
            unfold wpOp
            simp only [hA]
            have hrun : (execOp a.eval ⟨some dA, .alloc tA, ty, pos, af, none⟩).run P w = .ok (.value (.pointer (some ⟨w.heap.size, 0, none⟩))) (w.alloc (.cells z.cells tA)) := by
              simp [execOp, Instr.alloc, hzr, newVar, newRow]
            have hwt : Region.wanted ⟨some dA, .alloc tA, ty, pos, af, none⟩ (yielded ops a.tmps) = true := rfl
            rw [hwt]
            simp only [if_true]
            refine .inl (wp_value hrun ?_)
            have hne : ∀ t, (some dA : Option Tmp) ≠ some t → (a.put (some dA) (.pointer (some ⟨w.heap.size, 0, none⟩))).tmps.getD t undef = a.tmps.getD t undef := fun t ht => by
              simp only [Act.put, Array.getD_eq_getD_getElem?]
              rw [Array.getElem?_setIfInBounds_ne (fun h => ht (by rw [h]))]
            refine ih _ _ _ hcnt (.inr ⟨ρ, m, listed, w.heap.size, rfl, hif, ⟨I.closed, fun k o t hk hkl hkd hX => ?_, fun t hX hmiss => ?_, I.hm, I.eff, s1, I.gl, I.stp.trans s2, by rw [put_size]; exact I.size, by rw [put_defers']; exact I.def_, I.lsize⟩, htodo, hall, I.stp.size, ?_, s3, ?_⟩)
            · rw [hne t hX]; exact I.hit k o t hk hkl hkd nofun
            · rw [hne t hX]; exact I.miss t nofun hmiss
            · show (w.heap.push _)[w.heap.size]? = _
              simp
            · have hdA' : dA < a.tmps.size := by rw [I.size]; exact hdA
              simp [Act.put, hdA']
          · refine I.step hord hok hE0 hfact hloads ho hif hall nofun nofun (fun hk2 k ok hk hkk hne => ?_) (fun v' ρ' m' w' I' _ => ih _ _ _ hcnt (.inl ⟨ρ', m', I'⟩))
            by_cases hiA : i = A
            · subst hiA
              have hno : ∀ k ok, ops[k]? = some ok → 2 ≤ opKind P ok → k < i → listed.getD k false = true := fun k ok h1 h2 h3 => by
                refine Classical.byContradiction fun h4 => hpend ⟨rfl, k, ok, h1, h2, h3, h4⟩
              refine ⟨fun hl => ?_, fun hlt => hno k ok hk hkk hlt⟩
              rcases Nat.lt_or_ge k i with h9 | h9
              · exact h9
              · exact absurd hl (hpost (hord.late hk hkk (by omega)))
            · by_cases hkA : k = A
              · subst hkA
                constructor
                · intro hl
                  rcases Nat.lt_or_ge k i with h9 | h9
                  · exact h9
                  · have h1 := (I.eff k ok hk hkk).1 hl
                    exact absurd ((I.eff i o ho hk2).2 (by omega)) hin
                · intro hlt
                  exact hpre (hord.late ho hk2 hlt)
              · rcases hord.effs hk ho hne hkA hiA hkk hk2 with h9 | h9
                · have := hord.lt h9
                  exact ⟨fun _ => this, fun _ => hpre h9⟩
                · have := hord.lt h9
                  exact ⟨fun hl => absurd hl (hpost h9), fun h => by omega⟩
        · -- the allocation came up already
          have hAl : A < lst.size := (Array.getElem?_eq_some_iff.1 hlA).1
          have hiA : i ≠ A := fun h => by subst h; simp [hAl] at hif
          have hgA : ¬ lst.getD A false = true := by simp [hlA]
          have hget : ∀ k, (lst.setIfInBounds A true).getD k false = true ↔ lst.getD k false = true ∨ k = A := fun k => by
            by_cases hki : A = k
            · subst hki; simp [hAl]
            · rw [getD_set_ne false hki]; constructor
              · exact .inl
              · rintro (h | h)
                · exact h
                · exact absurd h.symm hki
          have hif' : lst[i]? = some false := by rw [Array.getElem?_setIfInBounds_ne (Ne.symm hiA)] at hif; exact hif
          have hcl' : ClosedL ops lst := I.closed
          have hcl : ClosedL ops (lst.setIfInBounds A true) := fun j oj x hoj hjl hx hb => by
            rw [hget] at hjl ⊢
            rcases hjl with hjl | rfl
            · exact .inl (I.closed j oj x hoj hjl hx hb)
            · rw [hA] at hoj; cases hoj; exact .inl (hAr x hx hb)
          have hnoA : ¬ Anc ops A i := fun hh => by
            have := hcl.ready ho hall (hord.waits hh hk hk2 hkA)
            rw [hget] at this
            exact this.elim hkl (by omega)
          have hall' : ∀ x ∈ o.after, Region.binds .any x = true → lst.getD x.on false = true := fun x hx hb => by
            have := hall x hx hb
            rw [hget] at this
            refine this.resolve_right fun h => hnoA ?_
            rw [← h]; exact .edge ho hx hb
          have hin2 : ¬ lst.getD i false = true := by simp [hif']
          have hpre : ∀ {k : Nat}, Anc ops k i → lst.getD k false = true := fun ha => hcl'.ready ho hall' ha
          have hpost : ∀ {k : Nat}, Anc ops i k → ¬ lst.getD k false = true := fun ha hk => hin2 (hcl'.anc ha hk)
          have hXd : o.dst ≠ some dA := hord.uniq hA ho (Ne.symm hiA) rfl
          refine I.step hord hok hE0 hfact hloads ho hif' hall' (fun t ht => ?_) (fun t ht => by cases ht; exact hXd) (fun hk2' k' ok' hk' hkk hne => ?_) (fun v' ρ' m' w' I' q => ?_)
          · cases ht
            intro hl
            rcases hord.slot hA ho (Ne.symm hiA) rfl hl with h9 | h9
            · exact hnoA h9
            · have hh : lst.getD i false = true := hcl'.ready hA hAr h9
              exact hin2 hh
          · by_cases hkA' : k' = A
            · subst hkA'
              exact ⟨fun h => absurd h hgA, fun h => absurd (hord.late ho hk2' h) hnoA⟩
            · rcases hord.effs hk' ho hne hkA' hiA hkk hk2' with h9 | h9
              · have := hord.lt h9
                exact ⟨fun _ => this, fun _ => hpre h9⟩
              · have := hord.lt h9
                exact ⟨fun hl => absurd hl (hpost h9), fun h => by omega⟩
          · have hb1 : b0 < w.heap.size := (Array.getElem?_eq_some_iff.1 hbh).1
            have hq : Quiet ρ (M m) b0 := fun r hr => let ⟨x, h1, h2⟩ := hlone r hr; ⟨x, h1, .inl h2⟩
            have hbh' : w'.heap[b0]? = some (.cells z.cells tA) := by rw [q.frame b0 hb1 hq]; exact hbh
            have hlone' := q.lone b0 hb1 hlone
            have hptr' : (a.put o.dst v').tmps.getD dA undef = .pointer (some ⟨b0, 0, none⟩) := by
              rw [← hptr]
              cases hd' : o.dst with
              | none => rfl
              | some d =>
                simp only [Act.put, Array.getD_eq_getD_getElem?]
                rw [Array.getElem?_setIfInBounds_ne (fun h => hXd (by rw [hd', h]))]
            have hset : ∀ k, (lst.setIfInBounds i true).getD k false = true ↔ lst.getD k false = true ∨ k = i := fun k => by
              by_cases hki : i = k
              · subst hki; simp [(Array.getElem?_eq_some_iff.1 hif').1]
              · rw [getD_set_ne false hki]; constructor
                · exact .inl
                · rintro (h | h)
                  · exact h
                  · exact absurd h.symm hki
            have hAr' : ∀ x ∈ af, Region.binds .any x = true → (lst.setIfInBounds i true).getD x.on false = true := fun x hx hb => (hset _).2 (.inl (hAr x hx hb))
            have hlA' : (lst.setIfInBounds i true)[A]? = some false := by rw [Array.getElem?_setIfInBounds_ne hiA]; exact hlA
            by_cases htodo : ∃ (k : Nat) (ok : Oper), ops[k]? = some ok ∧ 2 ≤ opKind P ok ∧ k < A ∧ ¬ (lst.setIfInBounds i true).getD k false = true
            · exact ih _ _ _ hcnt (.inr ⟨ρ', m', lst.setIfInBounds i true, b0, set_comm (Ne.symm hiA), hlA', I', htodo, hAr', hb0, hbh', hlone', hptr'⟩)
            · -- now the text may come to it
              have hdone : ∀ k ok, ops[k]? = some ok → 2 ≤ opKind P ok → k < A → (lst.setIfInBounds i true).getD k false = true := fun k ok h1 h2 h3 => by
                refine Classical.byContradiction fun h4 => htodo ⟨k, ok, h1, h2, h3, h4⟩
              have hm'A : m' ≤ A := by
                rcases Nat.lt_or_ge A m' with h9 | h9
                · have := (I'.eff A _ hA (by rw [hAk]; omega)).2 h9
                  simp [hlA'] at this
                · exact h9
              have hMm : M A = M m' := by
                have := mconst (A - m') m' (by omega) (fun k ok h1 h2 hok' hk => by
                  have := (I'.eff k ok hok' hk).1 (hdone k ok hok' hk (by omega)); omega)
                rw [show m' + (A - m') = A from by omega] at this
                exact this
              have hsc := scalars_LR ρ' hza
              obtain ⟨ρ2, p1, p2, p3, p4⟩ := I'.sr.adopt (newR z.cells.toList tA) z.cells b0 hbh' hlone' I'.stp hb0 rfl (by simp [newR]) rfl (fun j u hu => by
                obtain ⟨u', h1, h2⟩ := hsc.get hu
                exact ⟨u', by simpa using h1, h2⟩)
              rw [← hMm, ← hMA] at p3 p4
              rw [← hMm] at p2
              have hgetA : ∀ k, ((lst.setIfInBounds A true).setIfInBounds i true).getD k false = true ↔ (lst.setIfInBounds i true).getD k false = true ∨ k = A := fun k => by
                rw [set_comm (Ne.symm hiA)]
                have hAl' : A < (lst.setIfInBounds i true).size := by simpa using hAl
                by_cases hki : A = k
                · subst hki; simp [hAl]
                · rw [getD_set_ne false hki]; constructor
                  · exact .inl
                  · rintro (h | h)
                    · exact h
                    · exact absurd h.symm hki
              refine ih _ _ _ hcnt (.inl ⟨ρ2, A + 1, ⟨fun j oj x hoj hjl hx hb => ?_, fun k o t hk hkl hkd _ => ?_, fun t _ hmiss => ?_, by omega, fun k ok hk hkk => ?_, p3, fun g hg => (I'.gl g hg).mono p1, p4, I'.size, I'.def_, by simp [I.lsize]⟩⟩)
              · rw [hgetA] at hjl ⊢
                rcases hjl with hjl | rfl
                · exact .inl (I'.closed j oj x hoj hjl hx hb)
                · rw [hA] at hoj; cases hoj; exact .inl (hAr' x hx hb)
              · by_cases hkA' : k = A
                · subst hkA'
                  rw [hA] at hk; cases hk
                  cases hkd
                  rw [hptr', hVA]
                  exact .ptr _ _ ⟨_, p2, rfl⟩ rfl rfl
                · rw [hgetA] at hkl
                  exact (I'.hit k o t hk (hkl.resolve_right hkA') hkd (fun h => hord.uniq hA hk (Ne.symm hkA') rfl (by rw [hkd, ← h]))).mono p1
              · have hne : (some dA : Option Tmp) ≠ some t := hmiss A _ hA ((hgetA A).2 (.inr rfl))
                exact (I'.miss t hne (fun k ok hk hkl => hmiss k ok hk ((hgetA k).2 (.inl hkl)))).mono p1
              · rw [hgetA]
                constructor
                · rintro (h | h)
                  · have := (I'.eff k ok hk hkk).1 h; omega
                  · omega
                · intro h
                  by_cases hkA' : k = A
                  · exact .inr hkA'
                  · exact .inl (hdone k ok hk hkk (by omega))
  refine main ops.size _ a w (by simp) (.inl ⟨ρ, 0, ⟨fun j o x ho hl => ?_, fun k o t ho hl => ?_, fun t _ _ => hE t, Nat.zero_le _, fun k o ho _ => ?_, by rw [hM0]; exact hS, hG, by rw [hM0]; exact hst, hn, hd, by simp⟩⟩)
  · by_cases hj : j < ops.size
    · simp [hj] at hl
    · simp [hj] at hl
  · by_cases hk : k < ops.size
    · simp [hk] at hl
    · simp [hk] at hl
  · by_cases hk : k < ops.size
    · simp [hk]
    · simp [hk]
end
def pairOk3 (P : Program) (ops : Array Oper) (ms : List Nat) (A i j : Nat) (oi oj : Oper) : Bool :=
  (match oi.dst with
   | some d => oj.dst != some d && (!(oj.looksAt ops).contains d || ordB ms i j)
   | none => true) &&
  (!(decide (2 ≤ opKind P oi) && decide (2 ≤ opKind P oj)) || i == A || j == A || ordB ms i j)
def order3Ok (P : Program) (ops : Array Oper) (A : Nat) : Bool :=
  let ms := masks ops.toList []
  ops.toList.zipIdx.all fun (oj, j) => (oj.after.toList.all fun e => !Region.binds .any e || (decide (e.on < j) &&
      (!(e.on == A) || ops.toList.zipIdx.all fun (ok, k) => !decide (2 ≤ opKind P ok) || !decide (k < A) || (ms.getD j 0).testBit k))) &&
    (!decide (2 ≤ opKind P oj) || !decide (A < j) || (ms.getD j 0).testBit A) &&
    ops.toList.zipIdx.all fun (oi, i) => i == j || pairOk3 P ops ms A i j oi oj
theorem order3_of {P : Program} {ops : Array Oper} {A : Nat} (h : order3Ok P ops A = true) : Ord3 P ops A := by
  have hm := masks_sound (ops := ops) ops.toList [] (by simp) (by simp)
  have ord : ∀ i j, ordB (masks ops.toList []) i j = true → Anc ops i j ∨ Anc ops j i := fun i j h => by
    simp only [ordB, Bool.or_eq_true] at h
    exact h.imp (hm _ _) (hm _ _)
  simp only [order3Ok, List.all_eq_true, Bool.and_eq_true] at h
  have pr : ∀ {i j : Nat} {oi oj : Oper}, ops[i]? = some oi → ops[j]? = some oj → i ≠ j → pairOk3 P ops (masks ops.toList []) A i j oi oj = true := fun hi hj hne => by
    have := (h _ (zipIdx_mem hj)).2 _ (zipIdx_mem hi)
    simp only [Bool.or_eq_true, beq_iff_eq] at this
    exact this.resolve_left hne
  refine ⟨fun hj he hb => ?_, fun hi hj hne hd => ?_, fun {i j _ _ _} hi hj hne hd hl => ?_, fun {i j _ _} hi hj hne hiA hjA k1 k2 => ?_, fun {k ok} hk h2 hlt => ?_, fun {j k oj ok e} hj he hb hon hk h2 hlt => ?_⟩
  · have := (h _ (zipIdx_mem hj)).1.1 _ (by simpa using he)
    simp [hb] at this
    exact this.1
  · have := pr hi hj hne
    simp only [pairOk3, hd, Bool.and_eq_true, bne_iff_ne] at this
    exact this.1.1
  · have := pr hi hj hne
    simp only [pairOk3, hd, Bool.and_eq_true, Bool.or_eq_true, Bool.not_eq_true', List.contains_iff_mem] at this
    rcases this.1.2 with h1 | h1
    · exact absurd hl (by simpa using h1)
    · exact ord _ _ h1
  · have := pr hi hj hne
    simp only [pairOk3, Bool.and_eq_true, Bool.or_eq_true, beq_iff_eq] at this
    rcases this.2 with ((h1 | h1) | h1) | h1
    · simp [k1, k2] at h1
    · exact absurd h1 hiA
    · exact absurd h1 hjA
    · exact ord _ _ h1
  · have := (h _ (zipIdx_mem hk)).1.2
    simp only [Bool.or_eq_true] at this
    rcases this with (h1 | h1) | h1
    · simp [h2] at h1
    · simp at h1; omega
    · exact hm _ _ h1
  · have := (h _ (zipIdx_mem hj)).1.1 _ (by simpa using he)
    simp only [hb, Bool.not_true, Bool.false_or, Bool.and_eq_true, hon, beq_self_eq_true, List.all_eq_true] at this
    have := this.2 _ (zipIdx_mem hk)
    simp only [Bool.or_eq_true] at this
    rcases this with (h1 | h1) | h1
    · simp [h2] at h1
    · simp at h1; omega
    · exact hm _ _ h1
end Go.Proofs.Ytccdlijohkljcaa

/- Functions that defer calls, with a region whose loads and stores are unordered. Conditions: none. -/
set_option linter.unusedSimpArgs false
set_option linter.unusedVariables false
namespace Go.Proofs.Ytccdlijohkljcaa
open Go
def pairOk2 (P : Program) (ops : Array Oper) (ms : List Nat) (i j : Nat) (oi oj : Oper) : Bool :=
  (match oi.dst with
   | some d => oj.dst != some d && (!(oj.looksAt ops).contains d || ordB ms i j)
   | none => true) &&
  (!(decide (2 ≤ opKind P oi) && decide (2 ≤ opKind P oj)) || ordB ms i j)
def order2Ok (P : Program) (ops : Array Oper) : Bool :=
  let ms := masks ops.toList []
  ops.toList.zipIdx.all fun (oj, j) => (oj.after.toList.all fun e => !Region.binds .any e || decide (e.on < j)) &&
    ops.toList.zipIdx.all fun (oi, i) => i == j || pairOk2 P ops ms i j oi oj
theorem order2_of {P : Program} {ops : Array Oper} (h : order2Ok P ops = true) : Order2 P ops := by
  have hm := masks_sound (ops := ops) ops.toList [] (by simp) (by simp)
  have ord : ∀ i j, ordB (masks ops.toList []) i j = true → Anc ops i j ∨ Anc ops j i := fun i j h => by
    simp only [ordB, Bool.or_eq_true] at h
    exact h.imp (hm _ _) (hm _ _)
  simp only [order2Ok, List.all_eq_true, Bool.and_eq_true] at h
  have pr : ∀ {i j : Nat} {oi oj : Oper}, ops[i]? = some oi → ops[j]? = some oj → i ≠ j → pairOk2 P ops (masks ops.toList []) i j oi oj = true := fun hi hj hne => by
    have := (h _ (zipIdx_mem hj)).2 _ (zipIdx_mem hi)
    simp only [Bool.or_eq_true, beq_iff_eq] at this
    exact this.resolve_left hne
  refine ⟨fun hj he hb => ?_, fun hi hj hne hd => ?_, fun {i j _ _ _} hi hj hne hd hl => ?_, fun {i j _ _} hi hj hne k1 k2 => ?_⟩
  · have := (h _ (zipIdx_mem hj)).1 _ (by simpa using he)
    simpa [hb] using this
  · have := pr hi hj hne
    simp only [pairOk2, hd, Bool.and_eq_true, bne_iff_ne] at this
    exact this.1.1
  · have := pr hi hj hne
    simp only [pairOk2, hd, Bool.and_eq_true, Bool.or_eq_true, Bool.not_eq_true', List.contains_iff_mem] at this
    rcases this.1.2 with h1 | h1
    · exact absurd hl (by simpa using h1)
    · exact ord _ _ h1
  · have := pr hi hj hne
    simp only [pairOk2, Bool.and_eq_true, Bool.or_eq_true] at this
    rcases this.2 with h1 | h1
    · simp [k1, k2] at h1
    · exact ord _ _ h1
def opsAll (n G : Nat) : Code → Bool
  | .region _ ops _ => opsOk n G ops && true
  | .seq a b => opsAll n G a && opsAll n G b
  | .cond c a b => operandOk G c && opsAll n G a && opsAll n G b
  | .block _ b | .loop b | .scope b => opsAll n G b
  | _ => true
def strict (P : Program) : Code → Bool
  | .region _ ops draw => !draw || orderOk P ops
  | .seq a b => strict P a && strict P b
  | .cond _ a b => strict P a && strict P b
  | .block _ b | .loop b | .scope b => strict P b
  | _ => true
theorem codeOk_of {P : Program} {n G : Nat} (c : Code) (h : opsAll n G c = true) (hs : strict P c = true) : codeOk P n G c = true := by
  induction c with
  | region _ ops draw => simp only [opsAll, strict, codeOk, Bool.and_eq_true] at *; exact ⟨h.1, hs⟩
  | seq a b ia ib => simp only [opsAll, strict, codeOk, Bool.and_eq_true] at *; exact ⟨ia h.1 hs.1, ib h.2 hs.2⟩
  | cond c a b ia ib => simp only [opsAll, strict, codeOk, Bool.and_eq_true] at *; exact ⟨⟨h.1.1, ia h.1.2 hs.1⟩, ib h.2 hs.2⟩
  | block _ b ib => exact ib h hs
  | loop b ib => exact ib h hs
  | scope b ib => exact ib h hs
  | _ => rfl
def fnOk2 (G : Nat) (fn : Func) (c : Code) : Bool := opsAll fn.ntmps G c && fn.name != "runtime.NumGoroutine" && decide (fn.params.size + fn.nfree ≤ fn.ntmps)
/-- code that may defer calls -/
inductive DRun2 (P : Program) (G : Nat) (Ext : FuncId → List Value → Mem → Outc → Mem → Prop) : Code → Env → Mem → List ADef → Xit → Env → Mem → List ADef → Prop
  | code {c e S ds x e' S'} (hs : strict P c = true) (h : Ex P G Ext (.j (.code c e S x e' S'))) : DRun2 P G Ext c e S ds x e' S' ds
  | seq {a b e S ds e1 S1 ds1 x e' S' ds'} (h : DRun2 P G Ext a e S ds .nrm e1 S1 ds1) (k : DRun2 P G Ext b e1 S1 ds1 x e' S' ds') : DRun2 P G Ext (.seq a b) e S ds x e' S' ds'
  | seqOut {a b e S ds x e' S' ds'} (h : DRun2 P G Ext a e S ds x e' S' ds') (hx : x ≠ .nrm) : DRun2 P G Ext (.seq a b) e S ds x e' S' ds'
  | defer {id ops n e S ds e1 S1 o c fv f first captured} (hn : ops.size = n + 1) (h : Ex P G Ext (.j (.ops false ops (List.range n) e S none e1 S1))) (ho : ops[n]? = some o) (hw : awanted ops o e1 = true) (hd : o.op = .defer c)
      (hc : c.callee = .value fv) (hf : e1.eval fv = .func (.func f) first captured) : DRun2 P G Ext (.region id ops false) e S ds .nrm (e1.put o.dst undef) S1 (⟨f, first.toList ++ c.args.toList.map e1.eval ++ captured.toList⟩ :: ds)
  | rows {id ops e S ds e' S'} {E : Nat → Env} {M : Nat → Mem} {V : Nat → Value} (ho : order2Ok P ops = true) (hE0 : E 0 = e) (hM0 : M 0 = S) (hEN : E ops.size = e') (hMN : M ops.size = S')
      (hfact : ∀ (j : Nat) (o : Oper), ops[j]? = some o → Fact P G false ops E M V j o)
      (hloads : ∀ (i : Nat) (o : Oper), ops[i]? = some o → opKind P o = 1 → ∃ x ∈ o.op.operands, ∃ b, (∀ ρ u, VR ρ ((E i).eval x) u → ∃ c, At ρ b c) ∧ b < (M i).length ∧ (∀ S2 : Mem, S2[b]? = (M i)[b]? → aload P o (E i).eval S2 = some (V i)) ∧
        ∀ (k : Nat) (ok : Oper), ops[k]? = some ok → 2 ≤ opKind P ok → ¬ (Anc ops k i ∨ Anc ops i k) → (M (k + 1))[b]? = (M k)[b]?) : DRun2 P G Ext (.region id ops true) e S ds .nrm e' S' ds
  | flt {id ops e S ds e' S'} {A : Nat} {dA : Tmp} {tA ty : TypeId} {pos : String} {af : Array Edge} {z : Value} {E : Nat → Env} {M : Nat → Mem} {V : Nat → Value} (ho : order3Ok P ops A = true) (hE0 : E 0 = e) (hM0 : M 0 = S) (hEN : E ops.size = e') (hMN : M ops.size = S')
      (hfact : ∀ (j : Nat) (o : Oper), ops[j]? = some o → Fact P G false ops E M V j o)
      (hloads : ∀ (i : Nat) (o : Oper), ops[i]? = some o → opKind P o = 1 → ∃ x ∈ o.op.operands, ∃ b, (∀ ρ u, VR ρ ((E i).eval x) u → ∃ c, At ρ b c) ∧ b < (M i).length ∧ (∀ S2 : Mem, S2[b]? = (M i)[b]? → aload P o (E i).eval S2 = some (V i)) ∧
        ∀ (k : Nat) (ok : Oper), ops[k]? = some ok → 2 ≤ opKind P ok → ¬ (Anc ops k i ∨ Anc ops i k) → (M (k + 1))[b]? = (M k)[b]?)
      (hA : ops[A]? = some ⟨some dA, .alloc tA, ty, pos, af, none⟩) (hz : zeroOf P tA = some z) (hVA : V A = .pointer (some ⟨(M A).length, 0, none⟩)) (hMA : M (A + 1) = M A ++ [newR z.cells.toList tA]) : DRun2 P G Ext (.region id ops true) e S ds .nrm e' S' ds

section
variable {P : Program} {G : Nat} {Ext : FuncId → List Value → Mem → Outc → Mem → Prop}
theorem DRun2.sim (hm : P.follows .mixedOrders = true) (hext : ∀ f args S out S', Ext f args S out S' → CallSim P G f args S out S') {c : Code} {e : Env} {S : Mem} {Ds : List ADef} {x : Xit} {e' : Env} {S' : Mem} {Ds' : List ADef}
    (h : DRun2 P G Ext c e S Ds x e' S' Ds') : ∀ (n : Nat) (ρ : Nat → Option Loc) (a : Act) (w : World), opsAll n G c = true → ER ρ e a → SR ρ S w → Glob G ρ → a.tmps.size = n → DRs ρ Ds a.defers → c.wp P (AfterD n ρ S w x e' S' Ds') a w := by
  induction h with
  | @code c e S ds x e' S' hs h =>
    intro n ρ a w hok hE hS hG hn hD
    refine wp_mono ((h.sim hm hext) n ρ a w (codeOk_of c hok hs) hE hS hG hn).1 fun ex a' w' ⟨ρ', q1, q2, q3, q4, q5, q6⟩ => ⟨ρ', q1, q2, q3, q4, q5, ?_⟩
    rw [q6]; exact hD.mono q4.ext
  | @seq a b e S ds e1 S1 ds1 x e' S' ds' h k ih1 ih2 =>
    intro n ρ a w hok hE hS hG hn hD
    simp only [opsAll, Bool.and_eq_true] at hok
    refine wp_seq (wp_mono (ih1 n ρ a w hok.1 hE hS hG hn hD) fun ex a1 w1 hA => ?_)
    obtain ⟨ρ1, q1, q2, q3, q4, q5, q6⟩ := hA
    cases ex with
    | normal => exact wp_mono (ih2 n ρ1 a1 w1 hok.2 q2 q3 (hG.mono q4.ext) q5 q6) fun ex a2 w2 ⟨ρ2, r1, r2, r3, r4, r5⟩ => ⟨ρ2, r1, r2, r3, q4.trans r4, r5⟩
    | _ => exact q1.elim
  | @seqOut a b e S ds x e' S' ds' h hx ih =>
    intro n ρ a w hok hE hS hG hn hD
    simp only [opsAll, Bool.and_eq_true] at hok
    refine wp_seq (wp_mono (ih n ρ a w hok.1 hE hS hG hn hD) fun ex a1 w1 hA => ?_)
    obtain ⟨ρ1, q1, q2⟩ := hA
    exact then_out (q1.notNormal hx) ⟨ρ1, q1, q2⟩
  | @defer id ops m e S ds e1 S1 o c fv f first captured hm' h ho hw hd hc hf =>
    intro n ρ a w hok hE hS hG hn hD
    simp only [opsAll, Bool.and_eq_true] at hok
    refine wp_region ?_
    rw [hm', List.range_succ]
    refine Tr.runApp (ds := a.defers) hok.1 (h.sim hm hext) (ρ0 := ρ) (S0 := S) (w0 := w) (fun ρ' a' w' q1 q2 q3 q4 q5 => ?_) ρ a w hE hS hG (Stp.refl _ _ _) hn rfl
    have hG' := hG.mono q3.ext
    simp only [wpOps, ho]
    rw [wanted_eq q4 hok.1 (fun t _ => q1 t), hw]
    simp only [if_true]
    have hev := fun x hx => eval_VR (e := e1) (a := a') hG' ((opsOk_mem hok.1 ho).2 x hx) (fun t _ => q1 t)
    have m0 := hev fv (by simp [hd, Op.operands, Call.operands, hc])
    rw [hf] at m0
    obtain ⟨first', captured', hfe, hl1, hl2⟩ : ∃ f2 c2, a'.eval fv = .func (.func f) f2 c2 ∧ LR ρ' first.toList f2.toList ∧ LR ρ' captured.toList c2.toList := by
      generalize a'.eval fv = u at m0
      cases m0 with
      | func _ _ f2 _ c2 r1 r2 r3 r4 => exact ⟨f2, c2, rfl, ⟨by simpa using r1, fun i v v' x y => r3 i v v' (by simpa using x) (by simpa using y)⟩, ⟨by simpa using r2, fun i v v' x y => r4 i v v' (by simpa using x) (by simpa using y)⟩⟩
    have hl3 : LR ρ' (c.args.toList.map e1.eval) (c.args.toList.map a'.eval) := by
      refine ⟨by simp, fun i v v' x y => ?_⟩
      rw [List.getElem?_map, Option.map_eq_some_iff] at x y
      obtain ⟨q, hq, rfl⟩ := x
      obtain ⟨q', hq', rfl⟩ := y
      rw [hq] at hq'; cases hq'
      exact hev q (by simp [hd, Op.operands, Call.operands, hc]; right; exact List.mem_of_getElem? hq |> fun h => by simpa using h)
    have hrun : (execOp a'.eval o).run P w' = .ok (.defer { target := .fn (.func f) captured', args := first' ++ c.args.map a'.eval }) w' := by
      simp only [execOp, hd, resolve, hc, Sem.run_bind, Deferred.ofValue, hfe, Sem.run_pure, Result.andThen_ok]
    refine .inl ?_
    unfold Oper.wp
    rw [hrun]
    show AfterD n ρ S w .nrm (e1.put o.dst undef) S1 _ .normal _ w'
    refine ⟨ρ', trivial, ?_, q2, q3, by rw [put_size]; exact q4, ?_⟩
    · exact put_ER (a := { a' with defers := _ :: a'.defers }) q1 (flat_VR ρ' undef_flat) (fun d h => by show d < a'.tmps.size; rw [q4]; exact (opsOk_mem hok.1 ho).1 d h)
    · rw [put_defers']
      refine .cons ⟨captured', rfl, ?_⟩ (by rw [q5]; exact hD.mono q3.ext)
      simpa using (hl1.append hl3).append hl2
  | @rows id ops e S ds e' S' E M V ho hE0 hM0 hEN hMN hfact hloads =>
    intro n ρ a w hok hE hS hG hn hD
    simp only [opsAll, Bool.and_eq_true] at hok
    refine wp_region_any hm ?_
    refine drawnR (order2_of ho) hok.1 hE0 hM0 hEN hMN hfact hloads (ds := a.defers) (ρ0 := ρ) (S0 := S) (w0 := w) (fun ρ' a' w' q1 q2 q3 q4 q5 => ⟨ρ', trivial, q1, q2, q3, q4, ?_⟩) hE hS.drew hG (Stp.drew ρ S w) hn rfl
    rw [q5]; exact hD.mono q3.ext
  | @flt id ops e S ds e' S' A dA tA ty pos af z E M V ho hE0 hM0 hEN hMN hfact hloads hA hz hVA hMA =>
    intro n ρ a w hok hE hS hG hn hD
    simp only [opsAll, Bool.and_eq_true] at hok
    refine wp_region_any hm ?_
    refine drawnF (order3_of ho) hok.1 hE0 hM0 hEN hMN hfact hloads hA hz hVA hMA (ds := a.defers) (ρ0 := ρ) (S0 := S) (w0 := w) (fun ρ' a' w' q1 q2 q3 q4 q5 => ⟨ρ', trivial, q1, q2, q3, q4, ?_⟩) hE hS.drew hG (Stp.drew ρ S w) hn rfl
    rw [q5]; exact hD.mono q3.ext

/-- a function that defers calls -/
theorem callSim_def2 (hm : P.follows .mixedOrders = true) (hext : ∀ f args S out S', Ext f args S out S' → CallSim P G f args S out S') {f : FuncId} {fn : Func} {c : Code} {args : List Value} {S : Mem} {x : Xit} {e' : Env} {S1 : Mem} {Ds : List ADef} {m : AMode} {out : Outc} {S' : Mem}
    (hf : P.funcs[f]? = some fn) (hb : fn.body = some c) (hok : fnOk2 G fn c = true) (ha : args.length ≤ fn.ntmps) (h : DRun2 P G Ext c (Env.of args) S [] x e' S1 Ds) (hx : modeOf x = some m) (hl : ALv P G fn e' Ds m S1 out S') : CallSim P G f args S out S' := by
  simp only [fnOk2, Bool.and_eq_true, bne_iff_ne, ne_eq] at hok
  refine ⟨⟨fn, hf, hok.1.2, by rw [hb]; rfl⟩, fun ρ args' w hla hS hG => ?_⟩
  have hsz : ({ tmps := args'.toArray ++ Array.replicate (fn.ntmps - args'.toArray.size) undef, defers := [] } : Act).tmps.size = fn.ntmps := by
    have := hla.1; simp; omega
  refine calls_of_wp_defers hf hb (wp_mono (h.sim hm hext fn.ntmps ρ _ w hok.1.1 (of_ER hla _) hS hG hsz .nil) fun ex a1 w1 hA => ?_)
  obtain ⟨ρ1, q1, q2, q3, q4, q5, q6⟩ := hA
  have fin : ∀ u, MR ρ1 m u → Leaves P fn a1.tmps (fun en w' => ∃ ρ', OR ρ' out en ∧ SR ρ' S' w' ∧ Stp ρ S w ρ' S' w') a1.defers u w1 := fun u hu => hl.sim ρ S w ρ1 a1 a1.defers w1 u q2 q6 q3 (hG.mono q4.ext) hu q4
  cases x with
  | nrm => cases hx; cases ex <;> first | exact fin .returning trivial | exact q1.elim
  | ret => cases hx; cases ex <;> first | exact fin .returning trivial | exact q1.elim
  | pan v => cases hx; cases ex <;> first | exact fin (.panicking _) q1 | exact q1.elim
  | _ => cases hx

end
end Go.Proofs.Ytccdlijohkljcaa

/- Walks through functions that defer calls, with a region whose loads and stores are unordered. Conditions: none. -/
set_option linter.unusedSimpArgs false
set_option linter.unusedVariables false
namespace Go.Proofs.Ytccdlijohkljcaa
open Go
/-- a run of code that may defer calls -/
def DV (P : Program) (G : Nat) (Ext : FuncId → List Value → Mem → Outc → Mem → Prop) (c : Code) (e : Env) (S : Mem) (Ds : List ADef) (Q : Xit → Env → Mem → List ADef → Prop) : Prop :=
  ∃ x e' S' Ds', DRun2 P G Ext c e S Ds x e' S' Ds' ∧ Q x e' S' Ds'
section
variable {P : Program} {G : Nat} {Ext : FuncId → List Value → Mem → Outc → Mem → Prop} {Q : Xit → Env → Mem → List ADef → Prop} {e : Env} {S : Mem} {Ds : List ADef}
theorem DV.code {c : Code} (hs : strict P c = true) (h : W P G Ext c e S fun x e S => Q x e S Ds) : DV P G Ext c e S Ds Q := let ⟨x, e', S', h1, h2⟩ := h; ⟨x, e', S', Ds, .code hs h1, h2⟩
theorem DV.seq {a b : Code} (h : DV P G Ext a e S Ds (DThn (fun e S Ds => DV P G Ext b e S Ds Q) Q)) : DV P G Ext (.seq a b) e S Ds Q := by
  obtain ⟨x, e1, S1, D1, h1, h2⟩ := h
  cases x with
  | nrm => obtain ⟨y, e2, S2, D2, h3, h4⟩ := h2; exact ⟨y, e2, S2, D2, .seq h1 h3, h4⟩
  | _ => exact ⟨_, e1, S1, D1, .seqOut h1 (by simp), h2⟩
/-- a call is deferred -/
theorem DV.defer {id : Nat} {c : Call} {fv : Operand} {f : FuncId} {first captured : Array Value} {dst : Option Tmp} {ty : TypeId} {pos : String} {af : Array Edge} (hc : c.callee = .value fv) (hf : e.eval fv = .func (.func f) first captured)
    (h : Q .nrm (e.put dst undef) S (⟨f, first.toList ++ c.args.toList.map e.eval ++ captured.toList⟩ :: Ds)) : DV P G Ext (.region id #[⟨dst, .defer c, ty, pos, af, none⟩] false) e S Ds Q :=
  ⟨_, _, _, _, .defer (n := 0) rfl (.nil _ _ _ _) rfl rfl rfl hc hf, h⟩
/-- a call of a function's text is deferred -/
theorem DV.deferFn {id : Nat} {c : Call} {fv : Operand} {f : FuncId} {first captured : Array Value} {v : Value} {dst dst0 : Option Tmp} {op0 : Op} {ty ty0 : TypeId} {pos pos0 : String} {af af0 : Array Edge} (hc : c.callee = .value fv)
    (hp : apure P ⟨dst0, op0, ty0, pos0, af0, none⟩ e.eval = some v) (hf : (e.put dst0 v).eval fv = .func (.func f) first captured)
    (h : Q .nrm ((e.put dst0 v).put dst undef) S (⟨f, first.toList ++ c.args.toList.map (e.put dst0 v).eval ++ captured.toList⟩ :: Ds)) : DV P G Ext (.region id #[⟨dst0, op0, ty0, pos0, af0, none⟩, ⟨dst, .defer c, ty, pos, af, none⟩] false) e S Ds Q :=
  ⟨_, _, _, _, .defer (n := 1) rfl (.pure (o := ⟨dst0, op0, ty0, pos0, af0, none⟩) rfl rfl hp (.nil _ _ _ _)) rfl rfl rfl hc hf, h⟩
end
/-- a function that defers calls: what it owes -/
theorem known_def2 {P : Program} {G : Nat} {Ext : FuncId → List Value → Mem → Outc → Mem → Prop} (hm : P.follows .mixedOrders = true) (hext : ∀ f args S out S', Ext f args S out S' → CallSim P G f args S out S') {f : FuncId} {fn : Func} {c : Code} {args : List Value} {S : Mem}
    {R : Value → Mem → Prop} (hf : P.funcs[f]? = some fn) (hb : fn.body = some c) (hok : fnOk2 G fn c = true) (ha : Nat.ble args.length fn.ntmps = true)
    (h : DV P G Ext c (Env.of args) S [] fun x e S1 Ds => ∃ m v S', modeOf x = some m ∧ ALv P G fn e Ds m S1 (.ret v) S' ∧ R v S') : ∃ v S', Known P G f args S (.ret v) S' ∧ R v S' := by
  obtain ⟨x, e', S1, Ds, h1, m, v, S', h2, h3, h4⟩ := h
  exact ⟨v, S', callSim_def2 hm hext hf hb hok (Nat.le_of_ble_eq_true ha) h1 h2 h3, h4⟩
end Go.Proofs.Ytccdlijohkljcaa

/- Layer 7: Item. Conditions: none. -/
set_option linter.unusedSimpArgs false
set_option linter.unusedVariables false
set_option maxRecDepth 100000
namespace Go.Proofs.Ytccdlijohkljcaa
open Go
variable {G : Nat}

/-- Item's four variables -/
def itemMem (S : Mem) (t f o e : Int) : Mem := S ++ [newR [.int .u8 t] 5] ++ [newR [.int .i64 f] 3] ++ [newR [.int .i64 o] 3] ++ [newR [.int .i64 e] 27]
theorem itemMem_len (S : Mem) (t f o e : Int) : (itemMem S t f o e).length = S.length + 4 := by simp [itemMem]
theorem itemMem_cons (S : Mem) (t f o e : Int) : Cons S (itemMem S t f o e) := (((Cons.push _ _).trans (Cons.push _ _)).trans (Cons.push _ _)).trans (Cons.push _ _)
theorem itemMem_0 (S : Mem) (t f o e : Int) : (itemMem S t f o e).row? S.length = some (newR [.int .u8 t] 5) :=
  Cons.row (h := ((Cons.push _ _).trans (Cons.push _ _)).trans (Cons.push _ _)) (row_push_new rfl)
theorem itemMem_1 (S : Mem) (t f o e : Int) : (itemMem S t f o e).row? (S.length + 1) = some (newR [.int .i64 f] 3) := by
  have := row_push_new (S := S ++ [newR [.int .u8 t] 5]) (x := newR [.int .i64 f] 3) rfl
  have h2 := Cons.row (h := (Cons.push _ (newR [.int .i64 o] 3)).trans (Cons.push _ (newR [.int .i64 e] 27))) this
  simpa [itemMem] using h2
theorem itemMem_2 (S : Mem) (t f o e : Int) : (itemMem S t f o e).row? (S.length + 2) = some (newR [.int .i64 o] 3) := by
  have := row_push_new (S := S ++ [newR [.int .u8 t] 5] ++ [newR [.int .i64 f] 3]) (x := newR [.int .i64 o] 3) rfl
  have h2 := Cons.row (h := Cons.push _ (newR [.int .i64 e] 27)) this
  simpa [itemMem] using h2
theorem itemMem_3 (S : Mem) (t f o e : Int) : (itemMem S t f o e).row? (S.length + 3) = some (newR [.int .i64 e] 27) := by
  have := row_push_new (S := S ++ [newR [.int .u8 t] 5] ++ [newR [.int .i64 f] 3] ++ [newR [.int .i64 o] 3]) (x := newR [.int .i64 e] 27) rfl
  simpa [itemMem] using this
theorem st_same {S : Mem} {b : Nat} {v : Value} {t : TypeId} (hr : S.row? b = some (newR [v] t)) : S.set b { newR [v] t with cells := putFrom (newR [v] t).cells 0 [v] } = S := by
  refine List.ext_getElem? fun i => ?_
  rw [List.getElem?_set]
  split
  · rename_i h; subst h; rw [if_pos (row_lt hr)]; exact (Mem.row?_some hr).1.symm
  · rfl
/-- the first deferred function changes nothing where nothing is wrong, or nothing was told -/
theorem item1_dsim {T : Mem} {b0 b1 b2 b3 : Nat} {t f o e : Int} {m : AMode} (h0 : T.row? b0 = some (newR [.int .u8 t] 5)) (h1 : T.row? b1 = some (newR [.int .i64 f] 3)) (h2 : T.row? b2 = some (newR [.int .i64 o] 3)) (h3 : T.row? b3 = some (newR [.int .i64 e] 27))
    (hx : e = 0 ∨ (t = 0 ∧ f = 0 ∧ o = 0)) : DSim Try.prog G 51 [.pointer (some ⟨b3, 0, none⟩), .pointer (some ⟨b0, 0, none⟩), .pointer (some ⟨b1, 0, none⟩), .pointer (some ⟨b2, 0, none⟩)] m T m T := by
  have h : W Try.prog G NoX (match Try.f51.body with | some c => c | _ => .skip) (Env.of [.pointer (some ⟨b3, 0, none⟩), .pointer (some ⟨b0, 0, none⟩), .pointer (some ⟨b1, 0, none⟩), .pointer (some ⟨b2, 0, none⟩)]) T (fun x e' S' => (x = .nrm ∨ x = .ret) ∧ S' = T) := by
    repeat (first | refine W.seq ?_ | refine W.block ?_ | refine W.reg ?_ | refine W.skip ?_ | refine W.exit ?_ | refine W.ret ?_ | refine L.nil ?_ | refine L.p rfl rfl ?_ | refine L.skip rfl ?_)
    refine L.ld (a := ⟨b3, 0, none⟩) (v := .int .i64 e) (cell_of h3 rfl (.inl rfl)) rfl rfl rfl ?_
    repeat (first | refine W.seq ?_ | refine W.block ?_ | refine W.reg ?_ | refine W.skip ?_ | refine W.exit ?_ | refine W.ret ?_ | refine L.nil ?_ | refine L.p rfl rfl ?_ | refine L.skip rfl ?_)
    refine W.ite rfl (fun h => ?_) (fun h => ?_)
    · have he : e ≠ 0 := by simpa using h
      obtain ⟨rfl, rfl, rfl⟩ := hx.resolve_left he
      repeat (first | refine W.seq ?_ | refine W.block ?_ | refine W.reg ?_ | refine W.skip ?_ | refine W.exit ?_ | refine W.ret ?_ | refine L.nil ?_ | refine L.p rfl rfl ?_ | refine L.skip rfl ?_)
      refine L.st (ad := ⟨b0, 0, none⟩) (vs := [.int .u8 0]) (write_of (o := 0) h0 rfl (Nat.le_refl 1) rfl) rfl rfl rfl rfl ?_
      rw [st_same h0]
      refine L.st (ad := ⟨b1, 0, none⟩) (vs := [.int .i64 0]) (write_of (o := 0) h1 rfl (Nat.le_refl 1) rfl) rfl rfl rfl rfl ?_
      rw [st_same h1]
      refine L.st (ad := ⟨b2, 0, none⟩) (vs := [.int .i64 0]) (write_of (o := 0) h2 rfl (Nat.le_refl 1) rfl) rfl rfl rfl rfl ?_
      rw [st_same h2]
      repeat (first | refine W.seq ?_ | refine W.block ?_ | refine W.reg ?_ | refine W.skip ?_ | refine W.exit ?_ | refine W.ret ?_ | refine L.nil ?_ | refine L.p rfl rfl ?_ | refine L.skip rfl ?_)
      exact ⟨.inl rfl, rfl⟩
    repeat (first | refine W.seq ?_ | refine W.block ?_ | refine W.reg ?_ | refine W.skip ?_ | refine W.exit ?_ | refine W.ret ?_ | refine L.nil ?_ | refine L.p rfl rfl ?_ | refine L.skip rfl ?_)
    exact ⟨.inl rfl, rfl⟩
  obtain ⟨x, e', S', q1, q2, rfl⟩ := h
  exact dsim_of_ex (Checked.mixed Try.checked) (fun _ _ _ _ _ h => h.elim) (Try.func51) rfl (by kernel_rfl) (Nat.le_of_ble_eq_true rfl) q1 q2 rfl
end Go.Proofs.Ytccdlijohkljcaa

/- Layer 7: Item, joined. Conditions: none. -/
set_option linter.unusedSimpArgs false
set_option linter.unusedVariables false
set_option maxRecDepth 100000
namespace Go.Proofs.Ytccdlijohkljcaa
open Go
variable {G : Nat}

theorem item_pan {S T : Mem} {e : Env} {b : BL} {i : Int} {n : Int} (h4 : e 4 = .pointer (some ⟨S.length, 0, none⟩)) (h5 : e 5 = .pointer (some ⟨S.length + 1, 0, none⟩)) (h6 : e 6 = .pointer (some ⟨S.length + 2, 0, none⟩)) (h7 : e 7 = .pointer (some ⟨S.length + 3, 0, none⟩))
    (hT : T = itemMem S 0 0 0 0) (hv : itemV b i = .tuple #[.int .u8 0, .int .i64 0, .int .i64 0, .int .i64 n]) :
    ∃ m v S', modeOf (.pan (faultV n)) = some m ∧ ALv Try.prog G Try.f25 e [⟨37, [.pointer (some ⟨S.length + 3, 0, none⟩)]⟩, ⟨51, [.pointer (some ⟨S.length + 3, 0, none⟩), .pointer (some ⟨S.length, 0, none⟩), .pointer (some ⟨S.length + 1, 0, none⟩), .pointer (some ⟨S.length + 2, 0, none⟩)]⟩] m T (.ret v) S' ∧ v = itemV b i ∧ Cons S S' := by
  subst hT
  have r0 := itemMem_0 S 0 0 0 0
  have r1 := itemMem_1 S 0 0 0 0
  have r2 := itemMem_2 S 0 0 0 0
  have r3 := itemMem_3 S 0 0 0 0
  have hp := caught_pan (G := G) n (S.length + 3) _ (itemMem S 0 0 0 0) r3 rfl (by simp [newR])
  obtain ⟨F, hF⟩ : ∃ F, F = caughtMem (itemMem S 0 0 0 0) (S.length + 3) (newR [.int .i64 0] 27) n := ⟨_, rfl⟩
  rw [← hF] at hp
  have hpush : Cons (itemMem S 0 0 0 0) (itemMem S 0 0 0 0 ++ [newR [.int .i64 n] 80]) := Cons.push _ _
  have oth : ∀ b r, b ≠ S.length + 3 → (itemMem S 0 0 0 0).row? b = some r → F.row? b = some r := fun b r hb h => by
    rw [hF]; unfold caughtMem; rw [row_set_other _ (Ne.symm hb)]; exact Cons.row (h := hpush) h
  have f0 := oth _ _ (by omega) r0
  have f1 := oth _ _ (by omega) r1
  have f2 := oth _ _ (by omega) r2
  have f3 : F.row? (S.length + 3) = some (newR [.int .i64 n] 27) := by
    rw [hF]; unfold caughtMem; rw [row_set_same (Cons.row (h := hpush) r3) rfl]; rfl
  have hC : Cons S F := by
    rw [hF]; unfold caughtMem
    exact ((itemMem_cons S 0 0 0 0).trans hpush).set _ _ (by omega)
  refine ⟨_, _, F, rfl, .cons hp (.cons (item1_dsim f0 f1 f2 f3 (.inr ⟨rfl, rfl, rfl⟩)) (.ret (v := itemV b i) ?_)), rfl, hC⟩
  have a0 : aloadAt Try.prog 5 (e 4) F = some (.int .u8 0) := by rw [h4]; exact aload_one rfl (cell_of (o := 0) (v := .int .u8 0) f0 rfl (.inl rfl))
  have a1 : aloadAt Try.prog 3 (e 5) F = some (.int .i64 0) := by rw [h5]; exact aload_one rfl (cell_of (o := 0) (v := .int .i64 0) f1 rfl (.inl rfl))
  have a2 : aloadAt Try.prog 3 (e 6) F = some (.int .i64 0) := by rw [h6]; exact aload_one rfl (cell_of (o := 0) (v := .int .i64 0) f2 rfl (.inl rfl))
  have a3 : aloadAt Try.prog 27 (e 7) F = some (.int .i64 n) := by rw [h7]; exact aload_one rfl (cell_of (o := 0) (v := .int .i64 n) f3 rfl (.inl rfl))
  show ((aloadAt Try.prog 5 (e 4) F).bind fun u => (aloadAt Try.prog 3 (e 5) F).bind fun v => (aloadAt Try.prog 3 (e 6) F).bind fun x => (aloadAt Try.prog 27 (e 7) F).map fun y => Value.tuple #[u, v, x, y]) = _
  rw [a0, a1, a2, a3, hv]
  rfl

/-- what holds of each operation -/
inductive AllOps (Q : Nat → Oper → Prop) : Nat → List Oper → Prop
  | nil {j : Nat} : AllOps Q j []
  | cons {j : Nat} {o : Oper} {l : List Oper} (h : Q j o) (t : AllOps Q (j + 1) l) : AllOps Q j (o :: l)
theorem AllOps.get {Q : Nat → Oper → Prop} {l : List Oper} {j : Nat} (h : AllOps Q j l) : ∀ (i : Nat) (o : Oper), l[i]? = some o → Q (j + i) o := by
  induction h with
  | nil => intro i o h; simp at h
  | @cons j o l h t ih =>
    intro i o' e
    cases i with
    | zero => simp at e; subst e; exact h
    | succ i => have := ih i o' (by simpa using e); rwa [Nat.add_right_comm, Nat.add_assoc] at this
/-- the slots after so many operations -/
def envAt (ops : Array Oper) (V : Nat → Value) (e : Env) : Nat → Env
  | 0 => e
  | j + 1 => (envAt ops V e j).put ((ops[j]?).bind (·.dst)) (V j)
section
variable {P : Program} {Ext : FuncId → List Value → Mem → Outc → Mem → Prop} {Q : Xit → Env → Mem → List ADef → Prop} {e : Env} {S : Mem} {Ds : List ADef}
def Fact2 (P : Program) (G : Nat) (ops : Array Oper) (E : Nat → Env) (M : Nat → Mem) (V : Nat → Value) (j : Nat) (o : Oper) : Prop := awanted ops o (E j) = true ∧
    ((apure P o (E j).eval = some (V j) ∧ M (j + 1) = M j) ∨ (aload P o (E j).eval (M j) = some (V j) ∧ M (j + 1) = M j) ∨
     (aeff P o (E j).eval (M j) = some (V j, M (j + 1)) ∧ opKind P o = 3))
def Load2 (P : Program) (E : Nat → Env) (M : Nat → Mem) (V : Nat → Value) (i : Nat) (o : Oper) : Prop := opKind P o = 1 → ∃ x ∈ o.op.operands, ∃ b, (∃ off, (E i).eval x = .pointer (some ⟨b, off, none⟩)) ∧ b < (M i).length ∧ (∀ S2 : Mem, S2[b]? = (M i)[b]? → aload P o (E i).eval S2 = some (V i)) ∧ ∀ k : Nat, (M (k + 1))[b]? = (M k)[b]?
/-- a region that draws, by its slots and memories -/
theorem DV.rows {id : Nat} {ops : Array Oper} {M : Nat → Mem} {V : Nat → Value} (ho : order2Ok P ops = true) (hM0 : M 0 = S) (hf : AllOps (Fact2 P G ops (envAt ops V e) M V) 0 ops.toList) (hl : AllOps (Load2 P (envAt ops V e) M V) 0 ops.toList)
    (h : Q .nrm (envAt ops V e ops.size) (M ops.size) Ds) : DV P G Ext (.region id ops true) e S Ds Q := by
  refine ⟨_, _, _, _, .rows (E := envAt ops V e) (M := M) (V := V) ho rfl hM0 rfl rfl (fun j o hj => ?_) (fun i o hi hk => ?_), h⟩
  · have := hf.get j o (by simpa using hj)
    rw [Nat.zero_add] at this
    refine ⟨by simp only [envAt, hj, Option.bind_some], .inr ⟨this.1, ?_⟩⟩
    rcases this.2 with h1 | h1 | ⟨h1, h2⟩
    · exact .inl h1
    · exact .inr (.inl h1)
    · exact .inr (.inr ⟨sim_eff h1, by omega, fun h => by omega⟩)
  · have := hl.get i o (by simpa using hi) hk
    rw [Nat.zero_add] at this
    obtain ⟨x, hx, b, ⟨off, he⟩, h1, h2, h3⟩ := this
    refine ⟨x, hx, b, fun ρ u hu => ?_, h1, h2, fun k _ _ _ _ => h3 k⟩
    rw [he] at hu
    cases hu with
    | ptr _ c h1 h2 h3 => exact ⟨_, h1⟩
theorem aload_st {t : TypeId} {x : Operand} {a : Addr} {v : Value} {dst : Option Tmp} {ty : TypeId} {pos : String} {af : Array Edge} {gd : Option (Nat × Bool)} (hc : S.cell a = some v) (hx : e.eval x = .pointer (some a)) (hl : loadOne P t = true) : aload P ⟨dst, .load t x, ty, pos, af, gd⟩ e.eval S = some v := by
  show aloadAt P t (e.eval x) S = some v
  rw [hx]
  exact aload_one hl hc
theorem aeff_st {t : TypeId} {a x : Operand} {ad : Addr} {vs : List Value} {S1 : Mem} {dst : Option Tmp} {ty : TypeId} {pos : String} {af : Array Edge} {gd : Option (Nat × Bool)} (hs : S.write ad vs = some S1) (ha : e.eval a = .pointer (some ad))
    (hx : (e.eval x).cells.toList = vs) (hn : cellsOf' P t = some vs.length) : aeff P ⟨dst, .store t a x, ty, pos, af, gd⟩ e.eval S = some (undef, S1) := by
  unfold cellsOf' at hn
  rw [Option.map_eq_some_iff] at hn
  obtain ⟨i, hi, hsz⟩ := hn
  have : (e.eval x).cells.size = i.size := by rw [hsz, ← hx]; simp
  simp only [aeff, ha, hi, this, if_true, hx, hs, Option.map_some]
end
theorem getEq_row {S T : Mem} {b : Nat} (h : S[b]? = T[b]?) : S.row? b = T.row? b := by unfold Mem.row?; rw [h]
theorem itemMem_eq (S : Mem) (t f o e : Int) : itemMem S t f o e = S ++ [newR [.int .u8 t] 5, newR [.int .i64 f] 3, newR [.int .i64 o] 3, newR [.int .i64 e] 27] := by simp [itemMem]
theorem itemMem_set1 (S : Mem) (t f o e f' : Int) : (itemMem S t f o e).set (S.length + 1) { newR [.int .i64 f] 3 with cells := putFrom (newR [.int .i64 f] 3).cells 0 [.int .i64 f'] } = itemMem S t f' o e := by
  rw [itemMem_eq, itemMem_eq, List.set_append_right _ _ (by omega), Nat.add_sub_cancel_left]
  rfl
theorem itemMem_other (S : Mem) (t f o e f' : Int) {b : Nat} (h : b ≠ S.length + 1) : (itemMem S t f o e)[b]? = (itemMem S t f' o e)[b]? := by
  rw [← itemMem_set1 S t f o e f', List.getElem?_set_ne (Ne.symm h)]
theorem itemMem_set2 (S : Mem) (t f o e o' : Int) : (itemMem S t f o e).set (S.length + 2) { newR [.int .i64 o] 3 with cells := putFrom (newR [.int .i64 o] 3).cells 0 [.int .i64 o'] } = itemMem S t f o' e := by
  rw [itemMem_eq, itemMem_eq, List.set_append_right _ _ (by omega), Nat.add_sub_cancel_left]
  rfl
theorem itemMem_set0 (S : Mem) (t f o e t' : Int) : (itemMem S t f o e).set S.length { newR [.int .u8 t] 5 with cells := putFrom (newR [.int .u8 t] 5).cells 0 [.int .u8 t'] } = itemMem S t' f o e := by
  rw [itemMem_eq, itemMem_eq, List.set_append_right _ _ (by omega), Nat.sub_self]
  rfl
/-- what the last region's operations give, the memories between them -/
def lastV (t n o f : Int) (c8 : Value) : Nat → Value
  | 0 => .int .u8 t
  | 1 => .int .i64 o
  | 2 => c8
  | 3 => .int .i64 n
  | 4 => .int .i64 f
  | 5 => .int .i64 o
  | _ => undef
def lastM (S : Mem) (t f o : Int) : Nat → Mem
  | 0 => itemMem S t 0 o 0
  | 1 => itemMem S t 0 o 0
  | 2 => itemMem S t 0 o 0
  | 3 => itemMem S t 0 o 0
  | 4 => itemMem S t 0 o 0
  | 5 => itemMem S t 0 o 0
  | 6 => itemMem S t 0 o 0
  | 7 => itemMem S t 0 o 0
  | _ => itemMem S t f o 0
theorem lastM_same (S : Mem) (t f o : Int) {b : Nat} (h : b ≠ S.length + 1) : ∀ k : Nat, (lastM S t f o (k + 1))[b]? = (lastM S t f o k)[b]?
  | 0 | 1 | 2 | 3 | 4 | 5 | 6 => rfl
  | 7 => itemMem_other S t f o 0 0 h
  | k + 8 => rfl
end Go.Proofs.Ytccdlijohkljcaa

/- Layer 7: Item. Conditions: none. -/
set_option linter.unusedSimpArgs false
set_option linter.unusedVariables false
set_option maxRecDepth 100000
namespace Go.Proofs.Ytccdlijohkljcaa
open Go
variable {G : Nat}

theorem item_last {S : Mem} {e : Env} {t n o : Int} {a : Option Addr} {c m : Nat} {Ds : List ADef} (hn : n = (m : Int)) (h4 : e 4 = .pointer (some ⟨S.length, 0, none⟩)) (h5 : e 5 = .pointer (some ⟨S.length + 1, 0, none⟩)) (h6 : e 6 = .pointer (some ⟨S.length + 2, 0, none⟩)) (h7 : e 7 = .pointer (some ⟨S.length + 3, 0, none⟩)) (h8 : e 8 = .slice a m c) :
    DV Try.prog G (Known Try.prog G) (match Try.f25.body with | some (.seq _ (.seq _ (.seq _ (.seq _ (.seq _ (.seq _ (.seq c _))))))) => c | _ => .skip) e (itemMem S t 0 o 0) Ds
      (fun x e' S' D' => x = .nrm ∧ S' = itemMem S t (IntKind.i64.wrap (o - n)) o 0 ∧ D' = Ds ∧ e' 4 = e 4 ∧ e' 5 = e 5 ∧ e' 6 = e 6 ∧ e' 7 = e 7) := by
  subst hn
  refine DV.rows (M := lastM S t (IntKind.i64.wrap (o - (m : Int))) o) (V := lastV t m o (IntKind.i64.wrap (o - (m : Int))) (.slice a m c)) (by kernel_rfl) rfl ?_ ?_ ⟨rfl, rfl, rfl, rfl, rfl, rfl, rfl⟩
  · refine .cons ⟨rfl, .inr (.inl ⟨aload_st (cell_of (o := 0) (itemMem_0 S t 0 o 0) rfl (.inl rfl)) h4 rfl, rfl⟩)⟩ ?_
    refine .cons ⟨rfl, .inr (.inl ⟨aload_st (cell_of (o := 0) (itemMem_2 S t 0 o 0) rfl (.inl rfl)) h6 rfl, rfl⟩)⟩ ?_
    refine .cons ⟨rfl, .inl ⟨congrArg some h8, rfl⟩⟩ ?_
    refine .cons ⟨rfl, .inl ⟨rfl, rfl⟩⟩ ?_
    refine .cons ⟨rfl, .inl ⟨rfl, rfl⟩⟩ ?_
    refine .cons ⟨rfl, .inr (.inl ⟨aload_st (cell_of (o := 0) (itemMem_2 S t 0 o 0) rfl (.inl rfl)) h6 rfl, rfl⟩)⟩ ?_
    refine .cons ⟨rfl, .inr (.inr ⟨aeff_st (ad := ⟨S.length, 0, none⟩) (vs := [.int .u8 t]) ((write_of (l := [.int .u8 t]) (o := 0) (itemMem_0 S t 0 o 0) rfl (Nat.le_refl 1) rfl).trans (congrArg some (itemMem_set0 S t 0 o 0 t))) h4 rfl rfl, rfl⟩)⟩ ?_
    refine .cons ⟨rfl, .inr (.inr ⟨aeff_st (ad := ⟨S.length + 1, 0, none⟩) (vs := [.int .i64 (IntKind.i64.wrap (o - (m : Int)))]) ((write_of (l := [.int .i64 (IntKind.i64.wrap (o - (m : Int)))]) (o := 0) (itemMem_1 S t 0 o 0) rfl (Nat.le_refl 1) rfl).trans (congrArg some (itemMem_set1 S t 0 o 0 (IntKind.i64.wrap (o - (m : Int)))))) h5 rfl rfl, rfl⟩)⟩ ?_
    refine .cons ⟨rfl, .inr (.inr ⟨aeff_st (ad := ⟨S.length + 2, 0, none⟩) (vs := [.int .i64 o]) ((write_of (l := [.int .i64 o]) (o := 0) (itemMem_2 S t (IntKind.i64.wrap (o - (m : Int))) o 0) rfl (Nat.le_refl 1) rfl).trans (congrArg some (itemMem_set2 S t (IntKind.i64.wrap (o - (m : Int))) o 0 o))) h6 rfl rfl, rfl⟩)⟩ ?_
    refine .cons ⟨rfl, .inr (.inr ⟨aeff_st (ad := ⟨S.length + 3, 0, none⟩) (vs := [.int .i64 0]) ((write_of (l := [.int .i64 0]) (o := 0) (itemMem_3 S t (IntKind.i64.wrap (o - (m : Int))) o 0) rfl (Nat.le_refl 1) rfl).trans (congrArg some (st_same (itemMem_3 S t (IntKind.i64.wrap (o - (m : Int))) o 0)))) h7 rfl rfl, rfl⟩)⟩ ?_
    exact .nil
  · refine .cons (fun _ => ⟨Operand.tmp 4, by simp [Op.operands], S.length, ⟨0, h4⟩, by show _ < (itemMem S t 0 o 0).length; rw [itemMem_len]; omega, fun S2 h2 => aload_st (cell_of (o := 0) ((getEq_row h2).trans (itemMem_0 S t 0 o 0)) rfl (.inl rfl)) h4 rfl, lastM_same S t _ o (by omega)⟩) ?_
    refine .cons (fun _ => ⟨Operand.tmp 6, by simp [Op.operands], S.length + 2, ⟨0, h6⟩, by show _ < (itemMem S t 0 o 0).length; rw [itemMem_len]; omega, fun S2 h2 => aload_st (cell_of (o := 0) ((getEq_row h2).trans (itemMem_2 S t 0 o 0)) rfl (.inl rfl)) h6 rfl, lastM_same S t _ o (by omega)⟩) ?_
    refine .cons (fun h => by cases h) ?_
    refine .cons (fun h => by cases h) ?_
    refine .cons (fun h => by cases h) ?_
    refine .cons (fun _ => ⟨Operand.tmp 6, by simp [Op.operands], S.length + 2, ⟨0, h6⟩, by show _ < (itemMem S t 0 o 0).length; rw [itemMem_len]; omega, fun S2 h2 => aload_st (cell_of (o := 0) ((getEq_row h2).trans (itemMem_2 S t 0 o 0)) rfl (.inl rfl)) h6 rfl, lastM_same S t _ o (by omega)⟩) ?_
    refine .cons (fun h => by cases h) ?_
    refine .cons (fun h => by cases h) ?_
    refine .cons (fun h => by cases h) ?_
    refine .cons (fun h => by cases h) ?_
    exact .nil
end Go.Proofs.Ytccdlijohkljcaa

/- Layer 7: Item. Conditions: none. -/
set_option linter.unusedSimpArgs false
set_option linter.unusedVariables false
set_option maxRecDepth 100000
namespace Go.Proofs.Ytccdlijohkljcaa
open Go
variable {G : Nat}

theorem len1 (S : Mem) (x : Row) : (S ++ [x]).length = S.length + 1 := by simp
theorem len2 (S : Mem) (x y : Row) : (S ++ [x] ++ [y]).length = S.length + 2 := by simp
theorem len3 (S : Mem) (x y z : Row) : (S ++ [x] ++ [y] ++ [z]).length = S.length + 3 := by simp
theorem fun4 {P : Program} {o : Oper} {ev : Operand → Value} {f : Fn} {a b c d : Operand} {va vb vc vd : Value} (h : apure P o ev = some (.func f (Array.map ev #[]) (Array.map ev #[a, b, c, d]))) (ha : ev a = va) (hb : ev b = vb) (hc : ev c = vc) (hd : ev d = vd) :
    apure P o ev = some (.func f #[] #[va, vb, vc, vd]) := by rw [h, ← ha, ← hb, ← hc, ← hd]; simp
theorem item_ret {S : Mem} {e : Env} {b : BL} {i t f o : Int} (h4 : e 4 = .pointer (some ⟨S.length, 0, none⟩)) (h5 : e 5 = .pointer (some ⟨S.length + 1, 0, none⟩)) (h6 : e 6 = .pointer (some ⟨S.length + 2, 0, none⟩)) (h7 : e 7 = .pointer (some ⟨S.length + 3, 0, none⟩))
    (hv : itemV b i = .tuple #[.int .u8 t, .int .i64 f, .int .i64 o, .int .i64 0]) :
    ∃ m v S', modeOf .ret = some m ∧ ALv Try.prog G Try.f25 e [⟨37, [.pointer (some ⟨S.length + 3, 0, none⟩)]⟩, ⟨51, [.pointer (some ⟨S.length + 3, 0, none⟩), .pointer (some ⟨S.length, 0, none⟩), .pointer (some ⟨S.length + 1, 0, none⟩), .pointer (some ⟨S.length + 2, 0, none⟩)]⟩] m (itemMem S t f o 0) (.ret v) S' ∧ v = itemV b i ∧ Cons S S' := by
  have f0 := itemMem_0 S t f o 0
  have f1 := itemMem_1 S t f o 0
  have f2 := itemMem_2 S t f o 0
  have f3 := itemMem_3 S t f o 0
  refine ⟨.ret, _, itemMem S t f o 0, rfl, .cons (caught_ret _ _) (.cons (item1_dsim f0 f1 f2 f3 (.inl rfl)) (.ret (v := itemV b i) ?_)), rfl, itemMem_cons S t f o 0⟩
  have a0 : aloadAt Try.prog 5 (e 4) (itemMem S t f o 0) = some (.int .u8 t) := by rw [h4]; exact aload_one rfl (cell_of (o := 0) (v := .int .u8 t) f0 rfl (.inl rfl))
  have a1 : aloadAt Try.prog 3 (e 5) (itemMem S t f o 0) = some (.int .i64 f) := by rw [h5]; exact aload_one rfl (cell_of (o := 0) (v := .int .i64 f) f1 rfl (.inl rfl))
  have a2 : aloadAt Try.prog 3 (e 6) (itemMem S t f o 0) = some (.int .i64 o) := by rw [h6]; exact aload_one rfl (cell_of (o := 0) (v := .int .i64 o) f2 rfl (.inl rfl))
  have a3 : aloadAt Try.prog 27 (e 7) (itemMem S t f o 0) = some (.int .i64 0) := by rw [h7]; exact aload_one rfl (cell_of (o := 0) (v := .int .i64 0) f3 rfl (.inl rfl))
  show ((aloadAt Try.prog 5 (e 4) (itemMem S t f o 0)).bind fun u => (aloadAt Try.prog 3 (e 5) (itemMem S t f o 0)).bind fun v => (aloadAt Try.prog 3 (e 6) (itemMem S t f o 0)).bind fun x => (aloadAt Try.prog 27 (e 7) (itemMem S t f o 0)).map fun y => Value.tuple #[u, v, x, y]) = _
  rw [a0, a1, a2, a3, hv]
  rfl
theorem DV.mono {P : Program} {Ext : FuncId → List Value → Mem → Outc → Mem → Prop} {Q Q' : Xit → Env → Mem → List ADef → Prop} {e : Env} {S : Mem} {Ds : List ADef} {c : Code} (h : DV P G Ext c e S Ds Q) (k : ∀ x e S D, Q x e S D → Q' x e S D) : DV P G Ext c e S Ds Q' :=
  let ⟨x, e', S', D', h1, h2⟩ := h; ⟨x, e', S', D', h1, k _ _ _ _ h2⟩
theorem itemPub_C (a : Option Addr) (c : Nat) (b : BL) (i : Int) (S : Mem) (hI : BIn S a c b) (hi1 : -9223372036854775808 ≤ i) (hi2 : i ≤ 9223372036854775807) : C Try.prog G (Known Try.prog G) 25 [.slice a b.length c, .int .i64 i] S fun v S' => v = itemV b i ∧ Cons S S' := by
  refine C.known (known_def2 (Checked.mixed Try.checked) (fun _ _ _ _ _ h => h) Try.func25 rfl (by kernel_rfl) rfl ?_)
  have hbl := hI.2.2
  refine DV.seq (DV.code rfl ?_)
  repeat (first | refine W.seq ?_ | refine W.block ?_ | refine W.reg ?_ | refine W.skip ?_ | refine W.exit ?_ | refine W.ret ?_ | refine L.nil ?_ | refine L.p rfl rfl ?_ | refine L.skip rfl ?_)
  refine L.eff (v := .pointer (some ⟨S.length, 0, none⟩)) (S1 := S ++ [newR [.int .u8 0] 5]) rfl rfl ?_
  refine L.eff (v := .pointer (some ⟨S.length + 1, 0, none⟩)) (S1 := S ++ [newR [.int .u8 0] 5] ++ [newR [.int .i64 0] 3]) rfl (by rw [← len1 S (newR [.int .u8 0] 5)]; rfl) ?_
  refine L.eff (v := .pointer (some ⟨S.length + 2, 0, none⟩)) (S1 := S ++ [newR [.int .u8 0] 5] ++ [newR [.int .i64 0] 3] ++ [newR [.int .i64 0] 3]) rfl (by rw [← len2 S (newR [.int .u8 0] 5) (newR [.int .i64 0] 3)]; rfl) ?_
  refine L.eff (v := .pointer (some ⟨S.length + 3, 0, none⟩)) (S1 := itemMem S 0 0 0 0) rfl (by rw [← len3 S (newR [.int .u8 0] 5) (newR [.int .i64 0] 3) (newR [.int .i64 0] 3)]; rfl) ?_
  repeat (first | refine W.seq ?_ | refine W.block ?_ | refine W.reg ?_ | refine W.skip ?_ | refine W.exit ?_ | refine W.ret ?_ | refine L.nil ?_ | refine L.p rfl rfl ?_ | refine L.skip rfl ?_)
  have hC : Cons S (itemMem S 0 0 0 0) := itemMem_cons S 0 0 0 0
  have hI1 := hI.cons hC
  refine DV.seq (DV.deferFn (v := .func (.func 51) #[] #[.pointer (some ⟨S.length + 3, 0, none⟩), .pointer (some ⟨S.length, 0, none⟩), .pointer (some ⟨S.length + 1, 0, none⟩), .pointer (some ⟨S.length + 2, 0, none⟩)]) rfl (fun4 rfl rfl rfl rfl rfl) rfl ?_)
  refine DV.seq (DV.defer rfl rfl ?_)
  refine DV.seq (DV.code rfl ?_)
  repeat (first | refine W.seq ?_ | refine W.block ?_ | refine W.reg ?_ | refine W.skip ?_ | refine W.exit ?_ | refine W.ret ?_ | refine L.nil ?_ | refine L.p rfl rfl ?_ | refine L.skip rfl ?_)
  cases hq : decide (i < 0)
  rotate_left
  · have h0 := of_decide_eq_true hq
    repeat (first | refine W.seq ?_ | refine W.block ?_ | refine W.reg ?_ | refine W.skip ?_ | refine W.exit ?_ | refine W.ret ?_ | refine L.nil ?_ | refine L.p rfl rfl ?_ | refine L.skip rfl ?_)
    refine L.fail (so := true) rfl rfl (fun h => ?_) (fun h => ?_)
    · refine ⟨rfl, ?_⟩
      show ∃ (m : AMode) (v : Value) (S' : Mem), _
      refine item_pan (S := S) (n := 2) (b := b) (i := i) ?_ ?_ ?_ ?_ ?_ (itemV_bad (.inl h0)).symm
      all_goals rfl
    · cases h
  have h0 := of_decide_eq_false hq
  clear hq
  repeat (first | refine W.seq ?_ | refine W.block ?_ | refine W.reg ?_ | refine W.skip ?_ | refine W.exit ?_ | refine W.ret ?_ | refine L.nil ?_ | refine L.p rfl rfl ?_ | refine L.skip rfl ?_)
  refine L.fail (so := decide (i > (b.length : Int))) rfl rfl (fun h => ?_) (fun h => ?_)
  · refine ⟨rfl, ?_⟩
    show ∃ (m : AMode) (v : Value) (S' : Mem), _
    refine item_pan (S := S) (n := 2) (b := b) (i := i) ?_ ?_ ?_ ?_ ?_ (itemV_bad (.inr (of_decide_eq_true h))).symm
    all_goals rfl
  have h1 := of_decide_eq_false h
  clear h
  obtain ⟨k, rfl⟩ : ∃ k : Nat, i = (k : Int) := ⟨i.toNat, by omega⟩
  have hk : k ≤ b.length := by omega
  repeat (first | refine W.seq ?_ | refine W.block ?_ | refine W.reg ?_ | refine W.skip ?_ | refine W.exit ?_ | refine W.ret ?_ | refine L.nil ?_ | refine L.p rfl rfl ?_ | refine L.skip rfl ?_)
  refine DV.seq (DV.code rfl ?_)
  obtain ⟨a1, c1, q1, q2⟩ := hI1.fromT (lv := .int .i64 (k : Int)) (k := k) rfl hk
  obtain ⟨m, hm⟩ : ∃ m, m = b.drop k := ⟨_, rfl⟩
  have hml : m.length = b.length - k := by rw [hm, List.length_drop]
  rw [← hm] at q1 q2
  repeat (first | refine W.seq ?_ | refine W.block ?_ | refine W.reg ?_ | refine W.skip ?_ | refine W.exit ?_ | refine W.ret ?_ | refine L.nil ?_ | refine L.p rfl rfl ?_ | refine L.skip rfl ?_)
  refine L.is (.slice a1 m.length c1) ((slice_at0 rfl rfl rfl).trans q1) rfl ?_
  repeat (first | refine W.seq ?_ | refine W.block ?_ | refine W.reg ?_ | refine W.skip ?_ | refine W.exit ?_ | refine W.ret ?_ | refine L.nil ?_ | refine L.p rfl rfl ?_ | refine L.skip rfl ?_)
  refine L.co (item_C a1 c1 m _ (q2 _ hI1)) rfl rfl ?_
  rintro o S1 ⟨rfl, hR⟩
  cases hit : itemS m with
  | error n =>
    rw [hit] at hR
    subst hR
    · refine ⟨rfl, ?_⟩
      show ∃ (m : AMode) (v : Value) (S' : Mem), _
      refine item_pan (S := S) (n := n) (b := b) (i := k) ?_ ?_ ?_ ?_ ?_ (itemV_err hk (hm ▸ hit)).symm
      all_goals rfl
  | ok p =>
    obtain ⟨h, n⟩ := p
    rw [hit] at hR
    obtain ⟨t, x1, y1, x2, y2, ht, rfl, hp1, hp2⟩ := hR
    refine ⟨fun _ => Cons.refl _, ?_⟩
    have hle := (itemS_ok hit).2.2
    have hb0 : bat b k = t.toNat := by have := bat_of ht; rw [hm, bat_drop] at this; exact this
    repeat (first | refine W.seq ?_ | refine W.block ?_ | refine W.reg ?_ | refine W.skip ?_ | refine W.exit ?_ | refine W.ret ?_ | refine L.nil ?_ | refine L.p rfl rfl ?_ | refine L.skip rfl ?_)
    refine L.st (ad := ⟨S.length, 0, none⟩) (vs := [v8 t]) (write_of (o := 0) (itemMem_0 S 0 0 0 0) rfl (Nat.le_refl 1) rfl) rfl rfl rfl rfl ?_
    rw [show (itemMem S 0 0 0 0).set S.length { newR [.int .u8 0] 5 with cells := putFrom (newR [.int .u8 0] 5).cells 0 [v8 t] } = itemMem S t.toNat 0 0 0 from itemMem_set0 S 0 0 0 0 _]
    repeat (first | refine W.seq ?_ | refine W.block ?_ | refine W.reg ?_ | refine W.skip ?_ | refine W.exit ?_ | refine W.ret ?_ | refine L.nil ?_ | refine L.p rfl rfl ?_ | refine L.skip rfl ?_)
    refine DV.seq (DV.code rfl ?_)
    repeat (first | refine W.seq ?_ | refine W.block ?_ | refine W.reg ?_ | refine W.skip ?_ | refine W.exit ?_ | refine W.ret ?_ | refine L.nil ?_ | refine L.p rfl rfl ?_ | refine L.skip rfl ?_)
    rw [show IntKind.i64.wrap ((b.length : Int) - ((m.length - (h + n) : Nat) : Int)) = (k : Int) + h + n by rw [wrap64 (by omega) (by omega)]; omega]
    refine L.st (ad := ⟨S.length + 2, 0, none⟩) (vs := [.int .i64 ((k : Int) + h + n)]) (write_of (o := 0) (itemMem_2 S t.toNat 0 0 0) rfl (Nat.le_refl 1) rfl) rfl rfl rfl rfl ?_
    rw [itemMem_set2]
    repeat (first | refine W.seq ?_ | refine W.block ?_ | refine W.reg ?_ | refine W.skip ?_ | refine W.exit ?_ | refine W.ret ?_ | refine L.nil ?_ | refine L.p rfl rfl ?_ | refine L.skip rfl ?_)
    refine DV.seq ?_
    refine DV.mono (item_last (S := S) (t := t.toNat) (n := (n : Int)) (o := (k : Int) + h + n) (a := x1) (c := y1) (m := n) rfl ?_ ?_ ?_ ?_ ?_) ?_
    iterate 5 rfl
    rintro x e1 S1 D1 ⟨rfl, rfl, rfl, g4, g5, g6, g7⟩
    refine DV.code rfl ?_
    repeat (first | refine W.seq ?_ | refine W.block ?_ | refine W.reg ?_ | refine W.skip ?_ | refine W.exit ?_ | refine W.ret ?_ | refine L.nil ?_ | refine L.p rfl rfl ?_ | refine L.skip rfl ?_)
    rw [show IntKind.i64.wrap ((k : Int) + h + n - n) = (k : Int) + h by rw [wrap64 (by omega) (by omega)]; omega]
    show ∃ (m : AMode) (v : Value) (S' : Mem), _
    refine item_ret (S := S) (b := b) (i := k) g4 g5 g6 g7 ?_
    rw [itemV_ok hk (hm ▸ hit), hb0]
end Go.Proofs.Ytccdlijohkljcaa
