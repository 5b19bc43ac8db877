/- Lists that were handed out, each with a block of its own; appending to them. Conditions: none. -/
import Derived.Test.YteadbbimikcmgaaSlC
set_option linter.unusedSimpArgs false
set_option linter.unusedVariables false
namespace Go.Proofs.Yteadbbimikcmgaa
open Go

/-- a list that was handed out: its block (if it has one), its length, its capacity -/
structure Hd where
  a : Option Nat
  n : Nat
  c : Nat
def Hd.v (h : Hd) : Value := .slice (h.a.map fun b => ⟨b, 0, none⟩) h.n h.c
/-- it holds l, and may be written and appended to -/
def HdOk (S : Mem) (el : TypeId) (h : Hd) (l : List Value) : Prop :=
  l.length = h.n ∧ ((h.a = none ∧ h.n = 0 ∧ h.c = 0) ∨ ∃ b r, h.a = some b ∧ S.row? b = some r ∧ r.ro = none ∧ h.n ≤ r.cells.length ∧ r.cells.take h.n = l ∧ ((h.c = h.n ∧ h.n < UNK) ∨ (h.c = UNK + h.n ∧ r = grownR l el 1)))
/-- everything but these rows is as it was -/
def KeepL (bs : List Nat) (S S1 : Mem) : Prop := S.length ≤ S1.length ∧ ∀ r, r < S.length → r ∉ bs → S1[r]? = S[r]?
theorem KeepL.refl (bs : List Nat) (S : Mem) : KeepL bs S S := ⟨Nat.le_refl _, fun _ _ _ => rfl⟩
theorem KeepL.trans {bs : List Nat} {S S1 S2 : Mem} (h : KeepL bs S S1) (k : KeepL bs S1 S2) : KeepL bs S S2 := ⟨Nat.le_trans h.1 k.1, fun r hr hb => (k.2 r (Nat.lt_of_lt_of_le hr h.1) hb).trans (h.2 r hr hb)⟩
/-- the second step may touch what is new, too -/
theorem KeepL.then {bs cs : List Nat} {S S1 S2 : Mem} (h : KeepL bs S S1) (k : KeepL cs S1 S2) (hc : ∀ r ∈ cs, r ∈ bs ∨ S.length ≤ r) : KeepL bs S S2 :=
  ⟨Nat.le_trans h.1 k.1, fun r hr hb => (k.2 r (Nat.lt_of_lt_of_le hr h.1) (fun hm => (hc r hm).elim hb (by omega))).trans (h.2 r hr hb)⟩
theorem KeepL.mono {bs cs : List Nat} {S S1 : Mem} (h : KeepL bs S S1) (hc : ∀ r ∈ bs, r ∈ cs) : KeepL cs S S1 := ⟨h.1, fun r hr hb => h.2 r hr (fun hm => hb (hc r hm))⟩
theorem KeepL.row {bs : List Nat} {S S1 : Mem} {c : Nat} {r : Row} (h : KeepL bs S S1) (hr : S.row? c = some r) (hne : c ∉ bs) : S1.row? c = some r := by
  rw [← hr]; simp only [Mem.row?]; rw [h.2 c (row_lt hr) hne]
theorem KeepL.nil {S S1 : Mem} (h : KeepL [] S S1) : Cons S S1 := fun r hr => h.2 r hr (by simp)
theorem Cons.keepL {S S1 : Mem} (h : Cons S S1) (bs : List Nat) : KeepL bs S S1 := ⟨h.len, fun r hr _ => h r hr⟩
theorem Keep.keepL {S S1 : Mem} {b : Nat} {bs : List Nat} (h : Keep b S S1) (hb : b ∈ bs) : KeepL bs S S1 := ⟨h.1, fun r hr hn => h.2 r hr (fun e => hn (e ▸ hb))⟩
theorem KeepL.cons0 {S S1 S0 : Mem} {bs : List Nat} (h : KeepL bs S S1) (h0 : Cons S0 S) (hb : ∀ b ∈ bs, S0.length ≤ b) : Cons S0 S1 := fun r hr =>
  (h.2 r (Nat.lt_of_lt_of_le hr h0.len) (fun hm => by have := hb r hm; omega)).trans (h0 r hr)

theorem HdOk.len {S : Mem} {el : TypeId} {h : Hd} {l : List Value} (k : HdOk S el h l) : l.length = h.n := k.1
theorem HdOk.slv {S : Mem} {el : TypeId} {h : Hd} {l : List Value} (k : HdOk S el h l) : Slv S 1 h.v h.n l := by
  obtain ⟨h1, ⟨h2, h3, h4⟩ | ⟨b, r, h2, h3, h4, h5, h6, h7⟩⟩ := k
  · exact ⟨by omega, _, _, rfl, .inl (by omega)⟩
  · refine ⟨by omega, _, _, rfl, .inr ⟨b, 0, r, by rw [h2]; rfl, h3, by omega, by rw [List.drop_zero, Nat.mul_one]; exact h6, .inl h4⟩⟩
theorem HdOk.keep {S S1 : Mem} {el : TypeId} {h : Hd} {l : List Value} {bs : List Nat} (k : HdOk S el h l) (hk : KeepL bs S S1) (hn : ∀ b, h.a = some b → b ∉ bs) : HdOk S1 el h l := by
  obtain ⟨h1, h2 | ⟨b, r, h2, h3, h4⟩⟩ := k
  · exact ⟨h1, .inl h2⟩
  · exact ⟨h1, .inr ⟨b, r, h2, hk.row h3 (hn b h2), h4⟩⟩
theorem HdOk.cons {S S1 : Mem} {el : TypeId} {h : Hd} {l : List Value} (k : HdOk S el h l) (hk : Cons S S1) : HdOk S1 el h l := k.keep (hk.keepL []) (by simp)
theorem HdOk.lt {S : Mem} {el : TypeId} {h : Hd} {l : List Value} (k : HdOk S el h l) {b : Nat} (hb : h.a = some b) : b < S.length := by
  obtain ⟨h1, ⟨h2, h3, h4⟩ | ⟨b', r, h2, h3, h4⟩⟩ := k
  · rw [h2] at hb; cases hb
  · rw [h2] at hb; cases hb; exact row_lt h3
theorem HdOk.nil (S : Mem) (el : TypeId) : HdOk S el ⟨none, 0, 0⟩ [] := ⟨rfl, .inl ⟨rfl, rfl, rfl⟩⟩
theorem GrowF.hd {N : Nat} {S : Mem} {el : TypeId} {v : Value} {n : Nat} {l : List Value} (h : GrowF N S el 1 v n l) (hn : n < UNK) : ∃ d : Hd, v = d.v ∧ d.n = n ∧ HdOk S el d l ∧ ∀ b, d.a = some b → N ≤ b := by
  rcases h with ⟨h1, ⟨rfl, rfl⟩ | ⟨b, hb, rfl, hr⟩⟩ | ⟨b, r, hb, rfl, hr, hc, hl, ho⟩
  · exact ⟨⟨none, 0, 0⟩, rfl, rfl, ⟨by omega, .inl ⟨rfl, rfl, rfl⟩⟩, nofun⟩
  · have hll : l.length = n := by omega
    exact ⟨⟨some b, n, UNK + n⟩, rfl, rfl, ⟨hll, .inr ⟨b, _, rfl, hr, rfl, by show n ≤ l.length; omega, by show l.take n = l; exact List.take_of_length_le (by omega), .inr ⟨rfl, rfl⟩⟩⟩, by rintro b' ⟨⟩; exact hb⟩
  · subst hc
    have hll : r.cells.length = n := by omega
    exact ⟨⟨some b, n, n⟩, rfl, rfl, ⟨hll, .inr ⟨b, r, rfl, hr, ho, by show n ≤ _; omega, List.take_of_length_le (by show _ ≤ n; omega), .inl ⟨rfl, hn⟩⟩⟩, by rintro b' ⟨⟩; exact hb⟩
/-- a list of known capacity, at a row's beginning -/
theorem HdOk.full {S : Mem} {el : TypeId} {b n : Nat} {r : Row} {l : List Value} (hr : S.row? b = some r) (hro : r.ro = none) (hl : l.length = n) (ht : r.cells.take n = l) (hn : n < UNK) : HdOk S el ⟨some b, n, n⟩ l := by
  refine ⟨hl, .inr ⟨b, r, rfl, hr, hro, ?_, ht, .inl ⟨rfl, hn⟩⟩⟩
  show n ≤ _
  have := congrArg List.length ht
  rw [List.length_take] at this
  omega
theorem HdOk.grown {S : Mem} {el : TypeId} {b n : Nat} {l : List Value} (hr : S.row? b = some (grownR l el 1)) (hl : l.length = n) : HdOk S el ⟨some b, n, UNK + n⟩ l :=
  ⟨hl, .inr ⟨b, _, rfl, hr, rfl, by show n ≤ l.length; omega, by show l.take n = l; exact List.take_of_length_le (by omega), .inr ⟨rfl, rfl⟩⟩⟩
/-- an element is written -/
theorem HdOk.set {S : Mem} {el : TypeId} {b n c i : Nat} {r : Row} {l : List Value} (w : Value) (k : HdOk S el ⟨some b, n, c⟩ l) (hr : S.row? b = some r) : HdOk (S.set b { r with cells := r.cells.set i w }) el ⟨some b, n, c⟩ (l.set i w) := by
  obtain ⟨h1, ⟨h2, _⟩ | ⟨b', r', h2, h3, h4, h5, h6, h7⟩⟩ := k
  · cases h2
  · cases h2
    rw [hr] at h3; cases h3
    refine ⟨by rw [List.length_set]; exact h1, .inr ⟨b, _, rfl, row_set_same hr (Mem.row?_some hr).2, h4, by simpa using h5, ?_, ?_⟩⟩
    · show (r.cells.set i w).take n = _
      rw [← h6, ← List.take_set]
    · rcases h7 with h7 | ⟨h7, h8⟩
      · exact .inl h7
      · refine .inr ⟨h7, ?_⟩
        subst h8; rfl
theorem HdOk.row {S : Mem} {el : TypeId} {b n c : Nat} {l : List Value} (k : HdOk S el ⟨some b, n, c⟩ l) : ∃ r, S.row? b = some r ∧ r.ro = none ∧ n ≤ r.cells.length ∧ r.cells.take n = l := by
  obtain ⟨h1, ⟨h2, _⟩ | ⟨b', r', h2, h3, h4, h5, h6, h7⟩⟩ := k
  · cases h2
  · cases h2
    exact ⟨r', h3, h4, h5, h6⟩
theorem app_hd {P : Program} {ts xs : TypeId} {el : TypeId} {bytes m : Nat} {S : Mem} {h : Hd} {x : Value} {l news : List Value} (hok : appOk P ts xs = some (el, 1, bytes)) (hg : HdOk S el h l)
    (hx : firstOf S 1 m x = some news) (hm : lenOf' x = some m) (hnews : news.length = m) (h1 : news.all oneCell = true) (hroom : roomy (h.n + m) bytes) (hpos : 0 < m) :
    ∃ h' S', aappend P ts xs h.v x S = some (Hd.v h', S') ∧ HdOk S' el h' (l ++ news) ∧ h'.n = h.n + m ∧ h'.c = UNK + h'.n ∧ (∃ b, h'.a = some b ∧ S.length ≤ b) ∧ KeepL h.a.toList S S' := by
  obtain ⟨a, n, c⟩ := h
  obtain ⟨hl, ⟨h2, h3, h4⟩ | ⟨b, r, h2, h3, h4, h5, h6, h7⟩⟩ := hg
  · dsimp only at h2 h3 h4 hl hroom
    subst h2; subst h3; subst h4
    have hl0 : l = [] := List.length_eq_zero_iff.1 hl
    subst hl0
    obtain ⟨v', S', q1, q2, q3, q4⟩ := app_grow (N := S.length) hok (Nat.le_refl _) (Grow.nil S.length S el 1) hx hm (by omega) h1 hroom hpos
    obtain ⟨q5, ⟨_, q6⟩ | ⟨b', q6, q7, q8⟩⟩ := q2
    · omega
    · subst q7
      exact ⟨⟨some b', 0 + m, UNK + (0 + m)⟩, S', q1, HdOk.grown q8 (by omega), rfl, rfl, ⟨b', rfl, q6⟩, ⟨q3, fun r hr _ => q4 r hr⟩⟩
  · dsimp only at h2 h5 h6 h7 hl hroom
    subst h2
    rcases h7 with ⟨rfl, h8⟩ | ⟨rfl, rfl⟩
    · have hv : Slv S 1 (.slice (some ⟨b, 0, none⟩) c c) c l := by
        have := Slv.of (sz := 1) (n := c) (o := 0) (c := c) h3 (by omega) (.inl h4)
        rwa [List.drop_zero, Nat.mul_one, h6] at this
      obtain ⟨v', q1, q2⟩ := app_full hok hv hx hm (by omega) hroom hpos
      obtain ⟨q5, ⟨_, q6⟩ | ⟨b', q6, q7, q8⟩⟩ := q2
      · omega
      · subst q7
        exact ⟨⟨some b', c + m, UNK + (c + m)⟩, _, q1, HdOk.grown q8 (by simp; omega), rfl, rfl, ⟨b', rfl, q6⟩, (Cons.push S _).keepL _⟩
    · obtain ⟨dx, i, z, hu1, hu2, hi, hd, hz, hzz1, hzz2, hsz, rfl⟩ := appOk_some hok
      have hbig : n + m < UNK := by have := hroom.2.2.1; unfold UNK; omega
      have hcond : ¬ (z.cells.size ≠ i.size ∨ ¬ z.cells.toList.all scalar = true) := fun h => h.elim (fun h => h hzz1) (fun h => h hzz2)
      have hf : firstOf S i.size n (.slice (some ⟨b, 0, none⟩) n (UNK + n)) = some l := by
        have := (Slv.all (c := UNK + n) h3 rfl (show l.length = n * 1 by omega)).first (Nat.le_refl _)
        rw [hsz, this]
        show some (l.take (n * 1)) = some l
        rw [List.take_of_length_le (by omega)]
      have hlt := row_lt h3
      refine ⟨⟨some S.length, n + m, UNK + (n + m)⟩, S.set b { grownR l el 1 with st := .moved } ++ [grownR (l ++ news) el 1], ?_, HdOk.grown ?_ (by simp; omega), rfl, rfl, ⟨_, rfl, Nat.le_refl _⟩, by simp, fun r hr hne => ?_⟩
      · show aappend P ts xs (.slice (some ⟨b, 0, none⟩) n (UNK + n)) x S = _
        rw [aappend_eq hu1 hu2 hi hd hz hm, hf, hsz]
        simp only [hx, Option.bind_some]
        rw [← hsz, if_neg hcond, if_neg (by rw [knownCap_unk]; omega), if_pos ⟨hroom, by rw [hsz]; omega, by rw [hsz]; omega⟩, if_neg (by omega)]
        rw [if_pos (by simp)]
        simp only [h3]
        rw [if_pos ⟨rfl, rfl, rfl, hsz.symm, h1, by rw [hsz]; show n * 1 ≤ l.length; omega⟩]
        rw [hsz]; rfl
      · have := row_push_new (S := S.set b { grownR l el 1 with st := .moved }) (x := grownR (l ++ news) el 1) rfl
        rwa [List.length_set] at this
      · simp at hne
        rw [List.getElem?_append_left (by simpa using hr), List.getElem?_set, if_neg (fun e => hne e.symm)]
theorem app_hd0 {P : Program} {ts xs : TypeId} {el : TypeId} {bytes : Nat} {S : Mem} {h : Hd} {x : Value} {l : List Value} (hok : appOk P ts xs = some (el, 1, bytes)) (hg : HdOk S el h l)
    (hx : firstOf S 1 0 x = some []) (hm : lenOf' x = some 0) : aappend P ts xs h.v x S = some (h.v, S) := by
  obtain ⟨dx, i, z, hu1, hu2, hi, hd, hz, hzz1, hzz2, hsz, rfl⟩ := appOk_some hok
  have hcond : ¬ (z.cells.size ≠ i.size ∨ ¬ z.cells.toList.all scalar = true) := fun h => h.elim (fun h => h hzz1) (fun h => h hzz2)
  have hf := hg.slv.first (Nat.le_refl _)
  obtain ⟨a, n, c⟩ := h
  dsimp only [Hd.v] at hf ⊢
  rw [aappend_eq hu1 hu2 hi hd hz hm, hsz, hx, hf]
  simp only [Option.bind_some]
  rw [if_neg (by rw [← hsz]; exact hcond)]
  obtain ⟨hl, ⟨h2, h3, h4⟩ | ⟨b, r, h2, h3, h4, h5, h6, h7⟩⟩ := hg
  · dsimp only at h2 h3 h4
    subst h2; subst h3; subst h4
    simp [knownCap, UNK]
  · dsimp only at h2 h7
    subst h2
    have hk : n + 0 ≤ knownCap c := by
      rcases h7 with ⟨rfl, h8⟩ | ⟨rfl, _⟩
      · unfold knownCap; rw [if_pos h8]; omega
      · rw [knownCap_unk]; omega
    rw [if_pos hk]
    simp
section
variable {P : Program} {G : Nat} {Ext : FuncId → List Value → Mem → Outc → Mem → Prop} {e : Env} {S : Mem} {fl : Bool} {ops : Array Oper} {K : Env → Mem → Prop}
variable {rest : List Oper} {dst dst2 : Option Tmp} {d : Tmp} {ty ty2 : TypeId} {pos pos2 : String} {af af2 : Array Edge} {gd gd2 : Option (Nat × Bool)}
/-- append(s, one), s a list that was handed out -/
theorem L.pushH {t ts xs el : TypeId} {s y : Operand} {bytes : Nat} {h : Hd} {w : Value} {l : List Value} (hok : appOk P ts xs = some (el, 1, bytes)) (hg : HdOk S el h l)
    (hb : bldOk P t = some (el, 1)) (hy : e.eval y = w) (h1 : oneCell w = true)
    (w1 : awanted ops ⟨some d, .buildSlice t 1 #[(0, y)], ty, pos, af, gd⟩ e = true)
    (hs : (e.put (some d) (.slice (some ⟨S.length, 0, none⟩) 1 1)).eval s = h.v) (hroom : h.n + 1 ≤ 1099511627776) (hby : (Nat.ble 1 bytes && Nat.ble bytes 64) = true)
    (w2 : ∀ p, awanted ops ⟨dst2, .call ⟨.builtin .append, #[s, .tmp d], #[ts, xs]⟩, ty2, pos2, af2, gd2⟩ (e.put (some d) p) = true)
    (k : ∀ p h' S', HdOk S' el h' (l ++ [w]) → h'.n = h.n + 1 → (∃ b, h'.a = some b ∧ S.length ≤ b) → KeepL h.a.toList S S' → L P G Ext fl ops rest ((e.put (some d) p).put dst2 (Hd.v h')) S' K) :
    L P G Ext fl ops (⟨some d, .buildSlice t 1 #[(0, y)], ty, pos, af, gd⟩ :: ⟨dst2, .call ⟨.builtin .append, #[s, .tmp d], #[ts, xs]⟩, ty2, pos2, af2, gd2⟩ :: rest) e S K := by
  refine L.bs [w] hb rfl rfl (by simp [hy]) (by simp [h1]) w1 ?_
  have hc : Cons S (S ++ [newR [w] el]) := Cons.push _ _
  have hx : Slv (S ++ [newR [w] el]) 1 (.slice (some ⟨S.length, 0, none⟩) 1 1) 1 [w] := Slv.all (row_push_new rfl) rfl (by simp)
  obtain ⟨h', S', q1, q2, q3, q4, ⟨b, q5, q6⟩, q7⟩ := app_hd (x := .slice (some ⟨S.length, 0, none⟩) 1 1) hok (hg.cons hc) (hx.first (Nat.le_refl 1)) rfl rfl (by simp [h1]) (roomy_of hroom hby) (by omega)
  exact L.eff (w2 _) (by rw [aeff_append rfl rfl, hs]; simpa [Env.eval, Env.put] using q1) (k _ h' S' q2 q3 ⟨b, q5, by simp at q6; omega⟩ ((hc.keepL _).trans q7))
/-- append(s, x...), s a list that was handed out -/
theorem L.appH {ts xs el : TypeId} {s x : Operand} {bytes m : Nat} {h : Hd} {xv : Value} {l news : List Value} (hok : appOk P ts xs = some (el, 1, bytes)) (hg : HdOk S el h l) (hs : e.eval s = h.v) (hxv : e.eval x = xv)
    (hx : Slv S 1 xv m news) (h1 : news.all oneCell = true) (hroom : h.n + m ≤ 1099511627776) (hby : (Nat.ble 1 bytes && Nat.ble bytes 64) = true) (hw : awanted ops ⟨dst, .call ⟨.builtin .append, #[s, x], #[ts, xs]⟩, ty, pos, af, gd⟩ e = true)
    (k : ∀ h' S', HdOk S' el h' (l ++ news) → h'.n = h.n + m → (h'.a = h.a ∧ m = 0 ∨ ∃ b, h'.a = some b ∧ S.length ≤ b) → KeepL h.a.toList S S' → L P G Ext fl ops rest (e.put dst (Hd.v h')) S' K) :
    L P G Ext fl ops (⟨dst, .call ⟨.builtin .append, #[s, x], #[ts, xs]⟩, ty, pos, af, gd⟩ :: rest) e S K := by
  have hf := hx.first (Nat.le_refl m)
  rw [← hx.1, List.take_length] at hf
  have hl : lenOf' xv = some m := by obtain ⟨_, a, c, rfl, _⟩ := hx; rfl
  have hnl : news.length = m := by have := hx.1; omega
  rcases Nat.eq_zero_or_pos m with rfl | hpos
  · have hn0 : news = [] := List.length_eq_zero_iff.1 hnl
    subst hn0
    exact L.eff hw (by rw [aeff_append rfl rfl, hs, hxv]; exact app_hd0 hok hg hf hl) (k h S (by rw [List.append_nil]; exact hg) rfl (.inl ⟨rfl, rfl⟩) (KeepL.refl _ _))
  · obtain ⟨h', S', q1, q2, q3, q4, ⟨b, q5, q6⟩, q7⟩ := app_hd hok hg hf hl hnl h1 (roomy_of hroom hby) hpos
    exact L.eff hw (by rw [aeff_append rfl rfl, hs, hxv]; exact q1) (k h' S' q2 q3 (.inr ⟨b, q5, q6⟩) q7)
end
/-- a part of an element that has several cells -/
theorem Slv.get2 {S : Mem} {n sz k j : Nat} {v w : Value} {l : List Value} (h : Slv S sz v n l) (hj : j < sz) (hk : k < n) (hw : l[k * sz + j]? = some w) : ∃ b o c, v = .slice (some ⟨b, o, none⟩) n c ∧ S.cell ⟨b, o + k * sz + j, none⟩ = some w := by
  obtain ⟨h1, a, c, rfl, h3⟩ := h
  have hlt := (List.getElem?_eq_some_iff.1 hw).1
  rcases h3 with h3 | ⟨b, o, r, rfl, e2, e3, e4, e5⟩
  · omega
  · refine ⟨b, o, c, rfl, cell_of e2 ?_ (e5.imp id fun h => List.all_eq_true.1 h w (List.mem_of_getElem? hw))⟩
    rw [← e4, List.getElem?_take, if_pos (by omega), List.getElem?_drop] at hw
    rw [Nat.add_assoc]
    exact hw
end Go.Proofs.Yteadbbimikcmgaa
