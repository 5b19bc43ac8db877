/- The book: each list has memory of its own. Conditions: none. -/
import Derived.Test.YteadbbimikcmgaaBookB
set_option linter.unusedSimpArgs false
set_option linter.unusedVariables false
set_option maxRecDepth 100000
namespace Go.Proofs.Yteadbbimikcmgaa
open Go
variable {G : Nat} {Ext : FuncId → List Value → Mem → Outc → Mem → Prop}

def mkW (k n : Nat) : List Value := (List.range n).map fun (i : Nat) => v64 (mk k i)
def mkB (k n : Nat) : List Value := (List.range n).map fun (i : Nat) => v8 ((mk k i).setWidth 8)
theorem mkW_len (k n : Nat) : (mkW k n).length = n := by simp [mkW]
theorem mkB_len (k n : Nat) : (mkB k n).length = n := by simp [mkB]
theorem mkW_succ (k n : Nat) : mkW k (n + 1) = mkW k n ++ [v64 (mk k n)] := by simp [mkW, List.range_succ]
theorem mkB_succ (k n : Nat) : mkB k (n + 1) = mkB k n ++ [v8 ((mk k n).setWidth 8)] := by simp [mkB, List.range_succ]
theorem mkW_get {k n i : Nat} (h : i < n) : (mkW k n)[i]? = some (v64 (mk k i)) := by simp [mkW, h]
theorem mkB_get {k n i : Nat} (h : i < n) : (mkB k n)[i]? = some (v8 ((mk k i).setWidth 8)) := by simp [mkB, h]
theorem take_set_succ {l m : List Value} {w : Value} {i : Nat} (h : l.take i = m) (hi : i < l.length) : (l.set i w).take (i + 1) = m ++ [w] := by
  rw [List.take_add_one, List.getElem?_set_self hi, List.take_set_of_le (Nat.le_refl i), h]; rfl
def blks (hs : List Hd) : List Nat := hs.filterMap Hd.a
theorem blks_mem {hs : List Hd} {h : Hd} {b : Nat} {k : Nat} (hk : hs[k]? = some h) (hb : h.a = some b) : b ∈ blks hs := List.mem_filterMap.2 ⟨h, List.mem_of_getElem? hk, hb⟩
theorem blks_at {hs : List Hd} {b : Nat} (h : b ∈ blks hs) : ∃ (k : Nat) (d : Hd), hs[k]? = some d ∧ d.a = some b := by
  obtain ⟨d, h1, h2⟩ := List.mem_filterMap.1 h
  obtain ⟨k, h3⟩ := List.getElem?_of_mem h1
  exact ⟨k, d, h3, h2⟩
/-- each list's block is its own -/
def Own (hs : List Hd) : Prop := ∀ (i j : Nat) (h d : Hd) (b : Nat), hs[i]? = some h → hs[j]? = some d → h.a = some b → d.a = some b → i = j
def Alive (S : Mem) (el : TypeId) (hs : List Hd) : Prop := ∀ (i : Nat) (h : Hd), hs[i]? = some h → h.n ≤ 1000000000000 ∧ ∃ l, HdOk S el h l
def Marked (S : Mem) (el : TypeId) (f : Nat → Nat → List Value) (x : Nat) (hs : List Hd) : Prop := ∀ (i : Nat) (h : Hd), hs[i]? = some h → HdOk S el h (f i (h.n + x))
theorem Alive.keep {S S1 : Mem} {el : TypeId} {hs : List Hd} {bs : List Nat} (h : Alive S el hs) (k : KeepL bs S S1) (hd : ∀ b ∈ bs, b ∉ blks hs) : Alive S1 el hs := fun i d hi =>
  ⟨(h i d hi).1, (h i d hi).2.imp fun l h2 => h2.keep k fun b e hm => hd b hm (blks_mem hi e)⟩

set_option maxHeartbeats 1000000 in
theorem apart_C (S : Mem) (rb : Nat) (ws bs : List Hd) (ps : List Nat) (hB : Book S rb ws bs ps) (hn : ws.length < 1000000 ∧ bs.length < 1000000) (hAws : Alive S 36 ws) (hAbs : Alive S 5 bs)
    (hOws : Own ws) (hObs : Own bs) (hdws : ∀ b ∈ blks ws, b ∉ ps) (hdbs : ∀ b ∈ blks bs, b ∉ ps) (hdd : ∀ b ∈ blks ws, b ∉ blks bs) :
    C Try.prog G Ext 23 [.pointer (some ⟨rb, 0, none⟩)] S fun v S' => v = .bool true ∧ KeepL (blks ws ++ blks bs) S S' := by
  refine C.fn Try.func23 rfl (by kernel_rfl) rfl ?_
  have hBws := hB
  repeat (first | refine W.seq ?_ | refine W.block ?_ | refine W.reg ?_ | refine W.skip ?_ | refine W.exit ?_ | refine W.ret ?_ | refine L.nil ?_ | refine L.p rfl rfl ?_ | refine L.skip rfl ?_)
  refine W.loop (fun j e S' => ∃ k : Nat, j = ws.length - k ∧ k ≤ ws.length ∧ e 0 = .pointer (some ⟨rb, 0, none⟩) ∧ e 3 = vi k ∧ KeepL (blks ws) S S' ∧ (∀ (i : Nat) (h : Hd), ws[i]? = some h → if i < k then HdOk S' 36 h (mkW i h.n) else ∃ l, HdOk S' 36 h l)) ws.length
    ⟨0, by omega, by omega, rfl, rfl, KeepL.refl _ _, fun i h hi => by rw [if_neg (by omega)]; exact (hAws i h hi).2⟩ ?_
  rintro j e S' ⟨k, rfl, hk, e0, ek, hkeep, hst⟩
  refine W.env2 e0 ek ?_
  obtain ⟨hw, hb, hr, h2, h3, h4, h5, h6⟩ := hBws.keep hkeep hdws
  have hlen := h2.len
  rw [List.length_map] at hlen
  repeat (first | refine W.seq ?_ | refine W.block ?_ | refine W.reg ?_ | refine W.skip ?_ | refine W.exit ?_ | refine W.ret ?_ | refine L.nil ?_ | refine L.p rfl rfl ?_ | refine L.skip rfl ?_)
  refine L.ld (cell_of hr rfl) rfl rfl rfl ?_
  repeat (first | refine W.seq ?_ | refine W.block ?_ | refine W.reg ?_ | refine W.skip ?_ | refine W.exit ?_ | refine W.ret ?_ | refine L.nil ?_ | refine L.p rfl rfl ?_ | refine L.skip rfl ?_)
  refine W.ite rfl (fun h => ?_) (fun h => ?_)
  · have hkl : k < ws.length := by simp at h; omega
    obtain ⟨hh, hkh⟩ : ∃ hh, ws[k]? = some hh := ⟨_, List.getElem?_eq_getElem hkl⟩
    have hel : (ws.map Hd.v)[k]? = some hh.v := by rw [List.getElem?_map, hkh]; rfl
    obtain ⟨l0, hl0⟩ : ∃ l, HdOk S' 36 hh l := by have := hst k hh hkh; rwa [if_neg (by omega)] at this
    have hnb : ∀ b, hh.a = some b → b ≠ rb := fun b e hm => hdws b (blks_mem hkh e) (hm ▸ h4)
    have hnw : ∀ b, hh.a = some b → hw.a ≠ some b := fun b e hm => hdws b (blks_mem hkh e) (h5 b hm).1
    have hsm := (hAws k hh hkh).1
    clear h
    repeat (first | refine W.seq ?_ | refine W.block ?_ | refine W.reg ?_ | refine W.skip ?_ | refine W.exit ?_ | refine W.ret ?_ | refine L.nil ?_ | refine L.p rfl rfl ?_ | refine L.skip rfl ?_)
    refine W.loop (fun j e S'' => ∃ (i : Nat) (l : List Value), j = hh.n - i ∧ i ≤ hh.n ∧ e 0 = .pointer (some ⟨rb, 0, none⟩) ∧ e 3 = vi k ∧ e 4 = vi i ∧ KeepL hh.a.toList S' S'' ∧ HdOk S'' 36 hh l ∧ l.take i = mkW k i) hh.n
      ⟨0, l0, by omega, by omega, rfl, rfl, rfl, KeepL.refl _ _, hl0, rfl⟩ ?_
    rintro j e S'' ⟨i, l, rfl, hi, e0, ek, ei, hkp, hl, htk⟩
    refine W.env3 e0 ek ei ?_
    have hr2 := hkp.row hr (fun hm => hnb rb (by simpa using hm) rfl)
    have hx2 := h2.keep hkp (fun b e hm => hnw b (by simpa using hm) e)
    repeat (first | refine W.seq ?_ | refine W.block ?_ | refine W.reg ?_ | refine W.skip ?_ | refine W.exit ?_ | refine W.ret ?_ | refine L.nil ?_ | refine L.p rfl rfl ?_ | refine L.skip rfl ?_)
    refine L.ld (cell_of hr2 rfl) rfl rfl rfl ?_
    repeat (first | refine W.seq ?_ | refine W.block ?_ | refine W.reg ?_ | refine W.skip ?_ | refine W.exit ?_ | refine W.ret ?_ | refine L.nil ?_ | refine L.p rfl rfl ?_ | refine L.skip rfl ?_)
    refine L.el hx2.slv rfl hel rfl rfl rfl rfl (fun _ => rfl) rfl (fun p => ?_)
    repeat (first | refine W.seq ?_ | refine W.block ?_ | refine W.reg ?_ | refine W.skip ?_ | refine W.exit ?_ | refine W.ret ?_ | refine L.nil ?_ | refine L.p rfl rfl ?_ | refine L.skip rfl ?_)
    refine W.ite rfl (fun h => ?_) (fun h => ?_)
    · have hin : i < hh.n := by simp at h; omega
      obtain ⟨a, n, c⟩ := hh
      obtain ⟨b, rfl⟩ : ∃ b, a = some b := by
        obtain ⟨_, ⟨_, h0, _⟩ | ⟨b, _, h0, _⟩⟩ := hl
        · dsimp only at h0 hin; omega
        · exact ⟨b, h0⟩
      obtain ⟨r, hrr, hro, hrl, hrt⟩ := hl.row
      have hll := hl.len
      dsimp only at hin hll hi
      repeat (first | refine W.seq ?_ | refine W.block ?_ | refine W.reg ?_ | refine W.skip ?_ | refine W.exit ?_ | refine W.ret ?_ | refine L.nil ?_ | refine L.p rfl rfl ?_ | refine L.skip rfl ?_)
      refine L.ld (cell_of hr2 rfl) rfl rfl rfl ?_
      repeat (first | refine W.seq ?_ | refine W.block ?_ | refine W.reg ?_ | refine W.skip ?_ | refine W.exit ?_ | refine W.ret ?_ | refine L.nil ?_ | refine L.p rfl rfl ?_ | refine L.skip rfl ?_)
      refine L.el hx2.slv rfl hel rfl rfl rfl rfl (fun _ => rfl) rfl (fun p => ?_)
      repeat (first | refine W.seq ?_ | refine W.block ?_ | refine W.reg ?_ | refine W.skip ?_ | refine W.exit ?_ | refine W.ret ?_ | refine L.nil ?_ | refine L.p rfl rfl ?_ | refine L.skip rfl ?_)
      refine L.cl (mark_C _ _ _) rfl rfl ?_
      rintro _ _ ⟨rfl, rfl⟩
      refine ⟨fun _ => Cons.refl _, ?_⟩
      repeat (first | refine W.seq ?_ | refine W.block ?_ | refine W.reg ?_ | refine W.skip ?_ | refine W.exit ?_ | refine W.ret ?_ | refine L.nil ?_ | refine L.p rfl rfl ?_ | refine L.skip rfl ?_)
      refine L.elst hrr hro (by omega) rfl hin rfl rfl rfl rfl (fun _ => rfl) (fun _ => rfl) rfl rfl rfl (fun p => ?_)
      repeat (first | refine W.seq ?_ | refine W.block ?_ | refine W.reg ?_ | refine W.skip ?_ | refine W.exit ?_ | refine W.ret ?_ | refine L.nil ?_ | refine L.p rfl rfl ?_ | refine L.skip rfl ?_)
      rw [Nat.zero_add]
      refine ⟨n - (i + 1), by show n - (i + 1) < n - i; omega, i + 1, _, rfl, by show i + 1 ≤ n; omega, rfl, rfl, ?_, ?_, hl.set _ hrr, ?_⟩
      · refine (force_eq rfl).trans ?_
        rw [wrap64 (by omega) (by dsimp only at hsm; omega)]; rfl
      · exact hkp.trans ((Keep.set b _ _).keepL (by simp))
      · rw [mkW_succ]; exact take_set_succ htk (by omega)
    · have hin : i = hh.n := by simp at h; omega
      subst hin
      repeat (first | refine W.seq ?_ | refine W.block ?_ | refine W.reg ?_ | refine W.skip ?_ | refine W.exit ?_ | refine W.ret ?_ | refine L.nil ?_ | refine L.p rfl rfl ?_ | refine L.skip rfl ?_)
      refine ⟨ws.length - (k + 1), by omega, k + 1, rfl, by omega, rfl, ?_, ?_, ?_⟩
      · refine (force_eq rfl).trans ?_
        rw [wrap64 (by omega) (by omega)]; rfl
      · exact hkeep.trans (hkp.mono fun b hm => blks_mem hkh (by simpa using hm))
      · intro i h hi'
        by_cases hik : i = k
        · subst hik
          rw [hkh] at hi'; cases hi'
          rw [if_pos (by omega)]
          rw [List.take_of_length_le (Nat.le_of_eq hl.len)] at htk
          rw [← htk]; exact hl
        · have hne : ∀ b, h.a = some b → b ∉ hh.a.toList := fun b e hm => hik (hOws i k h hh b hi' hkh e (by simpa using hm))
          have := hst i h hi'
          split at this
          · rw [if_pos (by omega)]; exact this.keep hkp hne
          · rw [if_neg (by omega)]
            obtain ⟨l', hl'⟩ := this
            exact ⟨l', hl'.keep hkp hne⟩
  have hkl : k = ws.length := by simp at h; omega
  subst hkl
  have hMws : Marked S' 36 mkW 0 ws := fun i h hi => by
    have := hst i h hi
    have hlt := (List.getElem?_eq_some_iff.1 hi).1
    rw [if_pos hlt] at this
    exact this
  clear hst h hr h2 h3 h5 h6 hlen ek
  rename Mem => S1
  have hBbs := hBws.keep hkeep hdws
  have hAbs := hAbs.keep hkeep hdd
  have hkeep1 := hkeep
  clear hBws hkeep e0 hk
  repeat (first | refine W.seq ?_ | refine W.block ?_ | refine W.reg ?_ | refine W.skip ?_ | refine W.exit ?_ | refine W.ret ?_ | refine L.nil ?_ | refine L.p rfl rfl ?_ | refine L.skip rfl ?_)
  refine W.loop (fun j e S' => ∃ k : Nat, j = bs.length - k ∧ k ≤ bs.length ∧ e 0 = .pointer (some ⟨rb, 0, none⟩) ∧ e 5 = vi k ∧ KeepL (blks bs) S1 S' ∧ (∀ (i : Nat) (h : Hd), bs[i]? = some h → if i < k then HdOk S' 5 h (mkB i h.n) else ∃ l, HdOk S' 5 h l)) bs.length
    ⟨0, by omega, by omega, rfl, rfl, KeepL.refl _ _, fun i h hi => by rw [if_neg (by omega)]; exact (hAbs i h hi).2⟩ ?_
  rintro j e S' ⟨k, rfl, hk, e0, ek, hkeep, hst⟩
  refine W.env2 e0 ek ?_
  obtain ⟨hw, hb, hr, h2, h3, h4, h5, h6⟩ := hBbs.keep hkeep hdbs
  have hlen := h3.len
  rw [List.length_map] at hlen
  repeat (first | refine W.seq ?_ | refine W.block ?_ | refine W.reg ?_ | refine W.skip ?_ | refine W.exit ?_ | refine W.ret ?_ | refine L.nil ?_ | refine L.p rfl rfl ?_ | refine L.skip rfl ?_)
  refine L.ld (cell_of hr rfl) rfl rfl rfl ?_
  repeat (first | refine W.seq ?_ | refine W.block ?_ | refine W.reg ?_ | refine W.skip ?_ | refine W.exit ?_ | refine W.ret ?_ | refine L.nil ?_ | refine L.p rfl rfl ?_ | refine L.skip rfl ?_)
  refine W.ite rfl (fun h => ?_) (fun h => ?_)
  · have hkl : k < bs.length := by simp at h; omega
    obtain ⟨hh, hkh⟩ : ∃ hh, bs[k]? = some hh := ⟨_, List.getElem?_eq_getElem hkl⟩
    have hel : (bs.map Hd.v)[k]? = some hh.v := by rw [List.getElem?_map, hkh]; rfl
    obtain ⟨l0, hl0⟩ : ∃ l, HdOk S' 5 hh l := by have := hst k hh hkh; rwa [if_neg (by omega)] at this
    have hnb : ∀ b, hh.a = some b → b ≠ rb := fun b e hm => hdbs b (blks_mem hkh e) (hm ▸ h4)
    have hnw : ∀ b, hh.a = some b → hb.a ≠ some b := fun b e hm => hdbs b (blks_mem hkh e) (h6 b hm).1
    have hsm := (hAbs k hh hkh).1
    clear h
    repeat (first | refine W.seq ?_ | refine W.block ?_ | refine W.reg ?_ | refine W.skip ?_ | refine W.exit ?_ | refine W.ret ?_ | refine L.nil ?_ | refine L.p rfl rfl ?_ | refine L.skip rfl ?_)
    refine W.loop (fun j e S'' => ∃ (i : Nat) (l : List Value), j = hh.n - i ∧ i ≤ hh.n ∧ e 0 = .pointer (some ⟨rb, 0, none⟩) ∧ e 5 = vi k ∧ e 6 = vi i ∧ KeepL hh.a.toList S' S'' ∧ HdOk S'' 5 hh l ∧ l.take i = mkB k i) hh.n
      ⟨0, l0, by omega, by omega, rfl, rfl, rfl, KeepL.refl _ _, hl0, rfl⟩ ?_
    rintro j e S'' ⟨i, l, rfl, hi, e0, ek, ei, hkp, hl, htk⟩
    refine W.env3 e0 ek ei ?_
    have hr2 := hkp.row hr (fun hm => hnb rb (by simpa using hm) rfl)
    have hx2 := h3.keep hkp (fun b e hm => hnw b (by simpa using hm) e)
    repeat (first | refine W.seq ?_ | refine W.block ?_ | refine W.reg ?_ | refine W.skip ?_ | refine W.exit ?_ | refine W.ret ?_ | refine L.nil ?_ | refine L.p rfl rfl ?_ | refine L.skip rfl ?_)
    refine L.ld (cell_of hr2 rfl) rfl rfl rfl ?_
    repeat (first | refine W.seq ?_ | refine W.block ?_ | refine W.reg ?_ | refine W.skip ?_ | refine W.exit ?_ | refine W.ret ?_ | refine L.nil ?_ | refine L.p rfl rfl ?_ | refine L.skip rfl ?_)
    refine L.el hx2.slv rfl hel rfl rfl rfl rfl (fun _ => rfl) rfl (fun p => ?_)
    repeat (first | refine W.seq ?_ | refine W.block ?_ | refine W.reg ?_ | refine W.skip ?_ | refine W.exit ?_ | refine W.ret ?_ | refine L.nil ?_ | refine L.p rfl rfl ?_ | refine L.skip rfl ?_)
    refine W.ite rfl (fun h => ?_) (fun h => ?_)
    · have hin : i < hh.n := by simp at h; omega
      obtain ⟨a, n, c⟩ := hh
      obtain ⟨b, rfl⟩ : ∃ b, a = some b := by
        obtain ⟨_, ⟨_, h0, _⟩ | ⟨b, _, h0, _⟩⟩ := hl
        · dsimp only at h0 hin; omega
        · exact ⟨b, h0⟩
      obtain ⟨r, hrr, hro, hrl, hrt⟩ := hl.row
      have hll := hl.len
      dsimp only at hin hll hi
      repeat (first | refine W.seq ?_ | refine W.block ?_ | refine W.reg ?_ | refine W.skip ?_ | refine W.exit ?_ | refine W.ret ?_ | refine L.nil ?_ | refine L.p rfl rfl ?_ | refine L.skip rfl ?_)
      refine L.ld (cell_of hr2 rfl) rfl rfl rfl ?_
      repeat (first | refine W.seq ?_ | refine W.block ?_ | refine W.reg ?_ | refine W.skip ?_ | refine W.exit ?_ | refine W.ret ?_ | refine L.nil ?_ | refine L.p rfl rfl ?_ | refine L.skip rfl ?_)
      refine L.el hx2.slv rfl hel rfl rfl rfl rfl (fun _ => rfl) rfl (fun p => ?_)
      repeat (first | refine W.seq ?_ | refine W.block ?_ | refine W.reg ?_ | refine W.skip ?_ | refine W.exit ?_ | refine W.ret ?_ | refine L.nil ?_ | refine L.p rfl rfl ?_ | refine L.skip rfl ?_)
      refine L.cl (mark_C _ _ _) rfl rfl ?_
      rintro _ _ ⟨rfl, rfl⟩
      refine ⟨fun _ => Cons.refl _, ?_⟩
      repeat (first | refine W.seq ?_ | refine W.block ?_ | refine W.reg ?_ | refine W.skip ?_ | refine W.exit ?_ | refine W.ret ?_ | refine L.nil ?_ | refine L.p rfl rfl ?_ | refine L.skip rfl ?_)
      refine L.elst hrr hro (by omega) rfl hin rfl rfl rfl rfl (fun _ => rfl) (fun _ => rfl) rfl rfl rfl (fun p => ?_)
      repeat (first | refine W.seq ?_ | refine W.block ?_ | refine W.reg ?_ | refine W.skip ?_ | refine W.exit ?_ | refine W.ret ?_ | refine L.nil ?_ | refine L.p rfl rfl ?_ | refine L.skip rfl ?_)
      rw [Nat.zero_add]
      refine ⟨n - (i + 1), by show n - (i + 1) < n - i; omega, i + 1, _, rfl, by show i + 1 ≤ n; omega, rfl, rfl, ?_, ?_, hl.set _ hrr, ?_⟩
      · refine (force_eq rfl).trans ?_
        rw [wrap64 (by omega) (by dsimp only at hsm; omega)]; rfl
      · exact hkp.trans ((Keep.set b _ _).keepL (by simp))
      · rw [mkB_succ, show v8 ((mk k i).setWidth 8) = .int .u8 (IntKind.u8.wrap ((mk k i).toNat : Int)) by rw [u8_of_v64]]; exact take_set_succ htk (by omega)
    · have hin : i = hh.n := by simp at h; omega
      subst hin
      repeat (first | refine W.seq ?_ | refine W.block ?_ | refine W.reg ?_ | refine W.skip ?_ | refine W.exit ?_ | refine W.ret ?_ | refine L.nil ?_ | refine L.p rfl rfl ?_ | refine L.skip rfl ?_)
      refine ⟨bs.length - (k + 1), by omega, k + 1, rfl, by omega, rfl, ?_, ?_, ?_⟩
      · refine (force_eq rfl).trans ?_
        rw [wrap64 (by omega) (by omega)]; rfl
      · exact hkeep.trans (hkp.mono fun b hm => blks_mem hkh (by simpa using hm))
      · intro i h hi'
        by_cases hik : i = k
        · subst hik
          rw [hkh] at hi'; cases hi'
          rw [if_pos (by omega)]
          rw [List.take_of_length_le (Nat.le_of_eq hl.len)] at htk
          rw [← htk]; exact hl
        · have hne : ∀ b, h.a = some b → b ∉ hh.a.toList := fun b e hm => hik (hObs i k h hh b hi' hkh e (by simpa using hm))
          have := hst i h hi'
          split at this
          · rw [if_pos (by omega)]; exact this.keep hkp hne
          · rw [if_neg (by omega)]
            obtain ⟨l', hl'⟩ := this
            exact ⟨l', hl'.keep hkp hne⟩
  have hkl : k = bs.length := by simp at h; omega
  subst hkl
  have hMbs : Marked S' 5 mkB 0 bs := fun i h hi => by
    have := hst i h hi
    have hlt := (List.getElem?_eq_some_iff.1 hi).1
    rw [if_pos hlt] at this
    exact this
  clear hst h hr h2 h3 h5 h6 hlen ek
  rename Mem => S2
  have hBws := hBbs.keep hkeep hdbs
  have hMbs2 : Marked S2 5 mkB 0 bs := hMbs
  have hMws : Marked S2 36 mkW 0 ws := fun i h hi => (hMws i h hi).keep hkeep (fun b e hm => hdd b (blks_mem hi e) hm)
  have hkeep2 : KeepL (blks ws ++ blks bs) S S2 := (hkeep1.mono (by simp +contextual)).trans (hkeep.mono (by simp +contextual))
  clear hBbs hkeep hkeep1 e0 hk
  repeat (first | refine W.seq ?_ | refine W.block ?_ | refine W.reg ?_ | refine W.skip ?_ | refine W.exit ?_ | refine W.ret ?_ | refine L.nil ?_ | refine L.p rfl rfl ?_ | refine L.skip rfl ?_)
  refine W.loop (fun j e S' => ∃ (k : Nat) (dw : List Hd) (hxw : Hd), j = ws.length - k ∧ k ≤ ws.length ∧ e 0 = .pointer (some ⟨rb, 0, none⟩) ∧ e 8 = vi k ∧ e 7 = hxw.v ∧ e 0 = .pointer (some ⟨rb, 0, none⟩) ∧ dw.length = k ∧ KeepL (blks ws) S2 S' ∧ HdOk S' 48 hxw (dw.map Hd.v) ∧
      (∀ b, hxw.a = some b → List.length S2 ≤ b) ∧ (∀ (i : Nat) (d : Hd), dw[i]? = some d → (∃ h, ws[i]? = some h ∧ HdOk S' 36 d (mkW i (h.n + 64)) ∧ d.n = h.n + 64) ∧ ∃ b, d.a = some b ∧ List.length S2 ≤ b ∧ hxw.a ≠ some b) ∧
      (∀ (i : Nat) (h : Hd), ws[i]? = some h → k ≤ i → HdOk S' 36 h (mkW i h.n))) ws.length
    ⟨0, [], ⟨none, 0, 0⟩, by omega, by omega, rfl, rfl, rfl, rfl, rfl, KeepL.refl _ _, HdOk.nil _ _, nofun, fun i d hi => by simp at hi, fun i h hi _ => hMws i h hi⟩ ?_
  rintro j e S' ⟨k, dw, hxw, rfl, hk, e0, ek, ex, eo, hdl, hkeep, hhx, hxb, hds, hst⟩
  refine W.env4 e0 ek ex eo ?_
  obtain ⟨hw, hb, hr, h2, h3, h4, h5, h6⟩ := hBws.keep hkeep hdws
  have hlen := h2.len
  rw [List.length_map] at hlen
  repeat (first | refine W.seq ?_ | refine W.block ?_ | refine W.reg ?_ | refine W.skip ?_ | refine W.exit ?_ | refine W.ret ?_ | refine L.nil ?_ | refine L.p rfl rfl ?_ | refine L.skip rfl ?_)
  refine L.ld (cell_of hr rfl) rfl rfl rfl ?_
  repeat (first | refine W.seq ?_ | refine W.block ?_ | refine W.reg ?_ | refine W.skip ?_ | refine W.exit ?_ | refine W.ret ?_ | refine L.nil ?_ | refine L.p rfl rfl ?_ | refine L.skip rfl ?_)
  refine W.ite rfl (fun h => ?_) (fun h => ?_)
  · have hkl : k < ws.length := by simp at h; omega
    obtain ⟨hh, hkh⟩ : ∃ hh, ws[k]? = some hh := ⟨_, List.getElem?_eq_getElem hkl⟩
    have hel : (ws.map Hd.v)[k]? = some hh.v := by rw [List.getElem?_map, hkh]; rfl
    have hl0 := hst k hh hkh (Nat.le_refl _)
    have hnb : ∀ b, hh.a = some b → b ≠ rb := fun b e hm => hdws b (blks_mem hkh e) (hm ▸ h4)
    have hnw : ∀ b, hh.a = some b → hw.a ≠ some b := fun b e hm => hdws b (blks_mem hkh e) (h5 b hm).1
    have hlt : ∀ b, hh.a = some b → b < List.length S2 := fun b e => by
      have := hMws k hh hkh
      exact this.lt e
    have hsm := (hAws k hh hkh).1
    have hSl := hkeep.1
    clear h
    repeat (first | refine W.seq ?_ | refine W.block ?_ | refine W.reg ?_ | refine W.skip ?_ | refine W.exit ?_ | refine W.ret ?_ | refine L.nil ?_ | refine L.p rfl rfl ?_ | refine L.skip rfl ?_)
    refine L.ld (cell_of hr rfl) rfl rfl rfl ?_
    repeat (first | refine W.seq ?_ | refine W.block ?_ | refine W.reg ?_ | refine W.skip ?_ | refine W.exit ?_ | refine W.ret ?_ | refine L.nil ?_ | refine L.p rfl rfl ?_ | refine L.skip rfl ?_)
    refine L.el h2.slv rfl hel rfl rfl rfl rfl (fun _ => rfl) rfl (fun p => ?_)
    repeat (first | refine W.seq ?_ | refine W.block ?_ | refine W.reg ?_ | refine W.skip ?_ | refine W.exit ?_ | refine W.ret ?_ | refine L.nil ?_ | refine L.p rfl rfl ?_ | refine L.skip rfl ?_)
    refine W.loop (fun j e S'' => ∃ (i : Nat) (hl : Hd), j = 64 - i ∧ i ≤ 64 ∧ e 0 = .pointer (some ⟨rb, 0, none⟩) ∧ e 8 = vi k ∧ e 7 = hxw.v ∧ e 0 = .pointer (some ⟨rb, 0, none⟩) ∧ e 9 = hl.v ∧ e 10 = vi i ∧ KeepL hh.a.toList S' S'' ∧ HdOk S'' 36 hl (mkW k (hh.n + i)) ∧ hl.n = hh.n + i ∧ ((i = 0 ∧ hl.a = hh.a) ∨ ∃ b, hl.a = some b ∧ List.length S' ≤ b)) 64
      ⟨0, hh, by omega, by omega, rfl, rfl, rfl, rfl, rfl, rfl, KeepL.refl _ _, hl0, rfl, .inl ⟨rfl, rfl⟩⟩ ?_
    rintro j e S'' ⟨i, hl, rfl, hi, e0, ek, ex, eo, el, ei, hkp, hhl, hln, hla⟩
    refine W.env6 e0 ek ex eo el ei ?_
    have hr2 := hkp.row hr (fun hm => hnb rb (by simpa using hm) rfl)
    have hx2 := h2.keep hkp (fun b e hm => hnw b (by simpa using hm) e)
    repeat (first | refine W.seq ?_ | refine W.block ?_ | refine W.reg ?_ | refine W.skip ?_ | refine W.exit ?_ | refine W.ret ?_ | refine L.nil ?_ | refine L.p rfl rfl ?_ | refine L.skip rfl ?_)
    refine W.ite rfl (fun h => ?_) (fun h => ?_)
    · have hin : i < 64 := by simp at h; omega
      repeat (first | refine W.seq ?_ | refine W.block ?_ | refine W.reg ?_ | refine W.skip ?_ | refine W.exit ?_ | refine W.ret ?_ | refine L.nil ?_ | refine L.p rfl rfl ?_ | refine L.skip rfl ?_)
      refine L.ld (cell_of hr2 rfl) rfl rfl rfl ?_
      repeat (first | refine W.seq ?_ | refine W.block ?_ | refine W.reg ?_ | refine W.skip ?_ | refine W.exit ?_ | refine W.ret ?_ | refine L.nil ?_ | refine L.p rfl rfl ?_ | refine L.skip rfl ?_)
      refine L.el hx2.slv rfl hel rfl rfl rfl rfl (fun _ => rfl) rfl (fun p => ?_)
      repeat (first | refine W.seq ?_ | refine W.block ?_ | refine W.reg ?_ | refine W.skip ?_ | refine W.exit ?_ | refine W.ret ?_ | refine L.nil ?_ | refine L.p rfl rfl ?_ | refine L.skip rfl ?_)
      refine L.cl (mark_C _ _ _) rfl rfl ?_
      rintro _ _ ⟨rfl, rfl⟩
      refine ⟨fun _ => Cons.refl _, ?_⟩
      repeat (first | refine W.seq ?_ | refine W.block ?_ | refine W.reg ?_ | refine W.skip ?_ | refine W.exit ?_ | refine W.ret ?_ | refine L.nil ?_ | refine L.p rfl rfl ?_ | refine L.skip rfl ?_)
      refine L.pushH (h := hl) rfl hhl rfl rfl rfl rfl rfl (by omega) rfl (fun _ => rfl) (fun p h' S9 k1 k2 k3 k4 => ?_)
      rw [wrap64 (by omega) (by omega)] at k1
      repeat (first | refine W.seq ?_ | refine W.block ?_ | refine W.reg ?_ | refine W.skip ?_ | refine W.exit ?_ | refine W.ret ?_ | refine L.nil ?_ | refine L.p rfl rfl ?_ | refine L.skip rfl ?_)
      obtain ⟨b', k5, k6⟩ := k3
      have hSl2 := hkp.1
      refine ⟨64 - (i + 1), by omega, i + 1, h', rfl, by omega, rfl, rfl, rfl, rfl, rfl, ?_, ?_, ?_, by omega, .inr ⟨b', k5, by omega⟩⟩
      · refine (force_eq rfl).trans ?_
        rw [wrap64 (by omega) (by omega)]; rfl
      · refine hkp.then k4 ?_
        intro r hm
        rcases hla with ⟨_, hla⟩ | ⟨b, hla, hlb⟩
        · rw [hla] at hm; exact .inl hm
        · rw [hla] at hm; simp at hm; exact .inr (by omega)
      · rw [show hh.n + (i + 1) = (hh.n + i) + 1 by omega, mkW_succ]
        exact k1
    · have hin : i = 64 := by simp at h; omega
      subst hin
      obtain ⟨bl, hla, hlb⟩ : ∃ b, hl.a = some b ∧ List.length S' ≤ b := by
        rcases hla with ⟨h0, _⟩ | h0
        · omega
        · exact h0
      have hbl := hhl.lt hla
      have hxk : HdOk S'' 48 hxw (dw.map Hd.v) := hhx.keep hkp (fun b e hm => by have := hxb b e; have := hlt b (by simpa using hm); omega)
      have hxn := hxk.len
      rw [List.length_map] at hxn
      repeat (first | refine W.seq ?_ | refine W.block ?_ | refine W.reg ?_ | refine W.skip ?_ | refine W.exit ?_ | refine W.ret ?_ | refine L.nil ?_ | refine L.p rfl rfl ?_ | refine L.skip rfl ?_)
      refine L.pushH (h := hxw) rfl hxk rfl rfl rfl rfl rfl (by omega) rfl (fun _ => rfl) (fun p h' S9 k1 k2 k3 k4 => ?_)
      obtain ⟨b', k5, k6⟩ := k3
      repeat (first | refine W.seq ?_ | refine W.block ?_ | refine W.reg ?_ | refine W.skip ?_ | refine W.exit ?_ | refine W.ret ?_ | refine L.nil ?_ | refine L.p rfl rfl ?_ | refine L.skip rfl ?_)
      have hSl2 := hkp.1
      have hkS : KeepL (blks ws) S' S'' := hkp.mono fun b hm => blks_mem hkh (by simpa using hm)
      have hk4 : ∀ r ∈ hxw.a.toList, r ∈ blks ws ∨ List.length S2 ≤ r := fun r hm => .inr (hxb r (by simpa using hm))
      refine ⟨ws.length - (k + 1), by omega, k + 1, dw ++ [hl], h', rfl, by omega, rfl, ?_, rfl, rfl, by simp [hdl], (hkeep.trans hkS).then k4 hk4, by rw [List.map_append]; exact k1, ?_, ?_, ?_⟩
      · refine (force_eq rfl).trans ?_
        rw [wrap64 (by omega) (by omega)]; rfl
      · intro b e; rw [k5] at e; cases e; omega
      · intro i d hi'
        rw [List.getElem?_append] at hi'
        split at hi'
        · obtain ⟨⟨h9, q1, q2, q3⟩, b9, q4, q5, q6⟩ := hds i d hi'
          have q7 := q2.lt q4
          refine ⟨⟨h9, q1, (q2.keep hkp (fun b e hm => ?_)).keep k4 (fun b e hm => ?_), q3⟩, b9, q4, q5, fun e => ?_⟩
          · rw [q4] at e; cases e
            have := hlt _ (by simpa using hm : hh.a = some b9); omega
          · rw [q4] at e; cases e
            exact q6 (by simpa using hm)
          · rw [k5] at e; cases e; omega
        · rename_i hge
          rw [List.getElem?_singleton] at hi'
          split at hi'
          · rename_i h0
            cases hi'
            have hik : i = k := by omega
            subst hik
            refine ⟨⟨hh, hkh, hhl.keep k4 (fun b e hm => ?_), hln⟩, bl, hla, by omega, fun e => ?_⟩
            · rw [hla] at e; cases e
              have := hhx.lt (by simpa using hm : hxw.a = some bl)
              omega
            · rw [k5] at e; cases e; omega
          · cases hi'
      · intro i h hi' hge
        have hq := hst i h hi' (by omega)
        refine (hq.keep hkp (fun b e hm => ?_)).keep k4 (fun b e hm => ?_)
        · have := hOws i k h hh b hi' hkh e (by simpa using hm); omega
        · have := hxb b (by simpa using hm)
          have := (hMws i h hi').lt e
          omega
  have hkl : k = ws.length := by simp at h; omega
  clear h hr h2 h3 h5 h6 hlen ek e0 hst
  subst hkl
  rename Mem => S3
  have hBbs := hBws.keep hkeep hdws
  have hMbs : Marked S3 5 mkB 0 bs := fun i h hi => (hMbs i h hi).keep hkeep (fun b e hm => hdd b hm (blks_mem hi e))
  have hhxdw := hhx
  have hdsdw := hds
  have hxbw := hxb
  have hkeep3 : KeepL (blks ws ++ blks bs) S S3 := hkeep2.trans (hkeep.mono (by simp +contextual))
  have hS23 := hkeep.1
  clear hkeep hkeep2 hhx hds hxb hBws hk
  repeat (first | refine W.seq ?_ | refine W.block ?_ | refine W.reg ?_ | refine W.skip ?_ | refine W.exit ?_ | refine W.ret ?_ | refine L.nil ?_ | refine L.p rfl rfl ?_ | refine L.skip rfl ?_)
  refine W.loop (fun j e S' => ∃ (k : Nat) (ds : List Hd) (hx : Hd), j = bs.length - k ∧ k ≤ bs.length ∧ e 0 = .pointer (some ⟨rb, 0, none⟩) ∧ e 12 = vi k ∧ e 11 = hx.v ∧ e 7 = hxw.v ∧ ds.length = k ∧ KeepL (blks bs) S3 S' ∧ HdOk S' 22 hx (ds.map Hd.v) ∧
      (∀ b, hx.a = some b → List.length S3 ≤ b) ∧ (∀ (i : Nat) (d : Hd), ds[i]? = some d → (∃ h, bs[i]? = some h ∧ HdOk S' 5 d (mkB i (h.n + 64)) ∧ d.n = h.n + 64) ∧ ∃ b, d.a = some b ∧ List.length S3 ≤ b ∧ hx.a ≠ some b) ∧
      (∀ (i : Nat) (h : Hd), bs[i]? = some h → k ≤ i → HdOk S' 5 h (mkB i h.n))) bs.length
    ⟨0, [], ⟨none, 0, 0⟩, by omega, by omega, rfl, rfl, rfl, rfl, rfl, KeepL.refl _ _, HdOk.nil _ _, nofun, fun i d hi => by simp at hi, fun i h hi _ => hMbs i h hi⟩ ?_
  rintro j e S' ⟨k, ds, hx, rfl, hk, e0, ek, ex, eo, hdl, hkeep, hhx, hxb, hds, hst⟩
  refine W.env4 e0 ek ex eo ?_
  obtain ⟨hw, hb, hr, h2, h3, h4, h5, h6⟩ := hBbs.keep hkeep hdbs
  have hlen := h3.len
  rw [List.length_map] at hlen
  repeat (first | refine W.seq ?_ | refine W.block ?_ | refine W.reg ?_ | refine W.skip ?_ | refine W.exit ?_ | refine W.ret ?_ | refine L.nil ?_ | refine L.p rfl rfl ?_ | refine L.skip rfl ?_)
  refine L.ld (cell_of hr rfl) rfl rfl rfl ?_
  repeat (first | refine W.seq ?_ | refine W.block ?_ | refine W.reg ?_ | refine W.skip ?_ | refine W.exit ?_ | refine W.ret ?_ | refine L.nil ?_ | refine L.p rfl rfl ?_ | refine L.skip rfl ?_)
  refine W.ite rfl (fun h => ?_) (fun h => ?_)
  · have hkl : k < bs.length := by simp at h; omega
    obtain ⟨hh, hkh⟩ : ∃ hh, bs[k]? = some hh := ⟨_, List.getElem?_eq_getElem hkl⟩
    have hel : (bs.map Hd.v)[k]? = some hh.v := by rw [List.getElem?_map, hkh]; rfl
    have hl0 := hst k hh hkh (Nat.le_refl _)
    have hnb : ∀ b, hh.a = some b → b ≠ rb := fun b e hm => hdbs b (blks_mem hkh e) (hm ▸ h4)
    have hnw : ∀ b, hh.a = some b → hb.a ≠ some b := fun b e hm => hdbs b (blks_mem hkh e) (h6 b hm).1
    have hlt : ∀ b, hh.a = some b → b < List.length S3 := fun b e => by
      have := hMbs k hh hkh
      exact this.lt e
    have hsm := (hAbs k hh hkh).1
    have hSl := hkeep.1
    clear h
    repeat (first | refine W.seq ?_ | refine W.block ?_ | refine W.reg ?_ | refine W.skip ?_ | refine W.exit ?_ | refine W.ret ?_ | refine L.nil ?_ | refine L.p rfl rfl ?_ | refine L.skip rfl ?_)
    refine L.ld (cell_of hr rfl) rfl rfl rfl ?_
    repeat (first | refine W.seq ?_ | refine W.block ?_ | refine W.reg ?_ | refine W.skip ?_ | refine W.exit ?_ | refine W.ret ?_ | refine L.nil ?_ | refine L.p rfl rfl ?_ | refine L.skip rfl ?_)
    refine L.el h3.slv rfl hel rfl rfl rfl rfl (fun _ => rfl) rfl (fun p => ?_)
    repeat (first | refine W.seq ?_ | refine W.block ?_ | refine W.reg ?_ | refine W.skip ?_ | refine W.exit ?_ | refine W.ret ?_ | refine L.nil ?_ | refine L.p rfl rfl ?_ | refine L.skip rfl ?_)
    refine W.loop (fun j e S'' => ∃ (i : Nat) (hl : Hd), j = 64 - i ∧ i ≤ 64 ∧ e 0 = .pointer (some ⟨rb, 0, none⟩) ∧ e 12 = vi k ∧ e 11 = hx.v ∧ e 7 = hxw.v ∧ e 13 = hl.v ∧ e 14 = vi i ∧ KeepL hh.a.toList S' S'' ∧ HdOk S'' 5 hl (mkB k (hh.n + i)) ∧ hl.n = hh.n + i ∧ ((i = 0 ∧ hl.a = hh.a) ∨ ∃ b, hl.a = some b ∧ List.length S' ≤ b)) 64
      ⟨0, hh, by omega, by omega, rfl, rfl, rfl, rfl, rfl, rfl, KeepL.refl _ _, hl0, rfl, .inl ⟨rfl, rfl⟩⟩ ?_
    rintro j e S'' ⟨i, hl, rfl, hi, e0, ek, ex, eo, el, ei, hkp, hhl, hln, hla⟩
    refine W.env6 e0 ek ex eo el ei ?_
    have hr2 := hkp.row hr (fun hm => hnb rb (by simpa using hm) rfl)
    have hx2 := h3.keep hkp (fun b e hm => hnw b (by simpa using hm) e)
    repeat (first | refine W.seq ?_ | refine W.block ?_ | refine W.reg ?_ | refine W.skip ?_ | refine W.exit ?_ | refine W.ret ?_ | refine L.nil ?_ | refine L.p rfl rfl ?_ | refine L.skip rfl ?_)
    refine W.ite rfl (fun h => ?_) (fun h => ?_)
    · have hin : i < 64 := by simp at h; omega
      repeat (first | refine W.seq ?_ | refine W.block ?_ | refine W.reg ?_ | refine W.skip ?_ | refine W.exit ?_ | refine W.ret ?_ | refine L.nil ?_ | refine L.p rfl rfl ?_ | refine L.skip rfl ?_)
      refine L.ld (cell_of hr2 rfl) rfl rfl rfl ?_
      repeat (first | refine W.seq ?_ | refine W.block ?_ | refine W.reg ?_ | refine W.skip ?_ | refine W.exit ?_ | refine W.ret ?_ | refine L.nil ?_ | refine L.p rfl rfl ?_ | refine L.skip rfl ?_)
      refine L.el hx2.slv rfl hel rfl rfl rfl rfl (fun _ => rfl) rfl (fun p => ?_)
      repeat (first | refine W.seq ?_ | refine W.block ?_ | refine W.reg ?_ | refine W.skip ?_ | refine W.exit ?_ | refine W.ret ?_ | refine L.nil ?_ | refine L.p rfl rfl ?_ | refine L.skip rfl ?_)
      refine L.cl (mark_C _ _ _) rfl rfl ?_
      rintro _ _ ⟨rfl, rfl⟩
      refine ⟨fun _ => Cons.refl _, ?_⟩
      repeat (first | refine W.seq ?_ | refine W.block ?_ | refine W.reg ?_ | refine W.skip ?_ | refine W.exit ?_ | refine W.ret ?_ | refine L.nil ?_ | refine L.p rfl rfl ?_ | refine L.skip rfl ?_)
      refine L.pushH (h := hl) rfl hhl rfl rfl rfl rfl rfl (by omega) rfl (fun _ => rfl) (fun p h' S9 k1 k2 k3 k4 => ?_)
      rw [wrap64 (by omega) (by omega)] at k1
      repeat (first | refine W.seq ?_ | refine W.block ?_ | refine W.reg ?_ | refine W.skip ?_ | refine W.exit ?_ | refine W.ret ?_ | refine L.nil ?_ | refine L.p rfl rfl ?_ | refine L.skip rfl ?_)
      obtain ⟨b', k5, k6⟩ := k3
      have hSl2 := hkp.1
      refine ⟨64 - (i + 1), by omega, i + 1, h', rfl, by omega, rfl, rfl, rfl, rfl, rfl, ?_, ?_, ?_, by omega, .inr ⟨b', k5, by omega⟩⟩
      · refine (force_eq rfl).trans ?_
        rw [wrap64 (by omega) (by omega)]; rfl
      · refine hkp.then k4 ?_
        intro r hm
        rcases hla with ⟨_, hla⟩ | ⟨b, hla, hlb⟩
        · rw [hla] at hm; exact .inl hm
        · rw [hla] at hm; simp at hm; exact .inr (by omega)
      · rw [show hh.n + (i + 1) = (hh.n + i) + 1 by omega, mkB_succ]
        (rw [u8_of_v64] at k1; exact k1)
    · have hin : i = 64 := by simp at h; omega
      subst hin
      obtain ⟨bl, hla, hlb⟩ : ∃ b, hl.a = some b ∧ List.length S' ≤ b := by
        rcases hla with ⟨h0, _⟩ | h0
        · omega
        · exact h0
      have hbl := hhl.lt hla
      have hxk : HdOk S'' 22 hx (ds.map Hd.v) := hhx.keep hkp (fun b e hm => by have := hxb b e; have := hlt b (by simpa using hm); omega)
      have hxn := hxk.len
      rw [List.length_map] at hxn
      repeat (first | refine W.seq ?_ | refine W.block ?_ | refine W.reg ?_ | refine W.skip ?_ | refine W.exit ?_ | refine W.ret ?_ | refine L.nil ?_ | refine L.p rfl rfl ?_ | refine L.skip rfl ?_)
      refine L.pushH (h := hx) rfl hxk rfl rfl rfl rfl rfl (by omega) rfl (fun _ => rfl) (fun p h' S9 k1 k2 k3 k4 => ?_)
      obtain ⟨b', k5, k6⟩ := k3
      repeat (first | refine W.seq ?_ | refine W.block ?_ | refine W.reg ?_ | refine W.skip ?_ | refine W.exit ?_ | refine W.ret ?_ | refine L.nil ?_ | refine L.p rfl rfl ?_ | refine L.skip rfl ?_)
      have hSl2 := hkp.1
      have hkS : KeepL (blks bs) S' S'' := hkp.mono fun b hm => blks_mem hkh (by simpa using hm)
      have hk4 : ∀ r ∈ hx.a.toList, r ∈ blks bs ∨ List.length S3 ≤ r := fun r hm => .inr (hxb r (by simpa using hm))
      refine ⟨bs.length - (k + 1), by omega, k + 1, ds ++ [hl], h', rfl, by omega, rfl, ?_, rfl, rfl, by simp [hdl], (hkeep.trans hkS).then k4 hk4, by rw [List.map_append]; exact k1, ?_, ?_, ?_⟩
      · refine (force_eq rfl).trans ?_
        rw [wrap64 (by omega) (by omega)]; rfl
      · intro b e; rw [k5] at e; cases e; omega
      · intro i d hi'
        rw [List.getElem?_append] at hi'
        split at hi'
        · obtain ⟨⟨h9, q1, q2, q3⟩, b9, q4, q5, q6⟩ := hds i d hi'
          have q7 := q2.lt q4
          refine ⟨⟨h9, q1, (q2.keep hkp (fun b e hm => ?_)).keep k4 (fun b e hm => ?_), q3⟩, b9, q4, q5, fun e => ?_⟩
          · rw [q4] at e; cases e
            have := hlt _ (by simpa using hm : hh.a = some b9); omega
          · rw [q4] at e; cases e
            exact q6 (by simpa using hm)
          · rw [k5] at e; cases e; omega
        · rename_i hge
          rw [List.getElem?_singleton] at hi'
          split at hi'
          · rename_i h0
            cases hi'
            have hik : i = k := by omega
            subst hik
            refine ⟨⟨hh, hkh, hhl.keep k4 (fun b e hm => ?_), hln⟩, bl, hla, by omega, fun e => ?_⟩
            · rw [hla] at e; cases e
              have := hhx.lt (by simpa using hm : hx.a = some bl)
              omega
            · rw [k5] at e; cases e; omega
          · cases hi'
      · intro i h hi' hge
        have hq := hst i h hi' (by omega)
        refine (hq.keep hkp (fun b e hm => ?_)).keep k4 (fun b e hm => ?_)
        · have := hObs i k h hh b hi' hkh e (by simpa using hm); omega
        · have := hxb b (by simpa using hm)
          have := (hMbs i h hi').lt e
          omega
  have hkl : k = bs.length := by simp at h; omega
  clear h hr h2 h3 h5 h6 hlen ek e0 hst
  subst hkl
  rename Mem => S4
  have hkeep4 : KeepL (blks ws ++ blks bs) S S4 := hkeep3.trans (hkeep.mono (by simp +contextual))
  have hblt : ∀ b ∈ blks bs, b < List.length S2 := fun b hm => by
    obtain ⟨k, d, h1, h2⟩ := blks_at hm
    exact (hMbs2 k d h1).lt h2
  have hhxdw := hhxdw.keep hkeep (fun b e hm => by have := hxbw b e; have := hblt b hm; omega)
  have hdsdw : ∀ (i : Nat) (d : Hd), dw[i]? = some d → (∃ h, ws[i]? = some h ∧ HdOk S4 36 d (mkW i (h.n + 64)) ∧ d.n = h.n + 64) ∧ True := fun i d hi => by
    obtain ⟨⟨h9, q1, q2, q3⟩, b9, q4, q5, q6⟩ := hdsdw i d hi
    exact ⟨⟨h9, q1, q2.keep hkeep (fun b e hm => by rw [q4] at e; cases e; have := hblt _ hm; omega), q3⟩, trivial⟩
  have hhxds := hhx
  have hdsds := hds
  clear hkeep hkeep3 hhx hds hxb hBbs hk hxbw
  repeat (first | refine W.seq ?_ | refine W.block ?_ | refine W.reg ?_ | refine W.skip ?_ | refine W.exit ?_ | refine W.ret ?_ | refine L.nil ?_ | refine L.p rfl rfl ?_ | refine L.skip rfl ?_)
  refine W.loop (fun j e S' => ∃ k : Nat, j = dw.length - k ∧ k ≤ dw.length ∧ S4 = S' ∧ e 7 = hxw.v ∧ e 15 = vi k ∧ e 11 = hx.v) dw.length ⟨0, by omega, by omega, rfl, rfl, rfl, rfl⟩ ?_
  rintro j e S' ⟨k, rfl, hk, rfl, ex, ek, eo⟩
  refine W.env3 ex ek eo ?_
  have hlen := hhxdw.len
  rw [List.length_map] at hlen
  repeat (first | refine W.seq ?_ | refine W.block ?_ | refine W.reg ?_ | refine W.skip ?_ | refine W.exit ?_ | refine W.ret ?_ | refine L.nil ?_ | refine L.p rfl rfl ?_ | refine L.skip rfl ?_)
  refine W.ite rfl (fun h => ?_) (fun h => ?_)
  · have hkl : k < dw.length := by simp at h; omega
    obtain ⟨dd, hkd⟩ : ∃ dd, dw[k]? = some dd := ⟨_, List.getElem?_eq_getElem hkl⟩
    have hel : (dw.map Hd.v)[k]? = some dd.v := by rw [List.getElem?_map, hkd]; rfl
    obtain ⟨⟨hh, hkh, hdok, hdn⟩, _⟩ := hdsdw k dd hkd
    rw [← hdn] at hdok
    have hsm := (hAws k hh hkh).1
    clear h
    repeat (first | refine W.seq ?_ | refine W.block ?_ | refine W.reg ?_ | refine W.skip ?_ | refine W.exit ?_ | refine W.ret ?_ | refine L.nil ?_ | refine L.p rfl rfl ?_ | refine L.skip rfl ?_)
    refine W.loop (fun j e S'' => ∃ i : Nat, j = dd.n - i ∧ i ≤ dd.n ∧ S4 = S'' ∧ e 7 = hxw.v ∧ e 15 = vi k ∧ e 11 = hx.v ∧ e 16 = vi i) dd.n ⟨0, by omega, by omega, rfl, rfl, rfl, rfl, rfl⟩ ?_
    rintro j e S'' ⟨i, rfl, hi, rfl, ex, ek, eo, ei⟩
    refine W.env4 ex ek eo ei ?_
    repeat (first | refine W.seq ?_ | refine W.block ?_ | refine W.reg ?_ | refine W.skip ?_ | refine W.exit ?_ | refine W.ret ?_ | refine L.nil ?_ | refine L.p rfl rfl ?_ | refine L.skip rfl ?_)
    refine L.el hhxdw.slv rfl hel rfl rfl rfl rfl (fun _ => rfl) rfl (fun p => ?_)
    repeat (first | refine W.seq ?_ | refine W.block ?_ | refine W.reg ?_ | refine W.skip ?_ | refine W.exit ?_ | refine W.ret ?_ | refine L.nil ?_ | refine L.p rfl rfl ?_ | refine L.skip rfl ?_)
    refine W.ite rfl (fun h => ?_) (fun h => ?_)
    · have hin : i < dd.n := by simp at h; omega
      repeat (first | refine W.seq ?_ | refine W.block ?_ | refine W.reg ?_ | refine W.skip ?_ | refine W.exit ?_ | refine W.ret ?_ | refine L.nil ?_ | refine L.p rfl rfl ?_ | refine L.skip rfl ?_)
      refine L.el hhxdw.slv rfl hel rfl rfl rfl rfl (fun _ => rfl) rfl (fun p => ?_)
      repeat (first | refine W.seq ?_ | refine W.block ?_ | refine W.reg ?_ | refine W.skip ?_ | refine W.exit ?_ | refine W.ret ?_ | refine L.nil ?_ | refine L.p rfl rfl ?_ | refine L.skip rfl ?_)
      refine L.el hdok.slv rfl (mkW_get hin) rfl rfl rfl rfl (fun _ => rfl) rfl (fun p => ?_)
      repeat (first | refine W.seq ?_ | refine W.block ?_ | refine W.reg ?_ | refine W.skip ?_ | refine W.exit ?_ | refine W.ret ?_ | refine L.nil ?_ | refine L.p rfl rfl ?_ | refine L.skip rfl ?_)
      refine L.cl (mark_C _ _ _) rfl rfl ?_
      rintro _ _ ⟨rfl, rfl⟩
      refine ⟨fun _ => Cons.refl _, ?_⟩
      repeat (first | refine W.seq ?_ | refine W.block ?_ | refine W.reg ?_ | refine W.skip ?_ | refine W.exit ?_ | refine W.ret ?_ | refine L.nil ?_ | refine L.p rfl rfl ?_ | refine L.skip rfl ?_)
      refine W.ite rfl (fun h => ?_) (fun h => ?_)
      · exfalso; (simp at h)
      · repeat (first | refine W.seq ?_ | refine W.block ?_ | refine W.reg ?_ | refine W.skip ?_ | refine W.exit ?_ | refine W.ret ?_ | refine L.nil ?_ | refine L.p rfl rfl ?_ | refine L.skip rfl ?_)
        refine ⟨dd.n - (i + 1), by omega, i + 1, rfl, by omega, rfl, rfl, rfl, rfl, ?_⟩
        refine (force_eq rfl).trans ?_
        rw [wrap64 (by omega) (by omega)]; rfl
    · repeat (first | refine W.seq ?_ | refine W.block ?_ | refine W.reg ?_ | refine W.skip ?_ | refine W.exit ?_ | refine W.ret ?_ | refine L.nil ?_ | refine L.p rfl rfl ?_ | refine L.skip rfl ?_)
      refine ⟨dw.length - (k + 1), by omega, k + 1, rfl, by omega, rfl, rfl, ?_, rfl⟩
      refine (force_eq rfl).trans ?_
      rw [wrap64 (by omega) (by omega)]; rfl
  clear h ek hlen
  repeat (first | refine W.seq ?_ | refine W.block ?_ | refine W.reg ?_ | refine W.skip ?_ | refine W.exit ?_ | refine W.ret ?_ | refine L.nil ?_ | refine L.p rfl rfl ?_ | refine L.skip rfl ?_)
  refine W.loop (fun j e S' => ∃ k : Nat, j = ds.length - k ∧ k ≤ ds.length ∧ S4 = S' ∧ e 11 = hx.v ∧ e 17 = vi k ∧ e 11 = hx.v) ds.length ⟨0, by omega, by omega, rfl, rfl, rfl, rfl⟩ ?_
  rintro j e S' ⟨k, rfl, hk, rfl, ex, ek, eo⟩
  refine W.env3 ex ek eo ?_
  have hlen := hhxds.len
  rw [List.length_map] at hlen
  repeat (first | refine W.seq ?_ | refine W.block ?_ | refine W.reg ?_ | refine W.skip ?_ | refine W.exit ?_ | refine W.ret ?_ | refine L.nil ?_ | refine L.p rfl rfl ?_ | refine L.skip rfl ?_)
  refine W.ite rfl (fun h => ?_) (fun h => ?_)
  · have hkl : k < ds.length := by simp at h; omega
    obtain ⟨dd, hkd⟩ : ∃ dd, ds[k]? = some dd := ⟨_, List.getElem?_eq_getElem hkl⟩
    have hel : (ds.map Hd.v)[k]? = some dd.v := by rw [List.getElem?_map, hkd]; rfl
    obtain ⟨⟨hh, hkh, hdok, hdn⟩, _⟩ := hdsds k dd hkd
    rw [← hdn] at hdok
    have hsm := (hAbs k hh hkh).1
    clear h
    repeat (first | refine W.seq ?_ | refine W.block ?_ | refine W.reg ?_ | refine W.skip ?_ | refine W.exit ?_ | refine W.ret ?_ | refine L.nil ?_ | refine L.p rfl rfl ?_ | refine L.skip rfl ?_)
    refine W.loop (fun j e S'' => ∃ i : Nat, j = dd.n - i ∧ i ≤ dd.n ∧ S4 = S'' ∧ e 11 = hx.v ∧ e 17 = vi k ∧ e 11 = hx.v ∧ e 18 = vi i) dd.n ⟨0, by omega, by omega, rfl, rfl, rfl, rfl, rfl⟩ ?_
    rintro j e S'' ⟨i, rfl, hi, rfl, ex, ek, eo, ei⟩
    refine W.env4 ex ek eo ei ?_
    repeat (first | refine W.seq ?_ | refine W.block ?_ | refine W.reg ?_ | refine W.skip ?_ | refine W.exit ?_ | refine W.ret ?_ | refine L.nil ?_ | refine L.p rfl rfl ?_ | refine L.skip rfl ?_)
    refine L.el hhxds.slv rfl hel rfl rfl rfl rfl (fun _ => rfl) rfl (fun p => ?_)
    repeat (first | refine W.seq ?_ | refine W.block ?_ | refine W.reg ?_ | refine W.skip ?_ | refine W.exit ?_ | refine W.ret ?_ | refine L.nil ?_ | refine L.p rfl rfl ?_ | refine L.skip rfl ?_)
    refine W.ite rfl (fun h => ?_) (fun h => ?_)
    · have hin : i < dd.n := by simp at h; omega
      repeat (first | refine W.seq ?_ | refine W.block ?_ | refine W.reg ?_ | refine W.skip ?_ | refine W.exit ?_ | refine W.ret ?_ | refine L.nil ?_ | refine L.p rfl rfl ?_ | refine L.skip rfl ?_)
      refine L.el hhxds.slv rfl hel rfl rfl rfl rfl (fun _ => rfl) rfl (fun p => ?_)
      repeat (first | refine W.seq ?_ | refine W.block ?_ | refine W.reg ?_ | refine W.skip ?_ | refine W.exit ?_ | refine W.ret ?_ | refine L.nil ?_ | refine L.p rfl rfl ?_ | refine L.skip rfl ?_)
      refine L.el hdok.slv rfl (mkB_get hin) rfl rfl rfl rfl (fun _ => rfl) rfl (fun p => ?_)
      repeat (first | refine W.seq ?_ | refine W.block ?_ | refine W.reg ?_ | refine W.skip ?_ | refine W.exit ?_ | refine W.ret ?_ | refine L.nil ?_ | refine L.p rfl rfl ?_ | refine L.skip rfl ?_)
      refine L.cl (mark_C _ _ _) rfl rfl ?_
      rintro _ _ ⟨rfl, rfl⟩
      refine ⟨fun _ => Cons.refl _, ?_⟩
      repeat (first | refine W.seq ?_ | refine W.block ?_ | refine W.reg ?_ | refine W.skip ?_ | refine W.exit ?_ | refine W.ret ?_ | refine L.nil ?_ | refine L.p rfl rfl ?_ | refine L.skip rfl ?_)
      refine W.ite rfl (fun h => ?_) (fun h => ?_)
      · exfalso; (rw [u8_of_v64] at h; simp at h)
      · repeat (first | refine W.seq ?_ | refine W.block ?_ | refine W.reg ?_ | refine W.skip ?_ | refine W.exit ?_ | refine W.ret ?_ | refine L.nil ?_ | refine L.p rfl rfl ?_ | refine L.skip rfl ?_)
        refine ⟨dd.n - (i + 1), by omega, i + 1, rfl, by omega, rfl, rfl, rfl, rfl, ?_⟩
        refine (force_eq rfl).trans ?_
        rw [wrap64 (by omega) (by omega)]; rfl
    · repeat (first | refine W.seq ?_ | refine W.block ?_ | refine W.reg ?_ | refine W.skip ?_ | refine W.exit ?_ | refine W.ret ?_ | refine L.nil ?_ | refine L.p rfl rfl ?_ | refine L.skip rfl ?_)
      refine ⟨ds.length - (k + 1), by omega, k + 1, rfl, by omega, rfl, rfl, ?_, rfl⟩
      refine (force_eq rfl).trans ?_
      rw [wrap64 (by omega) (by omega)]; rfl
  clear h ek hlen
  repeat (first | refine W.seq ?_ | refine W.block ?_ | refine W.reg ?_ | refine W.skip ?_ | refine W.exit ?_ | refine W.ret ?_ | refine L.nil ?_ | refine L.p rfl rfl ?_ | refine L.skip rfl ?_)
  exact ⟨.inr rfl, _, rfl, rfl, hkeep4⟩
end Go.Proofs.Yteadbbimikcmgaa
