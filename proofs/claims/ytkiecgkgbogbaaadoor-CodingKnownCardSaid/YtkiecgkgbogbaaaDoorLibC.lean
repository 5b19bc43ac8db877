/- What several proofs share, part 3: a model of memory, contracts of functions. Conditions: none. -/
import Derived.Test.YtkiecgkgbogbaaaDoorLibB
import Derived.Laws.Strings
import Derived.Recover

/- The book of lists that were handed out: a list more. Conditions: none. -/
set_option linter.unusedSimpArgs false
set_option linter.unusedVariables false
set_option maxRecDepth 100000
namespace Go.Proofs.YtkiecgkgbogbaaaDoor
open Go
variable {G : Nat} {Ext : FuncId → List Value → Mem → Outc → Mem → Prop}

/-- the book at row rb holds the lists ws and bs; the rows ps are its own -/
def Book (S : Mem) (rb : Nat) (ws bs : List Hd) (ps : List Nat) : Prop :=
  ∃ hw hb : Hd, S.row? rb = some (newR [hw.v, hb.v] 34) ∧ HdOk S 55 hw (ws.map Hd.v) ∧ HdOk S 22 hb (bs.map Hd.v) ∧ rb ∈ ps ∧
    (∀ b, hw.a = some b → b ∈ ps ∧ b ≠ rb) ∧ (∀ b, hb.a = some b → b ∈ ps ∧ b ≠ rb ∧ hw.a ≠ some b)
theorem Book.keep {S S1 : Mem} {rb : Nat} {ws bs : List Hd} {ps cs : List Nat} (h : Book S rb ws bs ps) (k : KeepL cs S S1) (hd : ∀ b ∈ cs, b ∉ ps) : Book S1 rb ws bs ps := by
  obtain ⟨hw, hb, h1, h2, h3, h4, h5, h6⟩ := h
  exact ⟨hw, hb, k.row h1 (fun hm => hd _ hm h4), h2.keep k (fun b e hm => hd _ hm (h5 b e).1), h3.keep k (fun b e hm => hd _ hm (h6 b e).1), h4, h5, h6⟩
theorem Book.cons {S S1 : Mem} {rb : Nat} {ws bs : List Hd} {ps : List Nat} (h : Book S rb ws bs ps) (k : Cons S S1) : Book S1 rb ws bs ps := h.keep (k.keepL []) (by simp)
/-- an empty book -/
theorem Book.new (S : Mem) : Book (S ++ [newR [.slice none 0 0, .slice none 0 0] 34]) S.length [] [] [S.length] :=
  ⟨⟨none, 0, 0⟩, ⟨none, 0, 0⟩, row_push_new rfl, HdOk.nil _ _, HdOk.nil _ _, by simp, nofun, nofun⟩
/-- from one book to the next: its own rows are old ones of its own, or new -/
def Sub2 (S : Mem) (ps ps' : List Nat) : Prop := ∀ r ∈ ps', r ∈ ps ∨ S.length ≤ r
theorem bytes_C (S : Mem) (h : Hd) (rb : Nat) (ws bs : List Hd) (ps : List Nat) (hB : Book S rb ws bs ps) (hn : bs.length < 1000000) :
    C Tryd.prog G Ext 20 [.pointer (some ⟨rb, 0, none⟩), h.v] S fun v S' => ∃ ps', Book S' rb ws (bs ++ [h]) ps' ∧ Sub2 S ps ps' ∧ KeepL ps S S' := by
  obtain ⟨hw, hb, hr, h2, h3, h4, h5, h6⟩ := hB
  refine C.fn Tryd.func20 rfl (by kernel_rfl) rfl ?_
  repeat (first | refine W.seq ?_ | refine W.block ?_ | refine W.reg ?_ | refine W.skip ?_ | refine W.exit ?_ | refine W.ret ?_ | refine L.nil ?_ | refine L.p rfl rfl ?_ | refine L.skip rfl ?_)
  refine L.ld (cell_of hr rfl) rfl rfl rfl ?_
  repeat (first | refine W.seq ?_ | refine W.block ?_ | refine W.reg ?_ | refine W.skip ?_ | refine W.exit ?_ | refine W.ret ?_ | refine L.nil ?_ | refine L.p rfl rfl ?_ | refine L.skip rfl ?_)
  refine L.pushH (h := hb) rfl h3 rfl rfl rfl rfl rfl (by have := h3.len; rw [List.length_map] at this; omega) rfl (fun _ => rfl) (fun p h' S1 k1 k2 k3 k4 => ?_)
  obtain ⟨b', k5, k6⟩ := k3
  have hne : rb ∉ hb.a.toList := fun hm => by
    have := (h6 rb (by simpa using hm)).2.1
    exact this rfl
  have hr1 := k4.row hr hne
  repeat (first | refine W.seq ?_ | refine W.block ?_ | refine W.reg ?_ | refine W.skip ?_ | refine W.exit ?_ | refine W.ret ?_ | refine L.nil ?_ | refine L.p rfl rfl ?_ | refine L.skip rfl ?_)
  refine L.st (ad := ⟨rb, 1, none⟩) (vs := [h'.v]) (write_of hr1 rfl (by simp [newR]) rfl) rfl rfl rfl rfl ?_
  rw [putFrom_one _ _ _ (by simp [newR])]
  repeat (first | refine W.seq ?_ | refine W.block ?_ | refine W.reg ?_ | refine W.skip ?_ | refine W.exit ?_ | refine W.ret ?_ | refine L.nil ?_ | refine L.p rfl rfl ?_ | refine L.skip rfl ?_)
  have hlt := row_lt hr
  have hk := Keep.set rb S1 { newR [hw.v, hb.v] 34 with cells := List.set (newR [hw.v, hb.v] 34).cells 1 h'.v }
  have hkl := Keep.keepL (bs := [rb]) hk (by simp)
  refine ⟨.inl rfl, _, rfl, b' :: ps, ⟨hw, h', row_set_same hr1 rfl, ?_, ?_, by simp [h4], ?_, ?_⟩, ?_, ?_⟩
  · exact (h2.keep k4 (fun b e hm => (h6 b (by simpa using hm)).2.2 e)).keep hkl (fun b e hm => (h5 b e).2 (by simpa using hm))
  · rw [List.map_append]; exact k1.keep hkl (fun b e hm => by rw [k5] at e; cases e; simp at hm; omega)
  · intro b e
    exact ⟨by simp [(h5 b e).1], (h5 b e).2⟩
  · intro b e; rw [k5] at e; cases e
    refine ⟨by simp, by omega, fun e2 => ?_⟩
    have := h2.lt e2
    omega
  · intro r hm
    rcases List.mem_cons.1 hm with rfl | hm
    · exact .inr k6
    · exact .inl hm
  · refine (k4.mono ?_).then hkl (by simp [h4])
    intro r hm
    exact (h6 r (by simpa using hm)).1
end Go.Proofs.YtkiecgkgbogbaaaDoor

/- The book: each list has memory of its own. Conditions: none. -/
set_option linter.unusedSimpArgs false
set_option linter.unusedVariables false
set_option maxRecDepth 100000
namespace Go.Proofs.YtkiecgkgbogbaaaDoor
open Go
variable {G : Nat} {Ext : FuncId → List Value → Mem → Outc → Mem → Prop}

def mkW (k n : Nat) : List Value := (List.range n).map fun (i : Nat) => v64 (mk k i)
def mkB (k n : Nat) : List Value := (List.range n).map fun (i : Nat) => v8 ((mk k i).setWidth 8)
theorem mkW_len (k n : Nat) : (mkW k n).length = n := by simp [mkW]
theorem mkB_len (k n : Nat) : (mkB k n).length = n := by simp [mkB]
theorem mkW_succ (k n : Nat) : mkW k (n + 1) = mkW k n ++ [v64 (mk k n)] := by simp [mkW, List.range_succ]
theorem mkB_succ (k n : Nat) : mkB k (n + 1) = mkB k n ++ [v8 ((mk k n).setWidth 8)] := by simp [mkB, List.range_succ]
theorem mkW_get {k n i : Nat} (h : i < n) : (mkW k n)[i]? = some (v64 (mk k i)) := by simp [mkW, h]
theorem mkB_get {k n i : Nat} (h : i < n) : (mkB k n)[i]? = some (v8 ((mk k i).setWidth 8)) := by simp [mkB, h]
theorem take_set_succ {l m : List Value} {w : Value} {i : Nat} (h : l.take i = m) (hi : i < l.length) : (l.set i w).take (i + 1) = m ++ [w] := by
  rw [List.take_add_one, List.getElem?_set_self hi, List.take_set_of_le (Nat.le_refl i), h]; rfl
def blks (hs : List Hd) : List Nat := hs.filterMap Hd.a
theorem blks_mem {hs : List Hd} {h : Hd} {b : Nat} {k : Nat} (hk : hs[k]? = some h) (hb : h.a = some b) : b ∈ blks hs := List.mem_filterMap.2 ⟨h, List.mem_of_getElem? hk, hb⟩
theorem blks_at {hs : List Hd} {b : Nat} (h : b ∈ blks hs) : ∃ (k : Nat) (d : Hd), hs[k]? = some d ∧ d.a = some b := by
  obtain ⟨d, h1, h2⟩ := List.mem_filterMap.1 h
  obtain ⟨k, h3⟩ := List.getElem?_of_mem h1
  exact ⟨k, d, h3, h2⟩
/-- each list's block is its own -/
def Own (hs : List Hd) : Prop := ∀ (i j : Nat) (h d : Hd) (b : Nat), hs[i]? = some h → hs[j]? = some d → h.a = some b → d.a = some b → i = j
def Alive (S : Mem) (el : TypeId) (hs : List Hd) : Prop := ∀ (i : Nat) (h : Hd), hs[i]? = some h → h.n ≤ 1000000000000 ∧ ∃ l, HdOk S el h l
def Marked (S : Mem) (el : TypeId) (f : Nat → Nat → List Value) (x : Nat) (hs : List Hd) : Prop := ∀ (i : Nat) (h : Hd), hs[i]? = some h → HdOk S el h (f i (h.n + x))
theorem Alive.keep {S S1 : Mem} {el : TypeId} {hs : List Hd} {bs : List Nat} (h : Alive S el hs) (k : KeepL bs S S1) (hd : ∀ b ∈ bs, b ∉ blks hs) : Alive S1 el hs := fun i d hi =>
  ⟨(h i d hi).1, (h i d hi).2.imp fun l h2 => h2.keep k fun b e hm => hd b hm (blks_mem hi e)⟩

set_option maxHeartbeats 1000000 in
theorem apart_C (S : Mem) (rb : Nat) (ws bs : List Hd) (ps : List Nat) (hB : Book S rb ws bs ps) (hn : ws.length < 1000000 ∧ bs.length < 1000000) (hAws : Alive S 40 ws) (hAbs : Alive S 5 bs)
    (hOws : Own ws) (hObs : Own bs) (hdws : ∀ b ∈ blks ws, b ∉ ps) (hdbs : ∀ b ∈ blks bs, b ∉ ps) (hdd : ∀ b ∈ blks ws, b ∉ blks bs) :
    C Tryd.prog G Ext 21 [.pointer (some ⟨rb, 0, none⟩)] S fun v S' => v = .bool true ∧ KeepL (blks ws ++ blks bs) S S' := by
  refine C.fn Tryd.func21 rfl (by kernel_rfl) rfl ?_
  have hBws := hB
  repeat (first | refine W.seq ?_ | refine W.block ?_ | refine W.reg ?_ | refine W.skip ?_ | refine W.exit ?_ | refine W.ret ?_ | refine L.nil ?_ | refine L.p rfl rfl ?_ | refine L.skip rfl ?_)
  refine W.loop (fun j e S' => ∃ k : Nat, j = ws.length - k ∧ k ≤ ws.length ∧ e 0 = .pointer (some ⟨rb, 0, none⟩) ∧ e 3 = vi k ∧ KeepL (blks ws) S S' ∧ (∀ (i : Nat) (h : Hd), ws[i]? = some h → if i < k then HdOk S' 40 h (mkW i h.n) else ∃ l, HdOk S' 40 h l)) ws.length
    ⟨0, by omega, by omega, rfl, rfl, KeepL.refl _ _, fun i h hi => by rw [if_neg (by omega)]; exact (hAws i h hi).2⟩ ?_
  rintro j e S' ⟨k, rfl, hk, e0, ek, hkeep, hst⟩
  refine W.env2 e0 ek ?_
  obtain ⟨hw, hb, hr, h2, h3, h4, h5, h6⟩ := hBws.keep hkeep hdws
  have hlen := h2.len
  rw [List.length_map] at hlen
  repeat (first | refine W.seq ?_ | refine W.block ?_ | refine W.reg ?_ | refine W.skip ?_ | refine W.exit ?_ | refine W.ret ?_ | refine L.nil ?_ | refine L.p rfl rfl ?_ | refine L.skip rfl ?_)
  refine L.ld (cell_of hr rfl) rfl rfl rfl ?_
  repeat (first | refine W.seq ?_ | refine W.block ?_ | refine W.reg ?_ | refine W.skip ?_ | refine W.exit ?_ | refine W.ret ?_ | refine L.nil ?_ | refine L.p rfl rfl ?_ | refine L.skip rfl ?_)
  refine W.ite rfl (fun h => ?_) (fun h => ?_)
  · have hkl : k < ws.length := by simp at h; omega
    obtain ⟨hh, hkh⟩ : ∃ hh, ws[k]? = some hh := ⟨_, List.getElem?_eq_getElem hkl⟩
    have hel : (ws.map Hd.v)[k]? = some hh.v := by rw [List.getElem?_map, hkh]; rfl
    obtain ⟨l0, hl0⟩ : ∃ l, HdOk S' 40 hh l := by have := hst k hh hkh; rwa [if_neg (by omega)] at this
    have hnb : ∀ b, hh.a = some b → b ≠ rb := fun b e hm => hdws b (blks_mem hkh e) (hm ▸ h4)
    have hnw : ∀ b, hh.a = some b → hw.a ≠ some b := fun b e hm => hdws b (blks_mem hkh e) (h5 b hm).1
    have hsm := (hAws k hh hkh).1
    clear h
    repeat (first | refine W.seq ?_ | refine W.block ?_ | refine W.reg ?_ | refine W.skip ?_ | refine W.exit ?_ | refine W.ret ?_ | refine L.nil ?_ | refine L.p rfl rfl ?_ | refine L.skip rfl ?_)
    refine W.loop (fun j e S'' => ∃ (i : Nat) (l : List Value), j = hh.n - i ∧ i ≤ hh.n ∧ e 0 = .pointer (some ⟨rb, 0, none⟩) ∧ e 3 = vi k ∧ e 4 = vi i ∧ KeepL hh.a.toList S' S'' ∧ HdOk S'' 40 hh l ∧ l.take i = mkW k i) hh.n
      ⟨0, l0, by omega, by omega, rfl, rfl, rfl, KeepL.refl _ _, hl0, rfl⟩ ?_
    rintro j e S'' ⟨i, l, rfl, hi, e0, ek, ei, hkp, hl, htk⟩
    refine W.env3 e0 ek ei ?_
    have hr2 := hkp.row hr (fun hm => hnb rb (by simpa using hm) rfl)
    have hx2 := h2.keep hkp (fun b e hm => hnw b (by simpa using hm) e)
    repeat (first | refine W.seq ?_ | refine W.block ?_ | refine W.reg ?_ | refine W.skip ?_ | refine W.exit ?_ | refine W.ret ?_ | refine L.nil ?_ | refine L.p rfl rfl ?_ | refine L.skip rfl ?_)
    refine L.ld (cell_of hr2 rfl) rfl rfl rfl ?_
    repeat (first | refine W.seq ?_ | refine W.block ?_ | refine W.reg ?_ | refine W.skip ?_ | refine W.exit ?_ | refine W.ret ?_ | refine L.nil ?_ | refine L.p rfl rfl ?_ | refine L.skip rfl ?_)
    refine L.el hx2.slv rfl hel rfl rfl rfl rfl (fun _ => rfl) rfl (fun p => ?_)
    repeat (first | refine W.seq ?_ | refine W.block ?_ | refine W.reg ?_ | refine W.skip ?_ | refine W.exit ?_ | refine W.ret ?_ | refine L.nil ?_ | refine L.p rfl rfl ?_ | refine L.skip rfl ?_)
    refine W.ite rfl (fun h => ?_) (fun h => ?_)
    · have hin : i < hh.n := by simp at h; omega
      obtain ⟨a, n, c⟩ := hh
      obtain ⟨b, rfl⟩ : ∃ b, a = some b := by
        obtain ⟨_, ⟨_, h0, _⟩ | ⟨b, _, h0, _⟩⟩ := hl
        · dsimp only at h0 hin; omega
        · exact ⟨b, h0⟩
      obtain ⟨r, hrr, hro, hrl, hrt⟩ := hl.row
      have hll := hl.len
      dsimp only at hin hll hi
      repeat (first | refine W.seq ?_ | refine W.block ?_ | refine W.reg ?_ | refine W.skip ?_ | refine W.exit ?_ | refine W.ret ?_ | refine L.nil ?_ | refine L.p rfl rfl ?_ | refine L.skip rfl ?_)
      refine L.ld (cell_of hr2 rfl) rfl rfl rfl ?_
      repeat (first | refine W.seq ?_ | refine W.block ?_ | refine W.reg ?_ | refine W.skip ?_ | refine W.exit ?_ | refine W.ret ?_ | refine L.nil ?_ | refine L.p rfl rfl ?_ | refine L.skip rfl ?_)
      refine L.el hx2.slv rfl hel rfl rfl rfl rfl (fun _ => rfl) rfl (fun p => ?_)
      repeat (first | refine W.seq ?_ | refine W.block ?_ | refine W.reg ?_ | refine W.skip ?_ | refine W.exit ?_ | refine W.ret ?_ | refine L.nil ?_ | refine L.p rfl rfl ?_ | refine L.skip rfl ?_)
      refine L.cl (mark_C _ _ _) rfl rfl ?_
      rintro _ _ ⟨rfl, rfl⟩
      refine ⟨fun _ => Cons.refl _, ?_⟩
      repeat (first | refine W.seq ?_ | refine W.block ?_ | refine W.reg ?_ | refine W.skip ?_ | refine W.exit ?_ | refine W.ret ?_ | refine L.nil ?_ | refine L.p rfl rfl ?_ | refine L.skip rfl ?_)
      refine L.elst hrr hro (by omega) rfl hin rfl rfl rfl rfl (fun _ => rfl) (fun _ => rfl) rfl rfl rfl (fun p => ?_)
      repeat (first | refine W.seq ?_ | refine W.block ?_ | refine W.reg ?_ | refine W.skip ?_ | refine W.exit ?_ | refine W.ret ?_ | refine L.nil ?_ | refine L.p rfl rfl ?_ | refine L.skip rfl ?_)
      rw [Nat.zero_add]
      refine ⟨n - (i + 1), by show n - (i + 1) < n - i; omega, i + 1, _, rfl, by show i + 1 ≤ n; omega, rfl, rfl, ?_, ?_, hl.set _ hrr, ?_⟩
      · refine (force_eq rfl).trans ?_
        rw [wrap64 (by omega) (by dsimp only at hsm; omega)]; rfl
      · exact hkp.trans ((Keep.set b _ _).keepL (by simp))
      · rw [mkW_succ]; exact take_set_succ htk (by omega)
    · have hin : i = hh.n := by simp at h; omega
      subst hin
      repeat (first | refine W.seq ?_ | refine W.block ?_ | refine W.reg ?_ | refine W.skip ?_ | refine W.exit ?_ | refine W.ret ?_ | refine L.nil ?_ | refine L.p rfl rfl ?_ | refine L.skip rfl ?_)
      refine ⟨ws.length - (k + 1), by omega, k + 1, rfl, by omega, rfl, ?_, ?_, ?_⟩
      · refine (force_eq rfl).trans ?_
        rw [wrap64 (by omega) (by omega)]; rfl
      · exact hkeep.trans (hkp.mono fun b hm => blks_mem hkh (by simpa using hm))
      · intro i h hi'
        by_cases hik : i = k
        · subst hik
          rw [hkh] at hi'; cases hi'
          rw [if_pos (by omega)]
          rw [List.take_of_length_le (Nat.le_of_eq hl.len)] at htk
          rw [← htk]; exact hl
        · have hne : ∀ b, h.a = some b → b ∉ hh.a.toList := fun b e hm => hik (hOws i k h hh b hi' hkh e (by simpa using hm))
          have := hst i h hi'
          split at this
          · rw [if_pos (by omega)]; exact this.keep hkp hne
          · rw [if_neg (by omega)]
            obtain ⟨l', hl'⟩ := this
            exact ⟨l', hl'.keep hkp hne⟩
  have hkl : k = ws.length := by simp at h; omega
  subst hkl
  have hMws : Marked S' 40 mkW 0 ws := fun i h hi => by
    have := hst i h hi
    have hlt := (List.getElem?_eq_some_iff.1 hi).1
    rw [if_pos hlt] at this
    exact this
  clear hst h hr h2 h3 h5 h6 hlen ek
  rename Mem => S1
  have hBbs := hBws.keep hkeep hdws
  have hAbs := hAbs.keep hkeep hdd
  have hkeep1 := hkeep
  clear hBws hkeep e0 hk
  repeat (first | refine W.seq ?_ | refine W.block ?_ | refine W.reg ?_ | refine W.skip ?_ | refine W.exit ?_ | refine W.ret ?_ | refine L.nil ?_ | refine L.p rfl rfl ?_ | refine L.skip rfl ?_)
  refine W.loop (fun j e S' => ∃ k : Nat, j = bs.length - k ∧ k ≤ bs.length ∧ e 0 = .pointer (some ⟨rb, 0, none⟩) ∧ e 5 = vi k ∧ KeepL (blks bs) S1 S' ∧ (∀ (i : Nat) (h : Hd), bs[i]? = some h → if i < k then HdOk S' 5 h (mkB i h.n) else ∃ l, HdOk S' 5 h l)) bs.length
    ⟨0, by omega, by omega, rfl, rfl, KeepL.refl _ _, fun i h hi => by rw [if_neg (by omega)]; exact (hAbs i h hi).2⟩ ?_
  rintro j e S' ⟨k, rfl, hk, e0, ek, hkeep, hst⟩
  refine W.env2 e0 ek ?_
  obtain ⟨hw, hb, hr, h2, h3, h4, h5, h6⟩ := hBbs.keep hkeep hdbs
  have hlen := h3.len
  rw [List.length_map] at hlen
  repeat (first | refine W.seq ?_ | refine W.block ?_ | refine W.reg ?_ | refine W.skip ?_ | refine W.exit ?_ | refine W.ret ?_ | refine L.nil ?_ | refine L.p rfl rfl ?_ | refine L.skip rfl ?_)
  refine L.ld (cell_of hr rfl) rfl rfl rfl ?_
  repeat (first | refine W.seq ?_ | refine W.block ?_ | refine W.reg ?_ | refine W.skip ?_ | refine W.exit ?_ | refine W.ret ?_ | refine L.nil ?_ | refine L.p rfl rfl ?_ | refine L.skip rfl ?_)
  refine W.ite rfl (fun h => ?_) (fun h => ?_)
  · have hkl : k < bs.length := by simp at h; omega
    obtain ⟨hh, hkh⟩ : ∃ hh, bs[k]? = some hh := ⟨_, List.getElem?_eq_getElem hkl⟩
    have hel : (bs.map Hd.v)[k]? = some hh.v := by rw [List.getElem?_map, hkh]; rfl
    obtain ⟨l0, hl0⟩ : ∃ l, HdOk S' 5 hh l := by have := hst k hh hkh; rwa [if_neg (by omega)] at this
    have hnb : ∀ b, hh.a = some b → b ≠ rb := fun b e hm => hdbs b (blks_mem hkh e) (hm ▸ h4)
    have hnw : ∀ b, hh.a = some b → hb.a ≠ some b := fun b e hm => hdbs b (blks_mem hkh e) (h6 b hm).1
    have hsm := (hAbs k hh hkh).1
    clear h
    repeat (first | refine W.seq ?_ | refine W.block ?_ | refine W.reg ?_ | refine W.skip ?_ | refine W.exit ?_ | refine W.ret ?_ | refine L.nil ?_ | refine L.p rfl rfl ?_ | refine L.skip rfl ?_)
    refine W.loop (fun j e S'' => ∃ (i : Nat) (l : List Value), j = hh.n - i ∧ i ≤ hh.n ∧ e 0 = .pointer (some ⟨rb, 0, none⟩) ∧ e 5 = vi k ∧ e 6 = vi i ∧ KeepL hh.a.toList S' S'' ∧ HdOk S'' 5 hh l ∧ l.take i = mkB k i) hh.n
      ⟨0, l0, by omega, by omega, rfl, rfl, rfl, KeepL.refl _ _, hl0, rfl⟩ ?_
    rintro j e S'' ⟨i, l, rfl, hi, e0, ek, ei, hkp, hl, htk⟩
    refine W.env3 e0 ek ei ?_
    have hr2 := hkp.row hr (fun hm => hnb rb (by simpa using hm) rfl)
    have hx2 := h3.keep hkp (fun b e hm => hnw b (by simpa using hm) e)
    repeat (first | refine W.seq ?_ | refine W.block ?_ | refine W.reg ?_ | refine W.skip ?_ | refine W.exit ?_ | refine W.ret ?_ | refine L.nil ?_ | refine L.p rfl rfl ?_ | refine L.skip rfl ?_)
    refine L.ld (cell_of hr2 rfl) rfl rfl rfl ?_
    repeat (first | refine W.seq ?_ | refine W.block ?_ | refine W.reg ?_ | refine W.skip ?_ | refine W.exit ?_ | refine W.ret ?_ | refine L.nil ?_ | refine L.p rfl rfl ?_ | refine L.skip rfl ?_)
    refine L.el hx2.slv rfl hel rfl rfl rfl rfl (fun _ => rfl) rfl (fun p => ?_)
    repeat (first | refine W.seq ?_ | refine W.block ?_ | refine W.reg ?_ | refine W.skip ?_ | refine W.exit ?_ | refine W.ret ?_ | refine L.nil ?_ | refine L.p rfl rfl ?_ | refine L.skip rfl ?_)
    refine W.ite rfl (fun h => ?_) (fun h => ?_)
    · have hin : i < hh.n := by simp at h; omega
      obtain ⟨a, n, c⟩ := hh
      obtain ⟨b, rfl⟩ : ∃ b, a = some b := by
        obtain ⟨_, ⟨_, h0, _⟩ | ⟨b, _, h0, _⟩⟩ := hl
        · dsimp only at h0 hin; omega
        · exact ⟨b, h0⟩
      obtain ⟨r, hrr, hro, hrl, hrt⟩ := hl.row
      have hll := hl.len
      dsimp only at hin hll hi
      repeat (first | refine W.seq ?_ | refine W.block ?_ | refine W.reg ?_ | refine W.skip ?_ | refine W.exit ?_ | refine W.ret ?_ | refine L.nil ?_ | refine L.p rfl rfl ?_ | refine L.skip rfl ?_)
      refine L.ld (cell_of hr2 rfl) rfl rfl rfl ?_
      repeat (first | refine W.seq ?_ | refine W.block ?_ | refine W.reg ?_ | refine W.skip ?_ | refine W.exit ?_ | refine W.ret ?_ | refine L.nil ?_ | refine L.p rfl rfl ?_ | refine L.skip rfl ?_)
      refine L.el hx2.slv rfl hel rfl rfl rfl rfl (fun _ => rfl) rfl (fun p => ?_)
      repeat (first | refine W.seq ?_ | refine W.block ?_ | refine W.reg ?_ | refine W.skip ?_ | refine W.exit ?_ | refine W.ret ?_ | refine L.nil ?_ | refine L.p rfl rfl ?_ | refine L.skip rfl ?_)
      refine L.cl (mark_C _ _ _) rfl rfl ?_
      rintro _ _ ⟨rfl, rfl⟩
      refine ⟨fun _ => Cons.refl _, ?_⟩
      repeat (first | refine W.seq ?_ | refine W.block ?_ | refine W.reg ?_ | refine W.skip ?_ | refine W.exit ?_ | refine W.ret ?_ | refine L.nil ?_ | refine L.p rfl rfl ?_ | refine L.skip rfl ?_)
      refine L.elst hrr hro (by omega) rfl hin rfl rfl rfl rfl (fun _ => rfl) (fun _ => rfl) rfl rfl rfl (fun p => ?_)
      repeat (first | refine W.seq ?_ | refine W.block ?_ | refine W.reg ?_ | refine W.skip ?_ | refine W.exit ?_ | refine W.ret ?_ | refine L.nil ?_ | refine L.p rfl rfl ?_ | refine L.skip rfl ?_)
      rw [Nat.zero_add]
      refine ⟨n - (i + 1), by show n - (i + 1) < n - i; omega, i + 1, _, rfl, by show i + 1 ≤ n; omega, rfl, rfl, ?_, ?_, hl.set _ hrr, ?_⟩
      · refine (force_eq rfl).trans ?_
        rw [wrap64 (by omega) (by dsimp only at hsm; omega)]; rfl
      · exact hkp.trans ((Keep.set b _ _).keepL (by simp))
      · rw [mkB_succ, show v8 ((mk k i).setWidth 8) = .int .u8 (IntKind.u8.wrap ((mk k i).toNat : Int)) by rw [u8_of_v64]]; exact take_set_succ htk (by omega)
    · have hin : i = hh.n := by simp at h; omega
      subst hin
      repeat (first | refine W.seq ?_ | refine W.block ?_ | refine W.reg ?_ | refine W.skip ?_ | refine W.exit ?_ | refine W.ret ?_ | refine L.nil ?_ | refine L.p rfl rfl ?_ | refine L.skip rfl ?_)
      refine ⟨bs.length - (k + 1), by omega, k + 1, rfl, by omega, rfl, ?_, ?_, ?_⟩
      · refine (force_eq rfl).trans ?_
        rw [wrap64 (by omega) (by omega)]; rfl
      · exact hkeep.trans (hkp.mono fun b hm => blks_mem hkh (by simpa using hm))
      · intro i h hi'
        by_cases hik : i = k
        · subst hik
          rw [hkh] at hi'; cases hi'
          rw [if_pos (by omega)]
          rw [List.take_of_length_le (Nat.le_of_eq hl.len)] at htk
          rw [← htk]; exact hl
        · have hne : ∀ b, h.a = some b → b ∉ hh.a.toList := fun b e hm => hik (hObs i k h hh b hi' hkh e (by simpa using hm))
          have := hst i h hi'
          split at this
          · rw [if_pos (by omega)]; exact this.keep hkp hne
          · rw [if_neg (by omega)]
            obtain ⟨l', hl'⟩ := this
            exact ⟨l', hl'.keep hkp hne⟩
  have hkl : k = bs.length := by simp at h; omega
  subst hkl
  have hMbs : Marked S' 5 mkB 0 bs := fun i h hi => by
    have := hst i h hi
    have hlt := (List.getElem?_eq_some_iff.1 hi).1
    rw [if_pos hlt] at this
    exact this
  clear hst h hr h2 h3 h5 h6 hlen ek
  rename Mem => S2
  have hBws := hBbs.keep hkeep hdbs
  have hMbs2 : Marked S2 5 mkB 0 bs := hMbs
  have hMws : Marked S2 40 mkW 0 ws := fun i h hi => (hMws i h hi).keep hkeep (fun b e hm => hdd b (blks_mem hi e) hm)
  have hkeep2 : KeepL (blks ws ++ blks bs) S S2 := (hkeep1.mono (by simp +contextual)).trans (hkeep.mono (by simp +contextual))
  clear hBbs hkeep hkeep1 e0 hk
  repeat (first | refine W.seq ?_ | refine W.block ?_ | refine W.reg ?_ | refine W.skip ?_ | refine W.exit ?_ | refine W.ret ?_ | refine L.nil ?_ | refine L.p rfl rfl ?_ | refine L.skip rfl ?_)
  refine W.loop (fun j e S' => ∃ (k : Nat) (dw : List Hd) (hxw : Hd), j = ws.length - k ∧ k ≤ ws.length ∧ e 0 = .pointer (some ⟨rb, 0, none⟩) ∧ e 8 = vi k ∧ e 7 = hxw.v ∧ e 0 = .pointer (some ⟨rb, 0, none⟩) ∧ dw.length = k ∧ KeepL (blks ws) S2 S' ∧ HdOk S' 55 hxw (dw.map Hd.v) ∧
      (∀ b, hxw.a = some b → List.length S2 ≤ b) ∧ (∀ (i : Nat) (d : Hd), dw[i]? = some d → (∃ h, ws[i]? = some h ∧ HdOk S' 40 d (mkW i (h.n + 64)) ∧ d.n = h.n + 64) ∧ ∃ b, d.a = some b ∧ List.length S2 ≤ b ∧ hxw.a ≠ some b) ∧
      (∀ (i : Nat) (h : Hd), ws[i]? = some h → k ≤ i → HdOk S' 40 h (mkW i h.n))) ws.length
    ⟨0, [], ⟨none, 0, 0⟩, by omega, by omega, rfl, rfl, rfl, rfl, rfl, KeepL.refl _ _, HdOk.nil _ _, nofun, fun i d hi => by simp at hi, fun i h hi _ => hMws i h hi⟩ ?_
  rintro j e S' ⟨k, dw, hxw, rfl, hk, e0, ek, ex, eo, hdl, hkeep, hhx, hxb, hds, hst⟩
  refine W.env4 e0 ek ex eo ?_
  obtain ⟨hw, hb, hr, h2, h3, h4, h5, h6⟩ := hBws.keep hkeep hdws
  have hlen := h2.len
  rw [List.length_map] at hlen
  repeat (first | refine W.seq ?_ | refine W.block ?_ | refine W.reg ?_ | refine W.skip ?_ | refine W.exit ?_ | refine W.ret ?_ | refine L.nil ?_ | refine L.p rfl rfl ?_ | refine L.skip rfl ?_)
  refine L.ld (cell_of hr rfl) rfl rfl rfl ?_
  repeat (first | refine W.seq ?_ | refine W.block ?_ | refine W.reg ?_ | refine W.skip ?_ | refine W.exit ?_ | refine W.ret ?_ | refine L.nil ?_ | refine L.p rfl rfl ?_ | refine L.skip rfl ?_)
  refine W.ite rfl (fun h => ?_) (fun h => ?_)
  · have hkl : k < ws.length := by simp at h; omega
    obtain ⟨hh, hkh⟩ : ∃ hh, ws[k]? = some hh := ⟨_, List.getElem?_eq_getElem hkl⟩
    have hel : (ws.map Hd.v)[k]? = some hh.v := by rw [List.getElem?_map, hkh]; rfl
    have hl0 := hst k hh hkh (Nat.le_refl _)
    have hnb : ∀ b, hh.a = some b → b ≠ rb := fun b e hm => hdws b (blks_mem hkh e) (hm ▸ h4)
    have hnw : ∀ b, hh.a = some b → hw.a ≠ some b := fun b e hm => hdws b (blks_mem hkh e) (h5 b hm).1
    have hlt : ∀ b, hh.a = some b → b < List.length S2 := fun b e => by
      have := hMws k hh hkh
      exact this.lt e
    have hsm := (hAws k hh hkh).1
    have hSl := hkeep.1
    clear h
    repeat (first | refine W.seq ?_ | refine W.block ?_ | refine W.reg ?_ | refine W.skip ?_ | refine W.exit ?_ | refine W.ret ?_ | refine L.nil ?_ | refine L.p rfl rfl ?_ | refine L.skip rfl ?_)
    refine L.ld (cell_of hr rfl) rfl rfl rfl ?_
    repeat (first | refine W.seq ?_ | refine W.block ?_ | refine W.reg ?_ | refine W.skip ?_ | refine W.exit ?_ | refine W.ret ?_ | refine L.nil ?_ | refine L.p rfl rfl ?_ | refine L.skip rfl ?_)
    refine L.el h2.slv rfl hel rfl rfl rfl rfl (fun _ => rfl) rfl (fun p => ?_)
    repeat (first | refine W.seq ?_ | refine W.block ?_ | refine W.reg ?_ | refine W.skip ?_ | refine W.exit ?_ | refine W.ret ?_ | refine L.nil ?_ | refine L.p rfl rfl ?_ | refine L.skip rfl ?_)
    refine W.loop (fun j e S'' => ∃ (i : Nat) (hl : Hd), j = 64 - i ∧ i ≤ 64 ∧ e 0 = .pointer (some ⟨rb, 0, none⟩) ∧ e 8 = vi k ∧ e 7 = hxw.v ∧ e 0 = .pointer (some ⟨rb, 0, none⟩) ∧ e 9 = hl.v ∧ e 10 = vi i ∧ KeepL hh.a.toList S' S'' ∧ HdOk S'' 40 hl (mkW k (hh.n + i)) ∧ hl.n = hh.n + i ∧ ((i = 0 ∧ hl.a = hh.a) ∨ ∃ b, hl.a = some b ∧ List.length S' ≤ b)) 64
      ⟨0, hh, by omega, by omega, rfl, rfl, rfl, rfl, rfl, rfl, KeepL.refl _ _, hl0, rfl, .inl ⟨rfl, rfl⟩⟩ ?_
    rintro j e S'' ⟨i, hl, rfl, hi, e0, ek, ex, eo, el, ei, hkp, hhl, hln, hla⟩
    refine W.env6 e0 ek ex eo el ei ?_
    have hr2 := hkp.row hr (fun hm => hnb rb (by simpa using hm) rfl)
    have hx2 := h2.keep hkp (fun b e hm => hnw b (by simpa using hm) e)
    repeat (first | refine W.seq ?_ | refine W.block ?_ | refine W.reg ?_ | refine W.skip ?_ | refine W.exit ?_ | refine W.ret ?_ | refine L.nil ?_ | refine L.p rfl rfl ?_ | refine L.skip rfl ?_)
    refine W.ite rfl (fun h => ?_) (fun h => ?_)
    · have hin : i < 64 := by simp at h; omega
      repeat (first | refine W.seq ?_ | refine W.block ?_ | refine W.reg ?_ | refine W.skip ?_ | refine W.exit ?_ | refine W.ret ?_ | refine L.nil ?_ | refine L.p rfl rfl ?_ | refine L.skip rfl ?_)
      refine L.ld (cell_of hr2 rfl) rfl rfl rfl ?_
      repeat (first | refine W.seq ?_ | refine W.block ?_ | refine W.reg ?_ | refine W.skip ?_ | refine W.exit ?_ | refine W.ret ?_ | refine L.nil ?_ | refine L.p rfl rfl ?_ | refine L.skip rfl ?_)
      refine L.el hx2.slv rfl hel rfl rfl rfl rfl (fun _ => rfl) rfl (fun p => ?_)
      repeat (first | refine W.seq ?_ | refine W.block ?_ | refine W.reg ?_ | refine W.skip ?_ | refine W.exit ?_ | refine W.ret ?_ | refine L.nil ?_ | refine L.p rfl rfl ?_ | refine L.skip rfl ?_)
      refine L.cl (mark_C _ _ _) rfl rfl ?_
      rintro _ _ ⟨rfl, rfl⟩
      refine ⟨fun _ => Cons.refl _, ?_⟩
      repeat (first | refine W.seq ?_ | refine W.block ?_ | refine W.reg ?_ | refine W.skip ?_ | refine W.exit ?_ | refine W.ret ?_ | refine L.nil ?_ | refine L.p rfl rfl ?_ | refine L.skip rfl ?_)
      refine L.pushH (h := hl) rfl hhl rfl rfl rfl rfl rfl (by omega) rfl (fun _ => rfl) (fun p h' S9 k1 k2 k3 k4 => ?_)
      rw [wrap64 (by omega) (by omega)] at k1
      repeat (first | refine W.seq ?_ | refine W.block ?_ | refine W.reg ?_ | refine W.skip ?_ | refine W.exit ?_ | refine W.ret ?_ | refine L.nil ?_ | refine L.p rfl rfl ?_ | refine L.skip rfl ?_)
      obtain ⟨b', k5, k6⟩ := k3
      have hSl2 := hkp.1
      refine ⟨64 - (i + 1), by omega, i + 1, h', rfl, by omega, rfl, rfl, rfl, rfl, rfl, ?_, ?_, ?_, by omega, .inr ⟨b', k5, by omega⟩⟩
      · refine (force_eq rfl).trans ?_
        rw [wrap64 (by omega) (by omega)]; rfl
      · refine hkp.then k4 ?_
        intro r hm
        rcases hla with ⟨_, hla⟩ | ⟨b, hla, hlb⟩
        · rw [hla] at hm; exact .inl hm
        · rw [hla] at hm; simp at hm; exact .inr (by omega)
      · rw [show hh.n + (i + 1) = (hh.n + i) + 1 by omega, mkW_succ]
        exact k1
    · have hin : i = 64 := by simp at h; omega
      subst hin
      obtain ⟨bl, hla, hlb⟩ : ∃ b, hl.a = some b ∧ List.length S' ≤ b := by
        rcases hla with ⟨h0, _⟩ | h0
        · omega
        · exact h0
      have hbl := hhl.lt hla
      have hxk : HdOk S'' 55 hxw (dw.map Hd.v) := hhx.keep hkp (fun b e hm => by have := hxb b e; have := hlt b (by simpa using hm); omega)
      have hxn := hxk.len
      rw [List.length_map] at hxn
      repeat (first | refine W.seq ?_ | refine W.block ?_ | refine W.reg ?_ | refine W.skip ?_ | refine W.exit ?_ | refine W.ret ?_ | refine L.nil ?_ | refine L.p rfl rfl ?_ | refine L.skip rfl ?_)
      refine L.pushH (h := hxw) rfl hxk rfl rfl rfl rfl rfl (by omega) rfl (fun _ => rfl) (fun p h' S9 k1 k2 k3 k4 => ?_)
      obtain ⟨b', k5, k6⟩ := k3
      repeat (first | refine W.seq ?_ | refine W.block ?_ | refine W.reg ?_ | refine W.skip ?_ | refine W.exit ?_ | refine W.ret ?_ | refine L.nil ?_ | refine L.p rfl rfl ?_ | refine L.skip rfl ?_)
      have hSl2 := hkp.1
      have hkS : KeepL (blks ws) S' S'' := hkp.mono fun b hm => blks_mem hkh (by simpa using hm)
      have hk4 : ∀ r ∈ hxw.a.toList, r ∈ blks ws ∨ List.length S2 ≤ r := fun r hm => .inr (hxb r (by simpa using hm))
      refine ⟨ws.length - (k + 1), by omega, k + 1, dw ++ [hl], h', rfl, by omega, rfl, ?_, rfl, rfl, by simp [hdl], (hkeep.trans hkS).then k4 hk4, by rw [List.map_append]; exact k1, ?_, ?_, ?_⟩
      · refine (force_eq rfl).trans ?_
        rw [wrap64 (by omega) (by omega)]; rfl
      · intro b e; rw [k5] at e; cases e; omega
      · intro i d hi'
        rw [List.getElem?_append] at hi'
        split at hi'
        · obtain ⟨⟨h9, q1, q2, q3⟩, b9, q4, q5, q6⟩ := hds i d hi'
          have q7 := q2.lt q4
          refine ⟨⟨h9, q1, (q2.keep hkp (fun b e hm => ?_)).keep k4 (fun b e hm => ?_), q3⟩, b9, q4, q5, fun e => ?_⟩
          · rw [q4] at e; cases e
            have := hlt _ (by simpa using hm : hh.a = some b9); omega
          · rw [q4] at e; cases e
            exact q6 (by simpa using hm)
          · rw [k5] at e; cases e; omega
        · rename_i hge
          rw [List.getElem?_singleton] at hi'
          split at hi'
          · rename_i h0
            cases hi'
            have hik : i = k := by omega
            subst hik
            refine ⟨⟨hh, hkh, hhl.keep k4 (fun b e hm => ?_), hln⟩, bl, hla, by omega, fun e => ?_⟩
            · rw [hla] at e; cases e
              have := hhx.lt (by simpa using hm : hxw.a = some bl)
              omega
            · rw [k5] at e; cases e; omega
          · cases hi'
      · intro i h hi' hge
        have hq := hst i h hi' (by omega)
        refine (hq.keep hkp (fun b e hm => ?_)).keep k4 (fun b e hm => ?_)
        · have := hOws i k h hh b hi' hkh e (by simpa using hm); omega
        · have := hxb b (by simpa using hm)
          have := (hMws i h hi').lt e
          omega
  have hkl : k = ws.length := by simp at h; omega
  clear h hr h2 h3 h5 h6 hlen ek e0 hst
  subst hkl
  rename Mem => S3
  have hBbs := hBws.keep hkeep hdws
  have hMbs : Marked S3 5 mkB 0 bs := fun i h hi => (hMbs i h hi).keep hkeep (fun b e hm => hdd b hm (blks_mem hi e))
  have hhxdw := hhx
  have hdsdw := hds
  have hxbw := hxb
  have hkeep3 : KeepL (blks ws ++ blks bs) S S3 := hkeep2.trans (hkeep.mono (by simp +contextual))
  have hS23 := hkeep.1
  clear hkeep hkeep2 hhx hds hxb hBws hk
  repeat (first | refine W.seq ?_ | refine W.block ?_ | refine W.reg ?_ | refine W.skip ?_ | refine W.exit ?_ | refine W.ret ?_ | refine L.nil ?_ | refine L.p rfl rfl ?_ | refine L.skip rfl ?_)
  refine W.loop (fun j e S' => ∃ (k : Nat) (ds : List Hd) (hx : Hd), j = bs.length - k ∧ k ≤ bs.length ∧ e 0 = .pointer (some ⟨rb, 0, none⟩) ∧ e 12 = vi k ∧ e 11 = hx.v ∧ e 7 = hxw.v ∧ ds.length = k ∧ KeepL (blks bs) S3 S' ∧ HdOk S' 22 hx (ds.map Hd.v) ∧
      (∀ b, hx.a = some b → List.length S3 ≤ b) ∧ (∀ (i : Nat) (d : Hd), ds[i]? = some d → (∃ h, bs[i]? = some h ∧ HdOk S' 5 d (mkB i (h.n + 64)) ∧ d.n = h.n + 64) ∧ ∃ b, d.a = some b ∧ List.length S3 ≤ b ∧ hx.a ≠ some b) ∧
      (∀ (i : Nat) (h : Hd), bs[i]? = some h → k ≤ i → HdOk S' 5 h (mkB i h.n))) bs.length
    ⟨0, [], ⟨none, 0, 0⟩, by omega, by omega, rfl, rfl, rfl, rfl, rfl, KeepL.refl _ _, HdOk.nil _ _, nofun, fun i d hi => by simp at hi, fun i h hi _ => hMbs i h hi⟩ ?_
  rintro j e S' ⟨k, ds, hx, rfl, hk, e0, ek, ex, eo, hdl, hkeep, hhx, hxb, hds, hst⟩
  refine W.env4 e0 ek ex eo ?_
  obtain ⟨hw, hb, hr, h2, h3, h4, h5, h6⟩ := hBbs.keep hkeep hdbs
  have hlen := h3.len
  rw [List.length_map] at hlen
  repeat (first | refine W.seq ?_ | refine W.block ?_ | refine W.reg ?_ | refine W.skip ?_ | refine W.exit ?_ | refine W.ret ?_ | refine L.nil ?_ | refine L.p rfl rfl ?_ | refine L.skip rfl ?_)
  refine L.ld (cell_of hr rfl) rfl rfl rfl ?_
  repeat (first | refine W.seq ?_ | refine W.block ?_ | refine W.reg ?_ | refine W.skip ?_ | refine W.exit ?_ | refine W.ret ?_ | refine L.nil ?_ | refine L.p rfl rfl ?_ | refine L.skip rfl ?_)
  refine W.ite rfl (fun h => ?_) (fun h => ?_)
  · have hkl : k < bs.length := by simp at h; omega
    obtain ⟨hh, hkh⟩ : ∃ hh, bs[k]? = some hh := ⟨_, List.getElem?_eq_getElem hkl⟩
    have hel : (bs.map Hd.v)[k]? = some hh.v := by rw [List.getElem?_map, hkh]; rfl
    have hl0 := hst k hh hkh (Nat.le_refl _)
    have hnb : ∀ b, hh.a = some b → b ≠ rb := fun b e hm => hdbs b (blks_mem hkh e) (hm ▸ h4)
    have hnw : ∀ b, hh.a = some b → hb.a ≠ some b := fun b e hm => hdbs b (blks_mem hkh e) (h6 b hm).1
    have hlt : ∀ b, hh.a = some b → b < List.length S3 := fun b e => by
      have := hMbs k hh hkh
      exact this.lt e
    have hsm := (hAbs k hh hkh).1
    have hSl := hkeep.1
    clear h
    repeat (first | refine W.seq ?_ | refine W.block ?_ | refine W.reg ?_ | refine W.skip ?_ | refine W.exit ?_ | refine W.ret ?_ | refine L.nil ?_ | refine L.p rfl rfl ?_ | refine L.skip rfl ?_)
    refine L.ld (cell_of hr rfl) rfl rfl rfl ?_
    repeat (first | refine W.seq ?_ | refine W.block ?_ | refine W.reg ?_ | refine W.skip ?_ | refine W.exit ?_ | refine W.ret ?_ | refine L.nil ?_ | refine L.p rfl rfl ?_ | refine L.skip rfl ?_)
    refine L.el h3.slv rfl hel rfl rfl rfl rfl (fun _ => rfl) rfl (fun p => ?_)
    repeat (first | refine W.seq ?_ | refine W.block ?_ | refine W.reg ?_ | refine W.skip ?_ | refine W.exit ?_ | refine W.ret ?_ | refine L.nil ?_ | refine L.p rfl rfl ?_ | refine L.skip rfl ?_)
    refine W.loop (fun j e S'' => ∃ (i : Nat) (hl : Hd), j = 64 - i ∧ i ≤ 64 ∧ e 0 = .pointer (some ⟨rb, 0, none⟩) ∧ e 12 = vi k ∧ e 11 = hx.v ∧ e 7 = hxw.v ∧ e 13 = hl.v ∧ e 14 = vi i ∧ KeepL hh.a.toList S' S'' ∧ HdOk S'' 5 hl (mkB k (hh.n + i)) ∧ hl.n = hh.n + i ∧ ((i = 0 ∧ hl.a = hh.a) ∨ ∃ b, hl.a = some b ∧ List.length S' ≤ b)) 64
      ⟨0, hh, by omega, by omega, rfl, rfl, rfl, rfl, rfl, rfl, KeepL.refl _ _, hl0, rfl, .inl ⟨rfl, rfl⟩⟩ ?_
    rintro j e S'' ⟨i, hl, rfl, hi, e0, ek, ex, eo, el, ei, hkp, hhl, hln, hla⟩
    refine W.env6 e0 ek ex eo el ei ?_
    have hr2 := hkp.row hr (fun hm => hnb rb (by simpa using hm) rfl)
    have hx2 := h3.keep hkp (fun b e hm => hnw b (by simpa using hm) e)
    repeat (first | refine W.seq ?_ | refine W.block ?_ | refine W.reg ?_ | refine W.skip ?_ | refine W.exit ?_ | refine W.ret ?_ | refine L.nil ?_ | refine L.p rfl rfl ?_ | refine L.skip rfl ?_)
    refine W.ite rfl (fun h => ?_) (fun h => ?_)
    · have hin : i < 64 := by simp at h; omega
      repeat (first | refine W.seq ?_ | refine W.block ?_ | refine W.reg ?_ | refine W.skip ?_ | refine W.exit ?_ | refine W.ret ?_ | refine L.nil ?_ | refine L.p rfl rfl ?_ | refine L.skip rfl ?_)
      refine L.ld (cell_of hr2 rfl) rfl rfl rfl ?_
      repeat (first | refine W.seq ?_ | refine W.block ?_ | refine W.reg ?_ | refine W.skip ?_ | refine W.exit ?_ | refine W.ret ?_ | refine L.nil ?_ | refine L.p rfl rfl ?_ | refine L.skip rfl ?_)
      refine L.el hx2.slv rfl hel rfl rfl rfl rfl (fun _ => rfl) rfl (fun p => ?_)
      repeat (first | refine W.seq ?_ | refine W.block ?_ | refine W.reg ?_ | refine W.skip ?_ | refine W.exit ?_ | refine W.ret ?_ | refine L.nil ?_ | refine L.p rfl rfl ?_ | refine L.skip rfl ?_)
      refine L.cl (mark_C _ _ _) rfl rfl ?_
      rintro _ _ ⟨rfl, rfl⟩
      refine ⟨fun _ => Cons.refl _, ?_⟩
      repeat (first | refine W.seq ?_ | refine W.block ?_ | refine W.reg ?_ | refine W.skip ?_ | refine W.exit ?_ | refine W.ret ?_ | refine L.nil ?_ | refine L.p rfl rfl ?_ | refine L.skip rfl ?_)
      refine L.pushH (h := hl) rfl hhl rfl rfl rfl rfl rfl (by omega) rfl (fun _ => rfl) (fun p h' S9 k1 k2 k3 k4 => ?_)
      rw [wrap64 (by omega) (by omega)] at k1
      repeat (first | refine W.seq ?_ | refine W.block ?_ | refine W.reg ?_ | refine W.skip ?_ | refine W.exit ?_ | refine W.ret ?_ | refine L.nil ?_ | refine L.p rfl rfl ?_ | refine L.skip rfl ?_)
      obtain ⟨b', k5, k6⟩ := k3
      have hSl2 := hkp.1
      refine ⟨64 - (i + 1), by omega, i + 1, h', rfl, by omega, rfl, rfl, rfl, rfl, rfl, ?_, ?_, ?_, by omega, .inr ⟨b', k5, by omega⟩⟩
      · refine (force_eq rfl).trans ?_
        rw [wrap64 (by omega) (by omega)]; rfl
      · refine hkp.then k4 ?_
        intro r hm
        rcases hla with ⟨_, hla⟩ | ⟨b, hla, hlb⟩
        · rw [hla] at hm; exact .inl hm
        · rw [hla] at hm; simp at hm; exact .inr (by omega)
      · rw [show hh.n + (i + 1) = (hh.n + i) + 1 by omega, mkB_succ]
        (rw [u8_of_v64] at k1; exact k1)
    · have hin : i = 64 := by simp at h; omega
      subst hin
      obtain ⟨bl, hla, hlb⟩ : ∃ b, hl.a = some b ∧ List.length S' ≤ b := by
        rcases hla with ⟨h0, _⟩ | h0
        · omega
        · exact h0
      have hbl := hhl.lt hla
      have hxk : HdOk S'' 22 hx (ds.map Hd.v) := hhx.keep hkp (fun b e hm => by have := hxb b e; have := hlt b (by simpa using hm); omega)
      have hxn := hxk.len
      rw [List.length_map] at hxn
      repeat (first | refine W.seq ?_ | refine W.block ?_ | refine W.reg ?_ | refine W.skip ?_ | refine W.exit ?_ | refine W.ret ?_ | refine L.nil ?_ | refine L.p rfl rfl ?_ | refine L.skip rfl ?_)
      refine L.pushH (h := hx) rfl hxk rfl rfl rfl rfl rfl (by omega) rfl (fun _ => rfl) (fun p h' S9 k1 k2 k3 k4 => ?_)
      obtain ⟨b', k5, k6⟩ := k3
      repeat (first | refine W.seq ?_ | refine W.block ?_ | refine W.reg ?_ | refine W.skip ?_ | refine W.exit ?_ | refine W.ret ?_ | refine L.nil ?_ | refine L.p rfl rfl ?_ | refine L.skip rfl ?_)
      have hSl2 := hkp.1
      have hkS : KeepL (blks bs) S' S'' := hkp.mono fun b hm => blks_mem hkh (by simpa using hm)
      have hk4 : ∀ r ∈ hx.a.toList, r ∈ blks bs ∨ List.length S3 ≤ r := fun r hm => .inr (hxb r (by simpa using hm))
      refine ⟨bs.length - (k + 1), by omega, k + 1, ds ++ [hl], h', rfl, by omega, rfl, ?_, rfl, rfl, by simp [hdl], (hkeep.trans hkS).then k4 hk4, by rw [List.map_append]; exact k1, ?_, ?_, ?_⟩
      · refine (force_eq rfl).trans ?_
        rw [wrap64 (by omega) (by omega)]; rfl
      · intro b e; rw [k5] at e; cases e; omega
      · intro i d hi'
        rw [List.getElem?_append] at hi'
        split at hi'
        · obtain ⟨⟨h9, q1, q2, q3⟩, b9, q4, q5, q6⟩ := hds i d hi'
          have q7 := q2.lt q4
          refine ⟨⟨h9, q1, (q2.keep hkp (fun b e hm => ?_)).keep k4 (fun b e hm => ?_), q3⟩, b9, q4, q5, fun e => ?_⟩
          · rw [q4] at e; cases e
            have := hlt _ (by simpa using hm : hh.a = some b9); omega
          · rw [q4] at e; cases e
            exact q6 (by simpa using hm)
          · rw [k5] at e; cases e; omega
        · rename_i hge
          rw [List.getElem?_singleton] at hi'
          split at hi'
          · rename_i h0
            cases hi'
            have hik : i = k := by omega
            subst hik
            refine ⟨⟨hh, hkh, hhl.keep k4 (fun b e hm => ?_), hln⟩, bl, hla, by omega, fun e => ?_⟩
            · rw [hla] at e; cases e
              have := hhx.lt (by simpa using hm : hx.a = some bl)
              omega
            · rw [k5] at e; cases e; omega
          · cases hi'
      · intro i h hi' hge
        have hq := hst i h hi' (by omega)
        refine (hq.keep hkp (fun b e hm => ?_)).keep k4 (fun b e hm => ?_)
        · have := hObs i k h hh b hi' hkh e (by simpa using hm); omega
        · have := hxb b (by simpa using hm)
          have := (hMbs i h hi').lt e
          omega
  have hkl : k = bs.length := by simp at h; omega
  clear h hr h2 h3 h5 h6 hlen ek e0 hst
  subst hkl
  rename Mem => S4
  have hkeep4 : KeepL (blks ws ++ blks bs) S S4 := hkeep3.trans (hkeep.mono (by simp +contextual))
  have hblt : ∀ b ∈ blks bs, b < List.length S2 := fun b hm => by
    obtain ⟨k, d, h1, h2⟩ := blks_at hm
    exact (hMbs2 k d h1).lt h2
  have hhxdw := hhxdw.keep hkeep (fun b e hm => by have := hxbw b e; have := hblt b hm; omega)
  have hdsdw : ∀ (i : Nat) (d : Hd), dw[i]? = some d → (∃ h, ws[i]? = some h ∧ HdOk S4 40 d (mkW i (h.n + 64)) ∧ d.n = h.n + 64) ∧ True := fun i d hi => by
    obtain ⟨⟨h9, q1, q2, q3⟩, b9, q4, q5, q6⟩ := hdsdw i d hi
    exact ⟨⟨h9, q1, q2.keep hkeep (fun b e hm => by rw [q4] at e; cases e; have := hblt _ hm; omega), q3⟩, trivial⟩
  have hhxds := hhx
  have hdsds := hds
  clear hkeep hkeep3 hhx hds hxb hBbs hk hxbw
  repeat (first | refine W.seq ?_ | refine W.block ?_ | refine W.reg ?_ | refine W.skip ?_ | refine W.exit ?_ | refine W.ret ?_ | refine L.nil ?_ | refine L.p rfl rfl ?_ | refine L.skip rfl ?_)
  refine W.loop (fun j e S' => ∃ k : Nat, j = dw.length - k ∧ k ≤ dw.length ∧ S4 = S' ∧ e 7 = hxw.v ∧ e 15 = vi k ∧ e 11 = hx.v) dw.length ⟨0, by omega, by omega, rfl, rfl, rfl, rfl⟩ ?_
  rintro j e S' ⟨k, rfl, hk, rfl, ex, ek, eo⟩
  refine W.env3 ex ek eo ?_
  have hlen := hhxdw.len
  rw [List.length_map] at hlen
  repeat (first | refine W.seq ?_ | refine W.block ?_ | refine W.reg ?_ | refine W.skip ?_ | refine W.exit ?_ | refine W.ret ?_ | refine L.nil ?_ | refine L.p rfl rfl ?_ | refine L.skip rfl ?_)
  refine W.ite rfl (fun h => ?_) (fun h => ?_)
  · have hkl : k < dw.length := by simp at h; omega
    obtain ⟨dd, hkd⟩ : ∃ dd, dw[k]? = some dd := ⟨_, List.getElem?_eq_getElem hkl⟩
    have hel : (dw.map Hd.v)[k]? = some dd.v := by rw [List.getElem?_map, hkd]; rfl
    obtain ⟨⟨hh, hkh, hdok, hdn⟩, _⟩ := hdsdw k dd hkd
    rw [← hdn] at hdok
    have hsm := (hAws k hh hkh).1
    clear h
    repeat (first | refine W.seq ?_ | refine W.block ?_ | refine W.reg ?_ | refine W.skip ?_ | refine W.exit ?_ | refine W.ret ?_ | refine L.nil ?_ | refine L.p rfl rfl ?_ | refine L.skip rfl ?_)
    refine W.loop (fun j e S'' => ∃ i : Nat, j = dd.n - i ∧ i ≤ dd.n ∧ S4 = S'' ∧ e 7 = hxw.v ∧ e 15 = vi k ∧ e 11 = hx.v ∧ e 16 = vi i) dd.n ⟨0, by omega, by omega, rfl, rfl, rfl, rfl, rfl⟩ ?_
    rintro j e S'' ⟨i, rfl, hi, rfl, ex, ek, eo, ei⟩
    refine W.env4 ex ek eo ei ?_
    repeat (first | refine W.seq ?_ | refine W.block ?_ | refine W.reg ?_ | refine W.skip ?_ | refine W.exit ?_ | refine W.ret ?_ | refine L.nil ?_ | refine L.p rfl rfl ?_ | refine L.skip rfl ?_)
    refine L.el hhxdw.slv rfl hel rfl rfl rfl rfl (fun _ => rfl) rfl (fun p => ?_)
    repeat (first | refine W.seq ?_ | refine W.block ?_ | refine W.reg ?_ | refine W.skip ?_ | refine W.exit ?_ | refine W.ret ?_ | refine L.nil ?_ | refine L.p rfl rfl ?_ | refine L.skip rfl ?_)
    refine W.ite rfl (fun h => ?_) (fun h => ?_)
    · have hin : i < dd.n := by simp at h; omega
      repeat (first | refine W.seq ?_ | refine W.block ?_ | refine W.reg ?_ | refine W.skip ?_ | refine W.exit ?_ | refine W.ret ?_ | refine L.nil ?_ | refine L.p rfl rfl ?_ | refine L.skip rfl ?_)
      refine L.el hhxdw.slv rfl hel rfl rfl rfl rfl (fun _ => rfl) rfl (fun p => ?_)
      repeat (first | refine W.seq ?_ | refine W.block ?_ | refine W.reg ?_ | refine W.skip ?_ | refine W.exit ?_ | refine W.ret ?_ | refine L.nil ?_ | refine L.p rfl rfl ?_ | refine L.skip rfl ?_)
      refine L.el hdok.slv rfl (mkW_get hin) rfl rfl rfl rfl (fun _ => rfl) rfl (fun p => ?_)
      repeat (first | refine W.seq ?_ | refine W.block ?_ | refine W.reg ?_ | refine W.skip ?_ | refine W.exit ?_ | refine W.ret ?_ | refine L.nil ?_ | refine L.p rfl rfl ?_ | refine L.skip rfl ?_)
      refine L.cl (mark_C _ _ _) rfl rfl ?_
      rintro _ _ ⟨rfl, rfl⟩
      refine ⟨fun _ => Cons.refl _, ?_⟩
      repeat (first | refine W.seq ?_ | refine W.block ?_ | refine W.reg ?_ | refine W.skip ?_ | refine W.exit ?_ | refine W.ret ?_ | refine L.nil ?_ | refine L.p rfl rfl ?_ | refine L.skip rfl ?_)
      refine W.ite rfl (fun h => ?_) (fun h => ?_)
      · exfalso; (simp at h)
      · repeat (first | refine W.seq ?_ | refine W.block ?_ | refine W.reg ?_ | refine W.skip ?_ | refine W.exit ?_ | refine W.ret ?_ | refine L.nil ?_ | refine L.p rfl rfl ?_ | refine L.skip rfl ?_)
        refine ⟨dd.n - (i + 1), by omega, i + 1, rfl, by omega, rfl, rfl, rfl, rfl, ?_⟩
        refine (force_eq rfl).trans ?_
        rw [wrap64 (by omega) (by omega)]; rfl
    · repeat (first | refine W.seq ?_ | refine W.block ?_ | refine W.reg ?_ | refine W.skip ?_ | refine W.exit ?_ | refine W.ret ?_ | refine L.nil ?_ | refine L.p rfl rfl ?_ | refine L.skip rfl ?_)
      refine ⟨dw.length - (k + 1), by omega, k + 1, rfl, by omega, rfl, rfl, ?_, rfl⟩
      refine (force_eq rfl).trans ?_
      rw [wrap64 (by omega) (by omega)]; rfl
  clear h ek hlen
  repeat (first | refine W.seq ?_ | refine W.block ?_ | refine W.reg ?_ | refine W.skip ?_ | refine W.exit ?_ | refine W.ret ?_ | refine L.nil ?_ | refine L.p rfl rfl ?_ | refine L.skip rfl ?_)
  refine W.loop (fun j e S' => ∃ k : Nat, j = ds.length - k ∧ k ≤ ds.length ∧ S4 = S' ∧ e 11 = hx.v ∧ e 17 = vi k ∧ e 11 = hx.v) ds.length ⟨0, by omega, by omega, rfl, rfl, rfl, rfl⟩ ?_
  rintro j e S' ⟨k, rfl, hk, rfl, ex, ek, eo⟩
  refine W.env3 ex ek eo ?_
  have hlen := hhxds.len
  rw [List.length_map] at hlen
  repeat (first | refine W.seq ?_ | refine W.block ?_ | refine W.reg ?_ | refine W.skip ?_ | refine W.exit ?_ | refine W.ret ?_ | refine L.nil ?_ | refine L.p rfl rfl ?_ | refine L.skip rfl ?_)
  refine W.ite rfl (fun h => ?_) (fun h => ?_)
  · have hkl : k < ds.length := by simp at h; omega
    obtain ⟨dd, hkd⟩ : ∃ dd, ds[k]? = some dd := ⟨_, List.getElem?_eq_getElem hkl⟩
    have hel : (ds.map Hd.v)[k]? = some dd.v := by rw [List.getElem?_map, hkd]; rfl
    obtain ⟨⟨hh, hkh, hdok, hdn⟩, _⟩ := hdsds k dd hkd
    rw [← hdn] at hdok
    have hsm := (hAbs k hh hkh).1
    clear h
    repeat (first | refine W.seq ?_ | refine W.block ?_ | refine W.reg ?_ | refine W.skip ?_ | refine W.exit ?_ | refine W.ret ?_ | refine L.nil ?_ | refine L.p rfl rfl ?_ | refine L.skip rfl ?_)
    refine W.loop (fun j e S'' => ∃ i : Nat, j = dd.n - i ∧ i ≤ dd.n ∧ S4 = S'' ∧ e 11 = hx.v ∧ e 17 = vi k ∧ e 11 = hx.v ∧ e 18 = vi i) dd.n ⟨0, by omega, by omega, rfl, rfl, rfl, rfl, rfl⟩ ?_
    rintro j e S'' ⟨i, rfl, hi, rfl, ex, ek, eo, ei⟩
    refine W.env4 ex ek eo ei ?_
    repeat (first | refine W.seq ?_ | refine W.block ?_ | refine W.reg ?_ | refine W.skip ?_ | refine W.exit ?_ | refine W.ret ?_ | refine L.nil ?_ | refine L.p rfl rfl ?_ | refine L.skip rfl ?_)
    refine L.el hhxds.slv rfl hel rfl rfl rfl rfl (fun _ => rfl) rfl (fun p => ?_)
    repeat (first | refine W.seq ?_ | refine W.block ?_ | refine W.reg ?_ | refine W.skip ?_ | refine W.exit ?_ | refine W.ret ?_ | refine L.nil ?_ | refine L.p rfl rfl ?_ | refine L.skip rfl ?_)
    refine W.ite rfl (fun h => ?_) (fun h => ?_)
    · have hin : i < dd.n := by simp at h; omega
      repeat (first | refine W.seq ?_ | refine W.block ?_ | refine W.reg ?_ | refine W.skip ?_ | refine W.exit ?_ | refine W.ret ?_ | refine L.nil ?_ | refine L.p rfl rfl ?_ | refine L.skip rfl ?_)
      refine L.el hhxds.slv rfl hel rfl rfl rfl rfl (fun _ => rfl) rfl (fun p => ?_)
      repeat (first | refine W.seq ?_ | refine W.block ?_ | refine W.reg ?_ | refine W.skip ?_ | refine W.exit ?_ | refine W.ret ?_ | refine L.nil ?_ | refine L.p rfl rfl ?_ | refine L.skip rfl ?_)
      refine L.el hdok.slv rfl (mkB_get hin) rfl rfl rfl rfl (fun _ => rfl) rfl (fun p => ?_)
      repeat (first | refine W.seq ?_ | refine W.block ?_ | refine W.reg ?_ | refine W.skip ?_ | refine W.exit ?_ | refine W.ret ?_ | refine L.nil ?_ | refine L.p rfl rfl ?_ | refine L.skip rfl ?_)
      refine L.cl (mark_C _ _ _) rfl rfl ?_
      rintro _ _ ⟨rfl, rfl⟩
      refine ⟨fun _ => Cons.refl _, ?_⟩
      repeat (first | refine W.seq ?_ | refine W.block ?_ | refine W.reg ?_ | refine W.skip ?_ | refine W.exit ?_ | refine W.ret ?_ | refine L.nil ?_ | refine L.p rfl rfl ?_ | refine L.skip rfl ?_)
      refine W.ite rfl (fun h => ?_) (fun h => ?_)
      · exfalso; (rw [u8_of_v64] at h; simp at h)
      · repeat (first | refine W.seq ?_ | refine W.block ?_ | refine W.reg ?_ | refine W.skip ?_ | refine W.exit ?_ | refine W.ret ?_ | refine L.nil ?_ | refine L.p rfl rfl ?_ | refine L.skip rfl ?_)
        refine ⟨dd.n - (i + 1), by omega, i + 1, rfl, by omega, rfl, rfl, rfl, rfl, ?_⟩
        refine (force_eq rfl).trans ?_
        rw [wrap64 (by omega) (by omega)]; rfl
    · repeat (first | refine W.seq ?_ | refine W.block ?_ | refine W.reg ?_ | refine W.skip ?_ | refine W.exit ?_ | refine W.ret ?_ | refine L.nil ?_ | refine L.p rfl rfl ?_ | refine L.skip rfl ?_)
      refine ⟨ds.length - (k + 1), by omega, k + 1, rfl, by omega, rfl, rfl, ?_, rfl⟩
      refine (force_eq rfl).trans ?_
      rw [wrap64 (by omega) (by omega)]; rfl
  clear h ek hlen
  repeat (first | refine W.seq ?_ | refine W.block ?_ | refine W.reg ?_ | refine W.skip ?_ | refine W.exit ?_ | refine W.ret ?_ | refine L.nil ?_ | refine L.p rfl rfl ?_ | refine L.skip rfl ?_)
  exact ⟨.inr rfl, _, rfl, rfl, hkeep4⟩
end Go.Proofs.YtkiecgkgbogbaaaDoor

/- The book from its making to its answer. Conditions: none. -/
set_option linter.unusedSimpArgs false
set_option linter.unusedVariables false
set_option maxRecDepth 100000
namespace Go.Proofs.YtkiecgkgbogbaaaDoor
open Go
variable {G : Nat} {Ext : FuncId → List Value → Mem → Outc → Mem → Prop}

/-- a book made after M0, with these lists; nothing of M0 has changed -/
def BK (M0 S : Mem) (rb : Nat) (ws bs : List Hd) : Prop := Cons M0 S ∧ ∃ ps, Book S rb ws bs ps ∧ ∀ r ∈ ps, M0.length ≤ r
theorem BK.new (M0 : Mem) : BK M0 (M0 ++ [newR [.slice none 0 0, .slice none 0 0] 34]) M0.length [] [] :=
  ⟨Cons.push _ _, _, Book.new M0, fun r hm => by simp at hm; omega⟩
theorem BK.step {M0 S S' : Mem} {rb : Nat} {ws' bs' : List Hd} {ps ps' : List Nat} (hc : Cons M0 S) (hp : ∀ r ∈ ps, M0.length ≤ r) (q1 : Book S' rb ws' bs' ps') (q2 : Sub2 S ps ps') (q3 : KeepL ps S S') : BK M0 S' rb ws' bs' :=
  ⟨q3.cons0 hc hp, ps', q1, fun r hm => (q2 r hm).elim (hp r) (fun h => Nat.le_trans hc.len h)⟩
theorem bytes_BK {M0 S : Mem} {rb : Nat} {ws bs : List Hd} (h : Hd) (hK : BK M0 S rb ws bs) (hn : bs.length < 1000000) : C Tryd.prog G Ext 20 [.pointer (some ⟨rb, 0, none⟩), h.v] S fun v S' => BK M0 S' rb ws (bs ++ [h]) := by
  obtain ⟨hc, ps, hB, hp⟩ := hK
  obtain ⟨v, S', h1, ps', q1, q2, q3⟩ := bytes_C (G := G) (Ext := Ext) S h rb ws bs ps hB hn
  exact ⟨v, S', h1, .step hc hp q1 q2 q3⟩
theorem Alive.nil (S : Mem) (el : TypeId) : Alive S el [] := fun i h hi => by simp at hi
theorem Alive.add {S : Mem} {el : TypeId} {d : Hd} {ds : List Hd} {l : List Value} (h : HdOk S el d l) (hn : l.length ≤ 1000000000000) (t : Alive S el ds) : Alive S el (d :: ds) := fun i x hi => by
  cases i with
  | zero => cases hi; exact ⟨by have := h.len; omega, l, h⟩
  | succ i => exact t i x hi
theorem Own.nil : Own [] := fun i j h d b hi => by simp at hi
theorem Own.add {d : Hd} {ds : List Hd} (h : ∀ b, d.a = some b → b ∉ blks ds) (t : Own ds) : Own (d :: ds) := fun i j x y b hi hj ex ey => by
  cases i with
  | zero =>
    cases hi
    cases j with
    | zero => rfl
    | succ j => exact absurd (blks_mem (k := j) hj ey) (h b ex)
  | succ i =>
    cases j with
    | zero => cases hj; exact absurd (blks_mem (k := i) hi ex) (h b ey)
    | succ j => exact congrArg (· + 1) (t i j x y b hi hj ex ey)
theorem blks_nil : blks [] = [] := rfl
theorem mem_blks {d : Hd} {ds : List Hd} {b : Nat} : b ∈ blks (d :: ds) ↔ d.a = some b ∨ b ∈ blks ds := by
  unfold blks
  rw [List.filterMap_cons]
  cases h : d.a with
  | none => simp
  | some x => simp; exact or_congr_left eq_comm
theorem Alive.lt {S : Mem} {el : TypeId} {hs : List Hd} (h : Alive S el hs) {b : Nat} (hb : b ∈ blks hs) : b < S.length := by
  obtain ⟨k, d, h1, h2⟩ := blks_at hb
  obtain ⟨_, l, h3⟩ := h k d h1
  exact h3.lt h2
theorem apart_BK {M0 S : Mem} {rb : Nat} {ws bs : List Hd} (hK : BK M0 S rb ws bs) (hn : ws.length < 1000000 ∧ bs.length < 1000000) (hAws : Alive M0 40 ws) (hAbs : Alive M0 5 bs) (hOws : Own ws) (hObs : Own bs) (hdd : ∀ b ∈ blks ws, b ∉ blks bs) :
    C Tryd.prog G Ext 21 [.pointer (some ⟨rb, 0, none⟩)] S fun v S' => v = .bool true ∧ KeepL (blks ws ++ blks bs) M0 S' := by
  obtain ⟨hc, ps, hB, hp⟩ := hK
  obtain ⟨v, S', h1, h2, h3⟩ := apart_C (G := G) (Ext := Ext) S rb ws bs ps hB hn (hAws.keep (hc.keepL []) (by simp)) (hAbs.keep (hc.keepL []) (by simp)) hOws hObs (fun b hb hm => by have := hAws.lt hb; have := hp b hm; omega) (fun b hb hm => by have := hAbs.lt hb; have := hp b hm; omega) hdd
  exact ⟨v, S', h1, h2, (hc.keepL _).trans h3⟩
end Go.Proofs.YtkiecgkgbogbaaaDoor

/- Layer 6: hex. Conditions: none. -/
set_option linter.unusedSimpArgs false
set_option linter.unusedVariables false
set_option maxRecDepth 100000
namespace Go.Proofs.YtkiecgkgbogbaaaDoor
open Go
variable {G : Nat} {Ext : FuncId → List Value → Mem → Outc → Mem → Prop}

/-- hex's digits -/
def hexT : List Nat := [48, 49, 50, 51, 52, 53, 54, 55, 56, 57, 97, 98, 99, 100, 101, 102]
def hexD (n : Nat) : BitVec 8 := BitVec.ofNat 8 (hexT.getD n 0)
def hexA : ByteArray := ⟨#[48, 49, 50, 51, 52, 53, 54, 55, 56, 57, 97, 98, 99, 100, 101, 102]⟩
theorem hexA_get {n : Nat} (h : n < 16) : hexA[n]? = some (UInt8.ofNat (hexD n).toNat) := by
  have : ∀ n : Fin 16, hexA[n.val]? = some (UInt8.ofNat (hexD n.val).toNat) := by decide +kernel
  exact this ⟨n, h⟩
theorem hexD_lt (n : Nat) : (UInt8.ofNat (hexD n).toNat).toNat = (hexD n).toNat := by
  rw [UInt8.toNat_ofNat']; exact Nat.mod_eq_of_lt (hexD n).isLt
/-- bytes in hex -/
def hexS (l : BL) : BL := l.flatMap fun x => [hexD (x.toNat / 16), hexD (x.toNat % 16)]
theorem hexS_len (l : BL) : (hexS l).length = 2 * l.length := by
  induction l with
  | nil => rfl
  | cons x l ih => unfold hexS at *; rw [List.flatMap_cons, List.length_append, ih]; simp; omega
theorem hexS_snoc (l : BL) (x : BitVec 8) : hexS (l ++ [x]) = hexS l ++ [hexD (x.toNat / 16)] ++ [hexD (x.toNat % 16)] := by unfold hexS; simp
theorem and15 (x : BitVec 8) : IntKind.u8.wrap ((BitVec.ofInt IntKind.u8.bits (x.toNat : Int) &&& BitVec.ofInt IntKind.u8.bits 15).toNat : Int) = ((x.toNat % 16 : Nat) : Int) := by
  have h : ∀ n : Fin 256, IntKind.u8.wrap ((BitVec.ofInt IntKind.u8.bits (n.val : Int) &&& BitVec.ofInt IntKind.u8.bits 15).toNat : Int) = ((n.val % 16 : Nat) : Int) := by decide +kernel
  exact h ⟨x.toNat, x.isLt⟩
theorem hex_C (a : Option Addr) (c : Nat) (l : BL) (S : Mem) (hs : Slv S 1 (.slice a l.length c) l.length (bv l)) (hl : l.length < 100000) :
    C Tryd.prog G Ext 9 [.slice a l.length c] S fun v S' => v = .string (strB (hexS l)) ∧ Cons S S' := by
  refine C.fn Tryd.func9 rfl (by kernel_rfl) rfl ?_
  repeat (first | refine W.seq ?_ | refine W.block ?_ | refine W.reg ?_ | refine W.skip ?_ | refine W.exit ?_ | refine W.ret ?_ | refine L.nil ?_ | refine L.p rfl rfl ?_ | refine L.skip rfl ?_)
  refine L.eff (v := .pointer (some ⟨S.length, 0, none⟩)) (S1 := S ++ [bldR (.pointer none) (.slice none 0 0)]) rfl rfl ?_
  have hB := BldS.new S
  generalize S ++ [bldR (.pointer none) (.slice none 0 0)] = T at *
  repeat (first | refine W.seq ?_ | refine W.block ?_ | refine W.reg ?_ | refine W.skip ?_ | refine W.exit ?_ | refine W.ret ?_ | refine L.nil ?_ | refine L.p rfl rfl ?_ | refine L.skip rfl ?_)
  obtain ⟨rb, hrb⟩ : ∃ r, r = S.length := ⟨_, rfl⟩
  rw [← hrb] at hB ⊢
  refine W.loop (fun j e T' => ∃ i, j = l.length - i ∧ i ≤ l.length ∧ BldS S T' rb (hexS (l.take i)) ∧ e 3 = .pointer (some ⟨rb, 0, none⟩) ∧ e 6 = .slice a l.length c ∧ e 7 = vi l.length ∧ e 8 = vi i) l.length
    ⟨0, by omega, by omega, hB, rfl, rfl, rfl, rfl⟩ ?_
  clear hB
  rintro j e T ⟨i, rfl, hi, hB, e3, e6, e7, e8⟩
  refine W.env4 e3 e6 e7 e8 ?_
  have hlen : (hexS (l.take i)).length ≤ 200000 := by rw [hexS_len, List.length_take]; omega
  repeat (first | refine W.seq ?_ | refine W.block ?_ | refine W.reg ?_ | refine W.skip ?_ | refine W.exit ?_ | refine W.ret ?_ | refine L.nil ?_ | refine L.p rfl rfl ?_ | refine L.skip rfl ?_)
  refine W.ite rfl (fun h => ?_) (fun h => ?_)
  · have hin : i < l.length := by have := of_decide_eq_true h; omega
    clear h
    obtain ⟨x, hx⟩ : ∃ x, l[i]? = some x := ⟨_, List.getElem?_eq_getElem hin⟩
    have hxl := x.isLt
    repeat (first | refine W.seq ?_ | refine W.block ?_ | refine W.reg ?_ | refine W.skip ?_ | refine W.exit ?_ | refine W.ret ?_ | refine L.nil ?_ | refine L.p rfl rfl ?_ | refine L.skip rfl ?_)
    refine L.el (hs.cons hB.1) (k := i) rfl (bv_get hx) rfl rfl rfl rfl (fun _ => rfl) rfl (fun p => ?_)
    repeat (first | refine W.seq ?_ | refine W.block ?_ | refine W.reg ?_ | refine W.skip ?_ | refine W.exit ?_ | refine W.ret ?_ | refine L.nil ?_ | refine L.p rfl rfl ?_ | refine L.skip rfl ?_)
    refine L.sx (k := .u8) (i := x.toNat / 16) rfl ?_ (hexA_get (by omega)) rfl rfl ?_
    · exact congrArg (Value.int .u8) (show (x.toNat : Int).fdiv 16 = _ from (Int.ofNat_fdiv x.toNat 16).symm)
    rw [hexD_lt]
    refine L.cl (writeByte_C rb (hexD (x.toNat / 16)) _ T hB (by omega)) rfl rfl ?_
    rintro _ T1 hB1
    refine ⟨nofun, ?_⟩
    repeat (first | refine W.seq ?_ | refine W.block ?_ | refine W.reg ?_ | refine W.skip ?_ | refine W.exit ?_ | refine W.ret ?_ | refine L.nil ?_ | refine L.p rfl rfl ?_ | refine L.skip rfl ?_)
    refine L.sx (k := .u8) (i := x.toNat % 16) rfl ?_ (hexA_get (by omega)) rfl rfl ?_
    · exact congrArg (Value.int .u8) (and15 x)
    rw [hexD_lt]
    refine L.cl (writeByte_C rb (hexD (x.toNat % 16)) _ T1 hB1 (by rw [List.length_append]; simp; omega)) rfl rfl ?_
    rintro _ T2 hB2
    refine ⟨nofun, ?_⟩
    repeat (first | refine W.seq ?_ | refine W.block ?_ | refine W.reg ?_ | refine W.skip ?_ | refine W.exit ?_ | refine W.ret ?_ | refine L.nil ?_ | refine L.p rfl rfl ?_ | refine L.skip rfl ?_)
    refine ⟨l.length - (i + 1), by omega, i + 1, rfl, by omega, ?_, rfl, rfl, rfl, ?_⟩
    · rw [List.take_add_one, hx]
      show BldS S T2 rb (hexS (l.take i ++ [x]))
      rw [hexS_snoc]; exact hB2
    · refine (force_eq rfl).trans ?_
      rw [wrap64 (by omega) (by omega)]; rfl
  · have hin : i = l.length := by have := of_decide_eq_false h; omega
    subst hin
    rw [List.take_length] at hB
    repeat (first | refine W.seq ?_ | refine W.block ?_ | refine W.reg ?_ | refine W.skip ?_ | refine W.exit ?_ | refine W.ret ?_ | refine L.nil ?_ | refine L.p rfl rfl ?_ | refine L.skip rfl ?_)
    refine L.cl (string_C rb (hexS l) T hB (by rw [hexS_len]; omega)) rfl rfl ?_
    rintro _ T1 ⟨rfl, hc⟩
    refine ⟨nofun, ?_⟩
    repeat (first | refine W.seq ?_ | refine W.block ?_ | refine W.reg ?_ | refine W.skip ?_ | refine W.exit ?_ | refine W.ret ?_ | refine L.nil ?_ | refine L.p rfl rfl ?_ | refine L.skip rfl ?_)
    exact ⟨.inr rfl, _, rfl, rfl, hc⟩
end Go.Proofs.YtkiecgkgbogbaaaDoor

/- Bytes handed out, and what is put behind them. Conditions: none. -/
set_option linter.unusedSimpArgs false
set_option linter.unusedVariables false
namespace Go.Proofs.YtkiecgkgbogbaaaDoor
open Go
/-- bytes made after S, in memory of their own -/
def OutB (S S' : Mem) (d : Hd) (l : BL) : Prop := Cons S S' ∧ l.length < 1099511627776 ∧ HdOk S' 5 d (bv l) ∧ ∀ b, d.a = some b → S.length ≤ b
def HdN : Hd := ⟨none, 0, 0⟩
theorem OutB.nil {S S' : Mem} (k : Cons S S') : OutB S S' HdN [] := ⟨k, by decide, HdOk.nil _ _, nofun⟩
theorem OutB.post {S S1 S' : Mem} {d : Hd} {l : BL} (h : OutB S S1 d l) (k : Cons S1 S') : OutB S S' d l := ⟨h.1.trans k, h.2.1, h.2.2.1.cons k, h.2.2.2⟩
theorem OutB.pre {S S1 S' : Mem} {d : Hd} {l : BL} (k : Cons S S1) (h : OutB S1 S' d l) : OutB S S' d l := ⟨k.trans h.1, h.2.1, h.2.2.1, fun b e => Nat.le_trans k.len (h.2.2.2 b e)⟩
section
variable {P : Program} {G : Nat} {Ext : FuncId → List Value → Mem → Outc → Mem → Prop} {e : Env} {S S0 : Mem} {fl : Bool} {ops : Array Oper} {K : Kont}
variable {rest : List Oper} {dst dst2 : Option Tmp} {ty ty2 : TypeId} {pos pos2 : String} {af af2 : Array Edge} {gd gd2 : Option (Nat × Bool)} {d : Tmp}
theorem L.appO {ts xs : TypeId} {s x : Operand} {bytes : Nat} {h : Hd} {xv : Value} {l m : BL} {n : Nat} (hok : appOk P ts xs = some (5, 1, bytes)) (hg : OutB S0 S h l) (hs : e.eval s = h.v) (hxv : e.eval x = xv)
    (hx : Slv S 1 xv n (bv m)) (hroom : l.length + m.length < 1000000) (hby : (Nat.ble 1 bytes && Nat.ble bytes 64) = true) (hw : awanted ops ⟨dst, .call ⟨.builtin .append, #[s, x], #[ts, xs]⟩, ty, pos, af, gd⟩ e = true)
    (k : ∀ h' S', OutB S0 S' h' (l ++ m) → L P G Ext fl ops rest (e.put dst (Hd.v h')) S' K) :
    L P G Ext fl ops (⟨dst, .call ⟨.builtin .append, #[s, x], #[ts, xs]⟩, ty, pos, af, gd⟩ :: rest) e S K := by
  have hn : n = m.length := by have := hx.1; rw [bv_len] at this; omega
  subst hn
  have hl := hg.2.2.1.len
  rw [bv_len] at hl
  refine L.appH hok hg.2.2.1 hs hxv hx (bv_one m) (by omega) hby hw fun h' S' q1 q2 q3 q4 => k h' S' ?_
  refine ⟨q4.cons0 hg.1 (fun b hb => hg.2.2.2 b (by simpa using hb)), by rw [List.length_append]; omega, by rw [bv_app]; exact q1, fun b hb => ?_⟩
  rcases q3 with ⟨q3, _⟩ | ⟨b', q3, q5⟩
  · exact hg.2.2.2 b (by rw [← q3]; exact hb)
  · rw [q3] at hb; cases hb; exact Nat.le_trans hg.1.len q5
theorem L.pushO {t ts xs : TypeId} {s y : Operand} {bytes : Nat} {h : Hd} {l : BL} (x : BitVec 8) (hok : appOk P ts xs = some (5, 1, bytes)) (hg : OutB S0 S h l)
    (hb : bldOk P t = some (5, 1)) (hy : e.eval y = v8 x)
    (w1 : awanted ops ⟨some d, .buildSlice t 1 #[(0, y)], ty, pos, af, gd⟩ e = true)
    (hs : (e.put (some d) (.slice (some ⟨S.length, 0, none⟩) 1 1)).eval s = h.v) (hroom : l.length < 1000000) (hby : (Nat.ble 1 bytes && Nat.ble bytes 64) = true)
    (w2 : ∀ p, awanted ops ⟨dst2, .call ⟨.builtin .append, #[s, .tmp d], #[ts, xs]⟩, ty2, pos2, af2, gd2⟩ (e.put (some d) p) = true)
    (k : ∀ p h' S', OutB S0 S' h' (l ++ [x]) → L P G Ext fl ops rest ((e.put (some d) p).put dst2 (Hd.v h')) S' K) :
    L P G Ext fl ops (⟨some d, .buildSlice t 1 #[(0, y)], ty, pos, af, gd⟩ :: ⟨dst2, .call ⟨.builtin .append, #[s, .tmp d], #[ts, xs]⟩, ty2, pos2, af2, gd2⟩ :: rest) e S K := by
  have hl := hg.2.2.1.len
  rw [bv_len] at hl
  refine L.pushH (w := v8 x) hok hg.2.2.1 hb hy rfl w1 hs (by omega) hby w2 fun p h' S' q1 q2 q3 q4 => k p h' S' ?_
  refine ⟨q4.cons0 hg.1 (fun b hb => hg.2.2.2 b (by simpa using hb)), by rw [List.length_append]; simp; omega, by rw [bv_app]; exact q1, fun b hb => ?_⟩
  obtain ⟨b', q3, q5⟩ := q3
  rw [q3] at hb; cases hb; exact Nat.le_trans hg.1.len q5
theorem L.litO {t ts xs : TypeId} {s : Operand} {bytes len : Nat} {parts : Array (Nat × Operand)} {h : Hd} {l : BL} (bs : BL) (hok : appOk P ts xs = some (5, 1, bytes)) (hg : OutB S0 S h l)
    (hb : bldOk P t = some (5, 1)) (hl : len = bs.length) (hsm : Nat.ble len 16777216 = true) (hp : parts.toList.map (fun p => (p.1, e.eval p.2)) = ((bv bs).zipIdx 0).map fun p => (p.2, p.1))
    (w1 : awanted ops ⟨some d, .buildSlice t len parts, ty, pos, af, gd⟩ e = true)
    (hs : (e.put (some d) (.slice (some ⟨S.length, 0, none⟩) len len)).eval s = h.v) (hroom : l.length + len < 1000000) (hby : (Nat.ble 1 bytes && Nat.ble bytes 64) = true)
    (w2 : ∀ p, awanted ops ⟨dst2, .call ⟨.builtin .append, #[s, .tmp d], #[ts, xs]⟩, ty2, pos2, af2, gd2⟩ (e.put (some d) p) = true)
    (k : ∀ p h' S', OutB S0 S' h' (l ++ bs) → L P G Ext fl ops rest ((e.put (some d) p).put dst2 (Hd.v h')) S' K) :
    L P G Ext fl ops (⟨some d, .buildSlice t len parts, ty, pos, af, gd⟩ :: ⟨dst2, .call ⟨.builtin .append, #[s, .tmp d], #[ts, xs]⟩, ty2, pos2, af2, gd2⟩ :: rest) e S K := by
  subst hl
  refine L.bs (bv bs) hb (bv_len bs).symm hsm hp (bv_one bs) w1 ?_
  have hx : Slv (S ++ [newR (bv bs) 5]) 1 (.slice (some ⟨S.length, 0, none⟩) bs.length bs.length) bs.length (bv bs) := Slv.all (row_push_new rfl) rfl (by show (bv bs).length = _; rw [bv_len, Nat.mul_one])
  refine L.appO hok (hg.post (Cons.push S (newR (bv bs) 5))) hs ?_ hx (by omega) hby (w2 _) (fun h' S' q => k _ h' S' q)
  simp [Env.eval, Env.put]
end
end Go.Proofs.YtkiecgkgbogbaaaDoor

/- Texts as lists of bytes. Conditions: none. -/
set_option linter.unusedSimpArgs false
set_option linter.unusedVariables false
set_option maxRecDepth 100000
namespace Go.Proofs.YtkiecgkgbogbaaaDoor
open Go
theorem bytesOf_bv (l : BL) : bytesOf (bv l) = some (l.map fun x => UInt8.ofNat x.toNat) := by
  induction l with
  | nil => rfl
  | cons x l ih =>
    show (bytesOf (bv l)).map _ = _
    rw [ih]
    simp
theorem byte_back (x : BitVec 8) : (UInt8.ofNat x.toNat).toNat = x.toNat := by rw [UInt8.toNat_ofNat']; exact Nat.mod_eq_of_lt x.isLt
theorem strB_size (l : BL) : (strB l).size = l.length := by
  show ((l.map _).toArray).size = _
  simp
theorem strB_get {l : BL} {i : Nat} {x : BitVec 8} (h : l[i]? = some x) : (strB l)[i]? = some (UInt8.ofNat x.toNat) := by
  have hlt := (List.getElem?_eq_some_iff.1 h).1
  have : i < (strB l).size := by rw [strB_size]; exact hlt
  have h2 := (List.getElem?_eq_some_iff.1 h).2
  rw [getElem?_pos (strB l) i this]
  congr 1
  show ((l.map fun x => UInt8.ofNat x.toNat).toArray)[i]'(by simpa using hlt) = _
  simp [h2]
theorem strB_inj {a b : BL} (h : strB a = strB b) : a = b := by
  have h1 : (a.map fun x => UInt8.ofNat x.toNat) = b.map fun x => UInt8.ofNat x.toNat := by
    have := congrArg (fun s : ByteArray => s.data.toList) h
    simpa [strB] using this
  refine (List.map_inj_right (fun x y h => ?_)).1 h1
  have := congrArg UInt8.toNat h
  rw [byte_back, byte_back] at this
  exact BitVec.eq_of_toNat_eq this
theorem strB_of (s : ByteArray) : ∃ l : BL, s = strB l := by
  refine ⟨s.data.toList.map fun b => BitVec.ofNat 8 b.toNat, ?_⟩
  unfold strB
  rw [List.map_map]
  have : ((fun x : BitVec 8 => UInt8.ofNat x.toNat) ∘ fun b : UInt8 => BitVec.ofNat 8 b.toNat) = id := by
    funext b
    show UInt8.ofNat (BitVec.ofNat 8 b.toNat).toNat = b
    rw [BitVec.toNat_ofNat, Nat.mod_eq_of_lt b.toNat_lt]
    exact UInt8.ofNat_toNat
  rw [this, List.map_id]
theorem strB_app (a b : BL) : strB a ++ strB b = strB (a ++ b) := by
  apply ByteArray.ext
  rw [ByteArray.data_append]
  simp [strB]
theorem strB_beq (a b : BL) : (strB a == strB b) = decide (a = b) := by
  show ((strB a).data == (strB b).data) = _
  by_cases h : a = b
  · subst h; simp
  · rw [decide_eq_false h]
    exact beq_eq_false_iff_ne.2 fun he => h (strB_inj (ByteArray.ext he))
section
variable {P : Program} {G : Nat} {Ext : FuncId → List Value → Mem → Outc → Mem → Prop} {e : Env} {S : Mem} {fl : Bool} {ops : Array Oper} {K : Kont}
variable {rest : List Oper} {dst : Option Tmp} {ty : TypeId} {pos : String} {af : Array Edge} {gd : Option (Nat × Bool)}
/-- bytes made a text -/
theorem L.text {s d : TypeId} {x : Operand} {h : Hd} {l : BL} {el el2 : TypeId} (hx : e.eval x = h.v) (hh : HdOk S el2 h (bv l)) (hs : P.underlying s = some (.slice el)) (hd : P.underlying d = some .string) (hel : isBytes P el = true)
    (hw : awanted ops ⟨dst, .convert s d x, ty, pos, af, gd⟩ e = true)
    (k : L P G Ext fl ops rest (e.put dst (.string (strB l))) S K) : L P G Ext fl ops (⟨dst, .convert s d x, ty, pos, af, gd⟩ :: rest) e S K := by
  obtain ⟨h1, ⟨h2, h3, h4⟩ | ⟨b, r, h2, h3, h4, h5, h6, h7⟩⟩ := hh
  · rw [bv_len] at h1
    have hn : l = [] := List.length_eq_zero_iff.1 (by omega)
    subst hn
    have hv : h.v = .slice none 0 0 := by unfold Hd.v; rw [h2, h3, h4]; rfl
    rw [hv] at hx
    refine L.psim (v := .string (strB [])) hw (fun ρ ev' hv => ?_) k
    have m := hv x (by simp [Op.operands])
    rw [hx] at m
    have m : ev' x = .slice none 0 0 := m.scalar_eq rfl
    refine ⟨_, .string _, fun w => ?_⟩
    have hby' : ∀ w, (underlying el).run P w = .ok (.int .u8) w := fun w => by
      unfold isBytes at hel
      split at hel
      · rename_i hq; exact run_underlying' hq w
      · cases hel
    have hcv : (convert s d (.slice none 0 0)).run P w = (Conv.bytesToString (.slice none 0 0)).run P w := by
      unfold convert
      simp only [Sem.run_bind, run_underlying' hs, run_underlying' hd, Result.andThen_ok, hby']
    simp only [execOp, m, Sem.run_bind, hcv]
    rfl
  · have hn : h.n = l.length := by rw [bv_len] at h1; omega
    have hv : h.v = .slice (some ⟨b, 0, none⟩) l.length h.c := by unfold Hd.v; rw [h2, hn]; rfl
    have hc : S.cellsAt ⟨b, 0, none⟩ l.length = some (bv l) := by
      unfold Mem.cellsAt
      simp only [h3]
      rw [if_pos ⟨trivial, by omega, .inl h4⟩]
      rw [List.drop_zero, ← hn, h6]
    refine L.load hw ?_ k
    unfold aload
    dsimp only
    rw [hx, hv, hs, hd]
    simp only [hel, if_true, hc, Option.bind_some, bytesOf_bv, Option.map_some]
    rfl
/-- a text's byte -/
theorem L.sB {t : TypeId} {x ix : Operand} {l : BL} {k : IntKind} {i : Nat} {b : BitVec 8} (hx : e.eval x = .string (strB l)) (hi : e.eval ix = .int k (i : Int)) (hb : l[i]? = some b) (hu : P.underlying t = some .string)
    (hw : awanted ops ⟨dst, .index t x ix, ty, pos, af, gd⟩ e = true) (h : L P G Ext fl ops rest (e.put dst (v8 b)) S K) : L P G Ext fl ops (⟨dst, .index t x ix, ty, pos, af, gd⟩ :: rest) e S K := by
  refine L.sx hx hi (strB_get hb) hu hw ?_
  rw [byte_back]; exact h
end
end Go.Proofs.YtkiecgkgbogbaaaDoor

/- The reference of layer 6: hex. Conditions: none. -/
set_option linter.unusedSimpArgs false
set_option linter.unusedVariables false
set_option maxRecDepth 100000
namespace Go.Proofs.YtkiecgkgbogbaaaDoor
open Go
variable {G : Nat} {Ext : FuncId → List Value → Mem → Outc → Mem → Prop}

theorem div16 (x : BitVec 8) : IntKind.u8.wrap ((x.toNat : Int).tdiv 16) = ((x.toNat / 16 : Nat) : Int) := by
  have h : ∀ n : Fin 256, IntKind.u8.wrap ((n.val : Int).tdiv 16) = ((n.val / 16 : Nat) : Int) := by decide +kernel
  exact h ⟨x.toNat, x.isLt⟩
theorem mod16 (x : BitVec 8) : (x.toNat : Int).tmod 16 = ((x.toNat % 16 : Nat) : Int) := (Int.ofNat_tmod x.toNat 16).symm
theorem refHex_C (a : Option Addr) (c : Nat) (l : BL) (S : Mem) (hs : Slv S 1 (.slice a l.length c) l.length (bv l)) (hl : l.length < 100000) :
    C Tryd.prog G Ext 10 [.slice a l.length c] S fun v S' => v = .string (strB (hexS l)) ∧ Cons S S' := by
  refine C.fn Tryd.func10 rfl (by kernel_rfl) rfl ?_
  repeat (first | refine W.seq ?_ | refine W.block ?_ | refine W.reg ?_ | refine W.skip ?_ | refine W.exit ?_ | refine W.ret ?_ | refine L.nil ?_ | refine L.p rfl rfl ?_ | refine L.skip rfl ?_)
  refine W.loop (fun j e T' => ∃ i, ∃ d : Hd, j = l.length - i ∧ i ≤ l.length ∧ OutB S T' d (hexS (l.take i)) ∧ e 0 = .slice a l.length c ∧ e 3 = d.v ∧ e 4 = vi i) l.length
    ⟨0, HdN, by omega, by omega, OutB.nil (Cons.refl _), rfl, rfl, rfl⟩ ?_
  rintro j e T ⟨i, d, rfl, hi, hB, e0, e3, e4⟩
  refine W.env3 e0 e3 e4 ?_
  have hlen : (hexS (l.take i)).length ≤ 200000 := by rw [hexS_len, List.length_take]; omega
  repeat (first | refine W.seq ?_ | refine W.block ?_ | refine W.reg ?_ | refine W.skip ?_ | refine W.exit ?_ | refine W.ret ?_ | refine L.nil ?_ | refine L.p rfl rfl ?_ | refine L.skip rfl ?_)
  refine W.ite rfl (fun h => ?_) (fun h => ?_)
  · have hin : i < l.length := by have := of_decide_eq_true h; omega
    clear h
    obtain ⟨x, hx⟩ : ∃ x, l[i]? = some x := ⟨_, List.getElem?_eq_getElem hin⟩
    have hxl := x.isLt
    repeat (first | refine W.seq ?_ | refine W.block ?_ | refine W.reg ?_ | refine W.skip ?_ | refine W.exit ?_ | refine W.ret ?_ | refine L.nil ?_ | refine L.p rfl rfl ?_ | refine L.skip rfl ?_)
    refine L.el (hs.cons hB.1) (k := i) rfl (bv_get hx) rfl rfl rfl rfl (fun _ => rfl) rfl (fun p => ?_)
    repeat (first | refine W.seq ?_ | refine W.block ?_ | refine W.reg ?_ | refine W.skip ?_ | refine W.exit ?_ | refine W.ret ?_ | refine L.nil ?_ | refine L.p rfl rfl ?_ | refine L.skip rfl ?_)
    refine L.sx (k := .u8) (i := x.toNat / 16) rfl ?_ (hexA_get (by omega)) rfl rfl ?_
    · exact congrArg (Value.int .u8) (div16 x)
    rw [hexD_lt]
    repeat (first | refine W.seq ?_ | refine W.block ?_ | refine W.reg ?_ | refine W.skip ?_ | refine W.exit ?_ | refine W.ret ?_ | refine L.nil ?_ | refine L.p rfl rfl ?_ | refine L.skip rfl ?_)
    refine L.el (hs.cons hB.1) (k := i) rfl (bv_get hx) rfl rfl rfl rfl (fun _ => rfl) rfl (fun p => ?_)
    repeat (first | refine W.seq ?_ | refine W.block ?_ | refine W.reg ?_ | refine W.skip ?_ | refine W.exit ?_ | refine W.ret ?_ | refine L.nil ?_ | refine L.p rfl rfl ?_ | refine L.skip rfl ?_)
    refine L.sx (k := .u8) (i := x.toNat % 16) rfl ?_ (hexA_get (by omega)) rfl rfl ?_
    · exact congrArg (Value.int .u8) (mod16 x)
    rw [hexD_lt]
    refine L.litO [hexD (x.toNat / 16), hexD (x.toNat % 16)] rfl hB rfl rfl rfl rfl rfl rfl (by omega) rfl (fun _ => rfl) (fun p h2 T2 q => ?_)
    repeat (first | refine W.seq ?_ | refine W.block ?_ | refine W.reg ?_ | refine W.skip ?_ | refine W.exit ?_ | refine W.ret ?_ | refine L.nil ?_ | refine L.p rfl rfl ?_ | refine L.skip rfl ?_)
    refine ⟨l.length - (i + 1), by omega, i + 1, h2, rfl, by omega, ?_, rfl, rfl, ?_⟩
    · rw [List.take_add_one, hx]
      show OutB S T2 h2 (hexS (l.take i ++ [x]))
      rw [hexS_snoc, List.append_assoc]; exact q
    · refine (force_eq rfl).trans ?_
      rw [wrap64 (by omega) (by omega)]; rfl
  · have hin : i = l.length := by have := of_decide_eq_false h; omega
    subst hin
    rw [List.take_length] at hB
    repeat (first | refine W.seq ?_ | refine W.block ?_ | refine W.reg ?_ | refine W.skip ?_ | refine W.exit ?_ | refine W.ret ?_ | refine L.nil ?_ | refine L.p rfl rfl ?_ | refine L.skip rfl ?_)
    refine L.text (h := d) rfl hB.2.2.1 rfl rfl rfl rfl ?_
    repeat (first | refine W.seq ?_ | refine W.block ?_ | refine W.reg ?_ | refine W.skip ?_ | refine W.exit ?_ | refine W.ret ?_ | refine L.nil ?_ | refine L.p rfl rfl ?_ | refine L.skip rfl ?_)
    exact ⟨.inr rfl, _, rfl, rfl, hB.1⟩
end Go.Proofs.YtkiecgkgbogbaaaDoor

/- Texts: parts, comparing, joining; code inside a scope. Conditions: none. -/
set_option linter.unusedSimpArgs false
set_option linter.unusedVariables false
set_option maxRecDepth 100000
namespace Go.Proofs.YtkiecgkgbogbaaaDoor
open Go
theorem strB_toList (l : BL) : (strB l).toList = l.map fun x => UInt8.ofNat x.toNat := by
  rw [ByteArray.toList_eq]; rfl
theorem strB_same (a b : BL) : ((strB a).toList == (strB b).toList) = decide (a = b) := by
  rw [strB_toList, strB_toList]
  by_cases h : a = b
  · subst h; simp
  · rw [decide_eq_false h]
    exact beq_eq_false_iff_ne.2 fun he => h (strB_inj (by unfold strB; rw [he]))
theorem strB_part (l : BL) (i j : Nat) : (strB l).extract i j = strB ((l.take j).drop i) := by
  apply ByteArray.ext
  rw [ByteArray.data_extract]
  show (l.map fun x => UInt8.ofNat x.toNat).toArray.extract i j = (((l.take j).drop i).map fun x => UInt8.ofNat x.toNat).toArray
  rw [List.extract_toArray, List.extract_eq_take_drop]
  congr 1
  rw [List.map_drop, List.map_take, List.drop_take]
section
variable {P : Program} {G : Nat} {Ext : FuncId → List Value → Mem → Outc → Mem → Prop} {e : Env} {S : Mem} {fl : Bool} {ops : Array Oper} {K : Kont}
variable {rest : List Oper} {dst : Option Tmp} {ty : TypeId} {pos : String} {af : Array Edge} {gd : Option (Nat × Bool)}
theorem W.scope {c : Code} {Q : Xit → Env → Mem → Prop} (h : W P G Ext c e S fun x e' S' => (∀ l, x ≠ .goto l) ∧ Q x e' S') : W P G Ext (.scope c) e S Q := by
  obtain ⟨x, e', S', h1, h2, h3⟩ := h
  exact ⟨x, e', S', .scope (.inScope h1 fun l hl => absurd hl (h2 l)), h3⟩
theorem L.flat {op : Op} {v : Value} (hf : op.operands.toList.all (fun x => flat (e.eval x)) = true) (hv : flat v = true) (hs : ∀ cs b, op ≠ .select cs b) (hp : pureRun P (execOp e.eval ⟨dst, op, ty, pos, af, gd⟩) = some (.value v)) (hw : awanted ops ⟨dst, op, ty, pos, af, gd⟩ e = true)
    (k : L P G Ext fl ops rest (e.put dst v) S K) : L P G Ext fl ops (⟨dst, op, ty, pos, af, gd⟩ :: rest) e S K := by
  refine L.psim hw (fun ρ ev' h => ?_) k
  refine aflat_sound hs ?_ h
  unfold aflat
  dsimp only
  rw [if_pos hf, hp]
  dsimp only
  rw [if_pos hv]
/-- a text's part: from i on -/
theorem L.from {t : TypeId} {x lo : Operand} {l : BL} {k : IntKind} {i : Nat} (hx : e.eval x = .string (strB l)) (hi : e.eval lo = .int k (i : Int)) (hb : i ≤ l.length) (hu : P.underlying t = some .string)
    (hw : awanted ops ⟨dst, .slice t x (some lo) none none, ty, pos, af, gd⟩ e = true) (h : L P G Ext fl ops rest (e.put dst (.string (strB (l.drop i)))) S K) : L P G Ext fl ops (⟨dst, .slice t x (some lo) none none, ty, pos, af, gd⟩ :: rest) e S K := by
  refine L.flat (by simp [Op.operands, hx, hi]; exact ⟨rfl, rfl⟩) rfl nofun ?_ hw h
  have h0 : (0 : Int) ≤ (i : Int) ∧ (i : Int) ≤ (l.length : Nat) := by omega
  have hb : pureRun P (Instr.sliceAt t (.string (strB l)) (some (.int k (i : Int))) none none) = some (.string (strB (l.drop i))) := by
    unfold Instr.sliceAt
    rw [pureRun_bind, pureRun_underlying hu]
    show pureRun P (Instr.slice t (.string (strB l)) (some (.int k (i : Int))) none none) = _
    unfold Instr.slice
    rw [pureRun_bind, pureRun_underlying hu]
    show pureRun P (Instr.sliceBounds false (strB l).size (strB l).size (some (.int k (i : Int))) none none >>= fun (l', h, _) => Pure.pure (Value.string ((strB l).extract l' h))) = _
    rw [pureRun_bind]
    have hs : pureRun P (Instr.sliceBounds false (strB l).size (strB l).size (some (.int k (i : Int))) none none) = some (i, (strB l).size, (strB l).size) := by
      unfold Instr.sliceBounds
      simp [pureRun_bind, Instr.sliceBound, asIntOf, h0, strB_size]
      rw [if_pos hb]; rfl
    rw [hs]
    show some (Value.string ((strB l).extract _ _)) = _
    rw [strB_part]
    simp [strB_size]
  simp only [execOp, hx, hi, Option.map_some, Option.map_none, pureRun_bind, hb]
  rfl
theorem L.upto {t : TypeId} {x hi : Operand} {l : BL} {k : IntKind} {i : Nat} (hx : e.eval x = .string (strB l)) (hi' : e.eval hi = .int k (i : Int)) (hb : i ≤ l.length) (hu : P.underlying t = some .string)
    (hw : awanted ops ⟨dst, .slice t x none (some hi) none, ty, pos, af, gd⟩ e = true) (h : L P G Ext fl ops rest (e.put dst (.string (strB (l.take i)))) S K) : L P G Ext fl ops (⟨dst, .slice t x none (some hi) none, ty, pos, af, gd⟩ :: rest) e S K := by
  refine L.flat (by simp [Op.operands, hx, hi']; exact ⟨rfl, rfl⟩) rfl nofun ?_ hw h
  have h0 : (0 : Int) ≤ (i : Int) ∧ (i : Int) ≤ (l.length : Nat) := by omega
  have hb : pureRun P (Instr.sliceAt t (.string (strB l)) none (some (.int k (i : Int))) none) = some (.string (strB (l.take i))) := by
    unfold Instr.sliceAt
    rw [pureRun_bind, pureRun_underlying hu]
    show pureRun P (Instr.slice t (.string (strB l)) none (some (.int k (i : Int))) none) = _
    unfold Instr.slice
    rw [pureRun_bind, pureRun_underlying hu]
    show pureRun P (Instr.sliceBounds false (strB l).size (strB l).size none (some (.int k (i : Int))) none >>= fun (l', h, _) => Pure.pure (Value.string ((strB l).extract l' h))) = _
    rw [pureRun_bind]
    have hs : pureRun P (Instr.sliceBounds false (strB l).size (strB l).size none (some (.int k (i : Int))) none) = some (0, i, (strB l).size) := by
      unfold Instr.sliceBounds
      simp [pureRun_bind, Instr.sliceBound, asIntOf, h0, strB_size]
      rw [if_pos hb]; rfl
    rw [hs]
    show some (Value.string ((strB l).extract _ _)) = _
    rw [strB_part]
    simp [strB_size]
  simp only [execOp, hx, hi', Option.map_some, Option.map_none, pureRun_bind, hb]
  rfl
/-- two texts compared -/
theorem L.teq {t yt : TypeId} {x y : Operand} {a b : BL} (hx : e.eval x = .string (strB a)) (hy : e.eval y = .string (strB b))
    (hw : awanted ops ⟨dst, .binOp .eql t x y yt, ty, pos, af, gd⟩ e = true) (h : L P G Ext fl ops rest (e.put dst (.bool (decide (a = b)))) S K) : L P G Ext fl ops (⟨dst, .binOp .eql t x y yt, ty, pos, af, gd⟩ :: rest) e S K := by
  refine L.flat (by simp [Op.operands, hx, hy]; exact ⟨rfl, rfl⟩) rfl nofun ?_ hw h
  have hb : binOp .eql t (.string (strB a)) (.string (strB b)) = Pure.pure (.bool (decide (a = b))) := by
    show Op.stringOp .eql _ _ = _
    unfold Op.stringOp
    simp only [strB_same]
  simp only [execOp, hx, hy, pureRun_bind, hb]
  rfl
theorem L.tne {t yt : TypeId} {x y : Operand} {a b : BL} (hx : e.eval x = .string (strB a)) (hy : e.eval y = .string (strB b))
    (hw : awanted ops ⟨dst, .binOp .neq t x y yt, ty, pos, af, gd⟩ e = true) (h : L P G Ext fl ops rest (e.put dst (.bool (!decide (a = b)))) S K) : L P G Ext fl ops (⟨dst, .binOp .neq t x y yt, ty, pos, af, gd⟩ :: rest) e S K := by
  refine L.flat (by simp [Op.operands, hx, hy]; exact ⟨rfl, rfl⟩) rfl nofun ?_ hw h
  have hb : binOp .neq t (.string (strB a)) (.string (strB b)) = Pure.pure (.bool (!decide (a = b))) := by
    show Op.stringOp .neq _ _ = _
    unfold Op.stringOp
    simp only [strB_same]
  simp only [execOp, hx, hy, pureRun_bind, hb]
  rfl
/-- two texts joined -/
theorem L.tadd {t yt : TypeId} {x y : Operand} {a b : BL} (hx : e.eval x = .string (strB a)) (hy : e.eval y = .string (strB b)) (hl : a.length + b.length < 1000000000)
    (hw : awanted ops ⟨dst, .binOp .add t x y yt, ty, pos, af, gd⟩ e = true) (h : L P G Ext fl ops rest (e.put dst (.string (strB (a ++ b)))) S K) : L P G Ext fl ops (⟨dst, .binOp .add t x y yt, ty, pos, af, gd⟩ :: rest) e S K := by
  refine L.flat (by simp [Op.operands, hx, hy]; exact ⟨rfl, rfl⟩) rfl nofun ?_ hw h
  have hb : binOp .add t (.string (strB a)) (.string (strB b)) = Pure.pure (.string (strB (a ++ b))) := by
    show Op.stringOp .add _ _ = _
    unfold Op.stringOp
    have : ¬ (((strB a).size + (strB b).size : Nat) : Int) > IntKind.i64.max := by rw [strB_size, strB_size]; show ¬ (_ > (9223372036854775807 : Int)); omega
    simp only [this, if_false, strB_app]
  simp only [execOp, hx, hy, pureRun_bind, hb]
  rfl
/-- a text's length -/
theorem L.tlen {t : TypeId} {x : Operand} {a : BL} {ts : Array TypeId} (hx : e.eval x = .string (strB a)) (hts : ts[0]? = some t) (hu : P.underlying t = some .string)
    (hw : awanted ops ⟨dst, .call ⟨.builtin .len, #[x], ts⟩, ty, pos, af, gd⟩ e = true) (h : L P G Ext fl ops rest (e.put dst (vi a.length)) S K) : L P G Ext fl ops (⟨dst, .call ⟨.builtin .len, #[x], ts⟩, ty, pos, af, gd⟩ :: rest) e S K := by
  refine L.flat (by simp [Op.operands, Call.operands, hx]; rfl) rfl nofun ?_ hw h
  have hb : pureRun P (Builtin.len_ ts ty #[.string (strB a)]) = some (vi a.length) := by
    unfold Builtin.len_
    simp only [hts]
    show pureRun P (underlying t >>= _) = _
    rw [pureRun_bind, pureRun_underlying hu]
    show some (goInt (strB a).size) = _
    rw [strB_size]; rfl
  have hm : ∀ s : Sem Value, pureRun P s = some (vi a.length) → pureRun P (Next.value <$> s) = some (Next.value (vi a.length)) := fun s h => by
    rw [map_eq_pure_bind, pureRun_bind, h]; rfl
  simp [execOp, resolve, hx, pureRun_bind, invoke, builtin]
  exact hm _ hb
end
end Go.Proofs.YtkiecgkgbogbaaaDoor

/- Functions that defer calls, and functions that recover, on the abstract machine. Conditions: none. -/
set_option linter.unusedSimpArgs false
set_option linter.unusedVariables false
namespace Go.Proofs.YtkiecgkgbogbaaaDoor
open Go

/-- a deferred call: the function, and all that it is handed -/
structure ADef where
  f : FuncId
  args : List Value
def DR (ρ : Nat → Option Loc) (D : ADef) (d : Deferred) : Prop := ∃ cap, d.target = .fn (.func D.f) cap ∧ LR ρ D.args (d.args.toList ++ cap.toList)
inductive DRs (ρ : Nat → Option Loc) : List ADef → List Deferred → Prop
  | nil : DRs ρ [] []
  | cons {D d Ds ds} (h : DR ρ D d) (k : DRs ρ Ds ds) : DRs ρ (D :: Ds) (d :: ds)
theorem DRs.mono {ρ ρ' : Nat → Option Loc} (hs : Sub ρ ρ') {Ds : List ADef} {ds : List Deferred} (h : DRs ρ Ds ds) : DRs ρ' Ds ds := by
  induction h with
  | nil => exact .nil
  | cons h k ih => obtain ⟨cap, h1, h2⟩ := h; exact .cons ⟨cap, h1, h2.mono hs⟩ ih

/-- code that may defer calls -/
inductive DRun (P : Program) (G : Nat) (Ext : FuncId → List Value → Mem → Outc → Mem → Prop) : Code → Env → Mem → List ADef → Xit → Env → Mem → List ADef → Prop
  | code {c e S ds x e' S'} (h : Ex P G Ext (.j (.code c e S x e' S'))) : DRun P G Ext c e S ds x e' S' ds
  | seq {a b e S ds e1 S1 ds1 x e' S' ds'} (h : DRun P G Ext a e S ds .nrm e1 S1 ds1) (k : DRun P G Ext b e1 S1 ds1 x e' S' ds') : DRun P G Ext (.seq a b) e S ds x e' S' ds'
  | seqOut {a b e S ds x e' S' ds'} (h : DRun P G Ext a e S ds x e' S' ds') (hx : x ≠ .nrm) : DRun P G Ext (.seq a b) e S ds x e' S' ds'
  | defer {id ops n e S ds e1 S1 o c fv f first captured} (hn : ops.size = n + 1) (h : Ex P G Ext (.j (.ops false ops (List.range n) e S none e1 S1))) (ho : ops[n]? = some o) (hw : awanted ops o e1 = true) (hd : o.op = .defer c)
      (hc : c.callee = .value fv) (hf : e1.eval fv = .func (.func f) first captured) : DRun P G Ext (.region id ops false) e S ds .nrm (e1.put o.dst undef) S1 (⟨f, first.toList ++ c.args.toList.map e1.eval ++ captured.toList⟩ :: ds)

section
variable {P : Program} {G : Nat}
/-- some operations, then others -/
theorem Tr.runApp {fl : Bool} {ops : Array Oper} {n : Nat} (hok : opsOk n G ops = true) {is js : List Nat} {e e' : Env} {S S' : Mem} (h : Tr P G fl ops is e S e' S') {Q : Exit → Act → World → Prop} {ds : List Deferred}
    {ρ0 : Nat → Option Loc} {S0 : Mem} {w0 : World} (hK : Reach G n ds ρ0 S0 w0 e' S' (fun a w => wpOps P ops Q js a w)) : ∀ (ρ : Nat → Option Loc) (a : Act) (w : World), ER ρ e a → SR ρ S w → Glob G ρ → Stp ρ0 S0 w0 ρ S w → a.tmps.size = n → a.defers = ds → wpOps P ops Q (is ++ js) a w := by
  induction h with
  | nil e S => intro ρ a w hE hS hG hst hn hd; exact hK ρ a w hE hS hst hn hd
  | skip ho hw _ ih =>
    intro ρ a w hE hS hG hst hn hd
    simp only [List.cons_append, wpOps, ho]
    rw [wanted_eq hn hok (fun t _ => hE t), hw]
    simp only [Bool.false_eq_true, if_false]
    exact ih hK ρ _ w (put_ER hE (flat_VR ρ undef_flat) (fun d h => by rw [hn]; exact (opsOk_mem hok ho).1 d h)) hS hG hst (by rw [put_size]; exact hn) (by rw [put_defers']; exact hd)
  | pure ho hw hp _ ih =>
    intro ρ a w hE hS hG hst hn hd
    simp only [List.cons_append, wpOps, ho]
    rw [wanted_eq hn hok (fun t _ => hE t), hw]
    simp only [if_true]
    refine .inl (sim_pure (G := G) hp _ ρ a w _ _ (fun x hx => eval_VR hG ((opsOk_mem hok ho).2 x hx) (fun t _ => hE t)) hS hG (fun v' ρ' w' h1 h2 h3 => ?_))
    exact ih hK ρ' _ w' (put_ER (fun t => (hE t).mono h3.ext) h1 (fun d h => by rw [hn]; exact (opsOk_mem hok ho).1 d h)) h2 (fun g hg => (hG g hg).mono h3.ext) (hst.trans h3) (by rw [put_size]; exact hn) (by rw [put_defers']; exact hd)
  | load ho hw hp _ ih =>
    intro ρ a w hE hS hG hst hn hd
    simp only [List.cons_append, wpOps, ho]
    rw [wanted_eq hn hok (fun t _ => hE t), hw]
    simp only [if_true]
    refine .inl (sim_load (G := G) hp ρ a w _ _ (fun x hx => eval_VR hG ((opsOk_mem hok ho).2 x hx) (fun t _ => hE t)) hS hG (fun v' ρ' w' h1 h2 h3 => ?_))
    exact ih hK ρ' _ w' (put_ER (fun t => (hE t).mono h3.ext) h1 (fun d h => by rw [hn]; exact (opsOk_mem hok ho).1 d h)) h2 (fun g hg => (hG g hg).mono h3.ext) (hst.trans h3) (by rw [put_size]; exact hn) (by rw [put_defers']; exact hd)
  | eff ho hw hp _ _ _ ih =>
    intro ρ a w hE hS hG hst hn hd
    simp only [List.cons_append, wpOps, ho]
    rw [wanted_eq hn hok (fun t _ => hE t), hw]
    simp only [if_true]
    refine .inl (hp ρ a w _ _ (fun x hx => eval_VR hG ((opsOk_mem hok ho).2 x hx) (fun t _ => hE t)) hS hG (fun v' ρ' w' h1 h2 h3 => ?_))
    exact ih hK ρ' _ w' (put_ER (fun t => (hE t).mono h3.ext) h1 (fun d h => by rw [hn]; exact (opsOk_mem hok ho).1 d h)) h2 (fun g hg => (hG g hg).mono h3.ext) (hst.trans h3) (by rw [put_size]; exact hn) (by rw [put_defers']; exact hd)

def AfterD (n : Nat) (ρ : Nat → Option Loc) (S : Mem) (w : World) (x : Xit) (e' : Env) (S' : Mem) (Ds : List ADef) (ex : Exit) (a' : Act) (w' : World) : Prop :=
  ∃ ρ', XR ρ' x ex ∧ ER ρ' e' a' ∧ SR ρ' S' w' ∧ Stp ρ S w ρ' S' w' ∧ a'.tmps.size = n ∧ DRs ρ' Ds a'.defers
variable {Ext : FuncId → List Value → Mem → Outc → Mem → Prop}
theorem DRun.sim (hm : P.follows .mixedOrders = true) (hext : ∀ f args S out S', Ext f args S out S' → CallSim P G f args S out S') {c : Code} {e : Env} {S : Mem} {Ds : List ADef} {x : Xit} {e' : Env} {S' : Mem} {Ds' : List ADef}
    (h : DRun P G Ext c e S Ds x e' S' Ds') : ∀ (n : Nat) (ρ : Nat → Option Loc) (a : Act) (w : World), codeOk P n G c = true → ER ρ e a → SR ρ S w → Glob G ρ → a.tmps.size = n → DRs ρ Ds a.defers → c.wp P (AfterD n ρ S w x e' S' Ds') a w := by
  induction h with
  | @code c e S ds x e' S' h =>
    intro n ρ a w hok hE hS hG hn hD
    refine wp_mono ((h.sim hm hext) n ρ a w hok hE hS hG hn).1 fun ex a' w' ⟨ρ', q1, q2, q3, q4, q5, q6⟩ => ⟨ρ', q1, q2, q3, q4, q5, ?_⟩
    rw [q6]; exact hD.mono q4.ext
  | @seq a b e S ds e1 S1 ds1 x e' S' ds' h k ih1 ih2 =>
    intro n ρ a w hok hE hS hG hn hD
    simp only [codeOk, Bool.and_eq_true] at hok
    refine wp_seq (wp_mono (ih1 n ρ a w hok.1 hE hS hG hn hD) fun ex a1 w1 hA => ?_)
    obtain ⟨ρ1, q1, q2, q3, q4, q5, q6⟩ := hA
    cases ex with
    | normal => exact wp_mono (ih2 n ρ1 a1 w1 hok.2 q2 q3 (hG.mono q4.ext) q5 q6) fun ex a2 w2 ⟨ρ2, r1, r2, r3, r4, r5⟩ => ⟨ρ2, r1, r2, r3, q4.trans r4, r5⟩
    | _ => exact q1.elim
  | @seqOut a b e S ds x e' S' ds' h hx ih =>
    intro n ρ a w hok hE hS hG hn hD
    simp only [codeOk, Bool.and_eq_true] at hok
    refine wp_seq (wp_mono (ih n ρ a w hok.1 hE hS hG hn hD) fun ex a1 w1 hA => ?_)
    obtain ⟨ρ1, q1, q2⟩ := hA
    exact then_out (q1.notNormal hx) ⟨ρ1, q1, q2⟩
  | @defer id ops m e S ds e1 S1 o c fv f first captured hm' h ho hw hd hc hf =>
    intro n ρ a w hok hE hS hG hn hD
    simp only [codeOk, Bool.and_eq_true] at hok
    refine wp_region ?_
    rw [hm', List.range_succ]
    refine Tr.runApp (ds := a.defers) hok.1 (h.sim hm hext) (ρ0 := ρ) (S0 := S) (w0 := w) (fun ρ' a' w' q1 q2 q3 q4 q5 => ?_) ρ a w hE hS hG (Stp.refl _ _ _) hn rfl
    have hG' := hG.mono q3.ext
    simp only [wpOps, ho]
    rw [wanted_eq q4 hok.1 (fun t _ => q1 t), hw]
    simp only [if_true]
    have hev := fun x hx => eval_VR (e := e1) (a := a') hG' ((opsOk_mem hok.1 ho).2 x hx) (fun t _ => q1 t)
    have m0 := hev fv (by simp [hd, Op.operands, Call.operands, hc])
    rw [hf] at m0
    obtain ⟨first', captured', hfe, hl1, hl2⟩ : ∃ f2 c2, a'.eval fv = .func (.func f) f2 c2 ∧ LR ρ' first.toList f2.toList ∧ LR ρ' captured.toList c2.toList := by
      generalize a'.eval fv = u at m0
      cases m0 with
      | func _ _ f2 _ c2 r1 r2 r3 r4 => exact ⟨f2, c2, rfl, ⟨by simpa using r1, fun i v v' x y => r3 i v v' (by simpa using x) (by simpa using y)⟩, ⟨by simpa using r2, fun i v v' x y => r4 i v v' (by simpa using x) (by simpa using y)⟩⟩
    have hl3 : LR ρ' (c.args.toList.map e1.eval) (c.args.toList.map a'.eval) := by
      refine ⟨by simp, fun i v v' x y => ?_⟩
      rw [List.getElem?_map, Option.map_eq_some_iff] at x y
      obtain ⟨q, hq, rfl⟩ := x
      obtain ⟨q', hq', rfl⟩ := y
      rw [hq] at hq'; cases hq'
      exact hev q (by simp [hd, Op.operands, Call.operands, hc]; right; exact List.mem_of_getElem? hq |> fun h => by simpa using h)
    have hrun : (execOp a'.eval o).run P w' = .ok (.defer { target := .fn (.func f) captured', args := first' ++ c.args.map a'.eval }) w' := by
      simp only [execOp, hd, resolve, hc, Sem.run_bind, Deferred.ofValue, hfe, Sem.run_pure, Result.andThen_ok]
    refine .inl ?_
    unfold Oper.wp
    rw [hrun]
    show AfterD n ρ S w .nrm (e1.put o.dst undef) S1 _ .normal _ w'
    refine ⟨ρ', trivial, ?_, q2, q3, by rw [put_size]; exact q4, ?_⟩
    · exact put_ER (a := { a' with defers := _ :: a'.defers }) q1 (flat_VR ρ' undef_flat) (fun d h => by show d < a'.tmps.size; rw [q4]; exact (opsOk_mem hok.1 ho).1 d h)
    · rw [put_defers']
      refine .cons ⟨captured', rfl, ?_⟩ (by rw [q5]; exact hD.mono q3.ext)
      simpa using (hl1.append hl3).append hl2

/-- how a function is being left -/
inductive AMode where
  | ret | pan (v : Value)
def MR (ρ : Nat → Option Loc) : AMode → FrameMode → Prop
  | .ret, .returning => True
  | .pan v, .panicking ch => ∃ v', VR ρ v v' ∧ ch = [{ v := v', recovered := false }]
  | _, _ => False
theorem MR.mono {ρ ρ' : Nat → Option Loc} (hs : Sub ρ ρ') {m : AMode} {u : FrameMode} (h : MR ρ m u) : MR ρ' m u := by
  cases m <;> cases u <;> first | exact h | (obtain ⟨v', h1, h2⟩ := h; exact ⟨v', h1.mono hs, h2⟩)
theorem MR.ne {ρ : Nat → Option Loc} {m : AMode} {u : FrameMode} (h : MR ρ m u) : u ≠ .run := by rintro rfl; cases m <;> exact h
theorem MR.settle {ρ : Nat → Option Loc} {m : AMode} {u : FrameMode} (h : MR ρ m u) : settle u = u := by
  cases m <;> cases u <;> first | rfl | exact h.elim | (obtain ⟨v', h1, rfl⟩ := h; rfl)
/-- what a deferred call does -/
def DSim (P : Program) (G : Nat) (f : FuncId) (args : List Value) (m : AMode) (S : Mem) (m' : AMode) (S' : Mem) : Prop :=
  (∃ fn, P.funcs[f]? = some fn ∧ fn.name ≠ "runtime.NumGoroutine" ∧ fn.body.isSome = true) ∧
  ∀ (ρ : Nat → Option Loc) (args' : List Value) (w : World) (u : FrameMode), LR ρ args args' → SR ρ S w → Glob G ρ → MR ρ m u →
    CallsD P f args'.toArray u w fun en u' w' => ∃ ρ', (∃ vv, en = .returned vv) ∧ MR ρ' m' (Go.settle u') ∧ SR ρ' S' w' ∧ Stp ρ S w ρ' S' w'
/-- the deferred calls, the last one first, and the end -/
inductive ALv (P : Program) (G : Nat) (fn : Func) (e : Env) : List ADef → AMode → Mem → Outc → Mem → Prop
  | ret {S v} (h : aresults P fn e S = some v) : ALv P G fn e [] .ret S (.ret v) S
  | pan (v S) : ALv P G fn e [] (.pan v) S (.pan v) S
  | cons {D ds m S m' S1 out S'} (h : DSim P G D.f D.args m S m' S1) (k : ALv P G fn e ds m' S1 out S') : ALv P G fn e (D :: ds) m S out S'
theorem ALv.sim {fn : Func} {e : Env} {Ds : List ADef} {m : AMode} {S : Mem} {out : Outc} {S' : Mem} (h : ALv P G fn e Ds m S out S') : ∀ (ρ0 : Nat → Option Loc) (S0 : Mem) (w0 : World) (ρ : Nat → Option Loc) (a : Act) (ds : List Deferred) (w : World) (u : FrameMode),
    ER ρ e a → DRs ρ Ds ds → SR ρ S w → Glob G ρ → MR ρ m u → Stp ρ0 S0 w0 ρ S w → Leaves P fn a.tmps (fun en w' => ∃ ρ', OR ρ' out en ∧ SR ρ' S' w' ∧ Stp ρ0 S0 w0 ρ' S' w') ds u w := by
  induction h with
  | @ret S v h =>
    intro ρ0 S0 w0 ρ a ds w u hE hD hS hG hM hst
    cases hD
    cases u with
    | returning =>
      obtain ⟨v', hv', hrun⟩ := results_sound (P := P) hE hS h
      exact ⟨v', hrun, ρ, hv', hS, hst⟩
    | _ => exact hM.elim
  | pan v S =>
    intro ρ0 S0 w0 ρ a ds w u hE hD hS hG hM hst
    cases hD
    cases u with
    | panicking ch => exact ⟨ρ, hM, hS, hst⟩
    | _ => exact hM.elim
  | @cons D ds m S m' S1 out S' h k ih =>
    intro ρ0 S0 w0 ρ a ds' w u hE hD hS hG hM hst
    cases hD with
    | @cons _ d _ ds'' h1 h2 =>
      obtain ⟨cap, ht, hl⟩ := h1
      obtain ⟨⟨fn', hf', hn', hb'⟩, hsim⟩ := h
      obtain ⟨tgt, dargs⟩ := d
      dsimp only at ht hl
      subst ht
      have hnm : (fn'.name == "runtime.NumGoroutine") = false := by simpa using hn'
      have hbn : fn'.body.isNone = false := by cases hb : fn'.body <;> simp [hb] at hb' ⊢
      refine leaves_cons (f := D.f) (args := dargs ++ cap) hM.ne (by simp only [invoke, callFunc, Sem.run_bind, run_program, hf', hnm, hbn, Result.andThen_ok, Bool.false_eq_true, if_false, Sem.run_pure]) ?_
      have hc := hsim ρ (dargs.toList ++ cap.toList) w u hl hS hG hM
      rw [show (dargs.toList ++ cap.toList).toArray = dargs ++ cap by simp] at hc
      refine hc.mono fun en u' w' ⟨ρ', ⟨vv, he⟩, r1, r2, r3⟩ => ?_
      subst he
      exact ih ρ0 S0 w0 ρ' a ds'' w' _ (fun t => (hE t).mono r3.ext) (h2.mono r3.ext) r2 (hG.mono r3.ext) r1 (hst.trans r3)
def modeOf : Xit → Option AMode
  | .nrm | .ret => some .ret
  | .pan v => some (.pan v)
  | _ => none
/-- a function that defers calls -/
theorem callSim_def (hm : P.follows .mixedOrders = true) (hext : ∀ f args S out S', Ext f args S out S' → CallSim P G f args S out S') {f : FuncId} {fn : Func} {c : Code} {args : List Value} {S : Mem} {x : Xit} {e' : Env} {S1 : Mem} {Ds : List ADef} {m : AMode} {out : Outc} {S' : Mem}
    (hf : P.funcs[f]? = some fn) (hb : fn.body = some c) (hok : fnOk P G fn c = true) (ha : args.length ≤ fn.ntmps) (h : DRun P G Ext c (Env.of args) S [] x e' S1 Ds) (hx : modeOf x = some m) (hl : ALv P G fn e' Ds m S1 out S') : CallSim P G f args S out S' := by
  simp only [fnOk, Bool.and_eq_true, bne_iff_ne, ne_eq] at hok
  refine ⟨⟨fn, hf, hok.1.2, by rw [hb]; rfl⟩, fun ρ args' w hla hS hG => ?_⟩
  have hsz : ({ tmps := args'.toArray ++ Array.replicate (fn.ntmps - args'.toArray.size) undef, defers := [] } : Act).tmps.size = fn.ntmps := by
    have := hla.1; simp; omega
  refine calls_of_wp_defers hf hb (wp_mono (h.sim hm hext fn.ntmps ρ _ w hok.1.1 (of_ER hla _) hS hG hsz .nil) fun ex a1 w1 hA => ?_)
  obtain ⟨ρ1, q1, q2, q3, q4, q5, q6⟩ := hA
  have fin : ∀ u, MR ρ1 m u → Leaves P fn a1.tmps (fun en w' => ∃ ρ', OR ρ' out en ∧ SR ρ' S' w' ∧ Stp ρ S w ρ' S' w') a1.defers u w1 := fun u hu => hl.sim ρ S w ρ1 a1 a1.defers w1 u q2 q6 q3 (hG.mono q4.ext) hu q4
  cases x with
  | nrm => cases hx; cases ex <;> first | exact fin .returning trivial | exact q1.elim
  | ret => cases hx; cases ex <;> first | exact fin .returning trivial | exact q1.elim
  | pan v => cases hx; cases ex <;> first | exact fin (.panicking _) q1 | exact q1.elim
  | _ => cases hx

/-- a deferred function that recovers nothing -/
theorem dsim_of_ex (hm : P.follows .mixedOrders = true) (hext : ∀ f args S out S', Ext f args S out S' → CallSim P G f args S out S') {f : FuncId} {fn : Func} {c : Code} {args : List Value} {S : Mem} {x : Xit} {e' : Env} {S' : Mem} {v : Value} {m : AMode}
    (hf : P.funcs[f]? = some fn) (hb : fn.body = some c) (hok : fnOk P G fn c = true) (ha : args.length ≤ fn.ntmps) (h : Ex P G Ext (.j (.code c (Env.of args) S x e' S'))) (hx : x = .nrm ∨ x = .ret) (hr : aresults P fn e' S' = some v) : DSim P G f args m S m S' := by
  simp only [fnOk, Bool.and_eq_true, bne_iff_ne, ne_eq] at hok
  refine ⟨⟨fn, hf, hok.1.2, by rw [hb]; rfl⟩, fun ρ args' w u hl hS hG hM => ?_⟩
  have hsz : ({ tmps := args'.toArray ++ Array.replicate (fn.ntmps - args'.toArray.size) undef, defers := [] } : Act).tmps.size = fn.ntmps := by
    have := hl.1; simp; omega
  refine (callsD_of_wp (R := fun en w' => ∃ ρ', (∃ vv, en = .returned vv) ∧ SR ρ' S' w' ∧ Stp ρ S w ρ' S' w') hf hb (wp_mono ((h.sim hm hext) fn.ntmps ρ _ w hok.1.1 (of_ER hl _) hS hG hsz).1 fun ex a1 w1 hA => ?_)).mono fun en u' w' ⟨hu, ρ', h1, h2, h3⟩ => ⟨ρ', h1, ?_, h2, h3⟩
  · obtain ⟨ρ1, q1, q2, q3, q4, q5, q6⟩ := hA
    obtain ⟨v', hv', hrun⟩ := results_sound (P := P) q2 q3 hr
    have fin : a1.defers = [] ∧ ∃ v, (results fn a1.tmps).run P w1 = .ok v w1 ∧ ∃ ρ', (∃ vv, Ending.returned v = .returned vv) ∧ SR ρ' S' w1 ∧ Stp ρ S w ρ' S' w1 := ⟨q6, v', hrun, ρ1, ⟨_, rfl⟩, q3, q4⟩
    rcases hx with rfl | rfl
    · cases ex <;> first | exact fin | exact q1.elim
    · cases ex <;> first | exact fin | exact q1.elim
  · subst hu
    rw [hM.settle]
    exact hM.mono h3.ext

/-- what recover hands out -/
def recovered : AMode → Value
  | .ret => .nilIface
  | .pan v => v
/-- a deferred function that begins with x := recover(), and so takes the panic -/
theorem dsim_recover (hm : P.follows .mixedOrders = true) (hext : ∀ f args S out S', Ext f args S out S' → CallSim P G f args S out S') {f : FuncId} {fn : Func} {id : Nat} {o0 o1 : Oper} {c0 : Call} {d0 d1 : Tmp} {rest : Code} {args : List Value} {S : Mem} {x : Xit} {e' : Env} {S' : Mem} {v : Value} {m : AMode}
    (hf : P.funcs[f]? = some fn) (hb : fn.body = some (.seq (.region id #[o0, o1] false) rest)) (hok : fnOk P G fn (.seq (.region id #[o0, o1] false) rest) = true) (ha : args.length ≤ fn.ntmps)
    (h0 : o0.op = .call c0) (h0c : c0.callee = .builtin .recover) (h0d : o0.dst = some d0) (h0g : o0.guard = none) (h1 : o1.op = .assign (.tmp d0)) (h1d : o1.dst = some d1) (h1g : o1.guard = none) (hdn : d0 < fn.ntmps)
    (h : Ex P G Ext (.j (.code rest (((Env.of args).put (some d0) (recovered m)).put (some d1) (recovered m)) S x e' S'))) (hx : x = .nrm ∨ x = .ret) (hr : aresults P fn e' S' = some v) : DSim P G f args m S .ret S' := by
  simp only [fnOk, Bool.and_eq_true, bne_iff_ne, ne_eq] at hok
  refine ⟨⟨fn, hf, hok.1.2, by rw [hb]; rfl⟩, fun ρ args' w u hl hS hG hM => ?_⟩
  have hsz : ({ tmps := args'.toArray ++ Array.replicate (fn.ntmps - args'.toArray.size) undef, defers := [] } : Act).tmps.size = fn.ntmps := by
    have := hl.1; simp; omega
  have hokc := hok.1.1
  simp only [codeOk, Bool.and_eq_true] at hokc
  refine callsD_of_wpS hf hb fun c₀ cs hu => wpS_seq (wpS_region ?_)
  have hE0 := of_ER (n := fn.ntmps - args'.toArray.size) hl
  -- behind recover and the assignment
  have key : ∀ (vr : Value) (cs' : List Frame) (u' : FrameMode), VR ρ (recovered m) vr → cs' = { c₀ with mode := u' } :: cs → Go.settle u' = .returning →
      rest.wpS P (bodyPostS P fn c₀ cs (fun en u' w' => ∃ ρ', (∃ vv, en = .returned vv) ∧ MR ρ' .ret (Go.settle u') ∧ SR ρ' S' w' ∧ Stp ρ S w ρ' S' w'))
        ((({ tmps := args'.toArray ++ Array.replicate (fn.ntmps - args'.toArray.size) undef, defers := [] } : Act).put (some d0) vr).put (some d1) vr) cs' w := by
    intro vr cs' u' hvr hcs hset
    refine wpS_of_wp ?_
    have hE1 : ER ρ (((Env.of args).put (some d0) (recovered m)).put (some d1) (recovered m)) ((({ tmps := args'.toArray ++ Array.replicate (fn.ntmps - args'.toArray.size) undef, defers := [] } : Act).put (some d0) vr).put (some d1) vr) := by
      have hd1 : d1 < fn.ntmps := (opsOk_mem hokc.1.1 (show (#[o0, o1] : Array Oper)[1]? = some o1 from rfl)).1 d1 h1d
      refine put_ER (put_ER hE0 hvr (fun d h => by cases h; rw [hsz]; exact hdn)) hvr (fun d h => by cases h; rw [put_size, hsz]; exact hd1)
    refine wp_mono ((h.sim hm hext) fn.ntmps ρ _ w hokc.2 hE1 hS hG (by rw [put_size, put_size, hsz])).1 fun ex a1 w1 hA => ?_
    obtain ⟨ρ1, q1, q2, q3, q4, q5, q6⟩ := hA
    obtain ⟨v', hv', hrun⟩ := results_sound (P := P) q2 q3 hr
    have fin : a1.defers = [] ∧ ∃ u', cs' = { c₀ with mode := u' } :: cs ∧ ∃ v, (results fn a1.tmps).run P w1 = .ok v w1 ∧ ∃ ρ', (∃ vv, Ending.returned v = .returned vv) ∧ MR ρ' .ret (Go.settle u') ∧ SR ρ' S' w1 ∧ Stp ρ S w ρ' S' w1 :=
      ⟨by rw [q6]; simp [put_defers'], u', hcs, v', hrun, ρ1, ⟨_, rfl⟩, by rw [hset]; trivial, q3, q4⟩
    rcases hx with rfl | rfl
    · cases ex <;> first | exact fin | exact q1.elim
    · cases ex <;> first | exact fin | exact q1.elim
  have hrc : ∀ (ev : Operand → Value) (w : World), (execOp ev o0).run P w = .ok .recover w := fun ev w => by
    simp only [execOp, h0, resolve, h0c, Sem.run_bind, Sem.run_pure, Result.andThen_ok, invoke]
    rfl
  have has : ∀ (ev : Operand → Value) (w : World), (execOp ev o1).run P w = .ok (.value (ev (.tmp d0))) w := fun ev w => by
    simp only [execOp, h1, Sem.run_pure]
  have hev : ∀ vr, (({ tmps := args'.toArray ++ Array.replicate (fn.ntmps - args'.toArray.size) undef, defers := [] } : Act).put (some d0) vr).eval (.tmp d0) = vr := fun vr => by
    simp only [Act.eval, Act.put]
    have : d0 < (args'.toArray ++ Array.replicate (fn.ntmps - args'.toArray.size) undef).size := by
      have h9 := hsz
      dsimp only at h9
      rw [h9]; exact hdn
    have h8 : d0 < args'.length + (fn.ntmps - args'.length) := Nat.lt_of_lt_of_le hdn (by have := hl.1; omega)
    simp [this]
    intro h9
    exact absurd h8 (Nat.not_lt.2 h9)
  have hw0 : ∀ y, Region.wanted o0 y = true := fun y => by simp [Region.wanted, h0g]
  have hw1 : ∀ y, Region.wanted o1 y = true := fun y => by simp [Region.wanted, h1g]
  show wpOpsS P #[o0, o1] _ [0, 1] _ _ _
  simp only [wpOpsS, show (#[o0, o1] : Array Oper)[0]? = some o0 from rfl, show (#[o0, o1] : Array Oper)[1]? = some o1 from rfl, hw0, hw1, if_true, hrc, has, h0d, h1d, Oper.upon, hev]
  cases m with
  | ret =>
    cases u with
    | returning =>
      have hrd : recoverD (c₀ :: cs) = none := by simp [recoverD, hu]
      simp only [hrd, hev]
      refine key .nilIface (c₀ :: cs) .returning .nilIface ?_ rfl
      cases c₀; simp_all
    | _ => exact hM.elim
  | pan v =>
    cases u with
    | panicking ch =>
      obtain ⟨v', hv', rfl⟩ := hM
      have hrd : recoverD (c₀ :: cs) = some (v', { c₀ with mode := .panicking [{ v := v', recovered := true }] } :: cs) := by simp [recoverD, hu]
      simp only [hrd, hev]
      exact key v' _ (.panicking [{ v := v', recovered := true }]) hv' rfl rfl
    | _ => exact hM.elim
end
end Go.Proofs.YtkiecgkgbogbaaaDoor

/- Calls that return or panic, in the form of weakest preconditions. Conditions: none. -/
set_option linter.unusedSimpArgs false
set_option linter.unusedVariables false
namespace Go.Proofs.YtkiecgkgbogbaaaDoor
open Go

/-- a call that ends somehow -/
def CO (P : Program) (G : Nat) (Ext : FuncId → List Value → Mem → Outc → Mem → Prop) (f : FuncId) (args : List Value) (S : Mem) (R : Outc → Mem → Prop) : Prop := ∃ out S', Ex P G Ext (.j (.call f args S out S')) ∧ R out S'
/-- what is asked where a function's text ends -/
def XQ (P : Program) (fn : Func) (R : Outc → Mem → Prop) : Xit → Env → Mem → Prop
  | .nrm, e, S => ∃ v, aresults P fn e S = some v ∧ R (.ret v) S
  | .ret, e, S => ∃ v, aresults P fn e S = some v ∧ R (.ret v) S
  | .pan v, _, S => R (.pan v) S
  | _, _, _ => False
section
variable {P : Program} {G : Nat} {Ext : FuncId → List Value → Mem → Outc → Mem → Prop} {e : Env} {S : Mem} {fl : Bool} {ops : Array Oper} {K : Kont}
variable {rest : List Oper} {dst : Option Tmp} {ty : TypeId} {pos : String} {af : Array Edge} {gd : Option (Nat × Bool)}
theorem CO.fn {f : FuncId} {fn : Func} {c : Code} {args : List Value} {R : Outc → Mem → Prop} (hf : P.funcs[f]? = some fn) (hb : fn.body = some c) (hok : fnOk P G fn c = true) (ha : Nat.ble args.length fn.ntmps = true)
    (h : W P G Ext c (Env.of args) S (XQ P fn R)) : CO P G Ext f args S R := by
  obtain ⟨x, e', S', h1, hx⟩ := h
  have hal := Nat.le_of_ble_eq_true ha
  cases x with
  | nrm => obtain ⟨v, hr, hR⟩ := hx; exact ⟨.ret v, S', .fn hf hb hok hal h1 (.inl rfl) hr, hR⟩
  | ret => obtain ⟨v, hr, hR⟩ := hx; exact ⟨.ret v, S', .fn hf hb hok hal h1 (.inr rfl) hr, hR⟩
  | pan v => exact ⟨.pan v, S', .fnPan hf hb hok hal h1, hx⟩
  | _ => exact hx.elim
theorem CO.mono {f : FuncId} {args : List Value} {R R' : Outc → Mem → Prop} (h : CO P G Ext f args S R) (hq : ∀ o S, R o S → R' o S) : CO P G Ext f args S R' := let ⟨o, S', h1, h2⟩ := h; ⟨o, S', h1, hq _ _ h2⟩
theorem C.co {f : FuncId} {args : List Value} {R : Value → Mem → Prop} (h : C P G Ext f args S R) : CO P G Ext f args S fun o S' => ∃ v, o = .ret v ∧ R v S' := let ⟨v, S', h1, h2⟩ := h; ⟨.ret v, S', h1, v, rfl, h2⟩
theorem CO.c {f : FuncId} {args : List Value} {R : Value → Mem → Prop} (h : CO P G Ext f args S fun o S' => ∃ v, o = .ret v ∧ R v S') : C P G Ext f args S R := by
  obtain ⟨o, S', h1, v, rfl, h2⟩ := h
  exact ⟨v, S', h1, h2⟩
/-- a call behind which the run goes on, or panics -/
def Go1 (K : Kont) (fl : Bool) (e : Env) (S : Mem) (go : Value → Mem → Prop) : Outc → Mem → Prop
  | .ret v, S1 => (fl = true → Cons S S1) ∧ go v S1
  | .pan v, S1 => K.pan v e S1
theorem L.co {op : Op} {f : FuncId} {args : List Value} {R : Outc → Mem → Prop} (hcall : CO P G Ext f args S R) (hw : awanted ops ⟨dst, op, ty, pos, af, gd⟩ e = true) (hc : acall ⟨dst, op, ty, pos, af, gd⟩ e.eval = some (f, args))
    (h : ∀ o S1, R o S1 → Go1 K fl e S (fun v S1 => L P G Ext fl ops rest (e.put dst v) S1 K) o S1) : L P G Ext fl ops (⟨dst, op, ty, pos, af, gd⟩ :: rest) e S K := by
  obtain ⟨o, S1, h1, h2⟩ := hcall
  have h3 := h o S1 h2
  cases o with
  | ret v => exact L.call hw hc ⟨v, S1, h1, h3⟩
  | pan v => exact L.callPan (R := fun v' S' => v' = v ∧ S' = S1) ⟨v, S1, h1, rfl, rfl⟩ hw hc (by rintro _ _ ⟨rfl, rfl⟩; exact h3)
end
/-- contracts that are met by themselves -/
def Known (P : Program) (G : Nat) : FuncId → List Value → Mem → Outc → Mem → Prop := fun f args S out S' => CallSim P G f args S out S'
end Go.Proofs.YtkiecgkgbogbaaaDoor

/- Layer 6: places in texts. Conditions: none. -/
set_option linter.unusedSimpArgs false
set_option linter.unusedVariables false
set_option maxRecDepth 100000
namespace Go.Proofs.YtkiecgkgbogbaaaDoor
open Go
variable {G : Nat} {Ext : FuncId → List Value → Mem → Outc → Mem → Prop}
/-- a place, or -1 -/
def oi : Option Nat → Int
  | some i => i
  | none => -1
def findI (l : BL) (c : BitVec 8) : Option Nat := l.findIdx? (· == c)
theorem find_at {l : BL} {c : BitVec 8} {i : Nat} (h : ∀ x ∈ l.take i, x ≠ c) (hc : l[i]? = some c) : findI l c = some i := by
  obtain ⟨hi, hv⟩ := List.getElem?_eq_some_iff.1 hc
  refine List.findIdx?_eq_some_iff_getElem.2 ⟨hi, by simp [hv], fun j hj => ?_⟩
  have := h l[j] (List.mem_take_iff_getElem.2 ⟨j, by omega, rfl⟩)
  simpa using this
theorem find_no {l : BL} {c : BitVec 8} (h : ∀ x ∈ l, x ≠ c) : findI l c = none := List.findIdx?_eq_none_iff.2 fun x hx => by simpa using h x hx
theorem refFind_C (l : BL) (c : BitVec 8) (S : Mem) (hl : l.length < 1000000) :
    C Tryd.prog G Ext 30 [.string (strB l), v8 c] S fun v S' => v = .int .i64 (oi (findI l c)) ∧ S' = S := by
  refine C.fn Tryd.func30 rfl (by kernel_rfl) rfl ?_
  repeat (first | refine W.seq ?_ | refine W.block ?_ | refine W.reg ?_ | refine W.skip ?_ | refine W.exit ?_ | refine W.ret ?_ | refine L.nil ?_ | refine L.p rfl rfl ?_ | refine L.skip rfl ?_)
  refine W.loop (fun j e T' => ∃ i, j = l.length - i ∧ i ≤ l.length ∧ T' = S ∧ (∀ x ∈ l.take i, x ≠ c) ∧ e 0 = .string (strB l) ∧ e 1 = v8 c ∧ e 5 = vi i) l.length
    ⟨0, by omega, by omega, rfl, nofun, rfl, rfl, rfl⟩ ?_
  rintro j e T ⟨i, rfl, hi, rfl, hn, e0, e1, e5⟩
  refine W.env3 e0 e1 e5 ?_
  repeat (first | refine W.seq ?_ | refine W.block ?_ | refine W.reg ?_ | refine W.skip ?_ | refine W.exit ?_ | refine W.ret ?_ | refine L.nil ?_ | refine L.p rfl rfl ?_ | refine L.skip rfl ?_)
  refine L.tlen rfl rfl rfl rfl ?_
  repeat (first | refine W.seq ?_ | refine W.block ?_ | refine W.reg ?_ | refine W.skip ?_ | refine W.exit ?_ | refine W.ret ?_ | refine L.nil ?_ | refine L.p rfl rfl ?_ | refine L.skip rfl ?_)
  refine W.ite rfl (fun h => ?_) (fun h => ?_)
  · have hin : i < l.length := by have := of_decide_eq_true h; omega
    clear h
    obtain ⟨x, hx⟩ : ∃ x, l[i]? = some x := ⟨_, List.getElem?_eq_getElem hin⟩
    repeat (first | refine W.seq ?_ | refine W.block ?_ | refine W.reg ?_ | refine W.skip ?_ | refine W.exit ?_ | refine W.ret ?_ | refine L.nil ?_ | refine L.p rfl rfl ?_ | refine L.skip rfl ?_)
    refine L.sB rfl rfl hx rfl rfl ?_
    repeat (first | refine W.seq ?_ | refine W.block ?_ | refine W.reg ?_ | refine W.skip ?_ | refine W.exit ?_ | refine W.ret ?_ | refine L.nil ?_ | refine L.p rfl rfl ?_ | refine L.skip rfl ?_)
    refine W.ite rfl (fun h => ?_) (fun h => ?_)
    · have hxc : x = c := by have := of_decide_eq_true h; exact BitVec.eq_of_toNat_eq (by omega)
      subst hxc
      repeat (first | refine W.seq ?_ | refine W.block ?_ | refine W.reg ?_ | refine W.skip ?_ | refine W.exit ?_ | refine W.ret ?_ | refine L.nil ?_ | refine L.p rfl rfl ?_ | refine L.skip rfl ?_)
      exact ⟨.inr rfl, _, rfl, by rw [find_at hn hx]; rfl, rfl⟩
    · have hxc : x ≠ c := fun h' => by have := of_decide_eq_false h; subst h'; exact this rfl
      repeat (first | refine W.seq ?_ | refine W.block ?_ | refine W.reg ?_ | refine W.skip ?_ | refine W.exit ?_ | refine W.ret ?_ | refine L.nil ?_ | refine L.p rfl rfl ?_ | refine L.skip rfl ?_)
      refine ⟨l.length - (i + 1), by omega, i + 1, rfl, by omega, rfl, ?_, rfl, rfl, ?_⟩
      · rw [List.take_add_one, hx]
        intro y hy
        rcases List.mem_append.1 hy with hy | hy
        · exact hn y hy
        · simp at hy; subst hy; exact hxc
      · refine (force_eq rfl).trans ?_
        rw [wrap64 (by omega) (by omega)]; rfl
  · have hin : i = l.length := by have := of_decide_eq_false h; omega
    subst hin
    rw [List.take_length] at hn
    repeat (first | refine W.seq ?_ | refine W.block ?_ | refine W.reg ?_ | refine W.skip ?_ | refine W.exit ?_ | refine W.ret ?_ | refine L.nil ?_ | refine L.p rfl rfl ?_ | refine L.skip rfl ?_)
    exact ⟨.inr rfl, _, rfl, by rw [find_no hn]; rfl, rfl⟩
theorem indexByteString_fn : ExternFn Tryd.prog 41 Extern.BytealgIndexByte.indexByte := ⟨_, Tryd.func41, by kernel_rfl, rfl, by kernel_rfl, by kernel_rfl⟩
theorem indexByte_run {P : Program} (l : BL) (c : BitVec 8) (w : World) : (Extern.BytealgIndexByte.indexByte #[.string (strB l), v8 c]).run P w = .ok (.int .i64 (oi (findI l c))) w := by
  have hf : (List.range (strB l).size).find? (fun i => (strB l)[i]! == (c.toNat : Int).toNat.toUInt8) = findI l c := by
    have hp : ∀ i x, l[i]? = some x → ((strB l)[i]! == (c.toNat : Int).toNat.toUInt8) = (x == c) := fun i x hx => by
      have h1 := strB_get hx
      have h2 : (strB l)[i]! = UInt8.ofNat x.toNat := by
        rw [getElem!_def, h1]
      rw [h2]
      show (UInt8.ofNat x.toNat == UInt8.ofNat c.toNat) = _
      by_cases he : x = c
      · subst he; simp
      · rw [beq_eq_false_iff_ne.2 he]
        refine beq_eq_false_iff_ne.2 fun h => he (BitVec.eq_of_toNat_eq ?_)
        have := congrArg UInt8.toNat h
        rwa [byte_back, byte_back] at this
    cases hc : findI l c with
    | none =>
      have h0 := List.findIdx?_eq_none_iff.1 hc
      refine List.find?_range_eq_none.2 fun i hi => ?_
      rw [strB_size] at hi
      rw [hp i _ (List.getElem?_eq_getElem hi), h0 _ (List.getElem_mem hi)]; rfl
    | some i =>
      obtain ⟨hi, hv, hm⟩ := List.findIdx?_eq_some_iff_getElem.1 hc
      refine List.find?_range_eq_some.2 ⟨by rw [hp i _ (List.getElem?_eq_getElem hi)]; exact hv, by rw [List.mem_range, strB_size]; exact hi, fun j hj => ?_⟩
      rw [hp j _ (List.getElem?_eq_getElem (by omega))]
      simpa using hm j hj
  show Sem.run P (match (List.range (strB l).size).find? (fun i => (strB l)[i]! == (c.toNat : Int).toNat.toUInt8) with
    | some i => Pure.pure (goInt i)
    | none => Pure.pure (goInt (-1))) w = _
  rw [hf]
  cases findI l c with
  | none => rfl
  | some i => rfl
theorem lr2 {ρ : Nat → Option Loc} {s : ByteArray} {k : IntKind} {c : Int} {args' : List Value} (h : LR ρ [.string s, .int k c] args') : args' = [.string s, .int k c] := by
  obtain ⟨h1, h2⟩ := h
  match args', h1 with
  | [x, y], _ =>
    have hx := (h2 0 _ _ rfl rfl).scalar_eq rfl
    have hy := (h2 1 _ _ rfl rfl).scalar_eq rfl
    rw [hx, hy]
theorem sliteIndexByte_C (l : BL) (c : BitVec 8) (S : Mem) :
    C Tryd.prog G Ext 40 [.string (strB l), v8 c] S fun v S' => v = .int .i64 (oi (findI l c)) ∧ S' = S := by
  refine C.fn Tryd.func40 rfl (by kernel_rfl) rfl ?_
  repeat (first | refine W.seq ?_ | refine W.block ?_ | refine W.reg ?_ | refine W.skip ?_ | refine W.exit ?_ | refine W.ret ?_ | refine L.nil ?_ | refine L.p rfl rfl ?_ | refine L.skip rfl ?_)
  refine L.ext (v := .int .i64 (oi (findI l c))) rfl rfl indexByteString_fn (fun ρ args' h => ⟨_, flat_VR _ rfl, fun w => by rw [lr2 h]; exact indexByte_run l c w⟩) ?_
  repeat (first | refine W.seq ?_ | refine W.block ?_ | refine W.reg ?_ | refine W.skip ?_ | refine W.exit ?_ | refine W.ret ?_ | refine L.nil ?_ | refine L.p rfl rfl ?_ | refine L.skip rfl ?_)
  exact ⟨.inr rfl, _, rfl, rfl, rfl⟩
theorem indexByte_C (l : BL) (c : BitVec 8) (S : Mem) :
    C Tryd.prog G Ext 35 [.string (strB l), v8 c] S fun v S' => v = .int .i64 (oi (findI l c)) ∧ S' = S := by
  refine C.fn Tryd.func35 rfl (by kernel_rfl) rfl ?_
  repeat (first | refine W.seq ?_ | refine W.block ?_ | refine W.reg ?_ | refine W.skip ?_ | refine W.exit ?_ | refine W.ret ?_ | refine L.nil ?_ | refine L.p rfl rfl ?_ | refine L.skip rfl ?_)
  refine L.cl (sliteIndexByte_C l c S) rfl rfl ?_
  rintro _ _ ⟨rfl, rfl⟩
  refine ⟨nofun, ?_⟩
  repeat (first | refine W.seq ?_ | refine W.block ?_ | refine W.reg ?_ | refine W.skip ?_ | refine W.exit ?_ | refine W.ret ?_ | refine L.nil ?_ | refine L.p rfl rfl ?_ | refine L.skip rfl ?_)
  exact ⟨.inr rfl, _, rfl, rfl, rfl⟩
end Go.Proofs.YtkiecgkgbogbaaaDoor

/- Layer 6: runes in texts; a digit's worth. Conditions: none. -/
set_option linter.unusedSimpArgs false
set_option linter.unusedVariables false
set_option maxRecDepth 100000
namespace Go.Proofs.YtkiecgkgbogbaaaDoor
open Go
variable {G : Nat} {Ext : FuncId → List Value → Mem → Outc → Mem → Prop}
theorem strB_get! {l : BL} {i : Nat} {x : BitVec 8} (h : l[i]? = some x) : ((strB l).get! i).toNat = x.toNat := by
  have h1 := strB_get h
  have h2 : (strB l).get! i = UInt8.ofNat x.toNat := by
    have h3 : (strB l).data[i]? = some (UInt8.ofNat x.toNat) := by simp [strB, h]
    show (strB l).data[i]! = _
    rw [getElem!_def, h3]
  rw [h2, byte_back]
theorem decode_lt {l : BL} {p : Nat} {x : BitVec 8} (h : l[p]? = some x) (hx : x.toNat < 128) : Utf8.decode (strB l) p = (x.toNat, 1) := by
  unfold Utf8.decode
  simp only [Nat.add_zero, strB_get! h]
  rw [if_pos hx]
theorem decode_ge {l : BL} {p : Nat} {x : BitVec 8} (h : l[p]? = some x) (hx : 128 ≤ x.toNat) : ∃ r w, Utf8.decode (strB l) p = (r, w) ∧ 128 ≤ r ∧ Utf8.valid r = true ∧ 1 ≤ w := by
  unfold Utf8.decode
  simp only [Nat.add_zero, strB_get! h]
  rw [if_neg (by omega)]
  have he : 128 ≤ Utf8.runeError ∧ Utf8.valid Utf8.runeError = true := by decide
  split
  · split
    · refine ⟨_, _, rfl, by omega, ?_, by omega⟩
      unfold Utf8.valid
      simp
      left; omega
    · exact ⟨_, _, rfl, he.1, he.2, by omega⟩
  · split
    · split
      · rename_i h3
        simp at h3
        exact ⟨_, _, rfl, by omega, h3.2, by omega⟩
      · exact ⟨_, _, rfl, he.1, he.2, by omega⟩
    · split
      · split
        · rename_i h3
          simp at h3
          exact ⟨_, _, rfl, by omega, h3.2, by omega⟩
        · exact ⟨_, _, rfl, he.1, he.2, by omega⟩
      · exact ⟨_, _, rfl, he.1, he.2, by omega⟩
theorem validRune_C (r : Nat) (hv : Utf8.valid r = true) (S : Mem) :
    C Tryd.prog G Ext 36 [.int .i32 r] S fun v S' => v = .bool true ∧ S' = S := by
  have hv' : (r < 55296 ∨ (57344 ≤ r ∧ r ≤ 1114111)) := by
    unfold Utf8.valid at hv
    simp at hv
    omega
  refine C.fn Tryd.func36 rfl (by kernel_rfl) rfl ?_
  repeat (first | refine W.seq ?_ | refine W.block ?_ | refine W.reg ?_ | refine W.skip ?_ | refine W.exit ?_ | refine W.ret ?_ | refine L.nil ?_ | refine L.p rfl rfl ?_ | refine L.skip rfl ?_)
  refine W.ite rfl (fun h => ?_) (fun h => ?_)
  · repeat (first | refine W.seq ?_ | refine W.block ?_ | refine W.reg ?_ | refine W.skip ?_ | refine W.exit ?_ | refine W.ret ?_ | refine L.nil ?_ | refine L.p rfl rfl ?_ | refine L.skip rfl ?_)
    exact ⟨.inr rfl, _, rfl, rfl, rfl⟩
  · have hr := of_decide_eq_false h
    repeat (first | refine W.seq ?_ | refine W.block ?_ | refine W.reg ?_ | refine W.skip ?_ | refine W.exit ?_ | refine W.ret ?_ | refine L.nil ?_ | refine L.p rfl rfl ?_ | refine L.skip rfl ?_)
    rw [show decide ((57343 : Int) < (r : Int)) = true from decide_eq_true (by omega)]
    repeat (first | refine W.seq ?_ | refine W.block ?_ | refine W.reg ?_ | refine W.skip ?_ | refine W.exit ?_ | refine W.ret ?_ | refine L.nil ?_ | refine L.p rfl rfl ?_ | refine L.skip rfl ?_)
    rw [show decide ((r : Int) ≤ 1114111) = true from decide_eq_true (by omega)]
    refine W.ite rfl (fun h => ?_) (fun h => ?_)
    · repeat (first | refine W.seq ?_ | refine W.block ?_ | refine W.reg ?_ | refine W.skip ?_ | refine W.exit ?_ | refine W.ret ?_ | refine L.nil ?_ | refine L.p rfl rfl ?_ | refine L.skip rfl ?_)
      exact ⟨.inr rfl, _, rfl, rfl, rfl⟩
    · cases h
theorem encode_ge {r : Nat} (hv : Utf8.valid r = true) (h : 128 ≤ r) : ∃ (m : BL) (y : BitVec 8), Utf8.encode r = strB (m ++ [y]) ∧ 1 ≤ m.length ∧ m.length ≤ 3 ∧ 128 ≤ y.toNat := by
  have hb : ∀ n, UInt8.ofNat (BitVec.ofNat 8 n).toNat = UInt8.ofNat n := fun n => by
    apply UInt8.toNat_inj.1
    rw [UInt8.toNat_ofNat', UInt8.toNat_ofNat', BitVec.toNat_ofNat]; omega
  have hy : ∀ n, n < 64 → 128 ≤ (BitVec.ofNat 8 (128 + n)).toNat := fun n hn => by rw [BitVec.toNat_ofNat]; omega
  unfold Utf8.encode
  rw [if_pos hv]
  simp only [Int.toNat_natCast]
  rw [if_neg (by omega)]
  split
  · refine ⟨[BitVec.ofNat 8 (0xC0 + r / 64)], BitVec.ofNat 8 (0x80 + r % 64), ?_, by simp, by simp, hy _ (Nat.mod_lt _ (by omega))⟩
    simp only [strB, List.cons_append, List.nil_append, List.map_cons, List.map_nil, hb]
  · split
    · refine ⟨[BitVec.ofNat 8 (0xE0 + r / 4096), BitVec.ofNat 8 (0x80 + r / 64 % 64)], BitVec.ofNat 8 (0x80 + r % 64), ?_, by simp, by simp, hy _ (Nat.mod_lt _ (by omega))⟩
      simp only [strB, List.cons_append, List.nil_append, List.map_cons, List.map_nil, hb]
    · refine ⟨[BitVec.ofNat 8 (0xF0 + r / 262144), BitVec.ofNat 8 (0x80 + r / 4096 % 64), BitVec.ofNat 8 (0x80 + r / 64 % 64)], BitVec.ofNat 8 (0x80 + r % 64), ?_, by simp, by simp, hy _ (Nat.mod_lt _ (by omega))⟩
      simp only [strB, List.cons_append, List.nil_append, List.map_cons, List.map_nil, hb]
/-- a rune's place in a text of letters below 128 -/
theorem indexRune_C (l : BL) (hl : ∀ x ∈ l, x.toNat < 128) (h4 : 4 ≤ l.length) (hl2 : l.length < 100000) (r : Nat) (hv : Utf8.valid r = true) (S : Mem) :
    C Tryd.prog G Ext 32 [.string (strB l), .int .i32 r] S fun v S' => v = .int .i64 (oi (if r < 128 then findI l (BitVec.ofNat 8 r) else none)) ∧ Cons S S' := by
  refine C.fn Tryd.func32 rfl (by kernel_rfl) rfl ?_
  repeat (first | refine W.seq ?_ | refine W.block ?_ | refine W.reg ?_ | refine W.skip ?_ | refine W.exit ?_ | refine W.ret ?_ | refine L.nil ?_ | refine L.p rfl rfl ?_ | refine L.skip rfl ?_)
  refine W.ite rfl (fun h => ?_) (fun h => ?_)
  · have hr : r < 128 := by have := of_decide_eq_true h; omega
    rw [if_pos hr]
    repeat (first | refine W.seq ?_ | refine W.block ?_ | refine W.reg ?_ | refine W.skip ?_ | refine W.exit ?_ | refine W.ret ?_ | refine L.nil ?_ | refine L.p rfl rfl ?_ | refine L.skip rfl ?_)
    have hw : IntKind.u8.wrap (r : Int) = ((BitVec.ofNat 8 r).toNat : Int) := by
      have h : ∀ n : Fin 128, IntKind.u8.wrap (n.val : Int) = ((BitVec.ofNat 8 n.val).toNat : Int) := by decide +kernel
      exact h ⟨r, hr⟩
    rw [hw]
    refine L.cl (indexByte_C l (BitVec.ofNat 8 r) S) rfl rfl ?_
    rintro _ _ ⟨rfl, rfl⟩
    refine ⟨nofun, ?_⟩
    repeat (first | refine W.seq ?_ | refine W.block ?_ | refine W.reg ?_ | refine W.skip ?_ | refine W.exit ?_ | refine W.ret ?_ | refine L.nil ?_ | refine L.p rfl rfl ?_ | refine L.skip rfl ?_)
    exact ⟨.inr rfl, _, rfl, rfl, Cons.refl _⟩
  · have hr : 128 ≤ r := by have := of_decide_eq_false h; omega
    rw [if_neg (by omega)]
    repeat (first | refine W.seq ?_ | refine W.block ?_ | refine W.reg ?_ | refine W.skip ?_ | refine W.exit ?_ | refine W.ret ?_ | refine L.nil ?_ | refine L.p rfl rfl ?_ | refine L.skip rfl ?_)
    refine W.ite rfl (fun h => ?_) (fun h => ?_)
    · have hr3 : r = 65533 := by have := of_decide_eq_true h; omega
      repeat (first | refine W.seq ?_ | refine W.block ?_ | refine W.reg ?_ | refine W.skip ?_ | refine W.exit ?_ | refine W.ret ?_ | refine L.nil ?_ | refine L.p rfl rfl ?_ | refine L.skip rfl ?_)
      refine L.range rfl rfl rfl ?_
      have hC : Cons S (S ++ [itR (strB l) 0]) := Cons.push _ _
      have hr0 : (S ++ [itR (strB l) 0])[S.length]? = some (itR (strB l) 0) := by simp
      generalize S ++ [itR (strB l) 0] = T at *
      obtain ⟨rb, hrb⟩ : ∃ rb, rb = S.length := ⟨_, rfl⟩
      rw [← hrb] at hr0 ⊢
      repeat (first | refine W.seq ?_ | refine W.block ?_ | refine W.reg ?_ | refine W.skip ?_ | refine W.exit ?_ | refine W.ret ?_ | refine L.nil ?_ | refine L.p rfl rfl ?_ | refine L.skip rfl ?_)
      refine W.loop (fun j e T' => ∃ i, j = l.length - i ∧ i ≤ l.length ∧ Cons S T' ∧ T'[rb]? = some (itR (strB l) i) ∧ e 175 = .pointer (some ⟨rb, 0, none⟩)) l.length
        ⟨0, by omega, by omega, hC, hr0, rfl⟩ ?_
      rintro j e T ⟨i, rfl, hi, hC, hT, e175⟩
      refine W.env e175 ?_
      by_cases hin : i < l.length
      · obtain ⟨x, hx⟩ : ∃ x, l[i]? = some x := ⟨_, List.getElem?_eq_getElem hin⟩
        have hx8 := hl x (List.mem_of_getElem? hx)
        repeat (first | refine W.seq ?_ | refine W.block ?_ | refine W.reg ?_ | refine W.skip ?_ | refine W.exit ?_ | refine W.ret ?_ | refine L.nil ?_ | refine L.p rfl rfl ?_ | refine L.skip rfl ?_)
        refine L.nextM rfl rfl hT (by rw [strB_size]; exact hin) (decode_lt hx hx8) ?_
        repeat (first | refine W.seq ?_ | refine W.block ?_ | refine W.reg ?_ | refine W.skip ?_ | refine W.exit ?_ | refine W.ret ?_ | refine L.nil ?_ | refine L.p rfl rfl ?_ | refine L.skip rfl ?_)
        refine W.ite rfl (fun h => ?_) (fun h => ?_)
        rotate_left
        · cases h
        repeat (first | refine W.seq ?_ | refine W.block ?_ | refine W.reg ?_ | refine W.skip ?_ | refine W.exit ?_ | refine W.ret ?_ | refine L.nil ?_ | refine L.p rfl rfl ?_ | refine L.skip rfl ?_)
        refine W.ite rfl (fun h => ?_) (fun h => ?_)
        · have := of_decide_eq_true h; omega
        repeat (first | refine W.seq ?_ | refine W.block ?_ | refine W.reg ?_ | refine W.skip ?_ | refine W.exit ?_ | refine W.ret ?_ | refine L.nil ?_ | refine L.p rfl rfl ?_ | refine L.skip rfl ?_)
        refine ⟨l.length - (i + 1), by omega, i + 1, rfl, by omega, ?_, ?_, rfl⟩
        · exact (keepL_set _ _ _).cons0 hC (fun b hb => by simp at hb; omega)
        · rw [List.getElem?_set, if_pos rfl, if_pos (List.getElem?_eq_some_iff.1 hT).1]
      · repeat (first | refine W.seq ?_ | refine W.block ?_ | refine W.reg ?_ | refine W.skip ?_ | refine W.exit ?_ | refine W.ret ?_ | refine L.nil ?_ | refine L.p rfl rfl ?_ | refine L.skip rfl ?_)
        refine L.nextO rfl rfl hT (by rw [strB_size]; omega) ?_
        repeat (first | refine W.seq ?_ | refine W.block ?_ | refine W.reg ?_ | refine W.skip ?_ | refine W.exit ?_ | refine W.ret ?_ | refine L.nil ?_ | refine L.p rfl rfl ?_ | refine L.skip rfl ?_)
        refine W.ite rfl (fun h => ?_) (fun h => ?_)
        · cases h
        repeat (first | refine W.seq ?_ | refine W.block ?_ | refine W.reg ?_ | refine W.skip ?_ | refine W.exit ?_ | refine W.ret ?_ | refine L.nil ?_ | refine L.p rfl rfl ?_ | refine L.skip rfl ?_)
        exact ⟨.inr rfl, _, rfl, rfl, hC⟩
    · have hr3 : r ≠ 65533 := by have := of_decide_eq_false h; omega
      repeat (first | refine W.seq ?_ | refine W.block ?_ | refine W.reg ?_ | refine W.skip ?_ | refine W.exit ?_ | refine W.ret ?_ | refine L.nil ?_ | refine L.p rfl rfl ?_ | refine L.skip rfl ?_)
      refine L.cl (validRune_C r hv S) rfl rfl ?_
      rintro _ _ ⟨rfl, rfl⟩
      refine ⟨nofun, ?_⟩
      repeat (first | refine W.seq ?_ | refine W.block ?_ | refine W.reg ?_ | refine W.skip ?_ | refine W.exit ?_ | refine W.ret ?_ | refine L.nil ?_ | refine L.p rfl rfl ?_ | refine L.skip rfl ?_)
      refine W.ite rfl (fun h => ?_) (fun h => ?_)
      · cases h
      refine W.scope ?_
      repeat (first | refine W.seq ?_ | refine W.block ?_ | refine W.reg ?_ | refine W.skip ?_ | refine W.exit ?_ | refine W.ret ?_ | refine L.nil ?_ | refine L.p rfl rfl ?_ | refine L.skip rfl ?_)
      obtain ⟨m, y, hm, hm1, hm2, hy⟩ := encode_ge hv hr
      rw [hm]
      refine L.tlen rfl rfl rfl rfl ?_
      repeat (first | refine W.seq ?_ | refine W.block ?_ | refine W.reg ?_ | refine W.skip ?_ | refine W.exit ?_ | refine W.ret ?_ | refine L.nil ?_ | refine L.p rfl rfl ?_ | refine L.skip rfl ?_)
      rw [show IntKind.i64.wrap (((m ++ [y]).length : Int) - 1) = (m.length : Int) by rw [List.length_append, List.length_singleton, wrap64 (by omega) (by omega)]; omega]
      repeat (first | refine W.seq ?_ | refine W.block ?_ | refine W.reg ?_ | refine W.skip ?_ | refine W.exit ?_ | refine W.ret ?_ | refine L.nil ?_ | refine L.p rfl rfl ?_ | refine L.skip rfl ?_)
      refine W.loopStep ?_
      repeat (first | refine W.seq ?_ | refine W.block ?_ | refine W.reg ?_ | refine W.skip ?_ | refine W.exit ?_ | refine W.ret ?_ | refine L.nil ?_ | refine L.p rfl rfl ?_ | refine L.skip rfl ?_)
      refine L.tlen rfl rfl rfl rfl ?_
      repeat (first | refine W.seq ?_ | refine W.block ?_ | refine W.reg ?_ | refine W.skip ?_ | refine W.exit ?_ | refine W.ret ?_ | refine L.nil ?_ | refine L.p rfl rfl ?_ | refine L.skip rfl ?_)
      refine W.ite rfl (fun h => ?_) (fun h => ?_)
      rotate_left
      · have := of_decide_eq_false h; omega
      obtain ⟨x, hx⟩ : ∃ x, l[m.length]? = some x := ⟨_, List.getElem?_eq_getElem (by omega)⟩
      have hx8 := hl x (List.mem_of_getElem? hx)
      have hyg : (m ++ [y])[m.length]? = some y := by simp
      repeat (first | refine W.seq ?_ | refine W.block ?_ | refine W.reg ?_ | refine W.skip ?_ | refine W.exit ?_ | refine W.ret ?_ | refine L.nil ?_ | refine L.p rfl rfl ?_ | refine L.skip rfl ?_)
      refine W.scope ?_
      repeat (first | refine W.seq ?_ | refine W.block ?_ | refine W.reg ?_ | refine W.skip ?_ | refine W.exit ?_ | refine W.ret ?_ | refine L.nil ?_ | refine L.p rfl rfl ?_ | refine L.skip rfl ?_)
      refine L.sB rfl rfl hx rfl rfl ?_
      repeat (first | refine W.seq ?_ | refine W.block ?_ | refine W.reg ?_ | refine W.skip ?_ | refine W.exit ?_ | refine W.ret ?_ | refine L.nil ?_ | refine L.p rfl rfl ?_ | refine L.skip rfl ?_)
      refine L.sB rfl rfl hyg rfl rfl ?_
      repeat (first | refine W.seq ?_ | refine W.block ?_ | refine W.reg ?_ | refine W.skip ?_ | refine W.exit ?_ | refine W.ret ?_ | refine L.nil ?_ | refine L.p rfl rfl ?_ | refine L.skip rfl ?_)
      refine W.ite rfl (fun h => ?_) (fun h => ?_)
      · repeat (first | refine W.seq ?_ | refine W.block ?_ | refine W.reg ?_ | refine W.skip ?_ | refine W.exit ?_ | refine W.ret ?_ | refine L.nil ?_ | refine L.p rfl rfl ?_ | refine L.skip rfl ?_)
        rw [wrap64 (show -9223372036854775808 ≤ ((m.length : Int) + 1) by omega) (by omega)]
        refine L.from (i := m.length + 1) rfl rfl (by omega) rfl rfl ?_
        repeat (first | refine W.seq ?_ | refine W.block ?_ | refine W.reg ?_ | refine W.skip ?_ | refine W.exit ?_ | refine W.ret ?_ | refine L.nil ?_ | refine L.p rfl rfl ?_ | refine L.skip rfl ?_)
        refine L.sB rfl rfl hyg rfl rfl ?_
        repeat (first | refine W.seq ?_ | refine W.block ?_ | refine W.reg ?_ | refine W.skip ?_ | refine W.exit ?_ | refine W.ret ?_ | refine L.nil ?_ | refine L.p rfl rfl ?_ | refine L.skip rfl ?_)
        refine L.cl (indexByte_C (l.drop (m.length + 1)) y _) rfl rfl ?_
        rintro _ _ ⟨rfl, rfl⟩
        rw [find_no (fun z hz e => by have := hl z (List.mem_of_mem_drop hz); subst e; omega)]
        refine ⟨fun _ => Cons.refl _, ?_⟩
        repeat (first | refine W.seq ?_ | refine W.block ?_ | refine W.reg ?_ | refine W.skip ?_ | refine W.exit ?_ | refine W.ret ?_ | refine L.nil ?_ | refine L.p rfl rfl ?_ | refine L.skip rfl ?_)
        refine W.ite rfl (fun h => ?_) (fun h => ?_)
        · repeat (first | refine W.seq ?_ | refine W.block ?_ | refine W.reg ?_ | refine W.skip ?_ | refine W.exit ?_ | refine W.ret ?_ | refine L.nil ?_ | refine L.p rfl rfl ?_ | refine L.skip rfl ?_)
          exact ⟨nofun, nofun, .inr rfl, _, rfl, rfl, Cons.refl _⟩
        · cases h
      · have : (x.toNat : Int) = (y.toNat : Int) := by simpa [bne] using h
        omega
/-- hex's digits -/
def hexB : BL := hexT.map (BitVec.ofNat 8)
/-- a letter's worth in hex -/
def hexV (c : Nat) : Option Nat := if 48 ≤ c ∧ c ≤ 57 then some (c - 48) else if 97 ≤ c ∧ c ≤ 102 then some (c - 87) else if 65 ≤ c ∧ c ≤ 70 then some (c - 55) else none
theorem hexV_lt {c n : Nat} (h : hexV c = some n) : n < 16 := by
  unfold hexV at h
  split at h
  · cases h; omega
  · split at h
    · cases h; omega
    · split at h
      · cases h; omega
      · cases h
theorem hexV_ge {c : Nat} (h : 128 ≤ c) : hexV c = none := by
  unfold hexV
  rw [if_neg (by omega), if_neg (by omega), if_neg (by omega)]
def lowN (c : Nat) : Nat := if 65 ≤ c ∧ c ≤ 70 then c + 32 else c
theorem hexB_find {c : Nat} (h : c < 256) : findI hexB (BitVec.ofNat 8 (lowN c)) = hexV c := by
  have : ∀ n : Fin 256, findI hexB (BitVec.ofNat 8 (lowN n.val)) = hexV n.val := by decide +kernel
  exact this ⟨c, h⟩
theorem valid_add {r : Nat} (h : r < 128) : Utf8.valid (r : Int) = true := by
  unfold Utf8.valid
  simp
  omega
theorem digit_C (r : Nat) (hv : Utf8.valid r = true) (S : Mem) :
    C Tryd.prog G Ext 27 [.int .i32 r] S fun v S' => v = .int .i64 (oi (hexV r)) ∧ Cons S S' := by
  have hA : (⟨#[48, 49, 50, 51, 52, 53, 54, 55, 56, 57, 97, 98, 99, 100, 101, 102]⟩ : ByteArray) = strB hexB := by decide +kernel
  have hlow : ∀ x ∈ hexB, x.toNat < 128 := by decide +kernel
  have hlen : hexB.length = 16 := by decide +kernel
  refine C.fn Tryd.func27 rfl (by kernel_rfl) rfl ?_
  have hres : (if lowN r < 128 then findI hexB (BitVec.ofNat 8 (lowN r)) else none) = hexV r := by
    by_cases h : r < 128
    · rw [if_pos (by unfold lowN; split <;> omega), hexB_find (by omega)]
    · rw [if_neg (by unfold lowN; split <;> omega), hexV_ge (by omega)]
  have hvl : Utf8.valid (lowN r : Nat) = true := by
    unfold lowN
    split
    · exact valid_add (by omega)
    · exact hv
  have hI := indexRune_C (G := G) (Ext := Ext) hexB hlow (by omega) (by omega) (lowN r) hvl S
  rw [hres, ← hA] at hI
  repeat (first | refine W.seq ?_ | refine W.block ?_ | refine W.reg ?_ | refine W.skip ?_ | refine W.exit ?_ | refine W.ret ?_ | refine L.nil ?_ | refine L.p rfl rfl ?_ | refine L.skip rfl ?_)
  by_cases h65 : 65 ≤ r
  · rw [show decide ((r : Int) ≥ 65) = true from decide_eq_true (by omega)]
    repeat (first | refine W.seq ?_ | refine W.block ?_ | refine W.reg ?_ | refine W.skip ?_ | refine W.exit ?_ | refine W.ret ?_ | refine L.nil ?_ | refine L.p rfl rfl ?_ | refine L.skip rfl ?_)
    refine W.ite rfl (fun h => ?_) (fun h => ?_)
    · have h70 : r ≤ 70 := by have := of_decide_eq_true h; omega
      repeat (first | refine W.seq ?_ | refine W.block ?_ | refine W.reg ?_ | refine W.skip ?_ | refine W.exit ?_ | refine W.ret ?_ | refine L.nil ?_ | refine L.p rfl rfl ?_ | refine L.skip rfl ?_)
      rw [show lowN r = r + 32 by unfold lowN; rw [if_pos ⟨h65, h70⟩]] at hI
      have hw : IntKind.i32.wrap ((r : Int) + 32) = ((r + 32 : Nat) : Int) := by
        have : ∀ n : Fin 71, IntKind.i32.wrap ((n.val : Int) + 32) = ((n.val + 32 : Nat) : Int) := by decide +kernel
        exact this ⟨r, by omega⟩
      rw [hw]
      refine L.cl hI rfl rfl ?_
      rintro _ S1 ⟨rfl, hc⟩
      refine ⟨nofun, ?_⟩
      repeat (first | refine W.seq ?_ | refine W.block ?_ | refine W.reg ?_ | refine W.skip ?_ | refine W.exit ?_ | refine W.ret ?_ | refine L.nil ?_ | refine L.p rfl rfl ?_ | refine L.skip rfl ?_)
      exact ⟨.inr rfl, _, rfl, rfl, hc⟩
    · have h70 : ¬ r ≤ 70 := by have := of_decide_eq_false h; omega
      rw [show lowN r = r by unfold lowN; rw [if_neg (by omega)]] at hI
      repeat (first | refine W.seq ?_ | refine W.block ?_ | refine W.reg ?_ | refine W.skip ?_ | refine W.exit ?_ | refine W.ret ?_ | refine L.nil ?_ | refine L.p rfl rfl ?_ | refine L.skip rfl ?_)
      refine L.cl hI rfl rfl ?_
      rintro _ S1 ⟨rfl, hc⟩
      refine ⟨nofun, ?_⟩
      repeat (first | refine W.seq ?_ | refine W.block ?_ | refine W.reg ?_ | refine W.skip ?_ | refine W.exit ?_ | refine W.ret ?_ | refine L.nil ?_ | refine L.p rfl rfl ?_ | refine L.skip rfl ?_)
      exact ⟨.inr rfl, _, rfl, rfl, hc⟩
  · rw [show decide ((r : Int) ≥ 65) = false from decide_eq_false (by omega)]
    rw [show lowN r = r by unfold lowN; rw [if_neg (by omega)]] at hI
    repeat (first | refine W.seq ?_ | refine W.block ?_ | refine W.reg ?_ | refine W.skip ?_ | refine W.exit ?_ | refine W.ret ?_ | refine L.nil ?_ | refine L.p rfl rfl ?_ | refine L.skip rfl ?_)
    refine W.ite rfl (fun h => ?_) (fun h => ?_)
    · cases h
    repeat (first | refine W.seq ?_ | refine W.block ?_ | refine W.reg ?_ | refine W.skip ?_ | refine W.exit ?_ | refine W.ret ?_ | refine L.nil ?_ | refine L.p rfl rfl ?_ | refine L.skip rfl ?_)
    refine L.cl hI rfl rfl ?_
    rintro _ S1 ⟨rfl, hc⟩
    refine ⟨nofun, ?_⟩
    repeat (first | refine W.seq ?_ | refine W.block ?_ | refine W.reg ?_ | refine W.skip ?_ | refine W.exit ?_ | refine W.ret ?_ | refine L.nil ?_ | refine L.p rfl rfl ?_ | refine L.skip rfl ?_)
    exact ⟨.inr rfl, _, rfl, rfl, hc⟩
end Go.Proofs.YtkiecgkgbogbaaaDoor

/- Bytes handed out while a text is walked along. Conditions: none. -/
set_option linter.unusedSimpArgs false
set_option linter.unusedVariables false
namespace Go.Proofs.YtkiecgkgbogbaaaDoor
open Go
def OutI (S T : Mem) (rb : Nat) (s : ByteArray) (p : Nat) (d : Hd) (m : BL) : Prop := Cons S T ∧ S.length ≤ rb ∧ T[rb]? = some (itR s p) ∧ m.length < 1099511627776 ∧ HdOk T 5 d (bv m) ∧ ∀ b, d.a = some b → S.length ≤ b ∧ b ≠ rb
theorem OutI.new (S : Mem) (s : ByteArray) : OutI S (S ++ [itR s 0]) S.length s 0 HdN [] := ⟨Cons.push _ _, Nat.le_refl _, by simp, by decide, HdOk.nil _ _, nofun⟩
theorem OutI.step {S T : Mem} {rb p : Nat} {s : ByteArray} {d : Hd} {m : BL} (h : OutI S T rb s p d m) (q : Nat) : OutI S (T.set rb (itR s q)) rb s q d m := by
  obtain ⟨h1, h2, h3, h4, h5, h6⟩ := h
  have hk := keepL_set T rb (itR s q)
  refine ⟨hk.cons0 h1 (fun b hb => by simp at hb; omega), h2, ?_, h4, h5.keep hk (fun b hb hm => ?_), h6⟩
  · rw [List.getElem?_set, if_pos rfl, if_pos (List.getElem?_eq_some_iff.1 h3).1]
  · simp at hm; exact (h6 b hb).2 hm
theorem OutI.cons {S T T2 : Mem} {rb p : Nat} {s : ByteArray} {d : Hd} {m : BL} (h : OutI S T rb s p d m) (k : Cons T T2) : OutI S T2 rb s p d m := by
  obtain ⟨h1, h2, h3, h4, h5, h6⟩ := h
  exact ⟨h1.trans k, h2, by rw [k rb (List.getElem?_eq_some_iff.1 h3).1]; exact h3, h4, h5.cons k, h6⟩
theorem OutI.out {S T : Mem} {rb p : Nat} {s : ByteArray} {d : Hd} {m : BL} (h : OutI S T rb s p d m) : OutB S T d m := ⟨h.1, h.2.2.2.1, h.2.2.2.2.1, fun b hb => (h.2.2.2.2.2 b hb).1⟩
section
variable {P : Program} {G : Nat} {Ext : FuncId → List Value → Mem → Outc → Mem → Prop} {e : Env} {S S0 : Mem} {fl : Bool} {ops : Array Oper} {K : Kont}
variable {rest : List Oper} {dst dst2 : Option Tmp} {ty ty2 : TypeId} {pos pos2 : String} {af af2 : Array Edge} {gd gd2 : Option (Nat × Bool)} {d : Tmp}
theorem L.pushI {t ts xs : TypeId} {s y : Operand} {bytes : Nat} {h : Hd} {l : BL} {rb p0 : Nat} {str : ByteArray} (x : BitVec 8) (hok : appOk P ts xs = some (5, 1, bytes)) (hg : OutI S0 S rb str p0 h l)
    (hb : bldOk P t = some (5, 1)) (hy : e.eval y = v8 x)
    (w1 : awanted ops ⟨some d, .buildSlice t 1 #[(0, y)], ty, pos, af, gd⟩ e = true)
    (hs : (e.put (some d) (.slice (some ⟨S.length, 0, none⟩) 1 1)).eval s = h.v) (hroom : l.length < 1000000) (hby : (Nat.ble 1 bytes && Nat.ble bytes 64) = true)
    (w2 : ∀ p, awanted ops ⟨dst2, .call ⟨.builtin .append, #[s, .tmp d], #[ts, xs]⟩, ty2, pos2, af2, gd2⟩ (e.put (some d) p) = true)
    (k : ∀ p h' S', OutI S0 S' rb str p0 h' (l ++ [x]) → L P G Ext fl ops rest ((e.put (some d) p).put dst2 (Hd.v h')) S' K) :
    L P G Ext fl ops (⟨some d, .buildSlice t 1 #[(0, y)], ty, pos, af, gd⟩ :: ⟨dst2, .call ⟨.builtin .append, #[s, .tmp d], #[ts, xs]⟩, ty2, pos2, af2, gd2⟩ :: rest) e S K := by
  obtain ⟨h1, h2, h3, h4, h5, h6⟩ := hg
  have hl := h5.len
  rw [bv_len] at hl
  refine L.pushH (w := v8 x) hok h5 hb hy rfl w1 hs (by omega) hby w2 fun p h' S' q1 q2 q3 q4 => k p h' S' ?_
  obtain ⟨b', q3, q5⟩ := q3
  have hrl := (List.getElem?_eq_some_iff.1 h3).1
  refine ⟨q4.cons0 h1 (fun b hb => (h6 b (by simpa using hb)).1), h2, ?_, by rw [List.length_append]; simp; omega, by rw [bv_app]; exact q1, fun b hb => ?_⟩
  · rw [q4.2 rb hrl (fun hm => (h6 rb (by simpa using hm)).2 rfl)]; exact h3
  · rw [q3] at hb; cases hb
    exact ⟨Nat.le_trans h1.len q5, by omega⟩
end
end Go.Proofs.YtkiecgkgbogbaaaDoor

/- Layer 6: hex read. Conditions: none. -/
set_option linter.unusedSimpArgs false
set_option linter.unusedVariables false
set_option maxRecDepth 100000
namespace Go.Proofs.YtkiecgkgbogbaaaDoor
open Go
variable {G : Nat} {Ext : FuncId → List Value → Mem → Outc → Mem → Prop}
/-- hex read: the half that was read already; the letters -/
def unhexH : Option Nat → BL → Option BL
  | none, [] => some []
  | some _, [] => none
  | none, x :: l => (hexV x.toNat).bind fun a => unhexH (some a) l
  | some a, x :: l => (hexV x.toNat).bind fun b => (unhexH none l).map (BitVec.ofNat 8 (16 * a + b) :: ·)
/-- what is handed out: bytes, or an error -/
def ResB (S S' : Mem) (v : Value) (o : Option BL) (code : Int) : Prop := match o with
  | some m => ∃ d : Hd, v = .tuple #[d.v, .int .i64 0] ∧ OutB S S' d m
  | none => v = .tuple #[.slice none 0 0, .int .i64 code] ∧ Cons S S'
theorem shl_or {a b : Nat} (ha : a < 16) (hb : b < 16) : IntKind.u8.wrap (IntKind.i64.wrap ((BitVec.ofInt IntKind.i64.bits (IntKind.i64.wrap ((a : Int) * 2 ^ 4)) ||| BitVec.ofInt IntKind.i64.bits (b : Int)).toNat : Int)) = ((BitVec.ofNat 8 (16 * a + b)).toNat : Int) := by
  have : ∀ (x y : Fin 16), IntKind.u8.wrap (IntKind.i64.wrap ((BitVec.ofInt IntKind.i64.bits (IntKind.i64.wrap ((x.val : Int) * 2 ^ 4)) ||| BitVec.ofInt IntKind.i64.bits (y.val : Int)).toNat : Int)) = ((BitVec.ofNat 8 (16 * x.val + y.val)).toNat : Int) := by decide +kernel
  exact this ⟨a, ha⟩ ⟨b, hb⟩
theorem unhex_C (l : BL) (hl : l.length < 100000) (S : Mem) :
    C Tryd.prog G Ext 15 [.string (strB l)] S fun v S' => ResB S S' v (unhexH none l) 60 := by
  refine C.fn Tryd.func15 rfl (by kernel_rfl) rfl ?_
  repeat (first | refine W.seq ?_ | refine W.block ?_ | refine W.reg ?_ | refine W.skip ?_ | refine W.exit ?_ | refine W.ret ?_ | refine L.nil ?_ | refine L.p rfl rfl ?_ | refine L.skip rfl ?_)
  refine L.range rfl rfl rfl ?_
  have hO := OutI.new S (strB l)
  generalize S ++ [itR (strB l) 0] = T at *
  obtain ⟨rb, hrb⟩ : ∃ rb, rb = S.length := ⟨_, rfl⟩
  rw [← hrb] at hO ⊢
  repeat (first | refine W.seq ?_ | refine W.block ?_ | refine W.reg ?_ | refine W.skip ?_ | refine W.exit ?_ | refine W.ret ?_ | refine L.nil ?_ | refine L.p rfl rfl ?_ | refine L.skip rfl ?_)
  refine W.loop (fun j e T' => ∃ i d m ho, j = l.length - i ∧ i ≤ l.length ∧ m.length ≤ i ∧ OutI S T' rb (strB l) i d m ∧ unhexH none l = (unhexH ho (l.drop i)).map (m ++ ·) ∧ (∀ a, ho = some a → a < 16) ∧ e 4 = d.v ∧ e 5 = .int .i64 (oi ho) ∧ e 10 = .pointer (some ⟨rb, 0, none⟩)) l.length
    ⟨0, HdN, [], none, by omega, by omega, by simp, hO, by simp, nofun, rfl, rfl, rfl⟩ ?_
  clear hO
  rintro j e T ⟨i, d, m, ho, rfl, hi, hmi, hO, hu, hh, e4, e5, e10⟩
  refine W.env3 e4 e5 e10 ?_
  by_cases hin : i < l.length
  · obtain ⟨x, hx⟩ : ∃ x, l[i]? = some x := ⟨_, List.getElem?_eq_getElem hin⟩
    obtain ⟨r, w, hd, hv, hw1, hr⟩ : ∃ r w, Utf8.decode (strB l) i = (r, w) ∧ Utf8.valid (r : Nat) = true ∧ 1 ≤ w ∧ ((r = x.toNat ∧ w = 1) ∨ (128 ≤ r ∧ 128 ≤ x.toNat)) := by
      by_cases h8 : x.toNat < 128
      · exact ⟨_, _, decode_lt hx h8, valid_add h8, by omega, .inl ⟨rfl, rfl⟩⟩
      · obtain ⟨r, w, h1, h2, h3, h4⟩ := decode_ge hx (by omega)
        exact ⟨r, w, h1, h3, h4, .inr ⟨h2, by omega⟩⟩
    have hdr : l.drop i = x :: l.drop (i + 1) := by
      rw [List.drop_eq_getElem_cons hin]
      rw [(List.getElem?_eq_some_iff.1 hx).2]
    have hV : hexV r = hexV x.toNat := by
      rcases hr with ⟨rfl, _⟩ | ⟨h1, h2⟩
      · rfl
      · rw [hexV_ge h1, hexV_ge h2]
    repeat (first | refine W.seq ?_ | refine W.block ?_ | refine W.reg ?_ | refine W.skip ?_ | refine W.exit ?_ | refine W.ret ?_ | refine L.nil ?_ | refine L.p rfl rfl ?_ | refine L.skip rfl ?_)
    refine L.nextM rfl rfl hO.2.2.1 (by rw [strB_size]; exact hin) hd ?_
    have hO1 := hO.step (i + w)
    generalize List.set T rb (itR (strB l) (i + w)) = T1 at *
    repeat (first | refine W.seq ?_ | refine W.block ?_ | refine W.reg ?_ | refine W.skip ?_ | refine W.exit ?_ | refine W.ret ?_ | refine L.nil ?_ | refine L.p rfl rfl ?_ | refine L.skip rfl ?_)
    refine W.ite rfl (fun h => ?_) (fun h => ?_)
    rotate_left
    · cases h
    repeat (first | refine W.seq ?_ | refine W.block ?_ | refine W.reg ?_ | refine W.skip ?_ | refine W.exit ?_ | refine W.ret ?_ | refine L.nil ?_ | refine L.p rfl rfl ?_ | refine L.skip rfl ?_)
    refine L.cl (digit_C r hv T1) rfl rfl ?_
    rintro _ T2 ⟨rfl, hc⟩
    refine ⟨nofun, ?_⟩
    have hO2 := hO1.cons hc
    rw [hV]
    cases hxv : hexV x.toNat with
    | none =>
      have hun : unhexH none l = none := by
        rw [hu, hdr]
        cases ho <;> simp [unhexH, hxv]
      repeat (first | refine W.seq ?_ | refine W.block ?_ | refine W.reg ?_ | refine W.skip ?_ | refine W.exit ?_ | refine W.ret ?_ | refine L.nil ?_ | refine L.p rfl rfl ?_ | refine L.skip rfl ?_)
      refine W.ite rfl (fun h => ?_) (fun h => ?_)
      · repeat (first | refine W.seq ?_ | refine W.block ?_ | refine W.reg ?_ | refine W.skip ?_ | refine W.exit ?_ | refine W.ret ?_ | refine L.nil ?_ | refine L.p rfl rfl ?_ | refine L.skip rfl ?_)
        refine ⟨.inr rfl, _, rfl, ?_⟩
        unfold ResB
        rw [hun]
        exact ⟨rfl, hO2.1⟩
      · cases h
    | some b =>
      have hb16 := hexV_lt hxv
      have hlt : x.toNat < 128 := by
        refine Classical.byContradiction fun hc => ?_
        rw [hexV_ge (by omega)] at hxv; cases hxv
      obtain ⟨rfl, rfl⟩ : r = x.toNat ∧ w = 1 := by
        rcases hr with h | h
        · exact h
        · omega
      repeat (first | refine W.seq ?_ | refine W.block ?_ | refine W.reg ?_ | refine W.skip ?_ | refine W.exit ?_ | refine W.ret ?_ | refine L.nil ?_ | refine L.p rfl rfl ?_ | refine L.skip rfl ?_)
      refine W.ite rfl (fun h => ?_) (fun h => ?_)
      · have := of_decide_eq_true h; simp only [oi] at this; omega
      repeat (first | refine W.seq ?_ | refine W.block ?_ | refine W.reg ?_ | refine W.skip ?_ | refine W.exit ?_ | refine W.ret ?_ | refine L.nil ?_ | refine L.p rfl rfl ?_ | refine L.skip rfl ?_)
      cases ho with
      | none =>
        refine W.ite rfl (fun h => ?_) (fun h => ?_)
        rotate_left
        · cases h
        repeat (first | refine W.seq ?_ | refine W.block ?_ | refine W.reg ?_ | refine W.skip ?_ | refine W.exit ?_ | refine W.ret ?_ | refine L.nil ?_ | refine L.p rfl rfl ?_ | refine L.skip rfl ?_)
        refine ⟨l.length - (i + 1), by omega, i + 1, d, m, some b, rfl, by omega, by omega, hO2, ?_, fun a h => by cases h; exact hb16, rfl, rfl, rfl⟩
        rw [hu, hdr]
        simp [unhexH, hxv]
      | some a =>
        have ha16 := hh a rfl
        refine W.ite rfl (fun h => ?_) (fun h => ?_)
        · have := of_decide_eq_true h; simp only [oi] at this; omega
        repeat (first | refine W.seq ?_ | refine W.block ?_ | refine W.reg ?_ | refine W.skip ?_ | refine W.exit ?_ | refine W.ret ?_ | refine L.nil ?_ | refine L.p rfl rfl ?_ | refine L.skip rfl ?_)
        refine L.pushI (BitVec.ofNat 8 (16 * a + b)) rfl hO2 rfl (congrArg (Value.int .u8) (shl_or ha16 hb16)) rfl rfl (by omega) rfl (fun _ => rfl) (fun p d3 T3 q => ?_)
        repeat (first | refine W.seq ?_ | refine W.block ?_ | refine W.reg ?_ | refine W.skip ?_ | refine W.exit ?_ | refine W.ret ?_ | refine L.nil ?_ | refine L.p rfl rfl ?_ | refine L.skip rfl ?_)
        refine ⟨l.length - (i + 1), by omega, i + 1, d3, m ++ [BitVec.ofNat 8 (16 * a + b)], none, rfl, by omega, by rw [List.length_append]; simp; omega, q, ?_, nofun, rfl, rfl, rfl⟩
        rw [hu, hdr]
        simp [unhexH, hxv]
        rfl
  · have hin : i = l.length := by omega
    subst hin
    rw [List.drop_length] at hu
    repeat (first | refine W.seq ?_ | refine W.block ?_ | refine W.reg ?_ | refine W.skip ?_ | refine W.exit ?_ | refine W.ret ?_ | refine L.nil ?_ | refine L.p rfl rfl ?_ | refine L.skip rfl ?_)
    refine L.nextO rfl rfl hO.2.2.1 (by rw [strB_size]; omega) ?_
    repeat (first | refine W.seq ?_ | refine W.block ?_ | refine W.reg ?_ | refine W.skip ?_ | refine W.exit ?_ | refine W.ret ?_ | refine L.nil ?_ | refine L.p rfl rfl ?_ | refine L.skip rfl ?_)
    refine W.ite rfl (fun h => ?_) (fun h => ?_)
    · cases h
    repeat (first | refine W.seq ?_ | refine W.block ?_ | refine W.reg ?_ | refine W.skip ?_ | refine W.exit ?_ | refine W.ret ?_ | refine L.nil ?_ | refine L.p rfl rfl ?_ | refine L.skip rfl ?_)
    cases ho with
    | none =>
      refine W.ite rfl (fun h => ?_) (fun h => ?_)
      · cases h
      repeat (first | refine W.seq ?_ | refine W.block ?_ | refine W.reg ?_ | refine W.skip ?_ | refine W.exit ?_ | refine W.ret ?_ | refine L.nil ?_ | refine L.p rfl rfl ?_ | refine L.skip rfl ?_)
      refine ⟨.inr rfl, _, rfl, ?_⟩
      unfold ResB
      have hu' : unhexH none l = some m := by rw [hu]; simp [unhexH]
      rw [hu']
      exact ⟨d, rfl, hO.out⟩
    | some a =>
      refine W.ite rfl (fun h => ?_) (fun h => ?_)
      rotate_left
      · have := of_decide_eq_false h; simp only [oi] at this; omega
      repeat (first | refine W.seq ?_ | refine W.block ?_ | refine W.reg ?_ | refine W.skip ?_ | refine W.exit ?_ | refine W.ret ?_ | refine L.nil ?_ | refine L.p rfl rfl ?_ | refine L.skip rfl ?_)
      refine ⟨.inr rfl, _, rfl, ?_⟩
      unfold ResB
      rw [hu]
      exact ⟨rfl, hO.1⟩
end Go.Proofs.YtkiecgkgbogbaaaDoor

/- Layer 6: the reference reads hex. Conditions: none. -/
set_option linter.unusedSimpArgs false
set_option linter.unusedVariables false
set_option maxRecDepth 100000
namespace Go.Proofs.YtkiecgkgbogbaaaDoor
open Go
variable {G : Nat} {Ext : FuncId → List Value → Mem → Outc → Mem → Prop}
theorem unhexH_odd : ∀ (l : BL) (o : Option Nat), (l.length + (if o.isSome then 1 else 0)) % 2 = 1 → unhexH o l = none
  | [], none, h => by simp at h
  | [], some _, _ => rfl
  | x :: l, none, h => by
    show (hexV x.toNat).bind _ = none
    cases hexV x.toNat with
    | none => rfl
    | some a => exact unhexH_odd l (some a) (by simp at h ⊢; omega)
  | x :: l, some a, h => by
    show (hexV x.toNat).bind _ = none
    cases hexV x.toNat with
    | none => rfl
    | some b =>
      show (unhexH none l).map _ = none
      rw [unhexH_odd l none (by simp at h ⊢; omega)]; rfl
def foldH (ds : List Nat) : Nat := ds.foldl (fun x d => 16 * x + d) 0
theorem foldH_snoc (ds : List Nat) (d : Nat) : foldH (ds ++ [d]) = 16 * foldH ds + d := by unfold foldH; rw [List.foldl_append]; rfl
theorem unhex_bad {ds : List Nat} {l : BL} {x : BitVec 8} (hd : ds.length < 2) (h : ds.map some = (l.take ds.length).map (fun x => hexV x.toNat)) (hx : l[ds.length]? = some x) (hv : hexV x.toNat = none) : unhexH none l = none := by
  match ds, hd with
  | [], _ =>
    cases l with
    | nil => simp at hx
    | cons y l => simp at hx; subst hx; show (hexV y.toNat).bind _ = _; rw [hv]; rfl
  | [a], _ =>
    cases l with
    | nil => simp at hx
    | cons y l =>
      simp at h
      cases l with
      | nil => show (hexV y.toNat).bind _ = _; rw [← h]; rfl
      | cons z l =>
        simp at hx; subst hx
        show (hexV y.toNat).bind _ = _
        rw [← h]
        show (hexV z.toNat).bind _ = _
        rw [hv]; rfl
theorem unhex_two {ds : List Nat} {l : BL} (hd : ds.length = 2) (hl : 2 ≤ l.length) (h : ds.map some = (l.take ds.length).map (fun x => hexV x.toNat)) : ∃ a b, ds = [a, b] ∧ a < 16 ∧ b < 16 ∧ unhexH none l = (unhexH none (l.drop 2)).map (BitVec.ofNat 8 (16 * a + b) :: ·) := by
  match ds, hd, l, hl with
  | [a, b], _, x :: y :: l, _ =>
    simp at h
    refine ⟨a, b, rfl, hexV_lt h.1.symm, hexV_lt h.2.symm, ?_⟩
    show (hexV x.toNat).bind _ = _
    rw [← h.1]
    show (hexV y.toNat).bind _ = _
    rw [← h.2]; rfl
theorem low_wrap {x : BitVec 8} (h1 : 65 ≤ x.toNat) (h2 : x.toNat ≤ 70) : IntKind.u8.wrap (IntKind.u8.wrap ((x.toNat : Int) + 97) - 65) = ((BitVec.ofNat 8 (lowN x.toNat)).toNat : Int) := by
  have : ∀ n : Fin 256, 65 ≤ n.val → n.val ≤ 70 → IntKind.u8.wrap (IntKind.u8.wrap ((n.val : Int) + 97) - 65) = ((BitVec.ofNat 8 (lowN n.val)).toNat : Int) := by decide +kernel
  exact this ⟨x.toNat, x.isLt⟩ h1 h2
theorem refUnhex_C (l : BL) (hl : l.length < 100000) (S : Mem) :
    C Tryd.prog G Ext 17 [.string (strB l)] S fun v S' => ResB S S' v (unhexH none l) 60 := by
  have hA : (⟨#[48, 49, 50, 51, 52, 53, 54, 55, 56, 57, 97, 98, 99, 100, 101, 102]⟩ : ByteArray) = strB hexB := by decide +kernel
  refine C.fn Tryd.func17 rfl (by kernel_rfl) rfl ?_
  repeat (first | refine W.seq ?_ | refine W.block ?_ | refine W.reg ?_ | refine W.skip ?_ | refine W.exit ?_ | refine W.ret ?_ | refine L.nil ?_ | refine L.p rfl rfl ?_ | refine L.skip rfl ?_)
  refine L.tlen rfl rfl rfl rfl ?_
  repeat (first | refine W.seq ?_ | refine W.block ?_ | refine W.reg ?_ | refine W.skip ?_ | refine W.exit ?_ | refine W.ret ?_ | refine L.nil ?_ | refine L.p rfl rfl ?_ | refine L.skip rfl ?_)
  rw [show (l.length : Int).tmod 2 = ((l.length % 2 : Nat) : Int) from (Int.ofNat_tmod l.length 2).symm]
  repeat (first | refine W.seq ?_ | refine W.block ?_ | refine W.reg ?_ | refine W.skip ?_ | refine W.exit ?_ | refine W.ret ?_ | refine L.nil ?_ | refine L.p rfl rfl ?_ | refine L.skip rfl ?_)
  refine W.ite rfl (fun h => ?_) (fun h => ?_)
  · have ho : l.length % 2 = 1 := by have := of_decide_eq_true h; omega
    repeat (first | refine W.seq ?_ | refine W.block ?_ | refine W.reg ?_ | refine W.skip ?_ | refine W.exit ?_ | refine W.ret ?_ | refine L.nil ?_ | refine L.p rfl rfl ?_ | refine L.skip rfl ?_)
    refine ⟨.inr rfl, _, rfl, ?_⟩
    unfold ResB
    rw [unhexH_odd l none (by simpa using ho)]
    exact ⟨rfl, Cons.refl _⟩
  have hev : l.length % 2 = 0 := by have := of_decide_eq_false h; omega
  clear h
  repeat (first | refine W.seq ?_ | refine W.block ?_ | refine W.reg ?_ | refine W.skip ?_ | refine W.exit ?_ | refine W.ret ?_ | refine L.nil ?_ | refine L.p rfl rfl ?_ | refine L.skip rfl ?_)
  refine W.loop (fun j e T' => ∃ i d m, j = l.length - i ∧ i ≤ l.length ∧ i % 2 = 0 ∧ m.length ≤ i ∧ OutB S T' d m ∧ unhexH none l = (unhexH none (l.drop i)).map (m ++ ·) ∧ e 0 = .string (strB l) ∧ e 4 = d.v ∧ e 5 = vi i) l.length
    ⟨0, HdN, [], by omega, by omega, rfl, by simp, OutB.nil (Cons.refl _), by simp, rfl, rfl, rfl⟩ ?_
  rintro j e T ⟨i, d, m, rfl, hi, hi2, hmi, hO, hu, e0, e4, e5⟩
  refine W.env3 e0 e4 e5 ?_
  repeat (first | refine W.seq ?_ | refine W.block ?_ | refine W.reg ?_ | refine W.skip ?_ | refine W.exit ?_ | refine W.ret ?_ | refine L.nil ?_ | refine L.p rfl rfl ?_ | refine L.skip rfl ?_)
  refine L.tlen rfl rfl rfl rfl ?_
  repeat (first | refine W.seq ?_ | refine W.block ?_ | refine W.reg ?_ | refine W.skip ?_ | refine W.exit ?_ | refine W.ret ?_ | refine L.nil ?_ | refine L.p rfl rfl ?_ | refine L.skip rfl ?_)
  refine W.ite rfl (fun h => ?_) (fun h => ?_)
  · have hin : i < l.length := by have := of_decide_eq_true h; omega
    clear h
    repeat (first | refine W.seq ?_ | refine W.block ?_ | refine W.reg ?_ | refine W.skip ?_ | refine W.exit ?_ | refine W.ret ?_ | refine L.nil ?_ | refine L.p rfl rfl ?_ | refine L.skip rfl ?_)
    refine W.loop (fun j e T' => ∃ ds : List Nat, j = 2 - ds.length ∧ ds.length ≤ 2 ∧ T' = T ∧ ds.map some = ((l.drop i).take ds.length).map (fun x => hexV x.toNat) ∧ foldH ds < 16 ^ ds.length ∧ e 0 = .string (strB l) ∧ e 4 = d.v ∧ e 5 = vi i ∧ e 6 = vi (foldH ds) ∧ e 7 = vi (i + ds.length)) 2
      ⟨[], rfl, by simp, rfl, rfl, by decide, rfl, rfl, rfl, rfl, rfl⟩ ?_
    clear e0 e4 e5 e
    rintro j e T' ⟨ds, rfl, hds, rfl, hdv, hf, e0, e4, e5, e6, e7⟩
    refine W.env5 e0 e4 e5 e6 e7 ?_
    repeat (first | refine W.seq ?_ | refine W.block ?_ | refine W.reg ?_ | refine W.skip ?_ | refine W.exit ?_ | refine W.ret ?_ | refine L.nil ?_ | refine L.p rfl rfl ?_ | refine L.skip rfl ?_)
    rw [wrap64 (show -9223372036854775808 ≤ ((i : Int) + 2) by omega) (by omega)]
    repeat (first | refine W.seq ?_ | refine W.block ?_ | refine W.reg ?_ | refine W.skip ?_ | refine W.exit ?_ | refine W.ret ?_ | refine L.nil ?_ | refine L.p rfl rfl ?_ | refine L.skip rfl ?_)
    refine W.ite rfl (fun h => ?_) (fun h => ?_)
    · have hd2 : ds.length < 2 := by have := of_decide_eq_true h; omega
      clear h
      obtain ⟨x, hx⟩ : ∃ x, l[i + ds.length]? = some x := ⟨_, List.getElem?_eq_getElem (by omega)⟩
      repeat (first | refine W.seq ?_ | refine W.block ?_ | refine W.reg ?_ | refine W.skip ?_ | refine W.exit ?_ | refine W.ret ?_ | refine L.nil ?_ | refine L.p rfl rfl ?_ | refine L.skip rfl ?_)
      refine L.sB (i := i + ds.length) rfl rfl hx rfl rfl ?_
      repeat (first | refine W.seq ?_ | refine W.block ?_ | refine W.reg ?_ | refine W.skip ?_ | refine W.exit ?_ | refine W.ret ?_ | refine L.nil ?_ | refine L.p rfl rfl ?_ | refine L.skip rfl ?_)
      have hx8 := x.isLt
      have hF := refFind_C (G := G) (Ext := Ext) hexB (BitVec.ofNat 8 (lowN x.toNat)) T' (by decide +kernel)
      rw [hexB_find hx8, ← hA] at hF
      have hdt : (l.drop i).take (ds.length + 1) = (l.drop i).take ds.length ++ [x] := by
        rw [List.take_add_one, List.getElem?_drop, hx]; rfl
      by_cases h65 : 65 ≤ x.toNat
      · rw [show decide ((x.toNat : Int) ≥ 65) = true from decide_eq_true (by omega)]
        repeat (first | refine W.seq ?_ | refine W.block ?_ | refine W.reg ?_ | refine W.skip ?_ | refine W.exit ?_ | refine W.ret ?_ | refine L.nil ?_ | refine L.p rfl rfl ?_ | refine L.skip rfl ?_)
        refine W.ite rfl (fun h => ?_) (fun h => ?_)
        · have h70 : x.toNat ≤ 70 := by have := of_decide_eq_true h; omega
          repeat (first | refine W.seq ?_ | refine W.block ?_ | refine W.reg ?_ | refine W.skip ?_ | refine W.exit ?_ | refine W.ret ?_ | refine L.nil ?_ | refine L.p rfl rfl ?_ | refine L.skip rfl ?_)
          rw [low_wrap h65 h70]
          repeat (first | refine W.seq ?_ | refine W.block ?_ | refine W.reg ?_ | refine W.skip ?_ | refine W.exit ?_ | refine W.ret ?_ | refine L.nil ?_ | refine L.p rfl rfl ?_ | refine L.skip rfl ?_)
          refine L.cl hF rfl rfl ?_
          rintro _ _ ⟨rfl, rfl⟩
          refine ⟨nofun, ?_⟩
          cases hxv : hexV x.toNat with
          | none =>
            repeat (first | refine W.seq ?_ | refine W.block ?_ | refine W.reg ?_ | refine W.skip ?_ | refine W.exit ?_ | refine W.ret ?_ | refine L.nil ?_ | refine L.p rfl rfl ?_ | refine L.skip rfl ?_)
            refine W.ite rfl (fun h => ?_) (fun h => ?_)
            rotate_left
            · cases h
            repeat (first | refine W.seq ?_ | refine W.block ?_ | refine W.reg ?_ | refine W.skip ?_ | refine W.exit ?_ | refine W.ret ?_ | refine L.nil ?_ | refine L.p rfl rfl ?_ | refine L.skip rfl ?_)
            refine ⟨.inr rfl, _, rfl, ?_⟩
            unfold ResB
            rw [hu, unhex_bad hd2 hdv (by rw [List.getElem?_drop]; exact hx) hxv]
            exact ⟨rfl, hO.1⟩
          | some v =>
            have hv16 := hexV_lt hxv
            repeat (first | refine W.seq ?_ | refine W.block ?_ | refine W.reg ?_ | refine W.skip ?_ | refine W.exit ?_ | refine W.ret ?_ | refine L.nil ?_ | refine L.p rfl rfl ?_ | refine L.skip rfl ?_)
            refine W.ite rfl (fun h => ?_) (fun h => ?_)
            · have := of_decide_eq_true h; simp only [oi] at this; omega
            repeat (first | refine W.seq ?_ | refine W.block ?_ | refine W.reg ?_ | refine W.skip ?_ | refine W.exit ?_ | refine W.ret ?_ | refine L.nil ?_ | refine L.p rfl rfl ?_ | refine L.skip rfl ?_)
            have hf2 : foldH ds < 16 := by
              have : ds.length = 0 ∨ ds.length = 1 := by omega
              rcases this with h | h <;> rw [h] at hf <;> omega
            have hpow : 16 ^ (ds.length + 1) = 16 * 16 ^ ds.length := by rw [Nat.pow_succ]; omega
            refine ⟨2 - (ds ++ [v]).length, by simp; omega, ds ++ [v], rfl, by simp; omega, rfl, ?_, by rw [foldH_snoc, List.length_append, List.length_singleton, hpow]; omega, rfl, rfl, rfl, ?_, ?_⟩
            · rw [List.length_append, List.length_singleton, hdt, List.map_append, List.map_append, hdv]
              simp [hxv]
            · refine (force_eq rfl).trans ?_
              rw [foldH_snoc]
              simp only [oi]
              rw [wrap64 (show -9223372036854775808 ≤ (16 * (foldH ds : Int)) by omega) (by omega), wrap64 (by omega) (by omega)]
              exact congrArg (Value.int .i64) (by omega)
            · refine (force_eq rfl).trans ?_
              rw [wrap64 (by omega) (by omega), List.length_append]; rfl
        · have h70 : ¬ x.toNat ≤ 70 := by have := of_decide_eq_false h; omega
          rw [show lowN x.toNat = x.toNat by unfold lowN; rw [if_neg (by omega)], BitVec.ofNat_toNat, BitVec.setWidth_eq] at hF
          repeat (first | refine W.seq ?_ | refine W.block ?_ | refine W.reg ?_ | refine W.skip ?_ | refine W.exit ?_ | refine W.ret ?_ | refine L.nil ?_ | refine L.p rfl rfl ?_ | refine L.skip rfl ?_)
          refine L.cl hF rfl rfl ?_
          rintro _ _ ⟨rfl, rfl⟩
          refine ⟨nofun, ?_⟩
          cases hxv : hexV x.toNat with
          | none =>
            repeat (first | refine W.seq ?_ | refine W.block ?_ | refine W.reg ?_ | refine W.skip ?_ | refine W.exit ?_ | refine W.ret ?_ | refine L.nil ?_ | refine L.p rfl rfl ?_ | refine L.skip rfl ?_)
            refine W.ite rfl (fun h => ?_) (fun h => ?_)
            rotate_left
            · cases h
            repeat (first | refine W.seq ?_ | refine W.block ?_ | refine W.reg ?_ | refine W.skip ?_ | refine W.exit ?_ | refine W.ret ?_ | refine L.nil ?_ | refine L.p rfl rfl ?_ | refine L.skip rfl ?_)
            refine ⟨.inr rfl, _, rfl, ?_⟩
            unfold ResB
            rw [hu, unhex_bad hd2 hdv (by rw [List.getElem?_drop]; exact hx) hxv]
            exact ⟨rfl, hO.1⟩
          | some v =>
            have hv16 := hexV_lt hxv
            repeat (first | refine W.seq ?_ | refine W.block ?_ | refine W.reg ?_ | refine W.skip ?_ | refine W.exit ?_ | refine W.ret ?_ | refine L.nil ?_ | refine L.p rfl rfl ?_ | refine L.skip rfl ?_)
            refine W.ite rfl (fun h => ?_) (fun h => ?_)
            · have := of_decide_eq_true h; simp only [oi] at this; omega
            repeat (first | refine W.seq ?_ | refine W.block ?_ | refine W.reg ?_ | refine W.skip ?_ | refine W.exit ?_ | refine W.ret ?_ | refine L.nil ?_ | refine L.p rfl rfl ?_ | refine L.skip rfl ?_)
            have hf2 : foldH ds < 16 := by
              have : ds.length = 0 ∨ ds.length = 1 := by omega
              rcases this with h | h <;> rw [h] at hf <;> omega
            have hpow : 16 ^ (ds.length + 1) = 16 * 16 ^ ds.length := by rw [Nat.pow_succ]; omega
            refine ⟨2 - (ds ++ [v]).length, by simp; omega, ds ++ [v], rfl, by simp; omega, rfl, ?_, by rw [foldH_snoc, List.length_append, List.length_singleton, hpow]; omega, rfl, rfl, rfl, ?_, ?_⟩
            · rw [List.length_append, List.length_singleton, hdt, List.map_append, List.map_append, hdv]
              simp [hxv]
            · refine (force_eq rfl).trans ?_
              rw [foldH_snoc]
              simp only [oi]
              rw [wrap64 (show -9223372036854775808 ≤ (16 * (foldH ds : Int)) by omega) (by omega), wrap64 (by omega) (by omega)]
              exact congrArg (Value.int .i64) (by omega)
            · refine (force_eq rfl).trans ?_
              rw [wrap64 (by omega) (by omega), List.length_append]; rfl
      · rw [show lowN x.toNat = x.toNat by unfold lowN; rw [if_neg (by omega)], BitVec.ofNat_toNat, BitVec.setWidth_eq] at hF
        rw [show decide ((x.toNat : Int) ≥ 65) = false from decide_eq_false (by omega)]
        repeat (first | refine W.seq ?_ | refine W.block ?_ | refine W.reg ?_ | refine W.skip ?_ | refine W.exit ?_ | refine W.ret ?_ | refine L.nil ?_ | refine L.p rfl rfl ?_ | refine L.skip rfl ?_)
        refine W.ite rfl (fun h => ?_) (fun h => ?_)
        · cases h
        repeat (first | refine W.seq ?_ | refine W.block ?_ | refine W.reg ?_ | refine W.skip ?_ | refine W.exit ?_ | refine W.ret ?_ | refine L.nil ?_ | refine L.p rfl rfl ?_ | refine L.skip rfl ?_)
        refine L.cl hF rfl rfl ?_
        rintro _ _ ⟨rfl, rfl⟩
        refine ⟨nofun, ?_⟩
        cases hxv : hexV x.toNat with
        | none =>
          repeat (first | refine W.seq ?_ | refine W.block ?_ | refine W.reg ?_ | refine W.skip ?_ | refine W.exit ?_ | refine W.ret ?_ | refine L.nil ?_ | refine L.p rfl rfl ?_ | refine L.skip rfl ?_)
          refine W.ite rfl (fun h => ?_) (fun h => ?_)
          rotate_left
          · cases h
          repeat (first | refine W.seq ?_ | refine W.block ?_ | refine W.reg ?_ | refine W.skip ?_ | refine W.exit ?_ | refine W.ret ?_ | refine L.nil ?_ | refine L.p rfl rfl ?_ | refine L.skip rfl ?_)
          refine ⟨.inr rfl, _, rfl, ?_⟩
          unfold ResB
          rw [hu, unhex_bad hd2 hdv (by rw [List.getElem?_drop]; exact hx) hxv]
          exact ⟨rfl, hO.1⟩
        | some v =>
          have hv16 := hexV_lt hxv
          repeat (first | refine W.seq ?_ | refine W.block ?_ | refine W.reg ?_ | refine W.skip ?_ | refine W.exit ?_ | refine W.ret ?_ | refine L.nil ?_ | refine L.p rfl rfl ?_ | refine L.skip rfl ?_)
          refine W.ite rfl (fun h => ?_) (fun h => ?_)
          · have := of_decide_eq_true h; simp only [oi] at this; omega
          repeat (first | refine W.seq ?_ | refine W.block ?_ | refine W.reg ?_ | refine W.skip ?_ | refine W.exit ?_ | refine W.ret ?_ | refine L.nil ?_ | refine L.p rfl rfl ?_ | refine L.skip rfl ?_)
          have hf2 : foldH ds < 16 := by
            have : ds.length = 0 ∨ ds.length = 1 := by omega
            rcases this with h | h <;> rw [h] at hf <;> omega
          have hpow : 16 ^ (ds.length + 1) = 16 * 16 ^ ds.length := by rw [Nat.pow_succ]; omega
          refine ⟨2 - (ds ++ [v]).length, by simp; omega, ds ++ [v], rfl, by simp; omega, rfl, ?_, by rw [foldH_snoc, List.length_append, List.length_singleton, hpow]; omega, rfl, rfl, rfl, ?_, ?_⟩
          · rw [List.length_append, List.length_singleton, hdt, List.map_append, List.map_append, hdv]
            simp [hxv]
          · refine (force_eq rfl).trans ?_
            rw [foldH_snoc]
            simp only [oi]
            rw [wrap64 (show -9223372036854775808 ≤ (16 * (foldH ds : Int)) by omega) (by omega), wrap64 (by omega) (by omega)]
            exact congrArg (Value.int .i64) (by omega)
          · refine (force_eq rfl).trans ?_
            rw [wrap64 (by omega) (by omega), List.length_append]; rfl
    · have hd2 : ds.length = 2 := by have := of_decide_eq_false h; omega
      obtain ⟨a, b, rfl, ha, hb, hu2⟩ := unhex_two hd2 (by rw [List.length_drop]; omega) hdv
      rw [List.drop_drop] at hu2
      repeat (first | refine W.seq ?_ | refine W.block ?_ | refine W.reg ?_ | refine W.skip ?_ | refine W.exit ?_ | refine W.ret ?_ | refine L.nil ?_ | refine L.p rfl rfl ?_ | refine L.skip rfl ?_)
      refine L.pushO (BitVec.ofNat 8 (16 * a + b)) rfl hO rfl ?_ rfl rfl (by omega) rfl (fun _ => rfl) (fun p d3 T3 q => ?_)
      · refine congrArg (Value.int .u8) ?_
        have : ∀ x y : Fin 16, IntKind.u8.wrap ((foldH [x.val, y.val] : Nat) : Int) = ((BitVec.ofNat 8 (16 * x.val + y.val)).toNat : Int) := by decide +kernel
        exact this ⟨a, ha⟩ ⟨b, hb⟩
      repeat (first | refine W.seq ?_ | refine W.block ?_ | refine W.reg ?_ | refine W.skip ?_ | refine W.exit ?_ | refine W.ret ?_ | refine L.nil ?_ | refine L.p rfl rfl ?_ | refine L.skip rfl ?_)
      refine ⟨l.length - (i + 2), by omega, i + 2, d3, m ++ [BitVec.ofNat 8 (16 * a + b)], rfl, by omega, by omega, by rw [List.length_append]; simp; omega, q, ?_, rfl, rfl, ?_⟩
      · rw [hu, hu2]
        simp
        rfl
      · refine (force_eq rfl).trans ?_
        rw [wrap64 (by omega) (by omega)]; rfl
  · have hin : i = l.length := by have := of_decide_eq_false h; omega
    subst hin
    rw [List.drop_length] at hu
    repeat (first | refine W.seq ?_ | refine W.block ?_ | refine W.reg ?_ | refine W.skip ?_ | refine W.exit ?_ | refine W.ret ?_ | refine L.nil ?_ | refine L.p rfl rfl ?_ | refine L.skip rfl ?_)
    refine ⟨.inr rfl, _, rfl, ?_⟩
    have hu' : unhexH none l = some m := by rw [hu]; simp [unhexH]
    unfold ResB
    rw [hu']
    exact ⟨d, rfl, hO⟩
end Go.Proofs.YtkiecgkgbogbaaaDoor

/- Layer 6: the letters of base64. Conditions: none. -/
set_option linter.unusedSimpArgs false
set_option linter.unusedVariables false
set_option maxRecDepth 100000
namespace Go.Proofs.YtkiecgkgbogbaaaDoor
open Go
variable {Ext : FuncId → List Value → Mem → Outc → Mem → Prop}
/-- the letters' rows, as they lie in memory -/
def tblV : List Value := [.int .i32 65, .int .i32 90, .int .i64 0, .int .i32 97, .int .i32 122, .int .i64 26, .int .i32 48, .int .i32 57, .int .i64 52, .int .i32 43, .int .i32 43, .int .i64 62, .int .i32 47, .int .i32 47, .int .i64 63]
def RowsOk (S : Mem) : Prop := ∃ r, S.row? 0 = some r ∧ r.cells.take 15 = tblV
theorem RowsOk.cons {S T : Mem} (h : RowsOk S) (k : Cons S T) : RowsOk T := by
  obtain ⟨r, h1, h2⟩ := h
  exact ⟨r, k.row h1, h2⟩
theorem RowsOk.cell {S : Mem} (h : RowsOk S) {k : Nat} {v : Value} (hv : tblV[k]? = some v) (hk : known v = true) : S.cell ⟨0, k, none⟩ = some v := by
  obtain ⟨r, h1, h2⟩ := h
  refine cell_of h1 ?_ (.inr hk)
  have hlt : k < 15 := (List.getElem?_eq_some_iff.1 hv).1
  rw [← h2, List.getElem?_take, if_pos hlt] at hv
  exact hv
theorem RowsOk.all {S : Mem} (h : RowsOk S) : S.cellsAt ⟨0, 0, none⟩ 15 = some tblV := by
  obtain ⟨r, h1, h2⟩ := h
  have hlen : 15 ≤ r.cells.length := by
    have := congrArg List.length h2
    rw [List.length_take] at this
    have h15 : tblV.length = 15 := rfl
    omega
  have h0 : (r.cells.drop 0).take 15 = tblV := by rw [List.drop_zero]; exact h2
  rw [cellsAt_of (o := 0) h1 (by omega) (.inr (by rw [h0]; rfl)), h0]
/-- base64's letters -/
def b64T : List Nat := [65, 66, 67, 68, 69, 70, 71, 72, 73, 74, 75, 76, 77, 78, 79, 80, 81, 82, 83, 84, 85, 86, 87, 88, 89, 90, 97, 98, 99, 100, 101, 102, 103, 104, 105, 106, 107, 108, 109, 110, 111, 112, 113, 114, 115, 116, 117, 118, 119, 120, 121, 122, 48, 49, 50, 51, 52, 53, 54, 55, 56, 57, 43, 47]
def b64D (n : Nat) : BitVec 8 := BitVec.ofNat 8 (b64T.getD n 0)
theorem letter_C (n : Nat) (hn : n < 64) (S : Mem) (hR : RowsOk S) :
    C Tryd.prog 1 Ext 26 [.int .i64 n] S fun v S' => v = v8 (b64D n) ∧ S' = S := by
  refine C.fn Tryd.func26 rfl (by kernel_rfl) rfl ?_
  repeat (first | refine W.seq ?_ | refine W.block ?_ | refine W.reg ?_ | refine W.skip ?_ | refine W.exit ?_ | refine W.ret ?_ | refine L.nil ?_ | refine L.p rfl rfl ?_ | refine L.skip rfl ?_)
  refine W.loopStep ?_
  repeat (first | refine W.seq ?_ | refine W.block ?_ | refine W.reg ?_ | refine W.skip ?_ | refine W.exit ?_ | refine W.ret ?_ | refine L.nil ?_ | refine L.p rfl rfl ?_ | refine L.skip rfl ?_)
  refine W.ite rfl (fun h => ?_) (fun h => ?_)
  rotate_left
  · cases h
  repeat (first | refine W.seq ?_ | refine W.block ?_ | refine W.reg ?_ | refine W.skip ?_ | refine W.exit ?_ | refine W.ret ?_ | refine L.nil ?_ | refine L.p rfl rfl ?_ | refine L.skip rfl ?_)
  refine L.ld (a := ⟨0, 14, none⟩) (v := .int .i64 63) (hR.cell rfl rfl) rfl rfl rfl ?_
  repeat (first | refine W.seq ?_ | refine W.block ?_ | refine W.reg ?_ | refine W.skip ?_ | refine W.exit ?_ | refine W.ret ?_ | refine L.nil ?_ | refine L.p rfl rfl ?_ | refine L.skip rfl ?_)
  refine W.ite rfl (fun h => ?_) (fun h => ?_)
  · have hn2 : 63 ≤ n := by have := of_decide_eq_true h; omega
    repeat (first | refine W.seq ?_ | refine W.block ?_ | refine W.reg ?_ | refine W.skip ?_ | refine W.exit ?_ | refine W.ret ?_ | refine L.nil ?_ | refine L.p rfl rfl ?_ | refine L.skip rfl ?_)
    refine L.ld (a := ⟨0, 12, none⟩) (v := .int .i32 47) (hR.cell rfl rfl) rfl rfl rfl ?_
    repeat (first | refine W.seq ?_ | refine W.block ?_ | refine W.reg ?_ | refine W.skip ?_ | refine W.exit ?_ | refine W.ret ?_ | refine L.nil ?_ | refine L.p rfl rfl ?_ | refine L.skip rfl ?_)
    refine L.ld (a := ⟨0, 14, none⟩) (v := .int .i64 63) (hR.cell rfl rfl) rfl rfl rfl ?_
    repeat (first | refine W.seq ?_ | refine W.block ?_ | refine W.reg ?_ | refine W.skip ?_ | refine W.exit ?_ | refine W.ret ?_ | refine L.nil ?_ | refine L.p rfl rfl ?_ | refine L.skip rfl ?_)
    refine ⟨.inr rfl, _, rfl, ?_, rfl⟩
    have : ∀ x : Fin 64, 63 ≤ x.val → x.val < 64 → IntKind.u8.wrap (IntKind.i64.wrap (IntKind.i64.wrap (47 + (x.val : Int)) - 63)) = ((b64D x.val).toNat : Int) := by decide +kernel
    exact congrArg (Value.int .u8) (this ⟨n, hn⟩ hn2 (by show n < 64; omega))
  have hn63 : ¬ 63 ≤ n := by have := of_decide_eq_false h; omega
  clear h
  repeat (first | refine W.seq ?_ | refine W.block ?_ | refine W.reg ?_ | refine W.skip ?_ | refine W.exit ?_ | refine W.ret ?_ | refine L.nil ?_ | refine L.p rfl rfl ?_ | refine L.skip rfl ?_)
  refine W.loopStep ?_
  repeat (first | refine W.seq ?_ | refine W.block ?_ | refine W.reg ?_ | refine W.skip ?_ | refine W.exit ?_ | refine W.ret ?_ | refine L.nil ?_ | refine L.p rfl rfl ?_ | refine L.skip rfl ?_)
  refine W.ite rfl (fun h => ?_) (fun h => ?_)
  rotate_left
  · cases h
  repeat (first | refine W.seq ?_ | refine W.block ?_ | refine W.reg ?_ | refine W.skip ?_ | refine W.exit ?_ | refine W.ret ?_ | refine L.nil ?_ | refine L.p rfl rfl ?_ | refine L.skip rfl ?_)
  refine L.ld (a := ⟨0, 11, none⟩) (v := .int .i64 62) (hR.cell rfl rfl) rfl rfl rfl ?_
  repeat (first | refine W.seq ?_ | refine W.block ?_ | refine W.reg ?_ | refine W.skip ?_ | refine W.exit ?_ | refine W.ret ?_ | refine L.nil ?_ | refine L.p rfl rfl ?_ | refine L.skip rfl ?_)
  refine W.ite rfl (fun h => ?_) (fun h => ?_)
  · have hn2 : 62 ≤ n := by have := of_decide_eq_true h; omega
    repeat (first | refine W.seq ?_ | refine W.block ?_ | refine W.reg ?_ | refine W.skip ?_ | refine W.exit ?_ | refine W.ret ?_ | refine L.nil ?_ | refine L.p rfl rfl ?_ | refine L.skip rfl ?_)
    refine L.ld (a := ⟨0, 9, none⟩) (v := .int .i32 43) (hR.cell rfl rfl) rfl rfl rfl ?_
    repeat (first | refine W.seq ?_ | refine W.block ?_ | refine W.reg ?_ | refine W.skip ?_ | refine W.exit ?_ | refine W.ret ?_ | refine L.nil ?_ | refine L.p rfl rfl ?_ | refine L.skip rfl ?_)
    refine L.ld (a := ⟨0, 11, none⟩) (v := .int .i64 62) (hR.cell rfl rfl) rfl rfl rfl ?_
    repeat (first | refine W.seq ?_ | refine W.block ?_ | refine W.reg ?_ | refine W.skip ?_ | refine W.exit ?_ | refine W.ret ?_ | refine L.nil ?_ | refine L.p rfl rfl ?_ | refine L.skip rfl ?_)
    refine ⟨.inr rfl, _, rfl, ?_, rfl⟩
    have : ∀ x : Fin 64, 62 ≤ x.val → x.val < 63 → IntKind.u8.wrap (IntKind.i64.wrap (IntKind.i64.wrap (43 + (x.val : Int)) - 62)) = ((b64D x.val).toNat : Int) := by decide +kernel
    exact congrArg (Value.int .u8) (this ⟨n, hn⟩ hn2 (by show n < 63; omega))
  have hn62 : ¬ 62 ≤ n := by have := of_decide_eq_false h; omega
  clear h
  repeat (first | refine W.seq ?_ | refine W.block ?_ | refine W.reg ?_ | refine W.skip ?_ | refine W.exit ?_ | refine W.ret ?_ | refine L.nil ?_ | refine L.p rfl rfl ?_ | refine L.skip rfl ?_)
  refine W.loopStep ?_
  repeat (first | refine W.seq ?_ | refine W.block ?_ | refine W.reg ?_ | refine W.skip ?_ | refine W.exit ?_ | refine W.ret ?_ | refine L.nil ?_ | refine L.p rfl rfl ?_ | refine L.skip rfl ?_)
  refine W.ite rfl (fun h => ?_) (fun h => ?_)
  rotate_left
  · cases h
  repeat (first | refine W.seq ?_ | refine W.block ?_ | refine W.reg ?_ | refine W.skip ?_ | refine W.exit ?_ | refine W.ret ?_ | refine L.nil ?_ | refine L.p rfl rfl ?_ | refine L.skip rfl ?_)
  refine L.ld (a := ⟨0, 8, none⟩) (v := .int .i64 52) (hR.cell rfl rfl) rfl rfl rfl ?_
  repeat (first | refine W.seq ?_ | refine W.block ?_ | refine W.reg ?_ | refine W.skip ?_ | refine W.exit ?_ | refine W.ret ?_ | refine L.nil ?_ | refine L.p rfl rfl ?_ | refine L.skip rfl ?_)
  refine W.ite rfl (fun h => ?_) (fun h => ?_)
  · have hn2 : 52 ≤ n := by have := of_decide_eq_true h; omega
    repeat (first | refine W.seq ?_ | refine W.block ?_ | refine W.reg ?_ | refine W.skip ?_ | refine W.exit ?_ | refine W.ret ?_ | refine L.nil ?_ | refine L.p rfl rfl ?_ | refine L.skip rfl ?_)
    refine L.ld (a := ⟨0, 6, none⟩) (v := .int .i32 48) (hR.cell rfl rfl) rfl rfl rfl ?_
    repeat (first | refine W.seq ?_ | refine W.block ?_ | refine W.reg ?_ | refine W.skip ?_ | refine W.exit ?_ | refine W.ret ?_ | refine L.nil ?_ | refine L.p rfl rfl ?_ | refine L.skip rfl ?_)
    refine L.ld (a := ⟨0, 8, none⟩) (v := .int .i64 52) (hR.cell rfl rfl) rfl rfl rfl ?_
    repeat (first | refine W.seq ?_ | refine W.block ?_ | refine W.reg ?_ | refine W.skip ?_ | refine W.exit ?_ | refine W.ret ?_ | refine L.nil ?_ | refine L.p rfl rfl ?_ | refine L.skip rfl ?_)
    refine ⟨.inr rfl, _, rfl, ?_, rfl⟩
    have : ∀ x : Fin 64, 52 ≤ x.val → x.val < 62 → IntKind.u8.wrap (IntKind.i64.wrap (IntKind.i64.wrap (48 + (x.val : Int)) - 52)) = ((b64D x.val).toNat : Int) := by decide +kernel
    exact congrArg (Value.int .u8) (this ⟨n, hn⟩ hn2 (by show n < 62; omega))
  have hn52 : ¬ 52 ≤ n := by have := of_decide_eq_false h; omega
  clear h
  repeat (first | refine W.seq ?_ | refine W.block ?_ | refine W.reg ?_ | refine W.skip ?_ | refine W.exit ?_ | refine W.ret ?_ | refine L.nil ?_ | refine L.p rfl rfl ?_ | refine L.skip rfl ?_)
  refine W.loopStep ?_
  repeat (first | refine W.seq ?_ | refine W.block ?_ | refine W.reg ?_ | refine W.skip ?_ | refine W.exit ?_ | refine W.ret ?_ | refine L.nil ?_ | refine L.p rfl rfl ?_ | refine L.skip rfl ?_)
  refine W.ite rfl (fun h => ?_) (fun h => ?_)
  rotate_left
  · cases h
  repeat (first | refine W.seq ?_ | refine W.block ?_ | refine W.reg ?_ | refine W.skip ?_ | refine W.exit ?_ | refine W.ret ?_ | refine L.nil ?_ | refine L.p rfl rfl ?_ | refine L.skip rfl ?_)
  refine L.ld (a := ⟨0, 5, none⟩) (v := .int .i64 26) (hR.cell rfl rfl) rfl rfl rfl ?_
  repeat (first | refine W.seq ?_ | refine W.block ?_ | refine W.reg ?_ | refine W.skip ?_ | refine W.exit ?_ | refine W.ret ?_ | refine L.nil ?_ | refine L.p rfl rfl ?_ | refine L.skip rfl ?_)
  refine W.ite rfl (fun h => ?_) (fun h => ?_)
  · have hn2 : 26 ≤ n := by have := of_decide_eq_true h; omega
    repeat (first | refine W.seq ?_ | refine W.block ?_ | refine W.reg ?_ | refine W.skip ?_ | refine W.exit ?_ | refine W.ret ?_ | refine L.nil ?_ | refine L.p rfl rfl ?_ | refine L.skip rfl ?_)
    refine L.ld (a := ⟨0, 3, none⟩) (v := .int .i32 97) (hR.cell rfl rfl) rfl rfl rfl ?_
    repeat (first | refine W.seq ?_ | refine W.block ?_ | refine W.reg ?_ | refine W.skip ?_ | refine W.exit ?_ | refine W.ret ?_ | refine L.nil ?_ | refine L.p rfl rfl ?_ | refine L.skip rfl ?_)
    refine L.ld (a := ⟨0, 5, none⟩) (v := .int .i64 26) (hR.cell rfl rfl) rfl rfl rfl ?_
    repeat (first | refine W.seq ?_ | refine W.block ?_ | refine W.reg ?_ | refine W.skip ?_ | refine W.exit ?_ | refine W.ret ?_ | refine L.nil ?_ | refine L.p rfl rfl ?_ | refine L.skip rfl ?_)
    refine ⟨.inr rfl, _, rfl, ?_, rfl⟩
    have : ∀ x : Fin 64, 26 ≤ x.val → x.val < 52 → IntKind.u8.wrap (IntKind.i64.wrap (IntKind.i64.wrap (97 + (x.val : Int)) - 26)) = ((b64D x.val).toNat : Int) := by decide +kernel
    exact congrArg (Value.int .u8) (this ⟨n, hn⟩ hn2 (by show n < 52; omega))
  have hn26 : ¬ 26 ≤ n := by have := of_decide_eq_false h; omega
  clear h
  repeat (first | refine W.seq ?_ | refine W.block ?_ | refine W.reg ?_ | refine W.skip ?_ | refine W.exit ?_ | refine W.ret ?_ | refine L.nil ?_ | refine L.p rfl rfl ?_ | refine L.skip rfl ?_)
  refine W.loopStep ?_
  repeat (first | refine W.seq ?_ | refine W.block ?_ | refine W.reg ?_ | refine W.skip ?_ | refine W.exit ?_ | refine W.ret ?_ | refine L.nil ?_ | refine L.p rfl rfl ?_ | refine L.skip rfl ?_)
  refine W.ite rfl (fun h => ?_) (fun h => ?_)
  · cases h
  repeat (first | refine W.seq ?_ | refine W.block ?_ | refine W.reg ?_ | refine W.skip ?_ | refine W.exit ?_ | refine W.ret ?_ | refine L.nil ?_ | refine L.p rfl rfl ?_ | refine L.skip rfl ?_)
  refine ⟨.inr rfl, _, rfl, ?_, rfl⟩
  have : ∀ x : Fin 64, ¬ 26 ≤ x.val → IntKind.u8.wrap (IntKind.i64.wrap (65 + (x.val : Int))) = ((b64D x.val).toNat : Int) := by decide +kernel
  exact congrArg (Value.int .u8) (this ⟨n, hn⟩ hn26)
/-- a letter's worth -/
def worthV (c : Nat) : Option Nat := if 65 ≤ c ∧ c ≤ 90 then some (c - 65) else if 97 ≤ c ∧ c ≤ 122 then some (c - 71) else if 48 ≤ c ∧ c ≤ 57 then some (c + 4) else if c = 43 then some 62 else if c = 47 then some 63 else none
theorem worthV_lt {c n : Nat} (h : worthV c = some n) : n < 64 := by
  unfold worthV at h
  repeat' split at h
  all_goals cases h <;> omega
theorem worthV_ge {c : Nat} (h : 128 ≤ c) : worthV c = none := by
  unfold worthV
  rw [if_neg (by omega), if_neg (by omega), if_neg (by omega), if_neg (by omega), if_neg (by omega)]
theorem fill_row {S : Mem} (l0 l : List Value) (t : TypeId) (h : putFrom l0 0 l = l) : Cons S ((S ++ [newR l0 t]).set S.length { newR l0 t with cells := putFrom (newR l0 t).cells 0 l }) ∧ Mem.row? ((S ++ [newR l0 t]).set S.length { newR l0 t with cells := putFrom (newR l0 t).cells 0 l }) S.length = some (newR l t) := by
  have he : ({ newR l0 t with cells := putFrom (newR l0 t).cells 0 l } : Row) = newR l t := by
    show ({ newR l0 t with cells := putFrom l0 0 l } : Row) = _
    rw [h]; rfl
  rw [he]
  exact ⟨(Cons.push _ _).set _ _ (Nat.le_refl _), row_set_same (row_push_new (x := newR l0 t) rfl) rfl⟩
def rowT : List (Nat × Nat × Nat) := [(65, 90, 0), (97, 122, 26), (48, 57, 52), (43, 43, 62), (47, 47, 63)]
theorem worthV_hit : ∀ (k : Fin 5) (x : Fin 128), (∀ q ∈ rowT.take k.val, ¬ (q.1 ≤ x.val ∧ x.val ≤ q.2.1)) → (rowT.getD k.val (0, 0, 0)).1 ≤ x.val → x.val ≤ (rowT.getD k.val (0, 0, 0)).2.1 →
    IntKind.i64.wrap (((rowT.getD k.val (0, 0, 0)).2.2 : Int) + IntKind.i64.wrap (IntKind.i32.wrap ((x.val : Int) - ((rowT.getD k.val (0, 0, 0)).1 : Int)))) = oi (worthV x.val) := by decide +kernel
theorem worthV_miss {r : Nat} (h : ∀ q ∈ rowT, ¬ (q.1 ≤ r ∧ r ≤ q.2.1)) : worthV r = none := by
  have h1 := h (65, 90, 0) (by decide)
  have h2 := h (97, 122, 26) (by decide)
  have h3 := h (48, 57, 52) (by decide)
  have h4 : ¬ (43 ≤ r ∧ r ≤ 43) := h (43, 43, 62) (by decide)
  have h5 : ¬ (47 ≤ r ∧ r ≤ 47) := h (47, 47, 63) (by decide)
  unfold worthV
  rw [if_neg h1, if_neg h2, if_neg h3, if_neg (by omega), if_neg (by omega)]
theorem take_more {r k a b c : Nat} (h : ∀ q ∈ rowT.take k, ¬ (q.1 ≤ r ∧ r ≤ q.2.1)) (hk : rowT[k]? = some (a, b, c)) (hn : ¬ (a ≤ r ∧ r ≤ b)) : ∀ q ∈ rowT.take (k + 1), ¬ (q.1 ≤ r ∧ r ≤ q.2.1) := by
  rw [List.take_add_one, hk]
  intro q hq
  rcases List.mem_append.1 hq with hq | hq
  · exact h q hq
  · simp at hq; subst hq; exact hn
theorem worth_C (r : Nat) (hr : r ≤ 1114111) (S : Mem) (hR : RowsOk S) :
    C Tryd.prog 1 Ext 29 [.int .i32 r] S fun v S' => v = .int .i64 (oi (worthV r)) ∧ Cons S S' := by
  refine C.fn Tryd.func29 rfl (by kernel_rfl) rfl ?_
  repeat (first | refine W.seq ?_ | refine W.block ?_ | refine W.reg ?_ | refine W.skip ?_ | refine W.exit ?_ | refine W.ret ?_ | refine L.nil ?_ | refine L.p rfl rfl ?_ | refine L.skip rfl ?_)
  refine L.ldA hR.all rfl rfl rfl ?_
  repeat (first | refine W.seq ?_ | refine W.block ?_ | refine W.reg ?_ | refine W.skip ?_ | refine W.exit ?_ | refine W.ret ?_ | refine L.nil ?_ | refine L.p rfl rfl ?_ | refine L.skip rfl ?_)
  refine W.loop (fun j e T' => ∃ k, j = 5 - k ∧ k ≤ 5 ∧ Cons S T' ∧ (∀ q ∈ rowT.take k, ¬ (q.1 ≤ r ∧ r ≤ q.2.1)) ∧ e 0 = .int .i32 r ∧ e 5 = .agg tblV.toArray ∧ e 6 = vi k) 5
    ⟨0, rfl, by omega, Cons.refl _, by simp, rfl, rfl, rfl⟩ ?_
  obtain ⟨S0, hS0⟩ : ∃ S0, S0 = S := ⟨_, rfl⟩
  rw [← hS0]
  clear hS0 hR
  rintro j e S ⟨k, rfl, hk5, hC, hk, e0, e5, e6⟩
  refine W.env3 e0 e5 e6 ?_
  have hk6 : k = 0 ∨ k = 1 ∨ k = 2 ∨ k = 3 ∨ k = 4 ∨ k = 5 := by omega
  rcases hk6 with rfl | rfl | rfl | rfl | rfl | rfl
  · (repeat (first | refine W.skip ?_ | refine W.seq ?_ | refine W.block ?_ | refine W.reg ?_))
    repeat (first | refine W.seq ?_ | refine W.block ?_ | refine W.reg ?_ | refine W.skip ?_ | refine W.exit ?_ | refine W.ret ?_ | refine L.nil ?_ | refine L.p rfl rfl ?_ | refine L.skip rfl ?_)
    refine W.ite rfl (fun h => ?_) (fun h => ?_)
    rotate_left
    · cases h
    clear h
    (repeat (first | refine W.skip ?_ | refine W.seq ?_ | refine W.block ?_ | refine W.reg ?_))
    refine L.p (v := .agg #[.int .i32 65, .int .i32 90, .int .i64 0]) rfl rfl ?_
    refine L.eff (v := .pointer (some ⟨S.length, 0, none⟩)) (S1 := S ++ [newR [.int .i32 0, .int .i32 0, .int .i64 0] 57]) rfl rfl ?_
    refine L.st (ad := ⟨S.length, 0, none⟩) (vs := [.int .i32 65, .int .i32 90, .int .i64 0]) (write_of (o := 0) (row_push_new rfl) rfl (Nat.le_of_ble_eq_true rfl) rfl) rfl rfl rfl rfl ?_
    have hf := fill_row (S := S) [.int .i32 0, .int .i32 0, .int .i64 0] [.int .i32 65, .int .i32 90, .int .i64 0] 57 rfl
    obtain ⟨hCn, hr1⟩ := hf
    generalize List.set (S ++ [newR [.int .i32 0, .int .i32 0, .int .i64 0] 57]) S.length _ = T at *
    have hC1 := hC.trans hCn
    clear hCn
    generalize S.length = b at *
    have h0 : Mem.cell T ⟨b, 0, none⟩ = some (.int .i32 65) := cell_of (o := 0) hr1 rfl (.inl rfl)
    have h1 : Mem.cell T ⟨b, 1, none⟩ = some (.int .i32 90) := cell_of (o := 1) hr1 rfl (.inl rfl)
    have h2 : Mem.cell T ⟨b, 2, none⟩ = some (.int .i64 0) := cell_of (o := 2) hr1 rfl (.inl rfl)
    repeat (first | refine W.seq ?_ | refine W.block ?_ | refine W.reg ?_ | refine W.skip ?_ | refine W.exit ?_ | refine W.ret ?_ | refine L.nil ?_ | refine L.p rfl rfl ?_ | refine L.skip rfl ?_)
    refine L.ld (a := ⟨b, 0, none⟩) h0 rfl rfl rfl ?_
    repeat (first | refine W.seq ?_ | refine W.block ?_ | refine W.reg ?_ | refine W.skip ?_ | refine W.exit ?_ | refine W.ret ?_ | refine L.nil ?_ | refine L.p rfl rfl ?_ | refine L.skip rfl ?_)
    by_cases hlo : 65 ≤ r
    · rw [show decide ((r : Int) ≥ 65) = true from decide_eq_true (by omega)]
      repeat (first | refine W.seq ?_ | refine W.block ?_ | refine W.reg ?_ | refine W.skip ?_ | refine W.exit ?_ | refine W.ret ?_ | refine L.nil ?_ | refine L.p rfl rfl ?_ | refine L.skip rfl ?_)
      refine L.ld (a := ⟨b, 1, none⟩) h1 rfl rfl rfl ?_
      repeat (first | refine W.seq ?_ | refine W.block ?_ | refine W.reg ?_ | refine W.skip ?_ | refine W.exit ?_ | refine W.ret ?_ | refine L.nil ?_ | refine L.p rfl rfl ?_ | refine L.skip rfl ?_)
      refine W.ite rfl (fun h => ?_) (fun h => ?_)
      · have hhi : r ≤ 90 := by have := of_decide_eq_true h; omega
        repeat (first | refine W.seq ?_ | refine W.block ?_ | refine W.reg ?_ | refine W.skip ?_ | refine W.exit ?_ | refine W.ret ?_ | refine L.nil ?_ | refine L.p rfl rfl ?_ | refine L.skip rfl ?_)
        refine L.ld (a := ⟨b, 2, none⟩) h2 rfl rfl rfl ?_
        repeat (first | refine W.seq ?_ | refine W.block ?_ | refine W.reg ?_ | refine W.skip ?_ | refine W.exit ?_ | refine W.ret ?_ | refine L.nil ?_ | refine L.p rfl rfl ?_ | refine L.skip rfl ?_)
        refine L.ld (a := ⟨b, 0, none⟩) h0 rfl rfl rfl ?_
        repeat (first | refine W.seq ?_ | refine W.block ?_ | refine W.reg ?_ | refine W.skip ?_ | refine W.exit ?_ | refine W.ret ?_ | refine L.nil ?_ | refine L.p rfl rfl ?_ | refine L.skip rfl ?_)
        exact ⟨.inr rfl, _, rfl, congrArg (Value.int .i64) (worthV_hit 0 ⟨r, by omega⟩ hk hlo hhi), hC1⟩
      · have hn : ¬ (65 ≤ r ∧ r ≤ 90) := by have := of_decide_eq_false h; omega
        repeat (first | refine W.seq ?_ | refine W.block ?_ | refine W.reg ?_ | refine W.skip ?_ | refine W.exit ?_ | refine W.ret ?_ | refine L.nil ?_ | refine L.p rfl rfl ?_ | refine L.skip rfl ?_)
        exact ⟨5 - 1, by decide, 1, rfl, by decide, hC1, take_more hk rfl hn, rfl, rfl, rfl⟩
    · have hn : ¬ (65 ≤ r ∧ r ≤ 90) := by omega
      rw [show decide ((r : Int) ≥ 65) = false from decide_eq_false (by omega)]
      repeat (first | refine W.seq ?_ | refine W.block ?_ | refine W.reg ?_ | refine W.skip ?_ | refine W.exit ?_ | refine W.ret ?_ | refine L.nil ?_ | refine L.p rfl rfl ?_ | refine L.skip rfl ?_)
      refine W.ite rfl (fun h => ?_) (fun h => ?_)
      · cases h
      repeat (first | refine W.seq ?_ | refine W.block ?_ | refine W.reg ?_ | refine W.skip ?_ | refine W.exit ?_ | refine W.ret ?_ | refine L.nil ?_ | refine L.p rfl rfl ?_ | refine L.skip rfl ?_)
      exact ⟨5 - 1, by decide, 1, rfl, by decide, hC1, take_more hk rfl hn, rfl, rfl, rfl⟩
  · (repeat (first | refine W.skip ?_ | refine W.seq ?_ | refine W.block ?_ | refine W.reg ?_))
    repeat (first | refine W.seq ?_ | refine W.block ?_ | refine W.reg ?_ | refine W.skip ?_ | refine W.exit ?_ | refine W.ret ?_ | refine L.nil ?_ | refine L.p rfl rfl ?_ | refine L.skip rfl ?_)
    refine W.ite rfl (fun h => ?_) (fun h => ?_)
    rotate_left
    · cases h
    clear h
    (repeat (first | refine W.skip ?_ | refine W.seq ?_ | refine W.block ?_ | refine W.reg ?_))
    refine L.p (v := .agg #[.int .i32 97, .int .i32 122, .int .i64 26]) rfl rfl ?_
    refine L.eff (v := .pointer (some ⟨S.length, 0, none⟩)) (S1 := S ++ [newR [.int .i32 0, .int .i32 0, .int .i64 0] 57]) rfl rfl ?_
    refine L.st (ad := ⟨S.length, 0, none⟩) (vs := [.int .i32 97, .int .i32 122, .int .i64 26]) (write_of (o := 0) (row_push_new rfl) rfl (Nat.le_of_ble_eq_true rfl) rfl) rfl rfl rfl rfl ?_
    have hf := fill_row (S := S) [.int .i32 0, .int .i32 0, .int .i64 0] [.int .i32 97, .int .i32 122, .int .i64 26] 57 rfl
    obtain ⟨hCn, hr1⟩ := hf
    generalize List.set (S ++ [newR [.int .i32 0, .int .i32 0, .int .i64 0] 57]) S.length _ = T at *
    have hC1 := hC.trans hCn
    clear hCn
    generalize S.length = b at *
    have h0 : Mem.cell T ⟨b, 0, none⟩ = some (.int .i32 97) := cell_of (o := 0) hr1 rfl (.inl rfl)
    have h1 : Mem.cell T ⟨b, 1, none⟩ = some (.int .i32 122) := cell_of (o := 1) hr1 rfl (.inl rfl)
    have h2 : Mem.cell T ⟨b, 2, none⟩ = some (.int .i64 26) := cell_of (o := 2) hr1 rfl (.inl rfl)
    repeat (first | refine W.seq ?_ | refine W.block ?_ | refine W.reg ?_ | refine W.skip ?_ | refine W.exit ?_ | refine W.ret ?_ | refine L.nil ?_ | refine L.p rfl rfl ?_ | refine L.skip rfl ?_)
    refine L.ld (a := ⟨b, 0, none⟩) h0 rfl rfl rfl ?_
    repeat (first | refine W.seq ?_ | refine W.block ?_ | refine W.reg ?_ | refine W.skip ?_ | refine W.exit ?_ | refine W.ret ?_ | refine L.nil ?_ | refine L.p rfl rfl ?_ | refine L.skip rfl ?_)
    by_cases hlo : 97 ≤ r
    · rw [show decide ((r : Int) ≥ 97) = true from decide_eq_true (by omega)]
      repeat (first | refine W.seq ?_ | refine W.block ?_ | refine W.reg ?_ | refine W.skip ?_ | refine W.exit ?_ | refine W.ret ?_ | refine L.nil ?_ | refine L.p rfl rfl ?_ | refine L.skip rfl ?_)
      refine L.ld (a := ⟨b, 1, none⟩) h1 rfl rfl rfl ?_
      repeat (first | refine W.seq ?_ | refine W.block ?_ | refine W.reg ?_ | refine W.skip ?_ | refine W.exit ?_ | refine W.ret ?_ | refine L.nil ?_ | refine L.p rfl rfl ?_ | refine L.skip rfl ?_)
      refine W.ite rfl (fun h => ?_) (fun h => ?_)
      · have hhi : r ≤ 122 := by have := of_decide_eq_true h; omega
        repeat (first | refine W.seq ?_ | refine W.block ?_ | refine W.reg ?_ | refine W.skip ?_ | refine W.exit ?_ | refine W.ret ?_ | refine L.nil ?_ | refine L.p rfl rfl ?_ | refine L.skip rfl ?_)
        refine L.ld (a := ⟨b, 2, none⟩) h2 rfl rfl rfl ?_
        repeat (first | refine W.seq ?_ | refine W.block ?_ | refine W.reg ?_ | refine W.skip ?_ | refine W.exit ?_ | refine W.ret ?_ | refine L.nil ?_ | refine L.p rfl rfl ?_ | refine L.skip rfl ?_)
        refine L.ld (a := ⟨b, 0, none⟩) h0 rfl rfl rfl ?_
        repeat (first | refine W.seq ?_ | refine W.block ?_ | refine W.reg ?_ | refine W.skip ?_ | refine W.exit ?_ | refine W.ret ?_ | refine L.nil ?_ | refine L.p rfl rfl ?_ | refine L.skip rfl ?_)
        exact ⟨.inr rfl, _, rfl, congrArg (Value.int .i64) (worthV_hit 1 ⟨r, by omega⟩ hk hlo hhi), hC1⟩
      · have hn : ¬ (97 ≤ r ∧ r ≤ 122) := by have := of_decide_eq_false h; omega
        repeat (first | refine W.seq ?_ | refine W.block ?_ | refine W.reg ?_ | refine W.skip ?_ | refine W.exit ?_ | refine W.ret ?_ | refine L.nil ?_ | refine L.p rfl rfl ?_ | refine L.skip rfl ?_)
        exact ⟨5 - 2, by decide, 2, rfl, by decide, hC1, take_more hk rfl hn, rfl, rfl, rfl⟩
    · have hn : ¬ (97 ≤ r ∧ r ≤ 122) := by omega
      rw [show decide ((r : Int) ≥ 97) = false from decide_eq_false (by omega)]
      repeat (first | refine W.seq ?_ | refine W.block ?_ | refine W.reg ?_ | refine W.skip ?_ | refine W.exit ?_ | refine W.ret ?_ | refine L.nil ?_ | refine L.p rfl rfl ?_ | refine L.skip rfl ?_)
      refine W.ite rfl (fun h => ?_) (fun h => ?_)
      · cases h
      repeat (first | refine W.seq ?_ | refine W.block ?_ | refine W.reg ?_ | refine W.skip ?_ | refine W.exit ?_ | refine W.ret ?_ | refine L.nil ?_ | refine L.p rfl rfl ?_ | refine L.skip rfl ?_)
      exact ⟨5 - 2, by decide, 2, rfl, by decide, hC1, take_more hk rfl hn, rfl, rfl, rfl⟩
  · (repeat (first | refine W.skip ?_ | refine W.seq ?_ | refine W.block ?_ | refine W.reg ?_))
    repeat (first | refine W.seq ?_ | refine W.block ?_ | refine W.reg ?_ | refine W.skip ?_ | refine W.exit ?_ | refine W.ret ?_ | refine L.nil ?_ | refine L.p rfl rfl ?_ | refine L.skip rfl ?_)
    refine W.ite rfl (fun h => ?_) (fun h => ?_)
    rotate_left
    · cases h
    clear h
    (repeat (first | refine W.skip ?_ | refine W.seq ?_ | refine W.block ?_ | refine W.reg ?_))
    refine L.p (v := .agg #[.int .i32 48, .int .i32 57, .int .i64 52]) rfl rfl ?_
    refine L.eff (v := .pointer (some ⟨S.length, 0, none⟩)) (S1 := S ++ [newR [.int .i32 0, .int .i32 0, .int .i64 0] 57]) rfl rfl ?_
    refine L.st (ad := ⟨S.length, 0, none⟩) (vs := [.int .i32 48, .int .i32 57, .int .i64 52]) (write_of (o := 0) (row_push_new rfl) rfl (Nat.le_of_ble_eq_true rfl) rfl) rfl rfl rfl rfl ?_
    have hf := fill_row (S := S) [.int .i32 0, .int .i32 0, .int .i64 0] [.int .i32 48, .int .i32 57, .int .i64 52] 57 rfl
    obtain ⟨hCn, hr1⟩ := hf
    generalize List.set (S ++ [newR [.int .i32 0, .int .i32 0, .int .i64 0] 57]) S.length _ = T at *
    have hC1 := hC.trans hCn
    clear hCn
    generalize S.length = b at *
    have h0 : Mem.cell T ⟨b, 0, none⟩ = some (.int .i32 48) := cell_of (o := 0) hr1 rfl (.inl rfl)
    have h1 : Mem.cell T ⟨b, 1, none⟩ = some (.int .i32 57) := cell_of (o := 1) hr1 rfl (.inl rfl)
    have h2 : Mem.cell T ⟨b, 2, none⟩ = some (.int .i64 52) := cell_of (o := 2) hr1 rfl (.inl rfl)
    repeat (first | refine W.seq ?_ | refine W.block ?_ | refine W.reg ?_ | refine W.skip ?_ | refine W.exit ?_ | refine W.ret ?_ | refine L.nil ?_ | refine L.p rfl rfl ?_ | refine L.skip rfl ?_)
    refine L.ld (a := ⟨b, 0, none⟩) h0 rfl rfl rfl ?_
    repeat (first | refine W.seq ?_ | refine W.block ?_ | refine W.reg ?_ | refine W.skip ?_ | refine W.exit ?_ | refine W.ret ?_ | refine L.nil ?_ | refine L.p rfl rfl ?_ | refine L.skip rfl ?_)
    by_cases hlo : 48 ≤ r
    · rw [show decide ((r : Int) ≥ 48) = true from decide_eq_true (by omega)]
      repeat (first | refine W.seq ?_ | refine W.block ?_ | refine W.reg ?_ | refine W.skip ?_ | refine W.exit ?_ | refine W.ret ?_ | refine L.nil ?_ | refine L.p rfl rfl ?_ | refine L.skip rfl ?_)
      refine L.ld (a := ⟨b, 1, none⟩) h1 rfl rfl rfl ?_
      repeat (first | refine W.seq ?_ | refine W.block ?_ | refine W.reg ?_ | refine W.skip ?_ | refine W.exit ?_ | refine W.ret ?_ | refine L.nil ?_ | refine L.p rfl rfl ?_ | refine L.skip rfl ?_)
      refine W.ite rfl (fun h => ?_) (fun h => ?_)
      · have hhi : r ≤ 57 := by have := of_decide_eq_true h; omega
        repeat (first | refine W.seq ?_ | refine W.block ?_ | refine W.reg ?_ | refine W.skip ?_ | refine W.exit ?_ | refine W.ret ?_ | refine L.nil ?_ | refine L.p rfl rfl ?_ | refine L.skip rfl ?_)
        refine L.ld (a := ⟨b, 2, none⟩) h2 rfl rfl rfl ?_
        repeat (first | refine W.seq ?_ | refine W.block ?_ | refine W.reg ?_ | refine W.skip ?_ | refine W.exit ?_ | refine W.ret ?_ | refine L.nil ?_ | refine L.p rfl rfl ?_ | refine L.skip rfl ?_)
        refine L.ld (a := ⟨b, 0, none⟩) h0 rfl rfl rfl ?_
        repeat (first | refine W.seq ?_ | refine W.block ?_ | refine W.reg ?_ | refine W.skip ?_ | refine W.exit ?_ | refine W.ret ?_ | refine L.nil ?_ | refine L.p rfl rfl ?_ | refine L.skip rfl ?_)
        exact ⟨.inr rfl, _, rfl, congrArg (Value.int .i64) (worthV_hit 2 ⟨r, by omega⟩ hk hlo hhi), hC1⟩
      · have hn : ¬ (48 ≤ r ∧ r ≤ 57) := by have := of_decide_eq_false h; omega
        repeat (first | refine W.seq ?_ | refine W.block ?_ | refine W.reg ?_ | refine W.skip ?_ | refine W.exit ?_ | refine W.ret ?_ | refine L.nil ?_ | refine L.p rfl rfl ?_ | refine L.skip rfl ?_)
        exact ⟨5 - 3, by decide, 3, rfl, by decide, hC1, take_more hk rfl hn, rfl, rfl, rfl⟩
    · have hn : ¬ (48 ≤ r ∧ r ≤ 57) := by omega
      rw [show decide ((r : Int) ≥ 48) = false from decide_eq_false (by omega)]
      repeat (first | refine W.seq ?_ | refine W.block ?_ | refine W.reg ?_ | refine W.skip ?_ | refine W.exit ?_ | refine W.ret ?_ | refine L.nil ?_ | refine L.p rfl rfl ?_ | refine L.skip rfl ?_)
      refine W.ite rfl (fun h => ?_) (fun h => ?_)
      · cases h
      repeat (first | refine W.seq ?_ | refine W.block ?_ | refine W.reg ?_ | refine W.skip ?_ | refine W.exit ?_ | refine W.ret ?_ | refine L.nil ?_ | refine L.p rfl rfl ?_ | refine L.skip rfl ?_)
      exact ⟨5 - 3, by decide, 3, rfl, by decide, hC1, take_more hk rfl hn, rfl, rfl, rfl⟩
  · (repeat (first | refine W.skip ?_ | refine W.seq ?_ | refine W.block ?_ | refine W.reg ?_))
    repeat (first | refine W.seq ?_ | refine W.block ?_ | refine W.reg ?_ | refine W.skip ?_ | refine W.exit ?_ | refine W.ret ?_ | refine L.nil ?_ | refine L.p rfl rfl ?_ | refine L.skip rfl ?_)
    refine W.ite rfl (fun h => ?_) (fun h => ?_)
    rotate_left
    · cases h
    clear h
    (repeat (first | refine W.skip ?_ | refine W.seq ?_ | refine W.block ?_ | refine W.reg ?_))
    refine L.p (v := .agg #[.int .i32 43, .int .i32 43, .int .i64 62]) rfl rfl ?_
    refine L.eff (v := .pointer (some ⟨S.length, 0, none⟩)) (S1 := S ++ [newR [.int .i32 0, .int .i32 0, .int .i64 0] 57]) rfl rfl ?_
    refine L.st (ad := ⟨S.length, 0, none⟩) (vs := [.int .i32 43, .int .i32 43, .int .i64 62]) (write_of (o := 0) (row_push_new rfl) rfl (Nat.le_of_ble_eq_true rfl) rfl) rfl rfl rfl rfl ?_
    have hf := fill_row (S := S) [.int .i32 0, .int .i32 0, .int .i64 0] [.int .i32 43, .int .i32 43, .int .i64 62] 57 rfl
    obtain ⟨hCn, hr1⟩ := hf
    generalize List.set (S ++ [newR [.int .i32 0, .int .i32 0, .int .i64 0] 57]) S.length _ = T at *
    have hC1 := hC.trans hCn
    clear hCn
    generalize S.length = b at *
    have h0 : Mem.cell T ⟨b, 0, none⟩ = some (.int .i32 43) := cell_of (o := 0) hr1 rfl (.inl rfl)
    have h1 : Mem.cell T ⟨b, 1, none⟩ = some (.int .i32 43) := cell_of (o := 1) hr1 rfl (.inl rfl)
    have h2 : Mem.cell T ⟨b, 2, none⟩ = some (.int .i64 62) := cell_of (o := 2) hr1 rfl (.inl rfl)
    repeat (first | refine W.seq ?_ | refine W.block ?_ | refine W.reg ?_ | refine W.skip ?_ | refine W.exit ?_ | refine W.ret ?_ | refine L.nil ?_ | refine L.p rfl rfl ?_ | refine L.skip rfl ?_)
    refine L.ld (a := ⟨b, 0, none⟩) h0 rfl rfl rfl ?_
    repeat (first | refine W.seq ?_ | refine W.block ?_ | refine W.reg ?_ | refine W.skip ?_ | refine W.exit ?_ | refine W.ret ?_ | refine L.nil ?_ | refine L.p rfl rfl ?_ | refine L.skip rfl ?_)
    by_cases hlo : 43 ≤ r
    · rw [show decide ((r : Int) ≥ 43) = true from decide_eq_true (by omega)]
      repeat (first | refine W.seq ?_ | refine W.block ?_ | refine W.reg ?_ | refine W.skip ?_ | refine W.exit ?_ | refine W.ret ?_ | refine L.nil ?_ | refine L.p rfl rfl ?_ | refine L.skip rfl ?_)
      refine L.ld (a := ⟨b, 1, none⟩) h1 rfl rfl rfl ?_
      repeat (first | refine W.seq ?_ | refine W.block ?_ | refine W.reg ?_ | refine W.skip ?_ | refine W.exit ?_ | refine W.ret ?_ | refine L.nil ?_ | refine L.p rfl rfl ?_ | refine L.skip rfl ?_)
      refine W.ite rfl (fun h => ?_) (fun h => ?_)
      · have hhi : r ≤ 43 := by have := of_decide_eq_true h; omega
        repeat (first | refine W.seq ?_ | refine W.block ?_ | refine W.reg ?_ | refine W.skip ?_ | refine W.exit ?_ | refine W.ret ?_ | refine L.nil ?_ | refine L.p rfl rfl ?_ | refine L.skip rfl ?_)
        refine L.ld (a := ⟨b, 2, none⟩) h2 rfl rfl rfl ?_
        repeat (first | refine W.seq ?_ | refine W.block ?_ | refine W.reg ?_ | refine W.skip ?_ | refine W.exit ?_ | refine W.ret ?_ | refine L.nil ?_ | refine L.p rfl rfl ?_ | refine L.skip rfl ?_)
        refine L.ld (a := ⟨b, 0, none⟩) h0 rfl rfl rfl ?_
        repeat (first | refine W.seq ?_ | refine W.block ?_ | refine W.reg ?_ | refine W.skip ?_ | refine W.exit ?_ | refine W.ret ?_ | refine L.nil ?_ | refine L.p rfl rfl ?_ | refine L.skip rfl ?_)
        exact ⟨.inr rfl, _, rfl, congrArg (Value.int .i64) (worthV_hit 3 ⟨r, by omega⟩ hk hlo hhi), hC1⟩
      · have hn : ¬ (43 ≤ r ∧ r ≤ 43) := by have := of_decide_eq_false h; omega
        repeat (first | refine W.seq ?_ | refine W.block ?_ | refine W.reg ?_ | refine W.skip ?_ | refine W.exit ?_ | refine W.ret ?_ | refine L.nil ?_ | refine L.p rfl rfl ?_ | refine L.skip rfl ?_)
        exact ⟨5 - 4, by decide, 4, rfl, by decide, hC1, take_more hk rfl hn, rfl, rfl, rfl⟩
    · have hn : ¬ (43 ≤ r ∧ r ≤ 43) := by omega
      rw [show decide ((r : Int) ≥ 43) = false from decide_eq_false (by omega)]
      repeat (first | refine W.seq ?_ | refine W.block ?_ | refine W.reg ?_ | refine W.skip ?_ | refine W.exit ?_ | refine W.ret ?_ | refine L.nil ?_ | refine L.p rfl rfl ?_ | refine L.skip rfl ?_)
      refine W.ite rfl (fun h => ?_) (fun h => ?_)
      · cases h
      repeat (first | refine W.seq ?_ | refine W.block ?_ | refine W.reg ?_ | refine W.skip ?_ | refine W.exit ?_ | refine W.ret ?_ | refine L.nil ?_ | refine L.p rfl rfl ?_ | refine L.skip rfl ?_)
      exact ⟨5 - 4, by decide, 4, rfl, by decide, hC1, take_more hk rfl hn, rfl, rfl, rfl⟩
  · (repeat (first | refine W.skip ?_ | refine W.seq ?_ | refine W.block ?_ | refine W.reg ?_))
    repeat (first | refine W.seq ?_ | refine W.block ?_ | refine W.reg ?_ | refine W.skip ?_ | refine W.exit ?_ | refine W.ret ?_ | refine L.nil ?_ | refine L.p rfl rfl ?_ | refine L.skip rfl ?_)
    refine W.ite rfl (fun h => ?_) (fun h => ?_)
    rotate_left
    · cases h
    clear h
    (repeat (first | refine W.skip ?_ | refine W.seq ?_ | refine W.block ?_ | refine W.reg ?_))
    refine L.p (v := .agg #[.int .i32 47, .int .i32 47, .int .i64 63]) rfl rfl ?_
    refine L.eff (v := .pointer (some ⟨S.length, 0, none⟩)) (S1 := S ++ [newR [.int .i32 0, .int .i32 0, .int .i64 0] 57]) rfl rfl ?_
    refine L.st (ad := ⟨S.length, 0, none⟩) (vs := [.int .i32 47, .int .i32 47, .int .i64 63]) (write_of (o := 0) (row_push_new rfl) rfl (Nat.le_of_ble_eq_true rfl) rfl) rfl rfl rfl rfl ?_
    have hf := fill_row (S := S) [.int .i32 0, .int .i32 0, .int .i64 0] [.int .i32 47, .int .i32 47, .int .i64 63] 57 rfl
    obtain ⟨hCn, hr1⟩ := hf
    generalize List.set (S ++ [newR [.int .i32 0, .int .i32 0, .int .i64 0] 57]) S.length _ = T at *
    have hC1 := hC.trans hCn
    clear hCn
    generalize S.length = b at *
    have h0 : Mem.cell T ⟨b, 0, none⟩ = some (.int .i32 47) := cell_of (o := 0) hr1 rfl (.inl rfl)
    have h1 : Mem.cell T ⟨b, 1, none⟩ = some (.int .i32 47) := cell_of (o := 1) hr1 rfl (.inl rfl)
    have h2 : Mem.cell T ⟨b, 2, none⟩ = some (.int .i64 63) := cell_of (o := 2) hr1 rfl (.inl rfl)
    repeat (first | refine W.seq ?_ | refine W.block ?_ | refine W.reg ?_ | refine W.skip ?_ | refine W.exit ?_ | refine W.ret ?_ | refine L.nil ?_ | refine L.p rfl rfl ?_ | refine L.skip rfl ?_)
    refine L.ld (a := ⟨b, 0, none⟩) h0 rfl rfl rfl ?_
    repeat (first | refine W.seq ?_ | refine W.block ?_ | refine W.reg ?_ | refine W.skip ?_ | refine W.exit ?_ | refine W.ret ?_ | refine L.nil ?_ | refine L.p rfl rfl ?_ | refine L.skip rfl ?_)
    by_cases hlo : 47 ≤ r
    · rw [show decide ((r : Int) ≥ 47) = true from decide_eq_true (by omega)]
      repeat (first | refine W.seq ?_ | refine W.block ?_ | refine W.reg ?_ | refine W.skip ?_ | refine W.exit ?_ | refine W.ret ?_ | refine L.nil ?_ | refine L.p rfl rfl ?_ | refine L.skip rfl ?_)
      refine L.ld (a := ⟨b, 1, none⟩) h1 rfl rfl rfl ?_
      repeat (first | refine W.seq ?_ | refine W.block ?_ | refine W.reg ?_ | refine W.skip ?_ | refine W.exit ?_ | refine W.ret ?_ | refine L.nil ?_ | refine L.p rfl rfl ?_ | refine L.skip rfl ?_)
      refine W.ite rfl (fun h => ?_) (fun h => ?_)
      · have hhi : r ≤ 47 := by have := of_decide_eq_true h; omega
        repeat (first | refine W.seq ?_ | refine W.block ?_ | refine W.reg ?_ | refine W.skip ?_ | refine W.exit ?_ | refine W.ret ?_ | refine L.nil ?_ | refine L.p rfl rfl ?_ | refine L.skip rfl ?_)
        refine L.ld (a := ⟨b, 2, none⟩) h2 rfl rfl rfl ?_
        repeat (first | refine W.seq ?_ | refine W.block ?_ | refine W.reg ?_ | refine W.skip ?_ | refine W.exit ?_ | refine W.ret ?_ | refine L.nil ?_ | refine L.p rfl rfl ?_ | refine L.skip rfl ?_)
        refine L.ld (a := ⟨b, 0, none⟩) h0 rfl rfl rfl ?_
        repeat (first | refine W.seq ?_ | refine W.block ?_ | refine W.reg ?_ | refine W.skip ?_ | refine W.exit ?_ | refine W.ret ?_ | refine L.nil ?_ | refine L.p rfl rfl ?_ | refine L.skip rfl ?_)
        exact ⟨.inr rfl, _, rfl, congrArg (Value.int .i64) (worthV_hit 4 ⟨r, by omega⟩ hk hlo hhi), hC1⟩
      · have hn : ¬ (47 ≤ r ∧ r ≤ 47) := by have := of_decide_eq_false h; omega
        repeat (first | refine W.seq ?_ | refine W.block ?_ | refine W.reg ?_ | refine W.skip ?_ | refine W.exit ?_ | refine W.ret ?_ | refine L.nil ?_ | refine L.p rfl rfl ?_ | refine L.skip rfl ?_)
        exact ⟨5 - 5, by decide, 5, rfl, by decide, hC1, take_more hk rfl hn, rfl, rfl, rfl⟩
    · have hn : ¬ (47 ≤ r ∧ r ≤ 47) := by omega
      rw [show decide ((r : Int) ≥ 47) = false from decide_eq_false (by omega)]
      repeat (first | refine W.seq ?_ | refine W.block ?_ | refine W.reg ?_ | refine W.skip ?_ | refine W.exit ?_ | refine W.ret ?_ | refine L.nil ?_ | refine L.p rfl rfl ?_ | refine L.skip rfl ?_)
      refine W.ite rfl (fun h => ?_) (fun h => ?_)
      · cases h
      repeat (first | refine W.seq ?_ | refine W.block ?_ | refine W.reg ?_ | refine W.skip ?_ | refine W.exit ?_ | refine W.ret ?_ | refine L.nil ?_ | refine L.p rfl rfl ?_ | refine L.skip rfl ?_)
      exact ⟨5 - 5, by decide, 5, rfl, by decide, hC1, take_more hk rfl hn, rfl, rfl, rfl⟩
  · repeat (first | refine W.seq ?_ | refine W.block ?_ | refine W.reg ?_ | refine W.skip ?_ | refine W.exit ?_ | refine W.ret ?_ | refine L.nil ?_ | refine L.p rfl rfl ?_ | refine L.skip rfl ?_)
    refine W.ite rfl (fun h => ?_) (fun h => ?_)
    · cases h
    repeat (first | refine W.seq ?_ | refine W.block ?_ | refine W.reg ?_ | refine W.skip ?_ | refine W.exit ?_ | refine W.ret ?_ | refine L.nil ?_ | refine L.p rfl rfl ?_ | refine L.skip rfl ?_)
    exact ⟨.inr rfl, _, rfl, by rw [worthV_miss hk]; rfl, hC⟩
end Go.Proofs.YtkiecgkgbogbaaaDoor

/- Bytes that may be read, and cut. Conditions: none. -/
set_option linter.unusedSimpArgs false
set_option linter.unusedVariables false
set_option maxRecDepth 100000
namespace Go.Proofs.YtkiecgkgbogbaaaDoor
open Go
/-- a list of bytes that may be read, and cut -/
def BIn (S : Mem) (a : Option Addr) (c : Nat) (l : BL) : Prop := Slv S 1 (.slice a l.length c) l.length (bv l) ∧ Cut l.length c ∧ l.length < 1099511627776
theorem BIn.cons {S S' : Mem} {a : Option Addr} {c : Nat} {l : BL} (h : BIn S a c l) (k : Cons S S') : BIn S' a c l := ⟨h.1.cons k, h.2⟩
theorem BIn.part {S : Mem} {a : Option Addr} {c k h : Nat} {l : BL} {lo hi : Option Value} (hI : BIn S a c l) (hl : LoIs lo k) (hh : HiIs hi l.length h) (hk : k ≤ h) (hn : h ≤ l.length) :
    ∃ a' c', aslice 1 a l.length c lo hi none = some (.slice a' ((l.drop k).take (h - k)).length c') ∧ BIn S a' c' ((l.drop k).take (h - k)) := by
  obtain ⟨a', c', h1, h2, h3, _⟩ := slv_part hI.1 hl hh hk hn hI.2.1
  have hlen : ((l.drop k).take (h - k)).length = h - k := by rw [List.length_take, List.length_drop]; omega
  refine ⟨a', c', by rw [hlen]; exact h1, ?_, by rw [hlen]; exact h3, by have := hI.2.2; omega⟩
  rw [hlen]
  rwa [show ((bv l).drop k).take (h - k) = bv ((l.drop k).take (h - k)) by simp [bv, List.map_take, List.map_drop]] at h2
theorem BIn.from {S : Mem} {a : Option Addr} {c k : Nat} {l : BL} {lv : Value} {kd : IntKind} (hI : BIn S a c l) (hl : lv = .int kd (k : Int)) (hk : k ≤ l.length) :
    ∃ a' c', aslice 1 a l.length c (some lv) none none = some (.slice a' (l.drop k).length c') ∧ BIn S a' c' (l.drop k) := by
  subst hl
  obtain ⟨a', c', h1, h2⟩ := hI.part (.inr ⟨kd, rfl⟩) (.inl ⟨rfl, rfl⟩) hk (Nat.le_refl _)
  rw [List.take_of_length_le (by rw [List.length_drop]; omega)] at h1 h2
  exact ⟨a', c', h1, h2⟩
end Go.Proofs.YtkiecgkgbogbaaaDoor

/- The greater and the lesser of two numbers. Conditions: none. -/
set_option linter.unusedSimpArgs false
set_option linter.unusedVariables false
namespace Go.Proofs.YtkiecgkgbogbaaaDoor
open Go
section
variable {P : Program} {G : Nat} {Ext : FuncId → List Value → Mem → Outc → Mem → Prop} {e : Env} {S : Mem} {fl : Bool} {ops : Array Oper} {K : Kont}
variable {rest : List Oper} {dst : Option Tmp} {ty : TypeId} {pos : String} {af : Array Edge} {gd : Option (Nat × Bool)}
theorem apure_max {x y : Operand} {ts : Array TypeId} {k k' : IntKind} {a b : Int} {ev : Operand → Value} (hx : ev x = .int k a) (hy : ev y = .int k' b) :
    apure P ⟨dst, .call ⟨.builtin .max, #[x, y], ts⟩, ty, pos, af, gd⟩ ev = some (.int k (if b > a then b else a)) := by
  have h : aflat P ⟨dst, .call ⟨.builtin .max, #[x, y], ts⟩, ty, pos, af, gd⟩ ev = some (.int k (if b > a then b else a)) := by
    unfold aflat
    rw [if_pos (by simp [Op.operands, Call.operands, hx, hy, flat, flat1, scalar])]
    have : pureRun P (execOp ev ⟨dst, .call ⟨.builtin .max, #[x, y], ts⟩, ty, pos, af, gd⟩) = some (.value (.int k (if b > a then b else a))) := by
      simp [execOp, resolve, hx, hy, pureRun_bind, invoke, builtin, Builtin.max_, Builtin.max2]
    rw [this]; rfl
  simp only [apure, h]
theorem apure_min {x y : Operand} {ts : Array TypeId} {k k' : IntKind} {a b : Int} {ev : Operand → Value} (hx : ev x = .int k a) (hy : ev y = .int k' b) :
    apure P ⟨dst, .call ⟨.builtin .min, #[x, y], ts⟩, ty, pos, af, gd⟩ ev = some (.int k (if b < a then b else a)) := by
  have h : aflat P ⟨dst, .call ⟨.builtin .min, #[x, y], ts⟩, ty, pos, af, gd⟩ ev = some (.int k (if b < a then b else a)) := by
    unfold aflat
    rw [if_pos (by simp [Op.operands, Call.operands, hx, hy, flat, flat1, scalar])]
    have : pureRun P (execOp ev ⟨dst, .call ⟨.builtin .min, #[x, y], ts⟩, ty, pos, af, gd⟩) = some (.value (.int k (if b < a then b else a))) := by
      simp [execOp, resolve, hx, hy, pureRun_bind, invoke, builtin, Builtin.min_, Builtin.min2]
    rw [this]; rfl
  simp only [apure, h]
theorem L.max {x y : Operand} {ts : Array TypeId} {k k' : IntKind} {a b c : Int} (hw : awanted ops ⟨dst, .call ⟨.builtin .max, #[x, y], ts⟩, ty, pos, af, gd⟩ e = true) (hx : e.eval x = .int k a) (hy : e.eval y = .int k' b) (hc : (if b > a then b else a) = c)
    (h : L P G Ext fl ops rest (e.put dst (.int k c)) S K) : L P G Ext fl ops (⟨dst, .call ⟨.builtin .max, #[x, y], ts⟩, ty, pos, af, gd⟩ :: rest) e S K := L.pure hw (hc ▸ apure_max hx hy) h
theorem L.min {x y : Operand} {ts : Array TypeId} {k k' : IntKind} {a b c : Int} (hw : awanted ops ⟨dst, .call ⟨.builtin .min, #[x, y], ts⟩, ty, pos, af, gd⟩ e = true) (hx : e.eval x = .int k a) (hy : e.eval y = .int k' b) (hc : (if b < a then b else a) = c)
    (h : L P G Ext fl ops rest (e.put dst (.int k c)) S K) : L P G Ext fl ops (⟨dst, .call ⟨.builtin .min, #[x, y], ts⟩, ty, pos, af, gd⟩ :: rest) e S K := L.pure hw (hc ▸ apure_min hx hy) h
end
end Go.Proofs.YtkiecgkgbogbaaaDoor
