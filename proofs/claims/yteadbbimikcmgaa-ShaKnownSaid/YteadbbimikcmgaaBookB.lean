/- The book of lists that were handed out: a list more. Conditions: none. -/
import Derived.Test.YteadbbimikcmgaaBookA
import Derived.Test.YteadbbimikcmgaaKitB
set_option linter.unusedSimpArgs false
set_option linter.unusedVariables false
set_option maxRecDepth 100000
namespace Go.Proofs.Yteadbbimikcmgaa
open Go
variable {G : Nat} {Ext : FuncId → List Value → Mem → Outc → Mem → Prop}

/-- the book at row rb holds the lists ws and bs; the rows ps are its own -/
def Book (S : Mem) (rb : Nat) (ws bs : List Hd) (ps : List Nat) : Prop :=
  ∃ hw hb : Hd, S.row? rb = some (newR [hw.v, hb.v] 43) ∧ HdOk S 48 hw (ws.map Hd.v) ∧ HdOk S 22 hb (bs.map Hd.v) ∧ rb ∈ ps ∧
    (∀ b, hw.a = some b → b ∈ ps ∧ b ≠ rb) ∧ (∀ b, hb.a = some b → b ∈ ps ∧ b ≠ rb ∧ hw.a ≠ some b)
theorem Book.keep {S S1 : Mem} {rb : Nat} {ws bs : List Hd} {ps cs : List Nat} (h : Book S rb ws bs ps) (k : KeepL cs S S1) (hd : ∀ b ∈ cs, b ∉ ps) : Book S1 rb ws bs ps := by
  obtain ⟨hw, hb, h1, h2, h3, h4, h5, h6⟩ := h
  exact ⟨hw, hb, k.row h1 (fun hm => hd _ hm h4), h2.keep k (fun b e hm => hd _ hm (h5 b e).1), h3.keep k (fun b e hm => hd _ hm (h6 b e).1), h4, h5, h6⟩
theorem Book.cons {S S1 : Mem} {rb : Nat} {ws bs : List Hd} {ps : List Nat} (h : Book S rb ws bs ps) (k : Cons S S1) : Book S1 rb ws bs ps := h.keep (k.keepL []) (by simp)
/-- an empty book -/
theorem Book.new (S : Mem) : Book (S ++ [newR [.slice none 0 0, .slice none 0 0] 43]) S.length [] [] [S.length] :=
  ⟨⟨none, 0, 0⟩, ⟨none, 0, 0⟩, row_push_new rfl, HdOk.nil _ _, HdOk.nil _ _, by simp, nofun, nofun⟩
/-- from one book to the next: its own rows are old ones of its own, or new -/
def Sub2 (S : Mem) (ps ps' : List Nat) : Prop := ∀ r ∈ ps', r ∈ ps ∨ S.length ≤ r
theorem bytes_C (S : Mem) (h : Hd) (rb : Nat) (ws bs : List Hd) (ps : List Nat) (hB : Book S rb ws bs ps) (hn : bs.length < 1000000) :
    C Try.prog G Ext 22 [.pointer (some ⟨rb, 0, none⟩), h.v] S fun v S' => ∃ ps', Book S' rb ws (bs ++ [h]) ps' ∧ Sub2 S ps ps' ∧ KeepL ps S S' := by
  obtain ⟨hw, hb, hr, h2, h3, h4, h5, h6⟩ := hB
  refine C.fn Try.func22 rfl (by kernel_rfl) rfl ?_
  repeat (first | refine W.seq ?_ | refine W.block ?_ | refine W.reg ?_ | refine W.skip ?_ | refine W.exit ?_ | refine W.ret ?_ | refine L.nil ?_ | refine L.p rfl rfl ?_ | refine L.skip rfl ?_)
  refine L.ld (cell_of hr rfl) rfl rfl rfl ?_
  repeat (first | refine W.seq ?_ | refine W.block ?_ | refine W.reg ?_ | refine W.skip ?_ | refine W.exit ?_ | refine W.ret ?_ | refine L.nil ?_ | refine L.p rfl rfl ?_ | refine L.skip rfl ?_)
  refine L.pushH (h := hb) rfl h3 rfl rfl rfl rfl rfl (by have := h3.len; rw [List.length_map] at this; omega) rfl (fun _ => rfl) (fun p h' S1 k1 k2 k3 k4 => ?_)
  obtain ⟨b', k5, k6⟩ := k3
  have hne : rb ∉ hb.a.toList := fun hm => by
    have := (h6 rb (by simpa using hm)).2.1
    exact this rfl
  have hr1 := k4.row hr hne
  repeat (first | refine W.seq ?_ | refine W.block ?_ | refine W.reg ?_ | refine W.skip ?_ | refine W.exit ?_ | refine W.ret ?_ | refine L.nil ?_ | refine L.p rfl rfl ?_ | refine L.skip rfl ?_)
  refine L.st (ad := ⟨rb, 1, none⟩) (vs := [h'.v]) (write_of hr1 rfl (by simp [newR]) rfl) rfl rfl rfl rfl ?_
  rw [putFrom_one _ _ _ (by simp [newR])]
  repeat (first | refine W.seq ?_ | refine W.block ?_ | refine W.reg ?_ | refine W.skip ?_ | refine W.exit ?_ | refine W.ret ?_ | refine L.nil ?_ | refine L.p rfl rfl ?_ | refine L.skip rfl ?_)
  have hlt := row_lt hr
  have hk := Keep.set rb S1 { newR [hw.v, hb.v] 43 with cells := List.set (newR [hw.v, hb.v] 43).cells 1 h'.v }
  have hkl := Keep.keepL (bs := [rb]) hk (by simp)
  refine ⟨.inl rfl, _, rfl, b' :: ps, ⟨hw, h', row_set_same hr1 rfl, ?_, ?_, by simp [h4], ?_, ?_⟩, ?_, ?_⟩
  · exact (h2.keep k4 (fun b e hm => (h6 b (by simpa using hm)).2.2 e)).keep hkl (fun b e hm => (h5 b e).2 (by simpa using hm))
  · rw [List.map_append]; exact k1.keep hkl (fun b e hm => by rw [k5] at e; cases e; simp at hm; omega)
  · intro b e
    exact ⟨by simp [(h5 b e).1], (h5 b e).2⟩
  · intro b e; rw [k5] at e; cases e
    refine ⟨by simp, by omega, fun e2 => ?_⟩
    have := h2.lt e2
    omega
  · intro r hm
    rcases List.mem_cons.1 hm with rfl | hm
    · exact .inr k6
    · exact .inl hm
  · refine (k4.mono ?_).then hkl (by simp [h4])
    intro r hm
    exact (h6 r (by simpa using hm)).1
end Go.Proofs.Yteadbbimikcmgaa
