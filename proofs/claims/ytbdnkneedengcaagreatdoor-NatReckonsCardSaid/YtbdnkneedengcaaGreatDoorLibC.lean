/- What several proofs share, part 3: a model of memory, contracts of functions. Conditions: none. -/
import Derived.Test.YtbdnkneedengcaaGreatDoorLibB
import Derived.Laws.Strings
import Ieee.Arith
import Derived.Test.YtbdnkneedengcaaGreatDoorChecked

/- Pointers without a type; texts made of bytes that stay where they are. Conditions: none. -/
set_option linter.unusedSimpArgs false
set_option linter.unusedVariables false
namespace Go.Proofs.YtbdnkneedengcaaGreatDoor
open Go
section
variable {P : Program} {G : Nat} {Ext : FuncId → List Value → Mem → Outc → Mem → Prop} {e : Env} {S : Mem} {fl : Bool} {ops : Array Oper} {K : Kont}
variable {rest : List Oper} {dst : Option Tmp} {ty : TypeId} {pos : String} {af : Array Edge} {gd : Option (Nat × Bool)}
/-- an address in a row of ours, in the real memory -/
theorem addr_real {ρ : Nat → Option Loc} {w : World} {b : Nat} {r : Row} {v' : Value} (hS : SR ρ S w) (hr : S.row? b = some r) (h : VR ρ (.pointer (some ⟨b, 0, none⟩)) v') :
    ∃ L c fz, ρ b = some L ∧ v' = .pointer (some ⟨L.b, 0, none⟩) ∧ w.heap[L.b]? = some (.cells c r.elem fz) ∧ r.cells.length ≤ c.size ∧ (r.exact = true → c.size = r.cells.length) := by
  obtain ⟨hr1, hr2⟩ := Mem.row?_some hr
  obtain ⟨L, hL, ⟨c, fz, h1, h2, h3, _⟩⟩ := hS.live _ _ hr1 hr2
  cases h with
  | ptr _ a' k1 k2 k3 =>
    obtain ⟨L', l1, l2⟩ := k1
    dsimp only at l1
    rw [hL] at l1; cases l1
    refine ⟨L, c, fz, hL, ?_, h1, h2, h3⟩
    cases a' with
    | mk blk off spot => dsimp only at k2 k3 l2; subst k2 k3 l2; rfl
theorem shape_real {w : World} {b : Nat} {c : Array Value} {el : TypeId} {fz : Nat × Nat} (h : w.heap[b]? = some (.cells c el fz)) : w.shape? b = some (el, c.size) := by unfold World.shape?; rw [h]
theorem sim_unsafe1 {s d t0 : TypeId} {x : Operand} {b : Nat} {r : Row} {i : TypeInfo} (hs : P.underlying s = some (.pointer t0)) (hd : P.underlying d = some .unsafePointer) (hi : P.info? t0 = some i) (hi0 : i.size ≠ 0) (hx : e.eval x = .pointer (some ⟨b, 0, none⟩)) (hr : S.row? b = some r) (hlen : 0 < r.cells.length) :
    OpSim P G ⟨dst, .convert s d x, ty, pos, af, gd⟩ e S (.pointer (some ⟨b, 0, none⟩)) S := fun ρ a w K Q hv hS hG hK => by
  have h1 := hv x (by simp [Op.operands])
  rw [hx] at h1
  obtain ⟨L, c, fz, hL, h2, h3, h4, _⟩ := addr_real hS hr h1
  have hsh := shape_real h3
  have hrun : (execOp a.eval ⟨dst, .convert s d x, ty, pos, af, gd⟩).run P w = .ok (.value (.pointer (some ⟨L.b, 0, none⟩))) w := by
    have hc : (decide (0 ≥ c.size)) = false := decide_eq_false (by omega)
    simp [execOp, convert, h2, underlying, hs, hd, Conv.unsafePointer, Conv.seenAt, viewAt, cellsIn, shape, Sem.run, hsh, sizeOf, typeInfo, hi, hi0]
    intro h0
    rw [h0] at h4
    have : r.cells.length ≤ 0 := h4
    omega
  exact wp_value hrun (hK _ ρ _ (.ptr _ _ ⟨L, hL, rfl⟩ rfl rfl) hS (Stp.refl _ _ _))
theorem sim_unsafe2 {s d u : TypeId} {x : Operand} {b : Nat} {r : Row} {i : TypeInfo} (hs : P.underlying s = some .unsafePointer) (hd : P.underlying d = some (.pointer u)) (hi : P.info? u = some i) (hx : e.eval x = .pointer (some ⟨b, 0, none⟩)) (hr : S.row? b = some r) (hex : r.exact = true)
    (hlies : liesAt P P.depth r.elem (r.cells.length / P.cellsOf r.elem) 0 u 1 = true) : OpSim P G ⟨dst, .convert s d x, ty, pos, af, gd⟩ e S (.pointer (some ⟨b, 0, none⟩)) S := fun ρ a w K Q hv hS hG hK => by
  have h1 := hv x (by simp [Op.operands])
  rw [hx] at h1
  obtain ⟨L, c, fz, hL, h2, h3, h4, h5⟩ := addr_real hS hr h1
  have hsh := shape_real h3
  have hrun : (execOp a.eval ⟨dst, .convert s d x, ty, pos, af, gd⟩).run P w = .ok (.value (.pointer (some ⟨L.b, 0, none⟩))) w := by
    simp [execOp, convert, h2, underlying, hs, hd, Conv.unsafePointer, Conv.seenAt, viewAt, cellsIn, shape, Sem.run, hsh, sizeOf, typeInfo, hi, variablesAt, h5 hex, hlies]
  exact wp_value hrun (hK _ ρ _ (.ptr _ _ ⟨L, hL, rfl⟩ rfl rfl) hS (Stp.refl _ _ _))
/-- an address asked whether it is itself -/
theorem psim_same {t t0 yt : TypeId} {x y : Operand} {a : Addr} {i : TypeInfo} (op : BinOp) (hop : op = .eql ∨ op = .neq) (hu : P.underlying t = some (.pointer t0)) (hi : P.info? t0 = some i) (hi0 : i.size ≠ 0) (hx : e.eval x = .pointer (some a)) (hy : e.eval y = .pointer (some a)) :
    PSim P ⟨dst, .binOp op t x y yt, ty, pos, af, gd⟩ e.eval (.bool (if op = .eql then true else false)) := fun ρ ev' hv => by
  have h1 := hv x (by simp [Op.operands])
  have h2 := hv y (by simp [Op.operands])
  rw [hx] at h1
  rw [hy] at h2
  obtain ⟨b, h3, h4⟩ : ∃ b, ev' x = .pointer (some b) ∧ ev' y = .pointer (some b) := by
    generalize ev' x = u at h1
    generalize ev' y = v at h2
    cases h1 with
    | ptr _ b k1 k2 k3 =>
      cases h2 with
      | ptr _ c l1 l2 l3 =>
        refine ⟨b, rfl, ?_⟩
        obtain ⟨L, p1, p2⟩ := k1
        obtain ⟨M, q1, q2⟩ := l1
        rw [p1] at q1; cases q1
        cases b; cases c
        simp_all
  refine ⟨_, .bool _, fun w => pureRun_sound ?_ w⟩
  have he : pureRun P (Op.equal t (.pointer (some b)) (.pointer (some b))) = some true := by
    rw [equal_unf]; unfold Op.equalIn
    rw [pureRun_bind, pureRun_underlying hu]
    simp [pureRun_bind, sizeOf, typeInfo, program, hi, hi0, sameAddr, pureRun]
  rcases hop with rfl | rfl
  · simp only [execOp, h3, h4, pureRun_bind]
    have hg : pureRun P (eqGuard .eql t x y (.pointer (some b)) (.pointer (some b))) = some () := rfl
    have hb : binOp .eql t (.pointer (some b)) (.pointer (some b)) = (do pure (.bool (← Op.equal t (.pointer (some b)) (.pointer (some b))))) := rfl
    simp only [hg, hb, pureRun_bind, he, Option.bind_some, pureRun_pure, if_true]
  · simp only [execOp, h3, h4, pureRun_bind]
    have hg : pureRun P (eqGuard .neq t x y (.pointer (some b)) (.pointer (some b))) = some () := rfl
    have hb : binOp .neq t (.pointer (some b)) (.pointer (some b)) = (do pure (.bool (!(← Op.equal t (.pointer (some b)) (.pointer (some b)))))) := rfl
    simp only [hg, hb, pureRun_bind, he, Option.bind_some, pureRun_pure]
    rfl
/-- where a slice's cells lie -/
theorem psim_data {x : Operand} {ts : Array TypeId} {a : Addr} {n c : Nat} (hx : e.eval x = .slice (some a) n c) (hn : 0 < n) (hk : n ≤ knownCap c) :
    PSim P ⟨dst, .call ⟨.builtin .unsafeSliceData, #[x], ts⟩, ty, pos, af, gd⟩ e.eval (.pointer (some a)) := fun ρ ev' hv => by
  have h1 := hv x (by simp [Op.operands, Call.operands])
  rw [hx] at h1
  obtain ⟨b, c', h3, h4, h5⟩ : ∃ b c', ev' x = .slice (some b) n c' ∧ c' ≠ 0 ∧ VR ρ (.pointer (some a)) (.pointer (some b)) := by
    generalize ev' x = u at h1
    unfold knownCap at hk
    cases h1 with
    | sl _ b _ _ c' k1 k2 k3 k4 =>
      refine ⟨b, c', rfl, ?_, .ptr _ _ k1 k2 k3⟩
      split at hk
      · rename_i hc; have := k4.1 hc; omega
      · rename_i hc; have := (k4.2 (by omega)).1; omega
  refine ⟨_, h5, fun w => pureRun_sound ?_ w⟩
  have hb : Builtin.unsafeSliceData_ ts ty #[.slice (some b) n c'] = pure (.pointer (some b)) := by
    show (if c' ≠ 0 then _ else _) = _
    rw [if_pos h4]
  simp [execOp, resolve, h3, pureRun_bind, invoke, builtin, hb]
/-- a block that no row of ours reads any more may change -/
theorem SR.dead {ρ : Nat → Option Loc} {w w' : World} (h : SR ρ S w) {r : Nat} {x : Row} {L : Loc} (hx : S[r]? = some x) (hm : x.st = .moved) (hron : x.ro = none) (hL : ρ r = some L)
    (hfree : ∀ (q : Nat) (y : Row), At ρ q L.b → S[q]? = some y → y.st ≠ .live) (hcl : ∃ c e fz, w.heap[L.b]? = some (.cells c e fz))
    (hw : ∀ k, k ≠ L.b → w'.heap[k]? = w.heap[k]?) (hsz : w'.heap.size = w.heap.size) (htape : w'.tape = w.tape) (hos : w'.os = w.os) (hout : w'.output = w.output) : SR ρ S w' ∧ Stp ρ S w ρ S w' := by
  refine ⟨⟨fun q y hy hl => ?_, fun q M hM => ?_, h.inj, fun q y s p hy hit => ?_⟩, ⟨Sub.refl _, htape, hos, hout, by omega, fun b hb hq => hw b fun e => ?_, fun b hb hq => hq, fun b hb hq => hq⟩⟩
  · obtain ⟨M, m1, m2⟩ := h.live q y hy hl
    exact ⟨M, m1, m2.mono (Sub.refl _) (hw _ fun e => hfree q y ⟨M, m1, e⟩ hy hl)⟩
  · rw [hsz]; exact h.dom q M hM
  · obtain ⟨M, m1, m2, m3⟩ := h.iter q y s p hy hit
    obtain ⟨c, el, fz, hc⟩ := hcl
    exact ⟨M, m1, by rw [hw _ (fun e' => by rw [e', hc] at m2; cases m2)]; exact m2, m3⟩
  · obtain ⟨y, hy, hyo⟩ := hq r ⟨L, hL, e.symm⟩
    rw [hx] at hy; cases hy
    rw [hm, hron] at hyo
    exact hyo.elim nofun fun h => h rfl
/-- a text of these bytes -/
def strB (l : List (BitVec 8)) : ByteArray := ⟨(l.map fun x => UInt8.ofNat x.toNat).toArray⟩
theorem run_loadBytes {P : Program} {w : World} {b : Nat} : ∀ (l : List (BitVec 8)) (off : Nat) (acc : ByteArray), (∀ j x, l[j]? = some x → w.cell? ⟨b, off + j, none⟩ = some (.int .u8 x.toNat)) →
    (loadBytes ⟨b, off, none⟩ acc l.length).run P w = .ok ⟨acc.data ++ (l.map fun x => UInt8.ofNat x.toNat).toArray⟩ w
  | [], off, acc, _ => by simp [loadBytes]
  | x :: l, off, acc, h => by
    have h0 := h 0 x rfl
    rw [Nat.add_zero] at h0
    have ih := run_loadBytes (P := P) (w := w) (b := b) l (off + 1) (acc.push (UInt8.ofNat x.toNat)) (fun j y hj => by
      have := h (j + 1) y (by simpa using hj)
      rw [Nat.add_assoc, Nat.add_comm 1]; exact this)
    have hadd : Addr.add ⟨b, off, none⟩ 1 = ⟨b, off + 1, none⟩ := by simp [Addr.add]
    simp only [List.length_cons, loadBytes, Sem.run_bind, hadd]
    have hl : (load ⟨b, off, none⟩).run P w = .ok (.int .u8 x.toNat) w := by simp [h0]
    rw [hl]
    simp only [Result.andThen_ok, Int.toNat_natCast]
    have hu : x.toNat.toUInt8 = UInt8.ofNat x.toNat := rfl
    rw [hu, ih]
    simp [ByteArray.push]
theorem sim_string {x y : Operand} {ts : Array TypeId} {b pt u d : Nat} {r : Row} {l : List (BitVec 8)} {k : IntKind} (hx : e.eval x = .pointer (some ⟨b, 0, none⟩)) (hy : e.eval y = .int k (l.length : Int)) (hr : S.row? b = some r) (hro : r.ro = none) (hc : r.cells.take l.length = l.map fun x => Value.int .u8 x.toNat)
    (hn : 0 < l.length) (hn2 : l.length < 9223372036854775807) (hlen : l.length ≤ r.cells.length) (hit : r.it = none) (hts : ts[0]? = some pt) (hpt : P.underlying pt = some (.pointer u)) (hd : P.depth = d + 1) (hs : sameLayout P P.depth r.elem u = true) (h1 : P.cellsOf r.elem = 1) :
    OpSim P G ⟨dst, .call ⟨.builtin .unsafeString, #[x, y], ts⟩, ty, pos, af, gd⟩ e S (.string (strB l)) (S.set b { r with st := .moved }) := fun ρ a w K Q hv hS hG hK => by
  have m1 := hv x (by simp [Op.operands, Call.operands])
  have m2 := hv y (by simp [Op.operands, Call.operands])
  rw [hx] at m1
  rw [hy] at m2
  have m2 : a.eval y = .int k (l.length : Int) := m2.scalar_eq rfl
  obtain ⟨hr1, hr2⟩ := Mem.row?_some hr
  obtain ⟨L, c, fz, hL, g1, g2, g3, g4⟩ := addr_real hS hr m1
  obtain ⟨L', hL', ⟨c', fz', f1, f2, f3, f4, f5, f6, f7⟩⟩ := hS.live _ _ hr1 hr2
  rw [hL] at hL'; cases hL'
  rw [g2] at f1; cases f1
  have hsh := shape_real g2
  obtain ⟨kS, kT⟩ := hS.kill hr1 hr2 hro
  have hbl : b < S.length := row_live_lt hr1
  have hfree : ∀ (q : Nat) (y : Row), At ρ q L.b → (S.set b { r with st := .moved })[q]? = some y → y.st ≠ .live := fun q y hq hy hyl => by
    rw [List.getElem?_set] at hy
    by_cases e1 : b = q
    · subst e1; rw [if_pos rfl, if_pos hbl] at hy; cases hy; cases hyl
    · rw [if_neg e1] at hy
      exact e1 (hS.inj b q r y L.b ⟨L, hL, rfl⟩ hq hr1 hy hr2 hyl)
  have hmod : ∀ k, k ≠ L.b → (w.freeze ⟨L.b, 0, none⟩ l.length).heap[k]? = w.heap[k]? := fun k hk => by
    unfold World.freeze
    split
    · rfl
    · show (w.heap.modify _ _)[k]? = _
      rw [Array.getElem?_modify, if_neg (Ne.symm hk)]
  have hsz : (w.freeze ⟨L.b, 0, none⟩ l.length).heap.size = w.heap.size := by
    unfold World.freeze
    split
    · rfl
    · show (w.heap.modify _ _).size = _; simp
  have hrest : (w.freeze ⟨L.b, 0, none⟩ l.length).tape = w.tape ∧ (w.freeze ⟨L.b, 0, none⟩ l.length).os = w.os ∧ (w.freeze ⟨L.b, 0, none⟩ l.length).output = w.output := by
    unfold World.freeze
    split <;> exact ⟨rfl, rfl, rfl⟩
  obtain ⟨dS, dT⟩ := kS.dead (r := b) (x := { r with st := .moved }) (w' := w.freeze ⟨L.b, 0, none⟩ l.length) (by rw [List.getElem?_set, if_pos rfl, if_pos hbl]) rfl hro hL hfree ⟨_, _, _, g2⟩ hmod hsz hrest.1 hrest.2.1 hrest.2.2
  have hload := run_loadBytes (P := P) (w := w) (b := L.b) l 0 .empty (fun j z hj => by
    have hj1 : j < l.length := (List.getElem?_eq_some_iff.1 hj).1
    have : r.cells[j]? = some (.int .u8 z.toNat) := by
      have := congrArg (·[j]?) hc
      simp only [List.getElem?_take, if_pos hj1, List.getElem?_map, hj, Option.map_some] at this
      exact this
    rw [Nat.zero_add, cell_of_row w _ _ c r.elem fz g2]
    rcases f7 j _ this with ⟨q0, _⟩ | ⟨v', q1, q2⟩
    · exact absurd hro q0
    · rw [q1, q2.scalar_eq rfl])
  have hlies : liesAt P P.depth r.elem c.size 0 u l.length = true := by
    rw [hd, liesAt, hd, rowAt, ← hd]
    simp only [h1]
    rw [hs]
    have : l.length ≤ c.size := by omega
    simp [this]
  have hrun : (execOp a.eval ⟨dst, .call ⟨.builtin .unsafeString, #[x, y], ts⟩, ty, pos, af, gd⟩).run P w = .ok (.value (.string (strB l))) (w.freeze ⟨L.b, 0, none⟩ l.length) := by
    have hb : (Builtin.unsafeString_ ts ty #[.pointer (some ⟨L.b, 0, none⟩), .int k (l.length : Int)]).run P w = .ok (.string (strB l)) (w.freeze ⟨L.b, 0, none⟩ l.length) := by
      have e1 : ¬ ((l.length : Int) < 0) := by omega
      have e2 : ¬ ((l.length : Int) > IntKind.i64.max) := by show ¬ ((l.length : Int) > 9223372036854775807); omega
      have e3 : ¬ ((l.length : Int) = 0) := by omega
      have hld : (loadBytes ⟨L.b, 0, none⟩ .empty l.length).run P w = .ok (strB l) w := by
        rw [hload]
        have he : ByteArray.empty.data = #[] := rfl
        simp only [strB, he, Array.empty_append]
      have hva : (variablesAt ⟨L.b, 0, none⟩ u l.length).run P w = .ok true w := by
        simp [variablesAt, shape, Sem.run, hsh, h1, hlies]
      show Sem.run P (asInt (.int k (l.length : Int)) >>= _) w = _
      rw [Sem.run_bind]
      have ha : (asInt (.int k (l.length : Int))).run P w = .ok (l.length : Int) w := rfl
      rw [ha, Result.andThen_ok]
      simp only [hts]
      rw [if_neg e1, if_neg e2]
      show Sem.run P (if (l.length : Int) = 0 then _ else _) w = _
      rw [if_neg e3]
      have hel : (elemOf pt).run P w = .ok u w := by simp [elemOf, underlying, hpt]
      simp only [Sem.run_bind, hel, Result.andThen_ok, Int.toNat_natCast, hva, if_true, hld, run_freeze, Sem.run_pure]
    simp [execOp, resolve, g1, m2, invoke, builtin, hb]
  exact wp_value hrun (hK _ ρ _ (.string _) dS (kT.trans dT))
/-- a text of the bytes of a row that nobody asks any more -/
theorem L.string {x y : Operand} {ts : Array TypeId} {b pt u d : Nat} {r : Row} (l : List (BitVec 8)) {k : IntKind} (hw : awanted ops ⟨dst, .call ⟨.builtin .unsafeString, #[x, y], ts⟩, ty, pos, af, gd⟩ e = true) (hx : e.eval x = .pointer (some ⟨b, 0, none⟩)) (hy : e.eval y = .int k (l.length : Int)) (hr : S.row? b = some r) (hro : r.ro = none) (hc : r.cells.take l.length = l.map fun x => Value.int .u8 x.toNat)
    (hn : 0 < l.length) (hn2 : l.length < 9223372036854775807) (hlen : l.length ≤ r.cells.length) (hit : r.it = none) (hts : ts[0]? = some pt) (hpt : P.underlying pt = some (.pointer u)) (hd : P.depth = d + 1) (hs : sameLayout P P.depth r.elem u = true) (h1 : P.cellsOf r.elem = 1)
    (h : L P G Ext fl ops rest (e.put dst (.string (strB l))) (S.set b { r with st := .moved }) K) : L P G Ext fl ops (⟨dst, .call ⟨.builtin .unsafeString, #[x, y], ts⟩, ty, pos, af, gd⟩ :: rest) e S K :=
  L.sem hw (sim_string hx hy hr hro hc hn hn2 hlen hit hts hpt hd hs h1) (Nat.le_succ 2) (fun h => by rcases h with h | ⟨h, _⟩ <;> cases h) h
/-- no bytes -/
theorem psim_empty {x y : Operand} {ts : Array TypeId} {pt : TypeId} {k : IntKind} (hx : e.eval x = .pointer none) (hy : e.eval y = .int k 0) (hts : ts[0]? = some pt) : OpSim P G ⟨dst, .call ⟨.builtin .unsafeString, #[x, y], ts⟩, ty, pos, af, gd⟩ e S (.string (strB [])) S := fun ρ a w K Q hv hS hG hK => by
  have m1 := hv x (by simp [Op.operands, Call.operands])
  have m2 := hv y (by simp [Op.operands, Call.operands])
  rw [hx] at m1
  rw [hy] at m2
  have m2 : a.eval y = .int k 0 := m2.scalar_eq rfl
  have m1 : a.eval x = .pointer none := by
    generalize a.eval x = z at m1
    cases m1; rfl
  have hb : (Builtin.unsafeString_ ts ty #[.pointer none, .int k 0]).run P w = .ok (.string (strB [])) w := by
    show Sem.run P (asInt (.int k 0) >>= _) w = _
    rw [Sem.run_bind]
    have ha : (asInt (.int k 0)).run P w = .ok 0 w := rfl
    rw [ha, Result.andThen_ok]
    simp only [hts]
    rfl
  have hrun : (execOp a.eval ⟨dst, .call ⟨.builtin .unsafeString, #[x, y], ts⟩, ty, pos, af, gd⟩).run P w = .ok (.value (.string (strB []))) w := by
    simp [execOp, resolve, m1, m2, invoke, builtin, hb]
  exact wp_value hrun (hK _ ρ _ (.string _) hS (Stp.refl _ _ _))
theorem L.string0 {x y : Operand} {ts : Array TypeId} {pt : TypeId} {k : IntKind} (hw : awanted ops ⟨dst, .call ⟨.builtin .unsafeString, #[x, y], ts⟩, ty, pos, af, gd⟩ e = true) (hx : e.eval x = .pointer none) (hy : e.eval y = .int k 0) (hts : ts[0]? = some pt)
    (h : L P G Ext fl ops rest (e.put dst (.string (strB []))) S K) : L P G Ext fl ops (⟨dst, .call ⟨.builtin .unsafeString, #[x, y], ts⟩, ty, pos, af, gd⟩ :: rest) e S K :=
  L.sem hw (psim_empty hx hy hts) (Nat.le_succ 2) (fun h => by rcases h with h | ⟨h, _⟩ <;> cases h) h
end
end Go.Proofs.YtbdnkneedengcaaGreatDoor

/- Texts as lists of bytes. Conditions: none. -/
set_option linter.unusedSimpArgs false
set_option linter.unusedVariables false
set_option maxRecDepth 100000
namespace Go.Proofs.YtbdnkneedengcaaGreatDoor
open Go
theorem bytesOf_bv (l : BL) : bytesOf (bv l) = some (l.map fun x => UInt8.ofNat x.toNat) := by
  induction l with
  | nil => rfl
  | cons x l ih =>
    show (bytesOf (bv l)).map _ = _
    rw [ih]
    simp
theorem byte_back (x : BitVec 8) : (UInt8.ofNat x.toNat).toNat = x.toNat := by rw [UInt8.toNat_ofNat']; exact Nat.mod_eq_of_lt x.isLt
theorem strB_size (l : BL) : (strB l).size = l.length := by
  show ((l.map _).toArray).size = _
  simp
theorem strB_inj {a b : BL} (h : strB a = strB b) : a = b := by
  have h1 : (a.map fun x => UInt8.ofNat x.toNat) = b.map fun x => UInt8.ofNat x.toNat := by
    have := congrArg (fun s : ByteArray => s.data.toList) h
    simpa [strB] using this
  refine (List.map_inj_right (fun x y h => ?_)).1 h1
  have := congrArg UInt8.toNat h
  rw [byte_back, byte_back] at this
  exact BitVec.eq_of_toNat_eq this
theorem strB_app (a b : BL) : strB a ++ strB b = strB (a ++ b) := by
  apply ByteArray.ext
  rw [ByteArray.data_append]
  simp [strB]
section
variable {P : Program} {G : Nat} {Ext : FuncId → List Value → Mem → Outc → Mem → Prop} {e : Env} {S : Mem} {fl : Bool} {ops : Array Oper} {K : Kont}
variable {rest : List Oper} {dst : Option Tmp} {ty : TypeId} {pos : String} {af : Array Edge} {gd : Option (Nat × Bool)}
/-- bytes made a text -/
theorem L.text {s d : TypeId} {x : Operand} {h : Hd} {l : BL} {el el2 : TypeId} (hx : e.eval x = h.v) (hh : HdOk S el2 h (bv l)) (hs : P.underlying s = some (.slice el)) (hd : P.underlying d = some .string) (hel : isBytes P el = true)
    (hw : awanted ops ⟨dst, .convert s d x, ty, pos, af, gd⟩ e = true)
    (k : L P G Ext fl ops rest (e.put dst (.string (strB l))) S K) : L P G Ext fl ops (⟨dst, .convert s d x, ty, pos, af, gd⟩ :: rest) e S K := by
  obtain ⟨h1, ⟨h2, h3, h4⟩ | ⟨b, r, h2, h3, h4, h5, h6, h7⟩⟩ := hh
  · rw [bv_len] at h1
    have hn : l = [] := List.length_eq_zero_iff.1 (by omega)
    subst hn
    have hv : h.v = .slice none 0 0 := by unfold Hd.v; rw [h2, h3, h4]; rfl
    rw [hv] at hx
    refine L.psim (v := .string (strB [])) hw (fun ρ ev' hv => ?_) k
    have m := hv x (by simp [Op.operands])
    rw [hx] at m
    have m : ev' x = .slice none 0 0 := m.scalar_eq rfl
    refine ⟨_, .string _, fun w => ?_⟩
    have hby' : ∀ w, (underlying el).run P w = .ok (.int .u8) w := fun w => by
      unfold isBytes at hel
      split at hel
      · rename_i hq; exact run_underlying' hq w
      · cases hel
    have hcv : (convert s d (.slice none 0 0)).run P w = (Conv.bytesToString (.slice none 0 0)).run P w := by
      unfold convert
      simp only [Sem.run_bind, run_underlying' hs, run_underlying' hd, Result.andThen_ok, hby']
    simp only [execOp, m, Sem.run_bind, hcv]
    rfl
  · have hn : h.n = l.length := by rw [bv_len] at h1; omega
    have hv : h.v = .slice (some ⟨b, 0, none⟩) l.length h.c := by unfold Hd.v; rw [h2, hn]; rfl
    have hc : S.cellsAt ⟨b, 0, none⟩ l.length = some (bv l) := by
      unfold Mem.cellsAt
      simp only [h3]
      rw [if_pos ⟨trivial, by omega, .inl h4⟩]
      rw [List.drop_zero, ← hn, h6]
    refine L.load hw ?_ k
    unfold aload
    dsimp only
    rw [hx, hv, hs, hd]
    simp only [hel, if_true, hc, Option.bind_some, bytesOf_bv, Option.map_some]
    rfl
end
end Go.Proofs.YtbdnkneedengcaaGreatDoor

/- Texts: parts, comparing, joining; code inside a scope. Conditions: none. -/
set_option linter.unusedSimpArgs false
set_option linter.unusedVariables false
set_option maxRecDepth 100000
namespace Go.Proofs.YtbdnkneedengcaaGreatDoor
open Go
theorem strB_toList (l : BL) : (strB l).toList = l.map fun x => UInt8.ofNat x.toNat := by
  rw [ByteArray.toList_eq]; rfl
theorem strB_same (a b : BL) : ((strB a).toList == (strB b).toList) = decide (a = b) := by
  rw [strB_toList, strB_toList]
  by_cases h : a = b
  · subst h; simp
  · rw [decide_eq_false h]
    exact beq_eq_false_iff_ne.2 fun he => h (strB_inj (by unfold strB; rw [he]))
theorem strB_part (l : BL) (i j : Nat) : (strB l).extract i j = strB ((l.take j).drop i) := by
  apply ByteArray.ext
  rw [ByteArray.data_extract]
  show (l.map fun x => UInt8.ofNat x.toNat).toArray.extract i j = (((l.take j).drop i).map fun x => UInt8.ofNat x.toNat).toArray
  rw [List.extract_toArray, List.extract_eq_take_drop]
  congr 1
  rw [List.map_drop, List.map_take, List.drop_take]
section
variable {P : Program} {G : Nat} {Ext : FuncId → List Value → Mem → Outc → Mem → Prop} {e : Env} {S : Mem} {fl : Bool} {ops : Array Oper} {K : Kont}
variable {rest : List Oper} {dst : Option Tmp} {ty : TypeId} {pos : String} {af : Array Edge} {gd : Option (Nat × Bool)}
theorem W.scope {c : Code} {Q : Xit → Env → Mem → Prop} (h : W P G Ext c e S fun x e' S' => (∀ l, x ≠ .goto l) ∧ Q x e' S') : W P G Ext (.scope c) e S Q := by
  obtain ⟨x, e', S', h1, h2, h3⟩ := h
  exact ⟨x, e', S', .scope (.inScope h1 fun l hl => absurd hl (h2 l)), h3⟩
theorem L.flat {op : Op} {v : Value} (hf : op.operands.toList.all (fun x => flat (e.eval x)) = true) (hv : flat v = true) (hs : ∀ cs b, op ≠ .select cs b) (hp : pureRun P (execOp e.eval ⟨dst, op, ty, pos, af, gd⟩) = some (.value v)) (hw : awanted ops ⟨dst, op, ty, pos, af, gd⟩ e = true)
    (k : L P G Ext fl ops rest (e.put dst v) S K) : L P G Ext fl ops (⟨dst, op, ty, pos, af, gd⟩ :: rest) e S K := by
  refine L.psim hw (fun ρ ev' h => ?_) k
  refine aflat_sound hs ?_ h
  unfold aflat
  dsimp only
  rw [if_pos hf, hp]
  dsimp only
  rw [if_pos hv]
/-- a text's part: from i on -/
theorem L.from {t : TypeId} {x lo : Operand} {l : BL} {k : IntKind} {i : Nat} (hx : e.eval x = .string (strB l)) (hi : e.eval lo = .int k (i : Int)) (hb : i ≤ l.length) (hu : P.underlying t = some .string)
    (hw : awanted ops ⟨dst, .slice t x (some lo) none none, ty, pos, af, gd⟩ e = true) (h : L P G Ext fl ops rest (e.put dst (.string (strB (l.drop i)))) S K) : L P G Ext fl ops (⟨dst, .slice t x (some lo) none none, ty, pos, af, gd⟩ :: rest) e S K := by
  refine L.flat (by simp [Op.operands, hx, hi]; exact ⟨rfl, rfl⟩) rfl nofun ?_ hw h
  have h0 : (0 : Int) ≤ (i : Int) ∧ (i : Int) ≤ (l.length : Nat) := by omega
  have hb : pureRun P (Instr.sliceAt t (.string (strB l)) (some (.int k (i : Int))) none none) = some (.string (strB (l.drop i))) := by
    unfold Instr.sliceAt
    rw [pureRun_bind, pureRun_underlying hu]
    show pureRun P (Instr.slice t (.string (strB l)) (some (.int k (i : Int))) none none) = _
    unfold Instr.slice
    rw [pureRun_bind, pureRun_underlying hu]
    show pureRun P (Instr.sliceBounds false (strB l).size (strB l).size (some (.int k (i : Int))) none none >>= fun (l', h, _) => Pure.pure (Value.string ((strB l).extract l' h))) = _
    rw [pureRun_bind]
    have hs : pureRun P (Instr.sliceBounds false (strB l).size (strB l).size (some (.int k (i : Int))) none none) = some (i, (strB l).size, (strB l).size) := by
      unfold Instr.sliceBounds
      simp [pureRun_bind, Instr.sliceBound, asIntOf, h0, strB_size]
      rw [if_pos hb]; rfl
    rw [hs]
    show some (Value.string ((strB l).extract _ _)) = _
    rw [strB_part]
    simp [strB_size]
  simp only [execOp, hx, hi, Option.map_some, Option.map_none, pureRun_bind, hb]
  rfl
theorem L.upto {t : TypeId} {x hi : Operand} {l : BL} {k : IntKind} {i : Nat} (hx : e.eval x = .string (strB l)) (hi' : e.eval hi = .int k (i : Int)) (hb : i ≤ l.length) (hu : P.underlying t = some .string)
    (hw : awanted ops ⟨dst, .slice t x none (some hi) none, ty, pos, af, gd⟩ e = true) (h : L P G Ext fl ops rest (e.put dst (.string (strB (l.take i)))) S K) : L P G Ext fl ops (⟨dst, .slice t x none (some hi) none, ty, pos, af, gd⟩ :: rest) e S K := by
  refine L.flat (by simp [Op.operands, hx, hi']; exact ⟨rfl, rfl⟩) rfl nofun ?_ hw h
  have h0 : (0 : Int) ≤ (i : Int) ∧ (i : Int) ≤ (l.length : Nat) := by omega
  have hb : pureRun P (Instr.sliceAt t (.string (strB l)) none (some (.int k (i : Int))) none) = some (.string (strB (l.take i))) := by
    unfold Instr.sliceAt
    rw [pureRun_bind, pureRun_underlying hu]
    show pureRun P (Instr.slice t (.string (strB l)) none (some (.int k (i : Int))) none) = _
    unfold Instr.slice
    rw [pureRun_bind, pureRun_underlying hu]
    show pureRun P (Instr.sliceBounds false (strB l).size (strB l).size none (some (.int k (i : Int))) none >>= fun (l', h, _) => Pure.pure (Value.string ((strB l).extract l' h))) = _
    rw [pureRun_bind]
    have hs : pureRun P (Instr.sliceBounds false (strB l).size (strB l).size none (some (.int k (i : Int))) none) = some (0, i, (strB l).size) := by
      unfold Instr.sliceBounds
      simp [pureRun_bind, Instr.sliceBound, asIntOf, h0, strB_size]
      rw [if_pos hb]; rfl
    rw [hs]
    show some (Value.string ((strB l).extract _ _)) = _
    rw [strB_part]
    simp [strB_size]
  simp only [execOp, hx, hi', Option.map_some, Option.map_none, pureRun_bind, hb]
  rfl
/-- two texts joined -/
theorem L.tadd {t yt : TypeId} {x y : Operand} {a b : BL} (hx : e.eval x = .string (strB a)) (hy : e.eval y = .string (strB b)) (hl : a.length + b.length < 1000000000)
    (hw : awanted ops ⟨dst, .binOp .add t x y yt, ty, pos, af, gd⟩ e = true) (h : L P G Ext fl ops rest (e.put dst (.string (strB (a ++ b)))) S K) : L P G Ext fl ops (⟨dst, .binOp .add t x y yt, ty, pos, af, gd⟩ :: rest) e S K := by
  refine L.flat (by simp [Op.operands, hx, hy]; exact ⟨rfl, rfl⟩) rfl nofun ?_ hw h
  have hb : binOp .add t (.string (strB a)) (.string (strB b)) = Pure.pure (.string (strB (a ++ b))) := by
    show Op.stringOp .add _ _ = _
    unfold Op.stringOp
    have : ¬ (((strB a).size + (strB b).size : Nat) : Int) > IntKind.i64.max := by rw [strB_size, strB_size]; show ¬ (_ > (9223372036854775807 : Int)); omega
    simp only [this, if_false, strB_app]
  simp only [execOp, hx, hy, pureRun_bind, hb]
  rfl
/-- a text's length -/
theorem L.tlen {t : TypeId} {x : Operand} {a : BL} {ts : Array TypeId} (hx : e.eval x = .string (strB a)) (hts : ts[0]? = some t) (hu : P.underlying t = some .string)
    (hw : awanted ops ⟨dst, .call ⟨.builtin .len, #[x], ts⟩, ty, pos, af, gd⟩ e = true) (h : L P G Ext fl ops rest (e.put dst (vi a.length)) S K) : L P G Ext fl ops (⟨dst, .call ⟨.builtin .len, #[x], ts⟩, ty, pos, af, gd⟩ :: rest) e S K := by
  refine L.flat (by simp [Op.operands, Call.operands, hx]; rfl) rfl nofun ?_ hw h
  have hb : pureRun P (Builtin.len_ ts ty #[.string (strB a)]) = some (vi a.length) := by
    unfold Builtin.len_
    simp only [hts]
    show pureRun P (underlying t >>= _) = _
    rw [pureRun_bind, pureRun_underlying hu]
    show some (goInt (strB a).size) = _
    rw [strB_size]; rfl
  have hm : ∀ s : Sem Value, pureRun P s = some (vi a.length) → pureRun P (Next.value <$> s) = some (Next.value (vi a.length)) := fun s h => by
    rw [map_eq_pure_bind, pureRun_bind, h]; rfl
  simp [execOp, resolve, hx, pureRun_bind, invoke, builtin]
  exact hm _ hb
end
end Go.Proofs.YtbdnkneedengcaaGreatDoor

/- Doubles: the number that a word stands for; rounding. Conditions: none. -/
set_option linter.unusedSimpArgs false
set_option linter.unusedVariables false
namespace Go.Proofs.YtbdnkneedengcaaGreatDoor.Ie
open Ieee

/-- the number that a sign, a magnitude and a place stand for -/
def numR (s : Bool) (m : Nat) (p : Int) : Rat := (if s then -1 else 1) * ((m : Rat) * (2 : Rat) ^ p)
/-- a word stands for a number -/
def FV (w : Nat) (x : Rat) : Prop := ∃ s m p, double.read w = .number s m p ∧ x = numR s m p
/-- at most so far away -/
def Near (x v e : Rat) : Prop := v - e ≤ x ∧ x ≤ v + e
theorem two_pos (p : Int) : (0 : Rat) < (2 : Rat) ^ p := Rat.zpow_pos (by decide)
theorem two_add (p q : Int) : (2 : Rat) ^ (p + q) = 2 ^ p * 2 ^ q := Rat.zpow_add (by decide) p q
theorem two_nat (n : Nat) : (2 : Rat) ^ (n : Int) = ((2 ^ n : Nat) : Rat) := by
  rw [Rat.zpow_natCast, Rat.natCast_pow]; rfl
theorem dbl_binade : double.binade = 4503599627370496 := rfl
theorem dbl_inf : double.infRung = 9218868437227405312 := rfl
theorem dbl_sign : double.signWeight = 9223372036854775808 := rfl
theorem dbl_least : double.leastPlace = -1074 := rfl
theorem read_rung (s : Bool) {r : Nat} (h : r < 9218868437227405312) : double.read (double.word s r) = if r < 4503599627370496 then .number s r (-1074) else .number s (4503599627370496 + r % 4503599627370496) (-1074 + ((r / 4503599627370496 - 1 : Nat) : Int)) := by
  have h1 : double.word s r / 9223372036854775808 % 2 = if s then 1 else 0 := by
    unfold Format.word; rw [dbl_sign]
    cases s
    · show r / _ % 2 = 0; omega
    · show (9223372036854775808 + r) / _ % 2 = 1; omega
  have h2 : double.word s r % 9223372036854775808 = r := by
    unfold Format.word; rw [dbl_sign]
    cases s
    · show r % _ = r; omega
    · show (9223372036854775808 + r) % _ = r; omega
  unfold Format.read
  rw [dbl_sign, dbl_binade, dbl_inf, dbl_least, h1, h2]
  have h3 : ((if s = true then 1 else 0 : Nat) == 1) = s := by cases s <;> rfl
  rw [h3]
  by_cases h4 : r < 4503599627370496
  · rw [if_pos h4, if_pos h4]
  · rw [if_neg h4, if_neg h4, if_pos h]
theorem read_word (s : Bool) {e k : Nat} (hk : k ≤ 9007199254740992) (he : e ≤ 2044) (h0 : e = 0 ∨ 4503599627370496 ≤ k) :
    FV (double.word s (min (e * double.binade + k) double.infRung)) (numR s k ((e : Int) - 1074)) := by
  rw [dbl_binade, dbl_inf, Nat.min_eq_left (by omega)]
  have hr := read_rung s (r := e * 4503599627370496 + k) (by omega)
  by_cases h1 : e * 4503599627370496 + k < 4503599627370496
  · rw [if_pos h1] at hr
    have he0 : e = 0 := by omega
    subst he0
    refine ⟨s, _, _, hr, ?_⟩
    rw [Nat.zero_mul, Nat.zero_add]; rfl
  · rw [if_neg h1] at hr
    refine ⟨s, _, _, hr, ?_⟩
    by_cases h2 : k < 9007199254740992
    · rcases h0 with rfl | h0
      · rw [show (4503599627370496 + (0 * 4503599627370496 + k) % 4503599627370496) = k by omega, show (((0 * 4503599627370496 + k) / 4503599627370496 - 1 : Nat) : Int) = 0 by omega]; rfl
      · rw [show 4503599627370496 + (e * 4503599627370496 + k) % 4503599627370496 = k by omega, show (((e * 4503599627370496 + k) / 4503599627370496 - 1 : Nat) : Int) = e by omega, show (-1074 + (e : Int)) = (e : Int) - 1074 by omega]
    · have hk2 : k = 9007199254740992 := by omega
      subst hk2
      rw [show 4503599627370496 + (e * 4503599627370496 + 9007199254740992) % 4503599627370496 = 4503599627370496 by omega, show (((e * 4503599627370496 + 9007199254740992) / 4503599627370496 - 1 : Nat) : Int) = (e : Int) + 1 by omega, show (-1074 + ((e : Int) + 1)) = ((e : Int) - 1074) + 1 by omega]
      unfold numR
      rw [two_add ((e : Int) - 1074) 1]
      have : ((9007199254740992 : Nat) : Rat) = ((4503599627370496 : Nat) : Rat) * 2 := by decide +kernel
      rw [this, show (2 : Rat) ^ (1 : Int) = 2 from Rat.zpow_one 2]
      grind
/-- cutting is rounding -/
theorem cut_near (s : Bool) (n d : Nat) : 2 * (Toward.even.cut s n d * 2 ^ d) ≤ 2 * n + 2 ^ d ∧ 2 * n ≤ 2 * (Toward.even.cut s n d * 2 ^ d) + 2 ^ d := by
  unfold Toward.cut
  by_cases h : d ≤ n.log2 + 2
  · rw [Nat.min_eq_left h, Nat.one_shiftLeft]
    have hG : 0 < 2 ^ d := Nat.two_pow_pos d
    have h1 := Nat.div_add_mod n (2 ^ d)
    have h2 := Nat.mod_lt n hG
    generalize 2 ^ d = G at *
    dsimp only
    generalize n % G = R at *
    generalize n / G = Q at *
    rw [Nat.add_mul, Nat.mul_comm Q G]
    generalize G * Q = A at *
    cases hb : (decide (G < 2 * R) || (G == 2 * R && Q % 2 == 1)) with
    | true =>
      have : G ≤ 2 * R := by
        simp at hb; omega
      show 2 * (A + 1 * G) ≤ _ ∧ _ ≤ 2 * (A + 1 * G) + _
      omega
    | false =>
      have : 2 * R ≤ G := by
        simp at hb; omega
      show 2 * (A + 0 * G) ≤ _ ∧ _ ≤ 2 * (A + 0 * G) + _
      omega
  · rw [Nat.min_eq_right (by omega), Nat.one_shiftLeft]
    have h1 : n < 2 ^ (n.log2 + 1) := Nat.lt_log2_self
    have h2 : 2 ^ (n.log2 + 2) = 2 * 2 ^ (n.log2 + 1) := by rw [Nat.pow_succ]; omega
    have h3 : 2 ^ (n.log2 + 2) ≤ 2 ^ d := Nat.pow_le_pow_right (by omega) (by omega)
    dsimp only
    rw [Nat.div_eq_of_lt (by omega), Nat.mod_eq_of_lt (by omega)]
    cases hb : (decide (2 ^ (n.log2 + 2) < 2 * n) || (2 ^ (n.log2 + 2) == 2 * n && 0 % 2 == 1)) with
    | true => simp at hb; omega
    | false =>
      show 2 * ((0 + 0) * 2 ^ d) ≤ _ ∧ _ ≤ 2 * ((0 + 0) * 2 ^ d) + _
      omega
/-- half a unit of the last digit, in parts of the number -/
def eps : Rat := 1 / 9007199254740992
/-- a number that nothing here is near to -/
def tiny : Rat := 1 / 1606938044258990275541962092341162602522202993782792835301376
theorem eps_eq : (2 : Rat) ^ (-53 : Int) = eps := by decide +kernel
theorem tiny_le : (2 : Rat) ^ (-1075 : Int) ≤ tiny := by decide +kernel
theorem two_mono {p q : Int} (h : p ≤ q) : (2 : Rat) ^ p ≤ 2 ^ q := by
  obtain ⟨n, rfl⟩ : ∃ n : Nat, q = p + n := ⟨(q - p).toNat, by omega⟩
  rw [two_add, two_nat]
  have h1 : (1 : Rat) ≤ ((2 ^ n : Nat) : Rat) := by
    have : ((1 : Nat) : Rat) ≤ ((2 ^ n : Nat) : Rat) := Rat.natCast_le_natCast.2 Nat.one_le_two_pow
    exact this
  have h2 := two_pos p
  have := Rat.mul_le_mul_of_nonneg_left h1 (Rat.le_of_lt h2)
  rwa [Rat.mul_one] at this
theorem two_lt {p q : Int} (h : (2 : Rat) ^ p < 2 ^ q) : p < q := by
  refine Classical.byContradiction fun hc => ?_
  have := two_mono (p := q) (q := p) (by omega)
  exact Rat.not_le.2 h this
theorem numR_near {s : Bool} {x y e : Rat} (h : Near x y e) : Near ((if s then -1 else 1) * x) ((if s then -1 else 1) * y) e := by
  obtain ⟨h1, h2⟩ := h
  cases s
  · simp only [Bool.false_eq_true, if_false]; exact ⟨by grind, by grind⟩
  · simp only [if_true]; exact ⟨by grind, by grind⟩
theorem cast_le {a b : Nat} (h : a ≤ b) : (a : Rat) ≤ (b : Rat) := Rat.natCast_le_natCast.2 h
theorem nearest_near (s : Bool) (m : Nat) (p : Int) (h : (m : Rat) * 2 ^ p < 2 ^ (1023 : Int)) : ∃ x, FV (double.nearest s m p) x ∧ Near x (numR s m p) ((m : Rat) * 2 ^ p * eps + tiny) := by
  unfold Format.nearest
  by_cases hm : m = 0
  · subst hm
    rw [if_pos rfl]
    refine ⟨0, ⟨s, 0, -1074, ?_, ?_⟩, ?_⟩
    · have := read_rung s (r := 0) (by omega)
      rwa [if_pos (by omega)] at this
    · unfold numR; cases s <;> decide +kernel
    · unfold numR Near
      rw [show ((0 : Nat) : Rat) * (2 : Rat) ^ p = 0 from Rat.zero_mul _]
      have : (0 : Rat) ≤ tiny := by decide +kernel
      exact ⟨by grind, by grind⟩
  rw [if_neg hm]
  have hL1 := Nat.log2_self_le hm
  have hL2 : m < 2 ^ (m.log2 + 1) := Nat.lt_log2_self
  generalize m.log2 = L at *
  have hLp : (L : Int) + p < 1023 := by
    apply two_lt
    rw [two_add, two_nat]
    have := Rat.mul_le_mul_of_nonneg_right (cast_le hL1) (Rat.le_of_lt (two_pos p))
    grind
  rw [show (double.fractionBits : Int) = 52 from rfl, dbl_least]
  obtain ⟨e, he⟩ : ∃ e : Nat, max (p + (L : Int) - 52) (-1074) = (e : Int) - 1074 := ⟨(max (p + (L : Int) - 52) (-1074) + 1074).toNat, by omega⟩
  rw [he]
  dsimp only
  rw [show ((e : Int) - 1074 - -1074).toNat = e by omega]
  have he2 : e ≤ 2044 := by omega
  have he3 : e = 0 ∨ (e : Int) - 1074 = p + L - 52 := by omega
  have he4 : p + (L : Int) - 52 ≤ (e : Int) - 1074 := by omega
  by_cases hp : (e : Int) - 1074 ≤ p
  · obtain ⟨a, ha⟩ : ∃ a : Nat, p = (e : Int) - 1074 + a := ⟨(p - ((e : Int) - 1074)).toNat, by omega⟩
    rw [show (p - ((e : Int) - 1074)).toNat = a by omega, show ((e : Int) - 1074 - p).toNat = 0 by omega]
    obtain ⟨c1, c2⟩ := cut_near s (m <<< a) 0
    obtain ⟨k, hk⟩ : ∃ k, k = Toward.even.cut s (m <<< a) 0 := ⟨_, rfl⟩
    rw [← hk] at c1 c2 ⊢
    rw [Nat.pow_zero, Nat.mul_one] at c1 c2
    have hkm : k = m * 2 ^ a := by rw [← Nat.shiftLeft_eq]; omega
    have hb1 : k ≤ 9007199254740992 := by
      have h1 : m * 2 ^ a < 2 ^ (L + 1) * 2 ^ a := Nat.mul_lt_mul_of_pos_right hL2 (Nat.two_pow_pos a)
      rw [← Nat.pow_add] at h1
      have h2 : 2 ^ (L + 1 + a) ≤ 2 ^ 53 := Nat.pow_le_pow_right (by omega) (by omega)
      omega
    have hb2 : e = 0 ∨ 4503599627370496 ≤ k := by
      rcases he3 with h0 | h0
      · exact .inl h0
      · right
        have h1 : 2 ^ L * 2 ^ a ≤ m * 2 ^ a := Nat.mul_le_mul_right _ hL1
        rw [← Nat.pow_add, show L + a = 52 by omega] at h1
        omega
    refine ⟨_, read_word s hb1 he2 hb2, ?_⟩
    unfold numR
    refine numR_near ?_
    have hv : (k : Rat) * 2 ^ ((e : Int) - 1074) = (m : Rat) * 2 ^ p := by
      rw [hkm, ha, two_add, two_nat, Rat.natCast_mul]
      grind
    rw [hv]
    have h1 : (0 : Rat) ≤ (m : Rat) * 2 ^ p := Rat.mul_nonneg Rat.natCast_nonneg (Rat.le_of_lt (two_pos p))
    have h2 : (0 : Rat) ≤ (m : Rat) * 2 ^ p * eps := Rat.mul_nonneg h1 (by decide +kernel)
    have h3 : (0 : Rat) ≤ tiny := by decide +kernel
    exact ⟨by grind, by grind⟩
  · obtain ⟨d, hd⟩ : ∃ d : Nat, (e : Int) - 1074 = p + d := ⟨((e : Int) - 1074 - p).toNat, by omega⟩
    rw [show (p - ((e : Int) - 1074)).toNat = 0 by omega, show ((e : Int) - 1074 - p).toNat = d by omega, Nat.shiftLeft_zero]
    obtain ⟨c1, c2⟩ := cut_near s m d
    obtain ⟨k, hk⟩ : ∃ k, k = Toward.even.cut s m d := ⟨_, rfl⟩
    rw [← hk] at c1 c2 ⊢
    have hG := Nat.two_pow_pos d
    have hb1 : k ≤ 9007199254740992 := by
      have h2 : 2 ^ (L + 1) ≤ 2 ^ (53 + d) := Nat.pow_le_pow_right (by omega) (by omega)
      rw [Nat.pow_add 2 53 d] at h2
      refine Classical.byContradiction fun hc => ?_
      have h3 : 9007199254740993 * 2 ^ d ≤ k * 2 ^ d := Nat.mul_le_mul_right _ (by omega)
      generalize k * 2 ^ d = A at *
      generalize 2 ^ d = G at *
      omega
    have hb2 : e = 0 ∨ 4503599627370496 ≤ k := by
      rcases he3 with h0 | h0
      · exact .inl h0
      · right
        have h1 : 2 ^ L = 2 ^ (52 + d) := by congr 1; omega
        rw [Nat.pow_add 2 52 d] at h1
        refine Classical.byContradiction fun hc => ?_
        have h3 : k * 2 ^ d ≤ 4503599627370495 * 2 ^ d := Nat.mul_le_mul_right _ (by omega)
        generalize k * 2 ^ d = A at *
        generalize 2 ^ d = G at *
        omega
    refine ⟨_, read_word s hb1 he2 hb2, ?_⟩
    unfold numR
    refine numR_near ?_
    have hv : (k : Rat) * 2 ^ ((e : Int) - 1074) = ((k * 2 ^ d : Nat) : Rat) * 2 ^ p := by
      rw [hd, two_add, two_nat, Rat.natCast_mul]
      grind
    have hu : (2 : Rat) ^ ((e : Int) - 1074) = ((2 ^ d : Nat) : Rat) * 2 ^ p := by
      rw [hd, two_add, two_nat]
      grind
    have hm0 : (0 : Rat) ≤ (m : Rat) * 2 ^ p := Rat.mul_nonneg Rat.natCast_nonneg (Rat.le_of_lt (two_pos p))
    have he0 : (0 : Rat) ≤ (m : Rat) * 2 ^ p * eps := Rat.mul_nonneg hm0 (by decide +kernel)
    have ht0 : (0 : Rat) ≤ tiny := by decide +kernel
    have herr : (2 : Rat) ^ ((e : Int) - 1074) ≤ 2 * ((m : Rat) * 2 ^ p * eps + tiny) := by
      rcases he3 with h0 | h0
      · subst h0
        have h1 := tiny_le
        have h2 : (2 : Rat) ^ (((0 : Nat) : Int) - 1074) = 2 ^ (-1075 : Int) * 2 := by
          rw [show (((0 : Nat) : Int) - 1074) = -1075 + 1 by omega, two_add, show (2 : Rat) ^ (1 : Int) = 2 from Rat.zpow_one 2]
        rw [h2]; grind
      · rw [h0, show p + (L : Int) - 52 = ((L : Int) + p) + (-53) + 1 by omega, two_add, two_add, two_add, two_nat, show (2 : Rat) ^ (1 : Int) = 2 from Rat.zpow_one 2, eps_eq]
        have h1 := Rat.mul_le_mul_of_nonneg_right (cast_le hL1) (Rat.le_of_lt (two_pos p))
        have h2 := Rat.mul_le_mul_of_nonneg_right h1 (show (0 : Rat) ≤ eps by decide +kernel)
        grind
    rw [hv]
    have c1' := Rat.mul_le_mul_of_nonneg_right (cast_le c1) (Rat.le_of_lt (two_pos p))
    have c2' := Rat.mul_le_mul_of_nonneg_right (cast_le c2) (Rat.le_of_lt (two_pos p))
    rw [Rat.natCast_add, Rat.natCast_mul 2, Rat.natCast_mul 2] at c1' c2'
    rw [hu] at herr
    generalize ((k * 2 ^ d : Nat) : Rat) = A at *
    generalize ((2 ^ d : Nat) : Rat) = D at *
    generalize (2 : Rat) ^ p = T at *
    generalize (m : Rat) = M at *
    have e2 : ((2 : Nat) : Rat) = 2 := rfl
    rw [e2] at c1' c2'
    exact ⟨by grind, by grind⟩
end Go.Proofs.YtbdnkneedengcaaGreatDoor.Ie

/- Doubles: sums, products, near to what they should be. Conditions: none. -/
set_option linter.unusedSimpArgs false
set_option linter.unusedVariables false
namespace Go.Proofs.YtbdnkneedengcaaGreatDoor.Ie
open Ieee

theorem signed_val (s : Bool) (m up : Nat) : ((signed s m up : Int) : Rat) = (if s then -1 else 1) * ((m : Rat) * ((2 ^ up : Nat) : Rat)) := by
  unfold signed
  rw [Nat.shiftLeft_eq]
  cases s
  · simp only [Bool.false_eq_true, if_false]
    rw [Rat.intCast_natCast, Rat.natCast_mul]; grind
  · simp only [if_true]
    rw [Rat.intCast_neg, Rat.intCast_natCast, Rat.natCast_mul]; grind
theorem numR_up {s : Bool} {m : Nat} {p b : Int} (h : b ≤ p) : numR s m p = ((signed s m (p - b).toNat : Int) : Rat) * 2 ^ b := by
  rw [signed_val]
  obtain ⟨d, hd⟩ : ∃ d : Nat, p = b + d := ⟨(p - b).toNat, by omega⟩
  rw [show (p - b).toNat = d by omega, hd]
  unfold numR
  rw [two_add, two_nat]; grind
theorem abs_val (x : Int) : (if decide (x < 0) then -1 else 1 : Rat) * (x.natAbs : Rat) = (x : Rat) := by
  by_cases h : x < 0
  · rw [decide_eq_true h, if_pos rfl]
    have : x = -(x.natAbs : Int) := by omega
    conv => rhs; rw [this]
    rw [Rat.intCast_neg, Rat.intCast_natCast]; grind
  · rw [decide_eq_false h]
    simp only [Bool.false_eq_true, if_false]
    have : x = (x.natAbs : Int) := by omega
    conv => rhs; rw [this]
    rw [Rat.intCast_natCast]; grind
theorem sum_val (s t : Bool) (m n : Nat) (i j : Int) : ∃ u k b, (Datum.number s m i).sum (.number t n j) = some (.number u k b) ∧ numR u k b = numR s m i + numR t n j := by
  refine ⟨_, _, _, rfl, ?_⟩
  rw [numR_up (s := s) (m := m) (p := i) (b := min i j) (by omega), numR_up (s := t) (m := n) (p := j) (b := min i j) (by omega)]
  generalize signed s m (i - min i j).toNat = x
  generalize signed t n (j - min i j).toNat = y
  have h2 := abs_val (x + y)
  rw [Rat.intCast_add] at h2
  unfold numR
  by_cases h0 : x + y = 0
  · rw [if_pos h0, h0]
    have h3 : (x : Rat) + (y : Rat) = 0 := by rw [← Rat.intCast_add, h0]; rfl
    show _ * (((0 : Nat) : Rat) * _) = _
    have : ((0 : Nat) : Rat) = 0 := rfl
    rw [this]; grind
  · rw [if_neg h0]
    grind
theorem opp_val (s : Bool) (m : Nat) (p : Int) : numR (!s) m p = - numR s m p := by
  unfold numR; cases s
  · simp only [Bool.not_false, if_true, Bool.false_eq_true, if_false]; grind
  · simp only [Bool.not_true, if_true, Bool.false_eq_true, if_false]; grind
theorem mul_val (s t : Bool) (m n : Nat) (i j : Int) : numR (s ^^ t) (m * n) (i + j) = numR s m i * numR t n j := by
  unfold numR
  rw [two_add, Rat.natCast_mul]
  cases s <;> cases t <;> simp <;> grind
/-- a magnitude is the number without its sign -/
theorem mag_val {s : Bool} {m : Nat} {p : Int} {x B : Rat} (h : numR s m p = x) (h1 : -B ≤ x) (h2 : x ≤ B) : (m : Rat) * 2 ^ p ≤ B := by
  unfold numR at h
  cases s
  · simp only [Bool.false_eq_true, if_false] at h; grind
  · simp only [if_true] at h; grind
/-- greater numbers are not asked -/
def top : Rat := 1606938044258990275541962092341162602522202993782792835301376
theorem top_lt : top < (2 : Rat) ^ (1023 : Int) := by decide +kernel
theorem Near.mono {x v e e' : Rat} (h : Near x v e) (he : e ≤ e') : Near x v e' := by
  obtain ⟨h1, h2⟩ := h
  exact ⟨by grind, by grind⟩
theorem write_near {s : Bool} {m : Nat} {p : Int} {v B : Rat} (h : numR s m p = v) (h1 : -B ≤ v) (h2 : v ≤ B) (hB : B ≤ top) : ∃ x, FV (double.write (.number s m p)) x ∧ Near x v (B * eps + tiny) := by
  have hm := mag_val h h1 h2
  have ht := top_lt
  obtain ⟨x, hx, hn⟩ := nearest_near s m p (by grind)
  refine ⟨x, hx, ?_⟩
  rw [h] at hn
  refine hn.mono ?_
  have := Rat.mul_le_mul_of_nonneg_right hm (show (0 : Rat) ≤ eps by decide +kernel)
  grind
theorem add_near {a b : Nat} {x y B : Rat} (ha : FV a x) (hb : FV b y) (h1 : -B ≤ x + y) (h2 : x + y ≤ B) (hB : B ≤ top) : ∃ r z, double.add a b = some r ∧ FV r z ∧ Near z (x + y) (B * eps + tiny) := by
  obtain ⟨s, m, p, hr, rfl⟩ := ha
  obtain ⟨t, n, q, hq, rfl⟩ := hb
  obtain ⟨u, k, c, hs, hv⟩ := sum_val s t m n p q
  obtain ⟨z, hz, hn⟩ := write_near hv h1 h2 hB
  refine ⟨_, z, ?_, hz, hn⟩
  unfold Format.add
  rw [hr, hq, hs]; rfl
theorem sub_near {a b : Nat} {x y B : Rat} (ha : FV a x) (hb : FV b y) (h1 : -B ≤ x - y) (h2 : x - y ≤ B) (hB : B ≤ top) : ∃ r z, double.sub a b = some r ∧ FV r z ∧ Near z (x - y) (B * eps + tiny) := by
  obtain ⟨s, m, p, hr, rfl⟩ := ha
  obtain ⟨t, n, q, hq, rfl⟩ := hb
  obtain ⟨u, k, c, hs, hv⟩ := sum_val s (!t) m n p q
  rw [opp_val] at hv
  obtain ⟨z, hz, hn⟩ := write_near (v := numR s m p - numR t n q) (B := B) (by rw [hv]; grind) h1 h2 hB
  refine ⟨_, z, ?_, hz, hn⟩
  unfold Format.sub
  rw [hr, hq]
  show ((Datum.number s m p).sum (.number (!t) n q)).map _ = _
  rw [hs]; rfl
theorem mul_near {a b : Nat} {x y B : Rat} (ha : FV a x) (hb : FV b y) (h1 : -B ≤ x * y) (h2 : x * y ≤ B) (hB : B ≤ top) : ∃ r z, double.mul a b = some r ∧ FV r z ∧ Near z (x * y) (B * eps + tiny) := by
  obtain ⟨s, m, p, hr, rfl⟩ := ha
  obtain ⟨t, n, q, hq, rfl⟩ := hb
  obtain ⟨z, hz, hn⟩ := write_near (mul_val s t m n p q) h1 h2 hB
  refine ⟨_, z, ?_, hz, hn⟩
  unfold Format.mul
  rw [hr, hq]; rfl
end Go.Proofs.YtbdnkneedengcaaGreatDoor.Ie

/- Complex numbers of two fractions; of two doubles. Conditions: none. -/
set_option linter.unusedSimpArgs false
set_option linter.unusedVariables false
namespace Go.Proofs.YtbdnkneedengcaaGreatDoor.Ie
open Ieee

/-- a complex number -/
@[ext] structure Cx where
  re : Rat
  im : Rat
namespace Cx
def add (z w : Cx) : Cx := ⟨z.re + w.re, z.im + w.im⟩
def sub (z w : Cx) : Cx := ⟨z.re - w.re, z.im - w.im⟩
def mul (z w : Cx) : Cx := ⟨z.re * w.re - z.im * w.im, z.re * w.im + z.im * w.re⟩
def neg (z : Cx) : Cx := ⟨-z.re, -z.im⟩
/-- its magnitude is at most A -/
def M (z : Cx) (A : Rat) : Prop := 0 ≤ A ∧ z.re * z.re + z.im * z.im ≤ A * A
theorem sq_nonneg (x : Rat) : 0 ≤ x * x := by
  rcases Rat.le_total (a := 0) (b := x) with h | h
  · exact Rat.mul_nonneg h h
  · have := Rat.mul_nonneg (a := -x) (b := -x) (by grind) (by grind)
    grind
/-- of numbers that are not negative, the one with the lesser square is the lesser one -/
theorem le_of_sq {x A : Rat} (hA : 0 ≤ A) (h : x * x ≤ A * A) : x ≤ A := by
  refine Classical.byContradiction fun hc => ?_
  have hc : A < x := Rat.not_le.1 hc
  have h1 := Rat.mul_le_mul_of_nonneg_left (Rat.le_of_lt hc) hA
  have h2 := Rat.mul_lt_mul_of_pos_right hc (show 0 < x by grind)
  grind
theorem sq_mono {A B : Rat} (hA : 0 ≤ A) (h : A ≤ B) : A * A ≤ B * B := by
  have h1 := Rat.mul_le_mul_of_nonneg_left h hA
  have h2 := Rat.mul_le_mul_of_nonneg_right h (show 0 ≤ B by grind)
  grind
theorem M.mono {z : Cx} {A B : Rat} (h : z.M A) (hB : A ≤ B) : z.M B := ⟨by have := h.1; grind, by have := sq_mono h.1 hB; have := h.2; grind⟩
theorem M.re_le {z : Cx} {A : Rat} (h : z.M A) : -A ≤ z.re ∧ z.re ≤ A := by
  obtain ⟨h1, h2⟩ := h
  have h3 := sq_nonneg z.im
  have h4 := le_of_sq (x := z.re) h1 (by grind)
  have h5 := le_of_sq (x := -z.re) h1 (by grind)
  exact ⟨by grind, h4⟩
theorem M.im_le {z : Cx} {A : Rat} (h : z.M A) : -A ≤ z.im ∧ z.im ≤ A := by
  obtain ⟨h1, h2⟩ := h
  have h3 := sq_nonneg z.re
  have h4 := le_of_sq (x := z.im) h1 (by grind)
  have h5 := le_of_sq (x := -z.im) h1 (by grind)
  exact ⟨by grind, h4⟩
theorem M.add {z w : Cx} {A B : Rat} (h : z.M A) (k : w.M B) : (z.add w).M (A + B) := by
  obtain ⟨h1, h2⟩ := h
  obtain ⟨k1, k2⟩ := k
  refine ⟨by grind, ?_⟩
  have hAB := Rat.mul_nonneg h1 k1
  have hz : 0 ≤ z.re * z.re + z.im * z.im := by have := sq_nonneg z.re; have := sq_nonneg z.im; grind
  have hm : (z.re * z.re + z.im * z.im) * (w.re * w.re + w.im * w.im) ≤ (A * B) * (A * B) := by
    have m1 := Rat.mul_le_mul_of_nonneg_left k2 hz
    have m2 := Rat.mul_le_mul_of_nonneg_right h2 (sq_nonneg B)
    grind
  have hs := sq_nonneg (z.re * w.im - z.im * w.re)
  have hd : z.re * w.re + z.im * w.im ≤ A * B := le_of_sq hAB (by grind)
  show (z.re + w.re) * (z.re + w.re) + (z.im + w.im) * (z.im + w.im) ≤ _
  grind
theorem M.mul {z w : Cx} {A B : Rat} (h : z.M A) (k : w.M B) : (z.mul w).M (A * B) := by
  obtain ⟨h1, h2⟩ := h
  obtain ⟨k1, k2⟩ := k
  refine ⟨Rat.mul_nonneg h1 k1, ?_⟩
  have hz : 0 ≤ z.re * z.re + z.im * z.im := by have := sq_nonneg z.re; have := sq_nonneg z.im; grind
  have m1 := Rat.mul_le_mul_of_nonneg_left k2 hz
  have m2 := Rat.mul_le_mul_of_nonneg_right h2 (sq_nonneg B)
  show (z.re * w.re - z.im * w.im) * (z.re * w.re - z.im * w.im) + (z.re * w.im + z.im * w.re) * (z.re * w.im + z.im * w.re) ≤ _
  grind
theorem M.neg {z : Cx} {A : Rat} (h : z.M A) : z.neg.M A := by
  obtain ⟨h1, h2⟩ := h
  refine ⟨h1, ?_⟩
  show -z.re * -z.re + -z.im * -z.im ≤ _
  grind
theorem sub_eq (z w : Cx) : z.sub w = z.add w.neg := by
  unfold sub add neg
  congr 1 <;> grind
theorem M.sub {z w : Cx} {A B : Rat} (h : z.M A) (k : w.M B) : (z.sub w).M (A + B) := by rw [sub_eq]; exact h.add k.neg
theorem M.of {z : Cx} {e : Rat} (h1 : -e ≤ z.re) (h2 : z.re ≤ e) (h3 : -e ≤ z.im) (h4 : z.im ≤ e) : z.M (2 * e) := by
  have he : 0 ≤ e := by grind
  have s1 : z.re * z.re ≤ e * e := by
    have := Rat.mul_nonneg (show 0 ≤ e - z.re by grind) (show 0 ≤ e + z.re by grind)
    grind
  have s2 : z.im * z.im ≤ e * e := by
    have := Rat.mul_nonneg (show 0 ≤ e - z.im by grind) (show 0 ≤ e + z.im by grind)
    grind
  have := sq_nonneg e
  exact ⟨by grind, by grind⟩
end Cx
/-- two words stand for a complex number -/
def CV (w : Nat × Nat) (z : Cx) : Prop := FV w.1 z.re ∧ FV w.2 z.im
def cadd (z w : Nat × Nat) : Option (Nat × Nat) := (double.add z.1 w.1).bind fun a => (double.add z.2 w.2).map fun b => (a, b)
def csub (z w : Nat × Nat) : Option (Nat × Nat) := (double.sub z.1 w.1).bind fun a => (double.sub z.2 w.2).map fun b => (a, b)
def cmul (z w : Nat × Nat) : Option (Nat × Nat) :=
  (double.mul z.1 w.1).bind fun ac => (double.mul z.2 w.2).bind fun bd => (double.sub ac bd).bind fun r =>
  (double.mul z.1 w.2).bind fun ad => (double.mul z.2 w.1).bind fun bc => (double.add ad bc).map fun i => (r, i)
theorem cadd_near {u v : Nat × Nat} {x y : Cx} {B : Rat} (hu : CV u x) (hv : CV v y) (hB : (x.add y).M B) (ht : B ≤ top) : ∃ r z, cadd u v = some r ∧ CV r z ∧ (z.sub (x.add y)).M (2 * (B * eps + tiny)) := by
  obtain ⟨r1, z1, a1, b1, c1, d1⟩ := add_near hu.1 hv.1 hB.re_le.1 hB.re_le.2 ht
  obtain ⟨r2, z2, a2, b2, c2, d2⟩ := add_near hu.2 hv.2 hB.im_le.1 hB.im_le.2 ht
  refine ⟨(r1, r2), ⟨z1, z2⟩, ?_, ⟨b1, b2⟩, Cx.M.of ?_ ?_ ?_ ?_⟩
  · unfold cadd; rw [a1, a2]; rfl
  · show _ ≤ z1 - (x.re + y.re); grind
  · show z1 - (x.re + y.re) ≤ _; grind
  · show _ ≤ z2 - (x.im + y.im); grind
  · show z2 - (x.im + y.im) ≤ _; grind
theorem csub_near {u v : Nat × Nat} {x y : Cx} {B : Rat} (hu : CV u x) (hv : CV v y) (hB : (x.sub y).M B) (ht : B ≤ top) : ∃ r z, csub u v = some r ∧ CV r z ∧ (z.sub (x.sub y)).M (2 * (B * eps + tiny)) := by
  obtain ⟨r1, z1, a1, b1, c1, d1⟩ := sub_near hu.1 hv.1 hB.re_le.1 hB.re_le.2 ht
  obtain ⟨r2, z2, a2, b2, c2, d2⟩ := sub_near hu.2 hv.2 hB.im_le.1 hB.im_le.2 ht
  refine ⟨(r1, r2), ⟨z1, z2⟩, ?_, ⟨b1, b2⟩, Cx.M.of ?_ ?_ ?_ ?_⟩
  · unfold csub; rw [a1, a2]; rfl
  · show _ ≤ z1 - (x.re - y.re); grind
  · show z1 - (x.re - y.re) ≤ _; grind
  · show _ ≤ z2 - (x.im - y.im); grind
  · show z2 - (x.im - y.im) ≤ _; grind
theorem prod_le {x y A B : Rat} (h1 : -A ≤ x) (h2 : x ≤ A) (h3 : -B ≤ y) (h4 : y ≤ B) : -(A * B) ≤ x * y ∧ x * y ≤ A * B := by
  have hA : 0 ≤ A := by grind
  have hB : 0 ≤ B := by grind
  have p1 := Rat.mul_nonneg (show 0 ≤ A - x by grind) (show 0 ≤ B - y by grind)
  have p2 := Rat.mul_nonneg (show 0 ≤ A + x by grind) (show 0 ≤ B + y by grind)
  have p3 := Rat.mul_nonneg (show 0 ≤ A - x by grind) (show 0 ≤ B + y by grind)
  have p4 := Rat.mul_nonneg (show 0 ≤ A + x by grind) (show 0 ≤ B - y by grind)
  exact ⟨by grind, by grind⟩
theorem cmul_near {u v : Nat × Nat} {x y : Cx} {A B : Rat} (hu : CV u x) (hv : CV v y) (hA : x.M A) (hB : y.M B) (ht : 4 * (A * B) + 4 ≤ top) : ∃ r z, cmul u v = some r ∧ CV r z ∧ (z.sub (x.mul y)).M (12 * (A * B) * eps + 12 * tiny) := by
  have hAB := Rat.mul_nonneg hA.1 hB.1
  have he : (0 : Rat) ≤ eps ∧ eps ≤ 1 / 1000 := by decide +kernel
  have hti : (0 : Rat) ≤ tiny ∧ tiny ≤ 1 / 1000 := by decide +kernel
  have hk : (A * B) * eps ≤ A * B * (1 / 1000) := Rat.mul_le_mul_of_nonneg_left he.2 hAB
  have hk0 := Rat.mul_nonneg hAB he.1
  have p1 := prod_le hA.re_le.1 hA.re_le.2 hB.re_le.1 hB.re_le.2
  have p2 := prod_le hA.im_le.1 hA.im_le.2 hB.im_le.1 hB.im_le.2
  have p3 := prod_le hA.re_le.1 hA.re_le.2 hB.im_le.1 hB.im_le.2
  have p4 := prod_le hA.im_le.1 hA.im_le.2 hB.re_le.1 hB.re_le.2
  obtain ⟨r1, z1, a1, b1, c1, d1⟩ := mul_near hu.1 hv.1 p1.1 p1.2 (by grind)
  obtain ⟨r2, z2, a2, b2, c2, d2⟩ := mul_near hu.2 hv.2 p2.1 p2.2 (by grind)
  obtain ⟨r3, z3, a3, b3, c3, d3⟩ := mul_near hu.1 hv.2 p3.1 p3.2 (by grind)
  obtain ⟨r4, z4, a4, b4, c4, d4⟩ := mul_near hu.2 hv.1 p4.1 p4.2 (by grind)
  obtain ⟨r5, z5, a5, b5, c5, d5⟩ := sub_near (B := 3 * (A * B) + 3 * tiny) b1 b2 (by grind) (by grind) (by grind)
  obtain ⟨r6, z6, a6, b6, c6, d6⟩ := add_near (B := 3 * (A * B) + 3 * tiny) b3 b4 (by grind) (by grind) (by grind)
  have ht2 : tiny * eps ≤ tiny * (1 / 1000) := Rat.mul_le_mul_of_nonneg_left he.2 hti.1
  have h6 : (3 * (A * B) + 3 * tiny) * eps = 3 * ((A * B) * eps) + 3 * (tiny * eps) := by grind
  rw [h6] at c5 d5 c6 d6
  refine ⟨(r5, r6), ⟨z5, z6⟩, ?_, ⟨b5, b6⟩, Cx.M.mono (A := 2 * (6 * ((A * B) * eps) + 6 * tiny)) (Cx.M.of ?_ ?_ ?_ ?_) (by grind)⟩
  · unfold cmul
    rw [a1, a2]
    simp only [Option.bind_some, a5, a3, a4, a6, Option.map_some]
  · show _ ≤ z5 - (x.re * y.re - x.im * y.im); grind
  · show z5 - (x.re * y.re - x.im * y.im) ≤ _; grind
  · show _ ≤ z6 - (x.re * y.im + x.im * y.re); grind
  · show z6 - (x.re * y.im + x.im * y.re) ≤ _; grind
end Go.Proofs.YtbdnkneedengcaaGreatDoor.Ie

/- A table of complex numbers that turns like a root of one. Conditions: none. -/
set_option linter.unusedSimpArgs false
set_option linter.unusedVariables false
namespace Go.Proofs.YtbdnkneedengcaaGreatDoor.Ie
namespace Cx
def one : Cx := ⟨1, 0⟩
def zero : Cx := ⟨0, 0⟩
theorem mul_assoc (x y z : Cx) : (x.mul y).mul z = x.mul (y.mul z) := by unfold mul; congr 1 <;> grind
theorem mul_comm (x y : Cx) : x.mul y = y.mul x := by unfold mul; congr 1 <;> grind
theorem mul_add (x y z : Cx) : x.mul (y.add z) = (x.mul y).add (x.mul z) := by unfold mul add; congr 1 <;> grind
theorem add_mul (x y z : Cx) : (x.add y).mul z = (x.mul z).add (y.mul z) := by unfold mul add; congr 1 <;> grind
theorem one_mul (x : Cx) : one.mul x = x := by cases x; unfold mul one; congr 1 <;> grind
theorem mul_one (x : Cx) : x.mul one = x := by cases x; unfold mul one; congr 1 <;> grind
theorem neg_mul (x y : Cx) : x.neg.mul y = (x.mul y).neg := by unfold mul neg; congr 1 <;> grind
theorem mul_neg (x y : Cx) : x.mul y.neg = (x.mul y).neg := by unfold mul neg; congr 1 <;> grind
theorem neg_neg (x : Cx) : x.neg.neg = x := by cases x; unfold neg; congr 1 <;> grind
theorem add_comm (x y : Cx) : x.add y = y.add x := by unfold add; congr 1 <;> grind
theorem add_assoc (x y z : Cx) : (x.add y).add z = x.add (y.add z) := by unfold add; congr 1 <;> grind
theorem add_zero (x : Cx) : x.add zero = x := by cases x; unfold add zero; congr 1 <;> grind
theorem zero_add (x : Cx) : zero.add x = x := by cases x; unfold add zero; congr 1 <;> grind
theorem mul_zero (x : Cx) : x.mul zero = zero := by unfold mul zero; congr 1 <;> grind
theorem zero_mul (x : Cx) : zero.mul x = zero := by unfold mul zero; congr 1 <;> grind
theorem sub_self (x : Cx) : x.sub x = zero := by unfold sub zero; congr 1 <;> grind
theorem neg_zero : zero.neg = zero := by unfold neg zero; congr 1
theorem add_neg (x : Cx) : x.add x.neg = zero := by unfold add neg zero; congr 1 <;> grind
theorem M.zero {A : Rat} (h : 0 ≤ A) : zero.M A := ⟨h, by have := sq_nonneg A; show (0 : Rat) * 0 + 0 * 0 ≤ _; grind⟩
theorem M.one : one.M 1 := ⟨by decide +kernel, by decide +kernel⟩
/-- a step near one table's entry -/
def g : Cx := ⟨1267644634423113846968036898775 / 1267650600228229401496703205376, 3889097232048075534265022357 / 1267650600228229401496703205376⟩
theorem g_M : g.M 1 := ⟨by decide +kernel, by decide +kernel⟩
def zp : Nat → Cx
  | 0 => one
  | k + 1 => (zp k).mul g
theorem zp_add (a b : Nat) : zp (a + b) = (zp a).mul (zp b) := by
  induction b with
  | zero => show zp a = (zp a).mul one; rw [mul_one]
  | succ b ih => show (zp (a + b)).mul g = (zp a).mul ((zp b).mul g); rw [ih, mul_assoc]
theorem zp_M (k : Nat) : (zp k).M 1 := by
  induction k with
  | zero => exact M.one
  | succ k ih => have := ih.mul g_M; rwa [Rat.mul_one] at this
def sqs : Nat → Cx → Cx
  | 0, x => x
  | n + 1, x => sqs n (x.mul x)
theorem sqs_zp (n k : Nat) : sqs n (zp k) = zp (2 ^ n * k) := by
  induction n generalizing k with
  | zero => show zp k = _; rw [Nat.pow_zero, Nat.one_mul]
  | succ n ih => show sqs n ((zp k).mul (zp k)) = _; rw [← zp_add, ih]; congr 1; rw [Nat.pow_succ]; rw [Nat.mul_assoc]; congr 1; omega
/-- how far the table is from turning wholly -/
def theta : Rat := 1 / 1208925819614629174706176
theorem half_M : ((zp 1024).add one).M theta := by
  have h : zp 1024 = sqs 10 g := by
    have h1 := sqs_zp 10 1
    have h2 : zp 1 = g := by show one.mul g = g; rw [one_mul]
    rw [h2] at h1; exact h1.symm
  rw [h]
  exact ⟨by decide +kernel, by decide +kernel⟩
/-- the table -/
def z (m : Nat) : Cx := if m % 2048 < 1024 then zp (m % 2048) else (zp (m % 2048 - 1024)).neg
theorem z_zero : z 0 = one := rfl
theorem z_period (m k : Nat) : z (m + 2048 * k) = z m := by unfold z; rw [Nat.add_mul_mod_self_left]
theorem z_half (m : Nat) : z (m + 1024) = (z m).neg := by
  unfold z
  by_cases h : m % 2048 < 1024
  · rw [if_pos h, if_neg (by omega), show (m + 1024) % 2048 - 1024 = m % 2048 by omega]
  · rw [if_neg h, if_pos (by omega), show (m + 1024) % 2048 = m % 2048 - 1024 by omega, neg_neg]
theorem z_M (m : Nat) : (z m).M 1 := by
  unfold z; split
  · exact zp_M _
  · exact (zp_M _).neg
theorem zp_near {a b : Nat} (ha : a < 1024) (hb : b < 1024) : (((zp a).mul (zp b)).sub (z (a + b))).M theta := by
  rw [← zp_add]
  have ht : (0 : Rat) ≤ theta := by decide +kernel
  unfold z
  by_cases h : (a + b) % 2048 < 1024
  · rw [if_pos h, show (a + b) % 2048 = a + b by omega, sub_self]; exact M.zero ht
  · rw [if_neg h]
    obtain ⟨c, hc⟩ : ∃ c, a + b = c + 1024 := ⟨a + b - 1024, by omega⟩
    rw [hc, show (c + 1024) % 2048 - 1024 = c by omega, zp_add]
    have h1 := (zp_M c).mul half_M
    rw [Rat.one_mul] at h1
    have h2 : ((zp c).mul (zp 1024)).sub (zp c).neg = (zp c).mul ((zp 1024).add one) := by
      rw [mul_add, mul_one, sub_eq, neg_neg]
    rw [h2]; exact h1
theorem neg_sub_neg (x y : Cx) : x.neg.sub y.neg = (x.sub y).neg := by unfold sub neg; congr 1 <;> grind
theorem z_near (a b : Nat) : (((z a).mul (z b)).sub (z (a + b))).M theta := by
  have hs : ∀ m, ∃ a', a' < 1024 ∧ ∃ k, (m = a' + 2048 * k ∧ z m = zp a') ∨ (m = a' + 1024 + 2048 * k ∧ z m = (zp a').neg) := by
    intro m
    by_cases h : m % 2048 < 1024
    · exact ⟨m % 2048, h, m / 2048, .inl ⟨by omega, by unfold z; rw [if_pos h]⟩⟩
    · exact ⟨m % 2048 - 1024, by omega, m / 2048, .inr ⟨by omega, by unfold z; rw [if_neg h]⟩⟩
  obtain ⟨a', ha, ka, h1⟩ := hs a
  obtain ⟨b', hb, kb, h2⟩ := hs b
  have hn := zp_near ha hb
  rcases h1 with ⟨ea, za⟩ | ⟨ea, za⟩ <;> rcases h2 with ⟨eb, zb⟩ | ⟨eb, zb⟩ <;> rw [za, zb]
  · rw [show a + b = (a' + b') + 2048 * (ka + kb) by omega, z_period]; exact hn
  · rw [show a + b = (a' + b') + 1024 + 2048 * (ka + kb) by omega, z_period, z_half, mul_neg, neg_sub_neg]; exact hn.neg
  · rw [show a + b = (a' + b') + 1024 + 2048 * (ka + kb) by omega, z_period, z_half, neg_mul, neg_sub_neg]; exact hn.neg
  · rw [show a + b = (a' + b') + 2048 * (ka + kb + 1) by omega, z_period, neg_mul, mul_neg, neg_neg]; exact hn
/-- what turns like the table -/
def Turns (c : Nat → Cx) : Prop := (∀ m, c (m + 1024) = (c m).neg) ∧ (∀ a b, (((c a).mul (c b)).sub (c (a + b))).M theta) ∧ ∀ m, (c m).M 1
theorem z_turns : Turns z := ⟨z_half, z_near, z_M⟩
/-- the table backwards -/
def zb (m : Nat) : Cx := z (2047 * m)
theorem zb_turns : Turns zb := by
  refine ⟨fun m => ?_, fun a b => ?_, fun m => z_M _⟩
  · unfold zb
    rw [show 2047 * (m + 1024) = (2047 * m + 1024) + 2048 * 1023 by omega, z_period, z_half]
  · unfold zb
    rw [Nat.mul_add]; exact z_near _ _
end Cx
end Go.Proofs.YtbdnkneedengcaaGreatDoor.Ie

/- Sums of complex numbers; the transform and its halves. Conditions: none. -/
set_option linter.unusedSimpArgs false
set_option linter.unusedVariables false
namespace Go.Proofs.YtbdnkneedengcaaGreatDoor.Ie
namespace Cx
def sum : Nat → (Nat → Cx) → Cx
  | 0, _ => zero
  | n + 1, f => (sum n f).add (f n)
theorem sum_congr {n : Nat} {f h : Nat → Cx} (k : ∀ i, i < n → f i = h i) : sum n f = sum n h := by
  induction n with
  | zero => rfl
  | succ n ih => show (sum n f).add (f n) = (sum n h).add (h n); rw [ih (fun i hi => k i (by omega)), k n (by omega)]
theorem nat_succ (n : Nat) : ((n + 1 : Nat) : Rat) = (n : Rat) + 1 := by rw [Rat.natCast_add]; rfl
theorem sum_M {n : Nat} {f : Nat → Cx} {A : Rat} (hA : 0 ≤ A) (h : ∀ i, i < n → (f i).M A) : (sum n f).M (n * A) := by
  induction n with
  | zero => exact M.zero (by show (0 : Rat) ≤ 0 * A; grind)
  | succ n ih =>
    refine ((ih fun i hi => h i (by omega)).add (h n (by omega))).mono ?_
    rw [nat_succ]; grind
theorem sum_split (n : Nat) (f : Nat → Cx) : sum (2 * n) f = (sum n fun t => f (2 * t)).add (sum n fun t => f (2 * t + 1)) := by
  induction n with
  | zero => exact (add_zero zero).symm
  | succ n ih =>
    show ((sum (2 * n) f).add (f (2 * n))).add (f (2 * n + 1)) = ((sum n fun t => f (2 * t)).add (f (2 * n))).add ((sum n fun t => f (2 * t + 1)).add (f (2 * n + 1)))
    rw [ih]; unfold add; congr 1 <;> grind
theorem sum_mul (n : Nat) (c : Cx) (f : Nat → Cx) : c.mul (sum n f) = sum n fun t => c.mul (f t) := by
  induction n with
  | zero => exact mul_zero c
  | succ n ih => show c.mul ((sum n f).add (f n)) = _; rw [mul_add, ih]; rfl
theorem sum_mul' (n : Nat) (c : Cx) (f : Nat → Cx) : (sum n f).mul c = sum n fun t => (f t).mul c := by
  rw [mul_comm, sum_mul]; exact sum_congr fun i _ => mul_comm _ _
theorem sum_sub (n : Nat) (f h : Nat → Cx) : (sum n f).sub (sum n h) = sum n fun t => (f t).sub (h t) := by
  induction n with
  | zero => exact sub_self zero
  | succ n ih =>
    show ((sum n f).add (f n)).sub ((sum n h).add (h n)) = (sum n fun t => (f t).sub (h t)).add ((f n).sub (h n))
    rw [← ih]; unfold add sub; congr 1 <;> grind
theorem sum_add (n : Nat) (f h : Nat → Cx) : (sum n f).add (sum n h) = sum n fun t => (f t).add (h t) := by
  induction n with
  | zero => exact add_zero zero
  | succ n ih =>
    show ((sum n f).add (f n)).add ((sum n h).add (h n)) = (sum n fun t => (f t).add (h t)).add ((f n).add (h n))
    rw [← ih]; unfold add; congr 1 <;> grind
theorem sum_neg (n : Nat) (f : Nat → Cx) : (sum n f).neg = sum n fun t => (f t).neg := by
  induction n with
  | zero => exact neg_zero
  | succ n ih =>
    show ((sum n f).add (f n)).neg = (sum n fun t => (f t).neg).add (f n).neg
    rw [← ih]; unfold add neg; congr 1 <;> grind
theorem sum_app (a b : Nat) (f : Nat → Cx) : sum (a + b) f = (sum a f).add (sum b fun t => f (a + t)) := by
  induction b with
  | zero => exact (add_zero _).symm
  | succ b ih => show (sum (a + b) f).add (f (a + b)) = _; rw [ih, add_assoc]; rfl
theorem sum_zero (n : Nat) : sum n (fun _ => zero) = zero := by
  induction n with
  | zero => rfl
  | succ n ih => show (sum n fun _ => zero).add zero = zero; rw [ih, add_zero]
theorem sum_swap (n m : Nat) (f : Nat → Nat → Cx) : sum n (fun i => sum m fun j => f i j) = sum m fun j => sum n fun i => f i j := by
  induction n with
  | zero => show zero = _; exact (sum_zero m).symm
  | succ n ih =>
    show (sum n fun i => sum m fun j => f i j).add (sum m fun j => f n j) = _
    rw [ih, sum_add]; rfl
/-- the transform of 2^s numbers -/
def dft (c : Nat → Cx) (s : Nat) (f : Nat → Cx) (k : Nat) : Cx := sum (2 ^ s) fun t => (f t).mul (c (t * k * 2 ^ (11 - s)))
theorem dft_M {c : Nat → Cx} (hc : Turns c) {s k : Nat} {f : Nat → Cx} {B : Rat} (h0 : 0 ≤ B) (hf : ∀ t, t < 2 ^ s → (f t).M B) : (dft c s f k).M ((2 ^ s : Nat) * B) :=
  sum_M h0 fun t ht => by have := (hf t ht).mul (hc.2.2 (t * k * 2 ^ (11 - s))); rwa [Rat.mul_one] at this
theorem turns_period {c : Nat → Cx} (hc : Turns c) (m k : Nat) : c (m + 2048 * k) = c m := by
  induction k with
  | zero => rfl
  | succ k ih => rw [show m + 2048 * (k + 1) = m + 2048 * k + 1024 + 1024 by omega, hc.1, hc.1, neg_neg, ih]
theorem turns_odd {c : Nat → Cx} (hc : Turns c) (m k : Nat) : c (m + 1024 * (2 * k + 1)) = (c m).neg := by
  rw [show m + 1024 * (2 * k + 1) = m + 1024 + 2048 * k by omega, turns_period hc, hc.1]
theorem dft_half {c : Nat → Cx} (hc : Turns c) {s k : Nat} (hs : s < 11) {f : Nat → Cx} {B : Rat} (h0 : 0 ≤ B) (hf : ∀ t, t < 2 ^ (s + 1) → (f t).M B) :
    ((dft c (s + 1) f k).sub ((dft c s (fun t => f (2 * t)) k).add ((dft c s (fun t => f (2 * t + 1)) k).mul (c (k * 2 ^ (10 - s)))))).M ((2 ^ s : Nat) * (B * theta)) ∧
    ((dft c (s + 1) f (k + 2 ^ s)).sub ((dft c s (fun t => f (2 * t)) k).sub ((dft c s (fun t => f (2 * t + 1)) k).mul (c (k * 2 ^ (10 - s)))))).M ((2 ^ s : Nat) * (B * theta)) := by
  obtain ⟨q, hq⟩ : ∃ q, q = 2 ^ (10 - s) := ⟨_, rfl⟩
  have hq1 : 2 ^ (11 - (s + 1)) = q := by rw [hq]; congr 1; omega
  have hq2 : 2 ^ (11 - s) = 2 * q := by rw [hq, show 11 - s = (10 - s) + 1 by omega, Nat.pow_succ]; omega
  have hq3 : 2 ^ s * q = 1024 := by rw [hq, ← Nat.pow_add, show s + (10 - s) = 10 by omega]
  have h2s : 2 ^ (s + 1) = 2 * 2 ^ s := by rw [Nat.pow_succ]; omega
  rw [← hq]
  obtain ⟨E, hE⟩ : ∃ E, E = sum (2 ^ s) fun t => (f (2 * t + 1)).mul (c ((2 * t + 1) * k * q)) := ⟨_, rfl⟩
  have d1 : dft c (s + 1) f k = (dft c s (fun t => f (2 * t)) k).add E := by
    unfold dft
    rw [hq1, hq2, h2s, sum_split, hE]
    congr 1
    refine sum_congr fun t _ => ?_
    rw [show 2 * t * k * q = t * k * (2 * q) by rw [Nat.mul_assoc, Nat.mul_assoc, Nat.mul_assoc, Nat.mul_left_comm, Nat.mul_left_comm k 2 q]]
  have d2 : dft c (s + 1) f (k + 2 ^ s) = (dft c s (fun t => f (2 * t)) k).add E.neg := by
    unfold dft
    rw [hq1, hq2, h2s, sum_split, hE, sum_neg]
    congr 1
    · refine sum_congr fun t _ => ?_
      have : 2 * t * (k + 2 ^ s) * q = t * k * (2 * q) + 2048 * t := by
        rw [Nat.mul_add, Nat.add_mul, Nat.mul_assoc (2 * t) (2 ^ s) q, hq3]
        have : 2 * t * k * q = t * k * (2 * q) := by rw [Nat.mul_assoc, Nat.mul_assoc, Nat.mul_assoc, Nat.mul_left_comm, Nat.mul_left_comm k 2 q]
        omega
      rw [this, turns_period hc]
    · refine sum_congr fun t _ => ?_
      have : (2 * t + 1) * (k + 2 ^ s) * q = (2 * t + 1) * k * q + 1024 * (2 * t + 1) := by
        rw [Nat.mul_add, Nat.add_mul, Nat.mul_assoc (2 * t + 1) (2 ^ s) q, hq3]; omega
      rw [this, turns_odd hc, mul_neg]
  have hw : (E.sub ((dft c s (fun t => f (2 * t + 1)) k).mul (c (k * q)))).M ((2 ^ s : Nat) * (B * theta)) := by
    unfold dft
    rw [hE, hq2, sum_mul', sum_sub]
    refine sum_M (Rat.mul_nonneg h0 (by decide +kernel)) fun t ht => ?_
    have h1 := hc.2.1 (t * k * (2 * q)) (k * q)
    have e1 : t * k * (2 * q) + k * q = (2 * t + 1) * k * q := by
      have : t * k * (2 * q) = 2 * t * k * q := by rw [Nat.mul_assoc, Nat.mul_assoc, Nat.mul_assoc, Nat.mul_left_comm 2 t, Nat.mul_left_comm k 2 q]
      rw [this, Nat.add_mul, Nat.add_mul, Nat.one_mul]
    rw [e1] at h1
    have h2 := (hf (2 * t + 1) (by omega)).mul h1.neg
    have e2 : ((f (2 * t + 1)).mul (c ((2 * t + 1) * k * q))).sub (((f (2 * t + 1)).mul (c (t * k * (2 * q)))).mul (c (k * q))) = (f (2 * t + 1)).mul (((c (t * k * (2 * q))).mul (c (k * q))).sub (c ((2 * t + 1) * k * q))).neg := by
      unfold mul sub neg; congr 1 <;> grind
    rw [e2]; exact h2
  rw [d1, d2]
  constructor
  · have : ((dft c s (fun t => f (2 * t)) k).add E).sub ((dft c s (fun t => f (2 * t)) k).add ((dft c s (fun t => f (2 * t + 1)) k).mul (c (k * q)))) = E.sub ((dft c s (fun t => f (2 * t + 1)) k).mul (c (k * q))) := by
      unfold add sub; congr 1 <;> grind
    rw [this]; exact hw
  · have : ((dft c s (fun t => f (2 * t)) k).add E.neg).sub ((dft c s (fun t => f (2 * t)) k).sub ((dft c s (fun t => f (2 * t + 1)) k).mul (c (k * q)))) = (E.sub ((dft c s (fun t => f (2 * t + 1)) k).mul (c (k * q)))).neg := by
      unfold add sub neg; congr 1 <;> grind
    rw [this]; exact hw.neg
end Cx
end Go.Proofs.YtbdnkneedengcaaGreatDoor.Ie

/- One step of the transform in doubles, near to what it should be. Conditions: none. -/
set_option linter.unusedSimpArgs false
set_option linter.unusedVariables false
namespace Go.Proofs.YtbdnkneedengcaaGreatDoor.Ie
/-- how far a factor may be from the table -/
def eta : Rat := 16 * eps
theorem Cx.M.near {x y : Cx} {A e : Rat} (h : (x.sub y).M e) (k : y.M A) : x.M (A + e) := by
  have h1 := k.add h
  have : y.add (x.sub y) = x := by unfold Cx.add Cx.sub; cases x; congr 1 <;> grind
  rwa [this] at h1
theorem nums : eps = 1 / 9007199254740992 ∧ tiny = 1 / 1606938044258990275541962092341162602522202993782792835301376 ∧ eta = 16 / 9007199254740992 ∧ Cx.theta = 1 / 1208925819614629174706176 ∧ top = 1606938044258990275541962092341162602522202993782792835301376 := by decide +kernel
theorem fly_core {u v tw : Nat × Nat} {zu zv wv U V c D1 D2 : Cx} {b e : Rat} (h1 : 1 ≤ b) (h2 : b ≤ 75557863725914323419136) (e0 : 0 ≤ e) (he : e * 1048576 ≤ b)
    (hu : CV u zu) (hv : CV v zv) (hw : CV tw wv) (du : (zu.sub U).M e) (dv : (zv.sub V).M e) (dw : (wv.sub c).M eta) (bU : U.M b) (bV : V.M b) (bc : c.M 1)
    (f1 : (D1.sub (U.add (V.mul c))).M (b * Cx.theta)) (f2 : (D2.sub (U.sub (V.mul c))).M (b * Cx.theta)) :
    ∃ m r1 r2 z1 z2, cmul v tw = some m ∧ cadd u m = some r1 ∧ csub u m = some r2 ∧ CV r1 z1 ∧ CV r2 z2 ∧ (z1.sub D1).M (2 * e + 33 * eps * b) ∧ (z2.sub D2).M (2 * e + 33 * eps * b) := by
  obtain ⟨n1, n2, n3, n4, n5⟩ := nums
  have mv := dv.near bV
  have mw := dw.near bc
  have mu := du.near bU
  obtain ⟨m, zm, q1, q2, q3⟩ := cmul_near hv hw mv mw (by rw [n3, n5]; grind)
  have pe := (dv.mul mw).add (bV.mul dw)
  have dm : (zm.sub (V.mul c)).M (12 * ((b + e) * (1 + eta)) * eps + 12 * tiny + (e * (1 + eta) + b * eta)) := by
    have := q3.add pe
    have e1 : (zm.sub (zv.mul wv)).add (((zv.sub V).mul wv).add (V.mul (wv.sub c))) = zm.sub (V.mul c) := by
      unfold Cx.sub Cx.add Cx.mul; congr 1 <;> grind
    rwa [e1] at this
  have bVc := bV.mul bc
  rw [Rat.mul_one] at bVc
  obtain ⟨em, hem⟩ : ∃ em, em = 12 * ((b + e) * (1 + eta)) * eps + 12 * tiny + (e * (1 + eta) + b * eta) := ⟨_, rfl⟩
  rw [← hem] at dm
  have mm := dm.near bVc
  obtain ⟨r1, z1, a1, a2, a3⟩ := cadd_near hu q2 (mu.add mm) (by rw [hem, n1, n2, n3, n5]; grind)
  obtain ⟨r2, z2, b1, b2, b3⟩ := csub_near hu q2 (mu.sub mm) (by rw [hem, n1, n2, n3, n5]; grind)
  have hfin : 2 * ((b + e + (b + em)) * eps + tiny) + (e + em) + b * Cx.theta ≤ 2 * e + 33 * eps * b := by
    rw [hem, n1, n2, n3, n4]; grind
  refine ⟨m, r1, r2, z1, z2, q1, a1, b1, a2, b2, ?_, ?_⟩
  · have := (a3.add (du.add dm)).add f1.neg
    have e1 : (((z1.sub (zu.add zm)).add ((zu.sub U).add (zm.sub (V.mul c)))).add (D1.sub (U.add (V.mul c))).neg) = z1.sub D1 := by
      unfold Cx.sub Cx.add Cx.neg; congr 1 <;> grind
    rw [e1] at this
    exact this.mono hfin
  · have := (b3.add (du.sub dm)).add f2.neg
    have e1 : (((z2.sub (zu.sub zm)).add ((zu.sub U).sub (zm.sub (V.mul c)))).add (D2.sub (U.sub (V.mul c))).neg) = z2.sub D2 := by
      unfold Cx.sub Cx.add Cx.neg; congr 1 <;> grind
    rw [e1] at this
    exact this.mono hfin
/-- the numbers of a block, in their order -/
def sq (a : Nat → Cx) : Nat → Nat → Nat → Cx
  | 0, b, _ => a b
  | s + 1, b, t => if t % 2 = 0 then sq a s (2 * b) (t / 2) else sq a s (2 * b + 1) (t / 2)
theorem sq_even (a : Nat → Cx) (s b : Nat) : (fun t => sq a (s + 1) b (2 * t)) = sq a s (2 * b) := by
  funext t
  show (if (2 * t) % 2 = 0 then sq a s (2 * b) (2 * t / 2) else _) = _
  rw [if_pos (by omega), show 2 * t / 2 = t by omega]
theorem sq_odd (a : Nat → Cx) (s b : Nat) : (fun t => sq a (s + 1) b (2 * t + 1)) = sq a s (2 * b + 1) := by
  funext t
  show (if (2 * t + 1) % 2 = 0 then _ else sq a s (2 * b + 1) ((2 * t + 1) / 2)) = _
  rw [if_neg (by omega), show (2 * t + 1) / 2 = t by omega]
theorem sq_M {a : Nat → Cx} {B : Rat} (h : ∀ p, (a p).M B) (s b t : Nat) : (sq a s b t).M B := by
  induction s generalizing b t with
  | zero => exact h b
  | succ s ih => unfold sq; split <;> exact ih _ _
/-- the cells after s rounds -/
def Stage (c : Nat → Cx) (a : Nat → Cx) (n s : Nat) (w : Nat → Nat × Nat) (e : Rat) : Prop := ∀ j, j < n → ∃ x, CV (w j) x ∧ (x.sub (Cx.dft c s (sq a s (j / 2 ^ s)) (j % 2 ^ s))).M e
/-- the bound after s rounds -/
def err (e B : Rat) (s : Nat) : Rat := (2 ^ s : Nat) * (e + 17 * s * eps * B)
theorem Stage.zero {c a : Nat → Cx} (hc : c 0 = Cx.one) {n : Nat} {w : Nat → Nat × Nat} {e B : Rat} (h : ∀ j, j < n → ∃ x, CV (w j) x ∧ (x.sub (a j)).M e) : Stage c a n 0 w (err e B 0) := fun j hj => by
  obtain ⟨x, h1, h2⟩ := h j hj
  refine ⟨x, h1, ?_⟩
  have e1 : Cx.dft c 0 (sq a 0 (j / 2 ^ 0)) (j % 2 ^ 0) = a j := by
    unfold Cx.dft
    show Cx.zero.add ((a (j / 1)).mul (c (0 * (j % 1) * 2 ^ 11))) = a j
    rw [Nat.zero_mul, Nat.zero_mul, hc, Cx.mul_one, Cx.zero_add, Nat.div_one]
  rw [e1]
  have e2 : err e B 0 = e := by
    unfold err
    have h0 : ((0 : Nat) : Rat) = 0 := rfl
    have h1 : ((2 ^ 0 : Nat) : Rat) = 1 := rfl
    rw [h0, h1]; grind
  rw [e2]; exact h2
/-- two cells of a round -/
theorem Stage.core {c a : Nat → Cx} (hc : Cx.Turns c) {n s : Nat} (hs : s < 11) {w : Nat → Nat × Nat} {tw : Nat → Nat × Nat} {e B : Rat} (hB : 1 ≤ B) (hB2 : B ≤ 36893488147419103232) (ha : ∀ p, (a p).M B) (e0 : 0 ≤ e) (he : (e + 187 * eps * B) * 1048576 ≤ B)
    (hn : n % 2 ^ (s + 1) = 0) (h : Stage c a n s w (err e B s)) (htw : ∀ k, k < 2 ^ s → ∃ x, CV (tw k) x ∧ (x.sub (c (k * 2 ^ (10 - s)))).M eta) (q k : Nat) (hq : q * 2 ^ (s + 1) < n) (hk : k < 2 ^ s) :
    ∃ m r1 r2 z1 z2, cmul (w (q * 2 ^ (s + 1) + k + 2 ^ s)) (tw k) = some m ∧ cadd (w (q * 2 ^ (s + 1) + k)) m = some r1 ∧ csub (w (q * 2 ^ (s + 1) + k)) m = some r2 ∧ CV r1 z1 ∧ CV r2 z2 ∧
      (z1.sub (Cx.dft c (s + 1) (sq a (s + 1) q) k)).M (err e B (s + 1)) ∧ (z2.sub (Cx.dft c (s + 1) (sq a (s + 1) q) (k + 2 ^ s))).M (err e B (s + 1)) := by
  have h2s : 2 ^ (s + 1) = 2 * 2 ^ s := by rw [Nat.pow_succ]; omega
  have hP0 : 1 ≤ 2 ^ s := Nat.one_le_two_pow
  have hP1 : 2 ^ s ≤ 1024 := Nat.pow_le_pow_right (n := 2) (i := s) (j := 10) (by omega) (by omega)
  obtain ⟨n1, n2, n3, n4, n5⟩ := nums
  have hlt : q * 2 ^ (s + 1) + 2 ^ (s + 1) ≤ n := by
    obtain ⟨d, hd⟩ := Nat.dvd_of_mod_eq_zero hn
    rw [hd, Nat.mul_comm] at hq ⊢
    have : q < d := Nat.lt_of_mul_lt_mul_left hq
    have := Nat.mul_le_mul_left (2 ^ (s + 1)) this
    rw [Nat.mul_succ] at this; exact this
  obtain ⟨zu, hu, du⟩ := h (q * 2 ^ (s + 1) + k) (by omega)
  obtain ⟨zv, hv, dv⟩ := h (q * 2 ^ (s + 1) + k + 2 ^ s) (by omega)
  obtain ⟨wv, hwv, dw⟩ := htw k hk
  have i1 : (q * 2 ^ (s + 1) + k) / 2 ^ s = 2 * q := by
    rw [h2s, ← Nat.mul_assoc, Nat.mul_comm, Nat.mul_add_div (by omega), Nat.div_eq_of_lt hk]; omega
  have i2 : (q * 2 ^ (s + 1) + k) % 2 ^ s = k := by
    rw [h2s, ← Nat.mul_assoc, Nat.mul_comm, Nat.mul_add_mod, Nat.mod_eq_of_lt hk]
  have i3 : (q * 2 ^ (s + 1) + k + 2 ^ s) / 2 ^ s = 2 * q + 1 := by
    rw [Nat.add_div_right _ (by omega), i1]
  have i4 : (q * 2 ^ (s + 1) + k + 2 ^ s) % 2 ^ s = k := by rw [Nat.add_mod_right, i2]
  rw [i1, i2] at du
  rw [i3, i4] at dv
  have hB0 : 0 ≤ B := by grind
  obtain ⟨f1, f2⟩ := Cx.dft_half hc (k := k) hs (f := sq a (s + 1) q) hB0 (fun t _ => sq_M ha _ _ _)
  rw [sq_even, sq_odd] at f1 f2
  have bU := Cx.dft_M hc (s := s) (k := k) (f := sq a s (2 * q)) hB0 (fun t _ => sq_M ha _ _ _)
  have bV := Cx.dft_M hc (s := s) (k := k) (f := sq a s (2 * q + 1)) hB0 (fun t _ => sq_M ha _ _ _)
  have eS1 : err e B (s + 1) = 2 * ((2 ^ s : Nat) : Rat) * (e + 17 * ((s : Rat) + 1) * eps * B) := by
    unfold err
    rw [h2s, Rat.natCast_mul, Cx.nat_succ s]; rfl
  have eS0 : err e B s = ((2 ^ s : Nat) : Rat) * (e + 17 * (s : Rat) * eps * B) := rfl
  have p1 : (1 : Rat) ≤ ((2 ^ s : Nat) : Rat) := cast_le hP0
  have p2 : ((2 ^ s : Nat) : Rat) ≤ 1024 := cast_le hP1
  have p3 : (s : Rat) ≤ 10 := cast_le (b := 10) (by omega)
  have p4 : (0 : Rat) ≤ (s : Rat) := Rat.natCast_nonneg
  generalize ((2 ^ s : Nat) : Rat) = P at *
  generalize (s : Rat) = sr at *
  have k1 : 0 ≤ sr * B := Rat.mul_nonneg p4 hB0
  have k2 : sr * B ≤ 10 * B := Rat.mul_le_mul_of_nonneg_right p3 hB0
  have k3 : B ≤ P * B := by have := Rat.mul_le_mul_of_nonneg_right p1 hB0; rwa [Rat.one_mul] at this
  have k4 : P * B ≤ 1024 * B := Rat.mul_le_mul_of_nonneg_right p2 hB0
  have k5 : 0 ≤ P := by grind
  have k6 : 0 ≤ e + 17 * sr * eps * B := by rw [n1]; grind
  have k7 : (e + 17 * sr * eps * B) * 1048576 ≤ B := by rw [n1] at he ⊢; grind
  have k8 := Rat.mul_le_mul_of_nonneg_left k7 k5
  have k9 := Rat.mul_nonneg k5 k6
  have k10 := Rat.mul_nonneg k5 hB0
  obtain ⟨m, r1, r2, z1, z2, a1, a2, a3, a4, a5, a6, a7⟩ := fly_core (b := P * B) (e := err e B s) (by grind) (by grind) (by rw [eS0]; exact k9) (by rw [eS0]; grind) hu hv hwv du dv dw bU bV (hc.2.2 _) (f1.mono (by grind)) (f2.mono (by grind))
  have hfin : 2 * err e B s + 33 * eps * (P * B) ≤ err e B (s + 1) := by
    rw [eS0, eS1, n1]; grind
  exact ⟨m, r1, r2, z1, z2, a1, a2, a3, a4, a5, a6.mono hfin, a7.mono hfin⟩
/-- one round: w' from w by the factors tw -/
theorem Stage.step {c a : Nat → Cx} (hc : Cx.Turns c) {n s : Nat} (hs : s < 11) {w w' : Nat → Nat × Nat} {tw : Nat → Nat × Nat} {e B : Rat} (hB : 1 ≤ B) (hB2 : B ≤ 36893488147419103232) (ha : ∀ p, (a p).M B) (e0 : 0 ≤ e) (he : (e + 187 * eps * B) * 1048576 ≤ B)
    (hn : n % 2 ^ (s + 1) = 0) (h : Stage c a n s w (err e B s)) (htw : ∀ k, k < 2 ^ s → ∃ x, CV (tw k) x ∧ (x.sub (c (k * 2 ^ (10 - s)))).M eta)
    (hw : ∀ q k, q * 2 ^ (s + 1) < n → k < 2 ^ s → ∀ m r1 r2, cmul (w (q * 2 ^ (s + 1) + k + 2 ^ s)) (tw k) = some m → cadd (w (q * 2 ^ (s + 1) + k)) m = some r1 → csub (w (q * 2 ^ (s + 1) + k)) m = some r2 → w' (q * 2 ^ (s + 1) + k) = r1 ∧ w' (q * 2 ^ (s + 1) + k + 2 ^ s) = r2) :
    Stage c a n (s + 1) w' (err e B (s + 1)) := by
  have h2s : 2 ^ (s + 1) = 2 * 2 ^ s := by rw [Nat.pow_succ]; omega
  have hP0 : 1 ≤ 2 ^ s := Nat.one_le_two_pow
  have core : ∀ q k, q * 2 ^ (s + 1) < n → k < 2 ^ s → (∃ x, CV (w' (q * 2 ^ (s + 1) + k)) x ∧ (x.sub (Cx.dft c (s + 1) (sq a (s + 1) q) k)).M (err e B (s + 1))) ∧ (∃ x, CV (w' (q * 2 ^ (s + 1) + k + 2 ^ s)) x ∧ (x.sub (Cx.dft c (s + 1) (sq a (s + 1) q) (k + 2 ^ s))).M (err e B (s + 1))) := by
    intro q k hq hk
    obtain ⟨m, r1, r2, z1, z2, a1, a2, a3, a4, a5, a6, a7⟩ := Stage.core hc hs hB hB2 ha e0 he hn h htw q k hq hk
    obtain ⟨w1, w2⟩ := hw q k hq hk m r1 r2 a1 a2 a3
    rw [w1, w2]
    exact ⟨⟨z1, a4, a6⟩, ⟨z2, a5, a7⟩⟩
  intro j hj
  have hm := Nat.div_add_mod j (2 ^ (s + 1))
  have hr := Nat.mod_lt j (show 0 < 2 ^ (s + 1) by omega)
  rw [Nat.mul_comm] at hm
  by_cases hk : j % 2 ^ (s + 1) < 2 ^ s
  · have := (core (j / 2 ^ (s + 1)) (j % 2 ^ (s + 1)) (by omega) hk).1
    rwa [hm] at this
  · have := (core (j / 2 ^ (s + 1)) (j % 2 ^ (s + 1) - 2 ^ s) (by omega) (by omega)).2
    rwa [show j / 2 ^ (s + 1) * 2 ^ (s + 1) + (j % 2 ^ (s + 1) - 2 ^ s) + 2 ^ s = j by omega, show j % 2 ^ (s + 1) - 2 ^ s + 2 ^ s = j % 2 ^ (s + 1) by omega] at this
end Go.Proofs.YtbdnkneedengcaaGreatDoor.Ie

/- Forth, multiplied, and back: the products' sums. Conditions: none. -/
set_option linter.unusedSimpArgs false
set_option linter.unusedVariables false
namespace Go.Proofs.YtbdnkneedengcaaGreatDoor.Ie
namespace Cx
def ofR (x : Rat) : Cx := ⟨x, 0⟩
theorem sum_one (n : Nat) : sum n (fun _ => one) = ofR (n : Rat) := by
  induction n with
  | zero => rfl
  | succ n ih =>
    show (sum n fun _ => one).add one = _
    rw [ih]; unfold ofR add one
    rw [nat_succ]; congr 1; show (0 : Rat) + 0 = 0; grind
theorem sum_alt (h d : Nat) (f : Nat → Cx) (hf : ∀ k, f (k + h) = (f k).neg) : sum (2 * h * d) f = zero := by
  induction d with
  | zero => rfl
  | succ d ih =>
    rw [Nat.mul_succ, sum_app, ih, zero_add, show 2 * h = h + h by omega, sum_app, sum_add]
    rw [sum_congr (h := fun _ => zero), sum_zero]
    intro i _
    show (f ((h + h) * d + i)).add (f ((h + h) * d + (h + i))) = zero
    rw [show (h + h) * d + (h + i) = ((h + h) * d + i) + h by omega, hf, add_neg]
theorem two_odd (L r : Nat) (h : r % 2 ^ L ≠ 0) : ∃ v u, v < L ∧ r = 2 ^ v * (2 * u + 1) := by
  induction L generalizing r with
  | zero => rw [Nat.pow_zero, Nat.mod_one] at h; exact absurd rfl h
  | succ L ih =>
    by_cases h2 : r % 2 = 0
    · obtain ⟨v, u, hv, hr⟩ := ih (r / 2) (fun h0 => h (by
        obtain ⟨d, hd⟩ := Nat.dvd_of_mod_eq_zero h0
        have : r = 2 ^ (L + 1) * d := by rw [Nat.pow_succ, Nat.mul_comm (2 ^ L) 2, Nat.mul_assoc, ← hd]; omega
        rw [this]; exact Nat.mul_mod_right _ _))
      refine ⟨v + 1, u, by omega, ?_⟩
      rw [Nat.pow_succ, Nat.mul_comm (2 ^ v) 2, Nat.mul_assoc, ← hr]; omega
    · exact ⟨0, r / 2, by omega, by rw [Nat.pow_zero]; omega⟩
theorem roots {L : Nat} (hL : L ≤ 11) (r : Nat) : sum (2 ^ L) (fun k => z (k * 2 ^ (11 - L) * r)) = if r % 2 ^ L = 0 then ofR ((2 ^ L : Nat) : Rat) else zero := by
  split
  · rename_i h
    rw [← sum_one]
    refine sum_congr fun k _ => ?_
    obtain ⟨d, hd⟩ := Nat.dvd_of_mod_eq_zero h
    have h1 : 2 ^ (11 - L) * 2 ^ L = 2048 := by rw [← Nat.pow_add, show 11 - L + L = 11 by omega]
    have : k * 2 ^ (11 - L) * r = 0 + 2048 * (k * d) := by
      rw [hd, Nat.mul_assoc, ← Nat.mul_assoc (2 ^ (11 - L)), h1, Nat.mul_left_comm]; omega
    rw [this, z_period, z_zero]
  · rename_i h
    obtain ⟨v, u, hv, hr⟩ := two_odd L r h
    have h1 : 2 ^ L = 2 * 2 ^ (L - 1 - v) * 2 ^ v := by rw [Nat.mul_assoc, ← Nat.pow_add, show L - 1 - v + v = L - 1 by omega, Nat.mul_comm, ← Nat.pow_succ]; congr 1; omega
    rw [h1]
    refine sum_alt _ _ _ fun k => ?_
    have h2 : (k + 2 ^ (L - 1 - v)) * 2 ^ (11 - L) * r = k * 2 ^ (11 - L) * r + 1024 * (2 * u + 1) := by
      rw [Nat.add_mul, Nat.add_mul]
      congr 1
      have h3 : 2 ^ (L - 1 - v) * 2 ^ (11 - L) * 2 ^ v = 1024 := by rw [← Nat.pow_add, ← Nat.pow_add, show L - 1 - v + (11 - L) + v = 10 by omega]
      rw [hr, ← Nat.mul_assoc, h3]
    rw [h2, turns_odd z_turns]
/-- products of numbers whose places come to m -/
def conv (n : Nat) (x y : Nat → Cx) (m : Nat) : Cx := sum n fun i => sum n fun j => ((x i).mul (y j)).mul (if (i + j) % n = m then ofR (n : Rat) else zero)
theorem conv_near {L : Nat} (hL : L ≤ 11) {x y : Nat → Cx} {B : Rat} (hB : 0 ≤ B) (hx : ∀ i, (x i).M B) (hy : ∀ i, (y i).M B) {m : Nat} (hm : m < 2 ^ L) :
    ((dft zb L (fun k => (dft z L x k).mul (dft z L y k)) m).sub (conv (2 ^ L) x y m)).M ((2 ^ L : Nat) * ((2 ^ L : Nat) * (B * B * ((2 ^ L : Nat) * (2 * theta))))) := by
  have ht : (0 : Rat) ≤ 2 * theta := by decide +kernel
  obtain ⟨q, hq⟩ : ∃ q, q = 2 ^ (11 - L) := ⟨_, rfl⟩
  have hnq : 2 ^ L * q = 2048 := by rw [hq, ← Nat.pow_add, show L + (11 - L) = 11 by omega]
  obtain ⟨n, hn⟩ : ∃ n, n = 2 ^ L := ⟨_, rfl⟩
  have hD : dft zb L (fun k => (dft z L x k).mul (dft z L y k)) m = sum n fun i => sum n fun j => ((x i).mul (y j)).mul (sum n fun k => ((z (i * k * q)).mul (z (j * k * q))).mul (zb (k * m * q))) := by
    unfold dft
    rw [← hq, ← hn]
    have e1 : ∀ k, ((sum n fun t => (x t).mul (z (t * k * q))).mul (sum n fun t => (y t).mul (z (t * k * q)))).mul (zb (k * m * q)) = sum n fun i => sum n fun j => ((x i).mul (y j)).mul (((z (i * k * q)).mul (z (j * k * q))).mul (zb (k * m * q))) := by
      intro k
      rw [sum_mul', sum_mul']
      refine sum_congr fun i _ => ?_
      rw [sum_mul, sum_mul']
      refine sum_congr fun j _ => ?_
      unfold mul; congr 1 <;> grind
    rw [sum_congr fun k _ => e1 k, sum_swap]
    refine sum_congr fun i _ => ?_
    rw [sum_swap]
    refine sum_congr fun j _ => ?_
    rw [sum_mul]
  rw [hD]
  unfold conv
  rw [← hn, sum_sub]
  have hn0 : (0 : Rat) ≤ (n : Rat) := Rat.natCast_nonneg
  have hBB := Rat.mul_nonneg hB hB
  have hin : 0 ≤ B * B * ((n : Rat) * (2 * theta)) := Rat.mul_nonneg hBB (Rat.mul_nonneg hn0 ht)
  refine sum_M (Rat.mul_nonneg hn0 hin) fun i _ => ?_
  rw [sum_sub]
  refine sum_M hin fun j _ => ?_
  have e2 : ∀ a b c : Cx, (a.mul b).sub (a.mul c) = a.mul (b.sub c) := by intro a b c; unfold mul sub; congr 1 <;> grind
  rw [e2]
  refine ((hx i).mul (hy j)).mul ?_
  have hT : (if (i + j) % n = m then ofR (n : Rat) else zero) = sum n fun k => z (k * q * (i + j + 2047 * m)) := by
    have hr := roots hL (i + j + 2047 * m)
    rw [← hq, ← hn] at hr
    rw [hr]
    have hiff : (i + j) % n = m ↔ (i + j + 2047 * m) % n = 0 := by
      rw [← hn] at hm hnq
      constructor
      · intro h
        have h1 := Nat.div_add_mod (i + j) n
        rw [h] at h1
        rw [show i + j + 2047 * m = n * ((i + j) / n) + n * q * m by rw [hnq]; omega, Nat.mul_assoc, ← Nat.mul_add]
        exact Nat.mul_mod_right _ _
      · intro h
        obtain ⟨d, hd⟩ := Nat.dvd_of_mod_eq_zero h
        have h1 : (i + j) + n * (q * m) = m + n * d := by rw [← Nat.mul_assoc, hnq]; omega
        have h2 := congrArg (· % n) h1
        simp only [Nat.add_mul_mod_self_left] at h2
        rw [h2, Nat.mod_eq_of_lt hm]
    by_cases h : (i + j) % n = m
    · rw [if_pos h, if_pos (hiff.1 h)]
    · rw [if_neg h, if_neg (fun hc => h (hiff.2 hc))]
  rw [hT, sum_sub]
  refine sum_M ht fun k _ => ?_
  have h1 := (z_near (i * k * q) (j * k * q)).mul (zb_turns.2.2 (k * m * q))
  have h2 := z_near (i * k * q + j * k * q) (2047 * (k * m * q))
  have e3 : i * k * q + j * k * q + 2047 * (k * m * q) = k * q * (i + j + 2047 * m) := by
    rw [Nat.mul_add, Nat.mul_add]
    have a1 : i * k * q = k * q * i := by rw [Nat.mul_assoc, Nat.mul_comm]
    have a2 : j * k * q = k * q * j := by rw [Nat.mul_assoc, Nat.mul_comm]
    have a3 : 2047 * (k * m * q) = k * q * (2047 * m) := by rw [Nat.mul_right_comm k m q, Nat.mul_left_comm]
    rw [a1, a2, a3]
  rw [e3] at h2
  have h3 := h1.add h2
  have e4 : ((((z (i * k * q)).mul (z (j * k * q))).sub (z (i * k * q + j * k * q))).mul (zb (k * m * q))).add (((z (i * k * q + j * k * q)).mul (z (2047 * (k * m * q)))).sub (z (k * q * (i + j + 2047 * m)))) = (((z (i * k * q)).mul (z (j * k * q))).mul (zb (k * m * q))).sub (z (k * q * (i + j + 2047 * m))) := by
    unfold zb mul sub add; congr 1 <;> grind
  rw [e4] at h3
  exact h3.mono (by grind)
end Cx
end Go.Proofs.YtbdnkneedengcaaGreatDoor.Ie

/- Doubles reckoned quickly: the same answers. Conditions: none. -/
set_option linter.unusedSimpArgs false
set_option linter.unusedVariables false
namespace Go.Proofs.YtbdnkneedengcaaGreatDoor.Ie
open Ieee
/-- a value that is reckoned first -/
def sl {α : Type} (x : Nat) (f : Nat → α) : α := Nat.rec (f 0) (fun k _ => f (Nat.succ k)) x
theorem sl_eq {α : Type} (x : Nat) (f : Nat → α) : sl x f = f x := by cases x <;> rfl
def wordF (neg : Bool) (x : Nat) : Nat := bif Nat.ble x 9218868437227405312 then (bif neg then Nat.add 9223372036854775808 x else x) else double.word neg (min x double.infRung)
theorem wordF_eq (neg : Bool) (x : Nat) : wordF neg x = double.word neg (min x double.infRung) := by
  unfold wordF
  cases h : Nat.ble x 9218868437227405312 with
  | false => rfl
  | true =>
    have := Nat.le_of_ble_eq_true h
    rw [dbl_inf, Nat.min_eq_left this]
    cases neg <;> rfl
def roundF (neg : Bool) (m L e : Nat) : Nat :=
  bif Nat.ble L 52 then wordF neg (Nat.add (Nat.mul e 4503599627370496) (Nat.mul m (Nat.pow 2 (Nat.sub 52 L)))) else
  sl (Nat.pow 2 (Nat.sub L 52)) fun g => sl (Nat.div m g) fun lo => sl (Nat.mul 2 (Nat.mod m g)) fun r2 =>
  wordF neg (Nat.add (Nat.mul e 4503599627370496) (Nat.add lo (bif Nat.ble r2 g then (bif Nat.beq r2 g then Nat.mod lo 2 else 0) else 1)))
def nearF (neg : Bool) (m E off : Nat) : Nat :=
  bif Nat.beq m 0 then double.word neg 0 else
  sl (Nat.log2 m) fun L => bif Nat.ble off (Nat.add (Nat.add E L) 1022) then sl (Nat.sub (Nat.add (Nat.add E L) 1022) off) fun e => roundF neg m L e
  else double.nearest neg m ((E : Int) - (off : Int))
theorem cut_zero (s : Bool) (n : Nat) : Toward.even.cut s n 0 = n := by
  have := cut_near s n 0
  rw [Nat.pow_zero, Nat.mul_one] at this; omega
theorem nearF_eq (neg : Bool) (m E off : Nat) : nearF neg m E off = double.nearest neg m ((E : Int) - (off : Int)) := by
  unfold nearF
  by_cases hm : m = 0
  · subst hm; rfl
  have hb : Nat.beq m 0 = false := by cases m with
    | zero => exact absurd rfl hm
    | succ k => rfl
  rw [hb, cond_false, sl_eq]
  cases h : Nat.ble off (Nat.add (Nat.add E m.log2) 1022) with
  | false => rfl
  | true =>
    have h := Nat.le_of_ble_eq_true h
    have h : off ≤ E + m.log2 + 1022 := h
    rw [cond_true, sl_eq]
    obtain ⟨e, he⟩ : ∃ e, e = Nat.sub (Nat.add (Nat.add E m.log2) 1022) off := ⟨_, rfl⟩
    have he' : (e : Int) = E + m.log2 + 1022 - off := by
      have : e = (E + m.log2 + 1022) - off := he
      omega
    rw [← he]
    unfold Format.nearest
    rw [if_neg hm, show (double.fractionBits : Int) = 52 from rfl, dbl_least]
    rw [show max ((E : Int) - off + (m.log2 : Int) - 52) (-1074) = (e : Int) - 1074 by omega]
    dsimp only
    rw [show ((e : Int) - 1074 - -1074).toNat = e by omega]
    unfold roundF
    cases hL : Nat.ble m.log2 52 with
    | true =>
      have hL := Nat.le_of_ble_eq_true hL
      rw [cond_true, show ((E : Int) - off - ((e : Int) - 1074)).toNat = 52 - m.log2 by omega, show ((e : Int) - 1074 - ((E : Int) - off)).toNat = 0 by omega, cut_zero, wordF_eq, Nat.shiftLeft_eq]
      rfl
    | false =>
      have hL : 52 < m.log2 := by
        refine Classical.byContradiction fun hc => ?_
        rw [Nat.ble_eq_true_of_le (by omega)] at hL; cases hL
      rw [cond_false, show ((E : Int) - off - ((e : Int) - 1074)).toNat = 0 by omega, show ((e : Int) - 1074 - ((E : Int) - off)).toNat = m.log2 - 52 by omega, Nat.shiftLeft_zero, sl_eq, sl_eq, sl_eq, wordF_eq]
      congr 2
      refine congrArg (fun x => e * double.binade + x) ?_
      unfold Toward.cut
      rw [Nat.min_eq_left (by omega), Nat.one_shiftLeft]
      dsimp only
      show Nat.add _ _ = _
      have hg : Nat.pow 2 (Nat.sub m.log2 52) = 2 ^ (m.log2 - 52) := rfl
      rw [hg]
      generalize 2 ^ (m.log2 - 52) = g
      show m / g + _ = _
      congr 1
      show (bif Nat.ble (2 * (m % g)) g then (bif Nat.beq (2 * (m % g)) g then m / g % 2 else 0) else 1) = _
      cases h1 : Nat.ble (2 * (m % g)) g with
      | false =>
        have h1 : g < 2 * (m % g) := by
          refine Classical.byContradiction fun hc => ?_
          rw [Nat.ble_eq_true_of_le (by omega)] at h1; cases h1
        rw [decide_eq_true h1]; rfl
      | true =>
        have h1 := Nat.le_of_ble_eq_true h1
        rw [decide_eq_false (by omega)]
        cases h2 : Nat.beq (2 * (m % g)) g with
        | true =>
          have h2 := Nat.eq_of_beq_eq_true h2
          rw [show (g == 2 * (m % g)) = true from beq_iff_eq.2 h2.symm]
          show m / g % 2 = (m / g % 2 == 1).toNat
          rcases Nat.mod_two_eq_zero_or_one (m / g) with h3 | h3 <;> rw [h3] <;> rfl
        | false =>
          have h2 : g ≠ 2 * (m % g) := fun hc => by
            rw [← hc] at h2
            rw [show Nat.beq g g = true from Nat.beq_refl g] at h2; cases h2
          rw [show (g == 2 * (m % g)) = false from beq_eq_false_iff_ne.2 h2]; rfl
def negF (w : Nat) : Bool := Nat.ble 1 (Nat.mod (Nat.div w 9223372036854775808) 2)
def mantF (r : Nat) : Nat := bif Nat.ble 4503599627370496 r then Nat.add 4503599627370496 (Nat.mod r 4503599627370496) else r
def expF (r : Nat) : Nat := bif Nat.ble 4503599627370496 r then Nat.div r 4503599627370496 else 1
theorem read_F {w r : Nat} (hr : r = w % 9223372036854775808) (h : r < 9218868437227405312) : double.read w = .number (negF w) (mantF r) ((expF r : Int) - 1075) := by
  unfold Format.read
  rw [dbl_sign, dbl_binade, dbl_inf, dbl_least, ← hr]
  have h1 : (w / 9223372036854775808 % 2 == 1) = negF w := by
    unfold negF
    show _ = Nat.ble 1 (w / 9223372036854775808 % 2)
    rcases Nat.mod_two_eq_zero_or_one (w / 9223372036854775808) with h3 | h3 <;> rw [h3] <;> rfl
  rw [h1]
  unfold mantF expF
  dsimp only
  cases h2 : Nat.ble 4503599627370496 r with
  | true =>
    have h2 := Nat.le_of_ble_eq_true h2
    rw [if_neg (by omega), if_pos h, cond_true, cond_true]
    show Datum.number _ _ _ = .number _ (4503599627370496 + r % 4503599627370496) (((r / 4503599627370496 : Nat) : Int) - 1075)
    congr 1; omega
  | false =>
    have h2 : r < 4503599627370496 := by
      refine Classical.byContradiction fun hc => ?_
      rw [Nat.ble_eq_true_of_le (by omega)] at h2; cases h2
    rw [if_pos h2, cond_false, cond_false]; rfl
def finB (r : Nat) : Bool := Nat.ble r 9218868437227405311
theorem finB_lt {r : Nat} (h : finB r = true) : r < 9218868437227405312 := by
  have := Nat.le_of_ble_eq_true h; omega
def mulF (a b : Nat) : Option Nat :=
  sl a fun a => sl b fun b => sl (Nat.mod a 9223372036854775808) fun ra => sl (Nat.mod b 9223372036854775808) fun rb =>
  bif finB ra && finB rb then some (nearF (negF a ^^ negF b) (Nat.mul (mantF ra) (mantF rb)) (Nat.add (expF ra) (expF rb)) 2150) else double.mul a b
theorem mulF_eq (a b : Nat) : mulF a b = double.mul a b := by
  unfold mulF
  rw [sl_eq, sl_eq, sl_eq, sl_eq]
  cases h1 : finB (Nat.mod a 9223372036854775808) with
  | false => rfl
  | true =>
    cases h2 : finB (Nat.mod b 9223372036854775808) with
    | false => rfl
    | true =>
      unfold Format.mul
      rw [read_F (w := a) rfl (finB_lt h1), read_F (w := b) rfl (finB_lt h2)]
      show some _ = some (double.nearest _ _ _)
      rw [nearF_eq]
      congr 2
      show ((expF (Nat.mod a 9223372036854775808) + expF (Nat.mod b 9223372036854775808) : Nat) : Int) - ((2150 : Nat) : Int) = (expF (Nat.mod a 9223372036854775808) : Int) - 1075 + ((expF (Nat.mod b 9223372036854775808) : Int) - 1075)
      omega
def sumF (s t : Bool) (A B E : Nat) : Nat :=
  bif s ^^ t then (bif Nat.ble B A then (bif Nat.ble A B then double.word false 0 else nearF s (Nat.sub A B) E 1075) else nearF t (Nat.sub B A) E 1075) else nearF s (Nat.add A B) E 1075
theorem sumF_eq (s t : Bool) (m n i j E : Nat) (hE : E = min i j) : some (sumF s t (m * 2 ^ (i - E)) (n * 2 ^ (j - E)) E) = ((Datum.number s m ((i : Int) - 1075)).sum (.number t n ((j : Int) - 1075))).map double.write := by
  have hmin : min ((i : Int) - 1075) ((j : Int) - 1075) = (E : Int) - 1075 := by omega
  unfold Datum.sum
  dsimp only
  rw [hmin, show ((i : Int) - 1075 - ((E : Int) - 1075)).toNat = i - E by omega, show ((j : Int) - 1075 - ((E : Int) - 1075)).toNat = j - E by omega]
  unfold signed
  rw [Nat.shiftLeft_eq, Nat.shiftLeft_eq]
  generalize m * 2 ^ (i - E) = A
  generalize n * 2 ^ (j - E) = B
  show some _ = some (double.nearest _ _ _)
  congr 1
  unfold sumF
  have hw : ∀ neg, double.word neg 0 = double.nearest neg 0 ((E : Int) - 1075) := fun neg => rfl
  cases s <;> cases t
  · rw [show (false ^^ false) = false from rfl, cond_false, nearF_eq]
    simp only [Bool.false_eq_true, if_false]
    by_cases h0 : (A : Int) + B = 0
    · rw [if_pos h0]
      show double.nearest false (A + B) _ = double.nearest false _ _
      rw [show ((A : Int) + B).natAbs = A + B by omega]; rfl
    · rw [if_neg h0, decide_eq_false (by omega)]
      show double.nearest false (A + B) _ = double.nearest false _ _
      rw [show ((A : Int) + B).natAbs = A + B by omega]; rfl
  · rw [show (false ^^ true) = true from rfl, cond_true]
    simp only [Bool.false_eq_true, if_false, if_true]
    cases h1 : Nat.ble B A with
    | true =>
      have h1 := Nat.le_of_ble_eq_true h1
      rw [cond_true]
      cases h2 : Nat.ble A B with
      | true =>
        have h2 := Nat.le_of_ble_eq_true h2
        rw [cond_true, if_pos (by omega), show ((A : Int) + -B).natAbs = 0 by omega, hw]; rfl
      | false =>
        have h2 : ¬ A ≤ B := fun hc => by rw [Nat.ble_eq_true_of_le hc] at h2; cases h2
        rw [cond_false, nearF_eq, if_neg (by omega), decide_eq_false (by omega), show ((A : Int) + -B).natAbs = Nat.sub A B by show _ = A - B; omega]; rfl
    | false =>
      have h1 : ¬ B ≤ A := fun hc => by rw [Nat.ble_eq_true_of_le hc] at h1; cases h1
      rw [cond_false, nearF_eq, if_neg (by omega), decide_eq_true (by omega), show ((A : Int) + -B).natAbs = Nat.sub B A by show _ = B - A; omega]; rfl
  · rw [show (true ^^ false) = true from rfl, cond_true]
    simp only [Bool.false_eq_true, if_false, if_true]
    cases h1 : Nat.ble B A with
    | true =>
      have h1 := Nat.le_of_ble_eq_true h1
      rw [cond_true]
      cases h2 : Nat.ble A B with
      | true =>
        have h2 := Nat.le_of_ble_eq_true h2
        rw [cond_true, if_pos (by omega), show (-(A : Int) + B).natAbs = 0 by omega, hw]; rfl
      | false =>
        have h2 : ¬ A ≤ B := fun hc => by rw [Nat.ble_eq_true_of_le hc] at h2; cases h2
        rw [cond_false, nearF_eq, if_neg (by omega), decide_eq_true (by omega), show (-(A : Int) + B).natAbs = Nat.sub A B by show _ = A - B; omega]; rfl
    | false =>
      have h1 : ¬ B ≤ A := fun hc => by rw [Nat.ble_eq_true_of_le hc] at h1; cases h1
      rw [cond_false, nearF_eq, if_neg (by omega), decide_eq_false (by omega), show (-(A : Int) + B).natAbs = Nat.sub B A by show _ = B - A; omega]; rfl
  · rw [show (true ^^ true) = false from rfl, cond_false, nearF_eq]
    simp only [if_true]
    by_cases h0 : -(A : Int) + -B = 0
    · rw [if_pos h0]
      show double.nearest true (A + B) _ = double.nearest true _ _
      rw [show (-(A : Int) + -B).natAbs = A + B by omega]; rfl
    · rw [if_neg h0, decide_eq_true (by omega)]
      show double.nearest true (A + B) _ = double.nearest true _ _
      rw [show (-(A : Int) + -B).natAbs = A + B by omega]; rfl
def minF (i j : Nat) : Nat := bif Nat.ble i j then i else j
theorem minF_eq (i j : Nat) : minF i j = min i j := by
  unfold minF
  cases h : Nat.ble i j with
  | true => have := Nat.le_of_ble_eq_true h; rw [cond_true, Nat.min_eq_left this]
  | false =>
    have : ¬ i ≤ j := fun hc => by rw [Nat.ble_eq_true_of_le hc] at h; cases h
    rw [cond_false, Nat.min_eq_right (by omega)]
def asF (flip : Bool) (a b : Nat) (d : Option Nat) : Option Nat :=
  sl a fun a => sl b fun b => sl (Nat.mod a 9223372036854775808) fun ra => sl (Nat.mod b 9223372036854775808) fun rb =>
  bif finB ra && finB rb then sl (expF ra) fun i => sl (expF rb) fun j => sl (minF i j) fun E => sl (Nat.mul (mantF ra) (Nat.pow 2 (Nat.sub i E))) fun A => sl (Nat.mul (mantF rb) (Nat.pow 2 (Nat.sub j E))) fun B => some (sumF (negF a) (flip ^^ negF b) A B E) else d
def addF (a b : Nat) : Option Nat := asF false a b (double.add a b)
def subF (a b : Nat) : Option Nat := asF true a b (double.sub a b)
theorem addF_eq (a b : Nat) : addF a b = double.add a b := by
  unfold addF asF
  rw [sl_eq, sl_eq, sl_eq, sl_eq]
  cases h1 : finB (Nat.mod a 9223372036854775808) with
  | false => rfl
  | true =>
    cases h2 : finB (Nat.mod b 9223372036854775808) with
    | false => rfl
    | true =>
      rw [show (true && true) = true from rfl, cond_true, sl_eq, sl_eq, sl_eq, sl_eq, sl_eq]
      unfold Format.add
      rw [read_F (w := a) rfl (finB_lt h1), read_F (w := b) rfl (finB_lt h2), Bool.false_xor]
      exact sumF_eq _ _ _ _ _ _ _ (minF_eq _ _)
theorem subF_eq (a b : Nat) : subF a b = double.sub a b := by
  unfold subF asF
  rw [sl_eq, sl_eq, sl_eq, sl_eq]
  cases h1 : finB (Nat.mod a 9223372036854775808) with
  | false => rfl
  | true =>
    cases h2 : finB (Nat.mod b 9223372036854775808) with
    | false => rfl
    | true =>
      rw [show (true && true) = true from rfl, cond_true, sl_eq, sl_eq, sl_eq, sl_eq, sl_eq]
      unfold Format.sub
      rw [read_F (w := a) rfl (finB_lt h1), read_F (w := b) rfl (finB_lt h2), Bool.true_xor]
      exact sumF_eq _ _ _ _ _ _ _ (minF_eq _ _)
end Go.Proofs.YtbdnkneedengcaaGreatDoor.Ie

/- The sine and the cosine as the library makes them, in doubles; near to the table. Conditions: none. -/
set_option linter.unusedSimpArgs false
set_option linter.unusedVariables false
namespace Go.Proofs.YtbdnkneedengcaaGreatDoor.Ie
open Ieee
def fIs (o : Ordering) (x y : Nat) : Bool := double.order x y == some o
def fNat (n : Nat) : Nat := double.write (.number false n 0)
def fNeg (x : Nat) : Nat := x ^^^ 2 ^ 63
/-- a way to reckon with doubles -/
structure Ops where
  mul : Nat → Nat → Option Nat
  add : Nat → Nat → Option Nat
  sub : Nat → Nat → Option Nat
def dbl : Ops := ⟨double.mul, double.add, double.sub⟩
def fastO : Ops := ⟨mulF, addF, subF⟩
theorem fast_eq : fastO = dbl := by
  unfold fastO dbl
  rw [show mulF = double.mul from funext fun a => funext fun b => mulF_eq a b, show addF = double.add from funext fun a => funext fun b => addF_eq a b, show subF = double.sub from funext fun a => funext fun b => subF_eq a b]
def poly (o : Ops) (c : List Nat) (zz : Nat) : Option Nat := match c with
  | [c0, c1, c2, c3, c4, c5] =>
    (o.mul c0 zz).bind fun a => (o.add a c1).bind fun a => (o.mul a zz).bind fun a => (o.add a c2).bind fun a => (o.mul a zz).bind fun a => (o.add a c3).bind fun a =>
    (o.mul a zz).bind fun a => (o.add a c4).bind fun a => (o.mul a zz).bind fun a => o.add a c5
  | _ => none
def sinT : List Nat := [4460209587652500685, 13716528389658582877, 4523617212962785441, 13774824197404483331, 4575957461383575504, 13818544856648471880]
def cosT : List Nat := [13666448263388469915, 4477121864728985349, 13732177093698800582, 4537941361668146421, 13787419979223748497, 4586165620538955083]
/-- what lies in an octant: the octant, its middle, the rest -/
def restO (o : Ops) (x y : Nat) : Option Nat :=
  (o.mul y 4605249456957292544).bind fun a => (o.sub x a).bind fun b => (o.mul y 4495793288086814720).bind fun c => (o.sub b c).bind fun d => (o.mul y 4388835458085048688).bind fun e => o.sub d e
/-- sine and cosine of the rest -/
def partsO (o : Ops) (w : Nat) : Option (Nat × Nat) :=
  (o.mul w w).bind fun zz =>
  (o.mul 4602678819172646912 zz).bind fun h => (o.sub 4607182418800017408 h).bind fun c1 => (o.mul zz zz).bind fun z4 => (poly o cosT zz).bind fun pc => (o.mul z4 pc).bind fun c2 => (o.add c1 c2).bind fun co =>
  (o.mul w zz).bind fun w3 => (poly o sinT zz).bind fun ps => (o.mul w3 ps).bind fun s2 => (o.add w s2).bind fun si => some (si, co)
def octO (o : Ops) (j0 : Nat) : Option (Nat × Nat) := if j0 % 2 = 1 then (o.add (fNat j0) 4607182418800017408).map fun y => ((j0 + 1) % 8, y) else some (j0 % 8, fNat j0)
def signO (j : Nat) (sg : Bool) (p : Nat × Nat) : Nat × Nat :=
  let ss := if j > 3 then !sg else sg
  let j' := if j > 3 then j - 4 else j
  let cs := (decide (j > 3)) ^^ (decide (j' > 1))
  let q := if j' = 1 ∨ j' = 2 then (p.2, p.1) else p
  (if ss then fNeg q.1 else q.1, if cs then fNeg q.2 else q.2)
/-- sine and cosine -/
def sincosO (o : Ops) (x0 : Nat) : Option (Nat × Nat) :=
  if fIs .eq x0 0 then some (x0, 4607182418800017408) else
  if fIs .eq x0 x0 && !fIs .gt (x0 % 9223372036854775808) 9218868437227405311 then
    let sg := fIs .lt x0 0
    let x := if sg then fNeg x0 else x0
    if fIs .gt x 4737786807993761792 || fIs .eq x 4737786807993761792 then none else
    (o.mul x 4608412980311869571).bind fun p =>
    match (double.read p).toInt .zero with
    | some n => if 0 ≤ n ∧ n ≤ 8 then (octO o n.toNat).bind fun q => (restO o x q.2).bind fun w => (partsO o w).map (signO q.1 sg) else none
    | none => none
  else none
/-- the angle -/
def angleO (o : Ops) (sign k size : Nat) : Option Nat := (o.mul sign 4611686018427387904).bind fun a => (o.mul a 4614256656552045848).bind fun b => (o.mul b (fNat k)).bind fun c => double.div c (fNat size)
/-- the factor -/
def twO (o : Ops) (sign k size : Nat) : Option (Nat × Nat) := (angleO o sign k size).bind fun a => (sincosO o a).map fun p => (p.2, p.1)
/-- is a word near to P / 2^100? -/
def nearL (w : Nat) (P : Int) : Bool := match double.read w with
  | .number s m p => decide (p ≤ 0) &&
    (let D : Int := ((1267650600228229401496703205376 * 2 ^ (-p).toNat : Nat) : Int)
     let d : Int := ((if s then -(m : Int) else m) * 1267650600228229401496703205376 - P * ((2 ^ (-p).toNat : Nat) : Int)) * 2251799813685248
     decide (-D ≤ d) && decide (d ≤ D))
  | _ => false
/-- the factors of one angle, forth and back -/
def rowL (o : Ops) (k : Nat) (P Q : Int) : Bool := match twO o 4607182418800017408 k 2048, twO o 13830554455654793216 (1024 - k) 2048 with
  | some a, some b => nearL a.1 P && nearL a.2 Q && nearL b.1 (-P) && nearL b.2 (-Q)
  | _, _ => false
def rowsB (o : Ops) : Nat → List (Int × Int) → Bool
  | _, [] => true
  | k, x :: l => rowL o k x.1 x.2 && rowsB o (k + 1) l
/-- is each entry the one ahead of it, turned by one step? -/
def stepB : Int → Int → List (Int × Int) → Bool
  | _, _, [] => true
  | P, Q, x :: l =>
    (let a := x.1 * 1267650600228229401496703205376 - (P * 1267644634423113846968036898775 - Q * 3889097232048075534265022357)
     let b := x.2 * 1267650600228229401496703205376 - (P * 3889097232048075534265022357 + Q * 1267644634423113846968036898775)
     decide (-1267650600228229401496703205376 ≤ a) && decide (a ≤ 1267650600228229401496703205376) && decide (-1267650600228229401496703205376 ≤ b) && decide (b ≤ 1267650600228229401496703205376)) && stepB x.1 x.2 l
/-- the angles of a size are those of the greatest -/
def angB (sign size m : Nat) : Nat → Nat → Bool
  | 0, _ => true
  | f + 1, k => (match angleO fastO sign k size, angleO fastO sign (m * k) 2048 with | some a, some b => Nat.beq a b | _, _ => false) && angB sign size m f (k + 1)
/-- row i of a table that begins at k -/
def R (k : Nat) (l : List (Int × Int)) (i : Nat) : Bool := match l.getD i (0, 0) with | (p, q) => rowL fastO (k + i) p q
theorem rowsB_of : ∀ (l : List (Int × Int)) (k : Nat), (∀ i, i < l.length → R k l i = true) → rowsB fastO k l = true
  | [], _, _ => rfl
  | (p, q) :: l, k, h => by
    unfold rowsB
    rw [Bool.and_eq_true]
    refine ⟨h 0 (by simp), rowsB_of l (k + 1) fun i hi => ?_⟩
    have h1 := h (i + 1) (by simpa using hi)
    unfold R at h1 ⊢
    rw [Nat.add_assoc, Nat.add_comm 1 i]
    exact h1
theorem all64 {P : Nat → Prop} (h0 : P 0) (h1 : P 1) (h2 : P 2) (h3 : P 3) (h4 : P 4) (h5 : P 5) (h6 : P 6) (h7 : P 7) (h8 : P 8) (h9 : P 9) (h10 : P 10) (h11 : P 11) (h12 : P 12) (h13 : P 13) (h14 : P 14) (h15 : P 15) (h16 : P 16) (h17 : P 17) (h18 : P 18) (h19 : P 19) (h20 : P 20) (h21 : P 21) (h22 : P 22) (h23 : P 23) (h24 : P 24) (h25 : P 25) (h26 : P 26) (h27 : P 27) (h28 : P 28) (h29 : P 29) (h30 : P 30) (h31 : P 31) (h32 : P 32) (h33 : P 33) (h34 : P 34) (h35 : P 35) (h36 : P 36) (h37 : P 37) (h38 : P 38) (h39 : P 39) (h40 : P 40) (h41 : P 41) (h42 : P 42) (h43 : P 43) (h44 : P 44) (h45 : P 45) (h46 : P 46) (h47 : P 47) (h48 : P 48) (h49 : P 49) (h50 : P 50) (h51 : P 51) (h52 : P 52) (h53 : P 53) (h54 : P 54) (h55 : P 55) (h56 : P 56) (h57 : P 57) (h58 : P 58) (h59 : P 59) (h60 : P 60) (h61 : P 61) (h62 : P 62) (h63 : P 63) : ∀ i, i < 64 → P i
  | 0, _ => h0
  | 1, _ => h1
  | 2, _ => h2
  | 3, _ => h3
  | 4, _ => h4
  | 5, _ => h5
  | 6, _ => h6
  | 7, _ => h7
  | 8, _ => h8
  | 9, _ => h9
  | 10, _ => h10
  | 11, _ => h11
  | 12, _ => h12
  | 13, _ => h13
  | 14, _ => h14
  | 15, _ => h15
  | 16, _ => h16
  | 17, _ => h17
  | 18, _ => h18
  | 19, _ => h19
  | 20, _ => h20
  | 21, _ => h21
  | 22, _ => h22
  | 23, _ => h23
  | 24, _ => h24
  | 25, _ => h25
  | 26, _ => h26
  | 27, _ => h27
  | 28, _ => h28
  | 29, _ => h29
  | 30, _ => h30
  | 31, _ => h31
  | 32, _ => h32
  | 33, _ => h33
  | 34, _ => h34
  | 35, _ => h35
  | 36, _ => h36
  | 37, _ => h37
  | 38, _ => h38
  | 39, _ => h39
  | 40, _ => h40
  | 41, _ => h41
  | 42, _ => h42
  | 43, _ => h43
  | 44, _ => h44
  | 45, _ => h45
  | 46, _ => h46
  | 47, _ => h47
  | 48, _ => h48
  | 49, _ => h49
  | 50, _ => h50
  | 51, _ => h51
  | 52, _ => h52
  | 53, _ => h53
  | 54, _ => h54
  | 55, _ => h55
  | 56, _ => h56
  | 57, _ => h57
  | 58, _ => h58
  | 59, _ => h59
  | 60, _ => h60
  | 61, _ => h61
  | 62, _ => h62
  | 63, _ => h63
  | n + 64, h => absurd h (by omega)
end Go.Proofs.YtbdnkneedengcaaGreatDoor.Ie

/- Doubles and complex numbers in a walk. Conditions: none. -/
set_option linter.unusedSimpArgs false
set_option linter.unusedVariables false
namespace Go.Proofs.YtbdnkneedengcaaGreatDoor
open Go Ie
abbrev vf (w : Nat) : Value := .float .f64 w
abbrev vc (w : Nat × Nat) : Value := .complex .f64 w.1 w.2
section
variable {P : Program} {G : Nat} {Ext : FuncId → List Value → Mem → Outc → Mem → Prop} {e : Env} {S : Mem} {fl : Bool} {ops : Array Oper} {K : Kont}
variable {rest : List Oper} {dst : Option Tmp} {ty : TypeId} {pos : String} {af : Array Edge} {gd : Option (Nat × Bool)}
theorem arith_add {a b r : Nat} (h : Ieee.double.add a b = some r) : Op.floatArith .add .f64 a b = Pure.pure (vf r) := by
  unfold Op.floatArith
  simp only [pure_bind]
  rw [show FloatKind.f64.format.add a b = some r from h]
theorem L.fadd {t yt : TypeId} {x y : Operand} {a b r : Nat} (hr : Ieee.double.add a b = some r) (hx : e.eval x = vf a) (hy : e.eval y = vf b)
    (hw : awanted ops ⟨dst, .binOp .add t x y yt, ty, pos, af, gd⟩ e = true) (h : L P G Ext fl ops rest (e.put dst (vf r)) S K) : L P G Ext fl ops (⟨dst, .binOp .add t x y yt, ty, pos, af, gd⟩ :: rest) e S K := by
  refine L.flat (by simp [Op.operands, hx, hy]; exact ⟨rfl, rfl⟩) rfl nofun ?_ hw h
  have hb : binOp .add t (vf a) (vf b) = Pure.pure (vf r) := arith_add hr
  simp only [execOp, hx, hy, pureRun_bind, hb]
  rfl
theorem arith_sub {a b r : Nat} (h : Ieee.double.sub a b = some r) : Op.floatArith .sub .f64 a b = Pure.pure (vf r) := by
  unfold Op.floatArith
  simp only [pure_bind]
  rw [show FloatKind.f64.format.sub a b = some r from h]
theorem L.fsub {t yt : TypeId} {x y : Operand} {a b r : Nat} (hr : Ieee.double.sub a b = some r) (hx : e.eval x = vf a) (hy : e.eval y = vf b)
    (hw : awanted ops ⟨dst, .binOp .sub t x y yt, ty, pos, af, gd⟩ e = true) (h : L P G Ext fl ops rest (e.put dst (vf r)) S K) : L P G Ext fl ops (⟨dst, .binOp .sub t x y yt, ty, pos, af, gd⟩ :: rest) e S K := by
  refine L.flat (by simp [Op.operands, hx, hy]; exact ⟨rfl, rfl⟩) rfl nofun ?_ hw h
  have hb : binOp .sub t (vf a) (vf b) = Pure.pure (vf r) := arith_sub hr
  simp only [execOp, hx, hy, pureRun_bind, hb]
  rfl
theorem arith_mul {a b r : Nat} (h : Ieee.double.mul a b = some r) : Op.floatArith .mul .f64 a b = Pure.pure (vf r) := by
  unfold Op.floatArith
  simp only [pure_bind]
  rw [show FloatKind.f64.format.mul a b = some r from h]
theorem L.fmul {t yt : TypeId} {x y : Operand} {a b r : Nat} (hr : Ieee.double.mul a b = some r) (hx : e.eval x = vf a) (hy : e.eval y = vf b)
    (hw : awanted ops ⟨dst, .binOp .mul t x y yt, ty, pos, af, gd⟩ e = true) (h : L P G Ext fl ops rest (e.put dst (vf r)) S K) : L P G Ext fl ops (⟨dst, .binOp .mul t x y yt, ty, pos, af, gd⟩ :: rest) e S K := by
  refine L.flat (by simp [Op.operands, hx, hy]; exact ⟨rfl, rfl⟩) rfl nofun ?_ hw h
  have hb : binOp .mul t (vf a) (vf b) = Pure.pure (vf r) := arith_mul hr
  simp only [execOp, hx, hy, pureRun_bind, hb]
  rfl
theorem arith_quo {a b r : Nat} (h : Ieee.double.div a b = some r) : Op.floatArith .quo .f64 a b = Pure.pure (vf r) := by
  unfold Op.floatArith
  simp only [pure_bind]
  rw [show FloatKind.f64.format.div a b = some r from h]
theorem L.fquo {t yt : TypeId} {x y : Operand} {a b r : Nat} (hr : Ieee.double.div a b = some r) (hx : e.eval x = vf a) (hy : e.eval y = vf b)
    (hw : awanted ops ⟨dst, .binOp .quo t x y yt, ty, pos, af, gd⟩ e = true) (h : L P G Ext fl ops rest (e.put dst (vf r)) S K) : L P G Ext fl ops (⟨dst, .binOp .quo t x y yt, ty, pos, af, gd⟩ :: rest) e S K := by
  refine L.flat (by simp [Op.operands, hx, hy]; exact ⟨rfl, rfl⟩) rfl nofun ?_ hw h
  have hb : binOp .quo t (vf a) (vf b) = Pure.pure (vf r) := arith_quo hr
  simp only [execOp, hx, hy, pureRun_bind, hb]
  rfl
theorem carith {op : BinOp} {a b r : Nat} (h : Op.floatArith op .f64 a b = Pure.pure (vf r)) : Op.Complex.arith op .f64 a b = Pure.pure r := by
  unfold Op.Complex.arith
  rw [h]; rfl
theorem L.cadd {t yt : TypeId} {x y : Operand} {a b r : Nat × Nat} (hr : Ie.cadd a b = some r) (hx : e.eval x = vc a) (hy : e.eval y = vc b)
    (hw : awanted ops ⟨dst, .binOp .add t x y yt, ty, pos, af, gd⟩ e = true) (h : L P G Ext fl ops rest (e.put dst (vc r)) S K) : L P G Ext fl ops (⟨dst, .binOp .add t x y yt, ty, pos, af, gd⟩ :: rest) e S K := by
  refine L.flat (by simp [Op.operands, hx, hy]; exact ⟨rfl, rfl⟩) rfl nofun ?_ hw h
  obtain ⟨a1, a2⟩ := a
  obtain ⟨b1, b2⟩ := b
  unfold Ie.cadd at hr
  rw [Option.bind_eq_some_iff] at hr
  obtain ⟨r1, h1, hr⟩ := hr
  rw [Option.map_eq_some_iff] at hr
  obtain ⟨r2, h2, rfl⟩ := hr
  have hb : binOp .add t (.complex .f64 a1 a2) (.complex .f64 b1 b2) = Pure.pure (.complex .f64 r1 r2) := by
    show Op.complexOp .add .f64 a1 a2 b1 b2 = _
    unfold Op.complexOp
    dsimp only
    rw [carith (arith_add h1), carith (arith_add h2)]; rfl
  simp only [execOp, hx, hy, pureRun_bind, hb]
  rfl
theorem L.csub {t yt : TypeId} {x y : Operand} {a b r : Nat × Nat} (hr : Ie.csub a b = some r) (hx : e.eval x = vc a) (hy : e.eval y = vc b)
    (hw : awanted ops ⟨dst, .binOp .sub t x y yt, ty, pos, af, gd⟩ e = true) (h : L P G Ext fl ops rest (e.put dst (vc r)) S K) : L P G Ext fl ops (⟨dst, .binOp .sub t x y yt, ty, pos, af, gd⟩ :: rest) e S K := by
  refine L.flat (by simp [Op.operands, hx, hy]; exact ⟨rfl, rfl⟩) rfl nofun ?_ hw h
  obtain ⟨a1, a2⟩ := a
  obtain ⟨b1, b2⟩ := b
  unfold Ie.csub at hr
  rw [Option.bind_eq_some_iff] at hr
  obtain ⟨r1, h1, hr⟩ := hr
  rw [Option.map_eq_some_iff] at hr
  obtain ⟨r2, h2, rfl⟩ := hr
  have hb : binOp .sub t (.complex .f64 a1 a2) (.complex .f64 b1 b2) = Pure.pure (.complex .f64 r1 r2) := by
    show Op.complexOp .sub .f64 a1 a2 b1 b2 = _
    unfold Op.complexOp
    dsimp only
    rw [carith (arith_sub h1), carith (arith_sub h2)]; rfl
  simp only [execOp, hx, hy, pureRun_bind, hb]
  rfl
theorem L.cmul {t yt : TypeId} {x y : Operand} {a b r : Nat × Nat} (hr : Ie.cmul a b = some r) (hx : e.eval x = vc a) (hy : e.eval y = vc b)
    (hw : awanted ops ⟨dst, .binOp .mul t x y yt, ty, pos, af, gd⟩ e = true) (h : L P G Ext fl ops rest (e.put dst (vc r)) S K) : L P G Ext fl ops (⟨dst, .binOp .mul t x y yt, ty, pos, af, gd⟩ :: rest) e S K := by
  refine L.flat (by simp [Op.operands, hx, hy]; exact ⟨rfl, rfl⟩) rfl nofun ?_ hw h
  obtain ⟨a1, a2⟩ := a
  obtain ⟨b1, b2⟩ := b
  unfold Ie.cmul at hr
  rw [Option.bind_eq_some_iff] at hr
  obtain ⟨ac, h1, hr⟩ := hr
  rw [Option.bind_eq_some_iff] at hr
  obtain ⟨bd, h2, hr⟩ := hr
  rw [Option.bind_eq_some_iff] at hr
  obtain ⟨r1, h3, hr⟩ := hr
  rw [Option.bind_eq_some_iff] at hr
  obtain ⟨ad, h4, hr⟩ := hr
  rw [Option.bind_eq_some_iff] at hr
  obtain ⟨bc, h5, hr⟩ := hr
  rw [Option.map_eq_some_iff] at hr
  obtain ⟨r2, h6, rfl⟩ := hr
  have hp : Op.Complex.product a1 a2 b1 b2 = Pure.pure (r1, r2) := by
    unfold Op.Complex.product Op.Complex.mul Op.Complex.sub Op.Complex.add
    rw [carith (arith_mul h1), carith (arith_mul h2), carith (arith_mul h4), carith (arith_mul h5)]
    simp only [pure_bind]
    rw [carith (arith_sub h3), carith (arith_add h6)]
    simp only [pure_bind]
  have hb : binOp .mul t (.complex .f64 a1 a2) (.complex .f64 b1 b2) = Pure.pure (.complex .f64 r1 r2) := by
    show Op.complexOp .mul .f64 a1 a2 b1 b2 = _
    unfold Op.complexOp Op.Complex.conv
    dsimp only
    simp only [if_true, pure_bind]
    show (Op.Complex.product a1 a2 b1 b2 >>= _) = _
    rw [hp]; rfl
  simp only [execOp, hx, hy, pureRun_bind, hb]
  rfl
theorem nearest_nat (n : Nat) : FloatKind.f64.nearest (n : Int) = fNat n := by
  unfold FloatKind.nearest fNat
  rw [decide_eq_false (by omega)]; rfl
/-- a double made an integer -/
theorem L.f2i {s d : TypeId} {x : Operand} {b : Nat} {n : Int} {k : IntKind} (hr : (Ieee.double.read b).toInt .zero = some n) (hx : e.eval x = vf b) (h0 : k.min ≤ n ∧ n ≤ k.max) (hs : P.underlying s = some (.float .f64)) (hd : P.underlying d = some (.int k))
    (hw : awanted ops ⟨dst, .convert s d x, ty, pos, af, gd⟩ e = true) (h : L P G Ext fl ops rest (e.put dst (.int k n)) S K) : L P G Ext fl ops (⟨dst, .convert s d x, ty, pos, af, gd⟩ :: rest) e S K := by
  refine L.flat (by simp [Op.operands, hx]; exact rfl) rfl nofun ?_ hw h
  have hf : Conv.floatToInt .f64 b k = Pure.pure (.int k n) := by
    unfold Conv.floatToInt
    rw [show (FloatKind.f64.decode b).toInt .zero = some n from hr]
    dsimp only
    rw [if_pos h0]
  have hb : pureRun P (convert s d (vf b)) = some (.int k n) := by
    unfold convert
    rw [pureRun_bind, pureRun_underlying hs]
    show pureRun P (underlying d >>= _) = _
    rw [pureRun_bind, pureRun_underlying hd]
    show pureRun P (Conv.floatToInt .f64 b k) = _
    rw [hf]; rfl
  simp only [execOp, hx, pureRun_bind, hb]
  rfl
end
end Go.Proofs.YtbdnkneedengcaaGreatDoor

/- The sine and the cosine, walked. Conditions: none. -/
set_option linter.unusedSimpArgs false
set_option linter.unusedVariables false
set_option maxRecDepth 100000
namespace Go.Proofs.YtbdnkneedengcaaGreatDoor
open Go Ie
variable {Ext : FuncId → List Value → Mem → Outc → Mem → Prop}
/-- how many variables may be named -/
noncomputable abbrev gN : Nat := Tryz.prog.globals.size
def RowIs (S : Mem) (g : Nat) (l : List Value) : Prop := ∃ r, S.row? g = some r ∧ r.cells.take l.length = l
theorem RowIs.cons {S T : Mem} {g : Nat} {l : List Value} (h : RowIs S g l) (k : Cons S T) : RowIs T g l := by
  obtain ⟨r, h1, h2⟩ := h
  exact ⟨r, k.row h1, h2⟩
theorem RowIs.cell {S : Mem} {g : Nat} {l : List Value} (h : RowIs S g l) {k : Nat} {v : Value} (hv : l[k]? = some v) : ∃ r, S.row? g = some r ∧ r.cells[k]? = some v := by
  obtain ⟨r, h1, h2⟩ := h
  refine ⟨r, h1, ?_⟩
  have hlt : k < l.length := (List.getElem?_eq_some_iff.1 hv).1
  rw [← h2, List.getElem?_take, if_pos hlt] at hv
  exact hv
/-- the coefficients lie in memory -/
def SinOk (S : Mem) : Prop := RowIs S 3 (cosT.map vf) ∧ RowIs S 4 (sinT.map vf)
theorem SinOk.cons {S T : Mem} (h : SinOk S) (k : Cons S T) : SinOk T := ⟨h.1.cons k, h.2.cons k⟩
attribute [local irreducible] Ieee.Format.add Ieee.Format.sub Ieee.Format.mul Ieee.Format.div Ieee.Format.order Ieee.Format.nearest Ieee.Datum.toInt
theorem isNaN_C (x : Nat) (S : Mem) : C Tryz.prog gN Ext 145 [vf x] S fun v S' => v = .bool (Ieee.double.order x x != some .eq) ∧ S' = S := by
  refine C.fn Tryz.func145 rfl (by kernel_rfl) rfl ?_
  repeat first|refine W.g ?_|refine L.p rfl rfl ?_|refine L.nil ?_|refine L.skip rfl ?_
  exact ⟨.inr rfl, _, rfl, rfl, rfl⟩
theorem bits_fn : ExternFn Tryz.prog 164 Extern.MathFloatBits.float64bits := ⟨_, Tryz.func164, by kernel_rfl, rfl, by kernel_rfl, by kernel_rfl⟩
theorem frombits_fn : ExternFn Tryz.prog 163 Extern.MathFloatBits.float64frombits := ⟨_, Tryz.func163, by kernel_rfl, rfl, by kernel_rfl, by kernel_rfl⟩
theorem lr1 {ρ : Nat → Option Loc} {v : Value} {args' : List Value} (hv : scalar v = true) (h : LR ρ [v] args') : args' = [v] := by
  obtain ⟨h1, h2⟩ := h
  match args', h1 with
  | [x], _ =>
    have hx := (h2 0 _ _ rfl rfl).scalar_eq hv
    rw [hx]
theorem andNot63 {x : Nat} (h : x < 18446744073709551616) : (IntKind.u64.wrap ((BitVec.ofInt IntKind.u64.bits (x : Int) &&& ~~~BitVec.ofInt IntKind.u64.bits 9223372036854775808).toNat : Int)) = ((x % 9223372036854775808 : Nat) : Int) := by
  have h1 : (BitVec.ofInt 64 (x : Int) &&& ~~~BitVec.ofInt 64 9223372036854775808).toNat = x % 9223372036854775808 := by
    have h2 : (~~~BitVec.ofInt 64 9223372036854775808) = BitVec.ofNat 64 (2 ^ 63 - 1) := by decide
    rw [h2, BitVec.toNat_and, BitVec.toNat_ofNat, Nat.mod_eq_of_lt (by decide), Nat.and_two_pow_sub_one_eq_mod, BitVec.toNat_ofInt]
    show ((x : Int) % ((2 ^ 64 : Nat) : Int)).toNat % 9223372036854775808 = _
    omega
  show IntKind.u64.wrap ((BitVec.ofInt 64 (x : Int) &&& ~~~BitVec.ofInt 64 9223372036854775808).toNat : Int) = _
  rw [h1, wrapU64 (by omega) (by omega)]
theorem abs_C (x : Nat) (hx : x < 18446744073709551616) (S : Mem) : C Tryz.prog gN Ext 162 [vf x] S fun v S' => v = vf (x % 9223372036854775808) ∧ S' = S := by
  refine C.fn Tryz.func162 rfl (by kernel_rfl) rfl ?_
  repeat first|refine W.g ?_|refine L.p rfl rfl ?_|refine L.nil ?_|refine L.skip rfl ?_
  refine L.ext (v := .int .u64 x) rfl rfl bits_fn (fun ρ args' h => ⟨_, flat_VR _ rfl, fun w => by rw [lr1 rfl h]; rfl⟩) ?_
  repeat first|refine W.g ?_|refine L.p rfl rfl ?_|refine L.nil ?_|refine L.skip rfl ?_
  rw [andNot63 hx]
  refine L.ext (v := vf (x % 9223372036854775808)) rfl rfl frombits_fn (fun ρ args' h => ⟨_, flat_VR _ rfl, fun w => by rw [lr1 rfl h]; rfl⟩) ?_
  repeat first|refine W.g ?_|refine L.p rfl rfl ?_|refine L.nil ?_|refine L.skip rfl ?_
  exact ⟨.inr rfl, _, rfl, rfl, rfl⟩
theorem isInf_C (x : Nat) (hx : x < 18446744073709551616) (S : Mem) : C Tryz.prog gN Ext 146 [vf x, .int .i64 0] S fun v S' => v = .bool (fIs .gt (x % 9223372036854775808) 9218868437227405311) ∧ S' = S := by
  refine C.fn Tryz.func146 rfl (by kernel_rfl) rfl ?_
  repeat first|refine W.g ?_|refine L.p rfl rfl ?_|refine L.nil ?_|refine L.skip rfl ?_
  refine W.ite rfl (fun h => ?_) (fun h => ?_)
  rotate_left
  · cases h
  repeat first|refine W.g ?_|refine L.p rfl rfl ?_|refine L.nil ?_|refine L.skip rfl ?_
  refine L.cl (abs_C x hx S) rfl rfl ?_
  rintro _ _ ⟨rfl, rfl⟩
  refine ⟨nofun, ?_⟩
  repeat first|refine W.g ?_|refine L.p rfl rfl ?_|refine L.nil ?_|refine L.skip rfl ?_
  exact ⟨.inr rfl, _, rfl, rfl, rfl⟩
end Go.Proofs.YtbdnkneedengcaaGreatDoor

/- The sine and the cosine, walked. Conditions: none. -/
set_option linter.unusedSimpArgs false
set_option linter.unusedVariables false
set_option maxRecDepth 100000
set_option maxHeartbeats 4000000
namespace Go.Proofs.YtbdnkneedengcaaGreatDoor
open Go Ie
variable {Ext : FuncId → List Value → Mem → Outc → Mem → Prop}
attribute [local irreducible] Ieee.Format.add Ieee.Format.sub Ieee.Format.mul Ieee.Format.div Ieee.Format.order Ieee.Format.nearest Ieee.Datum.toInt
theorem poly_steps {c0 c1 c2 c3 c4 c5 zz r : Nat} (h : poly dbl [c0, c1, c2, c3, c4, c5] zz = some r) : ∃ a1 a2 a3 a4 a5 a6 a7 a8 a9, Ieee.double.mul c0 zz = some a1 ∧ Ieee.double.add a1 c1 = some a2 ∧ Ieee.double.mul a2 zz = some a3 ∧ Ieee.double.add a3 c2 = some a4 ∧ Ieee.double.mul a4 zz = some a5 ∧ Ieee.double.add a5 c3 = some a6 ∧ Ieee.double.mul a6 zz = some a7 ∧ Ieee.double.add a7 c4 = some a8 ∧ Ieee.double.mul a8 zz = some a9 ∧ Ieee.double.add a9 c5 = some r := by
  unfold poly dbl at h
  simp only [Option.bind_eq_some_iff] at h
  obtain ⟨a1, h1, a2, h2, a3, h3, a4, h4, a5, h5, a6, h6, a7, h7, a8, h8, a9, h9, h10⟩ := h
  exact ⟨a1, a2, a3, a4, a5, a6, a7, a8, a9, h1, h2, h3, h4, h5, h6, h7, h8, h9, h10⟩
theorem sincos_C (x si co : Nat) (hx : x < 18446744073709551616) (h : sincosO dbl x = some (si, co)) (S : Mem) (hS : SinOk S) :
    C Tryz.prog gN Ext 124 [vf x] S fun v S' => v = .tuple #[vf si, vf co] ∧ S' = S := by
  obtain ⟨hrc0, hrs0⟩ := hS
  obtain ⟨rc, hrc, hcc0⟩ := hrc0
  obtain ⟨rs, hrs, hcs0⟩ := hrs0
  have hcc : ∀ (k : Nat) (v : Value), (cosT.map vf)[k]? = some v → rc.cells[k]? = some v := fun k v hv => by
    have hlt : k < 6 := (List.getElem?_eq_some_iff.1 hv).1
    rw [← hcc0, List.getElem?_take, if_pos (show k < (cosT.map vf).length from hlt)] at hv
    exact hv
  have hcs : ∀ (k : Nat) (v : Value), (sinT.map vf)[k]? = some v → rs.cells[k]? = some v := fun k v hv => by
    have hlt : k < 6 := (List.getElem?_eq_some_iff.1 hv).1
    rw [← hcs0, List.getElem?_take, if_pos (show k < (sinT.map vf).length from hlt)] at hv
    exact hv
  clear hcc0 hcs0
  unfold sincosO at h
  refine C.fn Tryz.func124 rfl (by kernel_rfl) rfl ?_
  repeat first|refine W.g ?_|refine L.p rfl rfl ?_|refine L.nil ?_|refine L.skip rfl ?_
  refine W.ite (t := fIs .eq x 0) rfl (fun hq => ?_) (fun hq => ?_)
  · rw [hq] at h
    simp only [if_true, Option.some.injEq, Prod.mk.injEq] at h
    obtain ⟨rfl, rfl⟩ := h
    repeat first|refine W.g ?_|refine L.p rfl rfl ?_|refine L.nil ?_|refine L.skip rfl ?_
    exact ⟨.inr rfl, _, rfl, rfl, rfl⟩
  rw [hq] at h
  simp only [Bool.false_eq_true, if_false] at h
  split at h
  rotate_left
  · cases h
  rename_i hfin
  simp only [Bool.and_eq_true, Bool.not_eq_true'] at hfin
  obtain ⟨hnan, hinf⟩ := hfin
  repeat first|refine W.g ?_|refine L.p rfl rfl ?_|refine L.nil ?_|refine L.skip rfl ?_
  refine L.cl (isNaN_C x S) rfl rfl ?_
  rintro _ _ ⟨rfl, rfl⟩
  refine ⟨nofun, ?_⟩
  have hnan' : (Ieee.double.order x x != some .eq) = false := by
    show (!(Ieee.double.order x x == some .eq)) = false
    rw [show (Ieee.double.order x x == some .eq) = true from hnan]; rfl
  rw [hnan']
  repeat first|refine W.g ?_|refine L.p rfl rfl ?_|refine L.nil ?_|refine L.skip rfl ?_
  refine L.cl (isInf_C x hx _) rfl rfl ?_
  rintro _ _ ⟨rfl, rfl⟩
  refine ⟨nofun, ?_⟩
  rw [hinf]
  repeat first|refine W.g ?_|refine L.p rfl rfl ?_|refine L.nil ?_|refine L.skip rfl ?_
  first | refine W.condT rfl ?_ | refine W.condF rfl ?_
  repeat first|refine W.g ?_|refine L.p rfl rfl ?_|refine L.nil ?_|refine L.skip rfl ?_
  rename Mem => S
  refine W.mono (R := fun x' e' S' => x' = .nrm ∧ S' = S ∧ ∃ (y : Nat) (sg : Bool), e' 0 = vf y ∧ e' 4 = .bool sg ∧ e' 5 = .bool false ∧ fIs .lt x 0 = sg ∧ y = if sg then fNeg x else x) ?_ ?_
  · refine W.ite (t := fIs .lt x 0) rfl (fun hs => ?_) (fun hs => ?_)
    · repeat first|refine W.g ?_|refine L.p rfl rfl ?_|refine L.nil ?_|refine L.skip rfl ?_
      exact ⟨rfl, rfl, fNeg x, true, rfl, rfl, rfl, hs, rfl⟩
    · repeat first|refine W.g ?_|refine L.p rfl rfl ?_|refine L.nil ?_|refine L.skip rfl ?_
      exact ⟨rfl, rfl, x, false, rfl, rfl, rfl, hs, rfl⟩
  rintro _ e S1 ⟨rfl, hS1, y0, sg, e0, e4, e5, hsg, hy0⟩
  subst hS1
  rename Mem => S
  refine W.env3 e0 e4 e5 ?_
  rw [hsg, ← hy0] at h
  clear hsg hy0 hnan hinf hnan' hq
  repeat first|refine W.g ?_|refine L.p rfl rfl ?_|refine L.nil ?_|refine L.skip rfl ?_
  refine W.ite rfl (fun hb => ?_) (fun hb => ?_)
  · exfalso
    rw [show (fIs .gt (y0) 4737786807993761792 || fIs .eq (y0) 4737786807993761792) = true from hb] at h
    simp at h
  rw [show (fIs .gt (y0) 4737786807993761792 || fIs .eq (y0) 4737786807993761792) = false from hb] at h
  simp only [Bool.false_eq_true, if_false] at h
  rw [Option.bind_eq_some_iff] at h
  obtain ⟨p0, hmul, h⟩ := h
  split at h
  rotate_left
  · cases h
  rename_i n0 hread
  split at h
  rotate_left
  · cases h
  rename_i hn08
  rw [Option.bind_eq_some_iff] at h
  obtain ⟨q, hoct, h⟩ := h
  rw [Option.bind_eq_some_iff] at h
  obtain ⟨w0, hrest, h⟩ := h
  rw [Option.map_eq_some_iff] at h
  obtain ⟨pr, hparts, hsgn⟩ := h
  unfold partsO dbl at hparts
  simp only [Option.bind_eq_some_iff] at hparts
  obtain ⟨zz, z1, v1, z2, v2, z3, v3, z4, pc, hpc, v4, z5, v5, z6, v6, z7, ps, hps, v7, z8, v8', z9, hpr⟩ := hparts
  obtain ⟨a1, a2, a3, a4, a5, a6, a7, a8, a9, c1, c2, c3, c4, c5, c6, c7, c8, c9, c10⟩ := poly_steps hpc
  obtain ⟨b1, b2, b3, b4, b5, b6, b7, b8, b9, s1, s2, s3, s4, s5, s6, s7, s8, s9, s10⟩ := poly_steps hps
  cases hpr
  obtain ⟨n, rfl⟩ : ∃ n : Nat, n0 = (n : Int) := ⟨n0.toNat, by omega⟩
  have hn8 : n ≤ 8 := by omega
  rw [Int.toNat_natCast] at hoct
  repeat first|refine W.g ?_|refine L.p rfl rfl ?_|refine L.nil ?_|refine L.skip rfl ?_
  refine L.fmul hmul rfl rfl rfl ?_
  repeat first|refine W.g ?_|refine L.p rfl rfl ?_|refine L.nil ?_|refine L.skip rfl ?_
  refine L.f2i hread rfl ⟨show (0 : Int) ≤ _ by omega, show _ ≤ (18446744073709551615 : Int) by omega⟩ rfl rfl rfl ?_
  clear hread hn08
  have hcases : n = 0 ∨ n = 1 ∨ n = 2 ∨ n = 3 ∨ n = 4 ∨ n = 5 ∨ n = 6 ∨ n = 7 ∨ n = 8 := by omega
  rcases hcases with rfl | rfl | rfl | rfl | rfl | rfl | rfl | rfl | rfl
  · obtain ⟨y, hy0, rfl⟩ : ∃ y, y = fNat 0 ∧ (0, y) = q := by
      have h0 : some (0 % 8, fNat 0) = some q := hoct
      exact ⟨_, rfl, Option.some.inj h0⟩
    unfold restO dbl at hrest
    simp only [Option.bind_eq_some_iff] at hrest
    obtain ⟨u1, e1, u2, e2, u3, e3, u4, e4, u5, e5, e6⟩ := hrest
    have hsi := congrArg Prod.fst hsgn
    have hco := congrArg Prod.snd hsgn
    simp [signO] at hsi hco
    subst hsi hco
    subst hy0
    repeat first|refine W.g ?_|refine L.p rfl rfl ?_|refine L.nil ?_|refine L.skip rfl ?_
    first | refine W.condT rfl ?_ | refine W.condF rfl ?_
    repeat first|refine W.g ?_|refine L.p rfl rfl ?_|refine L.nil ?_|refine L.skip rfl ?_
    refine L.fmul e1 rfl rfl rfl ?_
    repeat first|refine L.p rfl rfl ?_|refine L.nil ?_|refine W.g ?_
    refine L.fsub e2 rfl rfl rfl ?_
    repeat first|refine L.p rfl rfl ?_|refine L.nil ?_|refine W.g ?_
    refine L.fmul e3 rfl rfl rfl ?_
    repeat first|refine L.p rfl rfl ?_|refine L.nil ?_|refine W.g ?_
    refine L.fsub e4 rfl rfl rfl ?_
    repeat first|refine L.p rfl rfl ?_|refine L.nil ?_|refine W.g ?_
    refine L.fmul e5 rfl rfl rfl ?_
    repeat first|refine L.p rfl rfl ?_|refine L.nil ?_|refine W.g ?_
    refine L.fsub e6 rfl rfl rfl ?_
    repeat first|refine L.p rfl rfl ?_|refine L.nil ?_|refine W.g ?_
    first | refine W.condT rfl ?_ | refine W.condF rfl ?_
    repeat first|refine W.g ?_|refine L.p rfl rfl ?_|refine L.nil ?_|refine L.skip rfl ?_
    first | refine W.condT rfl ?_ | refine W.condF rfl ?_
    repeat first|refine W.g ?_|refine L.p rfl rfl ?_|refine L.nil ?_|refine L.skip rfl ?_
    refine L.fmul z1 rfl rfl rfl ?_
    repeat first|refine L.p rfl rfl ?_|refine L.nil ?_|refine W.g ?_
    refine L.fmul z2 rfl rfl rfl ?_
    repeat first|refine L.p rfl rfl ?_|refine L.nil ?_|refine W.g ?_
    refine L.fsub z3 rfl rfl rfl ?_
    repeat first|refine L.p rfl rfl ?_|refine L.nil ?_|refine W.g ?_
    refine L.fmul z4 rfl rfl rfl ?_
    repeat first|refine L.p rfl rfl ?_|refine L.nil ?_|refine W.g ?_
    refine L.ld (a := ⟨_, 0, none⟩) (cell_of hrc (hcc 0 _ rfl) (.inr rfl)) rfl rfl rfl ?_
    repeat first|refine L.p rfl rfl ?_|refine L.nil ?_|refine W.g ?_
    refine L.fmul c1 rfl rfl rfl ?_
    repeat first|refine L.p rfl rfl ?_|refine L.nil ?_|refine W.g ?_
    refine L.ld (a := ⟨_, 1, none⟩) (cell_of hrc (hcc 1 _ rfl) (.inr rfl)) rfl rfl rfl ?_
    repeat first|refine L.p rfl rfl ?_|refine L.nil ?_|refine W.g ?_
    refine L.fadd c2 rfl rfl rfl ?_
    repeat first|refine L.p rfl rfl ?_|refine L.nil ?_|refine W.g ?_
    refine L.fmul c3 rfl rfl rfl ?_
    repeat first|refine L.p rfl rfl ?_|refine L.nil ?_|refine W.g ?_
    refine L.ld (a := ⟨_, 2, none⟩) (cell_of hrc (hcc 2 _ rfl) (.inr rfl)) rfl rfl rfl ?_
    repeat first|refine L.p rfl rfl ?_|refine L.nil ?_|refine W.g ?_
    refine L.fadd c4 rfl rfl rfl ?_
    repeat first|refine L.p rfl rfl ?_|refine L.nil ?_|refine W.g ?_
    refine L.fmul c5 rfl rfl rfl ?_
    repeat first|refine L.p rfl rfl ?_|refine L.nil ?_|refine W.g ?_
    refine L.ld (a := ⟨_, 3, none⟩) (cell_of hrc (hcc 3 _ rfl) (.inr rfl)) rfl rfl rfl ?_
    repeat first|refine L.p rfl rfl ?_|refine L.nil ?_|refine W.g ?_
    refine L.fadd c6 rfl rfl rfl ?_
    repeat first|refine L.p rfl rfl ?_|refine L.nil ?_|refine W.g ?_
    refine L.fmul c7 rfl rfl rfl ?_
    repeat first|refine L.p rfl rfl ?_|refine L.nil ?_|refine W.g ?_
    refine L.ld (a := ⟨_, 4, none⟩) (cell_of hrc (hcc 4 _ rfl) (.inr rfl)) rfl rfl rfl ?_
    repeat first|refine L.p rfl rfl ?_|refine L.nil ?_|refine W.g ?_
    refine L.fadd c8 rfl rfl rfl ?_
    repeat first|refine L.p rfl rfl ?_|refine L.nil ?_|refine W.g ?_
    refine L.fmul c9 rfl rfl rfl ?_
    repeat first|refine L.p rfl rfl ?_|refine L.nil ?_|refine W.g ?_
    refine L.ld (a := ⟨_, 5, none⟩) (cell_of hrc (hcc 5 _ rfl) (.inr rfl)) rfl rfl rfl ?_
    repeat first|refine L.p rfl rfl ?_|refine L.nil ?_|refine W.g ?_
    refine L.fadd c10 rfl rfl rfl ?_
    repeat first|refine L.p rfl rfl ?_|refine L.nil ?_|refine W.g ?_
    refine L.fmul z5 rfl rfl rfl ?_
    repeat first|refine L.p rfl rfl ?_|refine L.nil ?_|refine W.g ?_
    refine L.fadd z6 rfl rfl rfl ?_
    repeat first|refine L.p rfl rfl ?_|refine L.nil ?_|refine W.g ?_
    refine L.fmul z7 rfl rfl rfl ?_
    repeat first|refine L.p rfl rfl ?_|refine L.nil ?_|refine W.g ?_
    refine L.ld (a := ⟨_, 0, none⟩) (cell_of hrs (hcs 0 _ rfl) (.inr rfl)) rfl rfl rfl ?_
    repeat first|refine L.p rfl rfl ?_|refine L.nil ?_|refine W.g ?_
    refine L.fmul s1 rfl rfl rfl ?_
    repeat first|refine L.p rfl rfl ?_|refine L.nil ?_|refine W.g ?_
    refine L.ld (a := ⟨_, 1, none⟩) (cell_of hrs (hcs 1 _ rfl) (.inr rfl)) rfl rfl rfl ?_
    repeat first|refine L.p rfl rfl ?_|refine L.nil ?_|refine W.g ?_
    refine L.fadd s2 rfl rfl rfl ?_
    repeat first|refine L.p rfl rfl ?_|refine L.nil ?_|refine W.g ?_
    refine L.fmul s3 rfl rfl rfl ?_
    repeat first|refine L.p rfl rfl ?_|refine L.nil ?_|refine W.g ?_
    refine L.ld (a := ⟨_, 2, none⟩) (cell_of hrs (hcs 2 _ rfl) (.inr rfl)) rfl rfl rfl ?_
    repeat first|refine L.p rfl rfl ?_|refine L.nil ?_|refine W.g ?_
    refine L.fadd s4 rfl rfl rfl ?_
    repeat first|refine L.p rfl rfl ?_|refine L.nil ?_|refine W.g ?_
    refine L.fmul s5 rfl rfl rfl ?_
    repeat first|refine L.p rfl rfl ?_|refine L.nil ?_|refine W.g ?_
    refine L.ld (a := ⟨_, 3, none⟩) (cell_of hrs (hcs 3 _ rfl) (.inr rfl)) rfl rfl rfl ?_
    repeat first|refine L.p rfl rfl ?_|refine L.nil ?_|refine W.g ?_
    refine L.fadd s6 rfl rfl rfl ?_
    repeat first|refine L.p rfl rfl ?_|refine L.nil ?_|refine W.g ?_
    refine L.fmul s7 rfl rfl rfl ?_
    repeat first|refine L.p rfl rfl ?_|refine L.nil ?_|refine W.g ?_
    refine L.ld (a := ⟨_, 4, none⟩) (cell_of hrs (hcs 4 _ rfl) (.inr rfl)) rfl rfl rfl ?_
    repeat first|refine L.p rfl rfl ?_|refine L.nil ?_|refine W.g ?_
    refine L.fadd s8 rfl rfl rfl ?_
    repeat first|refine L.p rfl rfl ?_|refine L.nil ?_|refine W.g ?_
    refine L.fmul s9 rfl rfl rfl ?_
    repeat first|refine L.p rfl rfl ?_|refine L.nil ?_|refine W.g ?_
    refine L.ld (a := ⟨_, 5, none⟩) (cell_of hrs (hcs 5 _ rfl) (.inr rfl)) rfl rfl rfl ?_
    repeat first|refine L.p rfl rfl ?_|refine L.nil ?_|refine W.g ?_
    refine L.fadd s10 rfl rfl rfl ?_
    repeat first|refine L.p rfl rfl ?_|refine L.nil ?_|refine W.g ?_
    refine L.fmul z8 rfl rfl rfl ?_
    repeat first|refine L.p rfl rfl ?_|refine L.nil ?_|refine W.g ?_
    refine L.fadd z9 rfl rfl rfl ?_
    repeat first|refine L.p rfl rfl ?_|refine L.nil ?_|refine W.g ?_
    first | refine W.condT rfl ?_ | refine W.condF rfl ?_
    repeat first|refine W.g ?_|refine L.p rfl rfl ?_|refine L.nil ?_|refine L.skip rfl ?_
    cases sg
    · first | refine W.condT rfl ?_ | refine W.condF rfl ?_
      repeat first|refine W.g ?_|refine L.p rfl rfl ?_|refine L.nil ?_|refine L.skip rfl ?_
      first | refine W.condT rfl ?_ | refine W.condF rfl ?_
      repeat first|refine W.g ?_|refine L.p rfl rfl ?_|refine L.nil ?_|refine L.skip rfl ?_
      exact ⟨.inr rfl, _, rfl, rfl, rfl⟩
    · first | refine W.condT rfl ?_ | refine W.condF rfl ?_
      repeat first|refine W.g ?_|refine L.p rfl rfl ?_|refine L.nil ?_|refine L.skip rfl ?_
      first | refine W.condT rfl ?_ | refine W.condF rfl ?_
      repeat first|refine W.g ?_|refine L.p rfl rfl ?_|refine L.nil ?_|refine L.skip rfl ?_
      exact ⟨.inr rfl, _, rfl, rfl, rfl⟩
  · obtain ⟨y, hy, rfl⟩ : ∃ y, Ieee.double.add (fNat 1) 4607182418800017408 = some y ∧ (2, y) = q := by
      have h0 : (Ieee.double.add (fNat 1) 4607182418800017408).map (fun y => ((1 + 1) % 8, y)) = some q := hoct
      rw [Option.map_eq_some_iff] at h0
      exact h0
    unfold restO dbl at hrest
    simp only [Option.bind_eq_some_iff] at hrest
    obtain ⟨u1, e1, u2, e2, u3, e3, u4, e4, u5, e5, e6⟩ := hrest
    have hsi := congrArg Prod.fst hsgn
    have hco := congrArg Prod.snd hsgn
    simp [signO] at hsi hco
    subst hsi hco
    repeat first|refine W.g ?_|refine L.p rfl rfl ?_|refine L.nil ?_|refine L.skip rfl ?_
    first | refine W.condT rfl ?_ | refine W.condF rfl ?_
    repeat first|refine W.g ?_|refine L.p rfl rfl ?_|refine L.nil ?_|refine L.skip rfl ?_
    refine L.fadd hy rfl rfl rfl ?_
    repeat first|refine L.p rfl rfl ?_|refine L.nil ?_|refine W.g ?_
    refine L.fmul e1 rfl rfl rfl ?_
    repeat first|refine L.p rfl rfl ?_|refine L.nil ?_|refine W.g ?_
    refine L.fsub e2 rfl rfl rfl ?_
    repeat first|refine L.p rfl rfl ?_|refine L.nil ?_|refine W.g ?_
    refine L.fmul e3 rfl rfl rfl ?_
    repeat first|refine L.p rfl rfl ?_|refine L.nil ?_|refine W.g ?_
    refine L.fsub e4 rfl rfl rfl ?_
    repeat first|refine L.p rfl rfl ?_|refine L.nil ?_|refine W.g ?_
    refine L.fmul e5 rfl rfl rfl ?_
    repeat first|refine L.p rfl rfl ?_|refine L.nil ?_|refine W.g ?_
    refine L.fsub e6 rfl rfl rfl ?_
    repeat first|refine L.p rfl rfl ?_|refine L.nil ?_|refine W.g ?_
    first | refine W.condT rfl ?_ | refine W.condF rfl ?_
    repeat first|refine W.g ?_|refine L.p rfl rfl ?_|refine L.nil ?_|refine L.skip rfl ?_
    first | refine W.condT rfl ?_ | refine W.condF rfl ?_
    repeat first|refine W.g ?_|refine L.p rfl rfl ?_|refine L.nil ?_|refine L.skip rfl ?_
    refine L.fmul z1 rfl rfl rfl ?_
    repeat first|refine L.p rfl rfl ?_|refine L.nil ?_|refine W.g ?_
    refine L.fmul z2 rfl rfl rfl ?_
    repeat first|refine L.p rfl rfl ?_|refine L.nil ?_|refine W.g ?_
    refine L.fsub z3 rfl rfl rfl ?_
    repeat first|refine L.p rfl rfl ?_|refine L.nil ?_|refine W.g ?_
    refine L.fmul z4 rfl rfl rfl ?_
    repeat first|refine L.p rfl rfl ?_|refine L.nil ?_|refine W.g ?_
    refine L.ld (a := ⟨_, 0, none⟩) (cell_of hrc (hcc 0 _ rfl) (.inr rfl)) rfl rfl rfl ?_
    repeat first|refine L.p rfl rfl ?_|refine L.nil ?_|refine W.g ?_
    refine L.fmul c1 rfl rfl rfl ?_
    repeat first|refine L.p rfl rfl ?_|refine L.nil ?_|refine W.g ?_
    refine L.ld (a := ⟨_, 1, none⟩) (cell_of hrc (hcc 1 _ rfl) (.inr rfl)) rfl rfl rfl ?_
    repeat first|refine L.p rfl rfl ?_|refine L.nil ?_|refine W.g ?_
    refine L.fadd c2 rfl rfl rfl ?_
    repeat first|refine L.p rfl rfl ?_|refine L.nil ?_|refine W.g ?_
    refine L.fmul c3 rfl rfl rfl ?_
    repeat first|refine L.p rfl rfl ?_|refine L.nil ?_|refine W.g ?_
    refine L.ld (a := ⟨_, 2, none⟩) (cell_of hrc (hcc 2 _ rfl) (.inr rfl)) rfl rfl rfl ?_
    repeat first|refine L.p rfl rfl ?_|refine L.nil ?_|refine W.g ?_
    refine L.fadd c4 rfl rfl rfl ?_
    repeat first|refine L.p rfl rfl ?_|refine L.nil ?_|refine W.g ?_
    refine L.fmul c5 rfl rfl rfl ?_
    repeat first|refine L.p rfl rfl ?_|refine L.nil ?_|refine W.g ?_
    refine L.ld (a := ⟨_, 3, none⟩) (cell_of hrc (hcc 3 _ rfl) (.inr rfl)) rfl rfl rfl ?_
    repeat first|refine L.p rfl rfl ?_|refine L.nil ?_|refine W.g ?_
    refine L.fadd c6 rfl rfl rfl ?_
    repeat first|refine L.p rfl rfl ?_|refine L.nil ?_|refine W.g ?_
    refine L.fmul c7 rfl rfl rfl ?_
    repeat first|refine L.p rfl rfl ?_|refine L.nil ?_|refine W.g ?_
    refine L.ld (a := ⟨_, 4, none⟩) (cell_of hrc (hcc 4 _ rfl) (.inr rfl)) rfl rfl rfl ?_
    repeat first|refine L.p rfl rfl ?_|refine L.nil ?_|refine W.g ?_
    refine L.fadd c8 rfl rfl rfl ?_
    repeat first|refine L.p rfl rfl ?_|refine L.nil ?_|refine W.g ?_
    refine L.fmul c9 rfl rfl rfl ?_
    repeat first|refine L.p rfl rfl ?_|refine L.nil ?_|refine W.g ?_
    refine L.ld (a := ⟨_, 5, none⟩) (cell_of hrc (hcc 5 _ rfl) (.inr rfl)) rfl rfl rfl ?_
    repeat first|refine L.p rfl rfl ?_|refine L.nil ?_|refine W.g ?_
    refine L.fadd c10 rfl rfl rfl ?_
    repeat first|refine L.p rfl rfl ?_|refine L.nil ?_|refine W.g ?_
    refine L.fmul z5 rfl rfl rfl ?_
    repeat first|refine L.p rfl rfl ?_|refine L.nil ?_|refine W.g ?_
    refine L.fadd z6 rfl rfl rfl ?_
    repeat first|refine L.p rfl rfl ?_|refine L.nil ?_|refine W.g ?_
    refine L.fmul z7 rfl rfl rfl ?_
    repeat first|refine L.p rfl rfl ?_|refine L.nil ?_|refine W.g ?_
    refine L.ld (a := ⟨_, 0, none⟩) (cell_of hrs (hcs 0 _ rfl) (.inr rfl)) rfl rfl rfl ?_
    repeat first|refine L.p rfl rfl ?_|refine L.nil ?_|refine W.g ?_
    refine L.fmul s1 rfl rfl rfl ?_
    repeat first|refine L.p rfl rfl ?_|refine L.nil ?_|refine W.g ?_
    refine L.ld (a := ⟨_, 1, none⟩) (cell_of hrs (hcs 1 _ rfl) (.inr rfl)) rfl rfl rfl ?_
    repeat first|refine L.p rfl rfl ?_|refine L.nil ?_|refine W.g ?_
    refine L.fadd s2 rfl rfl rfl ?_
    repeat first|refine L.p rfl rfl ?_|refine L.nil ?_|refine W.g ?_
    refine L.fmul s3 rfl rfl rfl ?_
    repeat first|refine L.p rfl rfl ?_|refine L.nil ?_|refine W.g ?_
    refine L.ld (a := ⟨_, 2, none⟩) (cell_of hrs (hcs 2 _ rfl) (.inr rfl)) rfl rfl rfl ?_
    repeat first|refine L.p rfl rfl ?_|refine L.nil ?_|refine W.g ?_
    refine L.fadd s4 rfl rfl rfl ?_
    repeat first|refine L.p rfl rfl ?_|refine L.nil ?_|refine W.g ?_
    refine L.fmul s5 rfl rfl rfl ?_
    repeat first|refine L.p rfl rfl ?_|refine L.nil ?_|refine W.g ?_
    refine L.ld (a := ⟨_, 3, none⟩) (cell_of hrs (hcs 3 _ rfl) (.inr rfl)) rfl rfl rfl ?_
    repeat first|refine L.p rfl rfl ?_|refine L.nil ?_|refine W.g ?_
    refine L.fadd s6 rfl rfl rfl ?_
    repeat first|refine L.p rfl rfl ?_|refine L.nil ?_|refine W.g ?_
    refine L.fmul s7 rfl rfl rfl ?_
    repeat first|refine L.p rfl rfl ?_|refine L.nil ?_|refine W.g ?_
    refine L.ld (a := ⟨_, 4, none⟩) (cell_of hrs (hcs 4 _ rfl) (.inr rfl)) rfl rfl rfl ?_
    repeat first|refine L.p rfl rfl ?_|refine L.nil ?_|refine W.g ?_
    refine L.fadd s8 rfl rfl rfl ?_
    repeat first|refine L.p rfl rfl ?_|refine L.nil ?_|refine W.g ?_
    refine L.fmul s9 rfl rfl rfl ?_
    repeat first|refine L.p rfl rfl ?_|refine L.nil ?_|refine W.g ?_
    refine L.ld (a := ⟨_, 5, none⟩) (cell_of hrs (hcs 5 _ rfl) (.inr rfl)) rfl rfl rfl ?_
    repeat first|refine L.p rfl rfl ?_|refine L.nil ?_|refine W.g ?_
    refine L.fadd s10 rfl rfl rfl ?_
    repeat first|refine L.p rfl rfl ?_|refine L.nil ?_|refine W.g ?_
    refine L.fmul z8 rfl rfl rfl ?_
    repeat first|refine L.p rfl rfl ?_|refine L.nil ?_|refine W.g ?_
    refine L.fadd z9 rfl rfl rfl ?_
    repeat first|refine L.p rfl rfl ?_|refine L.nil ?_|refine W.g ?_
    first | refine W.condT rfl ?_ | refine W.condF rfl ?_
    repeat first|refine W.g ?_|refine L.p rfl rfl ?_|refine L.nil ?_|refine L.skip rfl ?_
    cases sg
    · first | refine W.condT rfl ?_ | refine W.condF rfl ?_
      repeat first|refine W.g ?_|refine L.p rfl rfl ?_|refine L.nil ?_|refine L.skip rfl ?_
      first | refine W.condT rfl ?_ | refine W.condF rfl ?_
      repeat first|refine W.g ?_|refine L.p rfl rfl ?_|refine L.nil ?_|refine L.skip rfl ?_
      exact ⟨.inr rfl, _, rfl, rfl, rfl⟩
    · first | refine W.condT rfl ?_ | refine W.condF rfl ?_
      repeat first|refine W.g ?_|refine L.p rfl rfl ?_|refine L.nil ?_|refine L.skip rfl ?_
      first | refine W.condT rfl ?_ | refine W.condF rfl ?_
      repeat first|refine W.g ?_|refine L.p rfl rfl ?_|refine L.nil ?_|refine L.skip rfl ?_
      exact ⟨.inr rfl, _, rfl, rfl, rfl⟩
  · obtain ⟨y, hy0, rfl⟩ : ∃ y, y = fNat 2 ∧ (2, y) = q := by
      have h0 : some (2 % 8, fNat 2) = some q := hoct
      exact ⟨_, rfl, Option.some.inj h0⟩
    unfold restO dbl at hrest
    simp only [Option.bind_eq_some_iff] at hrest
    obtain ⟨u1, e1, u2, e2, u3, e3, u4, e4, u5, e5, e6⟩ := hrest
    have hsi := congrArg Prod.fst hsgn
    have hco := congrArg Prod.snd hsgn
    simp [signO] at hsi hco
    subst hsi hco
    subst hy0
    repeat first|refine W.g ?_|refine L.p rfl rfl ?_|refine L.nil ?_|refine L.skip rfl ?_
    first | refine W.condT rfl ?_ | refine W.condF rfl ?_
    repeat first|refine W.g ?_|refine L.p rfl rfl ?_|refine L.nil ?_|refine L.skip rfl ?_
    refine L.fmul e1 rfl rfl rfl ?_
    repeat first|refine L.p rfl rfl ?_|refine L.nil ?_|refine W.g ?_
    refine L.fsub e2 rfl rfl rfl ?_
    repeat first|refine L.p rfl rfl ?_|refine L.nil ?_|refine W.g ?_
    refine L.fmul e3 rfl rfl rfl ?_
    repeat first|refine L.p rfl rfl ?_|refine L.nil ?_|refine W.g ?_
    refine L.fsub e4 rfl rfl rfl ?_
    repeat first|refine L.p rfl rfl ?_|refine L.nil ?_|refine W.g ?_
    refine L.fmul e5 rfl rfl rfl ?_
    repeat first|refine L.p rfl rfl ?_|refine L.nil ?_|refine W.g ?_
    refine L.fsub e6 rfl rfl rfl ?_
    repeat first|refine L.p rfl rfl ?_|refine L.nil ?_|refine W.g ?_
    first | refine W.condT rfl ?_ | refine W.condF rfl ?_
    repeat first|refine W.g ?_|refine L.p rfl rfl ?_|refine L.nil ?_|refine L.skip rfl ?_
    first | refine W.condT rfl ?_ | refine W.condF rfl ?_
    repeat first|refine W.g ?_|refine L.p rfl rfl ?_|refine L.nil ?_|refine L.skip rfl ?_
    refine L.fmul z1 rfl rfl rfl ?_
    repeat first|refine L.p rfl rfl ?_|refine L.nil ?_|refine W.g ?_
    refine L.fmul z2 rfl rfl rfl ?_
    repeat first|refine L.p rfl rfl ?_|refine L.nil ?_|refine W.g ?_
    refine L.fsub z3 rfl rfl rfl ?_
    repeat first|refine L.p rfl rfl ?_|refine L.nil ?_|refine W.g ?_
    refine L.fmul z4 rfl rfl rfl ?_
    repeat first|refine L.p rfl rfl ?_|refine L.nil ?_|refine W.g ?_
    refine L.ld (a := ⟨_, 0, none⟩) (cell_of hrc (hcc 0 _ rfl) (.inr rfl)) rfl rfl rfl ?_
    repeat first|refine L.p rfl rfl ?_|refine L.nil ?_|refine W.g ?_
    refine L.fmul c1 rfl rfl rfl ?_
    repeat first|refine L.p rfl rfl ?_|refine L.nil ?_|refine W.g ?_
    refine L.ld (a := ⟨_, 1, none⟩) (cell_of hrc (hcc 1 _ rfl) (.inr rfl)) rfl rfl rfl ?_
    repeat first|refine L.p rfl rfl ?_|refine L.nil ?_|refine W.g ?_
    refine L.fadd c2 rfl rfl rfl ?_
    repeat first|refine L.p rfl rfl ?_|refine L.nil ?_|refine W.g ?_
    refine L.fmul c3 rfl rfl rfl ?_
    repeat first|refine L.p rfl rfl ?_|refine L.nil ?_|refine W.g ?_
    refine L.ld (a := ⟨_, 2, none⟩) (cell_of hrc (hcc 2 _ rfl) (.inr rfl)) rfl rfl rfl ?_
    repeat first|refine L.p rfl rfl ?_|refine L.nil ?_|refine W.g ?_
    refine L.fadd c4 rfl rfl rfl ?_
    repeat first|refine L.p rfl rfl ?_|refine L.nil ?_|refine W.g ?_
    refine L.fmul c5 rfl rfl rfl ?_
    repeat first|refine L.p rfl rfl ?_|refine L.nil ?_|refine W.g ?_
    refine L.ld (a := ⟨_, 3, none⟩) (cell_of hrc (hcc 3 _ rfl) (.inr rfl)) rfl rfl rfl ?_
    repeat first|refine L.p rfl rfl ?_|refine L.nil ?_|refine W.g ?_
    refine L.fadd c6 rfl rfl rfl ?_
    repeat first|refine L.p rfl rfl ?_|refine L.nil ?_|refine W.g ?_
    refine L.fmul c7 rfl rfl rfl ?_
    repeat first|refine L.p rfl rfl ?_|refine L.nil ?_|refine W.g ?_
    refine L.ld (a := ⟨_, 4, none⟩) (cell_of hrc (hcc 4 _ rfl) (.inr rfl)) rfl rfl rfl ?_
    repeat first|refine L.p rfl rfl ?_|refine L.nil ?_|refine W.g ?_
    refine L.fadd c8 rfl rfl rfl ?_
    repeat first|refine L.p rfl rfl ?_|refine L.nil ?_|refine W.g ?_
    refine L.fmul c9 rfl rfl rfl ?_
    repeat first|refine L.p rfl rfl ?_|refine L.nil ?_|refine W.g ?_
    refine L.ld (a := ⟨_, 5, none⟩) (cell_of hrc (hcc 5 _ rfl) (.inr rfl)) rfl rfl rfl ?_
    repeat first|refine L.p rfl rfl ?_|refine L.nil ?_|refine W.g ?_
    refine L.fadd c10 rfl rfl rfl ?_
    repeat first|refine L.p rfl rfl ?_|refine L.nil ?_|refine W.g ?_
    refine L.fmul z5 rfl rfl rfl ?_
    repeat first|refine L.p rfl rfl ?_|refine L.nil ?_|refine W.g ?_
    refine L.fadd z6 rfl rfl rfl ?_
    repeat first|refine L.p rfl rfl ?_|refine L.nil ?_|refine W.g ?_
    refine L.fmul z7 rfl rfl rfl ?_
    repeat first|refine L.p rfl rfl ?_|refine L.nil ?_|refine W.g ?_
    refine L.ld (a := ⟨_, 0, none⟩) (cell_of hrs (hcs 0 _ rfl) (.inr rfl)) rfl rfl rfl ?_
    repeat first|refine L.p rfl rfl ?_|refine L.nil ?_|refine W.g ?_
    refine L.fmul s1 rfl rfl rfl ?_
    repeat first|refine L.p rfl rfl ?_|refine L.nil ?_|refine W.g ?_
    refine L.ld (a := ⟨_, 1, none⟩) (cell_of hrs (hcs 1 _ rfl) (.inr rfl)) rfl rfl rfl ?_
    repeat first|refine L.p rfl rfl ?_|refine L.nil ?_|refine W.g ?_
    refine L.fadd s2 rfl rfl rfl ?_
    repeat first|refine L.p rfl rfl ?_|refine L.nil ?_|refine W.g ?_
    refine L.fmul s3 rfl rfl rfl ?_
    repeat first|refine L.p rfl rfl ?_|refine L.nil ?_|refine W.g ?_
    refine L.ld (a := ⟨_, 2, none⟩) (cell_of hrs (hcs 2 _ rfl) (.inr rfl)) rfl rfl rfl ?_
    repeat first|refine L.p rfl rfl ?_|refine L.nil ?_|refine W.g ?_
    refine L.fadd s4 rfl rfl rfl ?_
    repeat first|refine L.p rfl rfl ?_|refine L.nil ?_|refine W.g ?_
    refine L.fmul s5 rfl rfl rfl ?_
    repeat first|refine L.p rfl rfl ?_|refine L.nil ?_|refine W.g ?_
    refine L.ld (a := ⟨_, 3, none⟩) (cell_of hrs (hcs 3 _ rfl) (.inr rfl)) rfl rfl rfl ?_
    repeat first|refine L.p rfl rfl ?_|refine L.nil ?_|refine W.g ?_
    refine L.fadd s6 rfl rfl rfl ?_
    repeat first|refine L.p rfl rfl ?_|refine L.nil ?_|refine W.g ?_
    refine L.fmul s7 rfl rfl rfl ?_
    repeat first|refine L.p rfl rfl ?_|refine L.nil ?_|refine W.g ?_
    refine L.ld (a := ⟨_, 4, none⟩) (cell_of hrs (hcs 4 _ rfl) (.inr rfl)) rfl rfl rfl ?_
    repeat first|refine L.p rfl rfl ?_|refine L.nil ?_|refine W.g ?_
    refine L.fadd s8 rfl rfl rfl ?_
    repeat first|refine L.p rfl rfl ?_|refine L.nil ?_|refine W.g ?_
    refine L.fmul s9 rfl rfl rfl ?_
    repeat first|refine L.p rfl rfl ?_|refine L.nil ?_|refine W.g ?_
    refine L.ld (a := ⟨_, 5, none⟩) (cell_of hrs (hcs 5 _ rfl) (.inr rfl)) rfl rfl rfl ?_
    repeat first|refine L.p rfl rfl ?_|refine L.nil ?_|refine W.g ?_
    refine L.fadd s10 rfl rfl rfl ?_
    repeat first|refine L.p rfl rfl ?_|refine L.nil ?_|refine W.g ?_
    refine L.fmul z8 rfl rfl rfl ?_
    repeat first|refine L.p rfl rfl ?_|refine L.nil ?_|refine W.g ?_
    refine L.fadd z9 rfl rfl rfl ?_
    repeat first|refine L.p rfl rfl ?_|refine L.nil ?_|refine W.g ?_
    first | refine W.condT rfl ?_ | refine W.condF rfl ?_
    repeat first|refine W.g ?_|refine L.p rfl rfl ?_|refine L.nil ?_|refine L.skip rfl ?_
    cases sg
    · first | refine W.condT rfl ?_ | refine W.condF rfl ?_
      repeat first|refine W.g ?_|refine L.p rfl rfl ?_|refine L.nil ?_|refine L.skip rfl ?_
      first | refine W.condT rfl ?_ | refine W.condF rfl ?_
      repeat first|refine W.g ?_|refine L.p rfl rfl ?_|refine L.nil ?_|refine L.skip rfl ?_
      exact ⟨.inr rfl, _, rfl, rfl, rfl⟩
    · first | refine W.condT rfl ?_ | refine W.condF rfl ?_
      repeat first|refine W.g ?_|refine L.p rfl rfl ?_|refine L.nil ?_|refine L.skip rfl ?_
      first | refine W.condT rfl ?_ | refine W.condF rfl ?_
      repeat first|refine W.g ?_|refine L.p rfl rfl ?_|refine L.nil ?_|refine L.skip rfl ?_
      exact ⟨.inr rfl, _, rfl, rfl, rfl⟩
  · obtain ⟨y, hy, rfl⟩ : ∃ y, Ieee.double.add (fNat 3) 4607182418800017408 = some y ∧ (4, y) = q := by
      have h0 : (Ieee.double.add (fNat 3) 4607182418800017408).map (fun y => ((3 + 1) % 8, y)) = some q := hoct
      rw [Option.map_eq_some_iff] at h0
      exact h0
    unfold restO dbl at hrest
    simp only [Option.bind_eq_some_iff] at hrest
    obtain ⟨u1, e1, u2, e2, u3, e3, u4, e4, u5, e5, e6⟩ := hrest
    have hsi := congrArg Prod.fst hsgn
    have hco := congrArg Prod.snd hsgn
    simp [signO] at hsi hco
    subst hsi hco
    repeat first|refine W.g ?_|refine L.p rfl rfl ?_|refine L.nil ?_|refine L.skip rfl ?_
    first | refine W.condT rfl ?_ | refine W.condF rfl ?_
    repeat first|refine W.g ?_|refine L.p rfl rfl ?_|refine L.nil ?_|refine L.skip rfl ?_
    refine L.fadd hy rfl rfl rfl ?_
    repeat first|refine L.p rfl rfl ?_|refine L.nil ?_|refine W.g ?_
    refine L.fmul e1 rfl rfl rfl ?_
    repeat first|refine L.p rfl rfl ?_|refine L.nil ?_|refine W.g ?_
    refine L.fsub e2 rfl rfl rfl ?_
    repeat first|refine L.p rfl rfl ?_|refine L.nil ?_|refine W.g ?_
    refine L.fmul e3 rfl rfl rfl ?_
    repeat first|refine L.p rfl rfl ?_|refine L.nil ?_|refine W.g ?_
    refine L.fsub e4 rfl rfl rfl ?_
    repeat first|refine L.p rfl rfl ?_|refine L.nil ?_|refine W.g ?_
    refine L.fmul e5 rfl rfl rfl ?_
    repeat first|refine L.p rfl rfl ?_|refine L.nil ?_|refine W.g ?_
    refine L.fsub e6 rfl rfl rfl ?_
    repeat first|refine L.p rfl rfl ?_|refine L.nil ?_|refine W.g ?_
    first | refine W.condT rfl ?_ | refine W.condF rfl ?_
    repeat first|refine W.g ?_|refine L.p rfl rfl ?_|refine L.nil ?_|refine L.skip rfl ?_
    first | refine W.condT rfl ?_ | refine W.condF rfl ?_
    repeat first|refine W.g ?_|refine L.p rfl rfl ?_|refine L.nil ?_|refine L.skip rfl ?_
    refine L.fmul z1 rfl rfl rfl ?_
    repeat first|refine L.p rfl rfl ?_|refine L.nil ?_|refine W.g ?_
    refine L.fmul z2 rfl rfl rfl ?_
    repeat first|refine L.p rfl rfl ?_|refine L.nil ?_|refine W.g ?_
    refine L.fsub z3 rfl rfl rfl ?_
    repeat first|refine L.p rfl rfl ?_|refine L.nil ?_|refine W.g ?_
    refine L.fmul z4 rfl rfl rfl ?_
    repeat first|refine L.p rfl rfl ?_|refine L.nil ?_|refine W.g ?_
    refine L.ld (a := ⟨_, 0, none⟩) (cell_of hrc (hcc 0 _ rfl) (.inr rfl)) rfl rfl rfl ?_
    repeat first|refine L.p rfl rfl ?_|refine L.nil ?_|refine W.g ?_
    refine L.fmul c1 rfl rfl rfl ?_
    repeat first|refine L.p rfl rfl ?_|refine L.nil ?_|refine W.g ?_
    refine L.ld (a := ⟨_, 1, none⟩) (cell_of hrc (hcc 1 _ rfl) (.inr rfl)) rfl rfl rfl ?_
    repeat first|refine L.p rfl rfl ?_|refine L.nil ?_|refine W.g ?_
    refine L.fadd c2 rfl rfl rfl ?_
    repeat first|refine L.p rfl rfl ?_|refine L.nil ?_|refine W.g ?_
    refine L.fmul c3 rfl rfl rfl ?_
    repeat first|refine L.p rfl rfl ?_|refine L.nil ?_|refine W.g ?_
    refine L.ld (a := ⟨_, 2, none⟩) (cell_of hrc (hcc 2 _ rfl) (.inr rfl)) rfl rfl rfl ?_
    repeat first|refine L.p rfl rfl ?_|refine L.nil ?_|refine W.g ?_
    refine L.fadd c4 rfl rfl rfl ?_
    repeat first|refine L.p rfl rfl ?_|refine L.nil ?_|refine W.g ?_
    refine L.fmul c5 rfl rfl rfl ?_
    repeat first|refine L.p rfl rfl ?_|refine L.nil ?_|refine W.g ?_
    refine L.ld (a := ⟨_, 3, none⟩) (cell_of hrc (hcc 3 _ rfl) (.inr rfl)) rfl rfl rfl ?_
    repeat first|refine L.p rfl rfl ?_|refine L.nil ?_|refine W.g ?_
    refine L.fadd c6 rfl rfl rfl ?_
    repeat first|refine L.p rfl rfl ?_|refine L.nil ?_|refine W.g ?_
    refine L.fmul c7 rfl rfl rfl ?_
    repeat first|refine L.p rfl rfl ?_|refine L.nil ?_|refine W.g ?_
    refine L.ld (a := ⟨_, 4, none⟩) (cell_of hrc (hcc 4 _ rfl) (.inr rfl)) rfl rfl rfl ?_
    repeat first|refine L.p rfl rfl ?_|refine L.nil ?_|refine W.g ?_
    refine L.fadd c8 rfl rfl rfl ?_
    repeat first|refine L.p rfl rfl ?_|refine L.nil ?_|refine W.g ?_
    refine L.fmul c9 rfl rfl rfl ?_
    repeat first|refine L.p rfl rfl ?_|refine L.nil ?_|refine W.g ?_
    refine L.ld (a := ⟨_, 5, none⟩) (cell_of hrc (hcc 5 _ rfl) (.inr rfl)) rfl rfl rfl ?_
    repeat first|refine L.p rfl rfl ?_|refine L.nil ?_|refine W.g ?_
    refine L.fadd c10 rfl rfl rfl ?_
    repeat first|refine L.p rfl rfl ?_|refine L.nil ?_|refine W.g ?_
    refine L.fmul z5 rfl rfl rfl ?_
    repeat first|refine L.p rfl rfl ?_|refine L.nil ?_|refine W.g ?_
    refine L.fadd z6 rfl rfl rfl ?_
    repeat first|refine L.p rfl rfl ?_|refine L.nil ?_|refine W.g ?_
    refine L.fmul z7 rfl rfl rfl ?_
    repeat first|refine L.p rfl rfl ?_|refine L.nil ?_|refine W.g ?_
    refine L.ld (a := ⟨_, 0, none⟩) (cell_of hrs (hcs 0 _ rfl) (.inr rfl)) rfl rfl rfl ?_
    repeat first|refine L.p rfl rfl ?_|refine L.nil ?_|refine W.g ?_
    refine L.fmul s1 rfl rfl rfl ?_
    repeat first|refine L.p rfl rfl ?_|refine L.nil ?_|refine W.g ?_
    refine L.ld (a := ⟨_, 1, none⟩) (cell_of hrs (hcs 1 _ rfl) (.inr rfl)) rfl rfl rfl ?_
    repeat first|refine L.p rfl rfl ?_|refine L.nil ?_|refine W.g ?_
    refine L.fadd s2 rfl rfl rfl ?_
    repeat first|refine L.p rfl rfl ?_|refine L.nil ?_|refine W.g ?_
    refine L.fmul s3 rfl rfl rfl ?_
    repeat first|refine L.p rfl rfl ?_|refine L.nil ?_|refine W.g ?_
    refine L.ld (a := ⟨_, 2, none⟩) (cell_of hrs (hcs 2 _ rfl) (.inr rfl)) rfl rfl rfl ?_
    repeat first|refine L.p rfl rfl ?_|refine L.nil ?_|refine W.g ?_
    refine L.fadd s4 rfl rfl rfl ?_
    repeat first|refine L.p rfl rfl ?_|refine L.nil ?_|refine W.g ?_
    refine L.fmul s5 rfl rfl rfl ?_
    repeat first|refine L.p rfl rfl ?_|refine L.nil ?_|refine W.g ?_
    refine L.ld (a := ⟨_, 3, none⟩) (cell_of hrs (hcs 3 _ rfl) (.inr rfl)) rfl rfl rfl ?_
    repeat first|refine L.p rfl rfl ?_|refine L.nil ?_|refine W.g ?_
    refine L.fadd s6 rfl rfl rfl ?_
    repeat first|refine L.p rfl rfl ?_|refine L.nil ?_|refine W.g ?_
    refine L.fmul s7 rfl rfl rfl ?_
    repeat first|refine L.p rfl rfl ?_|refine L.nil ?_|refine W.g ?_
    refine L.ld (a := ⟨_, 4, none⟩) (cell_of hrs (hcs 4 _ rfl) (.inr rfl)) rfl rfl rfl ?_
    repeat first|refine L.p rfl rfl ?_|refine L.nil ?_|refine W.g ?_
    refine L.fadd s8 rfl rfl rfl ?_
    repeat first|refine L.p rfl rfl ?_|refine L.nil ?_|refine W.g ?_
    refine L.fmul s9 rfl rfl rfl ?_
    repeat first|refine L.p rfl rfl ?_|refine L.nil ?_|refine W.g ?_
    refine L.ld (a := ⟨_, 5, none⟩) (cell_of hrs (hcs 5 _ rfl) (.inr rfl)) rfl rfl rfl ?_
    repeat first|refine L.p rfl rfl ?_|refine L.nil ?_|refine W.g ?_
    refine L.fadd s10 rfl rfl rfl ?_
    repeat first|refine L.p rfl rfl ?_|refine L.nil ?_|refine W.g ?_
    refine L.fmul z8 rfl rfl rfl ?_
    repeat first|refine L.p rfl rfl ?_|refine L.nil ?_|refine W.g ?_
    refine L.fadd z9 rfl rfl rfl ?_
    repeat first|refine L.p rfl rfl ?_|refine L.nil ?_|refine W.g ?_
    first | refine W.condT rfl ?_ | refine W.condF rfl ?_
    repeat first|refine W.g ?_|refine L.p rfl rfl ?_|refine L.nil ?_|refine L.skip rfl ?_
    cases sg
    · first | refine W.condT rfl ?_ | refine W.condF rfl ?_
      repeat first|refine W.g ?_|refine L.p rfl rfl ?_|refine L.nil ?_|refine L.skip rfl ?_
      first | refine W.condT rfl ?_ | refine W.condF rfl ?_
      repeat first|refine W.g ?_|refine L.p rfl rfl ?_|refine L.nil ?_|refine L.skip rfl ?_
      exact ⟨.inr rfl, _, rfl, rfl, rfl⟩
    · first | refine W.condT rfl ?_ | refine W.condF rfl ?_
      repeat first|refine W.g ?_|refine L.p rfl rfl ?_|refine L.nil ?_|refine L.skip rfl ?_
      first | refine W.condT rfl ?_ | refine W.condF rfl ?_
      repeat first|refine W.g ?_|refine L.p rfl rfl ?_|refine L.nil ?_|refine L.skip rfl ?_
      exact ⟨.inr rfl, _, rfl, rfl, rfl⟩
  · obtain ⟨y, hy0, rfl⟩ : ∃ y, y = fNat 4 ∧ (4, y) = q := by
      have h0 : some (4 % 8, fNat 4) = some q := hoct
      exact ⟨_, rfl, Option.some.inj h0⟩
    unfold restO dbl at hrest
    simp only [Option.bind_eq_some_iff] at hrest
    obtain ⟨u1, e1, u2, e2, u3, e3, u4, e4, u5, e5, e6⟩ := hrest
    have hsi := congrArg Prod.fst hsgn
    have hco := congrArg Prod.snd hsgn
    simp [signO] at hsi hco
    subst hsi hco
    subst hy0
    repeat first|refine W.g ?_|refine L.p rfl rfl ?_|refine L.nil ?_|refine L.skip rfl ?_
    first | refine W.condT rfl ?_ | refine W.condF rfl ?_
    repeat first|refine W.g ?_|refine L.p rfl rfl ?_|refine L.nil ?_|refine L.skip rfl ?_
    refine L.fmul e1 rfl rfl rfl ?_
    repeat first|refine L.p rfl rfl ?_|refine L.nil ?_|refine W.g ?_
    refine L.fsub e2 rfl rfl rfl ?_
    repeat first|refine L.p rfl rfl ?_|refine L.nil ?_|refine W.g ?_
    refine L.fmul e3 rfl rfl rfl ?_
    repeat first|refine L.p rfl rfl ?_|refine L.nil ?_|refine W.g ?_
    refine L.fsub e4 rfl rfl rfl ?_
    repeat first|refine L.p rfl rfl ?_|refine L.nil ?_|refine W.g ?_
    refine L.fmul e5 rfl rfl rfl ?_
    repeat first|refine L.p rfl rfl ?_|refine L.nil ?_|refine W.g ?_
    refine L.fsub e6 rfl rfl rfl ?_
    repeat first|refine L.p rfl rfl ?_|refine L.nil ?_|refine W.g ?_
    first | refine W.condT rfl ?_ | refine W.condF rfl ?_
    repeat first|refine W.g ?_|refine L.p rfl rfl ?_|refine L.nil ?_|refine L.skip rfl ?_
    first | refine W.condT rfl ?_ | refine W.condF rfl ?_
    repeat first|refine W.g ?_|refine L.p rfl rfl ?_|refine L.nil ?_|refine L.skip rfl ?_
    refine L.fmul z1 rfl rfl rfl ?_
    repeat first|refine L.p rfl rfl ?_|refine L.nil ?_|refine W.g ?_
    refine L.fmul z2 rfl rfl rfl ?_
    repeat first|refine L.p rfl rfl ?_|refine L.nil ?_|refine W.g ?_
    refine L.fsub z3 rfl rfl rfl ?_
    repeat first|refine L.p rfl rfl ?_|refine L.nil ?_|refine W.g ?_
    refine L.fmul z4 rfl rfl rfl ?_
    repeat first|refine L.p rfl rfl ?_|refine L.nil ?_|refine W.g ?_
    refine L.ld (a := ⟨_, 0, none⟩) (cell_of hrc (hcc 0 _ rfl) (.inr rfl)) rfl rfl rfl ?_
    repeat first|refine L.p rfl rfl ?_|refine L.nil ?_|refine W.g ?_
    refine L.fmul c1 rfl rfl rfl ?_
    repeat first|refine L.p rfl rfl ?_|refine L.nil ?_|refine W.g ?_
    refine L.ld (a := ⟨_, 1, none⟩) (cell_of hrc (hcc 1 _ rfl) (.inr rfl)) rfl rfl rfl ?_
    repeat first|refine L.p rfl rfl ?_|refine L.nil ?_|refine W.g ?_
    refine L.fadd c2 rfl rfl rfl ?_
    repeat first|refine L.p rfl rfl ?_|refine L.nil ?_|refine W.g ?_
    refine L.fmul c3 rfl rfl rfl ?_
    repeat first|refine L.p rfl rfl ?_|refine L.nil ?_|refine W.g ?_
    refine L.ld (a := ⟨_, 2, none⟩) (cell_of hrc (hcc 2 _ rfl) (.inr rfl)) rfl rfl rfl ?_
    repeat first|refine L.p rfl rfl ?_|refine L.nil ?_|refine W.g ?_
    refine L.fadd c4 rfl rfl rfl ?_
    repeat first|refine L.p rfl rfl ?_|refine L.nil ?_|refine W.g ?_
    refine L.fmul c5 rfl rfl rfl ?_
    repeat first|refine L.p rfl rfl ?_|refine L.nil ?_|refine W.g ?_
    refine L.ld (a := ⟨_, 3, none⟩) (cell_of hrc (hcc 3 _ rfl) (.inr rfl)) rfl rfl rfl ?_
    repeat first|refine L.p rfl rfl ?_|refine L.nil ?_|refine W.g ?_
    refine L.fadd c6 rfl rfl rfl ?_
    repeat first|refine L.p rfl rfl ?_|refine L.nil ?_|refine W.g ?_
    refine L.fmul c7 rfl rfl rfl ?_
    repeat first|refine L.p rfl rfl ?_|refine L.nil ?_|refine W.g ?_
    refine L.ld (a := ⟨_, 4, none⟩) (cell_of hrc (hcc 4 _ rfl) (.inr rfl)) rfl rfl rfl ?_
    repeat first|refine L.p rfl rfl ?_|refine L.nil ?_|refine W.g ?_
    refine L.fadd c8 rfl rfl rfl ?_
    repeat first|refine L.p rfl rfl ?_|refine L.nil ?_|refine W.g ?_
    refine L.fmul c9 rfl rfl rfl ?_
    repeat first|refine L.p rfl rfl ?_|refine L.nil ?_|refine W.g ?_
    refine L.ld (a := ⟨_, 5, none⟩) (cell_of hrc (hcc 5 _ rfl) (.inr rfl)) rfl rfl rfl ?_
    repeat first|refine L.p rfl rfl ?_|refine L.nil ?_|refine W.g ?_
    refine L.fadd c10 rfl rfl rfl ?_
    repeat first|refine L.p rfl rfl ?_|refine L.nil ?_|refine W.g ?_
    refine L.fmul z5 rfl rfl rfl ?_
    repeat first|refine L.p rfl rfl ?_|refine L.nil ?_|refine W.g ?_
    refine L.fadd z6 rfl rfl rfl ?_
    repeat first|refine L.p rfl rfl ?_|refine L.nil ?_|refine W.g ?_
    refine L.fmul z7 rfl rfl rfl ?_
    repeat first|refine L.p rfl rfl ?_|refine L.nil ?_|refine W.g ?_
    refine L.ld (a := ⟨_, 0, none⟩) (cell_of hrs (hcs 0 _ rfl) (.inr rfl)) rfl rfl rfl ?_
    repeat first|refine L.p rfl rfl ?_|refine L.nil ?_|refine W.g ?_
    refine L.fmul s1 rfl rfl rfl ?_
    repeat first|refine L.p rfl rfl ?_|refine L.nil ?_|refine W.g ?_
    refine L.ld (a := ⟨_, 1, none⟩) (cell_of hrs (hcs 1 _ rfl) (.inr rfl)) rfl rfl rfl ?_
    repeat first|refine L.p rfl rfl ?_|refine L.nil ?_|refine W.g ?_
    refine L.fadd s2 rfl rfl rfl ?_
    repeat first|refine L.p rfl rfl ?_|refine L.nil ?_|refine W.g ?_
    refine L.fmul s3 rfl rfl rfl ?_
    repeat first|refine L.p rfl rfl ?_|refine L.nil ?_|refine W.g ?_
    refine L.ld (a := ⟨_, 2, none⟩) (cell_of hrs (hcs 2 _ rfl) (.inr rfl)) rfl rfl rfl ?_
    repeat first|refine L.p rfl rfl ?_|refine L.nil ?_|refine W.g ?_
    refine L.fadd s4 rfl rfl rfl ?_
    repeat first|refine L.p rfl rfl ?_|refine L.nil ?_|refine W.g ?_
    refine L.fmul s5 rfl rfl rfl ?_
    repeat first|refine L.p rfl rfl ?_|refine L.nil ?_|refine W.g ?_
    refine L.ld (a := ⟨_, 3, none⟩) (cell_of hrs (hcs 3 _ rfl) (.inr rfl)) rfl rfl rfl ?_
    repeat first|refine L.p rfl rfl ?_|refine L.nil ?_|refine W.g ?_
    refine L.fadd s6 rfl rfl rfl ?_
    repeat first|refine L.p rfl rfl ?_|refine L.nil ?_|refine W.g ?_
    refine L.fmul s7 rfl rfl rfl ?_
    repeat first|refine L.p rfl rfl ?_|refine L.nil ?_|refine W.g ?_
    refine L.ld (a := ⟨_, 4, none⟩) (cell_of hrs (hcs 4 _ rfl) (.inr rfl)) rfl rfl rfl ?_
    repeat first|refine L.p rfl rfl ?_|refine L.nil ?_|refine W.g ?_
    refine L.fadd s8 rfl rfl rfl ?_
    repeat first|refine L.p rfl rfl ?_|refine L.nil ?_|refine W.g ?_
    refine L.fmul s9 rfl rfl rfl ?_
    repeat first|refine L.p rfl rfl ?_|refine L.nil ?_|refine W.g ?_
    refine L.ld (a := ⟨_, 5, none⟩) (cell_of hrs (hcs 5 _ rfl) (.inr rfl)) rfl rfl rfl ?_
    repeat first|refine L.p rfl rfl ?_|refine L.nil ?_|refine W.g ?_
    refine L.fadd s10 rfl rfl rfl ?_
    repeat first|refine L.p rfl rfl ?_|refine L.nil ?_|refine W.g ?_
    refine L.fmul z8 rfl rfl rfl ?_
    repeat first|refine L.p rfl rfl ?_|refine L.nil ?_|refine W.g ?_
    refine L.fadd z9 rfl rfl rfl ?_
    repeat first|refine L.p rfl rfl ?_|refine L.nil ?_|refine W.g ?_
    first | refine W.condT rfl ?_ | refine W.condF rfl ?_
    repeat first|refine W.g ?_|refine L.p rfl rfl ?_|refine L.nil ?_|refine L.skip rfl ?_
    cases sg
    · first | refine W.condT rfl ?_ | refine W.condF rfl ?_
      repeat first|refine W.g ?_|refine L.p rfl rfl ?_|refine L.nil ?_|refine L.skip rfl ?_
      first | refine W.condT rfl ?_ | refine W.condF rfl ?_
      repeat first|refine W.g ?_|refine L.p rfl rfl ?_|refine L.nil ?_|refine L.skip rfl ?_
      exact ⟨.inr rfl, _, rfl, rfl, rfl⟩
    · first | refine W.condT rfl ?_ | refine W.condF rfl ?_
      repeat first|refine W.g ?_|refine L.p rfl rfl ?_|refine L.nil ?_|refine L.skip rfl ?_
      first | refine W.condT rfl ?_ | refine W.condF rfl ?_
      repeat first|refine W.g ?_|refine L.p rfl rfl ?_|refine L.nil ?_|refine L.skip rfl ?_
      exact ⟨.inr rfl, _, rfl, rfl, rfl⟩
  · obtain ⟨y, hy, rfl⟩ : ∃ y, Ieee.double.add (fNat 5) 4607182418800017408 = some y ∧ (6, y) = q := by
      have h0 : (Ieee.double.add (fNat 5) 4607182418800017408).map (fun y => ((5 + 1) % 8, y)) = some q := hoct
      rw [Option.map_eq_some_iff] at h0
      exact h0
    unfold restO dbl at hrest
    simp only [Option.bind_eq_some_iff] at hrest
    obtain ⟨u1, e1, u2, e2, u3, e3, u4, e4, u5, e5, e6⟩ := hrest
    have hsi := congrArg Prod.fst hsgn
    have hco := congrArg Prod.snd hsgn
    simp [signO] at hsi hco
    subst hsi hco
    repeat first|refine W.g ?_|refine L.p rfl rfl ?_|refine L.nil ?_|refine L.skip rfl ?_
    first | refine W.condT rfl ?_ | refine W.condF rfl ?_
    repeat first|refine W.g ?_|refine L.p rfl rfl ?_|refine L.nil ?_|refine L.skip rfl ?_
    refine L.fadd hy rfl rfl rfl ?_
    repeat first|refine L.p rfl rfl ?_|refine L.nil ?_|refine W.g ?_
    refine L.fmul e1 rfl rfl rfl ?_
    repeat first|refine L.p rfl rfl ?_|refine L.nil ?_|refine W.g ?_
    refine L.fsub e2 rfl rfl rfl ?_
    repeat first|refine L.p rfl rfl ?_|refine L.nil ?_|refine W.g ?_
    refine L.fmul e3 rfl rfl rfl ?_
    repeat first|refine L.p rfl rfl ?_|refine L.nil ?_|refine W.g ?_
    refine L.fsub e4 rfl rfl rfl ?_
    repeat first|refine L.p rfl rfl ?_|refine L.nil ?_|refine W.g ?_
    refine L.fmul e5 rfl rfl rfl ?_
    repeat first|refine L.p rfl rfl ?_|refine L.nil ?_|refine W.g ?_
    refine L.fsub e6 rfl rfl rfl ?_
    repeat first|refine L.p rfl rfl ?_|refine L.nil ?_|refine W.g ?_
    first | refine W.condT rfl ?_ | refine W.condF rfl ?_
    repeat first|refine W.g ?_|refine L.p rfl rfl ?_|refine L.nil ?_|refine L.skip rfl ?_
    first | refine W.condT rfl ?_ | refine W.condF rfl ?_
    repeat first|refine W.g ?_|refine L.p rfl rfl ?_|refine L.nil ?_|refine L.skip rfl ?_
    refine L.fmul z1 rfl rfl rfl ?_
    repeat first|refine L.p rfl rfl ?_|refine L.nil ?_|refine W.g ?_
    refine L.fmul z2 rfl rfl rfl ?_
    repeat first|refine L.p rfl rfl ?_|refine L.nil ?_|refine W.g ?_
    refine L.fsub z3 rfl rfl rfl ?_
    repeat first|refine L.p rfl rfl ?_|refine L.nil ?_|refine W.g ?_
    refine L.fmul z4 rfl rfl rfl ?_
    repeat first|refine L.p rfl rfl ?_|refine L.nil ?_|refine W.g ?_
    refine L.ld (a := ⟨_, 0, none⟩) (cell_of hrc (hcc 0 _ rfl) (.inr rfl)) rfl rfl rfl ?_
    repeat first|refine L.p rfl rfl ?_|refine L.nil ?_|refine W.g ?_
    refine L.fmul c1 rfl rfl rfl ?_
    repeat first|refine L.p rfl rfl ?_|refine L.nil ?_|refine W.g ?_
    refine L.ld (a := ⟨_, 1, none⟩) (cell_of hrc (hcc 1 _ rfl) (.inr rfl)) rfl rfl rfl ?_
    repeat first|refine L.p rfl rfl ?_|refine L.nil ?_|refine W.g ?_
    refine L.fadd c2 rfl rfl rfl ?_
    repeat first|refine L.p rfl rfl ?_|refine L.nil ?_|refine W.g ?_
    refine L.fmul c3 rfl rfl rfl ?_
    repeat first|refine L.p rfl rfl ?_|refine L.nil ?_|refine W.g ?_
    refine L.ld (a := ⟨_, 2, none⟩) (cell_of hrc (hcc 2 _ rfl) (.inr rfl)) rfl rfl rfl ?_
    repeat first|refine L.p rfl rfl ?_|refine L.nil ?_|refine W.g ?_
    refine L.fadd c4 rfl rfl rfl ?_
    repeat first|refine L.p rfl rfl ?_|refine L.nil ?_|refine W.g ?_
    refine L.fmul c5 rfl rfl rfl ?_
    repeat first|refine L.p rfl rfl ?_|refine L.nil ?_|refine W.g ?_
    refine L.ld (a := ⟨_, 3, none⟩) (cell_of hrc (hcc 3 _ rfl) (.inr rfl)) rfl rfl rfl ?_
    repeat first|refine L.p rfl rfl ?_|refine L.nil ?_|refine W.g ?_
    refine L.fadd c6 rfl rfl rfl ?_
    repeat first|refine L.p rfl rfl ?_|refine L.nil ?_|refine W.g ?_
    refine L.fmul c7 rfl rfl rfl ?_
    repeat first|refine L.p rfl rfl ?_|refine L.nil ?_|refine W.g ?_
    refine L.ld (a := ⟨_, 4, none⟩) (cell_of hrc (hcc 4 _ rfl) (.inr rfl)) rfl rfl rfl ?_
    repeat first|refine L.p rfl rfl ?_|refine L.nil ?_|refine W.g ?_
    refine L.fadd c8 rfl rfl rfl ?_
    repeat first|refine L.p rfl rfl ?_|refine L.nil ?_|refine W.g ?_
    refine L.fmul c9 rfl rfl rfl ?_
    repeat first|refine L.p rfl rfl ?_|refine L.nil ?_|refine W.g ?_
    refine L.ld (a := ⟨_, 5, none⟩) (cell_of hrc (hcc 5 _ rfl) (.inr rfl)) rfl rfl rfl ?_
    repeat first|refine L.p rfl rfl ?_|refine L.nil ?_|refine W.g ?_
    refine L.fadd c10 rfl rfl rfl ?_
    repeat first|refine L.p rfl rfl ?_|refine L.nil ?_|refine W.g ?_
    refine L.fmul z5 rfl rfl rfl ?_
    repeat first|refine L.p rfl rfl ?_|refine L.nil ?_|refine W.g ?_
    refine L.fadd z6 rfl rfl rfl ?_
    repeat first|refine L.p rfl rfl ?_|refine L.nil ?_|refine W.g ?_
    refine L.fmul z7 rfl rfl rfl ?_
    repeat first|refine L.p rfl rfl ?_|refine L.nil ?_|refine W.g ?_
    refine L.ld (a := ⟨_, 0, none⟩) (cell_of hrs (hcs 0 _ rfl) (.inr rfl)) rfl rfl rfl ?_
    repeat first|refine L.p rfl rfl ?_|refine L.nil ?_|refine W.g ?_
    refine L.fmul s1 rfl rfl rfl ?_
    repeat first|refine L.p rfl rfl ?_|refine L.nil ?_|refine W.g ?_
    refine L.ld (a := ⟨_, 1, none⟩) (cell_of hrs (hcs 1 _ rfl) (.inr rfl)) rfl rfl rfl ?_
    repeat first|refine L.p rfl rfl ?_|refine L.nil ?_|refine W.g ?_
    refine L.fadd s2 rfl rfl rfl ?_
    repeat first|refine L.p rfl rfl ?_|refine L.nil ?_|refine W.g ?_
    refine L.fmul s3 rfl rfl rfl ?_
    repeat first|refine L.p rfl rfl ?_|refine L.nil ?_|refine W.g ?_
    refine L.ld (a := ⟨_, 2, none⟩) (cell_of hrs (hcs 2 _ rfl) (.inr rfl)) rfl rfl rfl ?_
    repeat first|refine L.p rfl rfl ?_|refine L.nil ?_|refine W.g ?_
    refine L.fadd s4 rfl rfl rfl ?_
    repeat first|refine L.p rfl rfl ?_|refine L.nil ?_|refine W.g ?_
    refine L.fmul s5 rfl rfl rfl ?_
    repeat first|refine L.p rfl rfl ?_|refine L.nil ?_|refine W.g ?_
    refine L.ld (a := ⟨_, 3, none⟩) (cell_of hrs (hcs 3 _ rfl) (.inr rfl)) rfl rfl rfl ?_
    repeat first|refine L.p rfl rfl ?_|refine L.nil ?_|refine W.g ?_
    refine L.fadd s6 rfl rfl rfl ?_
    repeat first|refine L.p rfl rfl ?_|refine L.nil ?_|refine W.g ?_
    refine L.fmul s7 rfl rfl rfl ?_
    repeat first|refine L.p rfl rfl ?_|refine L.nil ?_|refine W.g ?_
    refine L.ld (a := ⟨_, 4, none⟩) (cell_of hrs (hcs 4 _ rfl) (.inr rfl)) rfl rfl rfl ?_
    repeat first|refine L.p rfl rfl ?_|refine L.nil ?_|refine W.g ?_
    refine L.fadd s8 rfl rfl rfl ?_
    repeat first|refine L.p rfl rfl ?_|refine L.nil ?_|refine W.g ?_
    refine L.fmul s9 rfl rfl rfl ?_
    repeat first|refine L.p rfl rfl ?_|refine L.nil ?_|refine W.g ?_
    refine L.ld (a := ⟨_, 5, none⟩) (cell_of hrs (hcs 5 _ rfl) (.inr rfl)) rfl rfl rfl ?_
    repeat first|refine L.p rfl rfl ?_|refine L.nil ?_|refine W.g ?_
    refine L.fadd s10 rfl rfl rfl ?_
    repeat first|refine L.p rfl rfl ?_|refine L.nil ?_|refine W.g ?_
    refine L.fmul z8 rfl rfl rfl ?_
    repeat first|refine L.p rfl rfl ?_|refine L.nil ?_|refine W.g ?_
    refine L.fadd z9 rfl rfl rfl ?_
    repeat first|refine L.p rfl rfl ?_|refine L.nil ?_|refine W.g ?_
    first | refine W.condT rfl ?_ | refine W.condF rfl ?_
    repeat first|refine W.g ?_|refine L.p rfl rfl ?_|refine L.nil ?_|refine L.skip rfl ?_
    cases sg
    · first | refine W.condT rfl ?_ | refine W.condF rfl ?_
      repeat first|refine W.g ?_|refine L.p rfl rfl ?_|refine L.nil ?_|refine L.skip rfl ?_
      first | refine W.condT rfl ?_ | refine W.condF rfl ?_
      repeat first|refine W.g ?_|refine L.p rfl rfl ?_|refine L.nil ?_|refine L.skip rfl ?_
      exact ⟨.inr rfl, _, rfl, rfl, rfl⟩
    · first | refine W.condT rfl ?_ | refine W.condF rfl ?_
      repeat first|refine W.g ?_|refine L.p rfl rfl ?_|refine L.nil ?_|refine L.skip rfl ?_
      first | refine W.condT rfl ?_ | refine W.condF rfl ?_
      repeat first|refine W.g ?_|refine L.p rfl rfl ?_|refine L.nil ?_|refine L.skip rfl ?_
      exact ⟨.inr rfl, _, rfl, rfl, rfl⟩
  · obtain ⟨y, hy0, rfl⟩ : ∃ y, y = fNat 6 ∧ (6, y) = q := by
      have h0 : some (6 % 8, fNat 6) = some q := hoct
      exact ⟨_, rfl, Option.some.inj h0⟩
    unfold restO dbl at hrest
    simp only [Option.bind_eq_some_iff] at hrest
    obtain ⟨u1, e1, u2, e2, u3, e3, u4, e4, u5, e5, e6⟩ := hrest
    have hsi := congrArg Prod.fst hsgn
    have hco := congrArg Prod.snd hsgn
    simp [signO] at hsi hco
    subst hsi hco
    subst hy0
    repeat first|refine W.g ?_|refine L.p rfl rfl ?_|refine L.nil ?_|refine L.skip rfl ?_
    first | refine W.condT rfl ?_ | refine W.condF rfl ?_
    repeat first|refine W.g ?_|refine L.p rfl rfl ?_|refine L.nil ?_|refine L.skip rfl ?_
    refine L.fmul e1 rfl rfl rfl ?_
    repeat first|refine L.p rfl rfl ?_|refine L.nil ?_|refine W.g ?_
    refine L.fsub e2 rfl rfl rfl ?_
    repeat first|refine L.p rfl rfl ?_|refine L.nil ?_|refine W.g ?_
    refine L.fmul e3 rfl rfl rfl ?_
    repeat first|refine L.p rfl rfl ?_|refine L.nil ?_|refine W.g ?_
    refine L.fsub e4 rfl rfl rfl ?_
    repeat first|refine L.p rfl rfl ?_|refine L.nil ?_|refine W.g ?_
    refine L.fmul e5 rfl rfl rfl ?_
    repeat first|refine L.p rfl rfl ?_|refine L.nil ?_|refine W.g ?_
    refine L.fsub e6 rfl rfl rfl ?_
    repeat first|refine L.p rfl rfl ?_|refine L.nil ?_|refine W.g ?_
    first | refine W.condT rfl ?_ | refine W.condF rfl ?_
    repeat first|refine W.g ?_|refine L.p rfl rfl ?_|refine L.nil ?_|refine L.skip rfl ?_
    first | refine W.condT rfl ?_ | refine W.condF rfl ?_
    repeat first|refine W.g ?_|refine L.p rfl rfl ?_|refine L.nil ?_|refine L.skip rfl ?_
    refine L.fmul z1 rfl rfl rfl ?_
    repeat first|refine L.p rfl rfl ?_|refine L.nil ?_|refine W.g ?_
    refine L.fmul z2 rfl rfl rfl ?_
    repeat first|refine L.p rfl rfl ?_|refine L.nil ?_|refine W.g ?_
    refine L.fsub z3 rfl rfl rfl ?_
    repeat first|refine L.p rfl rfl ?_|refine L.nil ?_|refine W.g ?_
    refine L.fmul z4 rfl rfl rfl ?_
    repeat first|refine L.p rfl rfl ?_|refine L.nil ?_|refine W.g ?_
    refine L.ld (a := ⟨_, 0, none⟩) (cell_of hrc (hcc 0 _ rfl) (.inr rfl)) rfl rfl rfl ?_
    repeat first|refine L.p rfl rfl ?_|refine L.nil ?_|refine W.g ?_
    refine L.fmul c1 rfl rfl rfl ?_
    repeat first|refine L.p rfl rfl ?_|refine L.nil ?_|refine W.g ?_
    refine L.ld (a := ⟨_, 1, none⟩) (cell_of hrc (hcc 1 _ rfl) (.inr rfl)) rfl rfl rfl ?_
    repeat first|refine L.p rfl rfl ?_|refine L.nil ?_|refine W.g ?_
    refine L.fadd c2 rfl rfl rfl ?_
    repeat first|refine L.p rfl rfl ?_|refine L.nil ?_|refine W.g ?_
    refine L.fmul c3 rfl rfl rfl ?_
    repeat first|refine L.p rfl rfl ?_|refine L.nil ?_|refine W.g ?_
    refine L.ld (a := ⟨_, 2, none⟩) (cell_of hrc (hcc 2 _ rfl) (.inr rfl)) rfl rfl rfl ?_
    repeat first|refine L.p rfl rfl ?_|refine L.nil ?_|refine W.g ?_
    refine L.fadd c4 rfl rfl rfl ?_
    repeat first|refine L.p rfl rfl ?_|refine L.nil ?_|refine W.g ?_
    refine L.fmul c5 rfl rfl rfl ?_
    repeat first|refine L.p rfl rfl ?_|refine L.nil ?_|refine W.g ?_
    refine L.ld (a := ⟨_, 3, none⟩) (cell_of hrc (hcc 3 _ rfl) (.inr rfl)) rfl rfl rfl ?_
    repeat first|refine L.p rfl rfl ?_|refine L.nil ?_|refine W.g ?_
    refine L.fadd c6 rfl rfl rfl ?_
    repeat first|refine L.p rfl rfl ?_|refine L.nil ?_|refine W.g ?_
    refine L.fmul c7 rfl rfl rfl ?_
    repeat first|refine L.p rfl rfl ?_|refine L.nil ?_|refine W.g ?_
    refine L.ld (a := ⟨_, 4, none⟩) (cell_of hrc (hcc 4 _ rfl) (.inr rfl)) rfl rfl rfl ?_
    repeat first|refine L.p rfl rfl ?_|refine L.nil ?_|refine W.g ?_
    refine L.fadd c8 rfl rfl rfl ?_
    repeat first|refine L.p rfl rfl ?_|refine L.nil ?_|refine W.g ?_
    refine L.fmul c9 rfl rfl rfl ?_
    repeat first|refine L.p rfl rfl ?_|refine L.nil ?_|refine W.g ?_
    refine L.ld (a := ⟨_, 5, none⟩) (cell_of hrc (hcc 5 _ rfl) (.inr rfl)) rfl rfl rfl ?_
    repeat first|refine L.p rfl rfl ?_|refine L.nil ?_|refine W.g ?_
    refine L.fadd c10 rfl rfl rfl ?_
    repeat first|refine L.p rfl rfl ?_|refine L.nil ?_|refine W.g ?_
    refine L.fmul z5 rfl rfl rfl ?_
    repeat first|refine L.p rfl rfl ?_|refine L.nil ?_|refine W.g ?_
    refine L.fadd z6 rfl rfl rfl ?_
    repeat first|refine L.p rfl rfl ?_|refine L.nil ?_|refine W.g ?_
    refine L.fmul z7 rfl rfl rfl ?_
    repeat first|refine L.p rfl rfl ?_|refine L.nil ?_|refine W.g ?_
    refine L.ld (a := ⟨_, 0, none⟩) (cell_of hrs (hcs 0 _ rfl) (.inr rfl)) rfl rfl rfl ?_
    repeat first|refine L.p rfl rfl ?_|refine L.nil ?_|refine W.g ?_
    refine L.fmul s1 rfl rfl rfl ?_
    repeat first|refine L.p rfl rfl ?_|refine L.nil ?_|refine W.g ?_
    refine L.ld (a := ⟨_, 1, none⟩) (cell_of hrs (hcs 1 _ rfl) (.inr rfl)) rfl rfl rfl ?_
    repeat first|refine L.p rfl rfl ?_|refine L.nil ?_|refine W.g ?_
    refine L.fadd s2 rfl rfl rfl ?_
    repeat first|refine L.p rfl rfl ?_|refine L.nil ?_|refine W.g ?_
    refine L.fmul s3 rfl rfl rfl ?_
    repeat first|refine L.p rfl rfl ?_|refine L.nil ?_|refine W.g ?_
    refine L.ld (a := ⟨_, 2, none⟩) (cell_of hrs (hcs 2 _ rfl) (.inr rfl)) rfl rfl rfl ?_
    repeat first|refine L.p rfl rfl ?_|refine L.nil ?_|refine W.g ?_
    refine L.fadd s4 rfl rfl rfl ?_
    repeat first|refine L.p rfl rfl ?_|refine L.nil ?_|refine W.g ?_
    refine L.fmul s5 rfl rfl rfl ?_
    repeat first|refine L.p rfl rfl ?_|refine L.nil ?_|refine W.g ?_
    refine L.ld (a := ⟨_, 3, none⟩) (cell_of hrs (hcs 3 _ rfl) (.inr rfl)) rfl rfl rfl ?_
    repeat first|refine L.p rfl rfl ?_|refine L.nil ?_|refine W.g ?_
    refine L.fadd s6 rfl rfl rfl ?_
    repeat first|refine L.p rfl rfl ?_|refine L.nil ?_|refine W.g ?_
    refine L.fmul s7 rfl rfl rfl ?_
    repeat first|refine L.p rfl rfl ?_|refine L.nil ?_|refine W.g ?_
    refine L.ld (a := ⟨_, 4, none⟩) (cell_of hrs (hcs 4 _ rfl) (.inr rfl)) rfl rfl rfl ?_
    repeat first|refine L.p rfl rfl ?_|refine L.nil ?_|refine W.g ?_
    refine L.fadd s8 rfl rfl rfl ?_
    repeat first|refine L.p rfl rfl ?_|refine L.nil ?_|refine W.g ?_
    refine L.fmul s9 rfl rfl rfl ?_
    repeat first|refine L.p rfl rfl ?_|refine L.nil ?_|refine W.g ?_
    refine L.ld (a := ⟨_, 5, none⟩) (cell_of hrs (hcs 5 _ rfl) (.inr rfl)) rfl rfl rfl ?_
    repeat first|refine L.p rfl rfl ?_|refine L.nil ?_|refine W.g ?_
    refine L.fadd s10 rfl rfl rfl ?_
    repeat first|refine L.p rfl rfl ?_|refine L.nil ?_|refine W.g ?_
    refine L.fmul z8 rfl rfl rfl ?_
    repeat first|refine L.p rfl rfl ?_|refine L.nil ?_|refine W.g ?_
    refine L.fadd z9 rfl rfl rfl ?_
    repeat first|refine L.p rfl rfl ?_|refine L.nil ?_|refine W.g ?_
    first | refine W.condT rfl ?_ | refine W.condF rfl ?_
    repeat first|refine W.g ?_|refine L.p rfl rfl ?_|refine L.nil ?_|refine L.skip rfl ?_
    cases sg
    · first | refine W.condT rfl ?_ | refine W.condF rfl ?_
      repeat first|refine W.g ?_|refine L.p rfl rfl ?_|refine L.nil ?_|refine L.skip rfl ?_
      first | refine W.condT rfl ?_ | refine W.condF rfl ?_
      repeat first|refine W.g ?_|refine L.p rfl rfl ?_|refine L.nil ?_|refine L.skip rfl ?_
      exact ⟨.inr rfl, _, rfl, rfl, rfl⟩
    · first | refine W.condT rfl ?_ | refine W.condF rfl ?_
      repeat first|refine W.g ?_|refine L.p rfl rfl ?_|refine L.nil ?_|refine L.skip rfl ?_
      first | refine W.condT rfl ?_ | refine W.condF rfl ?_
      repeat first|refine W.g ?_|refine L.p rfl rfl ?_|refine L.nil ?_|refine L.skip rfl ?_
      exact ⟨.inr rfl, _, rfl, rfl, rfl⟩
  · obtain ⟨y, hy, rfl⟩ : ∃ y, Ieee.double.add (fNat 7) 4607182418800017408 = some y ∧ (0, y) = q := by
      have h0 : (Ieee.double.add (fNat 7) 4607182418800017408).map (fun y => ((7 + 1) % 8, y)) = some q := hoct
      rw [Option.map_eq_some_iff] at h0
      exact h0
    unfold restO dbl at hrest
    simp only [Option.bind_eq_some_iff] at hrest
    obtain ⟨u1, e1, u2, e2, u3, e3, u4, e4, u5, e5, e6⟩ := hrest
    have hsi := congrArg Prod.fst hsgn
    have hco := congrArg Prod.snd hsgn
    simp [signO] at hsi hco
    subst hsi hco
    repeat first|refine W.g ?_|refine L.p rfl rfl ?_|refine L.nil ?_|refine L.skip rfl ?_
    first | refine W.condT rfl ?_ | refine W.condF rfl ?_
    repeat first|refine W.g ?_|refine L.p rfl rfl ?_|refine L.nil ?_|refine L.skip rfl ?_
    refine L.fadd hy rfl rfl rfl ?_
    repeat first|refine L.p rfl rfl ?_|refine L.nil ?_|refine W.g ?_
    refine L.fmul e1 rfl rfl rfl ?_
    repeat first|refine L.p rfl rfl ?_|refine L.nil ?_|refine W.g ?_
    refine L.fsub e2 rfl rfl rfl ?_
    repeat first|refine L.p rfl rfl ?_|refine L.nil ?_|refine W.g ?_
    refine L.fmul e3 rfl rfl rfl ?_
    repeat first|refine L.p rfl rfl ?_|refine L.nil ?_|refine W.g ?_
    refine L.fsub e4 rfl rfl rfl ?_
    repeat first|refine L.p rfl rfl ?_|refine L.nil ?_|refine W.g ?_
    refine L.fmul e5 rfl rfl rfl ?_
    repeat first|refine L.p rfl rfl ?_|refine L.nil ?_|refine W.g ?_
    refine L.fsub e6 rfl rfl rfl ?_
    repeat first|refine L.p rfl rfl ?_|refine L.nil ?_|refine W.g ?_
    first | refine W.condT rfl ?_ | refine W.condF rfl ?_
    repeat first|refine W.g ?_|refine L.p rfl rfl ?_|refine L.nil ?_|refine L.skip rfl ?_
    first | refine W.condT rfl ?_ | refine W.condF rfl ?_
    repeat first|refine W.g ?_|refine L.p rfl rfl ?_|refine L.nil ?_|refine L.skip rfl ?_
    refine L.fmul z1 rfl rfl rfl ?_
    repeat first|refine L.p rfl rfl ?_|refine L.nil ?_|refine W.g ?_
    refine L.fmul z2 rfl rfl rfl ?_
    repeat first|refine L.p rfl rfl ?_|refine L.nil ?_|refine W.g ?_
    refine L.fsub z3 rfl rfl rfl ?_
    repeat first|refine L.p rfl rfl ?_|refine L.nil ?_|refine W.g ?_
    refine L.fmul z4 rfl rfl rfl ?_
    repeat first|refine L.p rfl rfl ?_|refine L.nil ?_|refine W.g ?_
    refine L.ld (a := ⟨_, 0, none⟩) (cell_of hrc (hcc 0 _ rfl) (.inr rfl)) rfl rfl rfl ?_
    repeat first|refine L.p rfl rfl ?_|refine L.nil ?_|refine W.g ?_
    refine L.fmul c1 rfl rfl rfl ?_
    repeat first|refine L.p rfl rfl ?_|refine L.nil ?_|refine W.g ?_
    refine L.ld (a := ⟨_, 1, none⟩) (cell_of hrc (hcc 1 _ rfl) (.inr rfl)) rfl rfl rfl ?_
    repeat first|refine L.p rfl rfl ?_|refine L.nil ?_|refine W.g ?_
    refine L.fadd c2 rfl rfl rfl ?_
    repeat first|refine L.p rfl rfl ?_|refine L.nil ?_|refine W.g ?_
    refine L.fmul c3 rfl rfl rfl ?_
    repeat first|refine L.p rfl rfl ?_|refine L.nil ?_|refine W.g ?_
    refine L.ld (a := ⟨_, 2, none⟩) (cell_of hrc (hcc 2 _ rfl) (.inr rfl)) rfl rfl rfl ?_
    repeat first|refine L.p rfl rfl ?_|refine L.nil ?_|refine W.g ?_
    refine L.fadd c4 rfl rfl rfl ?_
    repeat first|refine L.p rfl rfl ?_|refine L.nil ?_|refine W.g ?_
    refine L.fmul c5 rfl rfl rfl ?_
    repeat first|refine L.p rfl rfl ?_|refine L.nil ?_|refine W.g ?_
    refine L.ld (a := ⟨_, 3, none⟩) (cell_of hrc (hcc 3 _ rfl) (.inr rfl)) rfl rfl rfl ?_
    repeat first|refine L.p rfl rfl ?_|refine L.nil ?_|refine W.g ?_
    refine L.fadd c6 rfl rfl rfl ?_
    repeat first|refine L.p rfl rfl ?_|refine L.nil ?_|refine W.g ?_
    refine L.fmul c7 rfl rfl rfl ?_
    repeat first|refine L.p rfl rfl ?_|refine L.nil ?_|refine W.g ?_
    refine L.ld (a := ⟨_, 4, none⟩) (cell_of hrc (hcc 4 _ rfl) (.inr rfl)) rfl rfl rfl ?_
    repeat first|refine L.p rfl rfl ?_|refine L.nil ?_|refine W.g ?_
    refine L.fadd c8 rfl rfl rfl ?_
    repeat first|refine L.p rfl rfl ?_|refine L.nil ?_|refine W.g ?_
    refine L.fmul c9 rfl rfl rfl ?_
    repeat first|refine L.p rfl rfl ?_|refine L.nil ?_|refine W.g ?_
    refine L.ld (a := ⟨_, 5, none⟩) (cell_of hrc (hcc 5 _ rfl) (.inr rfl)) rfl rfl rfl ?_
    repeat first|refine L.p rfl rfl ?_|refine L.nil ?_|refine W.g ?_
    refine L.fadd c10 rfl rfl rfl ?_
    repeat first|refine L.p rfl rfl ?_|refine L.nil ?_|refine W.g ?_
    refine L.fmul z5 rfl rfl rfl ?_
    repeat first|refine L.p rfl rfl ?_|refine L.nil ?_|refine W.g ?_
    refine L.fadd z6 rfl rfl rfl ?_
    repeat first|refine L.p rfl rfl ?_|refine L.nil ?_|refine W.g ?_
    refine L.fmul z7 rfl rfl rfl ?_
    repeat first|refine L.p rfl rfl ?_|refine L.nil ?_|refine W.g ?_
    refine L.ld (a := ⟨_, 0, none⟩) (cell_of hrs (hcs 0 _ rfl) (.inr rfl)) rfl rfl rfl ?_
    repeat first|refine L.p rfl rfl ?_|refine L.nil ?_|refine W.g ?_
    refine L.fmul s1 rfl rfl rfl ?_
    repeat first|refine L.p rfl rfl ?_|refine L.nil ?_|refine W.g ?_
    refine L.ld (a := ⟨_, 1, none⟩) (cell_of hrs (hcs 1 _ rfl) (.inr rfl)) rfl rfl rfl ?_
    repeat first|refine L.p rfl rfl ?_|refine L.nil ?_|refine W.g ?_
    refine L.fadd s2 rfl rfl rfl ?_
    repeat first|refine L.p rfl rfl ?_|refine L.nil ?_|refine W.g ?_
    refine L.fmul s3 rfl rfl rfl ?_
    repeat first|refine L.p rfl rfl ?_|refine L.nil ?_|refine W.g ?_
    refine L.ld (a := ⟨_, 2, none⟩) (cell_of hrs (hcs 2 _ rfl) (.inr rfl)) rfl rfl rfl ?_
    repeat first|refine L.p rfl rfl ?_|refine L.nil ?_|refine W.g ?_
    refine L.fadd s4 rfl rfl rfl ?_
    repeat first|refine L.p rfl rfl ?_|refine L.nil ?_|refine W.g ?_
    refine L.fmul s5 rfl rfl rfl ?_
    repeat first|refine L.p rfl rfl ?_|refine L.nil ?_|refine W.g ?_
    refine L.ld (a := ⟨_, 3, none⟩) (cell_of hrs (hcs 3 _ rfl) (.inr rfl)) rfl rfl rfl ?_
    repeat first|refine L.p rfl rfl ?_|refine L.nil ?_|refine W.g ?_
    refine L.fadd s6 rfl rfl rfl ?_
    repeat first|refine L.p rfl rfl ?_|refine L.nil ?_|refine W.g ?_
    refine L.fmul s7 rfl rfl rfl ?_
    repeat first|refine L.p rfl rfl ?_|refine L.nil ?_|refine W.g ?_
    refine L.ld (a := ⟨_, 4, none⟩) (cell_of hrs (hcs 4 _ rfl) (.inr rfl)) rfl rfl rfl ?_
    repeat first|refine L.p rfl rfl ?_|refine L.nil ?_|refine W.g ?_
    refine L.fadd s8 rfl rfl rfl ?_
    repeat first|refine L.p rfl rfl ?_|refine L.nil ?_|refine W.g ?_
    refine L.fmul s9 rfl rfl rfl ?_
    repeat first|refine L.p rfl rfl ?_|refine L.nil ?_|refine W.g ?_
    refine L.ld (a := ⟨_, 5, none⟩) (cell_of hrs (hcs 5 _ rfl) (.inr rfl)) rfl rfl rfl ?_
    repeat first|refine L.p rfl rfl ?_|refine L.nil ?_|refine W.g ?_
    refine L.fadd s10 rfl rfl rfl ?_
    repeat first|refine L.p rfl rfl ?_|refine L.nil ?_|refine W.g ?_
    refine L.fmul z8 rfl rfl rfl ?_
    repeat first|refine L.p rfl rfl ?_|refine L.nil ?_|refine W.g ?_
    refine L.fadd z9 rfl rfl rfl ?_
    repeat first|refine L.p rfl rfl ?_|refine L.nil ?_|refine W.g ?_
    first | refine W.condT rfl ?_ | refine W.condF rfl ?_
    repeat first|refine W.g ?_|refine L.p rfl rfl ?_|refine L.nil ?_|refine L.skip rfl ?_
    cases sg
    · first | refine W.condT rfl ?_ | refine W.condF rfl ?_
      repeat first|refine W.g ?_|refine L.p rfl rfl ?_|refine L.nil ?_|refine L.skip rfl ?_
      first | refine W.condT rfl ?_ | refine W.condF rfl ?_
      repeat first|refine W.g ?_|refine L.p rfl rfl ?_|refine L.nil ?_|refine L.skip rfl ?_
      exact ⟨.inr rfl, _, rfl, rfl, rfl⟩
    · first | refine W.condT rfl ?_ | refine W.condF rfl ?_
      repeat first|refine W.g ?_|refine L.p rfl rfl ?_|refine L.nil ?_|refine L.skip rfl ?_
      first | refine W.condT rfl ?_ | refine W.condF rfl ?_
      repeat first|refine W.g ?_|refine L.p rfl rfl ?_|refine L.nil ?_|refine L.skip rfl ?_
      exact ⟨.inr rfl, _, rfl, rfl, rfl⟩
  · obtain ⟨y, hy0, rfl⟩ : ∃ y, y = fNat 8 ∧ (0, y) = q := by
      have h0 : some (8 % 8, fNat 8) = some q := hoct
      exact ⟨_, rfl, Option.some.inj h0⟩
    unfold restO dbl at hrest
    simp only [Option.bind_eq_some_iff] at hrest
    obtain ⟨u1, e1, u2, e2, u3, e3, u4, e4, u5, e5, e6⟩ := hrest
    have hsi := congrArg Prod.fst hsgn
    have hco := congrArg Prod.snd hsgn
    simp [signO] at hsi hco
    subst hsi hco
    subst hy0
    repeat first|refine W.g ?_|refine L.p rfl rfl ?_|refine L.nil ?_|refine L.skip rfl ?_
    first | refine W.condT rfl ?_ | refine W.condF rfl ?_
    repeat first|refine W.g ?_|refine L.p rfl rfl ?_|refine L.nil ?_|refine L.skip rfl ?_
    refine L.fmul e1 rfl rfl rfl ?_
    repeat first|refine L.p rfl rfl ?_|refine L.nil ?_|refine W.g ?_
    refine L.fsub e2 rfl rfl rfl ?_
    repeat first|refine L.p rfl rfl ?_|refine L.nil ?_|refine W.g ?_
    refine L.fmul e3 rfl rfl rfl ?_
    repeat first|refine L.p rfl rfl ?_|refine L.nil ?_|refine W.g ?_
    refine L.fsub e4 rfl rfl rfl ?_
    repeat first|refine L.p rfl rfl ?_|refine L.nil ?_|refine W.g ?_
    refine L.fmul e5 rfl rfl rfl ?_
    repeat first|refine L.p rfl rfl ?_|refine L.nil ?_|refine W.g ?_
    refine L.fsub e6 rfl rfl rfl ?_
    repeat first|refine L.p rfl rfl ?_|refine L.nil ?_|refine W.g ?_
    first | refine W.condT rfl ?_ | refine W.condF rfl ?_
    repeat first|refine W.g ?_|refine L.p rfl rfl ?_|refine L.nil ?_|refine L.skip rfl ?_
    first | refine W.condT rfl ?_ | refine W.condF rfl ?_
    repeat first|refine W.g ?_|refine L.p rfl rfl ?_|refine L.nil ?_|refine L.skip rfl ?_
    refine L.fmul z1 rfl rfl rfl ?_
    repeat first|refine L.p rfl rfl ?_|refine L.nil ?_|refine W.g ?_
    refine L.fmul z2 rfl rfl rfl ?_
    repeat first|refine L.p rfl rfl ?_|refine L.nil ?_|refine W.g ?_
    refine L.fsub z3 rfl rfl rfl ?_
    repeat first|refine L.p rfl rfl ?_|refine L.nil ?_|refine W.g ?_
    refine L.fmul z4 rfl rfl rfl ?_
    repeat first|refine L.p rfl rfl ?_|refine L.nil ?_|refine W.g ?_
    refine L.ld (a := ⟨_, 0, none⟩) (cell_of hrc (hcc 0 _ rfl) (.inr rfl)) rfl rfl rfl ?_
    repeat first|refine L.p rfl rfl ?_|refine L.nil ?_|refine W.g ?_
    refine L.fmul c1 rfl rfl rfl ?_
    repeat first|refine L.p rfl rfl ?_|refine L.nil ?_|refine W.g ?_
    refine L.ld (a := ⟨_, 1, none⟩) (cell_of hrc (hcc 1 _ rfl) (.inr rfl)) rfl rfl rfl ?_
    repeat first|refine L.p rfl rfl ?_|refine L.nil ?_|refine W.g ?_
    refine L.fadd c2 rfl rfl rfl ?_
    repeat first|refine L.p rfl rfl ?_|refine L.nil ?_|refine W.g ?_
    refine L.fmul c3 rfl rfl rfl ?_
    repeat first|refine L.p rfl rfl ?_|refine L.nil ?_|refine W.g ?_
    refine L.ld (a := ⟨_, 2, none⟩) (cell_of hrc (hcc 2 _ rfl) (.inr rfl)) rfl rfl rfl ?_
    repeat first|refine L.p rfl rfl ?_|refine L.nil ?_|refine W.g ?_
    refine L.fadd c4 rfl rfl rfl ?_
    repeat first|refine L.p rfl rfl ?_|refine L.nil ?_|refine W.g ?_
    refine L.fmul c5 rfl rfl rfl ?_
    repeat first|refine L.p rfl rfl ?_|refine L.nil ?_|refine W.g ?_
    refine L.ld (a := ⟨_, 3, none⟩) (cell_of hrc (hcc 3 _ rfl) (.inr rfl)) rfl rfl rfl ?_
    repeat first|refine L.p rfl rfl ?_|refine L.nil ?_|refine W.g ?_
    refine L.fadd c6 rfl rfl rfl ?_
    repeat first|refine L.p rfl rfl ?_|refine L.nil ?_|refine W.g ?_
    refine L.fmul c7 rfl rfl rfl ?_
    repeat first|refine L.p rfl rfl ?_|refine L.nil ?_|refine W.g ?_
    refine L.ld (a := ⟨_, 4, none⟩) (cell_of hrc (hcc 4 _ rfl) (.inr rfl)) rfl rfl rfl ?_
    repeat first|refine L.p rfl rfl ?_|refine L.nil ?_|refine W.g ?_
    refine L.fadd c8 rfl rfl rfl ?_
    repeat first|refine L.p rfl rfl ?_|refine L.nil ?_|refine W.g ?_
    refine L.fmul c9 rfl rfl rfl ?_
    repeat first|refine L.p rfl rfl ?_|refine L.nil ?_|refine W.g ?_
    refine L.ld (a := ⟨_, 5, none⟩) (cell_of hrc (hcc 5 _ rfl) (.inr rfl)) rfl rfl rfl ?_
    repeat first|refine L.p rfl rfl ?_|refine L.nil ?_|refine W.g ?_
    refine L.fadd c10 rfl rfl rfl ?_
    repeat first|refine L.p rfl rfl ?_|refine L.nil ?_|refine W.g ?_
    refine L.fmul z5 rfl rfl rfl ?_
    repeat first|refine L.p rfl rfl ?_|refine L.nil ?_|refine W.g ?_
    refine L.fadd z6 rfl rfl rfl ?_
    repeat first|refine L.p rfl rfl ?_|refine L.nil ?_|refine W.g ?_
    refine L.fmul z7 rfl rfl rfl ?_
    repeat first|refine L.p rfl rfl ?_|refine L.nil ?_|refine W.g ?_
    refine L.ld (a := ⟨_, 0, none⟩) (cell_of hrs (hcs 0 _ rfl) (.inr rfl)) rfl rfl rfl ?_
    repeat first|refine L.p rfl rfl ?_|refine L.nil ?_|refine W.g ?_
    refine L.fmul s1 rfl rfl rfl ?_
    repeat first|refine L.p rfl rfl ?_|refine L.nil ?_|refine W.g ?_
    refine L.ld (a := ⟨_, 1, none⟩) (cell_of hrs (hcs 1 _ rfl) (.inr rfl)) rfl rfl rfl ?_
    repeat first|refine L.p rfl rfl ?_|refine L.nil ?_|refine W.g ?_
    refine L.fadd s2 rfl rfl rfl ?_
    repeat first|refine L.p rfl rfl ?_|refine L.nil ?_|refine W.g ?_
    refine L.fmul s3 rfl rfl rfl ?_
    repeat first|refine L.p rfl rfl ?_|refine L.nil ?_|refine W.g ?_
    refine L.ld (a := ⟨_, 2, none⟩) (cell_of hrs (hcs 2 _ rfl) (.inr rfl)) rfl rfl rfl ?_
    repeat first|refine L.p rfl rfl ?_|refine L.nil ?_|refine W.g ?_
    refine L.fadd s4 rfl rfl rfl ?_
    repeat first|refine L.p rfl rfl ?_|refine L.nil ?_|refine W.g ?_
    refine L.fmul s5 rfl rfl rfl ?_
    repeat first|refine L.p rfl rfl ?_|refine L.nil ?_|refine W.g ?_
    refine L.ld (a := ⟨_, 3, none⟩) (cell_of hrs (hcs 3 _ rfl) (.inr rfl)) rfl rfl rfl ?_
    repeat first|refine L.p rfl rfl ?_|refine L.nil ?_|refine W.g ?_
    refine L.fadd s6 rfl rfl rfl ?_
    repeat first|refine L.p rfl rfl ?_|refine L.nil ?_|refine W.g ?_
    refine L.fmul s7 rfl rfl rfl ?_
    repeat first|refine L.p rfl rfl ?_|refine L.nil ?_|refine W.g ?_
    refine L.ld (a := ⟨_, 4, none⟩) (cell_of hrs (hcs 4 _ rfl) (.inr rfl)) rfl rfl rfl ?_
    repeat first|refine L.p rfl rfl ?_|refine L.nil ?_|refine W.g ?_
    refine L.fadd s8 rfl rfl rfl ?_
    repeat first|refine L.p rfl rfl ?_|refine L.nil ?_|refine W.g ?_
    refine L.fmul s9 rfl rfl rfl ?_
    repeat first|refine L.p rfl rfl ?_|refine L.nil ?_|refine W.g ?_
    refine L.ld (a := ⟨_, 5, none⟩) (cell_of hrs (hcs 5 _ rfl) (.inr rfl)) rfl rfl rfl ?_
    repeat first|refine L.p rfl rfl ?_|refine L.nil ?_|refine W.g ?_
    refine L.fadd s10 rfl rfl rfl ?_
    repeat first|refine L.p rfl rfl ?_|refine L.nil ?_|refine W.g ?_
    refine L.fmul z8 rfl rfl rfl ?_
    repeat first|refine L.p rfl rfl ?_|refine L.nil ?_|refine W.g ?_
    refine L.fadd z9 rfl rfl rfl ?_
    repeat first|refine L.p rfl rfl ?_|refine L.nil ?_|refine W.g ?_
    first | refine W.condT rfl ?_ | refine W.condF rfl ?_
    repeat first|refine W.g ?_|refine L.p rfl rfl ?_|refine L.nil ?_|refine L.skip rfl ?_
    cases sg
    · first | refine W.condT rfl ?_ | refine W.condF rfl ?_
      repeat first|refine W.g ?_|refine L.p rfl rfl ?_|refine L.nil ?_|refine L.skip rfl ?_
      first | refine W.condT rfl ?_ | refine W.condF rfl ?_
      repeat first|refine W.g ?_|refine L.p rfl rfl ?_|refine L.nil ?_|refine L.skip rfl ?_
      exact ⟨.inr rfl, _, rfl, rfl, rfl⟩
    · first | refine W.condT rfl ?_ | refine W.condF rfl ?_
      repeat first|refine W.g ?_|refine L.p rfl rfl ?_|refine L.nil ?_|refine L.skip rfl ?_
      first | refine W.condT rfl ?_ | refine W.condF rfl ?_
      repeat first|refine W.g ?_|refine L.p rfl rfl ?_|refine L.nil ?_|refine L.skip rfl ?_
      exact ⟨.inr rfl, _, rfl, rfl, rfl⟩
end Go.Proofs.YtbdnkneedengcaaGreatDoor
