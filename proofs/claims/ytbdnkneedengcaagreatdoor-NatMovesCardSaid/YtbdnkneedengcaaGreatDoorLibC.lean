/- What several proofs share, part 3: a model of memory, contracts of functions. Conditions: none. -/
import Derived.Test.YtbdnkneedengcaaGreatDoorLibB
import Derived.Laws.Strings
import Ieee.Arith
import Derived.Test.YtbdnkneedengcaaGreatDoorChecked
import Derived.KernelRfl

/- Pointers without a type; texts made of bytes that stay where they are. Conditions: none. -/
set_option linter.unusedSimpArgs false
set_option linter.unusedVariables false
namespace Go.Proofs.YtbdnkneedengcaaGreatDoor
open Go
section
variable {P : Program} {G : Nat} {Ext : FuncId → List Value → Mem → Outc → Mem → Prop} {e : Env} {S : Mem} {fl : Bool} {ops : Array Oper} {K : Kont}
variable {rest : List Oper} {dst : Option Tmp} {ty : TypeId} {pos : String} {af : Array Edge} {gd : Option (Nat × Bool)}
/-- an address in a row of ours, in the real memory -/
theorem addr_real {ρ : Nat → Option Loc} {w : World} {b : Nat} {r : Row} {v' : Value} (hS : SR ρ S w) (hr : S.row? b = some r) (h : VR ρ (.pointer (some ⟨b, 0, none⟩)) v') :
    ∃ L c fz, ρ b = some L ∧ v' = .pointer (some ⟨L.b, 0, none⟩) ∧ w.heap[L.b]? = some (.cells c r.elem fz) ∧ r.cells.length ≤ c.size ∧ (r.exact = true → c.size = r.cells.length) := by
  obtain ⟨hr1, hr2⟩ := Mem.row?_some hr
  obtain ⟨L, hL, ⟨c, fz, h1, h2, h3, _⟩⟩ := hS.live _ _ hr1 hr2
  cases h with
  | ptr _ a' k1 k2 k3 =>
    obtain ⟨L', l1, l2⟩ := k1
    dsimp only at l1
    rw [hL] at l1; cases l1
    refine ⟨L, c, fz, hL, ?_, h1, h2, h3⟩
    cases a' with
    | mk blk off spot => dsimp only at k2 k3 l2; subst k2 k3 l2; rfl
theorem shape_real {w : World} {b : Nat} {c : Array Value} {el : TypeId} {fz : Nat × Nat} (h : w.heap[b]? = some (.cells c el fz)) : w.shape? b = some (el, c.size) := by unfold World.shape?; rw [h]
theorem sim_unsafe1 {s d t0 : TypeId} {x : Operand} {b : Nat} {r : Row} {i : TypeInfo} (hs : P.underlying s = some (.pointer t0)) (hd : P.underlying d = some .unsafePointer) (hi : P.info? t0 = some i) (hi0 : i.size ≠ 0) (hx : e.eval x = .pointer (some ⟨b, 0, none⟩)) (hr : S.row? b = some r) (hlen : 0 < r.cells.length) :
    OpSim P G ⟨dst, .convert s d x, ty, pos, af, gd⟩ e S (.pointer (some ⟨b, 0, none⟩)) S := fun ρ a w K Q hv hS hG hK => by
  have h1 := hv x (by simp [Op.operands])
  rw [hx] at h1
  obtain ⟨L, c, fz, hL, h2, h3, h4, _⟩ := addr_real hS hr h1
  have hsh := shape_real h3
  have hrun : (execOp a.eval ⟨dst, .convert s d x, ty, pos, af, gd⟩).run P w = .ok (.value (.pointer (some ⟨L.b, 0, none⟩))) w := by
    have hc : (decide (0 ≥ c.size)) = false := decide_eq_false (by omega)
    simp [execOp, convert, h2, underlying, hs, hd, Conv.unsafePointer, Conv.seenAt, viewAt, cellsIn, shape, Sem.run, hsh, sizeOf, typeInfo, hi, hi0]
    intro h0
    rw [h0] at h4
    have : r.cells.length ≤ 0 := h4
    omega
  exact wp_value hrun (hK _ ρ _ (.ptr _ _ ⟨L, hL, rfl⟩ rfl rfl) hS (Stp.refl _ _ _))
theorem sim_unsafe2 {s d u : TypeId} {x : Operand} {b : Nat} {r : Row} {i : TypeInfo} (hs : P.underlying s = some .unsafePointer) (hd : P.underlying d = some (.pointer u)) (hi : P.info? u = some i) (hx : e.eval x = .pointer (some ⟨b, 0, none⟩)) (hr : S.row? b = some r) (hex : r.exact = true)
    (hlies : liesAt P P.depth r.elem (r.cells.length / P.cellsOf r.elem) 0 u 1 = true) : OpSim P G ⟨dst, .convert s d x, ty, pos, af, gd⟩ e S (.pointer (some ⟨b, 0, none⟩)) S := fun ρ a w K Q hv hS hG hK => by
  have h1 := hv x (by simp [Op.operands])
  rw [hx] at h1
  obtain ⟨L, c, fz, hL, h2, h3, h4, h5⟩ := addr_real hS hr h1
  have hsh := shape_real h3
  have hrun : (execOp a.eval ⟨dst, .convert s d x, ty, pos, af, gd⟩).run P w = .ok (.value (.pointer (some ⟨L.b, 0, none⟩))) w := by
    simp [execOp, convert, h2, underlying, hs, hd, Conv.unsafePointer, Conv.seenAt, viewAt, cellsIn, shape, Sem.run, hsh, sizeOf, typeInfo, hi, variablesAt, h5 hex, hlies]
  exact wp_value hrun (hK _ ρ _ (.ptr _ _ ⟨L, hL, rfl⟩ rfl rfl) hS (Stp.refl _ _ _))
/-- an address asked whether it is itself -/
theorem psim_same {t t0 yt : TypeId} {x y : Operand} {a : Addr} {i : TypeInfo} (op : BinOp) (hop : op = .eql ∨ op = .neq) (hu : P.underlying t = some (.pointer t0)) (hi : P.info? t0 = some i) (hi0 : i.size ≠ 0) (hx : e.eval x = .pointer (some a)) (hy : e.eval y = .pointer (some a)) :
    PSim P ⟨dst, .binOp op t x y yt, ty, pos, af, gd⟩ e.eval (.bool (if op = .eql then true else false)) := fun ρ ev' hv => by
  have h1 := hv x (by simp [Op.operands])
  have h2 := hv y (by simp [Op.operands])
  rw [hx] at h1
  rw [hy] at h2
  obtain ⟨b, h3, h4⟩ : ∃ b, ev' x = .pointer (some b) ∧ ev' y = .pointer (some b) := by
    generalize ev' x = u at h1
    generalize ev' y = v at h2
    cases h1 with
    | ptr _ b k1 k2 k3 =>
      cases h2 with
      | ptr _ c l1 l2 l3 =>
        refine ⟨b, rfl, ?_⟩
        obtain ⟨L, p1, p2⟩ := k1
        obtain ⟨M, q1, q2⟩ := l1
        rw [p1] at q1; cases q1
        cases b; cases c
        simp_all
  refine ⟨_, .bool _, fun w => pureRun_sound ?_ w⟩
  have he : pureRun P (Op.equal t (.pointer (some b)) (.pointer (some b))) = some true := by
    rw [equal_unf]; unfold Op.equalIn
    rw [pureRun_bind, pureRun_underlying hu]
    simp [pureRun_bind, sizeOf, typeInfo, program, hi, hi0, sameAddr, pureRun]
  rcases hop with rfl | rfl
  · simp only [execOp, h3, h4, pureRun_bind]
    have hg : pureRun P (eqGuard .eql t x y (.pointer (some b)) (.pointer (some b))) = some () := rfl
    have hb : binOp .eql t (.pointer (some b)) (.pointer (some b)) = (do pure (.bool (← Op.equal t (.pointer (some b)) (.pointer (some b))))) := rfl
    simp only [hg, hb, pureRun_bind, he, Option.bind_some, pureRun_pure, if_true]
  · simp only [execOp, h3, h4, pureRun_bind]
    have hg : pureRun P (eqGuard .neq t x y (.pointer (some b)) (.pointer (some b))) = some () := rfl
    have hb : binOp .neq t (.pointer (some b)) (.pointer (some b)) = (do pure (.bool (!(← Op.equal t (.pointer (some b)) (.pointer (some b)))))) := rfl
    simp only [hg, hb, pureRun_bind, he, Option.bind_some, pureRun_pure]
    rfl
/-- where a slice's cells lie -/
theorem psim_data {x : Operand} {ts : Array TypeId} {a : Addr} {n c : Nat} (hx : e.eval x = .slice (some a) n c) (hn : 0 < n) (hk : n ≤ knownCap c) :
    PSim P ⟨dst, .call ⟨.builtin .unsafeSliceData, #[x], ts⟩, ty, pos, af, gd⟩ e.eval (.pointer (some a)) := fun ρ ev' hv => by
  have h1 := hv x (by simp [Op.operands, Call.operands])
  rw [hx] at h1
  obtain ⟨b, c', h3, h4, h5⟩ : ∃ b c', ev' x = .slice (some b) n c' ∧ c' ≠ 0 ∧ VR ρ (.pointer (some a)) (.pointer (some b)) := by
    generalize ev' x = u at h1
    unfold knownCap at hk
    cases h1 with
    | sl _ b _ _ c' k1 k2 k3 k4 =>
      refine ⟨b, c', rfl, ?_, .ptr _ _ k1 k2 k3⟩
      split at hk
      · rename_i hc; have := k4.1 hc; omega
      · rename_i hc; have := (k4.2 (by omega)).1; omega
  refine ⟨_, h5, fun w => pureRun_sound ?_ w⟩
  have hb : Builtin.unsafeSliceData_ ts ty #[.slice (some b) n c'] = pure (.pointer (some b)) := by
    show (if c' ≠ 0 then _ else _) = _
    rw [if_pos h4]
  simp [execOp, resolve, h3, pureRun_bind, invoke, builtin, hb]
/-- a block that no row of ours reads any more may change -/
theorem SR.dead {ρ : Nat → Option Loc} {w w' : World} (h : SR ρ S w) {r : Nat} {x : Row} {L : Loc} (hx : S[r]? = some x) (hm : x.st = .moved) (hron : x.ro = none) (hL : ρ r = some L)
    (hfree : ∀ (q : Nat) (y : Row), At ρ q L.b → S[q]? = some y → y.st ≠ .live) (hcl : ∃ c e fz, w.heap[L.b]? = some (.cells c e fz))
    (hw : ∀ k, k ≠ L.b → w'.heap[k]? = w.heap[k]?) (hsz : w'.heap.size = w.heap.size) (htape : w'.tape = w.tape) (hos : w'.os = w.os) (hout : w'.output = w.output) : SR ρ S w' ∧ Stp ρ S w ρ S w' := by
  refine ⟨⟨fun q y hy hl => ?_, fun q M hM => ?_, h.inj, fun q y s p hy hit => ?_⟩, ⟨Sub.refl _, htape, hos, hout, by omega, fun b hb hq => hw b fun e => ?_, fun b hb hq => hq, fun b hb hq => hq⟩⟩
  · obtain ⟨M, m1, m2⟩ := h.live q y hy hl
    exact ⟨M, m1, m2.mono (Sub.refl _) (hw _ fun e => hfree q y ⟨M, m1, e⟩ hy hl)⟩
  · rw [hsz]; exact h.dom q M hM
  · obtain ⟨M, m1, m2, m3⟩ := h.iter q y s p hy hit
    obtain ⟨c, el, fz, hc⟩ := hcl
    exact ⟨M, m1, by rw [hw _ (fun e' => by rw [e', hc] at m2; cases m2)]; exact m2, m3⟩
  · obtain ⟨y, hy, hyo⟩ := hq r ⟨L, hL, e.symm⟩
    rw [hx] at hy; cases hy
    rw [hm, hron] at hyo
    exact hyo.elim nofun fun h => h rfl
/-- a text of these bytes -/
def strB (l : List (BitVec 8)) : ByteArray := ⟨(l.map fun x => UInt8.ofNat x.toNat).toArray⟩
theorem run_loadBytes {P : Program} {w : World} {b : Nat} : ∀ (l : List (BitVec 8)) (off : Nat) (acc : ByteArray), (∀ j x, l[j]? = some x → w.cell? ⟨b, off + j, none⟩ = some (.int .u8 x.toNat)) →
    (loadBytes ⟨b, off, none⟩ acc l.length).run P w = .ok ⟨acc.data ++ (l.map fun x => UInt8.ofNat x.toNat).toArray⟩ w
  | [], off, acc, _ => by simp [loadBytes]
  | x :: l, off, acc, h => by
    have h0 := h 0 x rfl
    rw [Nat.add_zero] at h0
    have ih := run_loadBytes (P := P) (w := w) (b := b) l (off + 1) (acc.push (UInt8.ofNat x.toNat)) (fun j y hj => by
      have := h (j + 1) y (by simpa using hj)
      rw [Nat.add_assoc, Nat.add_comm 1]; exact this)
    have hadd : Addr.add ⟨b, off, none⟩ 1 = ⟨b, off + 1, none⟩ := by simp [Addr.add]
    simp only [List.length_cons, loadBytes, Sem.run_bind, hadd]
    have hl : (load ⟨b, off, none⟩).run P w = .ok (.int .u8 x.toNat) w := by simp [h0]
    rw [hl]
    simp only [Result.andThen_ok, Int.toNat_natCast]
    have hu : x.toNat.toUInt8 = UInt8.ofNat x.toNat := rfl
    rw [hu, ih]
    simp [ByteArray.push]
theorem sim_string {x y : Operand} {ts : Array TypeId} {b pt u d : Nat} {r : Row} {l : List (BitVec 8)} {k : IntKind} (hx : e.eval x = .pointer (some ⟨b, 0, none⟩)) (hy : e.eval y = .int k (l.length : Int)) (hr : S.row? b = some r) (hro : r.ro = none) (hc : r.cells.take l.length = l.map fun x => Value.int .u8 x.toNat)
    (hn : 0 < l.length) (hn2 : l.length < 9223372036854775807) (hlen : l.length ≤ r.cells.length) (hit : r.it = none) (hts : ts[0]? = some pt) (hpt : P.underlying pt = some (.pointer u)) (hd : P.depth = d + 1) (hs : sameLayout P P.depth r.elem u = true) (h1 : P.cellsOf r.elem = 1) :
    OpSim P G ⟨dst, .call ⟨.builtin .unsafeString, #[x, y], ts⟩, ty, pos, af, gd⟩ e S (.string (strB l)) (S.set b { r with st := .moved }) := fun ρ a w K Q hv hS hG hK => by
  have m1 := hv x (by simp [Op.operands, Call.operands])
  have m2 := hv y (by simp [Op.operands, Call.operands])
  rw [hx] at m1
  rw [hy] at m2
  have m2 : a.eval y = .int k (l.length : Int) := m2.scalar_eq rfl
  obtain ⟨hr1, hr2⟩ := Mem.row?_some hr
  obtain ⟨L, c, fz, hL, g1, g2, g3, g4⟩ := addr_real hS hr m1
  obtain ⟨L', hL', ⟨c', fz', f1, f2, f3, f4, f5, f6, f7⟩⟩ := hS.live _ _ hr1 hr2
  rw [hL] at hL'; cases hL'
  rw [g2] at f1; cases f1
  have hsh := shape_real g2
  obtain ⟨kS, kT⟩ := hS.kill hr1 hr2 hro
  have hbl : b < S.length := row_live_lt hr1
  have hfree : ∀ (q : Nat) (y : Row), At ρ q L.b → (S.set b { r with st := .moved })[q]? = some y → y.st ≠ .live := fun q y hq hy hyl => by
    rw [List.getElem?_set] at hy
    by_cases e1 : b = q
    · subst e1; rw [if_pos rfl, if_pos hbl] at hy; cases hy; cases hyl
    · rw [if_neg e1] at hy
      exact e1 (hS.inj b q r y L.b ⟨L, hL, rfl⟩ hq hr1 hy hr2 hyl)
  have hmod : ∀ k, k ≠ L.b → (w.freeze ⟨L.b, 0, none⟩ l.length).heap[k]? = w.heap[k]? := fun k hk => by
    unfold World.freeze
    split
    · rfl
    · show (w.heap.modify _ _)[k]? = _
      rw [Array.getElem?_modify, if_neg (Ne.symm hk)]
  have hsz : (w.freeze ⟨L.b, 0, none⟩ l.length).heap.size = w.heap.size := by
    unfold World.freeze
    split
    · rfl
    · show (w.heap.modify _ _).size = _; simp
  have hrest : (w.freeze ⟨L.b, 0, none⟩ l.length).tape = w.tape ∧ (w.freeze ⟨L.b, 0, none⟩ l.length).os = w.os ∧ (w.freeze ⟨L.b, 0, none⟩ l.length).output = w.output := by
    unfold World.freeze
    split <;> exact ⟨rfl, rfl, rfl⟩
  obtain ⟨dS, dT⟩ := kS.dead (r := b) (x := { r with st := .moved }) (w' := w.freeze ⟨L.b, 0, none⟩ l.length) (by rw [List.getElem?_set, if_pos rfl, if_pos hbl]) rfl hro hL hfree ⟨_, _, _, g2⟩ hmod hsz hrest.1 hrest.2.1 hrest.2.2
  have hload := run_loadBytes (P := P) (w := w) (b := L.b) l 0 .empty (fun j z hj => by
    have hj1 : j < l.length := (List.getElem?_eq_some_iff.1 hj).1
    have : r.cells[j]? = some (.int .u8 z.toNat) := by
      have := congrArg (·[j]?) hc
      simp only [List.getElem?_take, if_pos hj1, List.getElem?_map, hj, Option.map_some] at this
      exact this
    rw [Nat.zero_add, cell_of_row w _ _ c r.elem fz g2]
    rcases f7 j _ this with ⟨q0, _⟩ | ⟨v', q1, q2⟩
    · exact absurd hro q0
    · rw [q1, q2.scalar_eq rfl])
  have hlies : liesAt P P.depth r.elem c.size 0 u l.length = true := by
    rw [hd, liesAt, hd, rowAt, ← hd]
    simp only [h1]
    rw [hs]
    have : l.length ≤ c.size := by omega
    simp [this]
  have hrun : (execOp a.eval ⟨dst, .call ⟨.builtin .unsafeString, #[x, y], ts⟩, ty, pos, af, gd⟩).run P w = .ok (.value (.string (strB l))) (w.freeze ⟨L.b, 0, none⟩ l.length) := by
    have hb : (Builtin.unsafeString_ ts ty #[.pointer (some ⟨L.b, 0, none⟩), .int k (l.length : Int)]).run P w = .ok (.string (strB l)) (w.freeze ⟨L.b, 0, none⟩ l.length) := by
      have e1 : ¬ ((l.length : Int) < 0) := by omega
      have e2 : ¬ ((l.length : Int) > IntKind.i64.max) := by show ¬ ((l.length : Int) > 9223372036854775807); omega
      have e3 : ¬ ((l.length : Int) = 0) := by omega
      have hld : (loadBytes ⟨L.b, 0, none⟩ .empty l.length).run P w = .ok (strB l) w := by
        rw [hload]
        have he : ByteArray.empty.data = #[] := rfl
        simp only [strB, he, Array.empty_append]
      have hva : (variablesAt ⟨L.b, 0, none⟩ u l.length).run P w = .ok true w := by
        simp [variablesAt, shape, Sem.run, hsh, h1, hlies]
      show Sem.run P (asInt (.int k (l.length : Int)) >>= _) w = _
      rw [Sem.run_bind]
      have ha : (asInt (.int k (l.length : Int))).run P w = .ok (l.length : Int) w := rfl
      rw [ha, Result.andThen_ok]
      simp only [hts]
      rw [if_neg e1, if_neg e2]
      show Sem.run P (if (l.length : Int) = 0 then _ else _) w = _
      rw [if_neg e3]
      have hel : (elemOf pt).run P w = .ok u w := by simp [elemOf, underlying, hpt]
      simp only [Sem.run_bind, hel, Result.andThen_ok, Int.toNat_natCast, hva, if_true, hld, run_freeze, Sem.run_pure]
    simp [execOp, resolve, g1, m2, invoke, builtin, hb]
  exact wp_value hrun (hK _ ρ _ (.string _) dS (kT.trans dT))
/-- a text of the bytes of a row that nobody asks any more -/
theorem L.string {x y : Operand} {ts : Array TypeId} {b pt u d : Nat} {r : Row} (l : List (BitVec 8)) {k : IntKind} (hw : awanted ops ⟨dst, .call ⟨.builtin .unsafeString, #[x, y], ts⟩, ty, pos, af, gd⟩ e = true) (hx : e.eval x = .pointer (some ⟨b, 0, none⟩)) (hy : e.eval y = .int k (l.length : Int)) (hr : S.row? b = some r) (hro : r.ro = none) (hc : r.cells.take l.length = l.map fun x => Value.int .u8 x.toNat)
    (hn : 0 < l.length) (hn2 : l.length < 9223372036854775807) (hlen : l.length ≤ r.cells.length) (hit : r.it = none) (hts : ts[0]? = some pt) (hpt : P.underlying pt = some (.pointer u)) (hd : P.depth = d + 1) (hs : sameLayout P P.depth r.elem u = true) (h1 : P.cellsOf r.elem = 1)
    (h : L P G Ext fl ops rest (e.put dst (.string (strB l))) (S.set b { r with st := .moved }) K) : L P G Ext fl ops (⟨dst, .call ⟨.builtin .unsafeString, #[x, y], ts⟩, ty, pos, af, gd⟩ :: rest) e S K :=
  L.sem hw (sim_string hx hy hr hro hc hn hn2 hlen hit hts hpt hd hs h1) (Nat.le_succ 2) (fun h => by rcases h with h | ⟨h, _⟩ <;> cases h) h
/-- no bytes -/
theorem psim_empty {x y : Operand} {ts : Array TypeId} {pt : TypeId} {k : IntKind} (hx : e.eval x = .pointer none) (hy : e.eval y = .int k 0) (hts : ts[0]? = some pt) : OpSim P G ⟨dst, .call ⟨.builtin .unsafeString, #[x, y], ts⟩, ty, pos, af, gd⟩ e S (.string (strB [])) S := fun ρ a w K Q hv hS hG hK => by
  have m1 := hv x (by simp [Op.operands, Call.operands])
  have m2 := hv y (by simp [Op.operands, Call.operands])
  rw [hx] at m1
  rw [hy] at m2
  have m2 : a.eval y = .int k 0 := m2.scalar_eq rfl
  have m1 : a.eval x = .pointer none := by
    generalize a.eval x = z at m1
    cases m1; rfl
  have hb : (Builtin.unsafeString_ ts ty #[.pointer none, .int k 0]).run P w = .ok (.string (strB [])) w := by
    show Sem.run P (asInt (.int k 0) >>= _) w = _
    rw [Sem.run_bind]
    have ha : (asInt (.int k 0)).run P w = .ok 0 w := rfl
    rw [ha, Result.andThen_ok]
    simp only [hts]
    rfl
  have hrun : (execOp a.eval ⟨dst, .call ⟨.builtin .unsafeString, #[x, y], ts⟩, ty, pos, af, gd⟩).run P w = .ok (.value (.string (strB []))) w := by
    simp [execOp, resolve, m1, m2, invoke, builtin, hb]
  exact wp_value hrun (hK _ ρ _ (.string _) hS (Stp.refl _ _ _))
theorem L.string0 {x y : Operand} {ts : Array TypeId} {pt : TypeId} {k : IntKind} (hw : awanted ops ⟨dst, .call ⟨.builtin .unsafeString, #[x, y], ts⟩, ty, pos, af, gd⟩ e = true) (hx : e.eval x = .pointer none) (hy : e.eval y = .int k 0) (hts : ts[0]? = some pt)
    (h : L P G Ext fl ops rest (e.put dst (.string (strB []))) S K) : L P G Ext fl ops (⟨dst, .call ⟨.builtin .unsafeString, #[x, y], ts⟩, ty, pos, af, gd⟩ :: rest) e S K :=
  L.sem hw (psim_empty hx hy hts) (Nat.le_succ 2) (fun h => by rcases h with h | ⟨h, _⟩ <;> cases h) h
end
end Go.Proofs.YtbdnkneedengcaaGreatDoor

/- Texts as lists of bytes. Conditions: none. -/
set_option linter.unusedSimpArgs false
set_option linter.unusedVariables false
set_option maxRecDepth 100000
namespace Go.Proofs.YtbdnkneedengcaaGreatDoor
open Go
theorem bytesOf_bv (l : BL) : bytesOf (bv l) = some (l.map fun x => UInt8.ofNat x.toNat) := by
  induction l with
  | nil => rfl
  | cons x l ih =>
    show (bytesOf (bv l)).map _ = _
    rw [ih]
    simp
theorem byte_back (x : BitVec 8) : (UInt8.ofNat x.toNat).toNat = x.toNat := by rw [UInt8.toNat_ofNat']; exact Nat.mod_eq_of_lt x.isLt
theorem strB_size (l : BL) : (strB l).size = l.length := by
  show ((l.map _).toArray).size = _
  simp
theorem strB_inj {a b : BL} (h : strB a = strB b) : a = b := by
  have h1 : (a.map fun x => UInt8.ofNat x.toNat) = b.map fun x => UInt8.ofNat x.toNat := by
    have := congrArg (fun s : ByteArray => s.data.toList) h
    simpa [strB] using this
  refine (List.map_inj_right (fun x y h => ?_)).1 h1
  have := congrArg UInt8.toNat h
  rw [byte_back, byte_back] at this
  exact BitVec.eq_of_toNat_eq this
theorem strB_app (a b : BL) : strB a ++ strB b = strB (a ++ b) := by
  apply ByteArray.ext
  rw [ByteArray.data_append]
  simp [strB]
section
variable {P : Program} {G : Nat} {Ext : FuncId → List Value → Mem → Outc → Mem → Prop} {e : Env} {S : Mem} {fl : Bool} {ops : Array Oper} {K : Kont}
variable {rest : List Oper} {dst : Option Tmp} {ty : TypeId} {pos : String} {af : Array Edge} {gd : Option (Nat × Bool)}
/-- bytes made a text -/
theorem L.text {s d : TypeId} {x : Operand} {h : Hd} {l : BL} {el el2 : TypeId} (hx : e.eval x = h.v) (hh : HdOk S el2 h (bv l)) (hs : P.underlying s = some (.slice el)) (hd : P.underlying d = some .string) (hel : isBytes P el = true)
    (hw : awanted ops ⟨dst, .convert s d x, ty, pos, af, gd⟩ e = true)
    (k : L P G Ext fl ops rest (e.put dst (.string (strB l))) S K) : L P G Ext fl ops (⟨dst, .convert s d x, ty, pos, af, gd⟩ :: rest) e S K := by
  obtain ⟨h1, ⟨h2, h3, h4⟩ | ⟨b, r, h2, h3, h4, h5, h6, h7⟩⟩ := hh
  · rw [bv_len] at h1
    have hn : l = [] := List.length_eq_zero_iff.1 (by omega)
    subst hn
    have hv : h.v = .slice none 0 0 := by unfold Hd.v; rw [h2, h3, h4]; rfl
    rw [hv] at hx
    refine L.psim (v := .string (strB [])) hw (fun ρ ev' hv => ?_) k
    have m := hv x (by simp [Op.operands])
    rw [hx] at m
    have m : ev' x = .slice none 0 0 := m.scalar_eq rfl
    refine ⟨_, .string _, fun w => ?_⟩
    have hby' : ∀ w, (underlying el).run P w = .ok (.int .u8) w := fun w => by
      unfold isBytes at hel
      split at hel
      · rename_i hq; exact run_underlying' hq w
      · cases hel
    have hcv : (convert s d (.slice none 0 0)).run P w = (Conv.bytesToString (.slice none 0 0)).run P w := by
      unfold convert
      simp only [Sem.run_bind, run_underlying' hs, run_underlying' hd, Result.andThen_ok, hby']
    simp only [execOp, m, Sem.run_bind, hcv]
    rfl
  · have hn : h.n = l.length := by rw [bv_len] at h1; omega
    have hv : h.v = .slice (some ⟨b, 0, none⟩) l.length h.c := by unfold Hd.v; rw [h2, hn]; rfl
    have hc : S.cellsAt ⟨b, 0, none⟩ l.length = some (bv l) := by
      unfold Mem.cellsAt
      simp only [h3]
      rw [if_pos ⟨trivial, by omega, .inl h4⟩]
      rw [List.drop_zero, ← hn, h6]
    refine L.load hw ?_ k
    unfold aload
    dsimp only
    rw [hx, hv, hs, hd]
    simp only [hel, if_true, hc, Option.bind_some, bytesOf_bv, Option.map_some]
    rfl
end
end Go.Proofs.YtbdnkneedengcaaGreatDoor

/- Texts: parts, comparing, joining; code inside a scope. Conditions: none. -/
set_option linter.unusedSimpArgs false
set_option linter.unusedVariables false
set_option maxRecDepth 100000
namespace Go.Proofs.YtbdnkneedengcaaGreatDoor
open Go
theorem strB_toList (l : BL) : (strB l).toList = l.map fun x => UInt8.ofNat x.toNat := by
  rw [ByteArray.toList_eq]; rfl
theorem strB_same (a b : BL) : ((strB a).toList == (strB b).toList) = decide (a = b) := by
  rw [strB_toList, strB_toList]
  by_cases h : a = b
  · subst h; simp
  · rw [decide_eq_false h]
    exact beq_eq_false_iff_ne.2 fun he => h (strB_inj (by unfold strB; rw [he]))
theorem strB_part (l : BL) (i j : Nat) : (strB l).extract i j = strB ((l.take j).drop i) := by
  apply ByteArray.ext
  rw [ByteArray.data_extract]
  show (l.map fun x => UInt8.ofNat x.toNat).toArray.extract i j = (((l.take j).drop i).map fun x => UInt8.ofNat x.toNat).toArray
  rw [List.extract_toArray, List.extract_eq_take_drop]
  congr 1
  rw [List.map_drop, List.map_take, List.drop_take]
section
variable {P : Program} {G : Nat} {Ext : FuncId → List Value → Mem → Outc → Mem → Prop} {e : Env} {S : Mem} {fl : Bool} {ops : Array Oper} {K : Kont}
variable {rest : List Oper} {dst : Option Tmp} {ty : TypeId} {pos : String} {af : Array Edge} {gd : Option (Nat × Bool)}
theorem W.scope {c : Code} {Q : Xit → Env → Mem → Prop} (h : W P G Ext c e S fun x e' S' => (∀ l, x ≠ .goto l) ∧ Q x e' S') : W P G Ext (.scope c) e S Q := by
  obtain ⟨x, e', S', h1, h2, h3⟩ := h
  exact ⟨x, e', S', .scope (.inScope h1 fun l hl => absurd hl (h2 l)), h3⟩
theorem L.flat {op : Op} {v : Value} (hf : op.operands.toList.all (fun x => flat (e.eval x)) = true) (hv : flat v = true) (hs : ∀ cs b, op ≠ .select cs b) (hp : pureRun P (execOp e.eval ⟨dst, op, ty, pos, af, gd⟩) = some (.value v)) (hw : awanted ops ⟨dst, op, ty, pos, af, gd⟩ e = true)
    (k : L P G Ext fl ops rest (e.put dst v) S K) : L P G Ext fl ops (⟨dst, op, ty, pos, af, gd⟩ :: rest) e S K := by
  refine L.psim hw (fun ρ ev' h => ?_) k
  refine aflat_sound hs ?_ h
  unfold aflat
  dsimp only
  rw [if_pos hf, hp]
  dsimp only
  rw [if_pos hv]
/-- a text's part: from i on -/
theorem L.from {t : TypeId} {x lo : Operand} {l : BL} {k : IntKind} {i : Nat} (hx : e.eval x = .string (strB l)) (hi : e.eval lo = .int k (i : Int)) (hb : i ≤ l.length) (hu : P.underlying t = some .string)
    (hw : awanted ops ⟨dst, .slice t x (some lo) none none, ty, pos, af, gd⟩ e = true) (h : L P G Ext fl ops rest (e.put dst (.string (strB (l.drop i)))) S K) : L P G Ext fl ops (⟨dst, .slice t x (some lo) none none, ty, pos, af, gd⟩ :: rest) e S K := by
  refine L.flat (by simp [Op.operands, hx, hi]; exact ⟨rfl, rfl⟩) rfl nofun ?_ hw h
  have h0 : (0 : Int) ≤ (i : Int) ∧ (i : Int) ≤ (l.length : Nat) := by omega
  have hb : pureRun P (Instr.sliceAt t (.string (strB l)) (some (.int k (i : Int))) none none) = some (.string (strB (l.drop i))) := by
    unfold Instr.sliceAt
    rw [pureRun_bind, pureRun_underlying hu]
    show pureRun P (Instr.slice t (.string (strB l)) (some (.int k (i : Int))) none none) = _
    unfold Instr.slice
    rw [pureRun_bind, pureRun_underlying hu]
    show pureRun P (Instr.sliceBounds false (strB l).size (strB l).size (some (.int k (i : Int))) none none >>= fun (l', h, _) => Pure.pure (Value.string ((strB l).extract l' h))) = _
    rw [pureRun_bind]
    have hs : pureRun P (Instr.sliceBounds false (strB l).size (strB l).size (some (.int k (i : Int))) none none) = some (i, (strB l).size, (strB l).size) := by
      unfold Instr.sliceBounds
      simp [pureRun_bind, Instr.sliceBound, asIntOf, h0, strB_size]
      rw [if_pos hb]; rfl
    rw [hs]
    show some (Value.string ((strB l).extract _ _)) = _
    rw [strB_part]
    simp [strB_size]
  simp only [execOp, hx, hi, Option.map_some, Option.map_none, pureRun_bind, hb]
  rfl
theorem L.upto {t : TypeId} {x hi : Operand} {l : BL} {k : IntKind} {i : Nat} (hx : e.eval x = .string (strB l)) (hi' : e.eval hi = .int k (i : Int)) (hb : i ≤ l.length) (hu : P.underlying t = some .string)
    (hw : awanted ops ⟨dst, .slice t x none (some hi) none, ty, pos, af, gd⟩ e = true) (h : L P G Ext fl ops rest (e.put dst (.string (strB (l.take i)))) S K) : L P G Ext fl ops (⟨dst, .slice t x none (some hi) none, ty, pos, af, gd⟩ :: rest) e S K := by
  refine L.flat (by simp [Op.operands, hx, hi']; exact ⟨rfl, rfl⟩) rfl nofun ?_ hw h
  have h0 : (0 : Int) ≤ (i : Int) ∧ (i : Int) ≤ (l.length : Nat) := by omega
  have hb : pureRun P (Instr.sliceAt t (.string (strB l)) none (some (.int k (i : Int))) none) = some (.string (strB (l.take i))) := by
    unfold Instr.sliceAt
    rw [pureRun_bind, pureRun_underlying hu]
    show pureRun P (Instr.slice t (.string (strB l)) none (some (.int k (i : Int))) none) = _
    unfold Instr.slice
    rw [pureRun_bind, pureRun_underlying hu]
    show pureRun P (Instr.sliceBounds false (strB l).size (strB l).size none (some (.int k (i : Int))) none >>= fun (l', h, _) => Pure.pure (Value.string ((strB l).extract l' h))) = _
    rw [pureRun_bind]
    have hs : pureRun P (Instr.sliceBounds false (strB l).size (strB l).size none (some (.int k (i : Int))) none) = some (0, i, (strB l).size) := by
      unfold Instr.sliceBounds
      simp [pureRun_bind, Instr.sliceBound, asIntOf, h0, strB_size]
      rw [if_pos hb]; rfl
    rw [hs]
    show some (Value.string ((strB l).extract _ _)) = _
    rw [strB_part]
    simp [strB_size]
  simp only [execOp, hx, hi', Option.map_some, Option.map_none, pureRun_bind, hb]
  rfl
/-- two texts joined -/
theorem L.tadd {t yt : TypeId} {x y : Operand} {a b : BL} (hx : e.eval x = .string (strB a)) (hy : e.eval y = .string (strB b)) (hl : a.length + b.length < 1000000000)
    (hw : awanted ops ⟨dst, .binOp .add t x y yt, ty, pos, af, gd⟩ e = true) (h : L P G Ext fl ops rest (e.put dst (.string (strB (a ++ b)))) S K) : L P G Ext fl ops (⟨dst, .binOp .add t x y yt, ty, pos, af, gd⟩ :: rest) e S K := by
  refine L.flat (by simp [Op.operands, hx, hy]; exact ⟨rfl, rfl⟩) rfl nofun ?_ hw h
  have hb : binOp .add t (.string (strB a)) (.string (strB b)) = Pure.pure (.string (strB (a ++ b))) := by
    show Op.stringOp .add _ _ = _
    unfold Op.stringOp
    have : ¬ (((strB a).size + (strB b).size : Nat) : Int) > IntKind.i64.max := by rw [strB_size, strB_size]; show ¬ (_ > (9223372036854775807 : Int)); omega
    simp only [this, if_false, strB_app]
  simp only [execOp, hx, hy, pureRun_bind, hb]
  rfl
/-- a text's length -/
theorem L.tlen {t : TypeId} {x : Operand} {a : BL} {ts : Array TypeId} (hx : e.eval x = .string (strB a)) (hts : ts[0]? = some t) (hu : P.underlying t = some .string)
    (hw : awanted ops ⟨dst, .call ⟨.builtin .len, #[x], ts⟩, ty, pos, af, gd⟩ e = true) (h : L P G Ext fl ops rest (e.put dst (vi a.length)) S K) : L P G Ext fl ops (⟨dst, .call ⟨.builtin .len, #[x], ts⟩, ty, pos, af, gd⟩ :: rest) e S K := by
  refine L.flat (by simp [Op.operands, Call.operands, hx]; rfl) rfl nofun ?_ hw h
  have hb : pureRun P (Builtin.len_ ts ty #[.string (strB a)]) = some (vi a.length) := by
    unfold Builtin.len_
    simp only [hts]
    show pureRun P (underlying t >>= _) = _
    rw [pureRun_bind, pureRun_underlying hu]
    show some (goInt (strB a).size) = _
    rw [strB_size]; rfl
  have hm : ∀ s : Sem Value, pureRun P s = some (vi a.length) → pureRun P (Next.value <$> s) = some (Next.value (vi a.length)) := fun s h => by
    rw [map_eq_pure_bind, pureRun_bind, h]; rfl
  simp [execOp, resolve, hx, pureRun_bind, invoke, builtin]
  exact hm _ hb
end
end Go.Proofs.YtbdnkneedengcaaGreatDoor

/- Doubles: the number that a word stands for; rounding. Conditions: none. -/
set_option linter.unusedSimpArgs false
set_option linter.unusedVariables false
namespace Go.Proofs.YtbdnkneedengcaaGreatDoor.Ie
open Ieee

/-- the number that a sign, a magnitude and a place stand for -/
def numR (s : Bool) (m : Nat) (p : Int) : Rat := (if s then -1 else 1) * ((m : Rat) * (2 : Rat) ^ p)
/-- a word stands for a number -/
def FV (w : Nat) (x : Rat) : Prop := ∃ s m p, double.read w = .number s m p ∧ x = numR s m p
/-- at most so far away -/
def Near (x v e : Rat) : Prop := v - e ≤ x ∧ x ≤ v + e
theorem two_pos (p : Int) : (0 : Rat) < (2 : Rat) ^ p := Rat.zpow_pos (by decide)
theorem two_add (p q : Int) : (2 : Rat) ^ (p + q) = 2 ^ p * 2 ^ q := Rat.zpow_add (by decide) p q
theorem two_nat (n : Nat) : (2 : Rat) ^ (n : Int) = ((2 ^ n : Nat) : Rat) := by
  rw [Rat.zpow_natCast, Rat.natCast_pow]; rfl
theorem dbl_binade : double.binade = 4503599627370496 := rfl
theorem dbl_inf : double.infRung = 9218868437227405312 := rfl
theorem dbl_sign : double.signWeight = 9223372036854775808 := rfl
theorem dbl_least : double.leastPlace = -1074 := rfl
theorem read_rung (s : Bool) {r : Nat} (h : r < 9218868437227405312) : double.read (double.word s r) = if r < 4503599627370496 then .number s r (-1074) else .number s (4503599627370496 + r % 4503599627370496) (-1074 + ((r / 4503599627370496 - 1 : Nat) : Int)) := by
  have h1 : double.word s r / 9223372036854775808 % 2 = if s then 1 else 0 := by
    unfold Format.word; rw [dbl_sign]
    cases s
    · show r / _ % 2 = 0; omega
    · show (9223372036854775808 + r) / _ % 2 = 1; omega
  have h2 : double.word s r % 9223372036854775808 = r := by
    unfold Format.word; rw [dbl_sign]
    cases s
    · show r % _ = r; omega
    · show (9223372036854775808 + r) % _ = r; omega
  unfold Format.read
  rw [dbl_sign, dbl_binade, dbl_inf, dbl_least, h1, h2]
  have h3 : ((if s = true then 1 else 0 : Nat) == 1) = s := by cases s <;> rfl
  rw [h3]
  by_cases h4 : r < 4503599627370496
  · rw [if_pos h4, if_pos h4]
  · rw [if_neg h4, if_neg h4, if_pos h]
theorem read_word (s : Bool) {e k : Nat} (hk : k ≤ 9007199254740992) (he : e ≤ 2044) (h0 : e = 0 ∨ 4503599627370496 ≤ k) :
    FV (double.word s (min (e * double.binade + k) double.infRung)) (numR s k ((e : Int) - 1074)) := by
  rw [dbl_binade, dbl_inf, Nat.min_eq_left (by omega)]
  have hr := read_rung s (r := e * 4503599627370496 + k) (by omega)
  by_cases h1 : e * 4503599627370496 + k < 4503599627370496
  · rw [if_pos h1] at hr
    have he0 : e = 0 := by omega
    subst he0
    refine ⟨s, _, _, hr, ?_⟩
    rw [Nat.zero_mul, Nat.zero_add]; rfl
  · rw [if_neg h1] at hr
    refine ⟨s, _, _, hr, ?_⟩
    by_cases h2 : k < 9007199254740992
    · rcases h0 with rfl | h0
      · rw [show (4503599627370496 + (0 * 4503599627370496 + k) % 4503599627370496) = k by omega, show (((0 * 4503599627370496 + k) / 4503599627370496 - 1 : Nat) : Int) = 0 by omega]; rfl
      · rw [show 4503599627370496 + (e * 4503599627370496 + k) % 4503599627370496 = k by omega, show (((e * 4503599627370496 + k) / 4503599627370496 - 1 : Nat) : Int) = e by omega, show (-1074 + (e : Int)) = (e : Int) - 1074 by omega]
    · have hk2 : k = 9007199254740992 := by omega
      subst hk2
      rw [show 4503599627370496 + (e * 4503599627370496 + 9007199254740992) % 4503599627370496 = 4503599627370496 by omega, show (((e * 4503599627370496 + 9007199254740992) / 4503599627370496 - 1 : Nat) : Int) = (e : Int) + 1 by omega, show (-1074 + ((e : Int) + 1)) = ((e : Int) - 1074) + 1 by omega]
      unfold numR
      rw [two_add ((e : Int) - 1074) 1]
      have : ((9007199254740992 : Nat) : Rat) = ((4503599627370496 : Nat) : Rat) * 2 := by decide +kernel
      rw [this, show (2 : Rat) ^ (1 : Int) = 2 from Rat.zpow_one 2]
      grind
/-- cutting is rounding -/
theorem cut_near (s : Bool) (n d : Nat) : 2 * (Toward.even.cut s n d * 2 ^ d) ≤ 2 * n + 2 ^ d ∧ 2 * n ≤ 2 * (Toward.even.cut s n d * 2 ^ d) + 2 ^ d := by
  unfold Toward.cut
  by_cases h : d ≤ n.log2 + 2
  · rw [Nat.min_eq_left h, Nat.one_shiftLeft]
    have hG : 0 < 2 ^ d := Nat.two_pow_pos d
    have h1 := Nat.div_add_mod n (2 ^ d)
    have h2 := Nat.mod_lt n hG
    generalize 2 ^ d = G at *
    dsimp only
    generalize n % G = R at *
    generalize n / G = Q at *
    rw [Nat.add_mul, Nat.mul_comm Q G]
    generalize G * Q = A at *
    cases hb : (decide (G < 2 * R) || (G == 2 * R && Q % 2 == 1)) with
    | true =>
      have : G ≤ 2 * R := by
        simp at hb; omega
      show 2 * (A + 1 * G) ≤ _ ∧ _ ≤ 2 * (A + 1 * G) + _
      omega
    | false =>
      have : 2 * R ≤ G := by
        simp at hb; omega
      show 2 * (A + 0 * G) ≤ _ ∧ _ ≤ 2 * (A + 0 * G) + _
      omega
  · rw [Nat.min_eq_right (by omega), Nat.one_shiftLeft]
    have h1 : n < 2 ^ (n.log2 + 1) := Nat.lt_log2_self
    have h2 : 2 ^ (n.log2 + 2) = 2 * 2 ^ (n.log2 + 1) := by rw [Nat.pow_succ]; omega
    have h3 : 2 ^ (n.log2 + 2) ≤ 2 ^ d := Nat.pow_le_pow_right (by omega) (by omega)
    dsimp only
    rw [Nat.div_eq_of_lt (by omega), Nat.mod_eq_of_lt (by omega)]
    cases hb : (decide (2 ^ (n.log2 + 2) < 2 * n) || (2 ^ (n.log2 + 2) == 2 * n && 0 % 2 == 1)) with
    | true => simp at hb; omega
    | false =>
      show 2 * ((0 + 0) * 2 ^ d) ≤ _ ∧ _ ≤ 2 * ((0 + 0) * 2 ^ d) + _
      omega
/-- half a unit of the last digit, in parts of the number -/
def eps : Rat := 1 / 9007199254740992
/-- a number that nothing here is near to -/
def tiny : Rat := 1 / 1606938044258990275541962092341162602522202993782792835301376
theorem eps_eq : (2 : Rat) ^ (-53 : Int) = eps := by decide +kernel
theorem tiny_le : (2 : Rat) ^ (-1075 : Int) ≤ tiny := by decide +kernel
theorem two_mono {p q : Int} (h : p ≤ q) : (2 : Rat) ^ p ≤ 2 ^ q := by
  obtain ⟨n, rfl⟩ : ∃ n : Nat, q = p + n := ⟨(q - p).toNat, by omega⟩
  rw [two_add, two_nat]
  have h1 : (1 : Rat) ≤ ((2 ^ n : Nat) : Rat) := by
    have : ((1 : Nat) : Rat) ≤ ((2 ^ n : Nat) : Rat) := Rat.natCast_le_natCast.2 Nat.one_le_two_pow
    exact this
  have h2 := two_pos p
  have := Rat.mul_le_mul_of_nonneg_left h1 (Rat.le_of_lt h2)
  rwa [Rat.mul_one] at this
theorem two_lt {p q : Int} (h : (2 : Rat) ^ p < 2 ^ q) : p < q := by
  refine Classical.byContradiction fun hc => ?_
  have := two_mono (p := q) (q := p) (by omega)
  exact Rat.not_le.2 h this
theorem numR_near {s : Bool} {x y e : Rat} (h : Near x y e) : Near ((if s then -1 else 1) * x) ((if s then -1 else 1) * y) e := by
  obtain ⟨h1, h2⟩ := h
  cases s
  · simp only [Bool.false_eq_true, if_false]; exact ⟨by grind, by grind⟩
  · simp only [if_true]; exact ⟨by grind, by grind⟩
theorem cast_le {a b : Nat} (h : a ≤ b) : (a : Rat) ≤ (b : Rat) := Rat.natCast_le_natCast.2 h
theorem nearest_near (s : Bool) (m : Nat) (p : Int) (h : (m : Rat) * 2 ^ p < 2 ^ (1023 : Int)) : ∃ x, FV (double.nearest s m p) x ∧ Near x (numR s m p) ((m : Rat) * 2 ^ p * eps + tiny) := by
  unfold Format.nearest
  by_cases hm : m = 0
  · subst hm
    rw [if_pos rfl]
    refine ⟨0, ⟨s, 0, -1074, ?_, ?_⟩, ?_⟩
    · have := read_rung s (r := 0) (by omega)
      rwa [if_pos (by omega)] at this
    · unfold numR; cases s <;> decide +kernel
    · unfold numR Near
      rw [show ((0 : Nat) : Rat) * (2 : Rat) ^ p = 0 from Rat.zero_mul _]
      have : (0 : Rat) ≤ tiny := by decide +kernel
      exact ⟨by grind, by grind⟩
  rw [if_neg hm]
  have hL1 := Nat.log2_self_le hm
  have hL2 : m < 2 ^ (m.log2 + 1) := Nat.lt_log2_self
  generalize m.log2 = L at *
  have hLp : (L : Int) + p < 1023 := by
    apply two_lt
    rw [two_add, two_nat]
    have := Rat.mul_le_mul_of_nonneg_right (cast_le hL1) (Rat.le_of_lt (two_pos p))
    grind
  rw [show (double.fractionBits : Int) = 52 from rfl, dbl_least]
  obtain ⟨e, he⟩ : ∃ e : Nat, max (p + (L : Int) - 52) (-1074) = (e : Int) - 1074 := ⟨(max (p + (L : Int) - 52) (-1074) + 1074).toNat, by omega⟩
  rw [he]
  dsimp only
  rw [show ((e : Int) - 1074 - -1074).toNat = e by omega]
  have he2 : e ≤ 2044 := by omega
  have he3 : e = 0 ∨ (e : Int) - 1074 = p + L - 52 := by omega
  have he4 : p + (L : Int) - 52 ≤ (e : Int) - 1074 := by omega
  by_cases hp : (e : Int) - 1074 ≤ p
  · obtain ⟨a, ha⟩ : ∃ a : Nat, p = (e : Int) - 1074 + a := ⟨(p - ((e : Int) - 1074)).toNat, by omega⟩
    rw [show (p - ((e : Int) - 1074)).toNat = a by omega, show ((e : Int) - 1074 - p).toNat = 0 by omega]
    obtain ⟨c1, c2⟩ := cut_near s (m <<< a) 0
    obtain ⟨k, hk⟩ : ∃ k, k = Toward.even.cut s (m <<< a) 0 := ⟨_, rfl⟩
    rw [← hk] at c1 c2 ⊢
    rw [Nat.pow_zero, Nat.mul_one] at c1 c2
    have hkm : k = m * 2 ^ a := by rw [← Nat.shiftLeft_eq]; omega
    have hb1 : k ≤ 9007199254740992 := by
      have h1 : m * 2 ^ a < 2 ^ (L + 1) * 2 ^ a := Nat.mul_lt_mul_of_pos_right hL2 (Nat.two_pow_pos a)
      rw [← Nat.pow_add] at h1
      have h2 : 2 ^ (L + 1 + a) ≤ 2 ^ 53 := Nat.pow_le_pow_right (by omega) (by omega)
      omega
    have hb2 : e = 0 ∨ 4503599627370496 ≤ k := by
      rcases he3 with h0 | h0
      · exact .inl h0
      · right
        have h1 : 2 ^ L * 2 ^ a ≤ m * 2 ^ a := Nat.mul_le_mul_right _ hL1
        rw [← Nat.pow_add, show L + a = 52 by omega] at h1
        omega
    refine ⟨_, read_word s hb1 he2 hb2, ?_⟩
    unfold numR
    refine numR_near ?_
    have hv : (k : Rat) * 2 ^ ((e : Int) - 1074) = (m : Rat) * 2 ^ p := by
      rw [hkm, ha, two_add, two_nat, Rat.natCast_mul]
      grind
    rw [hv]
    have h1 : (0 : Rat) ≤ (m : Rat) * 2 ^ p := Rat.mul_nonneg Rat.natCast_nonneg (Rat.le_of_lt (two_pos p))
    have h2 : (0 : Rat) ≤ (m : Rat) * 2 ^ p * eps := Rat.mul_nonneg h1 (by decide +kernel)
    have h3 : (0 : Rat) ≤ tiny := by decide +kernel
    exact ⟨by grind, by grind⟩
  · obtain ⟨d, hd⟩ : ∃ d : Nat, (e : Int) - 1074 = p + d := ⟨((e : Int) - 1074 - p).toNat, by omega⟩
    rw [show (p - ((e : Int) - 1074)).toNat = 0 by omega, show ((e : Int) - 1074 - p).toNat = d by omega, Nat.shiftLeft_zero]
    obtain ⟨c1, c2⟩ := cut_near s m d
    obtain ⟨k, hk⟩ : ∃ k, k = Toward.even.cut s m d := ⟨_, rfl⟩
    rw [← hk] at c1 c2 ⊢
    have hG := Nat.two_pow_pos d
    have hb1 : k ≤ 9007199254740992 := by
      have h2 : 2 ^ (L + 1) ≤ 2 ^ (53 + d) := Nat.pow_le_pow_right (by omega) (by omega)
      rw [Nat.pow_add 2 53 d] at h2
      refine Classical.byContradiction fun hc => ?_
      have h3 : 9007199254740993 * 2 ^ d ≤ k * 2 ^ d := Nat.mul_le_mul_right _ (by omega)
      generalize k * 2 ^ d = A at *
      generalize 2 ^ d = G at *
      omega
    have hb2 : e = 0 ∨ 4503599627370496 ≤ k := by
      rcases he3 with h0 | h0
      · exact .inl h0
      · right
        have h1 : 2 ^ L = 2 ^ (52 + d) := by congr 1; omega
        rw [Nat.pow_add 2 52 d] at h1
        refine Classical.byContradiction fun hc => ?_
        have h3 : k * 2 ^ d ≤ 4503599627370495 * 2 ^ d := Nat.mul_le_mul_right _ (by omega)
        generalize k * 2 ^ d = A at *
        generalize 2 ^ d = G at *
        omega
    refine ⟨_, read_word s hb1 he2 hb2, ?_⟩
    unfold numR
    refine numR_near ?_
    have hv : (k : Rat) * 2 ^ ((e : Int) - 1074) = ((k * 2 ^ d : Nat) : Rat) * 2 ^ p := by
      rw [hd, two_add, two_nat, Rat.natCast_mul]
      grind
    have hu : (2 : Rat) ^ ((e : Int) - 1074) = ((2 ^ d : Nat) : Rat) * 2 ^ p := by
      rw [hd, two_add, two_nat]
      grind
    have hm0 : (0 : Rat) ≤ (m : Rat) * 2 ^ p := Rat.mul_nonneg Rat.natCast_nonneg (Rat.le_of_lt (two_pos p))
    have he0 : (0 : Rat) ≤ (m : Rat) * 2 ^ p * eps := Rat.mul_nonneg hm0 (by decide +kernel)
    have ht0 : (0 : Rat) ≤ tiny := by decide +kernel
    have herr : (2 : Rat) ^ ((e : Int) - 1074) ≤ 2 * ((m : Rat) * 2 ^ p * eps + tiny) := by
      rcases he3 with h0 | h0
      · subst h0
        have h1 := tiny_le
        have h2 : (2 : Rat) ^ (((0 : Nat) : Int) - 1074) = 2 ^ (-1075 : Int) * 2 := by
          rw [show (((0 : Nat) : Int) - 1074) = -1075 + 1 by omega, two_add, show (2 : Rat) ^ (1 : Int) = 2 from Rat.zpow_one 2]
        rw [h2]; grind
      · rw [h0, show p + (L : Int) - 52 = ((L : Int) + p) + (-53) + 1 by omega, two_add, two_add, two_add, two_nat, show (2 : Rat) ^ (1 : Int) = 2 from Rat.zpow_one 2, eps_eq]
        have h1 := Rat.mul_le_mul_of_nonneg_right (cast_le hL1) (Rat.le_of_lt (two_pos p))
        have h2 := Rat.mul_le_mul_of_nonneg_right h1 (show (0 : Rat) ≤ eps by decide +kernel)
        grind
    rw [hv]
    have c1' := Rat.mul_le_mul_of_nonneg_right (cast_le c1) (Rat.le_of_lt (two_pos p))
    have c2' := Rat.mul_le_mul_of_nonneg_right (cast_le c2) (Rat.le_of_lt (two_pos p))
    rw [Rat.natCast_add, Rat.natCast_mul 2, Rat.natCast_mul 2] at c1' c2'
    rw [hu] at herr
    generalize ((k * 2 ^ d : Nat) : Rat) = A at *
    generalize ((2 ^ d : Nat) : Rat) = D at *
    generalize (2 : Rat) ^ p = T at *
    generalize (m : Rat) = M at *
    have e2 : ((2 : Nat) : Rat) = 2 := rfl
    rw [e2] at c1' c2'
    exact ⟨by grind, by grind⟩
end Go.Proofs.YtbdnkneedengcaaGreatDoor.Ie

/- Doubles: sums, products, near to what they should be. Conditions: none. -/
set_option linter.unusedSimpArgs false
set_option linter.unusedVariables false
namespace Go.Proofs.YtbdnkneedengcaaGreatDoor.Ie
open Ieee

theorem signed_val (s : Bool) (m up : Nat) : ((signed s m up : Int) : Rat) = (if s then -1 else 1) * ((m : Rat) * ((2 ^ up : Nat) : Rat)) := by
  unfold signed
  rw [Nat.shiftLeft_eq]
  cases s
  · simp only [Bool.false_eq_true, if_false]
    rw [Rat.intCast_natCast, Rat.natCast_mul]; grind
  · simp only [if_true]
    rw [Rat.intCast_neg, Rat.intCast_natCast, Rat.natCast_mul]; grind
theorem numR_up {s : Bool} {m : Nat} {p b : Int} (h : b ≤ p) : numR s m p = ((signed s m (p - b).toNat : Int) : Rat) * 2 ^ b := by
  rw [signed_val]
  obtain ⟨d, hd⟩ : ∃ d : Nat, p = b + d := ⟨(p - b).toNat, by omega⟩
  rw [show (p - b).toNat = d by omega, hd]
  unfold numR
  rw [two_add, two_nat]; grind
theorem abs_val (x : Int) : (if decide (x < 0) then -1 else 1 : Rat) * (x.natAbs : Rat) = (x : Rat) := by
  by_cases h : x < 0
  · rw [decide_eq_true h, if_pos rfl]
    have : x = -(x.natAbs : Int) := by omega
    conv => rhs; rw [this]
    rw [Rat.intCast_neg, Rat.intCast_natCast]; grind
  · rw [decide_eq_false h]
    simp only [Bool.false_eq_true, if_false]
    have : x = (x.natAbs : Int) := by omega
    conv => rhs; rw [this]
    rw [Rat.intCast_natCast]; grind
theorem sum_val (s t : Bool) (m n : Nat) (i j : Int) : ∃ u k b, (Datum.number s m i).sum (.number t n j) = some (.number u k b) ∧ numR u k b = numR s m i + numR t n j := by
  refine ⟨_, _, _, rfl, ?_⟩
  rw [numR_up (s := s) (m := m) (p := i) (b := min i j) (by omega), numR_up (s := t) (m := n) (p := j) (b := min i j) (by omega)]
  generalize signed s m (i - min i j).toNat = x
  generalize signed t n (j - min i j).toNat = y
  have h2 := abs_val (x + y)
  rw [Rat.intCast_add] at h2
  unfold numR
  by_cases h0 : x + y = 0
  · rw [if_pos h0, h0]
    have h3 : (x : Rat) + (y : Rat) = 0 := by rw [← Rat.intCast_add, h0]; rfl
    show _ * (((0 : Nat) : Rat) * _) = _
    have : ((0 : Nat) : Rat) = 0 := rfl
    rw [this]; grind
  · rw [if_neg h0]
    grind
theorem opp_val (s : Bool) (m : Nat) (p : Int) : numR (!s) m p = - numR s m p := by
  unfold numR; cases s
  · simp only [Bool.not_false, if_true, Bool.false_eq_true, if_false]; grind
  · simp only [Bool.not_true, if_true, Bool.false_eq_true, if_false]; grind
theorem mul_val (s t : Bool) (m n : Nat) (i j : Int) : numR (s ^^ t) (m * n) (i + j) = numR s m i * numR t n j := by
  unfold numR
  rw [two_add, Rat.natCast_mul]
  cases s <;> cases t <;> simp <;> grind
/-- a magnitude is the number without its sign -/
theorem mag_val {s : Bool} {m : Nat} {p : Int} {x B : Rat} (h : numR s m p = x) (h1 : -B ≤ x) (h2 : x ≤ B) : (m : Rat) * 2 ^ p ≤ B := by
  unfold numR at h
  cases s
  · simp only [Bool.false_eq_true, if_false] at h; grind
  · simp only [if_true] at h; grind
/-- greater numbers are not asked -/
def top : Rat := 1606938044258990275541962092341162602522202993782792835301376
theorem top_lt : top < (2 : Rat) ^ (1023 : Int) := by decide +kernel
theorem Near.mono {x v e e' : Rat} (h : Near x v e) (he : e ≤ e') : Near x v e' := by
  obtain ⟨h1, h2⟩ := h
  exact ⟨by grind, by grind⟩
theorem write_near {s : Bool} {m : Nat} {p : Int} {v B : Rat} (h : numR s m p = v) (h1 : -B ≤ v) (h2 : v ≤ B) (hB : B ≤ top) : ∃ x, FV (double.write (.number s m p)) x ∧ Near x v (B * eps + tiny) := by
  have hm := mag_val h h1 h2
  have ht := top_lt
  obtain ⟨x, hx, hn⟩ := nearest_near s m p (by grind)
  refine ⟨x, hx, ?_⟩
  rw [h] at hn
  refine hn.mono ?_
  have := Rat.mul_le_mul_of_nonneg_right hm (show (0 : Rat) ≤ eps by decide +kernel)
  grind
theorem add_near {a b : Nat} {x y B : Rat} (ha : FV a x) (hb : FV b y) (h1 : -B ≤ x + y) (h2 : x + y ≤ B) (hB : B ≤ top) : ∃ r z, double.add a b = some r ∧ FV r z ∧ Near z (x + y) (B * eps + tiny) := by
  obtain ⟨s, m, p, hr, rfl⟩ := ha
  obtain ⟨t, n, q, hq, rfl⟩ := hb
  obtain ⟨u, k, c, hs, hv⟩ := sum_val s t m n p q
  obtain ⟨z, hz, hn⟩ := write_near hv h1 h2 hB
  refine ⟨_, z, ?_, hz, hn⟩
  unfold Format.add
  rw [hr, hq, hs]; rfl
theorem sub_near {a b : Nat} {x y B : Rat} (ha : FV a x) (hb : FV b y) (h1 : -B ≤ x - y) (h2 : x - y ≤ B) (hB : B ≤ top) : ∃ r z, double.sub a b = some r ∧ FV r z ∧ Near z (x - y) (B * eps + tiny) := by
  obtain ⟨s, m, p, hr, rfl⟩ := ha
  obtain ⟨t, n, q, hq, rfl⟩ := hb
  obtain ⟨u, k, c, hs, hv⟩ := sum_val s (!t) m n p q
  rw [opp_val] at hv
  obtain ⟨z, hz, hn⟩ := write_near (v := numR s m p - numR t n q) (B := B) (by rw [hv]; grind) h1 h2 hB
  refine ⟨_, z, ?_, hz, hn⟩
  unfold Format.sub
  rw [hr, hq]
  show ((Datum.number s m p).sum (.number (!t) n q)).map _ = _
  rw [hs]; rfl
theorem mul_near {a b : Nat} {x y B : Rat} (ha : FV a x) (hb : FV b y) (h1 : -B ≤ x * y) (h2 : x * y ≤ B) (hB : B ≤ top) : ∃ r z, double.mul a b = some r ∧ FV r z ∧ Near z (x * y) (B * eps + tiny) := by
  obtain ⟨s, m, p, hr, rfl⟩ := ha
  obtain ⟨t, n, q, hq, rfl⟩ := hb
  obtain ⟨z, hz, hn⟩ := write_near (mul_val s t m n p q) h1 h2 hB
  refine ⟨_, z, ?_, hz, hn⟩
  unfold Format.mul
  rw [hr, hq]; rfl
end Go.Proofs.YtbdnkneedengcaaGreatDoor.Ie

/- Complex numbers of two fractions; of two doubles. Conditions: none. -/
set_option linter.unusedSimpArgs false
set_option linter.unusedVariables false
namespace Go.Proofs.YtbdnkneedengcaaGreatDoor.Ie
open Ieee

/-- a complex number -/
@[ext] structure Cx where
  re : Rat
  im : Rat
namespace Cx
def add (z w : Cx) : Cx := ⟨z.re + w.re, z.im + w.im⟩
def sub (z w : Cx) : Cx := ⟨z.re - w.re, z.im - w.im⟩
def mul (z w : Cx) : Cx := ⟨z.re * w.re - z.im * w.im, z.re * w.im + z.im * w.re⟩
def neg (z : Cx) : Cx := ⟨-z.re, -z.im⟩
/-- its magnitude is at most A -/
def M (z : Cx) (A : Rat) : Prop := 0 ≤ A ∧ z.re * z.re + z.im * z.im ≤ A * A
theorem sq_nonneg (x : Rat) : 0 ≤ x * x := by
  rcases Rat.le_total (a := 0) (b := x) with h | h
  · exact Rat.mul_nonneg h h
  · have := Rat.mul_nonneg (a := -x) (b := -x) (by grind) (by grind)
    grind
/-- of numbers that are not negative, the one with the lesser square is the lesser one -/
theorem le_of_sq {x A : Rat} (hA : 0 ≤ A) (h : x * x ≤ A * A) : x ≤ A := by
  refine Classical.byContradiction fun hc => ?_
  have hc : A < x := Rat.not_le.1 hc
  have h1 := Rat.mul_le_mul_of_nonneg_left (Rat.le_of_lt hc) hA
  have h2 := Rat.mul_lt_mul_of_pos_right hc (show 0 < x by grind)
  grind
theorem sq_mono {A B : Rat} (hA : 0 ≤ A) (h : A ≤ B) : A * A ≤ B * B := by
  have h1 := Rat.mul_le_mul_of_nonneg_left h hA
  have h2 := Rat.mul_le_mul_of_nonneg_right h (show 0 ≤ B by grind)
  grind
theorem M.mono {z : Cx} {A B : Rat} (h : z.M A) (hB : A ≤ B) : z.M B := ⟨by have := h.1; grind, by have := sq_mono h.1 hB; have := h.2; grind⟩
theorem M.re_le {z : Cx} {A : Rat} (h : z.M A) : -A ≤ z.re ∧ z.re ≤ A := by
  obtain ⟨h1, h2⟩ := h
  have h3 := sq_nonneg z.im
  have h4 := le_of_sq (x := z.re) h1 (by grind)
  have h5 := le_of_sq (x := -z.re) h1 (by grind)
  exact ⟨by grind, h4⟩
theorem M.im_le {z : Cx} {A : Rat} (h : z.M A) : -A ≤ z.im ∧ z.im ≤ A := by
  obtain ⟨h1, h2⟩ := h
  have h3 := sq_nonneg z.re
  have h4 := le_of_sq (x := z.im) h1 (by grind)
  have h5 := le_of_sq (x := -z.im) h1 (by grind)
  exact ⟨by grind, h4⟩
theorem M.add {z w : Cx} {A B : Rat} (h : z.M A) (k : w.M B) : (z.add w).M (A + B) := by
  obtain ⟨h1, h2⟩ := h
  obtain ⟨k1, k2⟩ := k
  refine ⟨by grind, ?_⟩
  have hAB := Rat.mul_nonneg h1 k1
  have hz : 0 ≤ z.re * z.re + z.im * z.im := by have := sq_nonneg z.re; have := sq_nonneg z.im; grind
  have hm : (z.re * z.re + z.im * z.im) * (w.re * w.re + w.im * w.im) ≤ (A * B) * (A * B) := by
    have m1 := Rat.mul_le_mul_of_nonneg_left k2 hz
    have m2 := Rat.mul_le_mul_of_nonneg_right h2 (sq_nonneg B)
    grind
  have hs := sq_nonneg (z.re * w.im - z.im * w.re)
  have hd : z.re * w.re + z.im * w.im ≤ A * B := le_of_sq hAB (by grind)
  show (z.re + w.re) * (z.re + w.re) + (z.im + w.im) * (z.im + w.im) ≤ _
  grind
theorem M.mul {z w : Cx} {A B : Rat} (h : z.M A) (k : w.M B) : (z.mul w).M (A * B) := by
  obtain ⟨h1, h2⟩ := h
  obtain ⟨k1, k2⟩ := k
  refine ⟨Rat.mul_nonneg h1 k1, ?_⟩
  have hz : 0 ≤ z.re * z.re + z.im * z.im := by have := sq_nonneg z.re; have := sq_nonneg z.im; grind
  have m1 := Rat.mul_le_mul_of_nonneg_left k2 hz
  have m2 := Rat.mul_le_mul_of_nonneg_right h2 (sq_nonneg B)
  show (z.re * w.re - z.im * w.im) * (z.re * w.re - z.im * w.im) + (z.re * w.im + z.im * w.re) * (z.re * w.im + z.im * w.re) ≤ _
  grind
theorem M.neg {z : Cx} {A : Rat} (h : z.M A) : z.neg.M A := by
  obtain ⟨h1, h2⟩ := h
  refine ⟨h1, ?_⟩
  show -z.re * -z.re + -z.im * -z.im ≤ _
  grind
theorem sub_eq (z w : Cx) : z.sub w = z.add w.neg := by
  unfold sub add neg
  congr 1 <;> grind
theorem M.sub {z w : Cx} {A B : Rat} (h : z.M A) (k : w.M B) : (z.sub w).M (A + B) := by rw [sub_eq]; exact h.add k.neg
theorem M.of {z : Cx} {e : Rat} (h1 : -e ≤ z.re) (h2 : z.re ≤ e) (h3 : -e ≤ z.im) (h4 : z.im ≤ e) : z.M (2 * e) := by
  have he : 0 ≤ e := by grind
  have s1 : z.re * z.re ≤ e * e := by
    have := Rat.mul_nonneg (show 0 ≤ e - z.re by grind) (show 0 ≤ e + z.re by grind)
    grind
  have s2 : z.im * z.im ≤ e * e := by
    have := Rat.mul_nonneg (show 0 ≤ e - z.im by grind) (show 0 ≤ e + z.im by grind)
    grind
  have := sq_nonneg e
  exact ⟨by grind, by grind⟩
end Cx
/-- two words stand for a complex number -/
def CV (w : Nat × Nat) (z : Cx) : Prop := FV w.1 z.re ∧ FV w.2 z.im
def cadd (z w : Nat × Nat) : Option (Nat × Nat) := (double.add z.1 w.1).bind fun a => (double.add z.2 w.2).map fun b => (a, b)
def csub (z w : Nat × Nat) : Option (Nat × Nat) := (double.sub z.1 w.1).bind fun a => (double.sub z.2 w.2).map fun b => (a, b)
def cmul (z w : Nat × Nat) : Option (Nat × Nat) :=
  (double.mul z.1 w.1).bind fun ac => (double.mul z.2 w.2).bind fun bd => (double.sub ac bd).bind fun r =>
  (double.mul z.1 w.2).bind fun ad => (double.mul z.2 w.1).bind fun bc => (double.add ad bc).map fun i => (r, i)
theorem cadd_near {u v : Nat × Nat} {x y : Cx} {B : Rat} (hu : CV u x) (hv : CV v y) (hB : (x.add y).M B) (ht : B ≤ top) : ∃ r z, cadd u v = some r ∧ CV r z ∧ (z.sub (x.add y)).M (2 * (B * eps + tiny)) := by
  obtain ⟨r1, z1, a1, b1, c1, d1⟩ := add_near hu.1 hv.1 hB.re_le.1 hB.re_le.2 ht
  obtain ⟨r2, z2, a2, b2, c2, d2⟩ := add_near hu.2 hv.2 hB.im_le.1 hB.im_le.2 ht
  refine ⟨(r1, r2), ⟨z1, z2⟩, ?_, ⟨b1, b2⟩, Cx.M.of ?_ ?_ ?_ ?_⟩
  · unfold cadd; rw [a1, a2]; rfl
  · show _ ≤ z1 - (x.re + y.re); grind
  · show z1 - (x.re + y.re) ≤ _; grind
  · show _ ≤ z2 - (x.im + y.im); grind
  · show z2 - (x.im + y.im) ≤ _; grind
theorem csub_near {u v : Nat × Nat} {x y : Cx} {B : Rat} (hu : CV u x) (hv : CV v y) (hB : (x.sub y).M B) (ht : B ≤ top) : ∃ r z, csub u v = some r ∧ CV r z ∧ (z.sub (x.sub y)).M (2 * (B * eps + tiny)) := by
  obtain ⟨r1, z1, a1, b1, c1, d1⟩ := sub_near hu.1 hv.1 hB.re_le.1 hB.re_le.2 ht
  obtain ⟨r2, z2, a2, b2, c2, d2⟩ := sub_near hu.2 hv.2 hB.im_le.1 hB.im_le.2 ht
  refine ⟨(r1, r2), ⟨z1, z2⟩, ?_, ⟨b1, b2⟩, Cx.M.of ?_ ?_ ?_ ?_⟩
  · unfold csub; rw [a1, a2]; rfl
  · show _ ≤ z1 - (x.re - y.re); grind
  · show z1 - (x.re - y.re) ≤ _; grind
  · show _ ≤ z2 - (x.im - y.im); grind
  · show z2 - (x.im - y.im) ≤ _; grind
theorem prod_le {x y A B : Rat} (h1 : -A ≤ x) (h2 : x ≤ A) (h3 : -B ≤ y) (h4 : y ≤ B) : -(A * B) ≤ x * y ∧ x * y ≤ A * B := by
  have hA : 0 ≤ A := by grind
  have hB : 0 ≤ B := by grind
  have p1 := Rat.mul_nonneg (show 0 ≤ A - x by grind) (show 0 ≤ B - y by grind)
  have p2 := Rat.mul_nonneg (show 0 ≤ A + x by grind) (show 0 ≤ B + y by grind)
  have p3 := Rat.mul_nonneg (show 0 ≤ A - x by grind) (show 0 ≤ B + y by grind)
  have p4 := Rat.mul_nonneg (show 0 ≤ A + x by grind) (show 0 ≤ B - y by grind)
  exact ⟨by grind, by grind⟩
theorem cmul_near {u v : Nat × Nat} {x y : Cx} {A B : Rat} (hu : CV u x) (hv : CV v y) (hA : x.M A) (hB : y.M B) (ht : 4 * (A * B) + 4 ≤ top) : ∃ r z, cmul u v = some r ∧ CV r z ∧ (z.sub (x.mul y)).M (12 * (A * B) * eps + 12 * tiny) := by
  have hAB := Rat.mul_nonneg hA.1 hB.1
  have he : (0 : Rat) ≤ eps ∧ eps ≤ 1 / 1000 := by decide +kernel
  have hti : (0 : Rat) ≤ tiny ∧ tiny ≤ 1 / 1000 := by decide +kernel
  have hk : (A * B) * eps ≤ A * B * (1 / 1000) := Rat.mul_le_mul_of_nonneg_left he.2 hAB
  have hk0 := Rat.mul_nonneg hAB he.1
  have p1 := prod_le hA.re_le.1 hA.re_le.2 hB.re_le.1 hB.re_le.2
  have p2 := prod_le hA.im_le.1 hA.im_le.2 hB.im_le.1 hB.im_le.2
  have p3 := prod_le hA.re_le.1 hA.re_le.2 hB.im_le.1 hB.im_le.2
  have p4 := prod_le hA.im_le.1 hA.im_le.2 hB.re_le.1 hB.re_le.2
  obtain ⟨r1, z1, a1, b1, c1, d1⟩ := mul_near hu.1 hv.1 p1.1 p1.2 (by grind)
  obtain ⟨r2, z2, a2, b2, c2, d2⟩ := mul_near hu.2 hv.2 p2.1 p2.2 (by grind)
  obtain ⟨r3, z3, a3, b3, c3, d3⟩ := mul_near hu.1 hv.2 p3.1 p3.2 (by grind)
  obtain ⟨r4, z4, a4, b4, c4, d4⟩ := mul_near hu.2 hv.1 p4.1 p4.2 (by grind)
  obtain ⟨r5, z5, a5, b5, c5, d5⟩ := sub_near (B := 3 * (A * B) + 3 * tiny) b1 b2 (by grind) (by grind) (by grind)
  obtain ⟨r6, z6, a6, b6, c6, d6⟩ := add_near (B := 3 * (A * B) + 3 * tiny) b3 b4 (by grind) (by grind) (by grind)
  have ht2 : tiny * eps ≤ tiny * (1 / 1000) := Rat.mul_le_mul_of_nonneg_left he.2 hti.1
  have h6 : (3 * (A * B) + 3 * tiny) * eps = 3 * ((A * B) * eps) + 3 * (tiny * eps) := by grind
  rw [h6] at c5 d5 c6 d6
  refine ⟨(r5, r6), ⟨z5, z6⟩, ?_, ⟨b5, b6⟩, Cx.M.mono (A := 2 * (6 * ((A * B) * eps) + 6 * tiny)) (Cx.M.of ?_ ?_ ?_ ?_) (by grind)⟩
  · unfold cmul
    rw [a1, a2]
    simp only [Option.bind_some, a5, a3, a4, a6, Option.map_some]
  · show _ ≤ z5 - (x.re * y.re - x.im * y.im); grind
  · show z5 - (x.re * y.re - x.im * y.im) ≤ _; grind
  · show _ ≤ z6 - (x.re * y.im + x.im * y.re); grind
  · show z6 - (x.re * y.im + x.im * y.re) ≤ _; grind
end Go.Proofs.YtbdnkneedengcaaGreatDoor.Ie

/- A table of complex numbers that turns like a root of one. Conditions: none. -/
set_option linter.unusedSimpArgs false
set_option linter.unusedVariables false
namespace Go.Proofs.YtbdnkneedengcaaGreatDoor.Ie
namespace Cx
def one : Cx := ⟨1, 0⟩
def zero : Cx := ⟨0, 0⟩
theorem mul_assoc (x y z : Cx) : (x.mul y).mul z = x.mul (y.mul z) := by unfold mul; congr 1 <;> grind
theorem mul_comm (x y : Cx) : x.mul y = y.mul x := by unfold mul; congr 1 <;> grind
theorem mul_add (x y z : Cx) : x.mul (y.add z) = (x.mul y).add (x.mul z) := by unfold mul add; congr 1 <;> grind
theorem add_mul (x y z : Cx) : (x.add y).mul z = (x.mul z).add (y.mul z) := by unfold mul add; congr 1 <;> grind
theorem one_mul (x : Cx) : one.mul x = x := by cases x; unfold mul one; congr 1 <;> grind
theorem mul_one (x : Cx) : x.mul one = x := by cases x; unfold mul one; congr 1 <;> grind
theorem neg_mul (x y : Cx) : x.neg.mul y = (x.mul y).neg := by unfold mul neg; congr 1 <;> grind
theorem mul_neg (x y : Cx) : x.mul y.neg = (x.mul y).neg := by unfold mul neg; congr 1 <;> grind
theorem neg_neg (x : Cx) : x.neg.neg = x := by cases x; unfold neg; congr 1 <;> grind
theorem add_comm (x y : Cx) : x.add y = y.add x := by unfold add; congr 1 <;> grind
theorem add_assoc (x y z : Cx) : (x.add y).add z = x.add (y.add z) := by unfold add; congr 1 <;> grind
theorem add_zero (x : Cx) : x.add zero = x := by cases x; unfold add zero; congr 1 <;> grind
theorem zero_add (x : Cx) : zero.add x = x := by cases x; unfold add zero; congr 1 <;> grind
theorem mul_zero (x : Cx) : x.mul zero = zero := by unfold mul zero; congr 1 <;> grind
theorem zero_mul (x : Cx) : zero.mul x = zero := by unfold mul zero; congr 1 <;> grind
theorem sub_self (x : Cx) : x.sub x = zero := by unfold sub zero; congr 1 <;> grind
theorem neg_zero : zero.neg = zero := by unfold neg zero; congr 1
theorem M.zero {A : Rat} (h : 0 ≤ A) : zero.M A := ⟨h, by have := sq_nonneg A; show (0 : Rat) * 0 + 0 * 0 ≤ _; grind⟩
theorem M.one : one.M 1 := ⟨by decide +kernel, by decide +kernel⟩
/-- a step near one table's entry -/
def g : Cx := ⟨1267644634423113846968036898775 / 1267650600228229401496703205376, 3889097232048075534265022357 / 1267650600228229401496703205376⟩
theorem g_M : g.M 1 := ⟨by decide +kernel, by decide +kernel⟩
def zp : Nat → Cx
  | 0 => one
  | k + 1 => (zp k).mul g
theorem zp_add (a b : Nat) : zp (a + b) = (zp a).mul (zp b) := by
  induction b with
  | zero => show zp a = (zp a).mul one; rw [mul_one]
  | succ b ih => show (zp (a + b)).mul g = (zp a).mul ((zp b).mul g); rw [ih, mul_assoc]
theorem zp_M (k : Nat) : (zp k).M 1 := by
  induction k with
  | zero => exact M.one
  | succ k ih => have := ih.mul g_M; rwa [Rat.mul_one] at this
def sqs : Nat → Cx → Cx
  | 0, x => x
  | n + 1, x => sqs n (x.mul x)
theorem sqs_zp (n k : Nat) : sqs n (zp k) = zp (2 ^ n * k) := by
  induction n generalizing k with
  | zero => show zp k = _; rw [Nat.pow_zero, Nat.one_mul]
  | succ n ih => show sqs n ((zp k).mul (zp k)) = _; rw [← zp_add, ih]; congr 1; rw [Nat.pow_succ]; rw [Nat.mul_assoc]; congr 1; omega
/-- how far the table is from turning wholly -/
def theta : Rat := 1 / 1208925819614629174706176
theorem half_M : ((zp 1024).add one).M theta := by
  have h : zp 1024 = sqs 10 g := by
    have h1 := sqs_zp 10 1
    have h2 : zp 1 = g := by show one.mul g = g; rw [one_mul]
    rw [h2] at h1; exact h1.symm
  rw [h]
  exact ⟨by decide +kernel, by decide +kernel⟩
/-- the table -/
def z (m : Nat) : Cx := if m % 2048 < 1024 then zp (m % 2048) else (zp (m % 2048 - 1024)).neg
theorem z_period (m k : Nat) : z (m + 2048 * k) = z m := by unfold z; rw [Nat.add_mul_mod_self_left]
theorem z_half (m : Nat) : z (m + 1024) = (z m).neg := by
  unfold z
  by_cases h : m % 2048 < 1024
  · rw [if_pos h, if_neg (by omega), show (m + 1024) % 2048 - 1024 = m % 2048 by omega]
  · rw [if_neg h, if_pos (by omega), show (m + 1024) % 2048 = m % 2048 - 1024 by omega, neg_neg]
theorem z_M (m : Nat) : (z m).M 1 := by
  unfold z; split
  · exact zp_M _
  · exact (zp_M _).neg
theorem zp_near {a b : Nat} (ha : a < 1024) (hb : b < 1024) : (((zp a).mul (zp b)).sub (z (a + b))).M theta := by
  rw [← zp_add]
  have ht : (0 : Rat) ≤ theta := by decide +kernel
  unfold z
  by_cases h : (a + b) % 2048 < 1024
  · rw [if_pos h, show (a + b) % 2048 = a + b by omega, sub_self]; exact M.zero ht
  · rw [if_neg h]
    obtain ⟨c, hc⟩ : ∃ c, a + b = c + 1024 := ⟨a + b - 1024, by omega⟩
    rw [hc, show (c + 1024) % 2048 - 1024 = c by omega, zp_add]
    have h1 := (zp_M c).mul half_M
    rw [Rat.one_mul] at h1
    have h2 : ((zp c).mul (zp 1024)).sub (zp c).neg = (zp c).mul ((zp 1024).add one) := by
      rw [mul_add, mul_one, sub_eq, neg_neg]
    rw [h2]; exact h1
theorem neg_sub_neg (x y : Cx) : x.neg.sub y.neg = (x.sub y).neg := by unfold sub neg; congr 1 <;> grind
theorem z_near (a b : Nat) : (((z a).mul (z b)).sub (z (a + b))).M theta := by
  have hs : ∀ m, ∃ a', a' < 1024 ∧ ∃ k, (m = a' + 2048 * k ∧ z m = zp a') ∨ (m = a' + 1024 + 2048 * k ∧ z m = (zp a').neg) := by
    intro m
    by_cases h : m % 2048 < 1024
    · exact ⟨m % 2048, h, m / 2048, .inl ⟨by omega, by unfold z; rw [if_pos h]⟩⟩
    · exact ⟨m % 2048 - 1024, by omega, m / 2048, .inr ⟨by omega, by unfold z; rw [if_neg h]⟩⟩
  obtain ⟨a', ha, ka, h1⟩ := hs a
  obtain ⟨b', hb, kb, h2⟩ := hs b
  have hn := zp_near ha hb
  rcases h1 with ⟨ea, za⟩ | ⟨ea, za⟩ <;> rcases h2 with ⟨eb, zb⟩ | ⟨eb, zb⟩ <;> rw [za, zb]
  · rw [show a + b = (a' + b') + 2048 * (ka + kb) by omega, z_period]; exact hn
  · rw [show a + b = (a' + b') + 1024 + 2048 * (ka + kb) by omega, z_period, z_half, mul_neg, neg_sub_neg]; exact hn.neg
  · rw [show a + b = (a' + b') + 1024 + 2048 * (ka + kb) by omega, z_period, z_half, neg_mul, neg_sub_neg]; exact hn.neg
  · rw [show a + b = (a' + b') + 2048 * (ka + kb + 1) by omega, z_period, neg_mul, mul_neg, neg_neg]; exact hn
/-- what turns like the table -/
def Turns (c : Nat → Cx) : Prop := (∀ m, c (m + 1024) = (c m).neg) ∧ (∀ a b, (((c a).mul (c b)).sub (c (a + b))).M theta) ∧ ∀ m, (c m).M 1
theorem z_turns : Turns z := ⟨z_half, z_near, z_M⟩
/-- the table backwards -/
def zb (m : Nat) : Cx := z (2047 * m)
theorem zb_turns : Turns zb := by
  refine ⟨fun m => ?_, fun a b => ?_, fun m => z_M _⟩
  · unfold zb
    rw [show 2047 * (m + 1024) = (2047 * m + 1024) + 2048 * 1023 by omega, z_period, z_half]
  · unfold zb
    rw [Nat.mul_add]; exact z_near _ _
end Cx
end Go.Proofs.YtbdnkneedengcaaGreatDoor.Ie

/- Sums of complex numbers; the transform and its halves. Conditions: none. -/
set_option linter.unusedSimpArgs false
set_option linter.unusedVariables false
namespace Go.Proofs.YtbdnkneedengcaaGreatDoor.Ie
namespace Cx
def sum : Nat → (Nat → Cx) → Cx
  | 0, _ => zero
  | n + 1, f => (sum n f).add (f n)
theorem sum_congr {n : Nat} {f h : Nat → Cx} (k : ∀ i, i < n → f i = h i) : sum n f = sum n h := by
  induction n with
  | zero => rfl
  | succ n ih => show (sum n f).add (f n) = (sum n h).add (h n); rw [ih (fun i hi => k i (by omega)), k n (by omega)]
theorem nat_succ (n : Nat) : ((n + 1 : Nat) : Rat) = (n : Rat) + 1 := by rw [Rat.natCast_add]; rfl
theorem sum_M {n : Nat} {f : Nat → Cx} {A : Rat} (hA : 0 ≤ A) (h : ∀ i, i < n → (f i).M A) : (sum n f).M (n * A) := by
  induction n with
  | zero => exact M.zero (by show (0 : Rat) ≤ 0 * A; grind)
  | succ n ih =>
    refine ((ih fun i hi => h i (by omega)).add (h n (by omega))).mono ?_
    rw [nat_succ]; grind
theorem sum_split (n : Nat) (f : Nat → Cx) : sum (2 * n) f = (sum n fun t => f (2 * t)).add (sum n fun t => f (2 * t + 1)) := by
  induction n with
  | zero => exact (add_zero zero).symm
  | succ n ih =>
    show ((sum (2 * n) f).add (f (2 * n))).add (f (2 * n + 1)) = ((sum n fun t => f (2 * t)).add (f (2 * n))).add ((sum n fun t => f (2 * t + 1)).add (f (2 * n + 1)))
    rw [ih]; unfold add; congr 1 <;> grind
theorem sum_mul (n : Nat) (c : Cx) (f : Nat → Cx) : c.mul (sum n f) = sum n fun t => c.mul (f t) := by
  induction n with
  | zero => exact mul_zero c
  | succ n ih => show c.mul ((sum n f).add (f n)) = _; rw [mul_add, ih]; rfl
theorem sum_mul' (n : Nat) (c : Cx) (f : Nat → Cx) : (sum n f).mul c = sum n fun t => (f t).mul c := by
  rw [mul_comm, sum_mul]; exact sum_congr fun i _ => mul_comm _ _
theorem sum_sub (n : Nat) (f h : Nat → Cx) : (sum n f).sub (sum n h) = sum n fun t => (f t).sub (h t) := by
  induction n with
  | zero => exact sub_self zero
  | succ n ih =>
    show ((sum n f).add (f n)).sub ((sum n h).add (h n)) = (sum n fun t => (f t).sub (h t)).add ((f n).sub (h n))
    rw [← ih]; unfold add sub; congr 1 <;> grind
theorem sum_neg (n : Nat) (f : Nat → Cx) : (sum n f).neg = sum n fun t => (f t).neg := by
  induction n with
  | zero => exact neg_zero
  | succ n ih =>
    show ((sum n f).add (f n)).neg = (sum n fun t => (f t).neg).add (f n).neg
    rw [← ih]; unfold add neg; congr 1 <;> grind
/-- the transform of 2^s numbers -/
def dft (c : Nat → Cx) (s : Nat) (f : Nat → Cx) (k : Nat) : Cx := sum (2 ^ s) fun t => (f t).mul (c (t * k * 2 ^ (11 - s)))
theorem dft_M {c : Nat → Cx} (hc : Turns c) {s k : Nat} {f : Nat → Cx} {B : Rat} (h0 : 0 ≤ B) (hf : ∀ t, t < 2 ^ s → (f t).M B) : (dft c s f k).M ((2 ^ s : Nat) * B) :=
  sum_M h0 fun t ht => by have := (hf t ht).mul (hc.2.2 (t * k * 2 ^ (11 - s))); rwa [Rat.mul_one] at this
theorem turns_period {c : Nat → Cx} (hc : Turns c) (m k : Nat) : c (m + 2048 * k) = c m := by
  induction k with
  | zero => rfl
  | succ k ih => rw [show m + 2048 * (k + 1) = m + 2048 * k + 1024 + 1024 by omega, hc.1, hc.1, neg_neg, ih]
theorem turns_odd {c : Nat → Cx} (hc : Turns c) (m k : Nat) : c (m + 1024 * (2 * k + 1)) = (c m).neg := by
  rw [show m + 1024 * (2 * k + 1) = m + 1024 + 2048 * k by omega, turns_period hc, hc.1]
theorem dft_half {c : Nat → Cx} (hc : Turns c) {s k : Nat} (hs : s < 11) {f : Nat → Cx} {B : Rat} (h0 : 0 ≤ B) (hf : ∀ t, t < 2 ^ (s + 1) → (f t).M B) :
    ((dft c (s + 1) f k).sub ((dft c s (fun t => f (2 * t)) k).add ((dft c s (fun t => f (2 * t + 1)) k).mul (c (k * 2 ^ (10 - s)))))).M ((2 ^ s : Nat) * (B * theta)) ∧
    ((dft c (s + 1) f (k + 2 ^ s)).sub ((dft c s (fun t => f (2 * t)) k).sub ((dft c s (fun t => f (2 * t + 1)) k).mul (c (k * 2 ^ (10 - s)))))).M ((2 ^ s : Nat) * (B * theta)) := by
  obtain ⟨q, hq⟩ : ∃ q, q = 2 ^ (10 - s) := ⟨_, rfl⟩
  have hq1 : 2 ^ (11 - (s + 1)) = q := by rw [hq]; congr 1; omega
  have hq2 : 2 ^ (11 - s) = 2 * q := by rw [hq, show 11 - s = (10 - s) + 1 by omega, Nat.pow_succ]; omega
  have hq3 : 2 ^ s * q = 1024 := by rw [hq, ← Nat.pow_add, show s + (10 - s) = 10 by omega]
  have h2s : 2 ^ (s + 1) = 2 * 2 ^ s := by rw [Nat.pow_succ]; omega
  rw [← hq]
  obtain ⟨E, hE⟩ : ∃ E, E = sum (2 ^ s) fun t => (f (2 * t + 1)).mul (c ((2 * t + 1) * k * q)) := ⟨_, rfl⟩
  have d1 : dft c (s + 1) f k = (dft c s (fun t => f (2 * t)) k).add E := by
    unfold dft
    rw [hq1, hq2, h2s, sum_split, hE]
    congr 1
    refine sum_congr fun t _ => ?_
    rw [show 2 * t * k * q = t * k * (2 * q) by rw [Nat.mul_assoc, Nat.mul_assoc, Nat.mul_assoc, Nat.mul_left_comm, Nat.mul_left_comm k 2 q]]
  have d2 : dft c (s + 1) f (k + 2 ^ s) = (dft c s (fun t => f (2 * t)) k).add E.neg := by
    unfold dft
    rw [hq1, hq2, h2s, sum_split, hE, sum_neg]
    congr 1
    · refine sum_congr fun t _ => ?_
      have : 2 * t * (k + 2 ^ s) * q = t * k * (2 * q) + 2048 * t := by
        rw [Nat.mul_add, Nat.add_mul, Nat.mul_assoc (2 * t) (2 ^ s) q, hq3]
        have : 2 * t * k * q = t * k * (2 * q) := by rw [Nat.mul_assoc, Nat.mul_assoc, Nat.mul_assoc, Nat.mul_left_comm, Nat.mul_left_comm k 2 q]
        omega
      rw [this, turns_period hc]
    · refine sum_congr fun t _ => ?_
      have : (2 * t + 1) * (k + 2 ^ s) * q = (2 * t + 1) * k * q + 1024 * (2 * t + 1) := by
        rw [Nat.mul_add, Nat.add_mul, Nat.mul_assoc (2 * t + 1) (2 ^ s) q, hq3]; omega
      rw [this, turns_odd hc, mul_neg]
  have hw : (E.sub ((dft c s (fun t => f (2 * t + 1)) k).mul (c (k * q)))).M ((2 ^ s : Nat) * (B * theta)) := by
    unfold dft
    rw [hE, hq2, sum_mul', sum_sub]
    refine sum_M (Rat.mul_nonneg h0 (by decide +kernel)) fun t ht => ?_
    have h1 := hc.2.1 (t * k * (2 * q)) (k * q)
    have e1 : t * k * (2 * q) + k * q = (2 * t + 1) * k * q := by
      have : t * k * (2 * q) = 2 * t * k * q := by rw [Nat.mul_assoc, Nat.mul_assoc, Nat.mul_assoc, Nat.mul_left_comm 2 t, Nat.mul_left_comm k 2 q]
      rw [this, Nat.add_mul, Nat.add_mul, Nat.one_mul]
    rw [e1] at h1
    have h2 := (hf (2 * t + 1) (by omega)).mul h1.neg
    have e2 : ((f (2 * t + 1)).mul (c ((2 * t + 1) * k * q))).sub (((f (2 * t + 1)).mul (c (t * k * (2 * q)))).mul (c (k * q))) = (f (2 * t + 1)).mul (((c (t * k * (2 * q))).mul (c (k * q))).sub (c ((2 * t + 1) * k * q))).neg := by
      unfold mul sub neg; congr 1 <;> grind
    rw [e2]; exact h2
  rw [d1, d2]
  constructor
  · have : ((dft c s (fun t => f (2 * t)) k).add E).sub ((dft c s (fun t => f (2 * t)) k).add ((dft c s (fun t => f (2 * t + 1)) k).mul (c (k * q)))) = E.sub ((dft c s (fun t => f (2 * t + 1)) k).mul (c (k * q))) := by
      unfold add sub; congr 1 <;> grind
    rw [this]; exact hw
  · have : ((dft c s (fun t => f (2 * t)) k).add E.neg).sub ((dft c s (fun t => f (2 * t)) k).sub ((dft c s (fun t => f (2 * t + 1)) k).mul (c (k * q)))) = (E.sub ((dft c s (fun t => f (2 * t + 1)) k).mul (c (k * q)))).neg := by
      unfold add sub neg; congr 1 <;> grind
    rw [this]; exact hw.neg
end Cx
end Go.Proofs.YtbdnkneedengcaaGreatDoor.Ie

/- One step of the transform in doubles, near to what it should be. Conditions: none. -/
set_option linter.unusedSimpArgs false
set_option linter.unusedVariables false
namespace Go.Proofs.YtbdnkneedengcaaGreatDoor.Ie
/-- how far a factor may be from the table -/
def eta : Rat := 16 * eps
theorem Cx.M.near {x y : Cx} {A e : Rat} (h : (x.sub y).M e) (k : y.M A) : x.M (A + e) := by
  have h1 := k.add h
  have : y.add (x.sub y) = x := by unfold Cx.add Cx.sub; cases x; congr 1 <;> grind
  rwa [this] at h1
theorem nums : eps = 1 / 9007199254740992 ∧ tiny = 1 / 1606938044258990275541962092341162602522202993782792835301376 ∧ eta = 16 / 9007199254740992 ∧ Cx.theta = 1 / 1208925819614629174706176 ∧ top = 1606938044258990275541962092341162602522202993782792835301376 := by decide +kernel
theorem fly_core {u v tw : Nat × Nat} {zu zv wv U V c D1 D2 : Cx} {b e : Rat} (h1 : 1 ≤ b) (h2 : b ≤ 75557863725914323419136) (e0 : 0 ≤ e) (he : e * 1048576 ≤ b)
    (hu : CV u zu) (hv : CV v zv) (hw : CV tw wv) (du : (zu.sub U).M e) (dv : (zv.sub V).M e) (dw : (wv.sub c).M eta) (bU : U.M b) (bV : V.M b) (bc : c.M 1)
    (f1 : (D1.sub (U.add (V.mul c))).M (b * Cx.theta)) (f2 : (D2.sub (U.sub (V.mul c))).M (b * Cx.theta)) :
    ∃ m r1 r2 z1 z2, cmul v tw = some m ∧ cadd u m = some r1 ∧ csub u m = some r2 ∧ CV r1 z1 ∧ CV r2 z2 ∧ (z1.sub D1).M (2 * e + 33 * eps * b) ∧ (z2.sub D2).M (2 * e + 33 * eps * b) := by
  obtain ⟨n1, n2, n3, n4, n5⟩ := nums
  have mv := dv.near bV
  have mw := dw.near bc
  have mu := du.near bU
  obtain ⟨m, zm, q1, q2, q3⟩ := cmul_near hv hw mv mw (by rw [n3, n5]; grind)
  have pe := (dv.mul mw).add (bV.mul dw)
  have dm : (zm.sub (V.mul c)).M (12 * ((b + e) * (1 + eta)) * eps + 12 * tiny + (e * (1 + eta) + b * eta)) := by
    have := q3.add pe
    have e1 : (zm.sub (zv.mul wv)).add (((zv.sub V).mul wv).add (V.mul (wv.sub c))) = zm.sub (V.mul c) := by
      unfold Cx.sub Cx.add Cx.mul; congr 1 <;> grind
    rwa [e1] at this
  have bVc := bV.mul bc
  rw [Rat.mul_one] at bVc
  obtain ⟨em, hem⟩ : ∃ em, em = 12 * ((b + e) * (1 + eta)) * eps + 12 * tiny + (e * (1 + eta) + b * eta) := ⟨_, rfl⟩
  rw [← hem] at dm
  have mm := dm.near bVc
  obtain ⟨r1, z1, a1, a2, a3⟩ := cadd_near hu q2 (mu.add mm) (by rw [hem, n1, n2, n3, n5]; grind)
  obtain ⟨r2, z2, b1, b2, b3⟩ := csub_near hu q2 (mu.sub mm) (by rw [hem, n1, n2, n3, n5]; grind)
  have hfin : 2 * ((b + e + (b + em)) * eps + tiny) + (e + em) + b * Cx.theta ≤ 2 * e + 33 * eps * b := by
    rw [hem, n1, n2, n3, n4]; grind
  refine ⟨m, r1, r2, z1, z2, q1, a1, b1, a2, b2, ?_, ?_⟩
  · have := (a3.add (du.add dm)).add f1.neg
    have e1 : (((z1.sub (zu.add zm)).add ((zu.sub U).add (zm.sub (V.mul c)))).add (D1.sub (U.add (V.mul c))).neg) = z1.sub D1 := by
      unfold Cx.sub Cx.add Cx.neg; congr 1 <;> grind
    rw [e1] at this
    exact this.mono hfin
  · have := (b3.add (du.sub dm)).add f2.neg
    have e1 : (((z2.sub (zu.sub zm)).add ((zu.sub U).sub (zm.sub (V.mul c)))).add (D2.sub (U.sub (V.mul c))).neg) = z2.sub D2 := by
      unfold Cx.sub Cx.add Cx.neg; congr 1 <;> grind
    rw [e1] at this
    exact this.mono hfin
/-- the numbers of a block, in their order -/
def sq (a : Nat → Cx) : Nat → Nat → Nat → Cx
  | 0, b, _ => a b
  | s + 1, b, t => if t % 2 = 0 then sq a s (2 * b) (t / 2) else sq a s (2 * b + 1) (t / 2)
theorem sq_even (a : Nat → Cx) (s b : Nat) : (fun t => sq a (s + 1) b (2 * t)) = sq a s (2 * b) := by
  funext t
  show (if (2 * t) % 2 = 0 then sq a s (2 * b) (2 * t / 2) else _) = _
  rw [if_pos (by omega), show 2 * t / 2 = t by omega]
theorem sq_odd (a : Nat → Cx) (s b : Nat) : (fun t => sq a (s + 1) b (2 * t + 1)) = sq a s (2 * b + 1) := by
  funext t
  show (if (2 * t + 1) % 2 = 0 then _ else sq a s (2 * b + 1) ((2 * t + 1) / 2)) = _
  rw [if_neg (by omega), show (2 * t + 1) / 2 = t by omega]
theorem sq_M {a : Nat → Cx} {B : Rat} (h : ∀ p, (a p).M B) (s b t : Nat) : (sq a s b t).M B := by
  induction s generalizing b t with
  | zero => exact h b
  | succ s ih => unfold sq; split <;> exact ih _ _
/-- the cells after s rounds -/
def Stage (c : Nat → Cx) (a : Nat → Cx) (n s : Nat) (w : Nat → Nat × Nat) (e : Rat) : Prop := ∀ j, j < n → ∃ x, CV (w j) x ∧ (x.sub (Cx.dft c s (sq a s (j / 2 ^ s)) (j % 2 ^ s))).M e
/-- the bound after s rounds -/
def err (e B : Rat) (s : Nat) : Rat := (2 ^ s : Nat) * (e + 17 * s * eps * B)
theorem Stage.zero {c a : Nat → Cx} (hc : c 0 = Cx.one) {n : Nat} {w : Nat → Nat × Nat} {e B : Rat} (h : ∀ j, j < n → ∃ x, CV (w j) x ∧ (x.sub (a j)).M e) : Stage c a n 0 w (err e B 0) := fun j hj => by
  obtain ⟨x, h1, h2⟩ := h j hj
  refine ⟨x, h1, ?_⟩
  have e1 : Cx.dft c 0 (sq a 0 (j / 2 ^ 0)) (j % 2 ^ 0) = a j := by
    unfold Cx.dft
    show Cx.zero.add ((a (j / 1)).mul (c (0 * (j % 1) * 2 ^ 11))) = a j
    rw [Nat.zero_mul, Nat.zero_mul, hc, Cx.mul_one, Cx.zero_add, Nat.div_one]
  rw [e1]
  have e2 : err e B 0 = e := by
    unfold err
    have h0 : ((0 : Nat) : Rat) = 0 := rfl
    have h1 : ((2 ^ 0 : Nat) : Rat) = 1 := rfl
    rw [h0, h1]; grind
  rw [e2]; exact h2
/-- two cells of a round -/
theorem Stage.core {c a : Nat → Cx} (hc : Cx.Turns c) {n s : Nat} (hs : s < 11) {w : Nat → Nat × Nat} {tw : Nat → Nat × Nat} {e B : Rat} (hB : 1 ≤ B) (hB2 : B ≤ 36893488147419103232) (ha : ∀ p, (a p).M B) (e0 : 0 ≤ e) (he : (e + 187 * eps * B) * 1048576 ≤ B)
    (hn : n % 2 ^ (s + 1) = 0) (h : Stage c a n s w (err e B s)) (htw : ∀ k, k < 2 ^ s → ∃ x, CV (tw k) x ∧ (x.sub (c (k * 2 ^ (10 - s)))).M eta) (q k : Nat) (hq : q * 2 ^ (s + 1) < n) (hk : k < 2 ^ s) :
    ∃ m r1 r2 z1 z2, cmul (w (q * 2 ^ (s + 1) + k + 2 ^ s)) (tw k) = some m ∧ cadd (w (q * 2 ^ (s + 1) + k)) m = some r1 ∧ csub (w (q * 2 ^ (s + 1) + k)) m = some r2 ∧ CV r1 z1 ∧ CV r2 z2 ∧
      (z1.sub (Cx.dft c (s + 1) (sq a (s + 1) q) k)).M (err e B (s + 1)) ∧ (z2.sub (Cx.dft c (s + 1) (sq a (s + 1) q) (k + 2 ^ s))).M (err e B (s + 1)) := by
  have h2s : 2 ^ (s + 1) = 2 * 2 ^ s := by rw [Nat.pow_succ]; omega
  have hP0 : 1 ≤ 2 ^ s := Nat.one_le_two_pow
  have hP1 : 2 ^ s ≤ 1024 := Nat.pow_le_pow_right (n := 2) (i := s) (j := 10) (by omega) (by omega)
  obtain ⟨n1, n2, n3, n4, n5⟩ := nums
  have hlt : q * 2 ^ (s + 1) + 2 ^ (s + 1) ≤ n := by
    obtain ⟨d, hd⟩ := Nat.dvd_of_mod_eq_zero hn
    rw [hd, Nat.mul_comm] at hq ⊢
    have : q < d := Nat.lt_of_mul_lt_mul_left hq
    have := Nat.mul_le_mul_left (2 ^ (s + 1)) this
    rw [Nat.mul_succ] at this; exact this
  obtain ⟨zu, hu, du⟩ := h (q * 2 ^ (s + 1) + k) (by omega)
  obtain ⟨zv, hv, dv⟩ := h (q * 2 ^ (s + 1) + k + 2 ^ s) (by omega)
  obtain ⟨wv, hwv, dw⟩ := htw k hk
  have i1 : (q * 2 ^ (s + 1) + k) / 2 ^ s = 2 * q := by
    rw [h2s, ← Nat.mul_assoc, Nat.mul_comm, Nat.mul_add_div (by omega), Nat.div_eq_of_lt hk]; omega
  have i2 : (q * 2 ^ (s + 1) + k) % 2 ^ s = k := by
    rw [h2s, ← Nat.mul_assoc, Nat.mul_comm, Nat.mul_add_mod, Nat.mod_eq_of_lt hk]
  have i3 : (q * 2 ^ (s + 1) + k + 2 ^ s) / 2 ^ s = 2 * q + 1 := by
    rw [Nat.add_div_right _ (by omega), i1]
  have i4 : (q * 2 ^ (s + 1) + k + 2 ^ s) % 2 ^ s = k := by rw [Nat.add_mod_right, i2]
  rw [i1, i2] at du
  rw [i3, i4] at dv
  have hB0 : 0 ≤ B := by grind
  obtain ⟨f1, f2⟩ := Cx.dft_half hc (k := k) hs (f := sq a (s + 1) q) hB0 (fun t _ => sq_M ha _ _ _)
  rw [sq_even, sq_odd] at f1 f2
  have bU := Cx.dft_M hc (s := s) (k := k) (f := sq a s (2 * q)) hB0 (fun t _ => sq_M ha _ _ _)
  have bV := Cx.dft_M hc (s := s) (k := k) (f := sq a s (2 * q + 1)) hB0 (fun t _ => sq_M ha _ _ _)
  have eS1 : err e B (s + 1) = 2 * ((2 ^ s : Nat) : Rat) * (e + 17 * ((s : Rat) + 1) * eps * B) := by
    unfold err
    rw [h2s, Rat.natCast_mul, Cx.nat_succ s]; rfl
  have eS0 : err e B s = ((2 ^ s : Nat) : Rat) * (e + 17 * (s : Rat) * eps * B) := rfl
  have p1 : (1 : Rat) ≤ ((2 ^ s : Nat) : Rat) := cast_le hP0
  have p2 : ((2 ^ s : Nat) : Rat) ≤ 1024 := cast_le hP1
  have p3 : (s : Rat) ≤ 10 := cast_le (b := 10) (by omega)
  have p4 : (0 : Rat) ≤ (s : Rat) := Rat.natCast_nonneg
  generalize ((2 ^ s : Nat) : Rat) = P at *
  generalize (s : Rat) = sr at *
  have k1 : 0 ≤ sr * B := Rat.mul_nonneg p4 hB0
  have k2 : sr * B ≤ 10 * B := Rat.mul_le_mul_of_nonneg_right p3 hB0
  have k3 : B ≤ P * B := by have := Rat.mul_le_mul_of_nonneg_right p1 hB0; rwa [Rat.one_mul] at this
  have k4 : P * B ≤ 1024 * B := Rat.mul_le_mul_of_nonneg_right p2 hB0
  have k5 : 0 ≤ P := by grind
  have k6 : 0 ≤ e + 17 * sr * eps * B := by rw [n1]; grind
  have k7 : (e + 17 * sr * eps * B) * 1048576 ≤ B := by rw [n1] at he ⊢; grind
  have k8 := Rat.mul_le_mul_of_nonneg_left k7 k5
  have k9 := Rat.mul_nonneg k5 k6
  have k10 := Rat.mul_nonneg k5 hB0
  obtain ⟨m, r1, r2, z1, z2, a1, a2, a3, a4, a5, a6, a7⟩ := fly_core (b := P * B) (e := err e B s) (by grind) (by grind) (by rw [eS0]; exact k9) (by rw [eS0]; grind) hu hv hwv du dv dw bU bV (hc.2.2 _) (f1.mono (by grind)) (f2.mono (by grind))
  have hfin : 2 * err e B s + 33 * eps * (P * B) ≤ err e B (s + 1) := by
    rw [eS0, eS1, n1]; grind
  exact ⟨m, r1, r2, z1, z2, a1, a2, a3, a4, a5, a6.mono hfin, a7.mono hfin⟩
/-- one round: w' from w by the factors tw -/
theorem Stage.step {c a : Nat → Cx} (hc : Cx.Turns c) {n s : Nat} (hs : s < 11) {w w' : Nat → Nat × Nat} {tw : Nat → Nat × Nat} {e B : Rat} (hB : 1 ≤ B) (hB2 : B ≤ 36893488147419103232) (ha : ∀ p, (a p).M B) (e0 : 0 ≤ e) (he : (e + 187 * eps * B) * 1048576 ≤ B)
    (hn : n % 2 ^ (s + 1) = 0) (h : Stage c a n s w (err e B s)) (htw : ∀ k, k < 2 ^ s → ∃ x, CV (tw k) x ∧ (x.sub (c (k * 2 ^ (10 - s)))).M eta)
    (hw : ∀ q k, q * 2 ^ (s + 1) < n → k < 2 ^ s → ∀ m r1 r2, cmul (w (q * 2 ^ (s + 1) + k + 2 ^ s)) (tw k) = some m → cadd (w (q * 2 ^ (s + 1) + k)) m = some r1 → csub (w (q * 2 ^ (s + 1) + k)) m = some r2 → w' (q * 2 ^ (s + 1) + k) = r1 ∧ w' (q * 2 ^ (s + 1) + k + 2 ^ s) = r2) :
    Stage c a n (s + 1) w' (err e B (s + 1)) := by
  have h2s : 2 ^ (s + 1) = 2 * 2 ^ s := by rw [Nat.pow_succ]; omega
  have hP0 : 1 ≤ 2 ^ s := Nat.one_le_two_pow
  have core : ∀ q k, q * 2 ^ (s + 1) < n → k < 2 ^ s → (∃ x, CV (w' (q * 2 ^ (s + 1) + k)) x ∧ (x.sub (Cx.dft c (s + 1) (sq a (s + 1) q) k)).M (err e B (s + 1))) ∧ (∃ x, CV (w' (q * 2 ^ (s + 1) + k + 2 ^ s)) x ∧ (x.sub (Cx.dft c (s + 1) (sq a (s + 1) q) (k + 2 ^ s))).M (err e B (s + 1))) := by
    intro q k hq hk
    obtain ⟨m, r1, r2, z1, z2, a1, a2, a3, a4, a5, a6, a7⟩ := Stage.core hc hs hB hB2 ha e0 he hn h htw q k hq hk
    obtain ⟨w1, w2⟩ := hw q k hq hk m r1 r2 a1 a2 a3
    rw [w1, w2]
    exact ⟨⟨z1, a4, a6⟩, ⟨z2, a5, a7⟩⟩
  intro j hj
  have hm := Nat.div_add_mod j (2 ^ (s + 1))
  have hr := Nat.mod_lt j (show 0 < 2 ^ (s + 1) by omega)
  rw [Nat.mul_comm] at hm
  by_cases hk : j % 2 ^ (s + 1) < 2 ^ s
  · have := (core (j / 2 ^ (s + 1)) (j % 2 ^ (s + 1)) (by omega) hk).1
    rwa [hm] at this
  · have := (core (j / 2 ^ (s + 1)) (j % 2 ^ (s + 1) - 2 ^ s) (by omega) (by omega)).2
    rwa [show j / 2 ^ (s + 1) * 2 ^ (s + 1) + (j % 2 ^ (s + 1) - 2 ^ s) + 2 ^ s = j by omega, show j % 2 ^ (s + 1) - 2 ^ s + 2 ^ s = j % 2 ^ (s + 1) by omega] at this
end Go.Proofs.YtbdnkneedengcaaGreatDoor.Ie

/- Forth, multiplied, and back: the products' sums. Conditions: none. -/
set_option linter.unusedSimpArgs false
set_option linter.unusedVariables false
namespace Go.Proofs.YtbdnkneedengcaaGreatDoor.Ie
namespace Cx
def ofR (x : Rat) : Cx := ⟨x, 0⟩
/-- products of numbers whose places come to m -/
def conv (n : Nat) (x y : Nat → Cx) (m : Nat) : Cx := sum n fun i => sum n fun j => ((x i).mul (y j)).mul (if (i + j) % n = m then ofR (n : Rat) else zero)
end Cx
end Go.Proofs.YtbdnkneedengcaaGreatDoor.Ie

/- Doubles reckoned quickly: the same answers. Conditions: none. -/
set_option linter.unusedSimpArgs false
set_option linter.unusedVariables false
namespace Go.Proofs.YtbdnkneedengcaaGreatDoor.Ie
open Ieee
/-- a value that is reckoned first -/
def sl {α : Type} (x : Nat) (f : Nat → α) : α := Nat.rec (f 0) (fun k _ => f (Nat.succ k)) x
theorem sl_eq {α : Type} (x : Nat) (f : Nat → α) : sl x f = f x := by cases x <;> rfl
def wordF (neg : Bool) (x : Nat) : Nat := bif Nat.ble x 9218868437227405312 then (bif neg then Nat.add 9223372036854775808 x else x) else double.word neg (min x double.infRung)
theorem wordF_eq (neg : Bool) (x : Nat) : wordF neg x = double.word neg (min x double.infRung) := by
  unfold wordF
  cases h : Nat.ble x 9218868437227405312 with
  | false => rfl
  | true =>
    have := Nat.le_of_ble_eq_true h
    rw [dbl_inf, Nat.min_eq_left this]
    cases neg <;> rfl
def roundF (neg : Bool) (m L e : Nat) : Nat :=
  bif Nat.ble L 52 then wordF neg (Nat.add (Nat.mul e 4503599627370496) (Nat.mul m (Nat.pow 2 (Nat.sub 52 L)))) else
  sl (Nat.pow 2 (Nat.sub L 52)) fun g => sl (Nat.div m g) fun lo => sl (Nat.mul 2 (Nat.mod m g)) fun r2 =>
  wordF neg (Nat.add (Nat.mul e 4503599627370496) (Nat.add lo (bif Nat.ble r2 g then (bif Nat.beq r2 g then Nat.mod lo 2 else 0) else 1)))
def nearF (neg : Bool) (m E off : Nat) : Nat :=
  bif Nat.beq m 0 then double.word neg 0 else
  sl (Nat.log2 m) fun L => bif Nat.ble off (Nat.add (Nat.add E L) 1022) then sl (Nat.sub (Nat.add (Nat.add E L) 1022) off) fun e => roundF neg m L e
  else double.nearest neg m ((E : Int) - (off : Int))
theorem cut_zero (s : Bool) (n : Nat) : Toward.even.cut s n 0 = n := by
  have := cut_near s n 0
  rw [Nat.pow_zero, Nat.mul_one] at this; omega
theorem nearF_eq (neg : Bool) (m E off : Nat) : nearF neg m E off = double.nearest neg m ((E : Int) - (off : Int)) := by
  unfold nearF
  by_cases hm : m = 0
  · subst hm; rfl
  have hb : Nat.beq m 0 = false := by cases m with
    | zero => exact absurd rfl hm
    | succ k => rfl
  rw [hb, cond_false, sl_eq]
  cases h : Nat.ble off (Nat.add (Nat.add E m.log2) 1022) with
  | false => rfl
  | true =>
    have h := Nat.le_of_ble_eq_true h
    have h : off ≤ E + m.log2 + 1022 := h
    rw [cond_true, sl_eq]
    obtain ⟨e, he⟩ : ∃ e, e = Nat.sub (Nat.add (Nat.add E m.log2) 1022) off := ⟨_, rfl⟩
    have he' : (e : Int) = E + m.log2 + 1022 - off := by
      have : e = (E + m.log2 + 1022) - off := he
      omega
    rw [← he]
    unfold Format.nearest
    rw [if_neg hm, show (double.fractionBits : Int) = 52 from rfl, dbl_least]
    rw [show max ((E : Int) - off + (m.log2 : Int) - 52) (-1074) = (e : Int) - 1074 by omega]
    dsimp only
    rw [show ((e : Int) - 1074 - -1074).toNat = e by omega]
    unfold roundF
    cases hL : Nat.ble m.log2 52 with
    | true =>
      have hL := Nat.le_of_ble_eq_true hL
      rw [cond_true, show ((E : Int) - off - ((e : Int) - 1074)).toNat = 52 - m.log2 by omega, show ((e : Int) - 1074 - ((E : Int) - off)).toNat = 0 by omega, cut_zero, wordF_eq, Nat.shiftLeft_eq]
      rfl
    | false =>
      have hL : 52 < m.log2 := by
        refine Classical.byContradiction fun hc => ?_
        rw [Nat.ble_eq_true_of_le (by omega)] at hL; cases hL
      rw [cond_false, show ((E : Int) - off - ((e : Int) - 1074)).toNat = 0 by omega, show ((e : Int) - 1074 - ((E : Int) - off)).toNat = m.log2 - 52 by omega, Nat.shiftLeft_zero, sl_eq, sl_eq, sl_eq, wordF_eq]
      congr 2
      refine congrArg (fun x => e * double.binade + x) ?_
      unfold Toward.cut
      rw [Nat.min_eq_left (by omega), Nat.one_shiftLeft]
      dsimp only
      show Nat.add _ _ = _
      have hg : Nat.pow 2 (Nat.sub m.log2 52) = 2 ^ (m.log2 - 52) := rfl
      rw [hg]
      generalize 2 ^ (m.log2 - 52) = g
      show m / g + _ = _
      congr 1
      show (bif Nat.ble (2 * (m % g)) g then (bif Nat.beq (2 * (m % g)) g then m / g % 2 else 0) else 1) = _
      cases h1 : Nat.ble (2 * (m % g)) g with
      | false =>
        have h1 : g < 2 * (m % g) := by
          refine Classical.byContradiction fun hc => ?_
          rw [Nat.ble_eq_true_of_le (by omega)] at h1; cases h1
        rw [decide_eq_true h1]; rfl
      | true =>
        have h1 := Nat.le_of_ble_eq_true h1
        rw [decide_eq_false (by omega)]
        cases h2 : Nat.beq (2 * (m % g)) g with
        | true =>
          have h2 := Nat.eq_of_beq_eq_true h2
          rw [show (g == 2 * (m % g)) = true from beq_iff_eq.2 h2.symm]
          show m / g % 2 = (m / g % 2 == 1).toNat
          rcases Nat.mod_two_eq_zero_or_one (m / g) with h3 | h3 <;> rw [h3] <;> rfl
        | false =>
          have h2 : g ≠ 2 * (m % g) := fun hc => by
            rw [← hc] at h2
            rw [show Nat.beq g g = true from Nat.beq_refl g] at h2; cases h2
          rw [show (g == 2 * (m % g)) = false from beq_eq_false_iff_ne.2 h2]; rfl
def negF (w : Nat) : Bool := Nat.ble 1 (Nat.mod (Nat.div w 9223372036854775808) 2)
def mantF (r : Nat) : Nat := bif Nat.ble 4503599627370496 r then Nat.add 4503599627370496 (Nat.mod r 4503599627370496) else r
def expF (r : Nat) : Nat := bif Nat.ble 4503599627370496 r then Nat.div r 4503599627370496 else 1
theorem read_F {w r : Nat} (hr : r = w % 9223372036854775808) (h : r < 9218868437227405312) : double.read w = .number (negF w) (mantF r) ((expF r : Int) - 1075) := by
  unfold Format.read
  rw [dbl_sign, dbl_binade, dbl_inf, dbl_least, ← hr]
  have h1 : (w / 9223372036854775808 % 2 == 1) = negF w := by
    unfold negF
    show _ = Nat.ble 1 (w / 9223372036854775808 % 2)
    rcases Nat.mod_two_eq_zero_or_one (w / 9223372036854775808) with h3 | h3 <;> rw [h3] <;> rfl
  rw [h1]
  unfold mantF expF
  dsimp only
  cases h2 : Nat.ble 4503599627370496 r with
  | true =>
    have h2 := Nat.le_of_ble_eq_true h2
    rw [if_neg (by omega), if_pos h, cond_true, cond_true]
    show Datum.number _ _ _ = .number _ (4503599627370496 + r % 4503599627370496) (((r / 4503599627370496 : Nat) : Int) - 1075)
    congr 1; omega
  | false =>
    have h2 : r < 4503599627370496 := by
      refine Classical.byContradiction fun hc => ?_
      rw [Nat.ble_eq_true_of_le (by omega)] at h2; cases h2
    rw [if_pos h2, cond_false, cond_false]; rfl
def finB (r : Nat) : Bool := Nat.ble r 9218868437227405311
theorem finB_lt {r : Nat} (h : finB r = true) : r < 9218868437227405312 := by
  have := Nat.le_of_ble_eq_true h; omega
def mulF (a b : Nat) : Option Nat :=
  sl a fun a => sl b fun b => sl (Nat.mod a 9223372036854775808) fun ra => sl (Nat.mod b 9223372036854775808) fun rb =>
  bif finB ra && finB rb then some (nearF (negF a ^^ negF b) (Nat.mul (mantF ra) (mantF rb)) (Nat.add (expF ra) (expF rb)) 2150) else double.mul a b
theorem mulF_eq (a b : Nat) : mulF a b = double.mul a b := by
  unfold mulF
  rw [sl_eq, sl_eq, sl_eq, sl_eq]
  cases h1 : finB (Nat.mod a 9223372036854775808) with
  | false => rfl
  | true =>
    cases h2 : finB (Nat.mod b 9223372036854775808) with
    | false => rfl
    | true =>
      unfold Format.mul
      rw [read_F (w := a) rfl (finB_lt h1), read_F (w := b) rfl (finB_lt h2)]
      show some _ = some (double.nearest _ _ _)
      rw [nearF_eq]
      congr 2
      show ((expF (Nat.mod a 9223372036854775808) + expF (Nat.mod b 9223372036854775808) : Nat) : Int) - ((2150 : Nat) : Int) = (expF (Nat.mod a 9223372036854775808) : Int) - 1075 + ((expF (Nat.mod b 9223372036854775808) : Int) - 1075)
      omega
def sumF (s t : Bool) (A B E : Nat) : Nat :=
  bif s ^^ t then (bif Nat.ble B A then (bif Nat.ble A B then double.word false 0 else nearF s (Nat.sub A B) E 1075) else nearF t (Nat.sub B A) E 1075) else nearF s (Nat.add A B) E 1075
theorem sumF_eq (s t : Bool) (m n i j E : Nat) (hE : E = min i j) : some (sumF s t (m * 2 ^ (i - E)) (n * 2 ^ (j - E)) E) = ((Datum.number s m ((i : Int) - 1075)).sum (.number t n ((j : Int) - 1075))).map double.write := by
  have hmin : min ((i : Int) - 1075) ((j : Int) - 1075) = (E : Int) - 1075 := by omega
  unfold Datum.sum
  dsimp only
  rw [hmin, show ((i : Int) - 1075 - ((E : Int) - 1075)).toNat = i - E by omega, show ((j : Int) - 1075 - ((E : Int) - 1075)).toNat = j - E by omega]
  unfold signed
  rw [Nat.shiftLeft_eq, Nat.shiftLeft_eq]
  generalize m * 2 ^ (i - E) = A
  generalize n * 2 ^ (j - E) = B
  show some _ = some (double.nearest _ _ _)
  congr 1
  unfold sumF
  have hw : ∀ neg, double.word neg 0 = double.nearest neg 0 ((E : Int) - 1075) := fun neg => rfl
  cases s <;> cases t
  · rw [show (false ^^ false) = false from rfl, cond_false, nearF_eq]
    simp only [Bool.false_eq_true, if_false]
    by_cases h0 : (A : Int) + B = 0
    · rw [if_pos h0]
      show double.nearest false (A + B) _ = double.nearest false _ _
      rw [show ((A : Int) + B).natAbs = A + B by omega]; rfl
    · rw [if_neg h0, decide_eq_false (by omega)]
      show double.nearest false (A + B) _ = double.nearest false _ _
      rw [show ((A : Int) + B).natAbs = A + B by omega]; rfl
  · rw [show (false ^^ true) = true from rfl, cond_true]
    simp only [Bool.false_eq_true, if_false, if_true]
    cases h1 : Nat.ble B A with
    | true =>
      have h1 := Nat.le_of_ble_eq_true h1
      rw [cond_true]
      cases h2 : Nat.ble A B with
      | true =>
        have h2 := Nat.le_of_ble_eq_true h2
        rw [cond_true, if_pos (by omega), show ((A : Int) + -B).natAbs = 0 by omega, hw]; rfl
      | false =>
        have h2 : ¬ A ≤ B := fun hc => by rw [Nat.ble_eq_true_of_le hc] at h2; cases h2
        rw [cond_false, nearF_eq, if_neg (by omega), decide_eq_false (by omega), show ((A : Int) + -B).natAbs = Nat.sub A B by show _ = A - B; omega]; rfl
    | false =>
      have h1 : ¬ B ≤ A := fun hc => by rw [Nat.ble_eq_true_of_le hc] at h1; cases h1
      rw [cond_false, nearF_eq, if_neg (by omega), decide_eq_true (by omega), show ((A : Int) + -B).natAbs = Nat.sub B A by show _ = B - A; omega]; rfl
  · rw [show (true ^^ false) = true from rfl, cond_true]
    simp only [Bool.false_eq_true, if_false, if_true]
    cases h1 : Nat.ble B A with
    | true =>
      have h1 := Nat.le_of_ble_eq_true h1
      rw [cond_true]
      cases h2 : Nat.ble A B with
      | true =>
        have h2 := Nat.le_of_ble_eq_true h2
        rw [cond_true, if_pos (by omega), show (-(A : Int) + B).natAbs = 0 by omega, hw]; rfl
      | false =>
        have h2 : ¬ A ≤ B := fun hc => by rw [Nat.ble_eq_true_of_le hc] at h2; cases h2
        rw [cond_false, nearF_eq, if_neg (by omega), decide_eq_true (by omega), show (-(A : Int) + B).natAbs = Nat.sub A B by show _ = A - B; omega]; rfl
    | false =>
      have h1 : ¬ B ≤ A := fun hc => by rw [Nat.ble_eq_true_of_le hc] at h1; cases h1
      rw [cond_false, nearF_eq, if_neg (by omega), decide_eq_false (by omega), show (-(A : Int) + B).natAbs = Nat.sub B A by show _ = B - A; omega]; rfl
  · rw [show (true ^^ true) = false from rfl, cond_false, nearF_eq]
    simp only [if_true]
    by_cases h0 : -(A : Int) + -B = 0
    · rw [if_pos h0]
      show double.nearest true (A + B) _ = double.nearest true _ _
      rw [show (-(A : Int) + -B).natAbs = A + B by omega]; rfl
    · rw [if_neg h0, decide_eq_true (by omega)]
      show double.nearest true (A + B) _ = double.nearest true _ _
      rw [show (-(A : Int) + -B).natAbs = A + B by omega]; rfl
def minF (i j : Nat) : Nat := bif Nat.ble i j then i else j
theorem minF_eq (i j : Nat) : minF i j = min i j := by
  unfold minF
  cases h : Nat.ble i j with
  | true => have := Nat.le_of_ble_eq_true h; rw [cond_true, Nat.min_eq_left this]
  | false =>
    have : ¬ i ≤ j := fun hc => by rw [Nat.ble_eq_true_of_le hc] at h; cases h
    rw [cond_false, Nat.min_eq_right (by omega)]
def asF (flip : Bool) (a b : Nat) (d : Option Nat) : Option Nat :=
  sl a fun a => sl b fun b => sl (Nat.mod a 9223372036854775808) fun ra => sl (Nat.mod b 9223372036854775808) fun rb =>
  bif finB ra && finB rb then sl (expF ra) fun i => sl (expF rb) fun j => sl (minF i j) fun E => sl (Nat.mul (mantF ra) (Nat.pow 2 (Nat.sub i E))) fun A => sl (Nat.mul (mantF rb) (Nat.pow 2 (Nat.sub j E))) fun B => some (sumF (negF a) (flip ^^ negF b) A B E) else d
def addF (a b : Nat) : Option Nat := asF false a b (double.add a b)
def subF (a b : Nat) : Option Nat := asF true a b (double.sub a b)
theorem addF_eq (a b : Nat) : addF a b = double.add a b := by
  unfold addF asF
  rw [sl_eq, sl_eq, sl_eq, sl_eq]
  cases h1 : finB (Nat.mod a 9223372036854775808) with
  | false => rfl
  | true =>
    cases h2 : finB (Nat.mod b 9223372036854775808) with
    | false => rfl
    | true =>
      rw [show (true && true) = true from rfl, cond_true, sl_eq, sl_eq, sl_eq, sl_eq, sl_eq]
      unfold Format.add
      rw [read_F (w := a) rfl (finB_lt h1), read_F (w := b) rfl (finB_lt h2), Bool.false_xor]
      exact sumF_eq _ _ _ _ _ _ _ (minF_eq _ _)
theorem subF_eq (a b : Nat) : subF a b = double.sub a b := by
  unfold subF asF
  rw [sl_eq, sl_eq, sl_eq, sl_eq]
  cases h1 : finB (Nat.mod a 9223372036854775808) with
  | false => rfl
  | true =>
    cases h2 : finB (Nat.mod b 9223372036854775808) with
    | false => rfl
    | true =>
      rw [show (true && true) = true from rfl, cond_true, sl_eq, sl_eq, sl_eq, sl_eq, sl_eq]
      unfold Format.sub
      rw [read_F (w := a) rfl (finB_lt h1), read_F (w := b) rfl (finB_lt h2), Bool.true_xor]
      exact sumF_eq _ _ _ _ _ _ _ (minF_eq _ _)
end Go.Proofs.YtbdnkneedengcaaGreatDoor.Ie

/- The sine and the cosine as the library makes them, in doubles; near to the table. Conditions: none. -/
set_option linter.unusedSimpArgs false
set_option linter.unusedVariables false
namespace Go.Proofs.YtbdnkneedengcaaGreatDoor.Ie
open Ieee
def fIs (o : Ordering) (x y : Nat) : Bool := double.order x y == some o
def fNat (n : Nat) : Nat := double.write (.number false n 0)
def fNeg (x : Nat) : Nat := x ^^^ 2 ^ 63
/-- a way to reckon with doubles -/
structure Ops where
  mul : Nat → Nat → Option Nat
  add : Nat → Nat → Option Nat
  sub : Nat → Nat → Option Nat
def dbl : Ops := ⟨double.mul, double.add, double.sub⟩
def fastO : Ops := ⟨mulF, addF, subF⟩
theorem fast_eq : fastO = dbl := by
  unfold fastO dbl
  rw [show mulF = double.mul from funext fun a => funext fun b => mulF_eq a b, show addF = double.add from funext fun a => funext fun b => addF_eq a b, show subF = double.sub from funext fun a => funext fun b => subF_eq a b]
def poly (o : Ops) (c : List Nat) (zz : Nat) : Option Nat := match c with
  | [c0, c1, c2, c3, c4, c5] =>
    (o.mul c0 zz).bind fun a => (o.add a c1).bind fun a => (o.mul a zz).bind fun a => (o.add a c2).bind fun a => (o.mul a zz).bind fun a => (o.add a c3).bind fun a =>
    (o.mul a zz).bind fun a => (o.add a c4).bind fun a => (o.mul a zz).bind fun a => o.add a c5
  | _ => none
def sinT : List Nat := [4460209587652500685, 13716528389658582877, 4523617212962785441, 13774824197404483331, 4575957461383575504, 13818544856648471880]
def cosT : List Nat := [13666448263388469915, 4477121864728985349, 13732177093698800582, 4537941361668146421, 13787419979223748497, 4586165620538955083]
/-- what lies in an octant: the octant, its middle, the rest -/
def restO (o : Ops) (x y : Nat) : Option Nat :=
  (o.mul y 4605249456957292544).bind fun a => (o.sub x a).bind fun b => (o.mul y 4495793288086814720).bind fun c => (o.sub b c).bind fun d => (o.mul y 4388835458085048688).bind fun e => o.sub d e
/-- sine and cosine of the rest -/
def partsO (o : Ops) (w : Nat) : Option (Nat × Nat) :=
  (o.mul w w).bind fun zz =>
  (o.mul 4602678819172646912 zz).bind fun h => (o.sub 4607182418800017408 h).bind fun c1 => (o.mul zz zz).bind fun z4 => (poly o cosT zz).bind fun pc => (o.mul z4 pc).bind fun c2 => (o.add c1 c2).bind fun co =>
  (o.mul w zz).bind fun w3 => (poly o sinT zz).bind fun ps => (o.mul w3 ps).bind fun s2 => (o.add w s2).bind fun si => some (si, co)
def octO (o : Ops) (j0 : Nat) : Option (Nat × Nat) := if j0 % 2 = 1 then (o.add (fNat j0) 4607182418800017408).map fun y => ((j0 + 1) % 8, y) else some (j0 % 8, fNat j0)
def signO (j : Nat) (sg : Bool) (p : Nat × Nat) : Nat × Nat :=
  let ss := if j > 3 then !sg else sg
  let j' := if j > 3 then j - 4 else j
  let cs := (decide (j > 3)) ^^ (decide (j' > 1))
  let q := if j' = 1 ∨ j' = 2 then (p.2, p.1) else p
  (if ss then fNeg q.1 else q.1, if cs then fNeg q.2 else q.2)
/-- sine and cosine -/
def sincosO (o : Ops) (x0 : Nat) : Option (Nat × Nat) :=
  if fIs .eq x0 0 then some (x0, 4607182418800017408) else
  if fIs .eq x0 x0 && !fIs .gt (x0 % 9223372036854775808) 9218868437227405311 then
    let sg := fIs .lt x0 0
    let x := if sg then fNeg x0 else x0
    if fIs .gt x 4737786807993761792 || fIs .eq x 4737786807993761792 then none else
    (o.mul x 4608412980311869571).bind fun p =>
    match (double.read p).toInt .zero with
    | some n => if 0 ≤ n ∧ n ≤ 8 then (octO o n.toNat).bind fun q => (restO o x q.2).bind fun w => (partsO o w).map (signO q.1 sg) else none
    | none => none
  else none
/-- the angle -/
def angleO (o : Ops) (sign k size : Nat) : Option Nat := (o.mul sign 4611686018427387904).bind fun a => (o.mul a 4614256656552045848).bind fun b => (o.mul b (fNat k)).bind fun c => double.div c (fNat size)
/-- the factor -/
def twO (o : Ops) (sign k size : Nat) : Option (Nat × Nat) := (angleO o sign k size).bind fun a => (sincosO o a).map fun p => (p.2, p.1)
/-- is a word near to P / 2^100? -/
def nearL (w : Nat) (P : Int) : Bool := match double.read w with
  | .number s m p => decide (p ≤ 0) &&
    (let D : Int := ((1267650600228229401496703205376 * 2 ^ (-p).toNat : Nat) : Int)
     let d : Int := ((if s then -(m : Int) else m) * 1267650600228229401496703205376 - P * ((2 ^ (-p).toNat : Nat) : Int)) * 2251799813685248
     decide (-D ≤ d) && decide (d ≤ D))
  | _ => false
/-- the factors of one angle, forth and back -/
def rowL (o : Ops) (k : Nat) (P Q : Int) : Bool := match twO o 4607182418800017408 k 2048, twO o 13830554455654793216 (1024 - k) 2048 with
  | some a, some b => nearL a.1 P && nearL a.2 Q && nearL b.1 (-P) && nearL b.2 (-Q)
  | _, _ => false
def rowsB (o : Ops) : Nat → List (Int × Int) → Bool
  | _, [] => true
  | k, x :: l => rowL o k x.1 x.2 && rowsB o (k + 1) l
/-- is each entry the one ahead of it, turned by one step? -/
def stepB : Int → Int → List (Int × Int) → Bool
  | _, _, [] => true
  | P, Q, x :: l =>
    (let a := x.1 * 1267650600228229401496703205376 - (P * 1267644634423113846968036898775 - Q * 3889097232048075534265022357)
     let b := x.2 * 1267650600228229401496703205376 - (P * 3889097232048075534265022357 + Q * 1267644634423113846968036898775)
     decide (-1267650600228229401496703205376 ≤ a) && decide (a ≤ 1267650600228229401496703205376) && decide (-1267650600228229401496703205376 ≤ b) && decide (b ≤ 1267650600228229401496703205376)) && stepB x.1 x.2 l
/-- the angles of a size are those of the greatest -/
def angB (sign size m : Nat) : Nat → Nat → Bool
  | 0, _ => true
  | f + 1, k => (match angleO fastO sign k size, angleO fastO sign (m * k) 2048 with | some a, some b => Nat.beq a b | _, _ => false) && angB sign size m f (k + 1)
/-- row i of a table that begins at k -/
def R (k : Nat) (l : List (Int × Int)) (i : Nat) : Bool := match l.getD i (0, 0) with | (p, q) => rowL fastO (k + i) p q
theorem rowsB_of : ∀ (l : List (Int × Int)) (k : Nat), (∀ i, i < l.length → R k l i = true) → rowsB fastO k l = true
  | [], _, _ => rfl
  | (p, q) :: l, k, h => by
    unfold rowsB
    rw [Bool.and_eq_true]
    refine ⟨h 0 (by simp), rowsB_of l (k + 1) fun i hi => ?_⟩
    have h1 := h (i + 1) (by simpa using hi)
    unfold R at h1 ⊢
    rw [Nat.add_assoc, Nat.add_comm 1 i]
    exact h1
theorem all64 {P : Nat → Prop} (h0 : P 0) (h1 : P 1) (h2 : P 2) (h3 : P 3) (h4 : P 4) (h5 : P 5) (h6 : P 6) (h7 : P 7) (h8 : P 8) (h9 : P 9) (h10 : P 10) (h11 : P 11) (h12 : P 12) (h13 : P 13) (h14 : P 14) (h15 : P 15) (h16 : P 16) (h17 : P 17) (h18 : P 18) (h19 : P 19) (h20 : P 20) (h21 : P 21) (h22 : P 22) (h23 : P 23) (h24 : P 24) (h25 : P 25) (h26 : P 26) (h27 : P 27) (h28 : P 28) (h29 : P 29) (h30 : P 30) (h31 : P 31) (h32 : P 32) (h33 : P 33) (h34 : P 34) (h35 : P 35) (h36 : P 36) (h37 : P 37) (h38 : P 38) (h39 : P 39) (h40 : P 40) (h41 : P 41) (h42 : P 42) (h43 : P 43) (h44 : P 44) (h45 : P 45) (h46 : P 46) (h47 : P 47) (h48 : P 48) (h49 : P 49) (h50 : P 50) (h51 : P 51) (h52 : P 52) (h53 : P 53) (h54 : P 54) (h55 : P 55) (h56 : P 56) (h57 : P 57) (h58 : P 58) (h59 : P 59) (h60 : P 60) (h61 : P 61) (h62 : P 62) (h63 : P 63) : ∀ i, i < 64 → P i
  | 0, _ => h0
  | 1, _ => h1
  | 2, _ => h2
  | 3, _ => h3
  | 4, _ => h4
  | 5, _ => h5
  | 6, _ => h6
  | 7, _ => h7
  | 8, _ => h8
  | 9, _ => h9
  | 10, _ => h10
  | 11, _ => h11
  | 12, _ => h12
  | 13, _ => h13
  | 14, _ => h14
  | 15, _ => h15
  | 16, _ => h16
  | 17, _ => h17
  | 18, _ => h18
  | 19, _ => h19
  | 20, _ => h20
  | 21, _ => h21
  | 22, _ => h22
  | 23, _ => h23
  | 24, _ => h24
  | 25, _ => h25
  | 26, _ => h26
  | 27, _ => h27
  | 28, _ => h28
  | 29, _ => h29
  | 30, _ => h30
  | 31, _ => h31
  | 32, _ => h32
  | 33, _ => h33
  | 34, _ => h34
  | 35, _ => h35
  | 36, _ => h36
  | 37, _ => h37
  | 38, _ => h38
  | 39, _ => h39
  | 40, _ => h40
  | 41, _ => h41
  | 42, _ => h42
  | 43, _ => h43
  | 44, _ => h44
  | 45, _ => h45
  | 46, _ => h46
  | 47, _ => h47
  | 48, _ => h48
  | 49, _ => h49
  | 50, _ => h50
  | 51, _ => h51
  | 52, _ => h52
  | 53, _ => h53
  | 54, _ => h54
  | 55, _ => h55
  | 56, _ => h56
  | 57, _ => h57
  | 58, _ => h58
  | 59, _ => h59
  | 60, _ => h60
  | 61, _ => h61
  | 62, _ => h62
  | 63, _ => h63
  | n + 64, h => absurd h (by omega)
end Go.Proofs.YtbdnkneedengcaaGreatDoor.Ie

/- Doubles and complex numbers in a walk. Conditions: none. -/
set_option linter.unusedSimpArgs false
set_option linter.unusedVariables false
namespace Go.Proofs.YtbdnkneedengcaaGreatDoor
open Go Ie
abbrev vf (w : Nat) : Value := .float .f64 w
abbrev vc (w : Nat × Nat) : Value := .complex .f64 w.1 w.2
section
variable {P : Program} {G : Nat} {Ext : FuncId → List Value → Mem → Outc → Mem → Prop} {e : Env} {S : Mem} {fl : Bool} {ops : Array Oper} {K : Kont}
variable {rest : List Oper} {dst : Option Tmp} {ty : TypeId} {pos : String} {af : Array Edge} {gd : Option (Nat × Bool)}
theorem arith_add {a b r : Nat} (h : Ieee.double.add a b = some r) : Op.floatArith .add .f64 a b = Pure.pure (vf r) := by
  unfold Op.floatArith
  simp only [pure_bind]
  rw [show FloatKind.f64.format.add a b = some r from h]
theorem arith_sub {a b r : Nat} (h : Ieee.double.sub a b = some r) : Op.floatArith .sub .f64 a b = Pure.pure (vf r) := by
  unfold Op.floatArith
  simp only [pure_bind]
  rw [show FloatKind.f64.format.sub a b = some r from h]
theorem arith_mul {a b r : Nat} (h : Ieee.double.mul a b = some r) : Op.floatArith .mul .f64 a b = Pure.pure (vf r) := by
  unfold Op.floatArith
  simp only [pure_bind]
  rw [show FloatKind.f64.format.mul a b = some r from h]
theorem carith {op : BinOp} {a b r : Nat} (h : Op.floatArith op .f64 a b = Pure.pure (vf r)) : Op.Complex.arith op .f64 a b = Pure.pure r := by
  unfold Op.Complex.arith
  rw [h]; rfl
theorem L.cadd {t yt : TypeId} {x y : Operand} {a b r : Nat × Nat} (hr : Ie.cadd a b = some r) (hx : e.eval x = vc a) (hy : e.eval y = vc b)
    (hw : awanted ops ⟨dst, .binOp .add t x y yt, ty, pos, af, gd⟩ e = true) (h : L P G Ext fl ops rest (e.put dst (vc r)) S K) : L P G Ext fl ops (⟨dst, .binOp .add t x y yt, ty, pos, af, gd⟩ :: rest) e S K := by
  refine L.flat (by simp [Op.operands, hx, hy]; exact ⟨rfl, rfl⟩) rfl nofun ?_ hw h
  obtain ⟨a1, a2⟩ := a
  obtain ⟨b1, b2⟩ := b
  unfold Ie.cadd at hr
  rw [Option.bind_eq_some_iff] at hr
  obtain ⟨r1, h1, hr⟩ := hr
  rw [Option.map_eq_some_iff] at hr
  obtain ⟨r2, h2, rfl⟩ := hr
  have hb : binOp .add t (.complex .f64 a1 a2) (.complex .f64 b1 b2) = Pure.pure (.complex .f64 r1 r2) := by
    show Op.complexOp .add .f64 a1 a2 b1 b2 = _
    unfold Op.complexOp
    dsimp only
    rw [carith (arith_add h1), carith (arith_add h2)]; rfl
  simp only [execOp, hx, hy, pureRun_bind, hb]
  rfl
theorem L.csub {t yt : TypeId} {x y : Operand} {a b r : Nat × Nat} (hr : Ie.csub a b = some r) (hx : e.eval x = vc a) (hy : e.eval y = vc b)
    (hw : awanted ops ⟨dst, .binOp .sub t x y yt, ty, pos, af, gd⟩ e = true) (h : L P G Ext fl ops rest (e.put dst (vc r)) S K) : L P G Ext fl ops (⟨dst, .binOp .sub t x y yt, ty, pos, af, gd⟩ :: rest) e S K := by
  refine L.flat (by simp [Op.operands, hx, hy]; exact ⟨rfl, rfl⟩) rfl nofun ?_ hw h
  obtain ⟨a1, a2⟩ := a
  obtain ⟨b1, b2⟩ := b
  unfold Ie.csub at hr
  rw [Option.bind_eq_some_iff] at hr
  obtain ⟨r1, h1, hr⟩ := hr
  rw [Option.map_eq_some_iff] at hr
  obtain ⟨r2, h2, rfl⟩ := hr
  have hb : binOp .sub t (.complex .f64 a1 a2) (.complex .f64 b1 b2) = Pure.pure (.complex .f64 r1 r2) := by
    show Op.complexOp .sub .f64 a1 a2 b1 b2 = _
    unfold Op.complexOp
    dsimp only
    rw [carith (arith_sub h1), carith (arith_sub h2)]; rfl
  simp only [execOp, hx, hy, pureRun_bind, hb]
  rfl
theorem L.cmul {t yt : TypeId} {x y : Operand} {a b r : Nat × Nat} (hr : Ie.cmul a b = some r) (hx : e.eval x = vc a) (hy : e.eval y = vc b)
    (hw : awanted ops ⟨dst, .binOp .mul t x y yt, ty, pos, af, gd⟩ e = true) (h : L P G Ext fl ops rest (e.put dst (vc r)) S K) : L P G Ext fl ops (⟨dst, .binOp .mul t x y yt, ty, pos, af, gd⟩ :: rest) e S K := by
  refine L.flat (by simp [Op.operands, hx, hy]; exact ⟨rfl, rfl⟩) rfl nofun ?_ hw h
  obtain ⟨a1, a2⟩ := a
  obtain ⟨b1, b2⟩ := b
  unfold Ie.cmul at hr
  rw [Option.bind_eq_some_iff] at hr
  obtain ⟨ac, h1, hr⟩ := hr
  rw [Option.bind_eq_some_iff] at hr
  obtain ⟨bd, h2, hr⟩ := hr
  rw [Option.bind_eq_some_iff] at hr
  obtain ⟨r1, h3, hr⟩ := hr
  rw [Option.bind_eq_some_iff] at hr
  obtain ⟨ad, h4, hr⟩ := hr
  rw [Option.bind_eq_some_iff] at hr
  obtain ⟨bc, h5, hr⟩ := hr
  rw [Option.map_eq_some_iff] at hr
  obtain ⟨r2, h6, rfl⟩ := hr
  have hp : Op.Complex.product a1 a2 b1 b2 = Pure.pure (r1, r2) := by
    unfold Op.Complex.product Op.Complex.mul Op.Complex.sub Op.Complex.add
    rw [carith (arith_mul h1), carith (arith_mul h2), carith (arith_mul h4), carith (arith_mul h5)]
    simp only [pure_bind]
    rw [carith (arith_sub h3), carith (arith_add h6)]
    simp only [pure_bind]
  have hb : binOp .mul t (.complex .f64 a1 a2) (.complex .f64 b1 b2) = Pure.pure (.complex .f64 r1 r2) := by
    show Op.complexOp .mul .f64 a1 a2 b1 b2 = _
    unfold Op.complexOp Op.Complex.conv
    dsimp only
    simp only [if_true, pure_bind]
    show (Op.Complex.product a1 a2 b1 b2 >>= _) = _
    rw [hp]; rfl
  simp only [execOp, hx, hy, pureRun_bind, hb]
  rfl
end
end Go.Proofs.YtbdnkneedengcaaGreatDoor

/- The sine and the cosine, walked. Conditions: none. -/
set_option linter.unusedSimpArgs false
set_option linter.unusedVariables false
set_option maxRecDepth 100000
namespace Go.Proofs.YtbdnkneedengcaaGreatDoor
open Go Ie
variable {Ext : FuncId → List Value → Mem → Outc → Mem → Prop}
/-- how many variables may be named -/
noncomputable abbrev gN : Nat := Tryz.prog.globals.size
def RowIs (S : Mem) (g : Nat) (l : List Value) : Prop := ∃ r, S.row? g = some r ∧ r.cells.take l.length = l
theorem RowIs.cons {S T : Mem} {g : Nat} {l : List Value} (h : RowIs S g l) (k : Cons S T) : RowIs T g l := by
  obtain ⟨r, h1, h2⟩ := h
  exact ⟨r, k.row h1, h2⟩
theorem RowIs.cell {S : Mem} {g : Nat} {l : List Value} (h : RowIs S g l) {k : Nat} {v : Value} (hv : l[k]? = some v) : ∃ r, S.row? g = some r ∧ r.cells[k]? = some v := by
  obtain ⟨r, h1, h2⟩ := h
  refine ⟨r, h1, ?_⟩
  have hlt : k < l.length := (List.getElem?_eq_some_iff.1 hv).1
  rw [← h2, List.getElem?_take, if_pos hlt] at hv
  exact hv
/-- the coefficients lie in memory -/
def SinOk (S : Mem) : Prop := RowIs S 3 (cosT.map vf) ∧ RowIs S 4 (sinT.map vf)
theorem SinOk.cons {S T : Mem} (h : SinOk S) (k : Cons S T) : SinOk T := ⟨h.1.cons k, h.2.cons k⟩
attribute [local irreducible] Ieee.Format.add Ieee.Format.sub Ieee.Format.mul Ieee.Format.div Ieee.Format.order Ieee.Format.nearest Ieee.Datum.toInt
end Go.Proofs.YtbdnkneedengcaaGreatDoor

/- The sine and the cosine, walked. Conditions: none. -/
set_option linter.unusedSimpArgs false
set_option linter.unusedVariables false
set_option maxRecDepth 100000
set_option maxHeartbeats 4000000
namespace Go.Proofs.YtbdnkneedengcaaGreatDoor
open Go Ie
variable {Ext : FuncId → List Value → Mem → Outc → Mem → Prop}
attribute [local irreducible] Ieee.Format.add Ieee.Format.sub Ieee.Format.mul Ieee.Format.div Ieee.Format.order Ieee.Format.nearest Ieee.Datum.toInt
end Go.Proofs.YtbdnkneedengcaaGreatDoor

/- The table of factors, row by row, part 1 (printed by twid.py). Conditions: none. -/
set_option linter.unusedSimpArgs false
set_option linter.unusedVariables false
set_option maxRecDepth 100000
namespace Go.Proofs.YtbdnkneedengcaaGreatDoor.Ie.Tw
def t0 : List (Int × Int) := [(1267650600228229401496703205376, 0), (1267644634423113846968036898775, 3889097232048075534265022357), (1267626737063919613192537442168, 7778157858431849463462493803), (1267596908319103461073648327390, 11667145273831566636113051669), (1267555148469424897028567089014, 15556022873616561564911268890), (1267501457907943530372844305496, 19444754054189795151337043979), (1267435837140015373693644889952, 23333302213332381681381765559), (1267358286783288086246493966429, 27221630750548102849569955393), (1267268807567695160420278293038, 31109703067407905568579188451), (1267167400335449051325222437426, 34997482567894380321913704686), (1267054066041033249568506639139, 38884932658746216817270263395), (1266928805751193297292140413817, 42772016749802633698448445540), (1266791620644926747557652372289, 46658698254347779073901780293), (1266642512013472067172102349799, 50544940589455098620300756940), (1266481481260296483059866673277, 54430707176331668019783979631), (1266308529901082772294591144091, 58315961440662486489909427357), (1266123659563714995915648986524, 62200666812954728165683991876), (1265926871988263176663382514718, 66084786728881948093446178589), (1265718169026966920777347509434, 69968284629628239596804065900), (1265497552644217984011718177157, 73851123962232339775288323321), (1265265024916541782031947994246, 77733268179931679896868283233), (1265020588032577845366717624476, 81614680742506377445997741145), (1264764244293059219099135345927, 85495325116623166589406319692), (1264495996110790807491087939220, 89375164776179263822431867223), (1264215846010626663744570680107, 93254163202646165559299467271), (1263923796629446225113753851924, 97132283885413374431393204703), (1263619850716129493591469953928, 101009490322132051058237861848), (1263304011131531162403730436691, 104885746019058588056609197158), (1262976280848453688555803252012, 108761014491398103053923383301), (1262636662951619311683302668930, 112635259263647847472818544153), (1262285160637641019471660585934, 116508443869940527854634123775), (1261921777214992459917263869055, 120380531854387536490317037668), (1261546516103976800713454972864, 124251486771422088128137189636), (1261159380836694536054503163167, 128121272186142259528478978425), (1260760375057010241160560963121, 131989851674653928636889858634), (1260349502520518274836524895346, 135857188824413610147511851575), (1259926767094507430387621098132, 139723247234571184229997114959), (1259492172757924535224434860868, 143587990516312515194014266229), (1259045723601336999499998459158, 147451382293201956866488103703), (1258587423826894314131443780618, 151313386201524741457781672574), (1258117277748288498568615024951, 155173965890629248694126269257), (1257635289790713498681922143483, 159033085023269151994731957263), (1257141464490823535151597560914, 162890707275945438473168470065), (1256635806496690402750397002509, 166746796339248299543793990434), (1256118320567759720921659840422, 170601315918198888915227210315), (1255589011574806136064515180314, 174454229732590944754106278940), (1255047884499887475947886841003, 178305501517332272803656727886), (1254494944436297856684813342727, 182155095022786087242899208068), (1253930196588519742708457920809, 186002974015112206073666872939), (1253353646272174960201038328367, 189849102276608097823971481821), (1252765298913974664436756691407, 193693443606049776357656764457), (1252165160051668261509655839453, 197535961819032540581707269325), (1251553235333991284927170262183, 201376620748311555844040800613), (1250929530520612227559977044635, 205215384244142273816102618203), (1250294051482078329448584717922, 209052216174620687656099817568), (1249646804199760321976925836425, 212887080426023419250264707846), (1248987794765796128933042163662, 216719940903147635331116551886), (1248317029383033524986769524985, 220550761529650789273301706931), (1247634514364971752124142573517, 224379506248390185369232993621), (1246940256135702094588047823960, 228206139021762362388420008744), (1246234261229847412884456244736, 232030623832042293226083067883), (1245516536292500637423364370139, 235852924681722397448374501808), (1244787088079162222373365208507, 239673005593851363543292118869), (1244045923455676560318557087747, 243490830612372777688160768116)]
theorem r0 : R 0 t0 0 = true := by kernel_rfl
theorem r1 : R 0 t0 1 = true := by kernel_rfl
theorem r2 : R 0 t0 2 = true := by kernel_rfl
theorem r3 : R 0 t0 3 = true := by kernel_rfl
theorem r4 : R 0 t0 4 = true := by kernel_rfl
theorem r5 : R 0 t0 5 = true := by kernel_rfl
theorem r6 : R 0 t0 6 = true := by kernel_rfl
theorem r7 : R 0 t0 7 = true := by kernel_rfl
theorem r8 : R 0 t0 8 = true := by kernel_rfl
theorem r9 : R 0 t0 9 = true := by kernel_rfl
theorem r10 : R 0 t0 10 = true := by kernel_rfl
theorem r11 : R 0 t0 11 = true := by kernel_rfl
theorem r12 : R 0 t0 12 = true := by kernel_rfl
theorem r13 : R 0 t0 13 = true := by kernel_rfl
theorem r14 : R 0 t0 14 = true := by kernel_rfl
theorem r15 : R 0 t0 15 = true := by kernel_rfl
theorem r16 : R 0 t0 16 = true := by kernel_rfl
theorem r17 : R 0 t0 17 = true := by kernel_rfl
theorem r18 : R 0 t0 18 = true := by kernel_rfl
theorem r19 : R 0 t0 19 = true := by kernel_rfl
theorem r20 : R 0 t0 20 = true := by kernel_rfl
theorem r21 : R 0 t0 21 = true := by kernel_rfl
theorem r22 : R 0 t0 22 = true := by kernel_rfl
theorem r23 : R 0 t0 23 = true := by kernel_rfl
theorem r24 : R 0 t0 24 = true := by kernel_rfl
theorem r25 : R 0 t0 25 = true := by kernel_rfl
theorem r26 : R 0 t0 26 = true := by kernel_rfl
theorem r27 : R 0 t0 27 = true := by kernel_rfl
theorem r28 : R 0 t0 28 = true := by kernel_rfl
theorem r29 : R 0 t0 29 = true := by kernel_rfl
theorem r30 : R 0 t0 30 = true := by kernel_rfl
theorem r31 : R 0 t0 31 = true := by kernel_rfl
theorem r32 : R 0 t0 32 = true := by kernel_rfl
theorem r33 : R 0 t0 33 = true := by kernel_rfl
theorem r34 : R 0 t0 34 = true := by kernel_rfl
theorem r35 : R 0 t0 35 = true := by kernel_rfl
theorem r36 : R 0 t0 36 = true := by kernel_rfl
theorem r37 : R 0 t0 37 = true := by kernel_rfl
theorem r38 : R 0 t0 38 = true := by kernel_rfl
theorem r39 : R 0 t0 39 = true := by kernel_rfl
theorem r40 : R 0 t0 40 = true := by kernel_rfl
theorem r41 : R 0 t0 41 = true := by kernel_rfl
theorem r42 : R 0 t0 42 = true := by kernel_rfl
theorem r43 : R 0 t0 43 = true := by kernel_rfl
theorem r44 : R 0 t0 44 = true := by kernel_rfl
theorem r45 : R 0 t0 45 = true := by kernel_rfl
theorem r46 : R 0 t0 46 = true := by kernel_rfl
theorem r47 : R 0 t0 47 = true := by kernel_rfl
theorem r48 : R 0 t0 48 = true := by kernel_rfl
theorem r49 : R 0 t0 49 = true := by kernel_rfl
theorem r50 : R 0 t0 50 = true := by kernel_rfl
theorem r51 : R 0 t0 51 = true := by kernel_rfl
theorem r52 : R 0 t0 52 = true := by kernel_rfl
theorem r53 : R 0 t0 53 = true := by kernel_rfl
theorem r54 : R 0 t0 54 = true := by kernel_rfl
theorem r55 : R 0 t0 55 = true := by kernel_rfl
theorem r56 : R 0 t0 56 = true := by kernel_rfl
theorem r57 : R 0 t0 57 = true := by kernel_rfl
theorem r58 : R 0 t0 58 = true := by kernel_rfl
theorem r59 : R 0 t0 59 = true := by kernel_rfl
theorem r60 : R 0 t0 60 = true := by kernel_rfl
theorem r61 : R 0 t0 61 = true := by kernel_rfl
theorem r62 : R 0 t0 62 = true := by kernel_rfl
theorem r63 : R 0 t0 63 = true := by kernel_rfl
theorem b0 : rowsB fastO 0 t0 = true := rowsB_of _ _ (all64 (P := (R 0 t0 · = true)) r0 r1 r2 r3 r4 r5 r6 r7 r8 r9 r10 r11 r12 r13 r14 r15 r16 r17 r18 r19 r20 r21 r22 r23 r24 r25 r26 r27 r28 r29 r30 r31 r32 r33 r34 r35 r36 r37 r38 r39 r40 r41 r42 r43 r44 r45 r46 r47 r48 r49 r50 r51 r52 r53 r54 r55 r56 r57 r58 r59 r60 r61 r62 r63)
theorem s0 : stepB 1267650600228229401496703205376 0 t0.tail = true := by kernel_rfl
def t1 : List (Int × Int) := [(1243293049398167358316279903722, 247306363802463555846379077651), (1242528472992971975963943927950, 251119569250872176007979582553), (1241752201436574726092986296831, 254930411066256707390431579268), (1240964242035539138717754453150, 258738853379522633418027130880), (1240164602206439188876874050075, 262544860344160465300131682196), (1239353289475789489014411066430, 266348396136583143030551706801), (1238530311479974446557884027790, 270149424956463220632272681659), (1237695675965176387359922189334, 273947911027069832473851449580), (1236849390787302645680099221585, 277743818595605437485807666828), (1235991463911911621393199257620, 281537111933542338107449522954), (1235121903414137805119893018498, 285327755336958970796689242878), (1234240717478615771985516040981, 289115713126875964937554017375), (1233347914399403144722348696728, 292900949649591966982277937237), (1232443502579902526840498623625, 296683429277019226667070207897), (1231527490532782406602180296469, 300463116407018942142894374481), (1230599886879897032543873654634, 304239975463736360864862470985), (1229660700352205261300523887368, 308013970897935633086146900220), (1228709939789688378495617561979, 311785067187334414804641431644), (1227747614141266893470636175231, 315553228836938217012960950368), (1226773732464716308637046822865, 319318420379374498104757480210), (1225788303926581864243640925355, 323080606375226496292747514239), (1224791337802092259361675728963, 326839751413366798896292795037), (1223782843475072349899909529100, 330595820111290645358853370896), (1222762830437854824471250147238, 334348777115448960858137990002), (1221731308291190858942357042519, 338098587101581117374312658801), (1220688286744159750507150464211, 341845214775047419084193459297), (1219633775614077532134786160791, 345588624871161308951944468856), (1218567784826404568252251265293, 349328782155521293389425830763), (1217490324414652132531325984298, 353065651424342581861990659610), (1216401404520287968659236539309, 356799197504788438318212507581), (1215301035392640834981897354089, 360529385255301241324737540635), (1214189227388804033918204659712, 364256179565933249790197351871), (1213065990973537927053399410597, 367979545358677071164889447262), (1211931336719171436829064579684, 371699447587795829005732850321), (1210785275305502535756860439356, 375415851240153026798835960803), (1209627817519697724092631246874, 379128721335542104934872741557), (1208458974256190496917037749333, 382838022927015687735351470299), (1207278756516578801578382013786, 386543721101214517430777652093), (1206087175409521486462794183782, 390245780978696071994659216348), (1204884242150633742066444774542, 393944167714262863740277791331), (1203669968062381535353930956149, 397638846497290415590154631644), (1202444364573975038396460848041, 401329782552054911931173641447), (1201207443221261052292926069672, 405016941138060520971386859958), (1199959215646614427386409572301, 408700287550366385517619727018), (1198699693598828480798123026495, 412379787119913279096114396232), (1197428888933004412310205670155, 416055405213849924341599281972), (1196146813610439719638244443862, 419727107235858970583351884726), (1194853479698515614143793365363, 423394858626482627560029706966), (1193548899370583438046578334433, 427058624863447952198280718716), (1192233084905850084205471824572, 430718371461991785393410327826), (1190906048689262419546710120622, 434374063975185335733676123904), (1189567803211390713227203812975, 438025667994258407113104765891), (1188218361068311070630160071422, 441673149148923267181077240124), (1186857734961486874299592706566, 445316473107698153580309296851), (1185485937697649232929643096149, 448955605578230414928263146722), (1184102982188676439533971619510, 452590512307619283500464432742), (1182708881451472439929805217954, 456221159082738276577665055068), (1181303648607844312680541994152, 459847511730557223422287583370), (1179887296884378761650118292265, 463469536118463914853110711234), (1178459839612317622331637374609, 467087198154585372390707456182), (1177021290227432383122041542928, 470700463788108733949728553845), (1175571662269897722723881255339, 474309299009601753057732701952), (1174110969384164064864495376488, 477913669851332908583902945130), (1172639225318829151532166081222, 481513542387591121964654520794)]
theorem r64 : R 64 t1 0 = true := by kernel_rfl
theorem r65 : R 64 t1 1 = true := by kernel_rfl
theorem r66 : R 64 t1 2 = true := by kernel_rfl
theorem r67 : R 64 t1 3 = true := by kernel_rfl
theorem r68 : R 64 t1 4 = true := by kernel_rfl
theorem r69 : R 64 t1 5 = true := by kernel_rfl
theorem r70 : R 64 t1 6 = true := by kernel_rfl
theorem r71 : R 64 t1 7 = true := by kernel_rfl
theorem r72 : R 64 t1 8 = true := by kernel_rfl
theorem r73 : R 64 t1 9 = true := by kernel_rfl
theorem r74 : R 64 t1 10 = true := by kernel_rfl
theorem r75 : R 64 t1 11 = true := by kernel_rfl
theorem r76 : R 64 t1 12 = true := by kernel_rfl
theorem r77 : R 64 t1 13 = true := by kernel_rfl
theorem r78 : R 64 t1 14 = true := by kernel_rfl
theorem r79 : R 64 t1 15 = true := by kernel_rfl
theorem r80 : R 64 t1 16 = true := by kernel_rfl
theorem r81 : R 64 t1 17 = true := by kernel_rfl
theorem r82 : R 64 t1 18 = true := by kernel_rfl
theorem r83 : R 64 t1 19 = true := by kernel_rfl
theorem r84 : R 64 t1 20 = true := by kernel_rfl
theorem r85 : R 64 t1 21 = true := by kernel_rfl
theorem r86 : R 64 t1 22 = true := by kernel_rfl
theorem r87 : R 64 t1 23 = true := by kernel_rfl
theorem r88 : R 64 t1 24 = true := by kernel_rfl
theorem r89 : R 64 t1 25 = true := by kernel_rfl
theorem r90 : R 64 t1 26 = true := by kernel_rfl
theorem r91 : R 64 t1 27 = true := by kernel_rfl
theorem r92 : R 64 t1 28 = true := by kernel_rfl
theorem r93 : R 64 t1 29 = true := by kernel_rfl
theorem r94 : R 64 t1 30 = true := by kernel_rfl
theorem r95 : R 64 t1 31 = true := by kernel_rfl
theorem r96 : R 64 t1 32 = true := by kernel_rfl
theorem r97 : R 64 t1 33 = true := by kernel_rfl
theorem r98 : R 64 t1 34 = true := by kernel_rfl
theorem r99 : R 64 t1 35 = true := by kernel_rfl
theorem r100 : R 64 t1 36 = true := by kernel_rfl
theorem r101 : R 64 t1 37 = true := by kernel_rfl
theorem r102 : R 64 t1 38 = true := by kernel_rfl
theorem r103 : R 64 t1 39 = true := by kernel_rfl
theorem r104 : R 64 t1 40 = true := by kernel_rfl
theorem r105 : R 64 t1 41 = true := by kernel_rfl
theorem r106 : R 64 t1 42 = true := by kernel_rfl
theorem r107 : R 64 t1 43 = true := by kernel_rfl
theorem r108 : R 64 t1 44 = true := by kernel_rfl
theorem r109 : R 64 t1 45 = true := by kernel_rfl
theorem r110 : R 64 t1 46 = true := by kernel_rfl
theorem r111 : R 64 t1 47 = true := by kernel_rfl
theorem r112 : R 64 t1 48 = true := by kernel_rfl
theorem r113 : R 64 t1 49 = true := by kernel_rfl
theorem r114 : R 64 t1 50 = true := by kernel_rfl
theorem r115 : R 64 t1 51 = true := by kernel_rfl
theorem r116 : R 64 t1 52 = true := by kernel_rfl
theorem r117 : R 64 t1 53 = true := by kernel_rfl
theorem r118 : R 64 t1 54 = true := by kernel_rfl
theorem r119 : R 64 t1 55 = true := by kernel_rfl
theorem r120 : R 64 t1 56 = true := by kernel_rfl
theorem r121 : R 64 t1 57 = true := by kernel_rfl
theorem r122 : R 64 t1 58 = true := by kernel_rfl
theorem r123 : R 64 t1 59 = true := by kernel_rfl
theorem r124 : R 64 t1 60 = true := by kernel_rfl
theorem r125 : R 64 t1 61 = true := by kernel_rfl
theorem r126 : R 64 t1 62 = true := by kernel_rfl
theorem r127 : R 64 t1 63 = true := by kernel_rfl
theorem b1 : rowsB fastO 64 t1 = true := rowsB_of _ _ (all64 (P := (R 64 t1 · = true)) r64 r65 r66 r67 r68 r69 r70 r71 r72 r73 r74 r75 r76 r77 r78 r79 r80 r81 r82 r83 r84 r85 r86 r87 r88 r89 r90 r91 r92 r93 r94 r95 r96 r97 r98 r99 r100 r101 r102 r103 r104 r105 r106 r107 r108 r109 r110 r111 r112 r113 r114 r115 r116 r117 r118 r119 r120 r121 r122 r123 r124 r125 r126 r127)
theorem s1 : stepB (1244045923455676560318557087747) (243490830612372777688160768116) t1 = true := by kernel_rfl
def t2 : List (Int × Int) := [(1171156443926508635938050024125, 485108882735005078916833875150), (1169662639163705696421914101584, 488699657052862152632931271757), (1168157825090679672528919382844, 492285831543426925456480418158), (1166642015871313724493900484999, 495867372452259306039597793473), (1165115225772981517378779727459, 499444246068532238988421836039), (1163577469166412931117935737585, 503016418725349004006047809231), (1162028760525558797735514704499, 506583856800060101546417969534), (1160469114427454667007829106243, 510146526714579721996518577297), (1158898545552083601853133380328, 513704394935701795408155280774), (1157317068682238004740198583151, 517257427975415618804526431194), (1155724698703380476416228503863, 520805592391221058090789913459), (1154121450603503708263767877181, 524348854786443321601823066317), (1152507339472989409605349191575, 527887181810547302324407179719), (1150882380504466271283708028712, 531420540159451485835127857664), (1149246588992666966854467811399, 534948896575841420999370183910), (1147599980334284192737253195249, 538472217849482750480903087024), (1145942570027825748680237028548, 541990470817533798115690531633), (1144274373673468659902158740279, 545503622364857710207738125392), (1142595406972912342284872112870, 549011639424334147808982386883), (1140905685729230811998487569094, 552514488977170527049456228844), (1139205225846723940950168266896, 556012138053212804588218134074), (1137494043330767759456620367105, 559504553731255805259813997944), (1135772154287663807549285732413, 562991703139353088995349641468), (1134039574924487536330199947361, 566473553455126354101588521702), (1132296321548935760805419833983, 569950071906074373985853141096), (1130542410569173165631852492114, 573421225769881464418900043191), (1128777858493677865222232233139, 576886982374725478432357037454), (1127002681931086019661892517209, 580347309099585325951757379435), (1125216897590035507899867062935, 583802173374548015270679001993), (1123420522279008659685727591610, 587251542681115213475997506974), (1121613572906174047732425111617, 590695384552509322938789442031), (1119796066479227341594247159448, 594133666573979070989977361697), (1117968020105231224757834908425, 597566356383104609904390262426), (1116129450990454376453021451671, 600993421670102124321522145008), (1114280376440209519699055779121, 604414830178127943235907651160), (1112420813858690537110565916541, 607830549703582153694696900539), (1110550780748808655996389294880, 611240548096411713344701776029), (1108670294712027704293158588300, 614644793260413058975902924811), (1106779373448198438884276916358, 618043253153534208213150615965), (1104878034755391947863647367815, 621435895788176351512563277598), (1102966296529732128312238188214, 624822689231494931623924982784), (1101044176765227241164266598635, 628203601605700207685207318835), (1099111693553600544748470997046, 631578601088357301120191913117), (1097168865084120008598613154606, 634947655912685720515047355223), (1095215709643427109136008875581, 638310734367858362654618303804), (1093252245615364708835527359649, 641667804799299986904115150672), (1091278491480804020495126108025, 645018835608985160126849688431), (1089294465817470658237599568803, 648363795255735669333645744289), (1087300187299769776881815741115, 651702652255517399264563654893), (1085295674698610301329295571298, 655035375181736672108613717856), (1083280946881228247620555096403, 658361932665536046572196317748), (1081256022811009137324179840522, 661682293396089573512095240015), (1079220921547309506930134867021, 664996426120897505353965707670), (1077175662245277513927332054582, 668304299646080456522399854558), (1075120264155672641253978516739, 671605882836673012113819637110), (1073054746624684501817716543373, 674901144616916782048640535141), (1070979129093750744791035928476, 678190053970552897944368752540), (1068893431099374065395893981727, 681472579941113949956539951510), (1066797672272938319899916822436, 684748691632215360839678789989), (1064691872340523747554977643771, 688018358207846194485755631360), (1062576051122721301217353433675, 691281548892659396202939708757), (1060450228534446088397051067291, 694538232972261462002796703003), (1058314424584749924492266665194, 697788379793501534169453083214), (1056168659376632999973298563343, 701031958764759920389649611719)]
theorem r128 : R 128 t2 0 = true := by kernel_rfl
theorem r129 : R 128 t2 1 = true := by kernel_rfl
theorem r130 : R 128 t2 2 = true := by kernel_rfl
theorem r131 : R 128 t2 3 = true := by kernel_rfl
theorem r132 : R 128 t2 4 = true := by kernel_rfl
theorem r133 : R 128 t2 5 = true := by kernel_rfl
theorem r134 : R 128 t2 6 = true := by kernel_rfl
theorem r135 : R 128 t2 7 = true := by kernel_rfl
theorem r136 : R 128 t2 8 = true := by kernel_rfl
theorem r137 : R 128 t2 9 = true := by kernel_rfl
theorem r138 : R 128 t2 10 = true := by kernel_rfl
theorem r139 : R 128 t2 11 = true := by kernel_rfl
theorem r140 : R 128 t2 12 = true := by kernel_rfl
theorem r141 : R 128 t2 13 = true := by kernel_rfl
theorem r142 : R 128 t2 14 = true := by kernel_rfl
theorem r143 : R 128 t2 15 = true := by kernel_rfl
theorem r144 : R 128 t2 16 = true := by kernel_rfl
theorem r145 : R 128 t2 17 = true := by kernel_rfl
theorem r146 : R 128 t2 18 = true := by kernel_rfl
theorem r147 : R 128 t2 19 = true := by kernel_rfl
theorem r148 : R 128 t2 20 = true := by kernel_rfl
theorem r149 : R 128 t2 21 = true := by kernel_rfl
theorem r150 : R 128 t2 22 = true := by kernel_rfl
theorem r151 : R 128 t2 23 = true := by kernel_rfl
theorem r152 : R 128 t2 24 = true := by kernel_rfl
theorem r153 : R 128 t2 25 = true := by kernel_rfl
theorem r154 : R 128 t2 26 = true := by kernel_rfl
theorem r155 : R 128 t2 27 = true := by kernel_rfl
theorem r156 : R 128 t2 28 = true := by kernel_rfl
theorem r157 : R 128 t2 29 = true := by kernel_rfl
theorem r158 : R 128 t2 30 = true := by kernel_rfl
theorem r159 : R 128 t2 31 = true := by kernel_rfl
theorem r160 : R 128 t2 32 = true := by kernel_rfl
theorem r161 : R 128 t2 33 = true := by kernel_rfl
theorem r162 : R 128 t2 34 = true := by kernel_rfl
theorem r163 : R 128 t2 35 = true := by kernel_rfl
theorem r164 : R 128 t2 36 = true := by kernel_rfl
theorem r165 : R 128 t2 37 = true := by kernel_rfl
theorem r166 : R 128 t2 38 = true := by kernel_rfl
theorem r167 : R 128 t2 39 = true := by kernel_rfl
theorem r168 : R 128 t2 40 = true := by kernel_rfl
theorem r169 : R 128 t2 41 = true := by kernel_rfl
theorem r170 : R 128 t2 42 = true := by kernel_rfl
theorem r171 : R 128 t2 43 = true := by kernel_rfl
theorem r172 : R 128 t2 44 = true := by kernel_rfl
theorem r173 : R 128 t2 45 = true := by kernel_rfl
theorem r174 : R 128 t2 46 = true := by kernel_rfl
theorem r175 : R 128 t2 47 = true := by kernel_rfl
theorem r176 : R 128 t2 48 = true := by kernel_rfl
theorem r177 : R 128 t2 49 = true := by kernel_rfl
theorem r178 : R 128 t2 50 = true := by kernel_rfl
theorem r179 : R 128 t2 51 = true := by kernel_rfl
theorem r180 : R 128 t2 52 = true := by kernel_rfl
theorem r181 : R 128 t2 53 = true := by kernel_rfl
theorem r182 : R 128 t2 54 = true := by kernel_rfl
theorem r183 : R 128 t2 55 = true := by kernel_rfl
theorem r184 : R 128 t2 56 = true := by kernel_rfl
theorem r185 : R 128 t2 57 = true := by kernel_rfl
theorem r186 : R 128 t2 58 = true := by kernel_rfl
theorem r187 : R 128 t2 59 = true := by kernel_rfl
theorem r188 : R 128 t2 60 = true := by kernel_rfl
theorem r189 : R 128 t2 61 = true := by kernel_rfl
theorem r190 : R 128 t2 62 = true := by kernel_rfl
theorem r191 : R 128 t2 63 = true := by kernel_rfl
theorem b2 : rowsB fastO 128 t2 = true := rowsB_of _ _ (all64 (P := (R 128 t2 · = true)) r128 r129 r130 r131 r132 r133 r134 r135 r136 r137 r138 r139 r140 r141 r142 r143 r144 r145 r146 r147 r148 r149 r150 r151 r152 r153 r154 r155 r156 r157 r158 r159 r160 r161 r162 r163 r164 r165 r166 r167 r168 r169 r170 r171 r172 r173 r174 r175 r176 r177 r178 r179 r180 r181 r182 r183 r184 r185 r186 r187 r188 r189 r190 r191)
theorem s2 : stepB (1172639225318829151532166081222) (481513542387591121964654520794) t2 = true := by kernel_rfl
def t3 : List (Int × Int) := [(1054012953106854663288574085890, 704268939356236033728032079398), (1051847326065743321273773472198, 707499291100235750737478562744), (1049671798637005458853340706386, 710722983591458184999739228573), (1047486391297533779831960553175, 713939986487281873397166904862), (1045291124617214470581853739784, 717150269508050372421844234806), (1043086019258733588439997862231, 720353802437357261833966183911), (1040871095977382576637620157912, 723550555122330552986914924446), (1038646375620862907592529697265, 726740497473916499142067625411), (1036411879129089856403060728229, 729923599467162805102006376547), (1034167627533995406390585780906, 733099831141501233496453318905), (1031913641959330288545726629261, 736269162601029605060932988796), (1029649943620465156741543234926, 739431564014793190253867853214), (1027376553824190900585115288540, 742587005617065489563541969296), (1025093493968518097787047839909, 745735457707628399862121584142), (1022800785542475607936531693309, 748876890652051764169700250264), (1020498450125908309577670662136, 752011274881972302197139611596), (1018186509389273982490851351886, 755138580895371919042305360801), (1015864985093439337090976796110, 758258779256855389420150925693), (1013533899089475192862412930901, 761371840597927414812979155830), (1011193273318450807758506484006, 764477735617269050933114594457), (1008843129811227360501524299467, 767576435081013502896145780370), (1006483490688250587726837342550, 770667909823021285508848373201), (1004114378159342577923127557550, 773752130745154746081875678041), (1001735814523492724128332308044, 776829068817551947183303304989), (999347822168647837348959240534, 779898695078899906755139179655), (996950423571501422678304003705, 782960980636707193020958865170), (994543641297282120096984252323, 786015896667575871618899107911), (992127497999541311947065692979, 789063414417472802400339620770), (989702016419939899078899514398, 792103505202000283340724312025), (987267219388034247677615314082, 795136140406666039015118397075), (984823129821061308784019511987, 798161291487152551097267036599), (982369770723722912532436157268, 801178929969585728347114270128), (979907165187969239135794912562, 804189027450802913557958000150), (977435336392781468656019768736, 807191555598620224940657570323), (974954307603953611605501628520, 810186486152099229428575013282), (972464102173873522433148227274, 813173790921812945393219260034), (969964743541303097956195860688, 816153441790111172266874444791), (967456255231157662806638990113, 819125410711385144574828846891), (964938660854284543968785924264, 822089669712331507886179925606), (962411984107240836492081359191, 825046190892215614198573264234), (959876248772070362470949524838, 827994946423134134278638986882), (957331478716079825391004964557, 830935908550276984486318284461), (954777697891614161948551492132, 833869049592188565617725025109), (952214930335831093457843557929, 836794341941028311307662967835), (949643200170474878968118040585, 839711758062830543539417785634), (947062531601649272219918292338, 842621270497763632815964874558), (944472948919589684577726033883, 845522851860388460553278716783), (941874476498434556083390348036, 848416474839916181262997317051), (939267138795995936782296490130, 851302112200465282098285881127), (936650960353529280481650446810, 854179736781317937343357390076), (934025965795502453107668063760, 857049321497175655433743982981), (931392179829363957835850057117, 859910839338414216101072030746), (928749627245310379175896253348, 862764263371337895242775402144), (926098332916053048200163898752, 865609566738432975123885627421), (923438321796583931111905773330, 868446722658620537524764391439), (920769618923940743356834065568, 871275704427508537455392974230), (918092249416971291488845445826, 874096485417643155063604838379), (915406238476097045008011447976, 876909039078759423371441476161), (912711611383075940396186063243, 879713338938031129480627810879), (910008393500764419582809298629, 882509358600319986895001832162), (907296610272878705080691286877, 885297071748424076614593669837), (904576287223755314038746287771, 888076452143325554662931910681), (901847449958110813465809524115, 890847473624437623716059572222), (899110124160800818886812182471, 893610110109850766508668702724)]
theorem r192 : R 192 t3 0 = true := by kernel_rfl
theorem r193 : R 192 t3 1 = true := by kernel_rfl
theorem r194 : R 192 t3 2 = true := by kernel_rfl
theorem r195 : R 192 t3 3 = true := by kernel_rfl
theorem r196 : R 192 t3 4 = true := by kernel_rfl
theorem r197 : R 192 t3 5 = true := by kernel_rfl
theorem r198 : R 192 t3 6 = true := by kernel_rfl
theorem r199 : R 192 t3 7 = true := by kernel_rfl
theorem r200 : R 192 t3 8 = true := by kernel_rfl
theorem r201 : R 192 t3 9 = true := by kernel_rfl
theorem r202 : R 192 t3 10 = true := by kernel_rfl
theorem r203 : R 192 t3 11 = true := by kernel_rfl
theorem r204 : R 192 t3 12 = true := by kernel_rfl
theorem r205 : R 192 t3 13 = true := by kernel_rfl
theorem r206 : R 192 t3 14 = true := by kernel_rfl
theorem r207 : R 192 t3 15 = true := by kernel_rfl
theorem r208 : R 192 t3 16 = true := by kernel_rfl
theorem r209 : R 192 t3 17 = true := by kernel_rfl
theorem r210 : R 192 t3 18 = true := by kernel_rfl
theorem r211 : R 192 t3 19 = true := by kernel_rfl
theorem r212 : R 192 t3 20 = true := by kernel_rfl
theorem r213 : R 192 t3 21 = true := by kernel_rfl
theorem r214 : R 192 t3 22 = true := by kernel_rfl
theorem r215 : R 192 t3 23 = true := by kernel_rfl
theorem r216 : R 192 t3 24 = true := by kernel_rfl
theorem r217 : R 192 t3 25 = true := by kernel_rfl
theorem r218 : R 192 t3 26 = true := by kernel_rfl
theorem r219 : R 192 t3 27 = true := by kernel_rfl
theorem r220 : R 192 t3 28 = true := by kernel_rfl
theorem r221 : R 192 t3 29 = true := by kernel_rfl
theorem r222 : R 192 t3 30 = true := by kernel_rfl
theorem r223 : R 192 t3 31 = true := by kernel_rfl
theorem r224 : R 192 t3 32 = true := by kernel_rfl
theorem r225 : R 192 t3 33 = true := by kernel_rfl
theorem r226 : R 192 t3 34 = true := by kernel_rfl
theorem r227 : R 192 t3 35 = true := by kernel_rfl
theorem r228 : R 192 t3 36 = true := by kernel_rfl
theorem r229 : R 192 t3 37 = true := by kernel_rfl
theorem r230 : R 192 t3 38 = true := by kernel_rfl
theorem r231 : R 192 t3 39 = true := by kernel_rfl
theorem r232 : R 192 t3 40 = true := by kernel_rfl
theorem r233 : R 192 t3 41 = true := by kernel_rfl
theorem r234 : R 192 t3 42 = true := by kernel_rfl
theorem r235 : R 192 t3 43 = true := by kernel_rfl
theorem r236 : R 192 t3 44 = true := by kernel_rfl
theorem r237 : R 192 t3 45 = true := by kernel_rfl
theorem r238 : R 192 t3 46 = true := by kernel_rfl
theorem r239 : R 192 t3 47 = true := by kernel_rfl
theorem r240 : R 192 t3 48 = true := by kernel_rfl
theorem r241 : R 192 t3 49 = true := by kernel_rfl
theorem r242 : R 192 t3 50 = true := by kernel_rfl
theorem r243 : R 192 t3 51 = true := by kernel_rfl
theorem r244 : R 192 t3 52 = true := by kernel_rfl
theorem r245 : R 192 t3 53 = true := by kernel_rfl
theorem r246 : R 192 t3 54 = true := by kernel_rfl
theorem r247 : R 192 t3 55 = true := by kernel_rfl
theorem r248 : R 192 t3 56 = true := by kernel_rfl
theorem r249 : R 192 t3 57 = true := by kernel_rfl
theorem r250 : R 192 t3 58 = true := by kernel_rfl
theorem r251 : R 192 t3 59 = true := by kernel_rfl
theorem r252 : R 192 t3 60 = true := by kernel_rfl
theorem r253 : R 192 t3 61 = true := by kernel_rfl
theorem r254 : R 192 t3 62 = true := by kernel_rfl
theorem r255 : R 192 t3 63 = true := by kernel_rfl
theorem b3 : rowsB fastO 192 t3 = true := rowsB_of _ _ (all64 (P := (R 192 t3 · = true)) r192 r193 r194 r195 r196 r197 r198 r199 r200 r201 r202 r203 r204 r205 r206 r207 r208 r209 r210 r211 r212 r213 r214 r215 r216 r217 r218 r219 r220 r221 r222 r223 r224 r225 r226 r227 r228 r229 r230 r231 r232 r233 r234 r235 r236 r237 r238 r239 r240 r241 r242 r243 r244 r245 r246 r247 r248 r249 r250 r251 r252 r253 r254 r255)
theorem s3 : stepB (1056168659376632999973298563343) (701031958764759920389649611719) t3 = true := by kernel_rfl
end Go.Proofs.YtbdnkneedengcaaGreatDoor.Ie.Tw

/- The table of factors, row by row, part 2 (printed by twid.py). Conditions: none. -/
set_option linter.unusedSimpArgs false
set_option linter.unusedVariables false
set_option maxRecDepth 100000
namespace Go.Proofs.YtbdnkneedengcaaGreatDoor.Ie.Tw
def t4 : List (Int × Int) := [(896364335596578238699711011546, 896364335596578238699711011396), (893610110109850766508668702874, 899110124160800818886812182320), (890847473624437623716059572371, 901847449958110813465809523963), (888076452143325554662931910829, 904576287223755314038746287618), (885297071748424076614593669985, 907296610272878705080691286723), (882509358600319986895001832310, 910008393500764419582809298475), (879713338938031129480627811026, 912711611383075940396186063088), (876909039078759423371441476308, 915406238476097045008011447821), (874096485417643155063604838525, 918092249416971291488845445670), (871275704427508537455392974375, 920769618923940743356834065411), (868446722658620537524764391583, 923438321796583931111905773172), (865609566738432975123885627564, 926098332916053048200163898593), (862764263371337895242775402287, 928749627245310379175896253189), (859910839338414216101072030888, 931392179829363957835850056957), (857049321497175655433743983122, 934025965795502453107668063599), (854179736781317937343357390217, 936650960353529280481650446648), (851302112200465282098285881268, 939267138795995936782296489967), (848416474839916181262997317191, 941874476498434556083390347872), (845522851860388460553278716922, 944472948919589684577726033718), (842621270497763632815964874696, 947062531601649272219918292172), (839711758062830543539417785771, 949643200170474878968118040418), (836794341941028311307662967971, 952214930335831093457843557761), (833869049592188565617725025245, 954777697891614161948551491963), (830935908550276984486318284597, 957331478716079825391004964387), (827994946423134134278638987018, 959876248772070362470949524667), (825046190892215614198573264369, 962411984107240836492081359019), (822089669712331507886179925740, 964938660854284543968785924091), (819125410711385144574828847024, 967456255231157662806638989939), (816153441790111172266874444923, 969964743541303097956195860513), (813173790921812945393219260166, 972464102173873522433148227098), (810186486152099229428575013414, 974954307603953611605501628343), (807191555598620224940657570455, 977435336392781468656019768558), (804189027450802913557958000281, 979907165187969239135794912383), (801178929969585728347114270258, 982369770723722912532436157088), (798161291487152551097267036728, 984823129821061308784019511806), (795136140406666039015118397203, 987267219388034247677615313900), (792103505202000283340724312152, 989702016419939899078899514215), (789063414417472802400339620896, 992127497999541311947065692795), (786015896667575871618899108037, 994543641297282120096984252137), (782960980636707193020958865295, 996950423571501422678304003518), (779898695078899906755139179779, 999347822168647837348959240346), (776829068817551947183303305113, 1001735814523492724128332307855), (773752130745154746081875678164, 1004114378159342577923127557360), (770667909823021285508848373323, 1006483490688250587726837342359), (767576435081013502896145780492, 1008843129811227360501524299275), (764477735617269050933114594579, 1011193273318450807758506483813), (761371840597927414812979155952, 1013533899089475192862412930707), (758258779256855389420150925814, 1015864985093439337090976795915), (755138580895371919042305360922, 1018186509389273982490851351690), (752011274881972302197139611716, 1020498450125908309577670661939), (748876890652051764169700250384, 1022800785542475607936531693111), (745735457707628399862121584261, 1025093493968518097787047839710), (742587005617065489563541969414, 1027376553824190900585115288340), (739431564014793190253867853331, 1029649943620465156741543234725), (736269162601029605060932988912, 1031913641959330288545726629059), (733099831141501233496453319021, 1034167627533995406390585780703), (729923599467162805102006376662, 1036411879129089856403060728025), (726740497473916499142067625525, 1038646375620862907592529697060), (723550555122330552986914924560, 1040871095977382576637620157706), (720353802437357261833966184025, 1043086019258733588439997862024), (717150269508050372421844234920, 1045291124617214470581853739576), (713939986487281873397166904976, 1047486391297533779831960552966), (710722983591458184999739228687, 1049671798637005458853340706176), (707499291100235750737478562857, 1051847326065743321273773471987)]
theorem r256 : R 256 t4 0 = true := by kernel_rfl
theorem r257 : R 256 t4 1 = true := by kernel_rfl
theorem r258 : R 256 t4 2 = true := by kernel_rfl
theorem r259 : R 256 t4 3 = true := by kernel_rfl
theorem r260 : R 256 t4 4 = true := by kernel_rfl
theorem r261 : R 256 t4 5 = true := by kernel_rfl
theorem r262 : R 256 t4 6 = true := by kernel_rfl
theorem r263 : R 256 t4 7 = true := by kernel_rfl
theorem r264 : R 256 t4 8 = true := by kernel_rfl
theorem r265 : R 256 t4 9 = true := by kernel_rfl
theorem r266 : R 256 t4 10 = true := by kernel_rfl
theorem r267 : R 256 t4 11 = true := by kernel_rfl
theorem r268 : R 256 t4 12 = true := by kernel_rfl
theorem r269 : R 256 t4 13 = true := by kernel_rfl
theorem r270 : R 256 t4 14 = true := by kernel_rfl
theorem r271 : R 256 t4 15 = true := by kernel_rfl
theorem r272 : R 256 t4 16 = true := by kernel_rfl
theorem r273 : R 256 t4 17 = true := by kernel_rfl
theorem r274 : R 256 t4 18 = true := by kernel_rfl
theorem r275 : R 256 t4 19 = true := by kernel_rfl
theorem r276 : R 256 t4 20 = true := by kernel_rfl
theorem r277 : R 256 t4 21 = true := by kernel_rfl
theorem r278 : R 256 t4 22 = true := by kernel_rfl
theorem r279 : R 256 t4 23 = true := by kernel_rfl
theorem r280 : R 256 t4 24 = true := by kernel_rfl
theorem r281 : R 256 t4 25 = true := by kernel_rfl
theorem r282 : R 256 t4 26 = true := by kernel_rfl
theorem r283 : R 256 t4 27 = true := by kernel_rfl
theorem r284 : R 256 t4 28 = true := by kernel_rfl
theorem r285 : R 256 t4 29 = true := by kernel_rfl
theorem r286 : R 256 t4 30 = true := by kernel_rfl
theorem r287 : R 256 t4 31 = true := by kernel_rfl
theorem r288 : R 256 t4 32 = true := by kernel_rfl
theorem r289 : R 256 t4 33 = true := by kernel_rfl
theorem r290 : R 256 t4 34 = true := by kernel_rfl
theorem r291 : R 256 t4 35 = true := by kernel_rfl
theorem r292 : R 256 t4 36 = true := by kernel_rfl
theorem r293 : R 256 t4 37 = true := by kernel_rfl
theorem r294 : R 256 t4 38 = true := by kernel_rfl
theorem r295 : R 256 t4 39 = true := by kernel_rfl
theorem r296 : R 256 t4 40 = true := by kernel_rfl
theorem r297 : R 256 t4 41 = true := by kernel_rfl
theorem r298 : R 256 t4 42 = true := by kernel_rfl
theorem r299 : R 256 t4 43 = true := by kernel_rfl
theorem r300 : R 256 t4 44 = true := by kernel_rfl
theorem r301 : R 256 t4 45 = true := by kernel_rfl
theorem r302 : R 256 t4 46 = true := by kernel_rfl
theorem r303 : R 256 t4 47 = true := by kernel_rfl
theorem r304 : R 256 t4 48 = true := by kernel_rfl
theorem r305 : R 256 t4 49 = true := by kernel_rfl
theorem r306 : R 256 t4 50 = true := by kernel_rfl
theorem r307 : R 256 t4 51 = true := by kernel_rfl
theorem r308 : R 256 t4 52 = true := by kernel_rfl
theorem r309 : R 256 t4 53 = true := by kernel_rfl
theorem r310 : R 256 t4 54 = true := by kernel_rfl
theorem r311 : R 256 t4 55 = true := by kernel_rfl
theorem r312 : R 256 t4 56 = true := by kernel_rfl
theorem r313 : R 256 t4 57 = true := by kernel_rfl
theorem r314 : R 256 t4 58 = true := by kernel_rfl
theorem r315 : R 256 t4 59 = true := by kernel_rfl
theorem r316 : R 256 t4 60 = true := by kernel_rfl
theorem r317 : R 256 t4 61 = true := by kernel_rfl
theorem r318 : R 256 t4 62 = true := by kernel_rfl
theorem r319 : R 256 t4 63 = true := by kernel_rfl
theorem b4 : rowsB fastO 256 t4 = true := rowsB_of _ _ (all64 (P := (R 256 t4 · = true)) r256 r257 r258 r259 r260 r261 r262 r263 r264 r265 r266 r267 r268 r269 r270 r271 r272 r273 r274 r275 r276 r277 r278 r279 r280 r281 r282 r283 r284 r285 r286 r287 r288 r289 r290 r291 r292 r293 r294 r295 r296 r297 r298 r299 r300 r301 r302 r303 r304 r305 r306 r307 r308 r309 r310 r311 r312 r313 r314 r315 r316 r317 r318 r319)
theorem s4 : stepB (899110124160800818886812182471) (893610110109850766508668702724) t4 = true := by kernel_rfl
def t5 : List (Int × Int) := [(704268939356236033728032079511, 1054012953106854663288574085678), (701031958764759920389649611831, 1056168659376632999973298563130), (697788379793501534169453083326, 1058314424584749924492266664979), (694538232972261462002796703114, 1060450228534446088397051067075), (691281548892659396202939708867, 1062576051122721301217353433457), (688018358207846194485755631469, 1064691872340523747554977643552), (684748691632215360839678790097, 1066797672272938319899916822216), (681472579941113949956539951617, 1068893431099374065395893981506), (678190053970552897944368752646, 1070979129093750744791035928254), (674901144616916782048640535247, 1073054746624684501817716543150), (671605882836673012113819637216, 1075120264155672641253978516514), (668304299646080456522399854664, 1077175662245277513927332054355), (664996426120897505353965707776, 1079220921547309506930134866793), (661682293396089573512095240121, 1081256022811009137324179840293), (658361932665536046572196317854, 1083280946881228247620555096173), (655035375181736672108613717962, 1085295674698610301329295571067), (651702652255517399264563654999, 1087300187299769776881815740883), (648363795255735669333645744395, 1089294465817470658237599568570), (645018835608985160126849688537, 1091278491480804020495126107791), (641667804799299986904115150778, 1093252245615364708835527359414), (638310734367858362654618303909, 1095215709643427109136008875345), (634947655912685720515047355327, 1097168865084120008598613154369), (631578601088357301120191913221, 1099111693553600544748470996808), (628203601605700207685207318939, 1101044176765227241164266598396), (624822689231494931623924982888, 1102966296529732128312238187974), (621435895788176351512563277702, 1104878034755391947863647367574), (618043253153534208213150616069, 1106779373448198438884276916116), (614644793260413058975902924915, 1108670294712027704293158588057), (611240548096411713344701776133, 1110550780748808655996389294636), (607830549703582153694696900643, 1112420813858690537110565916296), (604414830178127943235907651264, 1114280376440209519699055778875), (600993421670102124321522145112, 1116129450990454376453021451423), (597566356383104609904390262530, 1117968020105231224757834908176), (594133666573979070989977361801, 1119796066479227341594247159198), (590695384552509322938789442135, 1121613572906174047732425111365), (587251542681115213475997507078, 1123420522279008659685727591357), (583802173374548015270679002097, 1125216897590035507899867062681), (580347309099585325951757379539, 1127002681931086019661892516953), (576886982374725478432357037558, 1128777858493677865222232232882), (573421225769881464418900043295, 1130542410569173165631852491856), (569950071906074373985853141200, 1132296321548935760805419833724), (566473553455126354101588521806, 1134039574924487536330199947100), (562991703139353088995349641572, 1135772154287663807549285732151), (559504553731255805259813998048, 1137494043330767759456620366842), (556012138053212804588218134178, 1139205225846723940950168266632), (552514488977170527049456228948, 1140905685729230811998487568829), (549011639424334147808982386987, 1142595406972912342284872112604), (545503622364857710207738125496, 1144274373673468659902158740011), (541990470817533798115690531737, 1145942570027825748680237028279), (538472217849482750480903087128, 1147599980334284192737253194979), (534948896575841420999370184015, 1149246588992666966854467811127), (531420540159451485835127857769, 1150882380504466271283708028438), (527887181810547302324407179824, 1152507339472989409605349191300), (524348854786443321601823066422, 1154121450603503708263767876904), (520805592391221058090789913564, 1155724698703380476416228503584), (517257427975415618804526431299, 1157317068682238004740198582870), (513704394935701795408155280879, 1158898545552083601853133380046), (510146526714579721996518577402, 1160469114427454667007829105959), (506583856800060101546417969639, 1162028760525558797735514704213), (503016418725349004006047809336, 1163577469166412931117935737298), (499444246068532238988421836144, 1165115225772981517378779727170), (495867372452259306039597793578, 1166642015871313724493900484709), (492285831543426925456480418263, 1168157825090679672528919382553), (488699657052862152632931271863, 1169662639163705696421914101291)]
theorem r320 : R 320 t5 0 = true := by kernel_rfl
theorem r321 : R 320 t5 1 = true := by kernel_rfl
theorem r322 : R 320 t5 2 = true := by kernel_rfl
theorem r323 : R 320 t5 3 = true := by kernel_rfl
theorem r324 : R 320 t5 4 = true := by kernel_rfl
theorem r325 : R 320 t5 5 = true := by kernel_rfl
theorem r326 : R 320 t5 6 = true := by kernel_rfl
theorem r327 : R 320 t5 7 = true := by kernel_rfl
theorem r328 : R 320 t5 8 = true := by kernel_rfl
theorem r329 : R 320 t5 9 = true := by kernel_rfl
theorem r330 : R 320 t5 10 = true := by kernel_rfl
theorem r331 : R 320 t5 11 = true := by kernel_rfl
theorem r332 : R 320 t5 12 = true := by kernel_rfl
theorem r333 : R 320 t5 13 = true := by kernel_rfl
theorem r334 : R 320 t5 14 = true := by kernel_rfl
theorem r335 : R 320 t5 15 = true := by kernel_rfl
theorem r336 : R 320 t5 16 = true := by kernel_rfl
theorem r337 : R 320 t5 17 = true := by kernel_rfl
theorem r338 : R 320 t5 18 = true := by kernel_rfl
theorem r339 : R 320 t5 19 = true := by kernel_rfl
theorem r340 : R 320 t5 20 = true := by kernel_rfl
theorem r341 : R 320 t5 21 = true := by kernel_rfl
theorem r342 : R 320 t5 22 = true := by kernel_rfl
theorem r343 : R 320 t5 23 = true := by kernel_rfl
theorem r344 : R 320 t5 24 = true := by kernel_rfl
theorem r345 : R 320 t5 25 = true := by kernel_rfl
theorem r346 : R 320 t5 26 = true := by kernel_rfl
theorem r347 : R 320 t5 27 = true := by kernel_rfl
theorem r348 : R 320 t5 28 = true := by kernel_rfl
theorem r349 : R 320 t5 29 = true := by kernel_rfl
theorem r350 : R 320 t5 30 = true := by kernel_rfl
theorem r351 : R 320 t5 31 = true := by kernel_rfl
theorem r352 : R 320 t5 32 = true := by kernel_rfl
theorem r353 : R 320 t5 33 = true := by kernel_rfl
theorem r354 : R 320 t5 34 = true := by kernel_rfl
theorem r355 : R 320 t5 35 = true := by kernel_rfl
theorem r356 : R 320 t5 36 = true := by kernel_rfl
theorem r357 : R 320 t5 37 = true := by kernel_rfl
theorem r358 : R 320 t5 38 = true := by kernel_rfl
theorem r359 : R 320 t5 39 = true := by kernel_rfl
theorem r360 : R 320 t5 40 = true := by kernel_rfl
theorem r361 : R 320 t5 41 = true := by kernel_rfl
theorem r362 : R 320 t5 42 = true := by kernel_rfl
theorem r363 : R 320 t5 43 = true := by kernel_rfl
theorem r364 : R 320 t5 44 = true := by kernel_rfl
theorem r365 : R 320 t5 45 = true := by kernel_rfl
theorem r366 : R 320 t5 46 = true := by kernel_rfl
theorem r367 : R 320 t5 47 = true := by kernel_rfl
theorem r368 : R 320 t5 48 = true := by kernel_rfl
theorem r369 : R 320 t5 49 = true := by kernel_rfl
theorem r370 : R 320 t5 50 = true := by kernel_rfl
theorem r371 : R 320 t5 51 = true := by kernel_rfl
theorem r372 : R 320 t5 52 = true := by kernel_rfl
theorem r373 : R 320 t5 53 = true := by kernel_rfl
theorem r374 : R 320 t5 54 = true := by kernel_rfl
theorem r375 : R 320 t5 55 = true := by kernel_rfl
theorem r376 : R 320 t5 56 = true := by kernel_rfl
theorem r377 : R 320 t5 57 = true := by kernel_rfl
theorem r378 : R 320 t5 58 = true := by kernel_rfl
theorem r379 : R 320 t5 59 = true := by kernel_rfl
theorem r380 : R 320 t5 60 = true := by kernel_rfl
theorem r381 : R 320 t5 61 = true := by kernel_rfl
theorem r382 : R 320 t5 62 = true := by kernel_rfl
theorem r383 : R 320 t5 63 = true := by kernel_rfl
theorem b5 : rowsB fastO 320 t5 = true := rowsB_of _ _ (all64 (P := (R 320 t5 · = true)) r320 r321 r322 r323 r324 r325 r326 r327 r328 r329 r330 r331 r332 r333 r334 r335 r336 r337 r338 r339 r340 r341 r342 r343 r344 r345 r346 r347 r348 r349 r350 r351 r352 r353 r354 r355 r356 r357 r358 r359 r360 r361 r362 r363 r364 r365 r366 r367 r368 r369 r370 r371 r372 r373 r374 r375 r376 r377 r378 r379 r380 r381 r382 r383)
theorem s5 : stepB (707499291100235750737478562857) (1051847326065743321273773471987) t5 = true := by kernel_rfl
def t6 : List (Int × Int) := [(485108882735005078916833875256, 1171156443926508635938050023831), (481513542387591121964654520900, 1172639225318829151532166080927), (477913669851332908583902945236, 1174110969384164064864495376191), (474309299009601753057732702058, 1175571662269897722723881255040), (470700463788108733949728553951, 1177021290227432383122041542627), (467087198154585372390707456288, 1178459839612317622331637374306), (463469536118463914853110711341, 1179887296884378761650118291960), (459847511730557223422287583478, 1181303648607844312680541993846), (456221159082738276577665055176, 1182708881451472439929805217647), (452590512307619283500464432851, 1184102982188676439533971619202), (448955605578230414928263146832, 1185485937697649232929643095839), (445316473107698153580309296961, 1186857734961486874299592706255), (441673149148923267181077240235, 1188218361068311070630160071109), (438025667994258407113104766002, 1189567803211390713227203812661), (434374063975185335733676124016, 1190906048689262419546710120306), (430718371461991785393410327939, 1192233084905850084205471824255), (427058624863447952198280718829, 1193548899370583438046578334114), (423394858626482627560029707079, 1194853479698515614143793365043), (419727107235858970583351884839, 1196146813610439719638244443540), (416055405213849924341599282086, 1197428888933004412310205669831), (412379787119913279096114396346, 1198699693598828480798123026169), (408700287550366385517619727133, 1199959215646614427386409571974), (405016941138060520971386860074, 1201207443221261052292926069344), (401329782552054911931173641564, 1202444364573975038396460847711), (397638846497290415590154631761, 1203669968062381535353930955817), (393944167714262863740277791448, 1204884242150633742066444774209), (390245780978696071994659216465, 1206087175409521486462794183448), (386543721101214517430777652211, 1207278756516578801578382013451), (382838022927015687735351470417, 1208458974256190496917037748996), (379128721335542104934872741676, 1209627817519697724092631246536), (375415851240153026798835960922, 1210785275305502535756860439016), (371699447587795829005732850441, 1211931336719171436829064579343), (367979545358677071164889447382, 1213065990973537927053399410255), (364256179565933249790197351992, 1214189227388804033918204659369), (360529385255301241324737540756, 1215301035392640834981897353744), (356799197504788438318212507702, 1216401404520287968659236538963), (353065651424342581861990659732, 1217490324414652132531325983950), (349328782155521293389425830886, 1218567784826404568252251264943), (345588624871161308951944468979, 1219633775614077532134786160439), (341845214775047419084193459420, 1220688286744159750507150463858), (338098587101581117374312658925, 1221731308291190858942357042164), (334348777115448960858137990127, 1222762830437854824471250146882), (330595820111290645358853371022, 1223782843475072349899909528743), (326839751413366798896292795163, 1224791337802092259361675728605), (323080606375226496292747514366, 1225788303926581864243640924995), (319318420379374498104757480338, 1226773732464716308637046822504), (315553228836938217012960950496, 1227747614141266893470636174869), (311785067187334414804641431773, 1228709939789688378495617561616), (308013970897935633086146900350, 1229660700352205261300523887004), (304239975463736360864862471115, 1230599886879897032543873654269), (300463116407018942142894374611, 1231527490532782406602180296102), (296683429277019226667070208028, 1232443502579902526840498623256), (292900949649591966982277937369, 1233347914399403144722348696358), (289115713126875964937554017508, 1234240717478615771985516040610), (285327755336958970796689243012, 1235121903414137805119893018126), (281537111933542338107449523089, 1235991463911911621393199257247), (277743818595605437485807666963, 1236849390787302645680099221210), (273947911027069832473851449716, 1237695675965176387359922188957), (270149424956463220632272681796, 1238530311479974446557884027411), (266348396136583143030551706939, 1239353289475789489014411066050), (262544860344160465300131682335, 1240164602206439188876874049694), (258738853379522633418027131019, 1240964242035539138717754452767), (254930411066256707390431579408, 1241752201436574726092986296447), (251119569250872176007979582694, 1242528472992971975963943927564)]
theorem r384 : R 384 t6 0 = true := by kernel_rfl
theorem r385 : R 384 t6 1 = true := by kernel_rfl
theorem r386 : R 384 t6 2 = true := by kernel_rfl
theorem r387 : R 384 t6 3 = true := by kernel_rfl
theorem r388 : R 384 t6 4 = true := by kernel_rfl
theorem r389 : R 384 t6 5 = true := by kernel_rfl
theorem r390 : R 384 t6 6 = true := by kernel_rfl
theorem r391 : R 384 t6 7 = true := by kernel_rfl
theorem r392 : R 384 t6 8 = true := by kernel_rfl
theorem r393 : R 384 t6 9 = true := by kernel_rfl
theorem r394 : R 384 t6 10 = true := by kernel_rfl
theorem r395 : R 384 t6 11 = true := by kernel_rfl
theorem r396 : R 384 t6 12 = true := by kernel_rfl
theorem r397 : R 384 t6 13 = true := by kernel_rfl
theorem r398 : R 384 t6 14 = true := by kernel_rfl
theorem r399 : R 384 t6 15 = true := by kernel_rfl
theorem r400 : R 384 t6 16 = true := by kernel_rfl
theorem r401 : R 384 t6 17 = true := by kernel_rfl
theorem r402 : R 384 t6 18 = true := by kernel_rfl
theorem r403 : R 384 t6 19 = true := by kernel_rfl
theorem r404 : R 384 t6 20 = true := by kernel_rfl
theorem r405 : R 384 t6 21 = true := by kernel_rfl
theorem r406 : R 384 t6 22 = true := by kernel_rfl
theorem r407 : R 384 t6 23 = true := by kernel_rfl
theorem r408 : R 384 t6 24 = true := by kernel_rfl
theorem r409 : R 384 t6 25 = true := by kernel_rfl
theorem r410 : R 384 t6 26 = true := by kernel_rfl
theorem r411 : R 384 t6 27 = true := by kernel_rfl
theorem r412 : R 384 t6 28 = true := by kernel_rfl
theorem r413 : R 384 t6 29 = true := by kernel_rfl
theorem r414 : R 384 t6 30 = true := by kernel_rfl
theorem r415 : R 384 t6 31 = true := by kernel_rfl
theorem r416 : R 384 t6 32 = true := by kernel_rfl
theorem r417 : R 384 t6 33 = true := by kernel_rfl
theorem r418 : R 384 t6 34 = true := by kernel_rfl
theorem r419 : R 384 t6 35 = true := by kernel_rfl
theorem r420 : R 384 t6 36 = true := by kernel_rfl
theorem r421 : R 384 t6 37 = true := by kernel_rfl
theorem r422 : R 384 t6 38 = true := by kernel_rfl
theorem r423 : R 384 t6 39 = true := by kernel_rfl
theorem r424 : R 384 t6 40 = true := by kernel_rfl
theorem r425 : R 384 t6 41 = true := by kernel_rfl
theorem r426 : R 384 t6 42 = true := by kernel_rfl
theorem r427 : R 384 t6 43 = true := by kernel_rfl
theorem r428 : R 384 t6 44 = true := by kernel_rfl
theorem r429 : R 384 t6 45 = true := by kernel_rfl
theorem r430 : R 384 t6 46 = true := by kernel_rfl
theorem r431 : R 384 t6 47 = true := by kernel_rfl
theorem r432 : R 384 t6 48 = true := by kernel_rfl
theorem r433 : R 384 t6 49 = true := by kernel_rfl
theorem r434 : R 384 t6 50 = true := by kernel_rfl
theorem r435 : R 384 t6 51 = true := by kernel_rfl
theorem r436 : R 384 t6 52 = true := by kernel_rfl
theorem r437 : R 384 t6 53 = true := by kernel_rfl
theorem r438 : R 384 t6 54 = true := by kernel_rfl
theorem r439 : R 384 t6 55 = true := by kernel_rfl
theorem r440 : R 384 t6 56 = true := by kernel_rfl
theorem r441 : R 384 t6 57 = true := by kernel_rfl
theorem r442 : R 384 t6 58 = true := by kernel_rfl
theorem r443 : R 384 t6 59 = true := by kernel_rfl
theorem r444 : R 384 t6 60 = true := by kernel_rfl
theorem r445 : R 384 t6 61 = true := by kernel_rfl
theorem r446 : R 384 t6 62 = true := by kernel_rfl
theorem r447 : R 384 t6 63 = true := by kernel_rfl
theorem b6 : rowsB fastO 384 t6 = true := rowsB_of _ _ (all64 (P := (R 384 t6 · = true)) r384 r385 r386 r387 r388 r389 r390 r391 r392 r393 r394 r395 r396 r397 r398 r399 r400 r401 r402 r403 r404 r405 r406 r407 r408 r409 r410 r411 r412 r413 r414 r415 r416 r417 r418 r419 r420 r421 r422 r423 r424 r425 r426 r427 r428 r429 r430 r431 r432 r433 r434 r435 r436 r437 r438 r439 r440 r441 r442 r443 r444 r445 r446 r447)
theorem s6 : stepB (488699657052862152632931271863) (1169662639163705696421914101291) t6 = true := by kernel_rfl
def t7 : List (Int × Int) := [(247306363802463555846379077793, 1243293049398167358316279903335), (243490830612372777688160768258, 1244045923455676560318557087359), (239673005593851363543292119012, 1244787088079162222373365208117), (235852924681722397448374501952, 1245516536292500637423364369748), (232030623832042293226083068028, 1246234261229847412884456244343), (228206139021762362388420008890, 1246940256135702094588047823565), (224379506248390185369232993768, 1247634514364971752124142573120), (220550761529650789273301707079, 1248317029383033524986769524586), (216719940903147635331116552035, 1248987794765796128933042163262), (212887080426023419250264707996, 1249646804199760321976925836023), (209052216174620687656099817719, 1250294051482078329448584717519), (205215384244142273816102618355, 1250929530520612227559977044231), (201376620748311555844040800766, 1251553235333991284927170261778), (197535961819032540581707269479, 1252165160051668261509655839047), (193693443606049776357656764612, 1252765298913974664436756690999), (189849102276608097823971481977, 1253353646272174960201038327958), (186002974015112206073666873096, 1253930196588519742708457920398), (182155095022786087242899208226, 1254494944436297856684813342315), (178305501517332272803656728045, 1255047884499887475947886840590), (174454229732590944754106279100, 1255589011574806136064515179900), (170601315918198888915227210476, 1256118320567759720921659840007), (166746796339248299543793990596, 1256635806496690402750397002092), (162890707275945438473168470228, 1257141464490823535151597560496), (159033085023269151994731957427, 1257635289790713498681922143064), (155173965890629248694126269422, 1258117277748288498568615024531), (151313386201524741457781672740, 1258587423826894314131443780197), (147451382293201956866488103870, 1259045723601336999499998458735), (143587990516312515194014266397, 1259492172757924535224434860444), (139723247234571184229997115128, 1259926767094507430387621097707), (135857188824413610147511851745, 1260349502520518274836524894920), (131989851674653928636889858805, 1260760375057010241160560962694), (128121272186142259528478978597, 1261159380836694536054503162739), (124251486771422088128137189809, 1261546516103976800713454972435), (120380531854387536490317037842, 1261921777214992459917263868625), (116508443869940527854634123950, 1262285160637641019471660585503), (112635259263647847472818544330, 1262636662951619311683302668497), (108761014491398103053923383479, 1262976280848453688555803251577), (104885746019058588056609197337, 1263304011131531162403730436255), (101009490322132051058237862029, 1263619850716129493591469953491), (97132283885413374431393204885, 1263923796629446225113753851485), (93254163202646165559299467454, 1264215846010626663744570679667), (89375164776179263822431867407, 1264495996110790807491087938778), (85495325116623166589406319877, 1264764244293059219099135345484), (81614680742506377445997741331, 1265020588032577845366717624032), (77733268179931679896868283420, 1265265024916541782031947993801), (73851123962232339775288323509, 1265497552644217984011718176711), (69968284629628239596804066089, 1265718169026966920777347508987), (66084786728881948093446178780, 1265926871988263176663382514270), (62200666812954728165683992069, 1266123659563714995915648986075), (58315961440662486489909427551, 1266308529901082772294591143641), (54430707176331668019783979826, 1266481481260296483059866672826), (50544940589455098620300757136, 1266642512013472067172102349347), (46658698254347779073901780490, 1266791620644926747557652371836), (42772016749802633698448445739, 1266928805751193297292140413363), (38884932658746216817270263595, 1267054066041033249568506638684), (34997482567894380321913704887, 1267167400335449051325222436970), (31109703067407905568579188653, 1267268807567695160420278292580), (27221630750548102849569955597, 1267358286783288086246493965970), (23333302213332381681381765764, 1267435837140015373693644889492), (19444754054189795151337044185, 1267501457907943530372844305035), (15556022873616561564911269098, 1267555148469424897028567088551), (11667145273831566636113051878, 1267596908319103461073648326925), (7778157858431849463462494014, 1267626737063919613192537441702), (3889097232048075534265022570, 1267644634423113846968036898308)]
theorem r448 : R 448 t7 0 = true := by kernel_rfl
theorem r449 : R 448 t7 1 = true := by kernel_rfl
theorem r450 : R 448 t7 2 = true := by kernel_rfl
theorem r451 : R 448 t7 3 = true := by kernel_rfl
theorem r452 : R 448 t7 4 = true := by kernel_rfl
theorem r453 : R 448 t7 5 = true := by kernel_rfl
theorem r454 : R 448 t7 6 = true := by kernel_rfl
theorem r455 : R 448 t7 7 = true := by kernel_rfl
theorem r456 : R 448 t7 8 = true := by kernel_rfl
theorem r457 : R 448 t7 9 = true := by kernel_rfl
theorem r458 : R 448 t7 10 = true := by kernel_rfl
theorem r459 : R 448 t7 11 = true := by kernel_rfl
theorem r460 : R 448 t7 12 = true := by kernel_rfl
theorem r461 : R 448 t7 13 = true := by kernel_rfl
theorem r462 : R 448 t7 14 = true := by kernel_rfl
theorem r463 : R 448 t7 15 = true := by kernel_rfl
theorem r464 : R 448 t7 16 = true := by kernel_rfl
theorem r465 : R 448 t7 17 = true := by kernel_rfl
theorem r466 : R 448 t7 18 = true := by kernel_rfl
theorem r467 : R 448 t7 19 = true := by kernel_rfl
theorem r468 : R 448 t7 20 = true := by kernel_rfl
theorem r469 : R 448 t7 21 = true := by kernel_rfl
theorem r470 : R 448 t7 22 = true := by kernel_rfl
theorem r471 : R 448 t7 23 = true := by kernel_rfl
theorem r472 : R 448 t7 24 = true := by kernel_rfl
theorem r473 : R 448 t7 25 = true := by kernel_rfl
theorem r474 : R 448 t7 26 = true := by kernel_rfl
theorem r475 : R 448 t7 27 = true := by kernel_rfl
theorem r476 : R 448 t7 28 = true := by kernel_rfl
theorem r477 : R 448 t7 29 = true := by kernel_rfl
theorem r478 : R 448 t7 30 = true := by kernel_rfl
theorem r479 : R 448 t7 31 = true := by kernel_rfl
theorem r480 : R 448 t7 32 = true := by kernel_rfl
theorem r481 : R 448 t7 33 = true := by kernel_rfl
theorem r482 : R 448 t7 34 = true := by kernel_rfl
theorem r483 : R 448 t7 35 = true := by kernel_rfl
theorem r484 : R 448 t7 36 = true := by kernel_rfl
theorem r485 : R 448 t7 37 = true := by kernel_rfl
theorem r486 : R 448 t7 38 = true := by kernel_rfl
theorem r487 : R 448 t7 39 = true := by kernel_rfl
theorem r488 : R 448 t7 40 = true := by kernel_rfl
theorem r489 : R 448 t7 41 = true := by kernel_rfl
theorem r490 : R 448 t7 42 = true := by kernel_rfl
theorem r491 : R 448 t7 43 = true := by kernel_rfl
theorem r492 : R 448 t7 44 = true := by kernel_rfl
theorem r493 : R 448 t7 45 = true := by kernel_rfl
theorem r494 : R 448 t7 46 = true := by kernel_rfl
theorem r495 : R 448 t7 47 = true := by kernel_rfl
theorem r496 : R 448 t7 48 = true := by kernel_rfl
theorem r497 : R 448 t7 49 = true := by kernel_rfl
theorem r498 : R 448 t7 50 = true := by kernel_rfl
theorem r499 : R 448 t7 51 = true := by kernel_rfl
theorem r500 : R 448 t7 52 = true := by kernel_rfl
theorem r501 : R 448 t7 53 = true := by kernel_rfl
theorem r502 : R 448 t7 54 = true := by kernel_rfl
theorem r503 : R 448 t7 55 = true := by kernel_rfl
theorem r504 : R 448 t7 56 = true := by kernel_rfl
theorem r505 : R 448 t7 57 = true := by kernel_rfl
theorem r506 : R 448 t7 58 = true := by kernel_rfl
theorem r507 : R 448 t7 59 = true := by kernel_rfl
theorem r508 : R 448 t7 60 = true := by kernel_rfl
theorem r509 : R 448 t7 61 = true := by kernel_rfl
theorem r510 : R 448 t7 62 = true := by kernel_rfl
theorem r511 : R 448 t7 63 = true := by kernel_rfl
theorem b7 : rowsB fastO 448 t7 = true := rowsB_of _ _ (all64 (P := (R 448 t7 · = true)) r448 r449 r450 r451 r452 r453 r454 r455 r456 r457 r458 r459 r460 r461 r462 r463 r464 r465 r466 r467 r468 r469 r470 r471 r472 r473 r474 r475 r476 r477 r478 r479 r480 r481 r482 r483 r484 r485 r486 r487 r488 r489 r490 r491 r492 r493 r494 r495 r496 r497 r498 r499 r500 r501 r502 r503 r504 r505 r506 r507 r508 r509 r510 r511)
theorem s7 : stepB (251119569250872176007979582694) (1242528472992971975963943927564) t7 = true := by kernel_rfl
end Go.Proofs.YtbdnkneedengcaaGreatDoor.Ie.Tw

/- The table of factors, row by row, part 3 (printed by twid.py). Conditions: none. -/
set_option linter.unusedSimpArgs false
set_option linter.unusedVariables false
set_option maxRecDepth 100000
namespace Go.Proofs.YtbdnkneedengcaaGreatDoor.Ie.Tw
def t8 : List (Int × Int) := [(214, 1267650600228229401496703204908), (-3889097232048075534265022142, 1267644634423113846968036898308), (-7778157858431849463462493586, 1267626737063919613192537441702), (-11667145273831566636113051450, 1267596908319103461073648326925), (-15556022873616561564911268670, 1267555148469424897028567088550), (-19444754054189795151337043757, 1267501457907943530372844305033), (-23333302213332381681381765336, 1267435837140015373693644889490), (-27221630750548102849569955169, 1267358286783288086246493965968), (-31109703067407905568579188225, 1267268807567695160420278292578), (-34997482567894380321913704459, 1267167400335449051325222436967), (-38884932658746216817270263167, 1267054066041033249568506638680), (-42772016749802633698448445311, 1266928805751193297292140413359), (-46658698254347779073901780062, 1266791620644926747557652371832), (-50544940589455098620300756708, 1266642512013472067172102349343), (-54430707176331668019783979398, 1266481481260296483059866672821), (-58315961440662486489909427123, 1266308529901082772294591143635), (-62200666812954728165683991640, 1266123659563714995915648986069), (-66084786728881948093446178351, 1265926871988263176663382514264), (-69968284629628239596804065660, 1265718169026966920777347508980), (-73851123962232339775288323080, 1265497552644217984011718176703), (-77733268179931679896868282990, 1265265024916541782031947993792), (-81614680742506377445997740901, 1265020588032577845366717624022), (-85495325116623166589406319447, 1264764244293059219099135345474), (-89375164776179263822431866976, 1264495996110790807491087938767), (-93254163202646165559299467023, 1264215846010626663744570679655), (-97132283885413374431393204454, 1263923796629446225113753851473), (-101009490322132051058237861597, 1263619850716129493591469953478), (-104885746019058588056609196905, 1263304011131531162403730436242), (-108761014491398103053923383046, 1262976280848453688555803251564), (-112635259263647847472818543896, 1262636662951619311683302668483), (-116508443869940527854634123516, 1262285160637641019471660585488), (-120380531854387536490317037407, 1261921777214992459917263868610), (-124251486771422088128137189373, 1261546516103976800713454972420), (-128121272186142259528478978161, 1261159380836694536054503162724), (-131989851674653928636889858368, 1260760375057010241160560962679), (-135857188824413610147511851308, 1260349502520518274836524894905), (-139723247234571184229997114690, 1259926767094507430387621097692), (-143587990516312515194014265958, 1259492172757924535224434860429), (-147451382293201956866488103431, 1259045723601336999499998458720), (-151313386201524741457781672301, 1258587423826894314131443780181), (-155173965890629248694126268983, 1258117277748288498568615024515), (-159033085023269151994731956988, 1257635289790713498681922143048), (-162890707275945438473168469788, 1257141464490823535151597560480), (-166746796339248299543793990156, 1256635806496690402750397002076), (-170601315918198888915227210036, 1256118320567759720921659839990), (-174454229732590944754106278660, 1255589011574806136064515179883), (-178305501517332272803656727605, 1255047884499887475947886840573), (-182155095022786087242899207786, 1254494944436297856684813342298), (-186002974015112206073666872656, 1253930196588519742708457920381), (-189849102276608097823971481537, 1253353646272174960201038327940), (-193693443606049776357656764172, 1252765298913974664436756690981), (-197535961819032540581707269039, 1252165160051668261509655839028), (-201376620748311555844040800326, 1251553235333991284927170261759), (-205215384244142273816102617914, 1250929530520612227559977044211), (-209052216174620687656099817277, 1250294051482078329448584717499), (-212887080426023419250264707554, 1249646804199760321976925836003), (-216719940903147635331116551593, 1248987794765796128933042163241), (-220550761529650789273301706637, 1248317029383033524986769524565), (-224379506248390185369232993326, 1247634514364971752124142573098), (-228206139021762362388420008448, 1246940256135702094588047823542), (-232030623832042293226083067585, 1246234261229847412884456244319), (-235852924681722397448374501509, 1245516536292500637423364369723), (-239673005593851363543292118569, 1244787088079162222373365208092), (-243490830612372777688160767815, 1244045923455676560318557087333)]
theorem r512 : R 512 t8 0 = true := by kernel_rfl
theorem r513 : R 512 t8 1 = true := by kernel_rfl
theorem r514 : R 512 t8 2 = true := by kernel_rfl
theorem r515 : R 512 t8 3 = true := by kernel_rfl
theorem r516 : R 512 t8 4 = true := by kernel_rfl
theorem r517 : R 512 t8 5 = true := by kernel_rfl
theorem r518 : R 512 t8 6 = true := by kernel_rfl
theorem r519 : R 512 t8 7 = true := by kernel_rfl
theorem r520 : R 512 t8 8 = true := by kernel_rfl
theorem r521 : R 512 t8 9 = true := by kernel_rfl
theorem r522 : R 512 t8 10 = true := by kernel_rfl
theorem r523 : R 512 t8 11 = true := by kernel_rfl
theorem r524 : R 512 t8 12 = true := by kernel_rfl
theorem r525 : R 512 t8 13 = true := by kernel_rfl
theorem r526 : R 512 t8 14 = true := by kernel_rfl
theorem r527 : R 512 t8 15 = true := by kernel_rfl
theorem r528 : R 512 t8 16 = true := by kernel_rfl
theorem r529 : R 512 t8 17 = true := by kernel_rfl
theorem r530 : R 512 t8 18 = true := by kernel_rfl
theorem r531 : R 512 t8 19 = true := by kernel_rfl
theorem r532 : R 512 t8 20 = true := by kernel_rfl
theorem r533 : R 512 t8 21 = true := by kernel_rfl
theorem r534 : R 512 t8 22 = true := by kernel_rfl
theorem r535 : R 512 t8 23 = true := by kernel_rfl
theorem r536 : R 512 t8 24 = true := by kernel_rfl
theorem r537 : R 512 t8 25 = true := by kernel_rfl
theorem r538 : R 512 t8 26 = true := by kernel_rfl
theorem r539 : R 512 t8 27 = true := by kernel_rfl
theorem r540 : R 512 t8 28 = true := by kernel_rfl
theorem r541 : R 512 t8 29 = true := by kernel_rfl
theorem r542 : R 512 t8 30 = true := by kernel_rfl
theorem r543 : R 512 t8 31 = true := by kernel_rfl
theorem r544 : R 512 t8 32 = true := by kernel_rfl
theorem r545 : R 512 t8 33 = true := by kernel_rfl
theorem r546 : R 512 t8 34 = true := by kernel_rfl
theorem r547 : R 512 t8 35 = true := by kernel_rfl
theorem r548 : R 512 t8 36 = true := by kernel_rfl
theorem r549 : R 512 t8 37 = true := by kernel_rfl
theorem r550 : R 512 t8 38 = true := by kernel_rfl
theorem r551 : R 512 t8 39 = true := by kernel_rfl
theorem r552 : R 512 t8 40 = true := by kernel_rfl
theorem r553 : R 512 t8 41 = true := by kernel_rfl
theorem r554 : R 512 t8 42 = true := by kernel_rfl
theorem r555 : R 512 t8 43 = true := by kernel_rfl
theorem r556 : R 512 t8 44 = true := by kernel_rfl
theorem r557 : R 512 t8 45 = true := by kernel_rfl
theorem r558 : R 512 t8 46 = true := by kernel_rfl
theorem r559 : R 512 t8 47 = true := by kernel_rfl
theorem r560 : R 512 t8 48 = true := by kernel_rfl
theorem r561 : R 512 t8 49 = true := by kernel_rfl
theorem r562 : R 512 t8 50 = true := by kernel_rfl
theorem r563 : R 512 t8 51 = true := by kernel_rfl
theorem r564 : R 512 t8 52 = true := by kernel_rfl
theorem r565 : R 512 t8 53 = true := by kernel_rfl
theorem r566 : R 512 t8 54 = true := by kernel_rfl
theorem r567 : R 512 t8 55 = true := by kernel_rfl
theorem r568 : R 512 t8 56 = true := by kernel_rfl
theorem r569 : R 512 t8 57 = true := by kernel_rfl
theorem r570 : R 512 t8 58 = true := by kernel_rfl
theorem r571 : R 512 t8 59 = true := by kernel_rfl
theorem r572 : R 512 t8 60 = true := by kernel_rfl
theorem r573 : R 512 t8 61 = true := by kernel_rfl
theorem r574 : R 512 t8 62 = true := by kernel_rfl
theorem r575 : R 512 t8 63 = true := by kernel_rfl
theorem b8 : rowsB fastO 512 t8 = true := rowsB_of _ _ (all64 (P := (R 512 t8 · = true)) r512 r513 r514 r515 r516 r517 r518 r519 r520 r521 r522 r523 r524 r525 r526 r527 r528 r529 r530 r531 r532 r533 r534 r535 r536 r537 r538 r539 r540 r541 r542 r543 r544 r545 r546 r547 r548 r549 r550 r551 r552 r553 r554 r555 r556 r557 r558 r559 r560 r561 r562 r563 r564 r565 r566 r567 r568 r569 r570 r571 r572 r573 r574 r575)
theorem s8 : stepB (3889097232048075534265022570) (1267644634423113846968036898308) t8 = true := by kernel_rfl
def t9 : List (Int × Int) := [(-247306363802463555846379077349, 1243293049398167358316279903309), (-251119569250872176007979582250, 1242528472992971975963943927538), (-254930411066256707390431578963, 1241752201436574726092986296420), (-258738853379522633418027130574, 1240964242035539138717754452740), (-262544860344160465300131681889, 1240164602206439188876874049666), (-266348396136583143030551706493, 1239353289475789489014411066022), (-270149424956463220632272681350, 1238530311479974446557884027383), (-273947911027069832473851449269, 1237695675965176387359922188928), (-277743818595605437485807666515, 1236849390787302645680099221180), (-281537111933542338107449522640, 1235991463911911621393199257216), (-285327755336958970796689242563, 1235121903414137805119893018095), (-289115713126875964937554017058, 1234240717478615771985516040579), (-292900949649591966982277936919, 1233347914399403144722348696327), (-296683429277019226667070207578, 1232443502579902526840498623225), (-300463116407018942142894374160, 1231527490532782406602180296070), (-304239975463736360864862470663, 1230599886879897032543873654236), (-308013970897935633086146899897, 1229660700352205261300523886971), (-311785067187334414804641431320, 1228709939789688378495617561583), (-315553228836938217012960950043, 1227747614141266893470636174836), (-319318420379374498104757479884, 1226773732464716308637046822471), (-323080606375226496292747513912, 1225788303926581864243640924962), (-326839751413366798896292794709, 1224791337802092259361675728571), (-330595820111290645358853370567, 1223782843475072349899909528709), (-334348777115448960858137989672, 1222762830437854824471250146848), (-338098587101581117374312658470, 1221731308291190858942357042130), (-341845214775047419084193458965, 1220688286744159750507150463823), (-345588624871161308951944468523, 1219633775614077532134786160404), (-349328782155521293389425830429, 1218567784826404568252251264907), (-353065651424342581861990659274, 1217490324414652132531325983913), (-356799197504788438318212507244, 1216401404520287968659236538925), (-360529385255301241324737540297, 1215301035392640834981897353706), (-364256179565933249790197351532, 1214189227388804033918204659330), (-367979545358677071164889446922, 1213065990973537927053399410216), (-371699447587795829005732849980, 1211931336719171436829064579304), (-375415851240153026798835960461, 1210785275305502535756860438977), (-379128721335542104934872741214, 1209627817519697724092631246496), (-382838022927015687735351469955, 1208458974256190496917037748956), (-386543721101214517430777651748, 1207278756516578801578382013411), (-390245780978696071994659216002, 1206087175409521486462794183408), (-393944167714262863740277790984, 1204884242150633742066444774169), (-397638846497290415590154631296, 1203669968062381535353930955777), (-401329782552054911931173641098, 1202444364573975038396460847670), (-405016941138060520971386859608, 1201207443221261052292926069302), (-408700287550366385517619726666, 1199959215646614427386409571932), (-412379787119913279096114395879, 1198699693598828480798123026127), (-416055405213849924341599281618, 1197428888933004412310205669788), (-419727107235858970583351884371, 1196146813610439719638244443496), (-423394858626482627560029706610, 1194853479698515614143793364998), (-427058624863447952198280718359, 1193548899370583438046578334069), (-430718371461991785393410327468, 1192233084905850084205471824210), (-434374063975185335733676123545, 1190906048689262419546710120261), (-438025667994258407113104765530, 1189567803211390713227203812615), (-441673149148923267181077239762, 1188218361068311070630160071063), (-445316473107698153580309296488, 1186857734961486874299592706209), (-448955605578230414928263146358, 1185485937697649232929643095793), (-452590512307619283500464432377, 1184102982188676439533971619155), (-456221159082738276577665054702, 1182708881451472439929805217600), (-459847511730557223422287583003, 1181303648607844312680541993799), (-463469536118463914853110710866, 1179887296884378761650118291913), (-467087198154585372390707455813, 1178459839612317622331637374259), (-470700463788108733949728553475, 1177021290227432383122041542579), (-474309299009601753057732701581, 1175571662269897722723881254992), (-477913669851332908583902944758, 1174110969384164064864495376142), (-481513542387591121964654520421, 1172639225318829151532166080877)]
theorem r576 : R 576 t9 0 = true := by kernel_rfl
theorem r577 : R 576 t9 1 = true := by kernel_rfl
theorem r578 : R 576 t9 2 = true := by kernel_rfl
theorem r579 : R 576 t9 3 = true := by kernel_rfl
theorem r580 : R 576 t9 4 = true := by kernel_rfl
theorem r581 : R 576 t9 5 = true := by kernel_rfl
theorem r582 : R 576 t9 6 = true := by kernel_rfl
theorem r583 : R 576 t9 7 = true := by kernel_rfl
theorem r584 : R 576 t9 8 = true := by kernel_rfl
theorem r585 : R 576 t9 9 = true := by kernel_rfl
theorem r586 : R 576 t9 10 = true := by kernel_rfl
theorem r587 : R 576 t9 11 = true := by kernel_rfl
theorem r588 : R 576 t9 12 = true := by kernel_rfl
theorem r589 : R 576 t9 13 = true := by kernel_rfl
theorem r590 : R 576 t9 14 = true := by kernel_rfl
theorem r591 : R 576 t9 15 = true := by kernel_rfl
theorem r592 : R 576 t9 16 = true := by kernel_rfl
theorem r593 : R 576 t9 17 = true := by kernel_rfl
theorem r594 : R 576 t9 18 = true := by kernel_rfl
theorem r595 : R 576 t9 19 = true := by kernel_rfl
theorem r596 : R 576 t9 20 = true := by kernel_rfl
theorem r597 : R 576 t9 21 = true := by kernel_rfl
theorem r598 : R 576 t9 22 = true := by kernel_rfl
theorem r599 : R 576 t9 23 = true := by kernel_rfl
theorem r600 : R 576 t9 24 = true := by kernel_rfl
theorem r601 : R 576 t9 25 = true := by kernel_rfl
theorem r602 : R 576 t9 26 = true := by kernel_rfl
theorem r603 : R 576 t9 27 = true := by kernel_rfl
theorem r604 : R 576 t9 28 = true := by kernel_rfl
theorem r605 : R 576 t9 29 = true := by kernel_rfl
theorem r606 : R 576 t9 30 = true := by kernel_rfl
theorem r607 : R 576 t9 31 = true := by kernel_rfl
theorem r608 : R 576 t9 32 = true := by kernel_rfl
theorem r609 : R 576 t9 33 = true := by kernel_rfl
theorem r610 : R 576 t9 34 = true := by kernel_rfl
theorem r611 : R 576 t9 35 = true := by kernel_rfl
theorem r612 : R 576 t9 36 = true := by kernel_rfl
theorem r613 : R 576 t9 37 = true := by kernel_rfl
theorem r614 : R 576 t9 38 = true := by kernel_rfl
theorem r615 : R 576 t9 39 = true := by kernel_rfl
theorem r616 : R 576 t9 40 = true := by kernel_rfl
theorem r617 : R 576 t9 41 = true := by kernel_rfl
theorem r618 : R 576 t9 42 = true := by kernel_rfl
theorem r619 : R 576 t9 43 = true := by kernel_rfl
theorem r620 : R 576 t9 44 = true := by kernel_rfl
theorem r621 : R 576 t9 45 = true := by kernel_rfl
theorem r622 : R 576 t9 46 = true := by kernel_rfl
theorem r623 : R 576 t9 47 = true := by kernel_rfl
theorem r624 : R 576 t9 48 = true := by kernel_rfl
theorem r625 : R 576 t9 49 = true := by kernel_rfl
theorem r626 : R 576 t9 50 = true := by kernel_rfl
theorem r627 : R 576 t9 51 = true := by kernel_rfl
theorem r628 : R 576 t9 52 = true := by kernel_rfl
theorem r629 : R 576 t9 53 = true := by kernel_rfl
theorem r630 : R 576 t9 54 = true := by kernel_rfl
theorem r631 : R 576 t9 55 = true := by kernel_rfl
theorem r632 : R 576 t9 56 = true := by kernel_rfl
theorem r633 : R 576 t9 57 = true := by kernel_rfl
theorem r634 : R 576 t9 58 = true := by kernel_rfl
theorem r635 : R 576 t9 59 = true := by kernel_rfl
theorem r636 : R 576 t9 60 = true := by kernel_rfl
theorem r637 : R 576 t9 61 = true := by kernel_rfl
theorem r638 : R 576 t9 62 = true := by kernel_rfl
theorem r639 : R 576 t9 63 = true := by kernel_rfl
theorem b9 : rowsB fastO 576 t9 = true := rowsB_of _ _ (all64 (P := (R 576 t9 · = true)) r576 r577 r578 r579 r580 r581 r582 r583 r584 r585 r586 r587 r588 r589 r590 r591 r592 r593 r594 r595 r596 r597 r598 r599 r600 r601 r602 r603 r604 r605 r606 r607 r608 r609 r610 r611 r612 r613 r614 r615 r616 r617 r618 r619 r620 r621 r622 r623 r624 r625 r626 r627 r628 r629 r630 r631 r632 r633 r634 r635 r636 r637 r638 r639)
theorem s9 : stepB (-243490830612372777688160767815) (1244045923455676560318557087333) t9 = true := by kernel_rfl
def t10 : List (Int × Int) := [(-485108882735005078916833874776, 1171156443926508635938050023781), (-488699657052862152632931271382, 1169662639163705696421914101241), (-492285831543426925456480417782, 1168157825090679672528919382502), (-495867372452259306039597793096, 1166642015871313724493900484658), (-499444246068532238988421835661, 1165115225772981517378779727119), (-503016418725349004006047808852, 1163577469166412931117935737246), (-506583856800060101546417969154, 1162028760525558797735514704161), (-510146526714579721996518576916, 1160469114427454667007829105906), (-513704394935701795408155280392, 1158898545552083601853133379993), (-517257427975415618804526430811, 1157317068682238004740198582817), (-520805592391221058090789913075, 1155724698703380476416228503530), (-524348854786443321601823065932, 1154121450603503708263767876850), (-527887181810547302324407179333, 1152507339472989409605349191246), (-531420540159451485835127857277, 1150882380504466271283708028384), (-534948896575841420999370183522, 1149246588992666966854467811073), (-538472217849482750480903086635, 1147599980334284192737253194925), (-541990470817533798115690531243, 1145942570027825748680237028225), (-545503622364857710207738125001, 1144274373673468659902158739957), (-549011639424334147808982386491, 1142595406972912342284872112549), (-552514488977170527049456228451, 1140905685729230811998487568774), (-556012138053212804588218133680, 1139205225846723940950168266577), (-559504553731255805259813997549, 1137494043330767759456620366787), (-562991703139353088995349641072, 1135772154287663807549285732096), (-566473553455126354101588521305, 1134039574924487536330199947045), (-569950071906074373985853140698, 1132296321548935760805419833668), (-573421225769881464418900042792, 1130542410569173165631852491800), (-576886982374725478432357037054, 1128777858493677865222232232826), (-580347309099585325951757379034, 1127002681931086019661892516897), (-583802173374548015270679001591, 1125216897590035507899867062624), (-587251542681115213475997506571, 1123420522279008659685727591300), (-590695384552509322938789441627, 1121613572906174047732425111308), (-594133666573979070989977361292, 1119796066479227341594247159140), (-597566356383104609904390262020, 1117968020105231224757834908118), (-600993421670102124321522144601, 1116129450990454376453021451365), (-604414830178127943235907650752, 1114280376440209519699055778817), (-607830549703582153694696900130, 1112420813858690537110565916238), (-611240548096411713344701775619, 1110550780748808655996389294578), (-614644793260413058975902924400, 1108670294712027704293158587999), (-618043253153534208213150615553, 1106779373448198438884276916058), (-621435895788176351512563277185, 1104878034755391947863647367516), (-624822689231494931623924982370, 1102966296529732128312238187916), (-628203601605700207685207318420, 1101044176765227241164266598338), (-631578601088357301120191912701, 1099111693553600544748470996750), (-634947655912685720515047354806, 1097168865084120008598613154311), (-638310734367858362654618303386, 1095215709643427109136008875287), (-641667804799299986904115150254, 1093252245615364708835527359356), (-645018835608985160126849688012, 1091278491480804020495126107733), (-648363795255735669333645743869, 1089294465817470658237599568512), (-651702652255517399264563654472, 1087300187299769776881815740825), (-655035375181736672108613717434, 1085295674698610301329295571009), (-658361932665536046572196317325, 1083280946881228247620555096115), (-661682293396089573512095239591, 1081256022811009137324179840235), (-664996426120897505353965707245, 1079220921547309506930134866735), (-668304299646080456522399854132, 1077175662245277513927332054297), (-671605882836673012113819636683, 1075120264155672641253978516456), (-674901144616916782048640534713, 1073054746624684501817716543092), (-678190053970552897944368752111, 1070979129093750744791035928196), (-681472579941113949956539951081, 1068893431099374065395893981448), (-684748691632215360839678789559, 1066797672272938319899916822158), (-688018358207846194485755630930, 1064691872340523747554977643495), (-691281548892659396202939708326, 1062576051122721301217353433400), (-694538232972261462002796702572, 1060450228534446088397051067018), (-697788379793501534169453082783, 1058314424584749924492266664923), (-701031958764759920389649611287, 1056168659376632999973298563074)]
theorem r640 : R 640 t10 0 = true := by kernel_rfl
theorem r641 : R 640 t10 1 = true := by kernel_rfl
theorem r642 : R 640 t10 2 = true := by kernel_rfl
theorem r643 : R 640 t10 3 = true := by kernel_rfl
theorem r644 : R 640 t10 4 = true := by kernel_rfl
theorem r645 : R 640 t10 5 = true := by kernel_rfl
theorem r646 : R 640 t10 6 = true := by kernel_rfl
theorem r647 : R 640 t10 7 = true := by kernel_rfl
theorem r648 : R 640 t10 8 = true := by kernel_rfl
theorem r649 : R 640 t10 9 = true := by kernel_rfl
theorem r650 : R 640 t10 10 = true := by kernel_rfl
theorem r651 : R 640 t10 11 = true := by kernel_rfl
theorem r652 : R 640 t10 12 = true := by kernel_rfl
theorem r653 : R 640 t10 13 = true := by kernel_rfl
theorem r654 : R 640 t10 14 = true := by kernel_rfl
theorem r655 : R 640 t10 15 = true := by kernel_rfl
theorem r656 : R 640 t10 16 = true := by kernel_rfl
theorem r657 : R 640 t10 17 = true := by kernel_rfl
theorem r658 : R 640 t10 18 = true := by kernel_rfl
theorem r659 : R 640 t10 19 = true := by kernel_rfl
theorem r660 : R 640 t10 20 = true := by kernel_rfl
theorem r661 : R 640 t10 21 = true := by kernel_rfl
theorem r662 : R 640 t10 22 = true := by kernel_rfl
theorem r663 : R 640 t10 23 = true := by kernel_rfl
theorem r664 : R 640 t10 24 = true := by kernel_rfl
theorem r665 : R 640 t10 25 = true := by kernel_rfl
theorem r666 : R 640 t10 26 = true := by kernel_rfl
theorem r667 : R 640 t10 27 = true := by kernel_rfl
theorem r668 : R 640 t10 28 = true := by kernel_rfl
theorem r669 : R 640 t10 29 = true := by kernel_rfl
theorem r670 : R 640 t10 30 = true := by kernel_rfl
theorem r671 : R 640 t10 31 = true := by kernel_rfl
theorem r672 : R 640 t10 32 = true := by kernel_rfl
theorem r673 : R 640 t10 33 = true := by kernel_rfl
theorem r674 : R 640 t10 34 = true := by kernel_rfl
theorem r675 : R 640 t10 35 = true := by kernel_rfl
theorem r676 : R 640 t10 36 = true := by kernel_rfl
theorem r677 : R 640 t10 37 = true := by kernel_rfl
theorem r678 : R 640 t10 38 = true := by kernel_rfl
theorem r679 : R 640 t10 39 = true := by kernel_rfl
theorem r680 : R 640 t10 40 = true := by kernel_rfl
theorem r681 : R 640 t10 41 = true := by kernel_rfl
theorem r682 : R 640 t10 42 = true := by kernel_rfl
theorem r683 : R 640 t10 43 = true := by kernel_rfl
theorem r684 : R 640 t10 44 = true := by kernel_rfl
theorem r685 : R 640 t10 45 = true := by kernel_rfl
theorem r686 : R 640 t10 46 = true := by kernel_rfl
theorem r687 : R 640 t10 47 = true := by kernel_rfl
theorem r688 : R 640 t10 48 = true := by kernel_rfl
theorem r689 : R 640 t10 49 = true := by kernel_rfl
theorem r690 : R 640 t10 50 = true := by kernel_rfl
theorem r691 : R 640 t10 51 = true := by kernel_rfl
theorem r692 : R 640 t10 52 = true := by kernel_rfl
theorem r693 : R 640 t10 53 = true := by kernel_rfl
theorem r694 : R 640 t10 54 = true := by kernel_rfl
theorem r695 : R 640 t10 55 = true := by kernel_rfl
theorem r696 : R 640 t10 56 = true := by kernel_rfl
theorem r697 : R 640 t10 57 = true := by kernel_rfl
theorem r698 : R 640 t10 58 = true := by kernel_rfl
theorem r699 : R 640 t10 59 = true := by kernel_rfl
theorem r700 : R 640 t10 60 = true := by kernel_rfl
theorem r701 : R 640 t10 61 = true := by kernel_rfl
theorem r702 : R 640 t10 62 = true := by kernel_rfl
theorem r703 : R 640 t10 63 = true := by kernel_rfl
theorem b10 : rowsB fastO 640 t10 = true := rowsB_of _ _ (all64 (P := (R 640 t10 · = true)) r640 r641 r642 r643 r644 r645 r646 r647 r648 r649 r650 r651 r652 r653 r654 r655 r656 r657 r658 r659 r660 r661 r662 r663 r664 r665 r666 r667 r668 r669 r670 r671 r672 r673 r674 r675 r676 r677 r678 r679 r680 r681 r682 r683 r684 r685 r686 r687 r688 r689 r690 r691 r692 r693 r694 r695 r696 r697 r698 r699 r700 r701 r702 r703)
theorem s10 : stepB (-481513542387591121964654520421) (1172639225318829151532166080877) t10 = true := by kernel_rfl
def t11 : List (Int × Int) := [(-704268939356236033728032078966, 1054012953106854663288574085622), (-707499291100235750737478562311, 1051847326065743321273773471931), (-710722983591458184999739228139, 1049671798637005458853340706120), (-713939986487281873397166904427, 1047486391297533779831960552910), (-717150269508050372421844234370, 1045291124617214470581853739521), (-720353802437357261833966183474, 1043086019258733588439997861969), (-723550555122330552986914924008, 1040871095977382576637620157651), (-726740497473916499142067624972, 1038646375620862907592529697005), (-729923599467162805102006376108, 1036411879129089856403060727970), (-733099831141501233496453318466, 1034167627533995406390585780649), (-736269162601029605060932988356, 1031913641959330288545726629005), (-739431564014793190253867852774, 1029649943620465156741543234672), (-742587005617065489563541968855, 1027376553824190900585115288287), (-745735457707628399862121583700, 1025093493968518097787047839658), (-748876890652051764169700249821, 1022800785542475607936531693059), (-752011274881972302197139611152, 1020498450125908309577670661887), (-755138580895371919042305360357, 1018186509389273982490851351638), (-758258779256855389420150925248, 1015864985093439337090976795863), (-761371840597927414812979155384, 1013533899089475192862412930655), (-764477735617269050933114594010, 1011193273318450807758506483761), (-767576435081013502896145779922, 1008843129811227360501524299224), (-770667909823021285508848372752, 1006483490688250587726837342309), (-773752130745154746081875677591, 1004114378159342577923127557310), (-776829068817551947183303304538, 1001735814523492724128332307805), (-779898695078899906755139179203, 999347822168647837348959240297), (-782960980636707193020958864717, 996950423571501422678304003470), (-786015896667575871618899107458, 994543641297282120096984252090), (-789063414417472802400339620316, 992127497999541311947065692748), (-792103505202000283340724311571, 989702016419939899078899514169), (-795136140406666039015118396620, 987267219388034247677615313854), (-798161291487152551097267036144, 984823129821061308784019511760), (-801178929969585728347114269672, 982369770723722912532436157042), (-804189027450802913557957999694, 979907165187969239135794912338), (-807191555598620224940657569867, 977435336392781468656019768514), (-810186486152099229428575012825, 974954307603953611605501628299), (-813173790921812945393219259576, 972464102173873522433148227054), (-816153441790111172266874444332, 969964743541303097956195860469), (-819125410711385144574828846431, 967456255231157662806638989895), (-822089669712331507886179925146, 964938660854284543968785924047), (-825046190892215614198573263774, 962411984107240836492081358976), (-827994946423134134278638986422, 959876248772070362470949524625), (-830935908550276984486318284000, 957331478716079825391004964345), (-833869049592188565617725024647, 954777697891614161948551491922), (-836794341941028311307662967372, 952214930335831093457843557721), (-839711758062830543539417785171, 949643200170474878968118040378), (-842621270497763632815964874095, 947062531601649272219918292133), (-845522851860388460553278716320, 944472948919589684577726033680), (-848416474839916181262997316587, 941874476498434556083390347834), (-851302112200465282098285880663, 939267138795995936782296489929), (-854179736781317937343357389611, 936650960353529280481650446611), (-857049321497175655433743982515, 934025965795502453107668063563), (-859910839338414216101072030279, 931392179829363957835850056921), (-862764263371337895242775401677, 928749627245310379175896253154), (-865609566738432975123885626953, 926098332916053048200163898559), (-868446722658620537524764390970, 923438321796583931111905773138), (-871275704427508537455392973761, 920769618923940743356834065378), (-874096485417643155063604837909, 918092249416971291488845445637), (-876909039078759423371441475691, 915406238476097045008011447788), (-879713338938031129480627810408, 912711611383075940396186063056), (-882509358600319986895001831690, 910008393500764419582809298443), (-885297071748424076614593669364, 907296610272878705080691286692), (-888076452143325554662931910207, 904576287223755314038746287588), (-890847473624437623716059571748, 901847449958110813465809523934), (-893610110109850766508668702249, 899110124160800818886812182291)]
theorem r704 : R 704 t11 0 = true := by kernel_rfl
theorem r705 : R 704 t11 1 = true := by kernel_rfl
theorem r706 : R 704 t11 2 = true := by kernel_rfl
theorem r707 : R 704 t11 3 = true := by kernel_rfl
theorem r708 : R 704 t11 4 = true := by kernel_rfl
theorem r709 : R 704 t11 5 = true := by kernel_rfl
theorem r710 : R 704 t11 6 = true := by kernel_rfl
theorem r711 : R 704 t11 7 = true := by kernel_rfl
theorem r712 : R 704 t11 8 = true := by kernel_rfl
theorem r713 : R 704 t11 9 = true := by kernel_rfl
theorem r714 : R 704 t11 10 = true := by kernel_rfl
theorem r715 : R 704 t11 11 = true := by kernel_rfl
theorem r716 : R 704 t11 12 = true := by kernel_rfl
theorem r717 : R 704 t11 13 = true := by kernel_rfl
theorem r718 : R 704 t11 14 = true := by kernel_rfl
theorem r719 : R 704 t11 15 = true := by kernel_rfl
theorem r720 : R 704 t11 16 = true := by kernel_rfl
theorem r721 : R 704 t11 17 = true := by kernel_rfl
theorem r722 : R 704 t11 18 = true := by kernel_rfl
theorem r723 : R 704 t11 19 = true := by kernel_rfl
theorem r724 : R 704 t11 20 = true := by kernel_rfl
theorem r725 : R 704 t11 21 = true := by kernel_rfl
theorem r726 : R 704 t11 22 = true := by kernel_rfl
theorem r727 : R 704 t11 23 = true := by kernel_rfl
theorem r728 : R 704 t11 24 = true := by kernel_rfl
theorem r729 : R 704 t11 25 = true := by kernel_rfl
theorem r730 : R 704 t11 26 = true := by kernel_rfl
theorem r731 : R 704 t11 27 = true := by kernel_rfl
theorem r732 : R 704 t11 28 = true := by kernel_rfl
theorem r733 : R 704 t11 29 = true := by kernel_rfl
theorem r734 : R 704 t11 30 = true := by kernel_rfl
theorem r735 : R 704 t11 31 = true := by kernel_rfl
theorem r736 : R 704 t11 32 = true := by kernel_rfl
theorem r737 : R 704 t11 33 = true := by kernel_rfl
theorem r738 : R 704 t11 34 = true := by kernel_rfl
theorem r739 : R 704 t11 35 = true := by kernel_rfl
theorem r740 : R 704 t11 36 = true := by kernel_rfl
theorem r741 : R 704 t11 37 = true := by kernel_rfl
theorem r742 : R 704 t11 38 = true := by kernel_rfl
theorem r743 : R 704 t11 39 = true := by kernel_rfl
theorem r744 : R 704 t11 40 = true := by kernel_rfl
theorem r745 : R 704 t11 41 = true := by kernel_rfl
theorem r746 : R 704 t11 42 = true := by kernel_rfl
theorem r747 : R 704 t11 43 = true := by kernel_rfl
theorem r748 : R 704 t11 44 = true := by kernel_rfl
theorem r749 : R 704 t11 45 = true := by kernel_rfl
theorem r750 : R 704 t11 46 = true := by kernel_rfl
theorem r751 : R 704 t11 47 = true := by kernel_rfl
theorem r752 : R 704 t11 48 = true := by kernel_rfl
theorem r753 : R 704 t11 49 = true := by kernel_rfl
theorem r754 : R 704 t11 50 = true := by kernel_rfl
theorem r755 : R 704 t11 51 = true := by kernel_rfl
theorem r756 : R 704 t11 52 = true := by kernel_rfl
theorem r757 : R 704 t11 53 = true := by kernel_rfl
theorem r758 : R 704 t11 54 = true := by kernel_rfl
theorem r759 : R 704 t11 55 = true := by kernel_rfl
theorem r760 : R 704 t11 56 = true := by kernel_rfl
theorem r761 : R 704 t11 57 = true := by kernel_rfl
theorem r762 : R 704 t11 58 = true := by kernel_rfl
theorem r763 : R 704 t11 59 = true := by kernel_rfl
theorem r764 : R 704 t11 60 = true := by kernel_rfl
theorem r765 : R 704 t11 61 = true := by kernel_rfl
theorem r766 : R 704 t11 62 = true := by kernel_rfl
theorem r767 : R 704 t11 63 = true := by kernel_rfl
theorem b11 : rowsB fastO 704 t11 = true := rowsB_of _ _ (all64 (P := (R 704 t11 · = true)) r704 r705 r706 r707 r708 r709 r710 r711 r712 r713 r714 r715 r716 r717 r718 r719 r720 r721 r722 r723 r724 r725 r726 r727 r728 r729 r730 r731 r732 r733 r734 r735 r736 r737 r738 r739 r740 r741 r742 r743 r744 r745 r746 r747 r748 r749 r750 r751 r752 r753 r754 r755 r756 r757 r758 r759 r760 r761 r762 r763 r764 r765 r766 r767)
theorem s11 : stepB (-701031958764759920389649611287) (1056168659376632999973298563074) t11 = true := by kernel_rfl
end Go.Proofs.YtbdnkneedengcaaGreatDoor.Ie.Tw
