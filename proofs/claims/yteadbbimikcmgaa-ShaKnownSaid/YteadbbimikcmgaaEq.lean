/- Comparing arrays. Conditions: none. -/
import Derived.Test.YteadbbimikcmgaaSlC
set_option linter.unusedSimpArgs false
set_option linter.unusedVariables false
namespace Go.Proofs.Yteadbbimikcmgaa
open Go

theorem equalIn_int {P : Program} {el : TypeId} {k k' : IntKind} (hel : P.underlying el = some (.int k')) (d : Nat) (a b : Int) : pureRun P (Op.equalIn (d + 1) el (.int k a) (.int k b)) = some (a == b) := by
  simp only [Op.equalIn, pureRun_bind, pureRun_underlying hel, Option.bind_some]
  simp
theorem pureRun_isAgg {P : Program} {el : TypeId} {k' : IntKind} (hel : P.underlying el = some (.int k')) : pureRun P (isAgg el) = some false := by
  simp only [isAgg, pureRun_bind, pureRun_underlying hel, Option.bind_some]
  rfl
theorem part_one {P : Program} {el : TypeId} {k' : IntKind} (hel : P.underlying el = some (.int k')) {xs : Array Value} {i : Nat} {v : Value} (h : xs[i]? = some v) : pureRun P (part el xs i) = some v := by
  simp only [part, pureRun_bind, pureRun_isAgg hel, Option.bind_some]
  simp [h]
theorem forIn_all {P : Program} (B : Nat → Bool) (body : Nat → Option Bool × Unit → Sem (ForInStep (Option Bool × Unit))) : ∀ (is : List Nat), (∀ i ∈ is, ∀ r, pureRun P (body i r) = some (if B i then .yield (none, ()) else .done (some false, ()))) →
    pureRun P (forIn is ((none, ()) : Option Bool × Unit) body) = some (if is.all B then (none, ()) else (some false, ()))
  | [], _ => rfl
  | i :: is, h => by
    rw [List.forIn_cons, pureRun_bind, h i (by simp), Option.bind_some]
    cases hB : B i with
    | true =>
      simp only [if_true, List.all_cons, hB, Bool.true_and]
      exact forIn_all B body is fun j hj => h j (by simp [hj])
    | false => simp [hB]
theorem equal_arr {P : Program} {t el : TypeId} {n : Nat} {k k' : IntKind} (hu : P.underlying t = some (.array n el)) (hel : P.underlying el = some (.int k')) (hi : (P.info? el).isSome = true) (h1 : P.cellsOf el = 1) (l m : List Int) (hl : l.length = n) (hm : m.length = n) :
    pureRun P (Op.equal t (.agg (l.map (Value.int k)).toArray) (.agg (m.map (Value.int k)).toArray)) = some (l == m) := by
  unfold Op.equal
  rw [show Op.maxDepth = 9998 + 1 + 1 from rfl, Op.equalIn]
  simp only [pureRun_bind, pureRun_underlying hu, Option.bind_some, pureRun_sizeOf hi, h1]
  rw [Std.Legacy.Range.forIn_eq_forIn_range', forIn_all (fun i => l.getD i 0 == m.getD i 0)]
  · rw [Option.bind_some]
    have : ((List.range' [:n].start [:n].size [:n].step).all fun i => l.getD i 0 == m.getD i 0) = (l == m) := by
      rw [Bool.eq_iff_iff, List.all_eq_true, beq_iff_eq]
      simp only [beq_iff_eq]
      constructor
      · intro h
        apply List.ext_getElem?
        intro i
        rcases Nat.lt_or_ge i n with hin | hin
        · have := h i (by simp [Std.Legacy.Range.size]; omega)
          simp only [List.getD_eq_getElem?_getD] at this
          rw [List.getElem?_eq_getElem (by omega), List.getElem?_eq_getElem (by omega)] at this ⊢
          simpa using this
        · rw [List.getElem?_eq_none (by omega), List.getElem?_eq_none (by omega)]
      · rintro rfl _ _; rfl
    rw [this]
    cases l == m <;> rfl
  · intro i hin r
    have hlt : i < n := by simp [Std.Legacy.Range.size] at hin; omega
    have e1 : (l.map (Value.int k)).toArray[i * 1]? = some (.int k (l.getD i 0)) := by simp [hl, hlt, List.getD_eq_getElem?_getD]
    have e2 : (m.map (Value.int k)).toArray[i * 1]? = some (.int k (m.getD i 0)) := by simp [hm, hlt, List.getD_eq_getElem?_getD]
    simp only [pureRun_bind, part_one hel e1, part_one hel e2, Option.bind_some, equalIn_int hel]
    cases l.getD i 0 == m.getD i 0 <;> rfl
theorem pureRun_map {P : Program} {α β : Type} (s : Sem α) (f : α → β) : pureRun P (f <$> s) = (pureRun P s).map f := by
  rw [map_eq_pure_bind, pureRun_bind]; cases pureRun P s <;> rfl
section
variable {P : Program} {G : Nat} {Ext : FuncId → List Value → Mem → Outc → Mem → Prop} {e : Env} {S : Mem} {fl : Bool} {ops : Array Oper} {K : Env → Mem → Prop}
variable {rest : List Oper} {dst : Option Tmp} {ty : TypeId} {pos : String} {af : Array Edge} {gd : Option (Nat × Bool)}
theorem apure_eqA {t el yt : TypeId} {n : Nat} {k k' : IntKind} {x y : Operand} {l m : List Int} {op : BinOp} {ev : Operand → Value} (hop : op = .eql ∨ op = .neq) (hu : P.underlying t = some (.array n el)) (hel : P.underlying el = some (.int k')) (hi : (P.info? el).isSome = true) (h1 : P.cellsOf el = 1) (hl : l.length = n) (hm : m.length = n)
    (hg : P.eqGuardType P.depth t = false) (hx : ev x = .agg (l.map (Value.int k)).toArray) (hy : ev y = .agg (m.map (Value.int k)).toArray) :
    apure P ⟨dst, .binOp op t x y yt, ty, pos, af, gd⟩ ev = some (.bool (if op = .eql then l == m else !(l == m))) := by
  have h : aflat P ⟨dst, .binOp op t x y yt, ty, pos, af, gd⟩ ev = some (.bool (if op = .eql then l == m else !(l == m))) := by
    unfold aflat
    rw [if_pos (by simp [Op.operands, hx, hy, flat, flat1, scalar])]
    have hgd : pureRun P (eqGuard op t x y (.agg (l.map (Value.int k)).toArray) (.agg (m.map (Value.int k)).toArray)) = some () := by
      rcases hop with rfl | rfl <;> simp [eqGuard, pureRun_bind, program, pureRun, hg]
    have : pureRun P (execOp ev ⟨dst, .binOp op t x y yt, ty, pos, af, gd⟩) = some (.value (.bool (if op = .eql then l == m else !(l == m)))) := by
      have he := equal_arr hu hel hi h1 (k := k) l m hl hm
      rcases hop with rfl | rfl <;> simp [execOp, hx, hy, pureRun_bind, hgd, binOp, pureRun_map, he]
    rw [this]; rfl
  simp only [apure, h]
end
end Go.Proofs.Yteadbbimikcmgaa
