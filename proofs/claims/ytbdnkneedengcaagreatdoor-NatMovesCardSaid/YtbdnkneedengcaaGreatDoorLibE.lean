/- What several proofs share, part 5: a model of memory, contracts of functions. Conditions: none. -/
import Derived.Test.YtbdnkneedengcaaGreatDoorLibD
import GoSem.Extern.BytealgMakeNoZero
import Derived.WalkKit
import Derived.ProofKit
import Derived.OpenShut
import Derived.ShutString
import Derived.ChangeOld
import Derived.Below
import Derived.Test.YtbdnkneedengcaaGreatDoorRows
import Derived.LaidMore
import Derived.Stop.Joined
import Derived.MakeChecks

/- The builder of texts. Conditions: none. -/
set_option linter.unusedSimpArgs false
set_option linter.unusedVariables false
set_option maxRecDepth 100000
namespace Go.Proofs.YtbdnkneedengcaaGreatDoor
open Go
variable {G : Nat} {Ext : FuncId → List Value → Mem → Outc → Mem → Prop}

theorem noEscape_fn : ExternFn Tryz.prog 154 Extern.AbiNoEscape.same := ⟨_, Tryz.func154, by kernel_rfl, rfl, by kernel_rfl, by kernel_rfl⟩
/-- a builder's two cells -/
def bldR (u v : Value) : Row := newR [u, v] 99
theorem copyCheck_C (rb : Nat) (u v : Value) (S : Mem) (hr : S.row? rb = some (bldR u v)) (hu : u = .pointer none ∨ u = .pointer (some ⟨rb, 0, none⟩)) :
    C Tryz.prog G Ext 133 [.pointer (some ⟨rb, 0, none⟩)] S fun w S' => S' = S.set rb (bldR (.pointer (some ⟨rb, 0, none⟩)) v) := by
  refine C.fn Tryz.func133 rfl (by kernel_rfl) rfl ?_
  repeat first|refine W.g ?_|refine L.p rfl rfl ?_|refine L.nil ?_|refine L.skip rfl ?_
  refine L.ld (a := ⟨rb, 0, none⟩) (v := u) (cell_of (o := 0) hr rfl (.inl rfl)) rfl rfl rfl ?_
  rcases hu with rfl | rfl
  · repeat first|refine W.g ?_|refine L.p rfl rfl ?_|refine L.nil ?_|refine L.skip rfl ?_
    refine W.ite rfl (fun h => ?_) (fun h => ?_)
    rotate_left
    · cases h
    clear h
    repeat first|refine W.g ?_|refine L.p rfl rfl ?_|refine L.nil ?_|refine L.skip rfl ?_
    refine L.sem (v := .pointer (some ⟨rb, 0, none⟩)) rfl (sim_unsafe1 (t0 := 99) rfl rfl rfl (by decide) rfl hr (Nat.le_of_ble_eq_true rfl)) (Nat.le_of_ble_eq_true rfl) (fun _ => Cons.refl _) ?_
    refine L.ext (v := .pointer (some ⟨rb, 0, none⟩)) rfl rfl noEscape_fn (fun ρ args' h => ?_) ?_
    · obtain ⟨v', rfl, hv⟩ : ∃ v', args' = [v'] ∧ VR ρ (.pointer (some ⟨rb, 0, none⟩)) v' := by
        obtain ⟨h1, h2⟩ := h
        match args', h1 with
        | [x], _ => exact ⟨x, rfl, h2 0 _ _ rfl rfl⟩
      exact ⟨v', hv, fun w => rfl⟩
    refine L.sem (v := .pointer (some ⟨rb, 0, none⟩)) rfl (sim_unsafe2 (u := 99) rfl rfl rfl rfl hr rfl (by kernel_rfl)) (Nat.le_of_ble_eq_true rfl) (fun _ => Cons.refl _) ?_
    repeat first|refine W.g ?_|refine L.p rfl rfl ?_|refine L.nil ?_|refine L.skip rfl ?_
    refine L.st (ad := ⟨rb, 0, none⟩) (vs := [.pointer (some ⟨rb, 0, none⟩)]) (write_of (o := 0) hr rfl (Nat.le_of_ble_eq_true rfl) rfl) rfl rfl rfl rfl ?_
    repeat first|refine W.g ?_|refine L.p rfl rfl ?_|refine L.nil ?_|refine L.skip rfl ?_
    exact ⟨.inl rfl, _, rfl, rfl⟩
  · repeat first|refine W.g ?_|refine L.p rfl rfl ?_|refine L.nil ?_|refine L.skip rfl ?_
    refine W.ite rfl (fun h => ?_) (fun h => ?_)
    · cases h
    clear h
    repeat first|refine W.g ?_|refine L.p rfl rfl ?_|refine L.nil ?_|refine L.skip rfl ?_
    refine L.ld (a := ⟨rb, 0, none⟩) (v := .pointer (some ⟨rb, 0, none⟩)) (cell_of (o := 0) hr rfl (.inl rfl)) rfl rfl rfl ?_
    repeat first|refine W.g ?_|refine L.p rfl rfl ?_|refine L.nil ?_|refine L.skip rfl ?_
    refine L.psim (v := .bool false) rfl ?_ ?_
    · exact psim_same (t0 := 99) (a := ⟨rb, 0, none⟩) .neq (.inr rfl) rfl rfl (by decide) rfl rfl
    repeat first|refine W.g ?_|refine L.p rfl rfl ?_|refine L.nil ?_|refine L.skip rfl ?_
    refine W.ite rfl (fun h => ?_) (fun h => ?_)
    · cases h
    clear h
    repeat first|refine W.g ?_|refine L.p rfl rfl ?_|refine L.nil ?_|refine L.skip rfl ?_
    refine ⟨.inl rfl, _, rfl, ?_⟩
    refine List.ext_getElem? fun i => ?_
    rw [List.getElem?_set]
    split
    · rename_i h; subst h; rw [if_pos (row_lt hr)]; exact (Mem.row?_some hr).1
    · rfl
section
variable {P : Program} {G : Nat} {Ext : FuncId → List Value → Mem → Outc → Mem → Prop} {e : Env} {S : Mem} {fl : Bool} {ops : Array Oper} {K : Kont}
variable {rest : List Oper} {dst dst2 : Option Tmp} {d : Tmp} {ty ty2 : TypeId} {pos pos2 : String} {af af2 : Array Edge} {gd gd2 : Option (Nat × Bool)}
theorem L.pushC {t ts xs el : TypeId} {s y : Operand} {bytes : Nat} {h : Hd} {w : Value} {l : List Value} (hok : appOk P ts xs = some (el, 1, bytes)) (hg : HdOk S el h l)
    (hb : bldOk P t = some (el, 1)) (hy : e.eval y = w) (h1 : oneCell w = true)
    (w1 : awanted ops ⟨some d, .buildSlice t 1 #[(0, y)], ty, pos, af, gd⟩ e = true)
    (hs : (e.put (some d) (.slice (some ⟨S.length, 0, none⟩) 1 1)).eval s = h.v) (hroom : h.n + 1 ≤ 1099511627776) (hby : (Nat.ble 1 bytes && Nat.ble bytes 64) = true)
    (w2 : ∀ p, awanted ops ⟨dst2, .call ⟨.builtin .append, #[s, .tmp d], #[ts, xs]⟩, ty2, pos2, af2, gd2⟩ (e.put (some d) p) = true)
    (k : ∀ p h' S', HdOk S' el h' (l ++ [w]) → h'.n = h.n + 1 → h'.c = UNK + h'.n → (∃ b, h'.a = some b ∧ S.length ≤ b) → KeepL h.a.toList S S' → L P G Ext fl ops rest ((e.put (some d) p).put dst2 (Hd.v h')) S' K) :
    L P G Ext fl ops (⟨some d, .buildSlice t 1 #[(0, y)], ty, pos, af, gd⟩ :: ⟨dst2, .call ⟨.builtin .append, #[s, .tmp d], #[ts, xs]⟩, ty2, pos2, af2, gd2⟩ :: rest) e S K := by
  refine L.bs [w] hb rfl rfl (by simp [hy]) (by simp [h1]) w1 ?_
  have hc : Cons S (S ++ [newR [w] el]) := Cons.push _ _
  have hx : Slv (S ++ [newR [w] el]) 1 (.slice (some ⟨S.length, 0, none⟩) 1 1) 1 [w] := Slv.all (row_push_new rfl) rfl (by simp)
  obtain ⟨h', S', q1, q2, q3, q4, ⟨b, q5, q6⟩, q7⟩ := app_hd (x := .slice (some ⟨S.length, 0, none⟩) 1 1) hok (hg.cons hc) (hx.first (Nat.le_refl 1)) rfl rfl (by simp [h1]) (roomy_of hroom hby) (by omega)
  exact L.eff (w2 _) (aeff_append rfl rfl (by rw [hs]; simpa [Env.eval, Env.put] using q1)) (k _ h' S' q2 q3 q4 ⟨b, q5, by simp at q6; omega⟩ ((hc.keepL _).trans q7))
/-- no bytes' place -/
theorem psim_data0 {x : Operand} {ts : Array TypeId} {n c : Nat} (hx : e.eval x = .slice none n c) (hc : c < UNK) : PSim P ⟨dst, .call ⟨.builtin .unsafeSliceData, #[x], ts⟩, ty, pos, af, gd⟩ e.eval (.pointer none) := fun ρ ev' hv => by
  have h1 := hv x (by simp [Op.operands, Call.operands])
  rw [hx] at h1
  obtain ⟨n', c', h3⟩ : ∃ n' c', ev' x = .slice none n' c' := by
    generalize ev' x = u at h1
    cases h1 with
    | slNil _ _ => exact ⟨_, _, rfl⟩
    | slE a c' => unfold UNK at hc; omega
  refine ⟨_, .ptrNil, fun w => pureRun_sound ?_ w⟩
  have hb : Builtin.unsafeSliceData_ ts ty #[.slice none n' c'] = pure (.pointer none) := rfl
  simp [execOp, resolve, h3, pureRun_bind, invoke, builtin, hb]
end
/-- a builder made after S0, and what it holds -/
def BldS (S0 S : Mem) (rb : Nat) (l : BL) : Prop := Cons S0 S ∧ S0.length ≤ rb ∧ ∃ u, ∃ d : Hd, S.row? rb = some (bldR u d.v) ∧ (u = .pointer none ∨ u = .pointer (some ⟨rb, 0, none⟩)) ∧ HdOk S 5 d (bv l) ∧ (∀ b, d.a = some b → S0.length ≤ b ∧ b ≠ rb) ∧ (d.a = none ∨ (d.c = UNK + d.n ∧ 0 < d.n))
theorem BldS.new (S0 : Mem) : BldS S0 (S0 ++ [bldR (.pointer none) (.slice none 0 0)]) S0.length [] :=
  ⟨Cons.push _ _, Nat.le_refl _, _, ⟨none, 0, 0⟩, row_push_new rfl, .inl rfl, HdOk.nil _ _, nofun, .inl rfl⟩
theorem keepL_set (S : Mem) (b : Nat) (x : Row) : KeepL [b] S (S.set b x) := ⟨by simp, fun r hr hn => by
  rw [List.getElem?_set_ne (fun h => hn (by simp [h]))]⟩
theorem string_C {S0 : Mem} (rb : Nat) (l : BL) (S : Mem) (hB : BldS S0 S rb l) (hl : l.length < 1000000000) :
    C Tryz.prog G Ext 113 [.pointer (some ⟨rb, 0, none⟩)] S fun w S' => w = .string (strB l) ∧ Cons S0 S' := by
  obtain ⟨hC, hrb, u, d, hr, hu, hd, ha, hcap⟩ := hB
  refine C.fn Tryz.func113 rfl (by kernel_rfl) rfl ?_
  have hln := hd.len
  rw [bv_len] at hln
  repeat first|refine W.g ?_|refine L.p rfl rfl ?_|refine L.nil ?_|refine L.skip rfl ?_
  refine L.ld (a := ⟨rb, 1, none⟩) (v := d.v) (cell_of (o := 1) hr rfl (.inl rfl)) rfl rfl rfl ?_
  obtain ⟨hd1, ⟨h2, h3, h4⟩ | ⟨b, r, h2, h3, h4, h5, h6, h7⟩⟩ := id hd
  · have hl0 : l = [] := List.length_eq_zero_iff.1 (by omega)
    subst hl0
    have hdv : d.v = .slice none 0 0 := by unfold Hd.v; rw [h2, h3, h4]; rfl
    rw [hdv]
    repeat first|refine W.g ?_|refine L.p rfl rfl ?_|refine L.nil ?_|refine L.skip rfl ?_
    refine L.psim (v := .pointer none) rfl ?_ ?_
    · exact psim_data0 (n := 0) (c := 0) rfl (by decide)
    repeat first|refine W.g ?_|refine L.p rfl rfl ?_|refine L.nil ?_|refine L.skip rfl ?_
    refine L.ld (a := ⟨rb, 1, none⟩) (v := d.v) (cell_of (o := 1) hr rfl (.inl rfl)) rfl rfl rfl ?_
    rw [hdv]
    repeat first|refine W.g ?_|refine L.p rfl rfl ?_|refine L.nil ?_|refine L.skip rfl ?_
    refine L.string0 rfl rfl rfl rfl ?_
    repeat first|refine W.g ?_|refine L.p rfl rfl ?_|refine L.nil ?_|refine L.skip rfl ?_
    exact ⟨.inr rfl, _, rfl, rfl, hC⟩
  · obtain ⟨hc, hpn⟩ : d.c = UNK + d.n ∧ 0 < d.n := hcap.resolve_left (by rw [h2]; nofun)
    have hrg : r = grownR (bv l) 5 1 := by
      rcases h7 with ⟨h8, h9⟩ | ⟨_, h9⟩
      · omega
      · exact h9
    subst hrg
    have hdv : d.v = .slice (some ⟨b, 0, none⟩) l.length (UNK + l.length) := by unfold Hd.v; rw [h2, hc, ← hln]; rfl
    rw [hdv]
    have hpos : 0 < l.length := by omega
    repeat first|refine W.g ?_|refine L.p rfl rfl ?_|refine L.nil ?_|refine L.skip rfl ?_
    refine L.psim (v := .pointer (some ⟨b, 0, none⟩)) rfl ?_ ?_
    · exact psim_data (n := l.length) (c := UNK + l.length) rfl hpos (by rw [knownCap_unk]; exact Nat.le_refl _)
    repeat first|refine W.g ?_|refine L.p rfl rfl ?_|refine L.nil ?_|refine L.skip rfl ?_
    refine L.ld (a := ⟨rb, 1, none⟩) (v := d.v) (cell_of (o := 1) hr rfl (.inl rfl)) rfl rfl rfl ?_
    rw [hdv]
    repeat first|refine W.g ?_|refine L.p rfl rfl ?_|refine L.nil ?_|refine L.skip rfl ?_
    obtain ⟨dp, hdp⟩ : ∃ dp, Tryz.prog.depth = dp + 1 := ⟨Tryz.prog.depth - 1, by have : 1 ≤ Tryz.prog.depth := Nat.le_of_ble_eq_true (by kernel_rfl); omega⟩
    refine L.string (u := 5) l rfl rfl rfl h3 rfl (by show (bv l).take l.length = _; rw [List.take_of_length_le (by rw [bv_len]; exact Nat.le_refl _)]; rfl) hpos (by omega) (by show l.length ≤ (bv l).length; rw [bv_len]; exact Nat.le_refl _) rfl rfl rfl hdp (by kernel_rfl) rfl ?_
    repeat first|refine W.g ?_|refine L.p rfl rfl ?_|refine L.nil ?_|refine L.skip rfl ?_
    exact ⟨.inr rfl, _, rfl, rfl, (keepL_set _ _ _).cons0 hC (fun b' hb => by simp at hb; have := ha b h2; omega)⟩
end Go.Proofs.YtbdnkneedengcaaGreatDoor

/- Room for bytes, not made nought. Conditions: none. -/
set_option linter.unusedSimpArgs false
set_option linter.unusedVariables false
set_option maxRecDepth 100000
namespace Go.Proofs.YtbdnkneedengcaaGreatDoor
open Go
theorem digits_size (n t : Nat) (acc : Array Value) : (Extern.BytealgMakeNoZero.digits n t acc).size = acc.size + n := by
  induction n generalizing t acc with
  | zero => rfl
  | succ n ih => rw [Extern.BytealgMakeNoZero.digits, ih, Array.size_push]; omega
theorem nz_match {motive : Array Value → Type} (n : Int) (h1 : (n : Int) → motive #[.int .i64 n]) (h2 : (x : Array Value) → motive x) : Extern.BytealgMakeNoZero.makeNoZero.match_3 motive #[.int .i64 n] h1 h2 = h1 n := rfl
theorem noZero_run {P : Program} {rs : Array TypeId} {t el : TypeId} {n : Nat} (hr : rs[0]? = some t) (hu : P.underlying t = some (.slice el)) (hn : n ≤ 1000000000) (w : World) :
    ∃ cap b, n ≤ cap ∧ (Extern.BytealgMakeNoZero.makeNoZero #[3] rs #[.int .i64 (n : Int)]).run P w = .ok (.slice (some ⟨w.heap.size, 0, none⟩) n cap) (w.drew.drew.alloc (.cells (Extern.BytealgMakeNoZero.digits cap b #[]) el)) := by
  refine ⟨(Question.appendCap n 0 el).cut (w.tape w.drawn (.appendCap n 0 el)), (Question.extern "internal/bytealg.MakeNoZero.bytes" 0).cut (w.drew.tape w.drew.drawn (.extern "internal/bytealg.MakeNoZero.bytes" 0)), by simp [Question.cut], ?_⟩
  delta Extern.BytealgMakeNoZero.makeNoZero
  rw [nz_match]
  have h0 : ((decide ((n : Int) < 0) || decide ((n : Int) > 2 ^ 48)) = true) = False := by
    simp only [Bool.or_eq_true, decide_eq_true_eq, eq_iff_iff, iff_false, not_or]
    constructor
    · omega
    · have e : (2 : Int) ^ 48 = 281474976710656 := by decide
      rw [e]; omega
  simp only [hr, Sem.run_bind, run_underlying' hu, Result.andThen_ok, h0, if_false, Sem.run_pure, run_choose, Question.forced, Bool.false_eq_true, World.drew_eq, run_askRoom, newRow, run_newObj, World.alloc_eq, Int.toNat_natCast]
  rfl
section
variable {P : Program} {G : Nat} {Ext : FuncId → List Value → Mem → Outc → Mem → Prop} {e : Env} {S : Mem} {fl : Bool} {ops : Array Oper} {K : Kont} {rest : List Oper}
theorem L.noZero {dst : Option Tmp} {op : Op} {ty : TypeId} {pos : String} {af : Array Edge} {gd : Option (Nat × Bool)} {f : FuncId} {rs : Array TypeId} {t el : TypeId} {n : Nat} (hw : awanted ops ⟨dst, op, ty, pos, af, gd⟩ e = true) (hc : acall ⟨dst, op, ty, pos, af, gd⟩ e.eval = some (f, [.int .i64 (n : Int)])) (hf : ExternFn P f (Extern.BytealgMakeNoZero.makeNoZero #[3] rs))
    (hr : rs[0]? = some t) (hu : P.underlying t = some (.slice el)) (hn : n ≤ 1000000000)
    (h : L P G Ext fl ops rest (e.put dst (.slice (some ⟨S.length, 0, none⟩) n (UNK + 0))) (S ++ [grownR [] el 1]) K) : L P G Ext fl ops (⟨dst, op, ty, pos, af, gd⟩ :: rest) e S K := by
  have hk : opKind P ⟨dst, op, ty, pos, af, gd⟩ = 4 := acall_kind hc
  refine L.sem hw (fun ρ a w K Q hv hS hG hK => ?_) (by omega) (fun _ => Cons.push _ _) h
  obtain ⟨args', h1, h2⟩ := extern_run (w := w) hc hv hf
  have ha : args' = [.int .i64 (n : Int)] := by
    obtain ⟨q1, q2⟩ := h1
    match args', q1 with
    | [x], _ => rw [(q2 0 _ _ rfl rfl).scalar_eq rfl]
  subst ha
  obtain ⟨cap, b, hcap, hrun⟩ := noZero_run (P := P) hr hu hn w
  have hsz : (Extern.BytealgMakeNoZero.digits cap b #[]).size = cap := by rw [digits_size]; simp
  obtain ⟨ρ', k1, k2, k3⟩ := hS.drew.drew.push (w' := w.drew.drew.alloc (.cells (Extern.BytealgMakeNoZero.digits cap b #[]) el)) (grownR [] el 1) _ (0, 0) rfl rfl rfl rfl 1 (by simp [grownR]) nofun (fun _ => rfl) rfl (fun j _ h => by simp at h) (fun j u hu => by simp [grownR] at hu)
  refine wp_value (h2 _ _ hrun) (hK _ ρ' _ ?_ k2 (((Stp.drew ρ S w).trans (Stp.drew ρ S w.drew)).trans k3))
  refine .sl _ _ _ _ _ ⟨_, k1, rfl⟩ rfl rfl ⟨fun h => by omega, fun _ => ⟨by omega, _, k1, fun _ => ?_⟩⟩
  show cap * 1 ≤ _
  rw [hsz, Nat.mul_one]
  exact Nat.le_refl _
end
theorem noZero_fn : ExternFn Tryz.prog 155 (Extern.BytealgMakeNoZero.makeNoZero #[3] #[43]) := ⟨_, Tryz.func155, by kernel_rfl, rfl, by kernel_rfl, by kernel_rfl⟩
end Go.Proofs.YtbdnkneedengcaaGreatDoor

/- The builder of texts: room made, texts appended. Conditions: none. -/
set_option linter.unusedSimpArgs false
set_option linter.unusedVariables false
set_option maxRecDepth 100000
namespace Go.Proofs.YtbdnkneedengcaaGreatDoor
open Go
section
variable {P : Program} {G : Nat} {Ext : FuncId → List Value → Mem → Outc → Mem → Prop} {e : Env} {S : Mem} {fl : Bool} {ops : Array Oper} {K : Kont}
variable {rest : List Oper} {dst : Option Tmp} {ty : TypeId} {pos : String} {af : Array Edge} {gd : Option (Nat × Bool)}
/-- nothing copied -/
theorem L.cp0 {td xs : TypeId} {d x : Operand} {a : Option Addr} {n c : Nat} (hok : copyOk P td = true) (hd : e.eval d = .slice a n c) (hx : e.eval x = .slice none 0 0)
    (hw : awanted ops ⟨dst, .call ⟨.builtin .copy, #[d, x], #[td, xs]⟩, ty, pos, af, gd⟩ e = true)
    (h : L P G Ext fl ops rest (e.put dst (vi 0)) S K) :
    L P G Ext fl ops (⟨dst, .call ⟨.builtin .copy, #[d, x], #[td, xs]⟩, ty, pos, af, gd⟩ :: rest) e S K := by
  refine L.eff hw ?_ h
  unfold copyOk at hok
  split at hok
  · rename_i el hu
    split at hok
    · rename_i i hi
      simp only [aeff]
      show acopy P td (e.eval d) (e.eval x) S = _
      rw [hd, hx]
      have h0 : Nat.min 0 n = 0 := Nat.zero_min n
      simp only [acopy, hu, hi, show lenOf' (.slice none 0 0) = some 0 from rfl, h0, firstOf_nil, Option.bind_some]
      cases a with
      | some a => exact (if_pos trivial).trans rfl
      | none => rfl
    · cases hok
  · cases hok
theorem text_cells (l : BL) : firstOf S 1 l.length (.string (strB l)) = some (bv l) := by
  show some (((strB l).data.toList.take l.length).map fun b => Value.int .u8 b.toNat) = _
  have h1 : (strB l).data.toList.length = l.length := strB_size l
  rw [List.take_of_length_le (by omega)]
  congr 1
  show List.map (fun b : UInt8 => Value.int .u8 (b.toNat : Int)) ((l.map fun x => UInt8.ofNat x.toNat).toArray.toList) = _
  rw [List.map_map]
  unfold bv
  refine List.map_congr_left fun x _ => ?_
  show Value.int .u8 ((UInt8.ofNat x.toNat).toNat : Int) = _
  rw [byte_back]
/-- append(s, text...) -/
theorem L.appT {ts xs el : TypeId} {s x : Operand} {bytes : Nat} {h : Hd} {t : BL} {l : List Value} (hok : appOk P ts xs = some (el, 1, bytes)) (hg : HdOk S el h l)
    (hs : e.eval s = h.v) (hx : e.eval x = .string (strB t)) (hroom : h.n + t.length ≤ 1099511627776) (hby : (Nat.ble 1 bytes && Nat.ble bytes 64) = true) (hpos : 0 < t.length)
    (hw : awanted ops ⟨dst, .call ⟨.builtin .append, #[s, x], #[ts, xs]⟩, ty, pos, af, gd⟩ e = true)
    (k : ∀ h' S', HdOk S' el h' (l ++ bv t) → h'.n = h.n + t.length → h'.c = UNK + h'.n → (∃ b, h'.a = some b ∧ S.length ≤ b) → KeepL h.a.toList S S' → L P G Ext fl ops rest (e.put dst (Hd.v h')) S' K) :
    L P G Ext fl ops (⟨dst, .call ⟨.builtin .append, #[s, x], #[ts, xs]⟩, ty, pos, af, gd⟩ :: rest) e S K := by
  obtain ⟨h', S', q1, q2, q3, q4, q5, q7⟩ := app_hd (x := .string (strB t)) hok hg (text_cells t) (congrArg some (strB_size t)) (bv_len t) (by unfold bv; rw [List.all_map]; exact List.all_eq_true.2 fun _ _ => rfl) (roomy_of hroom hby) hpos
  exact L.eff hw (aeff_append rfl rfl (by rw [hs, hx]; exact q1)) (k h' S' q2 q3 q4 q5 q7)
end
variable {G : Nat} {Ext : FuncId → List Value → Mem → Outc → Mem → Prop}
/-- a builder made after S0, and what it holds; room may have been made -/
def BldT (S0 S : Mem) (rb : Nat) (l : BL) : Prop := Cons S0 S ∧ S0.length ≤ rb ∧ ∃ u, ∃ d : Hd, S.row? rb = some (bldR u d.v) ∧ (u = .pointer none ∨ u = .pointer (some ⟨rb, 0, none⟩)) ∧ HdOk S 5 d (bv l) ∧ (∀ b, d.a = some b → S0.length ≤ b ∧ b ≠ rb) ∧ (d.a = none ∨ d.c = UNK + d.n)
theorem BldT.new (S0 : Mem) : BldT S0 (S0 ++ [bldR (.pointer none) (.slice none 0 0)]) S0.length [] :=
  ⟨Cons.push _ _, Nat.le_refl _, _, ⟨none, 0, 0⟩, row_push_new rfl, .inl rfl, HdOk.nil _ _, nofun, .inl rfl⟩
theorem BldT.full {S0 S : Mem} {rb : Nat} {l : BL} (h : BldT S0 S rb l) (hl : 0 < l.length) : BldS S0 S rb l := by
  obtain ⟨h1, h2, u, d, h3, h4, h5, h6, h7⟩ := h
  have hn := h5.len
  rw [bv_len] at hn
  exact ⟨h1, h2, u, d, h3, h4, h5, h6, h7.imp id fun h => ⟨h, by omega⟩⟩
theorem bgrow_C (rb n : Nat) (u : Value) (S : Mem) (hr : S.row? rb = some (bldR u (.slice none 0 0))) (hn : n ≤ 1000000000) :
    C Tryz.prog G Ext 134 [.pointer (some ⟨rb, 0, none⟩), vi n] S fun w S' => S' = (S ++ [grownR [] 5 1]).set rb (bldR u (.slice (some ⟨S.length, 0, none⟩) 0 (UNK + 0))) := by
  refine C.fn Tryz.func134 rfl (by kernel_rfl) rfl ?_
  have hlt := row_lt hr
  have hc : Cons S (S ++ [grownR [] 5 1]) := Cons.push _ _
  have hr2 : Mem.row? (S ++ [grownR [] 5 1]) rb = some (bldR u (.slice none 0 0)) := hc.row' hr
  have hw1 : IntKind.i64.wrap (IntKind.i64.wrap (2 * 0) + (n : Int)) = (n : Int) := by
    rw [show IntKind.i64.wrap (2 * 0) = 0 from rfl, wrap64 (by omega) (by omega)]; omega
  repeat first|refine W.g ?_|refine L.p rfl rfl ?_|refine L.nil ?_|refine L.skip rfl ?_
  refine L.ld (a := ⟨rb, 1, none⟩) (v := .slice none 0 0) (cell_of (o := 1) hr rfl (.inl rfl)) rfl rfl rfl ?_
  repeat first|refine W.g ?_|refine L.p rfl rfl ?_|refine L.nil ?_|refine L.skip rfl ?_
  refine L.noZero (n := n) rfl ?_ noZero_fn rfl rfl hn ?_
  · exact (show acall _ _ = some (155, [Value.int .i64 (IntKind.i64.wrap (IntKind.i64.wrap (2 * 0) + (n : Int)))]) from rfl).trans (by rw [hw1])
  repeat first|refine W.g ?_|refine L.p rfl rfl ?_|refine L.nil ?_|refine L.skip rfl ?_
  refine L.ld (a := ⟨rb, 1, none⟩) (v := .slice none 0 0) (cell_of (o := 1) hr2 rfl (.inl rfl)) rfl rfl rfl ?_
  repeat first|refine W.g ?_|refine L.p rfl rfl ?_|refine L.nil ?_|refine L.skip rfl ?_
  refine L.ld (a := ⟨rb, 1, none⟩) (v := .slice none 0 0) (cell_of (o := 1) hr2 rfl (.inl rfl)) rfl rfl rfl ?_
  repeat first|refine W.g ?_|refine L.p rfl rfl ?_|refine L.nil ?_|refine L.skip rfl ?_
  refine L.cp0 rfl rfl rfl rfl ?_
  repeat first|refine W.g ?_|refine L.p rfl rfl ?_|refine L.nil ?_|refine L.skip rfl ?_
  refine L.st (ad := ⟨rb, 1, none⟩) (vs := [.slice (some ⟨S.length, 0, none⟩) 0 (UNK + 0)]) (write_of (o := 1) hr2 rfl (Nat.le_of_ble_eq_true rfl) rfl) rfl rfl rfl rfl ?_
  repeat first|refine W.g ?_|refine L.p rfl rfl ?_|refine L.nil ?_|refine L.skip rfl ?_
  exact ⟨.inl rfl, _, rfl, rfl⟩
theorem growB_C {S0 : Mem} (rb n : Nat) (S : Mem) (hB : BldT S0 S rb []) (hnone : ∃ u, S.row? rb = some (bldR u (.slice none 0 0))) (hn : n ≤ 1000000000) :
    C Tryz.prog G Ext 110 [.pointer (some ⟨rb, 0, none⟩), vi n] S fun w S' => BldT S0 S' rb [] := by
  obtain ⟨hC, hrb, u, d, hr, hu, hd, ha, hcap⟩ := hB
  obtain ⟨u2, hr2⟩ := hnone
  have he : (u = u2 ∧ d.v = .slice none 0 0) := by
    rw [hr] at hr2
    have h1 := congrArg Row.cells (Option.some.inj hr2)
    have h2 : [u, d.v] = [u2, .slice none 0 0] := h1
    simp only [List.cons.injEq, and_true] at h2
    exact h2
  rw [he.2] at hr
  refine C.fn Tryz.func110 rfl (by kernel_rfl) rfl ?_
  repeat first|refine W.g ?_|refine L.p rfl rfl ?_|refine L.nil ?_|refine L.skip rfl ?_
  refine L.cl (copyCheck_C rb u _ S hr hu) rfl rfl ?_
  rintro _ S1 hS1
  refine ⟨nofun, ?_⟩
  have hr1 : S1.row? rb = some (bldR (.pointer (some ⟨rb, 0, none⟩)) (.slice none 0 0)) := by rw [hS1]; exact row_set_same hr rfl
  have hk1 : KeepL [rb] S S1 := by rw [hS1]; exact keepL_set _ _ _
  have hC1 : Cons S0 S1 := hk1.cons0 hC (fun b hb => by simp at hb; omega)
  clear hS1 hk1
  have hlt := row_lt hr1
  repeat first|refine W.g ?_|refine L.p rfl rfl ?_|refine L.nil ?_|refine L.skip rfl ?_
  refine W.ite rfl (fun h => ?_) (fun h => ?_)
  · exfalso; have := of_decide_eq_true h; omega
  clear h
  repeat first|refine W.g ?_|refine L.p rfl rfl ?_|refine L.nil ?_|refine L.skip rfl ?_
  refine L.ld (a := ⟨rb, 1, none⟩) (v := .slice none 0 0) (cell_of (o := 1) hr1 rfl (.inl rfl)) rfl rfl rfl ?_
  repeat first|refine W.g ?_|refine L.p rfl rfl ?_|refine L.nil ?_|refine L.skip rfl ?_
  refine L.ld (a := ⟨rb, 1, none⟩) (v := .slice none 0 0) (cell_of (o := 1) hr1 rfl (.inl rfl)) rfl rfl rfl ?_
  repeat first|refine W.g ?_|refine L.p rfl rfl ?_|refine L.nil ?_|refine L.skip rfl ?_
  refine W.ite rfl (fun h => ?_) (fun h => ?_)
  · repeat first|refine W.g ?_|refine L.p rfl rfl ?_|refine L.nil ?_|refine L.skip rfl ?_
    refine L.cl (bgrow_C rb n _ S1 hr1 hn) rfl rfl ?_
    rintro _ S2 hS2
    refine ⟨nofun, ?_⟩
    have hlt2 : rb < (S1 ++ [grownR [] 5 1]).length := by simp; omega
    have hk : Cons S0 S2 := by rw [hS2]; exact (hC1.pushr _).set _ _ hrb
    have hr3 : S2.row? rb = some (bldR (.pointer (some ⟨rb, 0, none⟩)) (.slice (some ⟨S1.length, 0, none⟩) 0 (UNK + 0))) := by
      rw [hS2]
      exact row_set_same (r := bldR (.pointer (some ⟨rb, 0, none⟩)) (.slice none 0 0)) ((Cons.push S1 _).row' hr1) rfl
    have hr4 : S2.row? S1.length = some (grownR [] 5 1) := by
      rw [hS2, row_set_other _ (by omega)]
      exact row_push_new rfl
    have hln := hC1.len
    repeat first|refine W.g ?_|refine L.p rfl rfl ?_|refine L.nil ?_|refine L.skip rfl ?_
    exact ⟨.inl rfl, _, rfl, hk, hrb, _, ⟨some S1.length, 0, UNK + 0⟩, hr3, .inr rfl, HdOk.grown hr4 rfl, (by rintro b ⟨⟩; omega), .inr rfl⟩
  · repeat first|refine W.g ?_|refine L.p rfl rfl ?_|refine L.nil ?_|refine L.skip rfl ?_
    exact ⟨.inl rfl, _, rfl, hC1, hrb, _, ⟨none, 0, 0⟩, hr1, .inr rfl, HdOk.nil _ _, nofun, .inl rfl⟩
theorem writeString_C {S0 : Mem} (rb : Nat) (t l : BL) (S : Mem) (hB : BldT S0 S rb l) (hl : l.length + t.length < 1000000000) :
    C Tryz.prog G Ext 111 [.pointer (some ⟨rb, 0, none⟩), .string (strB t)] S fun w S' => BldT S0 S' rb (l ++ t) := by
  obtain ⟨hC, hrb, u, d, hr, hu, hd, ha, hcap⟩ := hB
  refine C.fn Tryz.func111 rfl (by kernel_rfl) rfl ?_
  repeat first|refine W.g ?_|refine L.p rfl rfl ?_|refine L.nil ?_|refine L.skip rfl ?_
  refine L.cl (copyCheck_C rb u d.v S hr hu) rfl rfl ?_
  rintro _ S1 hS1
  refine ⟨nofun, ?_⟩
  have hr1 : S1.row? rb = some (bldR (.pointer (some ⟨rb, 0, none⟩)) d.v) := by rw [hS1]; exact row_set_same hr rfl
  have hk1 : KeepL [rb] S S1 := by rw [hS1]; exact keepL_set _ _ _
  have hC1 : Cons S0 S1 := hk1.cons0 hC (fun b hb => by simp at hb; omega)
  have hd1 := hd.keep hk1 (fun b e => by simpa using (ha b e).2)
  have hln := hd.len
  rw [bv_len] at hln
  clear hS1 hk1 hr hd
  repeat first|refine W.g ?_|refine L.p rfl rfl ?_|refine L.nil ?_|refine L.skip rfl ?_
  refine L.ld (a := ⟨rb, 1, none⟩) (v := d.v) (cell_of (o := 1) hr1 rfl (.inl rfl)) rfl rfl rfl ?_
  repeat first|refine W.g ?_|refine L.p rfl rfl ?_|refine L.nil ?_|refine L.skip rfl ?_
  rcases Nat.eq_zero_or_pos t.length with h0 | hpos
  · have ht : t = [] := List.length_eq_zero_iff.1 h0
    subst ht
    refine L.eff (v := d.v) (S1 := S1) rfl (aeff_append rfl rfl ?_) ?_
    · show aappend Tryz.prog 43 9 d.v (.string (strB [])) S1 = some (d.v, S1)
      obtain ⟨dx, i, z, hu1, hu2, hi, hdd, hz, hzz1, hzz2, hsz, hby⟩ := appOk_some (show appOk Tryz.prog 43 9 = some (5, 1, 1) by kernel_rfl)
      have hcond : ¬ (z.cells.size ≠ i.size ∨ ¬ z.cells.toList.all scalar = true) := fun h => h.elim (fun h => h hzz1) (fun h => h hzz2)
      have hdv : d.v = .slice (d.a.map fun b => ⟨b, 0, none⟩) d.n d.c := rfl
      have hf := hd1.slv.first (Nat.le_refl d.n)
      rw [hdv] at hf ⊢
      have ht0 : firstOf S1 1 0 (.string (strB [])) = some [] := text_cells []
      rw [hsz] at hcond
      rw [aappend_eq hu1 hu2 hi hdd hz (m := 0) rfl, hsz, ht0, hf]
      simp only [Option.bind_some]
      rw [if_neg hcond]
      rcases hcap with hn | hc
      · obtain ⟨_, ⟨h2, h3, h4⟩ | ⟨b, r, h2, _⟩⟩ := hd1
        · rw [h2, h3, h4]; rfl
        · rw [hn] at h2; cases h2
      · rw [if_pos (by rw [hc, knownCap_unk]; omega)]
        obtain ⟨_, ⟨h2, h3, h4⟩ | ⟨b, r, h2, _⟩⟩ := hd1
        · unfold UNK at hc; omega
        · rw [h2]; rfl
    repeat first|refine W.g ?_|refine L.p rfl rfl ?_|refine L.nil ?_|refine L.skip rfl ?_
    refine L.st (ad := ⟨rb, 1, none⟩) (vs := [d.v]) (write_of (o := 1) hr1 rfl (Nat.le_of_ble_eq_true rfl) rfl) rfl rfl rfl rfl ?_
    rw [show ({ bldR (.pointer (some ⟨rb, 0, none⟩)) d.v with cells := putFrom (bldR (.pointer (some ⟨rb, 0, none⟩)) d.v).cells 1 [d.v] } : Row) = bldR (.pointer (some ⟨rb, 0, none⟩)) d.v from rfl]
    have hk3 := keepL_set S1 rb (bldR (.pointer (some ⟨rb, 0, none⟩)) d.v)
    repeat first|refine W.g ?_|refine L.p rfl rfl ?_|refine L.nil ?_|refine L.skip rfl ?_
    refine L.tlen rfl rfl rfl rfl ?_
    repeat first|refine W.g ?_|refine L.p rfl rfl ?_|refine L.nil ?_|refine L.skip rfl ?_
    refine ⟨.inr rfl, _, rfl, hk3.cons0 hC1 (fun b hb => by simp at hb; omega), hrb, _, d, row_set_same hr1 rfl, .inr rfl, ?_, ha, hcap⟩
    rw [List.append_nil]
    exact hd1.keep hk3 (fun b e => by simpa using (ha b e).2)
  refine L.appT (t := t) (bytes := 1) rfl hd1 rfl rfl (by omega) rfl hpos rfl ?_
  rintro h' S2 u1 u2 uc ⟨b', u3, u5⟩ u4
  have hne : rb ∉ d.a.toList := fun hm => by
    have := ha rb (by simpa using hm); omega
  have hr2 := u4.row hr1 hne
  have hC2 : Cons S0 S2 := u4.cons0 hC1 (fun b hb => (ha b (by simpa using hb)).1)
  have hlt := row_lt hr1
  repeat first|refine W.g ?_|refine L.p rfl rfl ?_|refine L.nil ?_|refine L.skip rfl ?_
  refine L.st (ad := ⟨rb, 1, none⟩) (vs := [h'.v]) (write_of (o := 1) hr2 rfl (Nat.le_of_ble_eq_true rfl) rfl) rfl rfl rfl rfl ?_
  rw [show ({ bldR (.pointer (some ⟨rb, 0, none⟩)) d.v with cells := putFrom (bldR (.pointer (some ⟨rb, 0, none⟩)) d.v).cells 1 [h'.v] } : Row) = bldR (.pointer (some ⟨rb, 0, none⟩)) h'.v from rfl]
  have hk3 := keepL_set S2 rb (bldR (.pointer (some ⟨rb, 0, none⟩)) h'.v)
  repeat first|refine W.g ?_|refine L.p rfl rfl ?_|refine L.nil ?_|refine L.skip rfl ?_
  refine L.tlen rfl rfl rfl rfl ?_
  repeat first|refine W.g ?_|refine L.p rfl rfl ?_|refine L.nil ?_|refine L.skip rfl ?_
  refine ⟨.inr rfl, _, rfl, hk3.cons0 hC2 (fun b hb => by simp at hb; omega), hrb, _, h', row_set_same hr2 rfl, .inr rfl, ?_, fun b hb => ?_, .inr uc⟩
  · have h3 := u1.keep hk3 (fun b hb hm => by
      rw [u3] at hb; cases hb
      simp at hm; omega)
    rw [bv_app]; exact h3
  · rw [u3] at hb; cases hb
    have := hC1.len
    omega
end Go.Proofs.YtbdnkneedengcaaGreatDoor

/- Texts: a list turned round, joined. Conditions: none. -/
set_option linter.unusedSimpArgs false
set_option linter.unusedVariables false
set_option maxRecDepth 100000
set_option maxHeartbeats 4000000
namespace Go.Proofs.YtbdnkneedengcaaGreatDoor
open Go
variable {G : Nat} {Ext : FuncId → List Value → Mem → Outc → Mem → Prop}
def tv (ps : List BL) : List Value := ps.map fun p => .string (strB p)
theorem tv_len (ps : List BL) : (tv ps).length = ps.length := by simp [tv]
theorem tv_get {ps : List BL} {i : Nat} {p : BL} (h : ps[i]? = some p) : (tv ps)[i]? = some (.string (strB p)) := by simp [tv, h]
theorem reverse_C (b n c : Nat) (ps : List BL) (S : Mem) (hr : S.row? b = some (grownR (tv ps) 9 1)) (hn : ps.length = n) (hlt : n < 1000000) :
    C Tryz.prog G Ext 81 [.slice (some ⟨b, 0, none⟩) n c] S fun v S' => Keep b S S' ∧ S'.row? b = some (grownR (tv ps.reverse) 9 1) := by
  refine C.fn Tryz.func81 rfl (by kernel_rfl) rfl ?_
  repeat first|refine W.g ?_|refine L.p rfl rfl ?_|refine L.nil ?_|refine L.skip rfl ?_
  refine W.loop (fun k e T => ∃ (i j : Int) (l : List BL), k = (j - i + 1).toNat ∧ 0 ≤ i ∧ i + j = (n : Int) - 1 ∧ e 0 = .slice (some ⟨b, 0, none⟩) n c ∧ e 2 = .int .i64 i ∧ e 3 = .int .i64 j ∧ -1 ≤ j ∧ j < n ∧ i ≤ n ∧ Keep b S T ∧ T.row? b = some (grownR (tv l) 9 1) ∧ l.length = n ∧ i ≤ j + 2 ∧
      ∀ p : Nat, p < n → l[p]? = if (p : Int) < i ∨ j < p then ps[n - 1 - p]? else ps[p]?) n
    ⟨0, (n : Int) - 1, ps, by omega, by omega, by omega, rfl, rfl, congrArg (Value.int .i64) (wrap64 (by omega) (by omega)), by omega, by omega, by omega, Keep.refl _ _, hr, hn, by omega, fun p hp => by rw [if_neg (by omega)]⟩ ?_
  rintro k e T ⟨i, j, l, rfl, hi, hij, e0, e2, e3, hj1, hj2, hi2, hk, hrT, hll, hij2, hz⟩
  refine W.env3 e0 e2 e3 ?_
  repeat first|refine W.g ?_|refine L.p rfl rfl ?_|refine L.nil ?_|refine L.skip rfl ?_
  refine W.ite rfl (fun h => ?_) (fun h => ?_)
  · have hlt2 : i < j := of_decide_eq_true h
    clear h
    obtain ⟨i, rfl⟩ : ∃ i' : Nat, i = (i' : Int) := ⟨i.toNat, by omega⟩
    obtain ⟨j, rfl⟩ : ∃ j' : Nat, j = (j' : Int) := ⟨j.toNat, by omega⟩
    obtain ⟨x, hx⟩ : ∃ x, l[i]? = some x := ⟨_, List.getElem?_eq_getElem (by omega)⟩
    obtain ⟨y, hy⟩ : ∃ y, l[j]? = some y := ⟨_, List.getElem?_eq_getElem (by omega)⟩
    have hsl : Slv T 1 (.slice (some ⟨b, 0, none⟩) n c) n (tv l) := Slv.all hrT rfl (by rw [tv_len, hll, Nat.mul_one])
    repeat first|refine W.g ?_|refine L.p rfl rfl ?_|refine L.nil ?_|refine L.skip rfl ?_
    refine L.el hsl (k := j) rfl (tv_get hy) rfl rfl rfl rfl (fun _ => rfl) rfl (fun p => ?_)
    repeat first|refine W.g ?_|refine L.p rfl rfl ?_|refine L.nil ?_|refine L.skip rfl ?_
    refine L.el hsl (k := i) rfl (tv_get hx) rfl rfl rfl rfl (fun _ => rfl) rfl (fun p => ?_)
    repeat first|refine W.g ?_|refine L.p rfl rfl ?_|refine L.nil ?_|refine L.skip rfl ?_
    refine L.elst hrT rfl (by show 0 + n ≤ (tv l).length; rw [tv_len, hll]; omega) (k := i) rfl (by omega) rfl rfl rfl rfl (fun _ => rfl) (fun _ => rfl) rfl rfl rfl (fun p => ?_)
    have h1 : Mem.row? (List.set T b { grownR (tv l) 9 1 with cells := (grownR (tv l) 9 1).cells.set (0 + i) (.string (strB y)) }) b = some (grownR (tv (l.set i y)) 9 1) := by
      rw [row_set_same hrT rfl, Nat.zero_add]
      simp [grownR, tv, List.map_set]
    have hk1 := hk.trans (Keep.set b T { grownR (tv l) 9 1 with cells := (grownR (tv l) 9 1).cells.set (0 + i) (.string (strB y)) })
    generalize List.set T b _ = T1 at *
    repeat first|refine W.g ?_|refine L.p rfl rfl ?_|refine L.nil ?_|refine L.skip rfl ?_
    refine L.elst h1 rfl (by show 0 + n ≤ (tv (l.set i y)).length; rw [tv_len, List.length_set, hll]; omega) (k := j) rfl (by omega) rfl rfl rfl rfl (fun _ => rfl) (fun _ => rfl) rfl rfl rfl (fun p => ?_)
    have h2 : Mem.row? (List.set T1 b { grownR (tv (l.set i y)) 9 1 with cells := (grownR (tv (l.set i y)) 9 1).cells.set (0 + j) (.string (strB x)) }) b = some (grownR (tv ((l.set i y).set j x)) 9 1) := by
      rw [row_set_same h1 rfl, Nat.zero_add]
      simp [grownR, tv, List.map_set]
    have hk2 := hk1.trans (Keep.set b T1 { grownR (tv (l.set i y)) 9 1 with cells := (grownR (tv (l.set i y)) 9 1).cells.set (0 + j) (.string (strB x)) })
    generalize List.set T1 b _ = T2 at *
    repeat first|refine W.g ?_|refine L.p rfl rfl ?_|refine L.nil ?_|refine L.skip rfl ?_
    have hxp := hz i (by omega)
    have hyp := hz j (by omega)
    rw [if_neg (by omega), hx] at hxp
    rw [if_neg (by omega), hy] at hyp
    refine ⟨((j : Int) - 1 - ((i : Int) + 1) + 1).toNat, by omega, (i : Int) + 1, (j : Int) - 1, (l.set i y).set j x, rfl, by omega, by omega, rfl, congrArg (Value.int .i64) (wrap64 (by omega) (by omega)), congrArg (Value.int .i64) (wrap64 (by omega) (by omega)), by omega, by omega, by omega, hk2, h2, by simpa using hll, by omega, fun p hp => ?_⟩
    rw [List.getElem?_set, List.getElem?_set]
    by_cases hpj : j = p
    · rw [if_pos hpj, if_pos (by rw [List.length_set]; omega), if_pos (by omega), ← hpj, hxp, show n - 1 - j = i by omega]
    · rw [if_neg hpj]
      by_cases hpi : i = p
      · rw [if_pos hpi, if_pos (by omega), if_pos (by omega), ← hpi, hyp, show n - 1 - i = j by omega]
      · rw [if_neg hpi, hz p hp]
        by_cases hq : (p : Int) < i ∨ (j : Int) < p
        · rw [if_pos hq, if_pos (by omega)]
        · rw [if_neg hq, if_neg (by omega)]
  · have hge : ¬ i < j := of_decide_eq_false h
    clear h
    have hfin : l = ps.reverse := by
      apply List.ext_getElem?
      intro p
      by_cases hp : p < n
      · rw [List.getElem?_reverse (by omega), hn, hz p hp]
        by_cases hq : (p : Int) < i ∨ j < p
        · rw [if_pos hq]
        · rw [if_neg hq]
          congr 1; omega
      · rw [List.getElem?_eq_none (by omega), List.getElem?_eq_none (by simp; omega)]
    rw [hfin] at hrT
    repeat first|refine W.g ?_|refine L.p rfl rfl ?_|refine L.nil ?_|refine L.skip rfl ?_
    exact ⟨.inl rfl, _, rfl, hk, hrT⟩
theorem flat_succ {ps : List BL} {i : Nat} {p : BL} (h : ps[i]? = some p) : (ps.take (i + 1)).flatten = (ps.take i).flatten ++ p := by
  rw [List.take_add_one, h]
  simp
theorem flat_le (ps : List BL) (i : Nat) : (ps.take i).flatten.length ≤ ps.flatten.length := by
  conv => rhs; rw [← List.take_append_drop i ps, List.flatten_append, List.length_append]
  omega
theorem join_C (a : Option Addr) (c n : Nat) (ps : List BL) (S : Mem) (hs : Slv S 1 (.slice a n c) n (tv ps)) (hn : ps.length = n) (hc : Cut n c) (hlt : n < 1000000) (htot : ps.flatten.length < 100000000) (hne : ∀ p ∈ ps, p ≠ []) :
    C Tryz.prog G Ext 82 [.slice a n c, .string (strB [])] S fun v S' => v = .string (strB ps.flatten) ∧ Cons S S' := by
  refine C.fn Tryz.func82 rfl (by kernel_rfl) rfl ?_
  repeat first|refine W.g ?_|refine L.p rfl rfl ?_|refine L.nil ?_|refine L.skip rfl ?_
  refine W.ite rfl (fun h => ?_) (fun h => ?_)
  · have h0 : ps = [] := List.length_eq_zero_iff.1 (by have := eq_of_beq h; omega)
    subst h0
    repeat first|refine W.g ?_|refine L.p rfl rfl ?_|refine L.nil ?_|refine L.skip rfl ?_
    exact ⟨.inr rfl, _, rfl, rfl, Cons.refl _⟩
  have hn0 : n ≠ 0 := fun e => by rw [e] at h; cases h
  clear h
  obtain ⟨p0, hp0⟩ : ∃ p, ps[0]? = some p := ⟨_, List.getElem?_eq_getElem (by omega)⟩
  repeat first|refine W.g ?_|refine L.p rfl rfl ?_|refine L.nil ?_|refine L.skip rfl ?_
  refine W.ite rfl (fun h => ?_) (fun h => ?_)
  · have h1 : ps.length = 1 := by have := eq_of_beq h; omega
    clear h
    have hps : ps = [p0] := by
      match ps, h1, hp0 with
      | [q], _, hp0 => simp at hp0; rw [hp0]
    subst hps
    repeat first|refine W.g ?_|refine L.p rfl rfl ?_|refine L.nil ?_|refine L.skip rfl ?_
    refine L.el hs (k := 0) rfl (tv_get hp0) rfl rfl rfl rfl (fun _ => rfl) rfl (fun p => ?_)
    repeat first|refine W.g ?_|refine L.p rfl rfl ?_|refine L.nil ?_|refine L.skip rfl ?_
    exact ⟨.inr rfl, _, rfl, by simp; rfl, Cons.refl _⟩
  have hn1 : n ≠ 1 := fun e => by rw [e] at h; cases h
  clear h
  repeat first|refine W.g ?_|refine L.p rfl rfl ?_|refine L.nil ?_|refine L.skip rfl ?_
  refine L.tlen (a := []) rfl rfl rfl rfl ?_
  repeat first|refine W.g ?_|refine L.p rfl rfl ?_|refine L.nil ?_|refine L.skip rfl ?_
  refine W.ite rfl (fun h => ?_) (fun h => ?_)
  · cases h
  clear h
  repeat first|refine W.g ?_|refine L.p rfl rfl ?_|refine L.nil ?_|refine L.skip rfl ?_
  refine W.mono (R := fun x e' T => x = .exit 1 ∧ T = S ∧ e' 0 = .slice a n c ∧ e' 1 = .string (strB []) ∧ e' 5 = vi ps.flatten.length) ?_ ?_
  · refine W.loop (fun j e T => T = S ∧ ∃ i : Nat, j = n - i ∧ i ≤ n ∧ e 0 = .slice a n c ∧ e 1 = .string (strB []) ∧ e 5 = vi (ps.take i).flatten.length ∧ e 39 = .slice a n c ∧ e 40 = vi n ∧ e 41 = vi i) n
      ⟨rfl, 0, by omega, by omega, rfl, rfl, rfl, rfl, rfl, rfl⟩ ?_
    rintro j e T ⟨rfl, i, rfl, hi, e0, e1, e5, e39, e40, e41⟩
    refine W.env6 e0 e1 e5 e39 e40 e41 ?_
    repeat first|refine W.g ?_|refine L.p rfl rfl ?_|refine L.nil ?_|refine L.skip rfl ?_
    refine W.ite rfl (fun h => ?_) (fun h => ?_)
    · have hin : i < n := by have := of_decide_eq_true h; omega
      clear h
      obtain ⟨p, hp⟩ : ∃ p, ps[i]? = some p := ⟨_, List.getElem?_eq_getElem (by omega)⟩
      have h1 := flat_succ hp
      have h2 := flat_le ps (i + 1)
      have h3 := flat_le ps i
      rw [h1, List.length_append] at h2
      repeat first|refine W.g ?_|refine L.p rfl rfl ?_|refine L.nil ?_|refine L.skip rfl ?_
      refine L.el hs (k := i) rfl (tv_get hp) rfl rfl rfl rfl (fun _ => rfl) rfl (fun p => ?_)
      repeat first|refine W.g ?_|refine L.p rfl rfl ?_|refine L.nil ?_|refine L.skip rfl ?_
      refine L.tlen rfl rfl rfl rfl ?_
      repeat first|refine W.g ?_|refine L.p rfl rfl ?_|refine L.nil ?_|refine L.skip rfl ?_
      refine W.ite rfl (fun h => ?_) (fun h => ?_)
      · exfalso
        have h4 := of_decide_eq_true h
        rw [wrap64 (by omega) (by omega)] at h4
        omega
      clear h
      repeat first|refine W.g ?_|refine L.p rfl rfl ?_|refine L.nil ?_|refine L.skip rfl ?_
      refine L.tlen rfl rfl rfl rfl ?_
      repeat first|refine W.g ?_|refine L.p rfl rfl ?_|refine L.nil ?_|refine L.skip rfl ?_
      refine ⟨n - (i + 1), by omega, rfl, i + 1, rfl, by omega, rfl, rfl, ?_, rfl, rfl, congrArg (Value.int .i64) (wrap64 (by omega) (by omega))⟩
      rw [h1, List.length_append]
      exact (force_eq rfl).trans (congrArg (Value.int .i64) (wrap64 (by omega) (by omega)))
    · have hin : i = n := by have := of_decide_eq_false h; omega
      clear h
      rw [List.take_of_length_le (by omega)]
      repeat first|refine W.g ?_|refine L.p rfl rfl ?_|refine L.nil ?_|refine L.skip rfl ?_
      exact ⟨rfl, rfl, rfl, rfl, rfl⟩
  rintro _ e T ⟨rfl, hT, e0, e1, e5⟩
  subst hT
  rename Mem => S
  refine W.env3 e0 e1 e5 ?_
  repeat first|refine W.g ?_|refine L.p rfl rfl ?_|refine L.nil ?_|refine L.skip rfl ?_
  refine L.eff (v := .pointer (some ⟨S.length, 0, none⟩)) (S1 := S ++ [bldR (.pointer none) (.slice none 0 0)]) rfl rfl ?_
  have hB := BldT.new S
  have hrb0 : Mem.row? (S ++ [bldR (.pointer none) (.slice none 0 0)]) S.length = some (bldR (.pointer none) (.slice none 0 0)) := row_push_new rfl
  generalize S ++ [bldR (.pointer none) (.slice none 0 0)] = T at *
  obtain ⟨rb, hrb⟩ : ∃ r, r = S.length := ⟨_, rfl⟩
  rw [← hrb] at hB hrb0 ⊢
  repeat first|refine W.g ?_|refine L.p rfl rfl ?_|refine L.nil ?_|refine L.skip rfl ?_
  refine L.cl (growB_C rb ps.flatten.length T hB ⟨_, hrb0⟩ (by omega)) rfl rfl ?_
  rintro _ T1 hB1
  refine ⟨nofun, ?_⟩
  clear hB hrb0
  repeat first|refine W.g ?_|refine L.p rfl rfl ?_|refine L.nil ?_|refine L.skip rfl ?_
  refine L.el (hs.cons hB1.1) (k := 0) rfl (tv_get hp0) rfl rfl rfl rfl (fun _ => rfl) rfl (fun p => ?_)
  have h1 := flat_succ hp0
  have h3 := flat_le ps 1
  rw [h1, List.take_zero, List.flatten_nil, List.nil_append] at h3
  refine L.cl (writeString_C rb p0 [] T1 hB1 (by simp; omega)) rfl rfl ?_
  rintro _ T2 hB2
  refine ⟨nofun, ?_⟩
  rw [← List.flatten_nil, ← List.take_zero (l := ps), ← h1] at hB2
  clear hB1
  repeat first|refine W.g ?_|refine L.p rfl rfl ?_|refine L.nil ?_|refine L.skip rfl ?_
  obtain ⟨a', c', q1, q2, q3, _⟩ := slv_part (lo := some (.int .i64 ((1 : Nat) : Int))) (hi := none) (k := 1) (h := n) (hs.cons hB2.1) (.inr ⟨.i64, rfl⟩) (.inl ⟨rfl, rfl⟩) (by omega) (Nat.le_refl _) hc
  refine L.is (.slice a' (n - 1) c') ((slice_at0 rfl rfl rfl).trans q1) rfl ?_
  repeat first|refine W.g ?_|refine L.p rfl rfl ?_|refine L.nil ?_|refine L.skip rfl ?_
  have hpart : ∀ T, Cons S T → Slv T 1 (.slice a' (n - 1) c') (n - 1) (((tv ps).drop 1).take (n - 1)) := fun T hT => by
    obtain ⟨a2, c2, r1, r2, _⟩ := slv_part (lo := some (.int .i64 ((1 : Nat) : Int))) (hi := none) (k := 1) (h := n) (hs.cons hT) (.inr ⟨.i64, rfl⟩) (.inl ⟨rfl, rfl⟩) (by omega) (Nat.le_refl _) hc
    rw [q1] at r1
    have := Option.some.inj r1
    rw [← this] at r2
    exact r2
  clear q2 q3
  refine W.loop (fun j e T => ∃ i : Nat, j = n - 1 - i ∧ i ≤ n - 1 ∧ e 1 = .string (strB []) ∧ e 8 = .pointer (some ⟨rb, 0, none⟩) ∧ e 63 = .slice a' (n - 1) c' ∧ e 64 = vi (n - 1) ∧ e 65 = vi i ∧ BldT S T rb (ps.take (i + 1)).flatten) (n - 1)
    ⟨0, by omega, by omega, rfl, rfl, rfl, rfl, rfl, hB2⟩ ?_
  clear hB2
  rintro j e T ⟨i, rfl, hi, e1, e8, e63, e64, e65, hB⟩
  refine W.env5 e1 e8 e63 e64 e65 ?_
  repeat first|refine W.g ?_|refine L.p rfl rfl ?_|refine L.nil ?_|refine L.skip rfl ?_
  refine W.ite rfl (fun h => ?_) (fun h => ?_)
  · have hin : i < n - 1 := by have := of_decide_eq_true h; omega
    clear h
    obtain ⟨p, hp⟩ : ∃ p, ps[i + 1]? = some p := ⟨_, List.getElem?_eq_getElem (by omega)⟩
    have hget : (((tv ps).drop 1).take (n - 1))[i]? = some (.string (strB p)) := by
      rw [List.getElem?_take, if_pos hin, List.getElem?_drop, Nat.add_comm 1]
      exact tv_get hp
    have h4 := flat_succ hp
    have h5 := flat_le ps (i + 1)
    have h6 := flat_le ps (i + 1 + 1)
    rw [h4, List.length_append] at h6
    repeat first|refine W.g ?_|refine L.p rfl rfl ?_|refine L.nil ?_|refine L.skip rfl ?_
    refine L.el (hpart T hB.1) (k := i) rfl hget rfl rfl rfl rfl (fun _ => rfl) rfl (fun _ => ?_)
    repeat first|refine W.g ?_|refine L.p rfl rfl ?_|refine L.nil ?_|refine L.skip rfl ?_
    refine L.cl (writeString_C rb [] _ T hB (by rw [List.length_nil]; omega)) rfl rfl ?_
    rintro _ T2 hB2
    refine ⟨nofun, ?_⟩
    rw [List.append_nil] at hB2
    repeat first|refine W.g ?_|refine L.p rfl rfl ?_|refine L.nil ?_|refine L.skip rfl ?_
    refine L.cl (writeString_C rb p _ T2 hB2 (by omega)) rfl rfl ?_
    rintro _ T3 hB3
    refine ⟨nofun, ?_⟩
    rw [← h4] at hB3
    repeat first|refine W.g ?_|refine L.p rfl rfl ?_|refine L.nil ?_|refine L.skip rfl ?_
    exact ⟨n - 1 - (i + 1), by omega, i + 1, rfl, by omega, rfl, rfl, rfl, rfl, congrArg (Value.int .i64) (wrap64 (by omega) (by omega)), hB3⟩
  · have hin : i = n - 1 := by have := of_decide_eq_false h; omega
    clear h
    rw [List.take_of_length_le (by omega)] at hB
    have hpos : 0 < ps.flatten.length := by
      have h7 := hne p0 (List.mem_of_getElem? hp0)
      have h8 : 0 < p0.length := List.length_pos_iff.2 h7
      omega
    repeat first|refine W.g ?_|refine L.p rfl rfl ?_|refine L.nil ?_|refine L.skip rfl ?_
    refine L.cl (string_C rb ps.flatten T (hB.full hpos) (by omega)) rfl rfl ?_
    rintro _ T2 ⟨rfl, hk⟩
    refine ⟨nofun, ?_⟩
    repeat first|refine W.g ?_|refine L.p rfl rfl ?_|refine L.nil ?_|refine L.skip rfl ?_
    exact ⟨.inr rfl, _, rfl, rfl, hk⟩
end Go.Proofs.YtbdnkneedengcaaGreatDoor

/- Numbers in decimal digits. Conditions: none. -/
set_option linter.unusedSimpArgs false
set_option linter.unusedVariables false
set_option maxRecDepth 100000
namespace Go.Proofs.YtbdnkneedengcaaGreatDoor
open Go
/-- a number's last digit -/
def digB (n : Nat) : BitVec 8 := BitVec.ofNat 8 (48 + n % 10)
/-- its last digits -/
def pad : Nat → Nat → BL
  | 0, _ => []
  | k + 1, n => pad k (n / 10) ++ [digB n]
/-- all of them -/
def dec (n : Nat) : BL := if n < 10 then [digB n] else dec (n / 10) ++ [digB n]
termination_by n
decreasing_by omega
theorem digB_val (n : Nat) : (digB n).toNat = 48 + n % 10 := by
  unfold digB; rw [BitVec.toNat_ofNat]; omega
theorem pad_len (k n : Nat) : (pad k n).length = k := by
  induction k generalizing n with
  | zero => rfl
  | succ k ih => rw [pad, List.length_append, ih]; rfl
theorem dec_small {n : Nat} (h : n < 10) : dec n = [digB n] := by rw [dec, if_pos h]
theorem dec_big {n : Nat} (h : 10 ≤ n) : dec n = dec (n / 10) ++ [digB n] := by rw [dec, if_neg (by omega)]
theorem dec_pad {k n : Nat} (h1 : n < 10 ^ (k + 1)) (h2 : k = 0 ∨ 10 ^ k ≤ n) : dec n = pad (k + 1) n := by
  induction k generalizing n with
  | zero => rw [dec_small (by simpa using h1)]; rfl
  | succ k ih =>
    have hk : 10 ^ (k + 1) ≤ n := by
      rcases h2 with h2 | h2
      · omega
      · exact h2
    have hp := Nat.pow_pos (n := k) (show 0 < 10 by decide)
    rw [Nat.pow_succ] at hk
    rw [Nat.pow_succ] at h1
    rw [dec_big (by omega), ih (by omega) (by omega)]; rfl
theorem pad_add (j k n : Nat) : pad (j + k) n = pad j (n / 10 ^ k) ++ pad k n := by
  induction k generalizing n with
  | zero => simp [pad]
  | succ k ih =>
    show pad (j + k) (n / 10) ++ [digB n] = _
    rw [ih, pad, List.append_assoc, Nat.div_div_eq_div_mul, Nat.pow_succ, Nat.mul_comm 10]
theorem pad_mod (k n : Nat) : pad k (n % 10 ^ k) = pad k n := by
  induction k generalizing n with
  | zero => rfl
  | succ k ih =>
    have h1 : n % 10 ^ (k + 1) / 10 = n / 10 % 10 ^ k := by
      rw [Nat.pow_succ, Nat.mul_comm, Nat.mod_mul_right_div_self]
    have h2 : digB (n % 10 ^ (k + 1)) = digB n := by
      unfold digB
      rw [Nat.mod_mod_of_dvd _ ⟨10 ^ k, by rw [Nat.pow_succ, Nat.mul_comm]⟩]
    rw [pad, pad, h1, h2, ih]
theorem dec_len_pos (n : Nat) : 0 < (dec n).length := by
  by_cases h : n < 10
  · rw [dec_small h]; exact Nat.one_pos
  · rw [dec_big (by omega)]; simp
theorem dec_split {k n : Nat} (h : 10 ^ k ≤ n) : dec n = dec (n / 10 ^ k) ++ pad k n := by
  induction k generalizing n with
  | zero => simp [pad]
  | succ k ih =>
    have hp := Nat.pow_pos (n := k) (show 0 < 10 by decide)
    rw [Nat.pow_succ] at h
    rw [dec_big (by omega), ih (by omega), pad, List.append_assoc, Nat.div_div_eq_div_mul, Nat.pow_succ, Nat.mul_comm 10]
theorem pad_zero (k : Nat) : pad k 0 = List.replicate k 48#8 := by
  induction k with
  | zero => rfl
  | succ k ih => rw [pad, Nat.zero_div, ih, List.replicate_succ']; rfl
theorem pad_zeros {j k n : Nat} (h : n < 10 ^ j) : pad (k + j) n = List.replicate k 48#8 ++ pad j n := by
  rw [pad_add, Nat.div_eq_of_lt h, pad_zero]
/-- how many digits -/
theorem dec_of_len {n : Nat} : ∃ k, (dec n).length = k + 1 ∧ n < 10 ^ (k + 1) ∧ (k = 0 ∨ 10 ^ k ≤ n) ∧ dec n = pad (k + 1) n := by
  have key : ∃ k, n < 10 ^ (k + 1) ∧ (k = 0 ∨ 10 ^ k ≤ n) := by
    induction n using Nat.strongRecOn with
    | _ n ih =>
      by_cases h : n < 10
      · exact ⟨0, by simpa using h, .inl rfl⟩
      · obtain ⟨k, h1, h2⟩ := ih (n / 10) (by omega)
        refine ⟨k + 1, by rw [Nat.pow_succ]; omega, .inr ?_⟩
        rcases h2 with rfl | h2
        · simp; omega
        · rw [Nat.pow_succ]; omega
  obtain ⟨k, h1, h2⟩ := key
  exact ⟨k, by rw [dec_pad h1 h2, pad_len], h1, h2, dec_pad h1 h2⟩
/-- digits filled up with noughts -/
theorem dec_fill {k n : Nat} (h : n < 10 ^ k) (hk : 0 < k) : (dec n).length ≤ k ∧ List.replicate (k - (dec n).length) 48#8 ++ dec n = pad k n := by
  obtain ⟨m, h1, h2, h3, h4⟩ := dec_of_len (n := n)
  have hm : m + 1 ≤ k := by
    rcases h3 with rfl | h3
    · omega
    · refine Classical.byContradiction fun hc => ?_
      have := Nat.pow_le_pow_right (n := 10) (by decide) (show k ≤ m by omega)
      omega
  refine ⟨by omega, ?_⟩
  rw [h4, pad_len, ← pad_zeros h2]
  congr 1; omega
end Go.Proofs.YtbdnkneedengcaaGreatDoor

/- Texts: a word in decimal. Conditions: none. -/
set_option linter.unusedSimpArgs false
set_option linter.unusedVariables false
set_option maxRecDepth 100000
set_option maxHeartbeats 4000000
namespace Go.Proofs.YtbdnkneedengcaaGreatDoor
open Go
variable {G : Nat} {Ext : FuncId → List Value → Mem → Outc → Mem → Prop}
def SM : ByteArray := ⟨(([48, 48, 48, 49, 48, 50, 48, 51, 48, 52, 48, 53, 48, 54, 48, 55, 48, 56, 48, 57, 49, 48, 49, 49, 49, 50, 49, 51, 49, 52, 49, 53, 49, 54, 49, 55, 49, 56, 49, 57, 50, 48, 50, 49, 50, 50, 50, 51, 50, 52] : List UInt8) ++ [50, 53, 50, 54, 50, 55, 50, 56, 50, 57, 51, 48, 51, 49, 51, 50, 51, 51, 51, 52, 51, 53, 51, 54, 51, 55, 51, 56, 51, 57, 52, 48, 52, 49, 52, 50, 52, 51, 52, 52, 52, 53, 52, 54, 52, 55, 52, 56, 52, 57] ++ ([53, 48, 53, 49, 53, 50, 53, 51, 53, 52, 53, 53, 53, 54, 53, 55, 53, 56, 53, 57, 54, 48, 54, 49, 54, 50, 54, 51, 54, 52, 54, 53, 54, 54, 54, 55, 54, 56, 54, 57, 55, 48, 55, 49, 55, 50, 55, 51, 55, 52] ++ [55, 53, 55, 54, 55, 55, 55, 56, 55, 57, 56, 48, 56, 49, 56, 50, 56, 51, 56, 52, 56, 53, 56, 54, 56, 55, 56, 56, 56, 57, 57, 48, 57, 49, 57, 50, 57, 51, 57, 52, 57, 53, 57, 54, 57, 55, 57, 56, 57, 57])).toArray⟩
theorem sm_tab {k : Nat} (h : k < 100) : SM[2 * k]? = some (UInt8.ofNat (48 + k / 10)) ∧ SM[2 * k + 1]? = some (UInt8.ofNat (48 + k % 10)) := by
  have : ∀ i : Fin 100, SM[2 * i.val]? = some (UInt8.ofNat (48 + i.val / 10)) ∧ SM[2 * i.val + 1]? = some (UInt8.ofNat (48 + i.val % 10)) := by decide +kernel
  exact this ⟨k, h⟩
theorem pad_get {k p n : Nat} (h : p < k) : (pad k n)[p]? = some (digB (n / 10 ^ (k - 1 - p))) := by
  induction k generalizing n with
  | zero => omega
  | succ k ih =>
    rw [pad]
    by_cases hp : p < k
    · rw [List.getElem?_append_left (by rw [pad_len]; exact hp), ih hp, Nat.div_div_eq_div_mul, show k + 1 - 1 - p = k - 1 - p + 1 by omega, Nat.pow_succ, Nat.mul_comm 10]
    · have : p = k := by omega
      subst this
      rw [List.getElem?_append_right (by rw [pad_len]; exact Nat.le_refl _), pad_len, Nat.sub_self, Nat.add_sub_cancel, Nat.sub_self, Nat.pow_zero, Nat.div_one]; rfl
structure FbS (b nd u : Nat) (r : Row) (S T : Mem) (q : Nat) (cs : List Value) : Prop where
  keep : Keep b S T
  row : T.row? b = some { r with cells := cs }
  len : cs.length = r.cells.length
  dig : ∀ p, q ≤ p → p < nd → cs[p]? = (bv (pad nd u))[p]?
theorem dval (d : Nat) (h : d < 10) : Value.int .u8 ((UInt8.ofNat (48 + d)).toNat : Int) = v8 (BitVec.ofNat 8 (48 + d)) := by
  have h1 : (UInt8.ofNat (48 + d)).toNat = 48 + d := by rw [UInt8.toNat_ofNat']; omega
  have h2 : (BitVec.ofNat 8 (48 + d)).toNat = 48 + d := by rw [BitVec.toNat_ofNat]; omega
  show _ = Value.int .u8 ((BitVec.ofNat 8 (48 + d)).toNat : Int)
  rw [h1, h2]
theorem FbS.put {b nd u : Nat} {r : Row} {S T : Mem} {q q' x : Nat} {cs : List Value} (h : FbS b nd u r S T q' cs) (hq : q' = q + 1) (hn : q < nd) (hlen : nd ≤ r.cells.length) (hst : r.st = .live) (hx : x < 10) (hd : u / 10 ^ (nd - 1 - q) % 10 = x) :
    FbS b nd u r S (List.set T b { ({ r with cells := cs } : Row) with cells := ({ r with cells := cs } : Row).cells.set (0 + q) (v8 (BitVec.ofNat 8 (48 + x))) }) q (cs.set q (v8 (BitVec.ofNat 8 (48 + x)))) := by
  obtain ⟨h1, h2, h3, h4⟩ := h
  refine ⟨h1.trans (Keep.set b T _), ?_, by rw [List.length_set]; exact h3, fun p p1 p2 => ?_⟩
  · have h5 := row_set_same (x := { r with cells := cs.set (0 + q) (v8 (BitVec.ofNat 8 (48 + x))) }) h2 hst
    rw [show cs.set q (v8 (BitVec.ofNat 8 (48 + x))) = cs.set (0 + q) (v8 (BitVec.ofNat 8 (48 + x))) by rw [Nat.zero_add]]
    exact h5
  · rw [List.getElem?_set]
    by_cases hp : q = p
    · subst hp
      rw [if_pos rfl, if_pos (by omega)]
      unfold bv
      rw [List.getElem?_map, pad_get hn]
      unfold digB
      rw [hd]; rfl
    · rw [if_neg hp]; exact h4 p (by omega) p2
theorem wone {n : Nat} (h : n < 4294967295) : IntKind.u32.wrap ((n : Int) + 1) = ((n + 1 : Nat) : Int) := by
  rw [wrap_u .u32 rfl, BitVec.toNat_ofInt]
  show ((((n : Int) + 1) % ((2 ^ 32 : Nat) : Int)).toNat : Int) = _
  have e : ((2 ^ 32 : Nat) : Int) = 4294967296 := by decide
  rw [e]; omega
theorem w32 {n : Nat} (h : n < 4294967296) : IntKind.u32.wrap (n : Int) = (n : Int) := by
  rw [wrap_u .u32 rfl, BitVec.toNat_ofInt]
  show (((n : Int) % ((2 ^ 32 : Nat) : Int)).toNat : Int) = _
  have e : ((2 ^ 32 : Nat) : Int) = 4294967296 := by decide
  rw [e]; omega
theorem tdn (a b : Nat) : Int.tdiv (a : Int) (b : Int) = ((a / b : Nat) : Int) := (Int.ofNat_tdiv a b).symm
theorem tmn (a b : Nat) : Int.tmod (a : Int) (b : Int) = ((a % b : Nat) : Int) := (Int.ofNat_tmod a b).symm
theorem dig_at {u nd m j : Nat} (hm : m ≤ nd) (hj : 1 ≤ j) (hjm : j ≤ m) : u / 10 ^ (nd - 1 - (m - j)) = u / 10 ^ (nd - m) / 10 ^ (j - 1) := by
  rw [Nat.div_div_eq_div_mul, ← Nat.pow_add]; congr 2; omega
theorem fb10_C (b nd c u : Nat) (r : Row) (S : Mem) (hr : S.row? b = some r) (hro : r.ro = none) (hlen : nd ≤ r.cells.length) (hnd : nd ≤ 20) (hu : u < 18446744073709551616) (hu2 : u < 10 ^ nd) :
    C Tryz.prog G Ext 129 [.slice (some ⟨b, 0, none⟩) nd c, .int .u64 (u : Int)] S fun v T => Keep b S T ∧ ∃ cs, T.row? b = some { r with cells := cs } ∧ cs.length = r.cells.length ∧ cs.take nd = bv (pad nd u) := by
  have hst : r.st = .live := (Mem.row?_some hr).2
  refine C.fn Tryz.func129 rfl (by kernel_rfl) rfl ?_
  repeat first|refine W.g ?_|refine L.p rfl rfl ?_|refine L.nil ?_|refine L.skip rfl ?_
  refine W.mono (R := fun x e T => x = .exit 0 ∧ ∃ (m w : Nat) (cs : List Value), m < 8 ∧ m ≤ nd ∧ w = u / 10 ^ (nd - m) ∧ e 0 = .slice (some ⟨b, 0, none⟩) nd c ∧ e 1 = .int .u64 (w : Int) ∧ e 4 = vi m ∧ FbS b nd u r S T m cs) ?_ ?_
  · refine W.loop (fun k e T => ∃ (m w : Nat) (cs : List Value), k = m ∧ m ≤ nd ∧ w = u / 10 ^ (nd - m) ∧ e 0 = .slice (some ⟨b, 0, none⟩) nd c ∧ e 1 = .int .u64 (w : Int) ∧ e 4 = vi m ∧ FbS b nd u r S T m cs) nd
      ⟨nd, u, r.cells, rfl, Nat.le_refl _, by rw [Nat.sub_self, Nat.pow_zero, Nat.div_one], rfl, rfl, rfl, Keep.refl _ _, hr, rfl, fun p h1 h2 => by omega⟩ ?_
    rintro m e T ⟨_, w, cs, rfl, hm, hw, e0, e1, e4, hF⟩
    refine W.env3 e0 e1 e4 ?_
    repeat first|refine W.g ?_|refine L.p rfl rfl ?_|refine L.nil ?_|refine L.skip rfl ?_
    refine W.ite rfl (fun h => ?_) (fun h => ?_)
    · have hm8 : 8 ≤ m := by have := of_decide_eq_true h; omega
      clear h
      have hwl : w < 18446744073709551616 := by rw [hw]; exact Nat.lt_of_le_of_lt (Nat.div_le_self _ _) hu
      obtain ⟨x, hx⟩ : ∃ x, x = w % 100000000 := ⟨_, rfl⟩
      obtain ⟨lo, hlo⟩ : ∃ lo, lo = x % 10000 := ⟨_, rfl⟩
      obtain ⟨hi, hhi⟩ : ∃ hi, hi = x / 10000 := ⟨_, rfl⟩
      obtain ⟨k0, hk0⟩ : ∃ k, k = lo % 100 := ⟨_, rfl⟩
      obtain ⟨k1, hk1⟩ : ∃ k, k = lo / 100 := ⟨_, rfl⟩
      obtain ⟨k2, hk2⟩ : ∃ k, k = hi % 100 := ⟨_, rfl⟩
      obtain ⟨k3, hk3⟩ : ∃ k, k = hi / 100 := ⟨_, rfl⟩
      have w1 : IntKind.u32.wrap (Int.tmod (w : Int) 100000000) = (x : Int) := by rw [show Int.tmod (w : Int) 100000000 = ((w % 100000000 : Nat) : Int) from tmn w 100000000, ← hx, w32 (by omega)]
      have w2 : IntKind.u64.wrap (Int.tdiv (w : Int) 100000000) = ((w / 100000000 : Nat) : Int) := by
        rw [show Int.tdiv (w : Int) 100000000 = ((w / 100000000 : Nat) : Int) from tdn w 100000000, wrapU64 (by omega) (by omega)]
      have w3 : IntKind.u32.wrap (Int.tdiv (x : Int) 10000) = (hi : Int) := by rw [show Int.tdiv (x : Int) 10000 = ((x / 10000 : Nat) : Int) from tdn x 10000, ← hhi, w32 (by omega)]
      have w4 : Int.tmod (x : Int) 10000 = (lo : Int) := by rw [show Int.tmod (x : Int) 10000 = ((x % 10000 : Nat) : Int) from tmn x 10000, ← hlo]
      have w5 : IntKind.u32.wrap (IntKind.u32.wrap (Int.tdiv (lo : Int) 100) * 2) = ((2 * k1 : Nat) : Int) := by
        rw [show Int.tdiv (lo : Int) 100 = ((lo / 100 : Nat) : Int) from tdn lo 100, ← hk1, w32 (by omega), show ((k1 : Int) * 2) = ((2 * k1 : Nat) : Int) by omega, w32 (by omega)]
      have w6 : IntKind.u32.wrap (Int.tmod (lo : Int) 100 * 2) = ((2 * k0 : Nat) : Int) := by
        rw [show Int.tmod (lo : Int) 100 = ((lo % 100 : Nat) : Int) from tmn lo 100, ← hk0, show ((k0 : Int) * 2) = ((2 * k0 : Nat) : Int) by omega, w32 (by omega)]
      have w7 : IntKind.u32.wrap (IntKind.u32.wrap (Int.tdiv (hi : Int) 100) * 2) = ((2 * k3 : Nat) : Int) := by
        rw [show Int.tdiv (hi : Int) 100 = ((hi / 100 : Nat) : Int) from tdn hi 100, ← hk3, w32 (by omega), show ((k3 : Int) * 2) = ((2 * k3 : Nat) : Int) by omega, w32 (by omega)]
      have w8 : IntKind.u32.wrap (Int.tmod (hi : Int) 100 * 2) = ((2 * k2 : Nat) : Int) := by
        rw [show Int.tmod (hi : Int) 100 = ((hi % 100 : Nat) : Int) from tmn hi 100, ← hk2, show ((k2 : Int) * 2) = ((2 * k2 : Nat) : Int) by omega, w32 (by omega)]
      have g1 : u / 10 ^ (nd - 1 - (m - 1)) % 10 = k0 % 10 := by rw [dig_at hm (by omega) (by omega), ← hw]; show w / 1 % 10 = _; omega
      have g2 : u / 10 ^ (nd - 1 - (m - 2)) % 10 = k0 / 10 := by rw [dig_at hm (by omega) (by omega), ← hw]; show w / 10 % 10 = _; omega
      have g3 : u / 10 ^ (nd - 1 - (m - 3)) % 10 = k1 % 10 := by rw [dig_at hm (by omega) (by omega), ← hw]; show w / 100 % 10 = _; omega
      have g4 : u / 10 ^ (nd - 1 - (m - 4)) % 10 = k1 / 10 := by rw [dig_at hm (by omega) (by omega), ← hw]; show w / 1000 % 10 = _; omega
      have g5 : u / 10 ^ (nd - 1 - (m - 5)) % 10 = k2 % 10 := by rw [dig_at hm (by omega) (by omega), ← hw]; show w / 10000 % 10 = _; omega
      have g6 : u / 10 ^ (nd - 1 - (m - 6)) % 10 = k2 / 10 := by rw [dig_at hm (by omega) (by omega), ← hw]; show w / 100000 % 10 = _; omega
      have g7 : u / 10 ^ (nd - 1 - (m - 7)) % 10 = k3 % 10 := by rw [dig_at hm (by omega) (by omega), ← hw]; show w / 1000000 % 10 = _; omega
      have g8 : u / 10 ^ (nd - 1 - (m - 8)) % 10 = k3 / 10 := by rw [dig_at hm (by omega) (by omega), ← hw]; show w / 10000000 % 10 = _; omega
      have b0 : k0 < 100 := by omega
      have b1 : k1 < 100 := by omega
      have b2 : k2 < 100 := by omega
      have b3 : k3 < 100 := by omega
      have hw2 : w / 100000000 = u / 10 ^ (nd - (m - 8)) := by rw [hw, Nat.div_div_eq_div_mul, show 100000000 = 10 ^ 8 by decide, ← Nat.pow_add]; congr 2; omega
      clear hk0 hk1 hk2 hk3 hlo hhi hx
      repeat first|refine W.g ?_|refine L.p rfl rfl ?_|refine L.nil ?_|refine L.skip rfl ?_
      rw [w1, w2, w3, w4, w5, w6, w7, w8]
      refine L.sx (s := SM) (i := 2 * k0 + 1) rfl ((force_eq rfl).trans (congrArg (Value.int .u32) (wone (by omega)))) (sm_tab (k := k0) (by omega)).2 rfl rfl ?_
      rw [dval (k0 % 10) (by omega)]
      repeat first|refine W.g ?_|refine L.p rfl rfl ?_|refine L.nil ?_|refine L.skip rfl ?_
      refine L.sx (s := SM) (i := 2 * k0) rfl rfl (sm_tab (k := k0) (by omega)).1 rfl rfl ?_
      rw [dval (k0 / 10) (by omega)]
      repeat first|refine W.g ?_|refine L.p rfl rfl ?_|refine L.nil ?_|refine L.skip rfl ?_
      refine L.elst hF.row hro (by show 0 + nd ≤ cs.length; have := hF.len; omega) (k := m - 1) (by rw [wrap64 (by omega) (by omega)]; omega) (by omega) rfl rfl rfl rfl (fun _ => rfl) (fun _ => rfl) rfl rfl rfl (fun _ => ?_)
      replace hF := hF.put (q := m - 1) (x := k0 % 10) (by omega) (by omega) hlen hst (by omega) (by rw [g1])
      generalize List.set T b _ = T1 at *
      generalize cs.set (m - 1) _ = cs1 at *
      repeat first|refine W.g ?_|refine L.p rfl rfl ?_|refine L.nil ?_|refine L.skip rfl ?_
      refine L.elst hF.row hro (by show 0 + nd ≤ cs1.length; have := hF.len; omega) (k := m - 2) (by rw [wrap64 (by omega) (by omega)]; omega) (by omega) rfl rfl rfl rfl (fun _ => rfl) (fun _ => rfl) rfl rfl rfl (fun _ => ?_)
      replace hF := hF.put (q := m - 2) (x := k0 / 10) (by omega) (by omega) hlen hst (by omega) (by rw [g2])
      generalize List.set T1 b _ = T2 at *
      generalize cs1.set (m - 2) _ = cs2 at *
      clear cs cs1
      obtain ⟨cs, hcs⟩ : ∃ cs, cs = cs2 := ⟨_, rfl⟩
      rw [← hcs] at hF
      clear hcs cs2
      obtain ⟨T, hT⟩ : ∃ T, T = T2 := ⟨_, rfl⟩
      rw [← hT] at hF ⊢
      clear hT T2 T1
      repeat first|refine W.g ?_|refine L.p rfl rfl ?_|refine L.nil ?_|refine L.skip rfl ?_
      refine L.sx (s := SM) (i := 2 * k1 + 1) rfl ((force_eq rfl).trans (congrArg (Value.int .u32) (wone (by omega)))) (sm_tab (k := k1) (by omega)).2 rfl rfl ?_
      rw [dval (k1 % 10) (by omega)]
      repeat first|refine W.g ?_|refine L.p rfl rfl ?_|refine L.nil ?_|refine L.skip rfl ?_
      refine L.sx (s := SM) (i := 2 * k1) rfl rfl (sm_tab (k := k1) (by omega)).1 rfl rfl ?_
      rw [dval (k1 / 10) (by omega)]
      repeat first|refine W.g ?_|refine L.p rfl rfl ?_|refine L.nil ?_|refine L.skip rfl ?_
      refine L.elst hF.row hro (by show 0 + nd ≤ cs.length; have := hF.len; omega) (k := m - 3) (by rw [wrap64 (by omega) (by omega)]; omega) (by omega) rfl rfl rfl rfl (fun _ => rfl) (fun _ => rfl) rfl rfl rfl (fun _ => ?_)
      replace hF := hF.put (q := m - 3) (x := k1 % 10) (by omega) (by omega) hlen hst (by omega) (by rw [g3])
      generalize List.set T b _ = T1 at *
      generalize cs.set (m - 3) _ = cs1 at *
      repeat first|refine W.g ?_|refine L.p rfl rfl ?_|refine L.nil ?_|refine L.skip rfl ?_
      refine L.elst hF.row hro (by show 0 + nd ≤ cs1.length; have := hF.len; omega) (k := m - 4) (by rw [wrap64 (by omega) (by omega)]; omega) (by omega) rfl rfl rfl rfl (fun _ => rfl) (fun _ => rfl) rfl rfl rfl (fun _ => ?_)
      replace hF := hF.put (q := m - 4) (x := k1 / 10) (by omega) (by omega) hlen hst (by omega) (by rw [g4])
      generalize List.set T1 b _ = T2 at *
      generalize cs1.set (m - 4) _ = cs2 at *
      clear cs cs1
      obtain ⟨cs, hcs⟩ : ∃ cs, cs = cs2 := ⟨_, rfl⟩
      rw [← hcs] at hF
      clear hcs cs2
      obtain ⟨T, hT⟩ : ∃ T, T = T2 := ⟨_, rfl⟩
      rw [← hT] at hF ⊢
      clear hT T2 T1
      repeat first|refine W.g ?_|refine L.p rfl rfl ?_|refine L.nil ?_|refine L.skip rfl ?_
      refine L.sx (s := SM) (i := 2 * k2 + 1) rfl ((force_eq rfl).trans (congrArg (Value.int .u32) (wone (by omega)))) (sm_tab (k := k2) (by omega)).2 rfl rfl ?_
      rw [dval (k2 % 10) (by omega)]
      repeat first|refine W.g ?_|refine L.p rfl rfl ?_|refine L.nil ?_|refine L.skip rfl ?_
      refine L.sx (s := SM) (i := 2 * k2) rfl rfl (sm_tab (k := k2) (by omega)).1 rfl rfl ?_
      rw [dval (k2 / 10) (by omega)]
      repeat first|refine W.g ?_|refine L.p rfl rfl ?_|refine L.nil ?_|refine L.skip rfl ?_
      refine L.elst hF.row hro (by show 0 + nd ≤ cs.length; have := hF.len; omega) (k := m - 5) (by rw [wrap64 (by omega) (by omega)]; omega) (by omega) rfl rfl rfl rfl (fun _ => rfl) (fun _ => rfl) rfl rfl rfl (fun _ => ?_)
      replace hF := hF.put (q := m - 5) (x := k2 % 10) (by omega) (by omega) hlen hst (by omega) (by rw [g5])
      generalize List.set T b _ = T1 at *
      generalize cs.set (m - 5) _ = cs1 at *
      repeat first|refine W.g ?_|refine L.p rfl rfl ?_|refine L.nil ?_|refine L.skip rfl ?_
      refine L.elst hF.row hro (by show 0 + nd ≤ cs1.length; have := hF.len; omega) (k := m - 6) (by rw [wrap64 (by omega) (by omega)]; omega) (by omega) rfl rfl rfl rfl (fun _ => rfl) (fun _ => rfl) rfl rfl rfl (fun _ => ?_)
      replace hF := hF.put (q := m - 6) (x := k2 / 10) (by omega) (by omega) hlen hst (by omega) (by rw [g6])
      generalize List.set T1 b _ = T2 at *
      generalize cs1.set (m - 6) _ = cs2 at *
      clear cs cs1
      obtain ⟨cs, hcs⟩ : ∃ cs, cs = cs2 := ⟨_, rfl⟩
      rw [← hcs] at hF
      clear hcs cs2
      obtain ⟨T, hT⟩ : ∃ T, T = T2 := ⟨_, rfl⟩
      rw [← hT] at hF ⊢
      clear hT T2 T1
      repeat first|refine W.g ?_|refine L.p rfl rfl ?_|refine L.nil ?_|refine L.skip rfl ?_
      refine L.sx (s := SM) (i := 2 * k3 + 1) rfl ((force_eq rfl).trans (congrArg (Value.int .u32) (wone (by omega)))) (sm_tab (k := k3) (by omega)).2 rfl rfl ?_
      rw [dval (k3 % 10) (by omega)]
      repeat first|refine W.g ?_|refine L.p rfl rfl ?_|refine L.nil ?_|refine L.skip rfl ?_
      refine L.sx (s := SM) (i := 2 * k3) rfl rfl (sm_tab (k := k3) (by omega)).1 rfl rfl ?_
      rw [dval (k3 / 10) (by omega)]
      repeat first|refine W.g ?_|refine L.p rfl rfl ?_|refine L.nil ?_|refine L.skip rfl ?_
      refine L.elst hF.row hro (by show 0 + nd ≤ cs.length; have := hF.len; omega) (k := m - 7) (by rw [wrap64 (by omega) (by omega)]; omega) (by omega) rfl rfl rfl rfl (fun _ => rfl) (fun _ => rfl) rfl rfl rfl (fun _ => ?_)
      replace hF := hF.put (q := m - 7) (x := k3 % 10) (by omega) (by omega) hlen hst (by omega) (by rw [g7])
      generalize List.set T b _ = T1 at *
      generalize cs.set (m - 7) _ = cs1 at *
      repeat first|refine W.g ?_|refine L.p rfl rfl ?_|refine L.nil ?_|refine L.skip rfl ?_
      refine L.elst hF.row hro (by show 0 + nd ≤ cs1.length; have := hF.len; omega) (k := m - 8) (by rw [wrap64 (by omega) (by omega)]; omega) (by omega) rfl rfl rfl rfl (fun _ => rfl) (fun _ => rfl) rfl rfl rfl (fun _ => ?_)
      replace hF := hF.put (q := m - 8) (x := k3 / 10) (by omega) (by omega) hlen hst (by omega) (by rw [g8])
      generalize List.set T1 b _ = T2 at *
      generalize cs1.set (m - 8) _ = cs2 at *
      clear cs cs1
      obtain ⟨cs, hcs⟩ : ∃ cs, cs = cs2 := ⟨_, rfl⟩
      rw [← hcs] at hF
      clear hcs cs2
      obtain ⟨T, hT⟩ : ∃ T, T = T2 := ⟨_, rfl⟩
      rw [← hT] at hF ⊢
      clear hT T2 T1
      repeat first|refine W.g ?_|refine L.p rfl rfl ?_|refine L.nil ?_|refine L.skip rfl ?_
      exact ⟨m - 8, by omega, m - 8, w / 100000000, cs, rfl, by omega, hw2, rfl, rfl, (force_eq rfl).trans (congrArg (Value.int .i64) (by rw [wrap64 (by omega) (by omega)]; omega)), hF⟩
    · have hm8 : m < 8 := by have := of_decide_eq_false h; omega
      clear h
      repeat first|refine W.g ?_|refine L.p rfl rfl ?_|refine L.nil ?_|refine L.skip rfl ?_
      exact ⟨rfl, m, w, cs, hm8, hm, hw, rfl, rfl, rfl, hF⟩
  rintro _ e T ⟨rfl, m, w, cs, hm8, hm, hw, e0, e1, e4, hF⟩
  refine W.env3 e0 e1 e4 ?_
  have hwm : ∀ m, m ≤ nd → u / 10 ^ (nd - m) < 10 ^ m := fun m hm => by
    refine Nat.div_lt_of_lt_mul ?_
    rw [← Nat.pow_add, Nat.sub_add_cancel hm]; exact hu2
  have hwl : w < 100000000 := by
    have h1 := hwm m hm
    rw [← hw] at h1
    have h2 : 10 ^ m ≤ 10 ^ 8 := Nat.pow_le_pow_right (by decide) (by omega)
    have e : (10 : Nat) ^ 8 = 100000000 := by decide
    omega
  have w0 : IntKind.u32.wrap (w : Int) = (w : Int) := w32 (by omega)
  repeat first|refine W.g ?_|refine L.p rfl rfl ?_|refine L.nil ?_|refine L.skip rfl ?_
  rw [w0]
  refine W.mono (R := fun x e T => x = .nrm ∧ ∃ (m w : Nat) (cs : List Value), m < 4 ∧ m ≤ nd ∧ w = u / 10 ^ (nd - m) ∧ e 0 = .slice (some ⟨b, 0, none⟩) nd c ∧ e 12 = .int .u32 (w : Int) ∧ e 4 = vi m ∧ FbS b nd u r S T m cs) ?_ ?_
  · refine W.ite rfl (fun h => ?_) (fun h => ?_)
    · have hm4 : 4 ≤ m := by have := of_decide_eq_true h; omega
      clear h
      obtain ⟨lo, hlo⟩ : ∃ lo, lo = w % 10000 := ⟨_, rfl⟩
      obtain ⟨k0, hk0⟩ : ∃ k, k = lo % 100 := ⟨_, rfl⟩
      obtain ⟨k1, hk1⟩ : ∃ k, k = lo / 100 := ⟨_, rfl⟩
      have w1 : Int.tmod (w : Int) 10000 = (lo : Int) := by rw [show Int.tmod (w : Int) 10000 = ((w % 10000 : Nat) : Int) from tmn w 10000, ← hlo]
      have w2 : IntKind.u32.wrap (Int.tdiv (w : Int) 10000) = ((w / 10000 : Nat) : Int) := by rw [show Int.tdiv (w : Int) 10000 = ((w / 10000 : Nat) : Int) from tdn w 10000, w32 (by omega)]
      have w5 : IntKind.u32.wrap (IntKind.u32.wrap (Int.tdiv (lo : Int) 100) * 2) = ((2 * k1 : Nat) : Int) := by
        rw [show Int.tdiv (lo : Int) 100 = ((lo / 100 : Nat) : Int) from tdn lo 100, ← hk1, w32 (by omega), show ((k1 : Int) * 2) = ((2 * k1 : Nat) : Int) by omega, w32 (by omega)]
      have w6 : IntKind.u32.wrap (Int.tmod (lo : Int) 100 * 2) = ((2 * k0 : Nat) : Int) := by
        rw [show Int.tmod (lo : Int) 100 = ((lo % 100 : Nat) : Int) from tmn lo 100, ← hk0, show ((k0 : Int) * 2) = ((2 * k0 : Nat) : Int) by omega, w32 (by omega)]
      have g1 : u / 10 ^ (nd - 1 - (m - 1)) % 10 = k0 % 10 := by rw [dig_at hm (by omega) (by omega), ← hw]; show w / 1 % 10 = _; omega
      have g2 : u / 10 ^ (nd - 1 - (m - 2)) % 10 = k0 / 10 := by rw [dig_at hm (by omega) (by omega), ← hw]; show w / 10 % 10 = _; omega
      have g3 : u / 10 ^ (nd - 1 - (m - 3)) % 10 = k1 % 10 := by rw [dig_at hm (by omega) (by omega), ← hw]; show w / 100 % 10 = _; omega
      have g4 : u / 10 ^ (nd - 1 - (m - 4)) % 10 = k1 / 10 := by rw [dig_at hm (by omega) (by omega), ← hw]; show w / 1000 % 10 = _; omega
      have b0 : k0 < 100 := by omega
      have b1 : k1 < 100 := by omega
      have hw2 : w / 10000 = u / 10 ^ (nd - (m - 4)) := by rw [hw, Nat.div_div_eq_div_mul, show 10000 = 10 ^ 4 by decide, ← Nat.pow_add]; congr 2; omega
      clear hk0 hk1 hlo
      repeat first|refine W.g ?_|refine L.p rfl rfl ?_|refine L.nil ?_|refine L.skip rfl ?_
      rw [w1, w2, w5, w6]
      refine L.sx (s := SM) (i := 2 * k0 + 1) rfl ((force_eq rfl).trans (congrArg (Value.int .u32) (wone (by omega)))) (sm_tab (k := k0) (by omega)).2 rfl rfl ?_
      rw [dval (k0 % 10) (by omega)]
      repeat first|refine W.g ?_|refine L.p rfl rfl ?_|refine L.nil ?_|refine L.skip rfl ?_
      refine L.sx (s := SM) (i := 2 * k0) rfl rfl (sm_tab (k := k0) (by omega)).1 rfl rfl ?_
      rw [dval (k0 / 10) (by omega)]
      repeat first|refine W.g ?_|refine L.p rfl rfl ?_|refine L.nil ?_|refine L.skip rfl ?_
      refine L.elst hF.row hro (by show 0 + nd ≤ cs.length; have := hF.len; omega) (k := m - 1) (by rw [wrap64 (by omega) (by omega)]; omega) (by omega) rfl rfl rfl rfl (fun _ => rfl) (fun _ => rfl) rfl rfl rfl (fun _ => ?_)
      replace hF := hF.put (q := m - 1) (x := k0 % 10) (by omega) (by omega) hlen hst (by omega) (by rw [g1])
      generalize List.set T b _ = T1 at *
      generalize cs.set (m - 1) _ = cs1 at *
      repeat first|refine W.g ?_|refine L.p rfl rfl ?_|refine L.nil ?_|refine L.skip rfl ?_
      refine L.elst hF.row hro (by show 0 + nd ≤ cs1.length; have := hF.len; omega) (k := m - 2) (by rw [wrap64 (by omega) (by omega)]; omega) (by omega) rfl rfl rfl rfl (fun _ => rfl) (fun _ => rfl) rfl rfl rfl (fun _ => ?_)
      replace hF := hF.put (q := m - 2) (x := k0 / 10) (by omega) (by omega) hlen hst (by omega) (by rw [g2])
      generalize List.set T1 b _ = T2 at *
      generalize cs1.set (m - 2) _ = cs2 at *
      clear cs cs1
      obtain ⟨cs, hcs⟩ : ∃ cs, cs = cs2 := ⟨_, rfl⟩
      rw [← hcs] at hF
      clear hcs cs2
      obtain ⟨T, hT⟩ : ∃ T, T = T2 := ⟨_, rfl⟩
      rw [← hT] at hF ⊢
      clear hT T2 T1
      repeat first|refine W.g ?_|refine L.p rfl rfl ?_|refine L.nil ?_|refine L.skip rfl ?_
      refine L.sx (s := SM) (i := 2 * k1 + 1) rfl ((force_eq rfl).trans (congrArg (Value.int .u32) (wone (by omega)))) (sm_tab (k := k1) (by omega)).2 rfl rfl ?_
      rw [dval (k1 % 10) (by omega)]
      repeat first|refine W.g ?_|refine L.p rfl rfl ?_|refine L.nil ?_|refine L.skip rfl ?_
      refine L.sx (s := SM) (i := 2 * k1) rfl rfl (sm_tab (k := k1) (by omega)).1 rfl rfl ?_
      rw [dval (k1 / 10) (by omega)]
      repeat first|refine W.g ?_|refine L.p rfl rfl ?_|refine L.nil ?_|refine L.skip rfl ?_
      refine L.elst hF.row hro (by show 0 + nd ≤ cs.length; have := hF.len; omega) (k := m - 3) (by rw [wrap64 (by omega) (by omega)]; omega) (by omega) rfl rfl rfl rfl (fun _ => rfl) (fun _ => rfl) rfl rfl rfl (fun _ => ?_)
      replace hF := hF.put (q := m - 3) (x := k1 % 10) (by omega) (by omega) hlen hst (by omega) (by rw [g3])
      generalize List.set T b _ = T1 at *
      generalize cs.set (m - 3) _ = cs1 at *
      repeat first|refine W.g ?_|refine L.p rfl rfl ?_|refine L.nil ?_|refine L.skip rfl ?_
      refine L.elst hF.row hro (by show 0 + nd ≤ cs1.length; have := hF.len; omega) (k := m - 4) (by rw [wrap64 (by omega) (by omega)]; omega) (by omega) rfl rfl rfl rfl (fun _ => rfl) (fun _ => rfl) rfl rfl rfl (fun _ => ?_)
      replace hF := hF.put (q := m - 4) (x := k1 / 10) (by omega) (by omega) hlen hst (by omega) (by rw [g4])
      generalize List.set T1 b _ = T2 at *
      generalize cs1.set (m - 4) _ = cs2 at *
      clear cs cs1
      obtain ⟨cs, hcs⟩ : ∃ cs, cs = cs2 := ⟨_, rfl⟩
      rw [← hcs] at hF
      clear hcs cs2
      obtain ⟨T, hT⟩ : ∃ T, T = T2 := ⟨_, rfl⟩
      rw [← hT] at hF ⊢
      clear hT T2 T1
      repeat first|refine W.g ?_|refine L.p rfl rfl ?_|refine L.nil ?_|refine L.skip rfl ?_
      exact ⟨rfl, m - 4, w / 10000, cs, by omega, by omega, hw2, rfl, rfl, (force_eq rfl).trans (congrArg (Value.int .i64) (by rw [wrap64 (by omega) (by omega)]; omega)), hF⟩
    · have hm4 : m < 4 := by have := of_decide_eq_false h; omega
      clear h
      repeat first|refine W.g ?_|refine L.p rfl rfl ?_|refine L.nil ?_|refine L.skip rfl ?_
      exact ⟨rfl, m, w, cs, hm4, hm, hw, rfl, rfl, rfl, hF⟩
  clear hF e0 e1 e4 hwl hw hm hm8 w0
  clear cs w m T
  rintro _ e' T ⟨rfl, m, w, cs, hm4, hm, hw, e0, e12, e4, hF⟩
  refine W.env3 e0 e12 e4 ?_
  have hwl : w < 10000 := by
    have h1 := hwm m hm
    rw [← hw] at h1
    have h2 : 10 ^ m ≤ 10 ^ 3 := Nat.pow_le_pow_right (by decide) (by omega)
    have e : (10 : Nat) ^ 3 = 1000 := by decide
    omega
  repeat first|refine W.g ?_|refine L.p rfl rfl ?_|refine L.nil ?_|refine L.skip rfl ?_
  refine W.mono (R := fun x e T => x = .nrm ∧ ∃ (m w : Nat) (cs : List Value), m < 2 ∧ m ≤ nd ∧ w = u / 10 ^ (nd - m) ∧ e 0 = .slice (some ⟨b, 0, none⟩) nd c ∧ e 12 = .int .u32 (w : Int) ∧ e 4 = vi m ∧ FbS b nd u r S T m cs) ?_ ?_
  · refine W.ite rfl (fun h => ?_) (fun h => ?_)
    · have hm2 : 2 ≤ m := by have := of_decide_eq_true h; omega
      clear h
      obtain ⟨k0, hk0⟩ : ∃ k, k = w % 100 := ⟨_, rfl⟩
      have w2 : IntKind.u32.wrap (Int.tdiv (w : Int) 100) = ((w / 100 : Nat) : Int) := by rw [show Int.tdiv (w : Int) 100 = ((w / 100 : Nat) : Int) from tdn w 100, w32 (by omega)]
      have w6 : IntKind.u32.wrap (Int.tmod (w : Int) 100 * 2) = ((2 * k0 : Nat) : Int) := by
        rw [show Int.tmod (w : Int) 100 = ((w % 100 : Nat) : Int) from tmn w 100, ← hk0, show ((k0 : Int) * 2) = ((2 * k0 : Nat) : Int) by omega, w32 (by omega)]
      have g1 : u / 10 ^ (nd - 1 - (m - 1)) % 10 = k0 % 10 := by rw [dig_at hm (by omega) (by omega), ← hw]; show w / 1 % 10 = _; omega
      have g2 : u / 10 ^ (nd - 1 - (m - 2)) % 10 = k0 / 10 := by rw [dig_at hm (by omega) (by omega), ← hw]; show w / 10 % 10 = _; omega
      have b0 : k0 < 100 := by omega
      have hw2 : w / 100 = u / 10 ^ (nd - (m - 2)) := by rw [hw, Nat.div_div_eq_div_mul, show 100 = 10 ^ 2 by decide, ← Nat.pow_add]; congr 2; omega
      clear hk0
      repeat first|refine W.g ?_|refine L.p rfl rfl ?_|refine L.nil ?_|refine L.skip rfl ?_
      rw [w2, w6]
      refine L.sx (s := SM) (i := 2 * k0 + 1) rfl ((force_eq rfl).trans (congrArg (Value.int .u32) (wone (by omega)))) (sm_tab (k := k0) (by omega)).2 rfl rfl ?_
      rw [dval (k0 % 10) (by omega)]
      repeat first|refine W.g ?_|refine L.p rfl rfl ?_|refine L.nil ?_|refine L.skip rfl ?_
      refine L.sx (s := SM) (i := 2 * k0) rfl rfl (sm_tab (k := k0) (by omega)).1 rfl rfl ?_
      rw [dval (k0 / 10) (by omega)]
      repeat first|refine W.g ?_|refine L.p rfl rfl ?_|refine L.nil ?_|refine L.skip rfl ?_
      refine L.elst hF.row hro (by show 0 + nd ≤ cs.length; have := hF.len; omega) (k := m - 1) (by rw [wrap64 (by omega) (by omega)]; omega) (by omega) rfl rfl rfl rfl (fun _ => rfl) (fun _ => rfl) rfl rfl rfl (fun _ => ?_)
      replace hF := hF.put (q := m - 1) (x := k0 % 10) (by omega) (by omega) hlen hst (by omega) (by rw [g1])
      generalize List.set T b _ = T1 at *
      generalize cs.set (m - 1) _ = cs1 at *
      repeat first|refine W.g ?_|refine L.p rfl rfl ?_|refine L.nil ?_|refine L.skip rfl ?_
      refine L.elst hF.row hro (by show 0 + nd ≤ cs1.length; have := hF.len; omega) (k := m - 2) (by rw [wrap64 (by omega) (by omega)]; omega) (by omega) rfl rfl rfl rfl (fun _ => rfl) (fun _ => rfl) rfl rfl rfl (fun _ => ?_)
      replace hF := hF.put (q := m - 2) (x := k0 / 10) (by omega) (by omega) hlen hst (by omega) (by rw [g2])
      generalize List.set T1 b _ = T2 at *
      generalize cs1.set (m - 2) _ = cs2 at *
      clear cs cs1
      obtain ⟨cs, hcs⟩ : ∃ cs, cs = cs2 := ⟨_, rfl⟩
      rw [← hcs] at hF
      clear hcs cs2
      obtain ⟨T, hT⟩ : ∃ T, T = T2 := ⟨_, rfl⟩
      rw [← hT] at hF ⊢
      clear hT T2 T1
      repeat first|refine W.g ?_|refine L.p rfl rfl ?_|refine L.nil ?_|refine L.skip rfl ?_
      exact ⟨rfl, m - 2, w / 100, cs, by omega, by omega, hw2, rfl, rfl, (force_eq rfl).trans (congrArg (Value.int .i64) (by rw [wrap64 (by omega) (by omega)]; omega)), hF⟩
    · have hm2 : m < 2 := by have := of_decide_eq_false h; omega
      clear h
      repeat first|refine W.g ?_|refine L.p rfl rfl ?_|refine L.nil ?_|refine L.skip rfl ?_
      exact ⟨rfl, m, w, cs, hm2, hm, hw, rfl, rfl, rfl, hF⟩
  clear hF e0 e12 e4 hwl hw hm hm4
  clear cs w m T
  rintro _ e'' T ⟨rfl, m, w, cs, hm2, hm, hw, e0, e12, e4, hF⟩
  refine W.env3 e0 e12 e4 ?_
  have hwl : w < 10 := by
    have h1 := hwm m hm
    rw [← hw] at h1
    have h2 : 10 ^ m ≤ 10 ^ 1 := Nat.pow_le_pow_right (by decide) (by omega)
    have e : (10 : Nat) ^ 1 = 10 := by decide
    omega
  have fin : ∀ T cs, FbS b nd u r S T 0 cs → Keep b S T ∧ ∃ cs, T.row? b = some { r with cells := cs } ∧ cs.length = r.cells.length ∧ cs.take nd = bv (pad nd u) := fun T cs h => by
    refine ⟨h.keep, cs, h.row, h.len, List.ext_getElem? fun p => ?_⟩
    rw [List.getElem?_take]
    split
    · rename_i hp; exact h.dig p (by omega) hp
    · rw [List.getElem?_eq_none (by rw [bv_len, pad_len]; omega)]
  repeat first|refine W.g ?_|refine L.p rfl rfl ?_|refine L.nil ?_|refine L.skip rfl ?_
  refine W.ite rfl (fun h => ?_) (fun h => ?_)
  · have hm1 : m = 1 := by have := of_decide_eq_true h; omega
    subst hm1
    clear h
    have w1 : IntKind.u8.wrap (IntKind.u32.wrap (48 + (w : Int))) = ((48 + w : Nat) : Int) := by
      rw [show (48 + (w : Int)) = ((48 + w : Nat) : Int) by omega, w32 (by omega), wrapU8 (by omega) (by omega)]
    have hv : Value.int .u8 ((48 + w : Nat) : Int) = v8 (BitVec.ofNat 8 (48 + w)) := by
      show _ = Value.int .u8 ((BitVec.ofNat 8 (48 + w)).toNat : Int)
      rw [BitVec.toNat_ofNat, Nat.mod_eq_of_lt (by omega)]
    repeat first|refine W.g ?_|refine L.p rfl rfl ?_|refine L.nil ?_|refine L.skip rfl ?_
    rw [w1, hv]
    refine L.elst hF.row hro (by show 0 + nd ≤ cs.length; have := hF.len; omega) (k := 0) rfl (by omega) rfl rfl rfl rfl (fun _ => rfl) (fun _ => rfl) rfl rfl rfl (fun _ => ?_)
    replace hF := hF.put (q := 0) (x := w) rfl (by omega) hlen hst hwl (by rw [Nat.sub_zero, ← hw]; omega)
    repeat first|refine W.g ?_|refine L.p rfl rfl ?_|refine L.nil ?_|refine L.skip rfl ?_
    exact ⟨.inl rfl, _, rfl, fin _ _ hF⟩
  · have hm0 : m = 0 := by have := of_decide_eq_false h; omega
    subst hm0
    clear h
    repeat first|refine W.g ?_|refine L.p rfl rfl ?_|refine L.nil ?_|refine L.skip rfl ?_
    exact ⟨.inl rfl, _, rfl, fin _ _ hF⟩
end Go.Proofs.YtbdnkneedengcaaGreatDoor

/- Texts: a word in decimal, whole. Conditions: the powers of ten lie in memory. -/
set_option linter.unusedSimpArgs false
set_option linter.unusedVariables false
set_option maxRecDepth 100000
set_option maxHeartbeats 4000000
namespace Go.Proofs.YtbdnkneedengcaaGreatDoor
open Go Ie
section
variable {P : Program} {G : Nat} {Ext : FuncId → List Value → Mem → Outc → Mem → Prop} {e : Env} {S : Mem} {fl : Bool} {ops : Array Oper} {K : Kont}
variable {rest : List Oper} {dst : Option Tmp} {ty : TypeId} {pos : String} {af : Array Edge} {gd : Option (Nat × Bool)}
/-- a part of a text -/
theorem L.btw {t : TypeId} {x lo hi : Operand} {l : BL} {k k' : IntKind} {i j : Nat} (hx : e.eval x = .string (strB l)) (hlo : e.eval lo = .int k (i : Int)) (hhi : e.eval hi = .int k' (j : Int)) (hij : i ≤ j) (hb : j ≤ l.length) (hu : P.underlying t = some .string)
    (hw : awanted ops ⟨dst, .slice t x (some lo) (some hi) none, ty, pos, af, gd⟩ e = true) (h : L P G Ext fl ops rest (e.put dst (.string (strB ((l.take j).drop i)))) S K) : L P G Ext fl ops (⟨dst, .slice t x (some lo) (some hi) none, ty, pos, af, gd⟩ :: rest) e S K := by
  refine L.flat (by simp [Op.operands, hx, hlo, hhi]; exact ⟨rfl, rfl, rfl⟩) rfl nofun ?_ hw h
  have h0 : (0 : Int) ≤ (j : Int) ∧ (j : Int) ≤ (l.length : Nat) := by omega
  have h1 : (0 : Int) ≤ (i : Int) ∧ (i : Int) ≤ (j : Nat) := by omega
  have hb : pureRun P (Instr.sliceAt t (.string (strB l)) (some (.int k (i : Int))) (some (.int k' (j : Int))) none) = some (.string (strB ((l.take j).drop i))) := by
    unfold Instr.sliceAt
    rw [pureRun_bind, pureRun_underlying hu]
    show pureRun P (Instr.slice t (.string (strB l)) (some (.int k (i : Int))) (some (.int k' (j : Int))) none) = _
    unfold Instr.slice
    rw [pureRun_bind, pureRun_underlying hu]
    show pureRun P (Instr.sliceBounds false (strB l).size (strB l).size (some (.int k (i : Int))) (some (.int k' (j : Int))) none >>= fun (l', h, _) => Pure.pure (Value.string ((strB l).extract l' h))) = _
    rw [pureRun_bind]
    have hs : pureRun P (Instr.sliceBounds false (strB l).size (strB l).size (some (.int k (i : Int))) (some (.int k' (j : Int))) none) = some (i, j, (strB l).size) := by
      unfold Instr.sliceBounds
      simp [pureRun_bind, Instr.sliceBound, asIntOf, h0, h1, strB_size]
      rw [if_pos hb]
      simp [pureRun_bind, h1, hij]
      try rfl
    rw [hs]
    show some (Value.string ((strB l).extract _ _)) = _
    rw [strB_part]
  simp only [execOp, hx, hlo, hhi, Option.map_some, Option.map_none, pureRun_bind, hb]
  rfl
/-- bytes made a text -/
theorem L.text2 {s d : TypeId} {x : Operand} {l : BL} {el : TypeId} {b n c : Nat} {r : Row} (hx : e.eval x = .slice (some ⟨b, 0, none⟩) n c) (hr : S.row? b = some r) (hro : r.ro = none) (hn : l.length = n) (hl : n ≤ r.cells.length) (ht : r.cells.take n = bv l) (hs : P.underlying s = some (.slice el)) (hd : P.underlying d = some .string) (hel : isBytes P el = true)
    (hw : awanted ops ⟨dst, .convert s d x, ty, pos, af, gd⟩ e = true)
    (k : L P G Ext fl ops rest (e.put dst (.string (strB l))) S K) : L P G Ext fl ops (⟨dst, .convert s d x, ty, pos, af, gd⟩ :: rest) e S K := by
  have hc : S.cellsAt ⟨b, 0, none⟩ n = some (bv l) := by
    unfold Mem.cellsAt
    simp only [hr]
    rw [if_pos ⟨trivial, by omega, .inl hro⟩, List.drop_zero, ht]
  refine L.load hw ?_ k
  unfold aload
  dsimp only
  rw [hx, hs, hd]
  simp only [hel, if_true, hc, Option.bind_some, bytesOf_bv, Option.map_some]
  rfl
end
variable {Ext : FuncId → List Value → Mem → Outc → Mem → Prop}
def powT : List Value := (List.range 20).map fun i => .int .u64 ((10 ^ i : Nat) : Int)
/-- the powers of ten lie in memory -/
def PowOk (S : Mem) : Prop := RowIs S 5 powT
theorem PowOk.cons {S T : Mem} (h : PowOk S) (k : Cons S T) : PowOk T := RowIs.cons h k
theorem dig_tab {b : Nat} (h : b ≤ 64) (h1 : 1 ≤ b) : b * 78913 / 262144 ≤ 19 ∧ (b * 78913 / 262144 = 0 ∨ 10 ^ (b * 78913 / 262144 - 1) ≤ 2 ^ (b - 1)) ∧ 2 ^ b ≤ 10 ^ (b * 78913 / 262144 + 1) := by
  have : ∀ i : Fin 65, 1 ≤ i.val → i.val * 78913 / 262144 ≤ 19 ∧ (i.val * 78913 / 262144 = 0 ∨ 10 ^ (i.val * 78913 / 262144 - 1) ≤ 2 ^ (i.val - 1)) ∧ 2 ^ i.val ≤ 10 ^ (i.val * 78913 / 262144 + 1) := by decide +kernel
  exact this ⟨b, by omega⟩ h1
theorem dec_len {n k : Nat} (h1 : n < 10 ^ (k + 1)) (h2 : k = 0 ∨ 10 ^ k ≤ n) : (dec n).length = k + 1 := by rw [dec_pad h1 h2, pad_len]
theorem bool2_C (b : Bool) (S : Mem) : C Tryz.prog gN Ext 151 [.bool b] S fun v S' => v = vi (if b then 1 else 0) ∧ S' = S := by
  refine C.fn Tryz.func151 rfl (by kernel_rfl) rfl ?_
  repeat first|refine W.g ?_|refine L.p rfl rfl ?_|refine L.nil ?_|refine L.skip rfl ?_
  refine W.ite rfl (fun h => ?_) (fun h => ?_)
  · subst h
    repeat first|refine W.g ?_|refine L.p rfl rfl ?_|refine L.nil ?_|refine L.skip rfl ?_
    exact ⟨.inr rfl, _, rfl, rfl, rfl⟩
  · subst h
    repeat first|refine W.g ?_|refine L.p rfl rfl ?_|refine L.nil ?_|refine L.skip rfl ?_
    exact ⟨.inr rfl, _, rfl, rfl, rfl⟩
theorem log10_C (n : Nat) (hn : n ≤ 64) (S : Mem) : C Tryz.prog gN Ext 150 [vi n] S fun v S' => v = vi (n * 78913 / 262144) ∧ S' = S := by
  refine C.fn Tryz.func150 rfl (by kernel_rfl) rfl ?_
  repeat first|refine W.g ?_|refine L.p rfl rfl ?_|refine L.nil ?_|refine L.skip rfl ?_
  refine ⟨.inr rfl, _, rfl, (force_eq rfl).trans (congrArg (Value.int .i64) ?_), rfl⟩
  rw [wrap64 (by omega) (by omega), show ((n : Int) * 78913) = ((n * 78913 : Nat) : Int) by omega]
  exact fdivn (n * 78913) 18
theorem numDigits_C (u : Nat) (h0 : 0 < u) (hu : u < 18446744073709551616) (S : Mem) (hP : PowOk S) : C Tryz.prog gN Ext 128 [.int .u64 (u : Int)] S fun v S' => v = vi (dec u).length ∧ S' = S := by
  have hb64 : blen u ≤ 64 := blen_le.2 hu
  have hb0 : 1 ≤ blen u := by unfold blen; rw [if_neg (by omega)]; omega
  have hlt : u < 2 ^ blen u := blen_le.1 (Nat.le_refl _)
  have hge : 2 ^ (blen u - 1) ≤ u := by
    refine Classical.byContradiction fun hc => ?_
    have := blen_le.2 (show u < 2 ^ (blen u - 1) by omega)
    omega
  obtain ⟨t1, t2, t3⟩ := dig_tab hb64 hb0
  obtain ⟨k, hk⟩ : ∃ k, k = blen u * 78913 / 262144 := ⟨_, rfl⟩
  rw [← hk] at t1 t2 t3
  refine C.fn Tryz.func128 rfl (by kernel_rfl) rfl ?_
  repeat first|refine W.g ?_|refine L.p rfl rfl ?_|refine L.nil ?_|refine L.skip rfl ?_
  refine L.cl (len64_C u hu S) rfl rfl ?_
  rintro _ _ ⟨rfl, rfl⟩
  refine ⟨nofun, ?_⟩
  rename Mem => S
  repeat first|refine W.g ?_|refine L.p rfl rfl ?_|refine L.nil ?_|refine L.skip rfl ?_
  refine L.cl (log10_C (blen u) hb64 S) rfl rfl ?_
  rintro _ _ ⟨rfl, rfl⟩
  refine ⟨nofun, ?_⟩
  rename Mem => S
  rw [← hk]
  obtain ⟨r, hr, hrw⟩ := RowIs.cell hP (k := k) (v := .int .u64 ((10 ^ k : Nat) : Int)) (by unfold powT; rw [List.getElem?_map, List.getElem?_range (by omega)]; rfl)
  repeat first|refine W.g ?_|refine L.p rfl rfl ?_|refine L.nil ?_|refine L.skip rfl ?_
  refine L.elA (r := r) (k := k) (o := 0) hr (by rw [Nat.zero_add]; exact hrw) rfl (show k < 20 by omega) rfl rfl rfl rfl (fun _ => rfl) rfl (fun p => ?_) (.inr rfl)
  repeat first|refine W.g ?_|refine L.p rfl rfl ?_|refine L.nil ?_|refine L.skip rfl ?_
  refine L.cl (bool2_C (decide ((u : Int) ≥ ((10 ^ k : Nat) : Int))) S) rfl rfl ?_
  rintro _ _ ⟨rfl, rfl⟩
  refine ⟨nofun, ?_⟩
  rename Mem => S
  repeat first|refine W.g ?_|refine L.p rfl rfl ?_|refine L.nil ?_|refine L.skip rfl ?_
  refine ⟨.inr rfl, _, rfl, (force_eq rfl).trans (congrArg (Value.int .i64) ?_), rfl⟩
  by_cases hc : 10 ^ k ≤ u
  · rw [decide_eq_true (by omega), if_pos rfl, wrap64 (by omega) (by omega), dec_len (k := k) (by omega) (.inr hc)]
    rfl
  · rw [decide_eq_false (by omega), if_neg (by decide), wrap64 (by omega) (by omega)]
    have hk0 : k ≠ 0 := by intro e; subst e; simp at hc; omega
    obtain ⟨j, rfl⟩ : ∃ j, k = j + 1 := ⟨k - 1, by omega⟩
    have h5 : 10 ^ j ≤ u := by
      rcases t2 with t2 | t2
      · omega
      · rw [Nat.add_sub_cancel] at t2; omega
    rw [dec_len (k := j) (by omega) (.inr h5)]
    show ((j + 1 : Nat) : Int) + ((0 : Nat) : Int) = ((j + 1 : Nat) : Int)
    omega
def SMl : BL := (List.range 100).flatMap fun k => pad 2 k
def DGl : BL := ((List.range 10).map fun k => BitVec.ofNat 8 (48 + k)) ++ ((List.range 26).map fun k => BitVec.ofNat 8 (97 + k))
theorem sml_part {i : Nat} (h : i < 100) (h2 : 10 ≤ i) : ((SMl.take (2 * i + 2)).drop (2 * i)) = dec i := by
  have : ∀ i : Fin 100, 10 ≤ i.val → ((SMl.take (2 * i.val + 2)).drop (2 * i.val)) = pad 2 i.val := by decide +kernel
  rw [this ⟨i, h⟩ h2]
  exact (dec_pad (k := 1) (by omega) (.inr (by omega))).symm
theorem dgl_part {i : Nat} (h : i < 10) : ((DGl.take (i + 1)).drop i) = dec i := by
  have : ∀ i : Fin 10, ((DGl.take (i.val + 1)).drop i.val) = [digB i.val] := by decide +kernel
  rw [this ⟨i, h⟩, dec_small h]
theorem small_C (i : Nat) (h : i < 100) (S : Mem) : C Tryz.prog gN Ext 127 [vi i] S fun v S' => v = .string (strB (dec i)) ∧ S' = S := by
  refine C.fn Tryz.func127 rfl (by kernel_rfl) rfl ?_
  repeat first|refine W.g ?_|refine L.p rfl rfl ?_|refine L.nil ?_|refine L.skip rfl ?_
  refine W.ite rfl (fun h => ?_) (fun h => ?_)
  · have hi : i < 10 := by have := of_decide_eq_true h; omega
    clear h
    repeat first|refine W.g ?_|refine L.p rfl rfl ?_|refine L.nil ?_|refine L.skip rfl ?_
    refine L.btw (l := DGl) (i := i) (j := i + 1) rfl rfl ((force_eq rfl).trans (congrArg (Value.int .i64) (wrap64 (by omega) (by omega)))) (by omega) (by show _ ≤ 36; omega) rfl rfl ?_
    rw [dgl_part hi]
    repeat first|refine W.g ?_|refine L.p rfl rfl ?_|refine L.nil ?_|refine L.skip rfl ?_
    exact ⟨.inr rfl, _, rfl, rfl, rfl⟩
  · have hi : 10 ≤ i := by have := of_decide_eq_false h; omega
    clear h
    rename i < 100 => h
    have hw : IntKind.i64.wrap ((i : Int) * 2) = ((2 * i : Nat) : Int) := by rw [wrap64 (by omega) (by omega)]; omega
    repeat first|refine W.g ?_|refine L.p rfl rfl ?_|refine L.nil ?_|refine L.skip rfl ?_
    rw [hw]
    refine L.btw (l := SMl) (i := 2 * i) (j := 2 * i + 2) rfl rfl ((force_eq rfl).trans (congrArg (Value.int .i64) (wrap64 (by omega) (by omega)))) (by omega) (by show _ ≤ 200; omega) rfl rfl ?_
    rw [sml_part h hi]
    repeat first|refine W.g ?_|refine L.p rfl rfl ?_|refine L.nil ?_|refine L.skip rfl ?_
    exact ⟨.inr rfl, _, rfl, rfl, rfl⟩
theorem formatUint0_C (u : Nat) (hu : u < 18446744073709551616) (S : Mem) (hP : PowOk S) : C Tryz.prog gN Ext 107 [.int .u64 (u : Int), vi 10] S fun v S' => v = .string (strB (dec u)) ∧ Cons S S' := by
  refine C.fn Tryz.func107 rfl (by kernel_rfl) rfl ?_
  repeat first|refine W.g ?_|refine L.p rfl rfl ?_|refine L.nil ?_|refine L.skip rfl ?_
  refine W.ite rfl (fun h => ?_) (fun h => ?_)
  rotate_left
  · cases h
  clear h
  repeat first|refine W.g ?_|refine L.p rfl rfl ?_|refine L.nil ?_|refine L.skip rfl ?_
  refine W.ite rfl (fun h => ?_) (fun h => ?_)
  · have hs : u < 100 := by have := of_decide_eq_true h; omega
    clear h
    repeat first|refine W.g ?_|refine L.p rfl rfl ?_|refine L.nil ?_|refine L.skip rfl ?_
    refine L.cl (small_C u hs S) rfl ((show acall _ _ = some (_, [.int .i64 (IntKind.i64.wrap (u : Int))]) from rfl).trans (by rw [wrap64 (by omega) (by omega)])) ?_
    rintro _ _ ⟨rfl, rfl⟩
    refine ⟨nofun, ?_⟩
    repeat first|refine W.g ?_|refine L.p rfl rfl ?_|refine L.nil ?_|refine L.skip rfl ?_
    exact ⟨.inr rfl, _, rfl, rfl, Cons.refl _⟩
  have hb : 100 ≤ u := by have := of_decide_eq_false h; omega
  clear h
  obtain ⟨k, k1, k2, k3, k4⟩ := dec_of_len (n := u)
  have hnd : (dec u).length ≤ 20 := by
    rw [k1]
    rcases k3 with rfl | k3
    · omega
    · refine Classical.byContradiction fun hc => ?_
      have : 10 ^ 20 ≤ 10 ^ k := Nat.pow_le_pow_right (by decide) (by omega)
      omega
  have hu2 : u < 10 ^ (dec u).length := by rw [k1]; exact k2
  have hdp : pad (dec u).length u = dec u := by rw [k1, k4]
  repeat first|refine W.g ?_|refine L.p rfl rfl ?_|refine L.nil ?_|refine L.skip rfl ?_
  refine L.eff (v := .pointer (some ⟨S.length, 0, none⟩)) (S1 := S ++ [newR (List.replicate 24 (v8 0#8)) 117]) rfl rfl ?_
  have hr : Mem.row? (S ++ [newR (List.replicate 24 (v8 0#8)) 117]) S.length = some (newR (List.replicate 24 (v8 0#8)) 117) := row_push_new rfl
  have hc := Cons.push S (newR (List.replicate 24 (v8 0#8)) 117)
  generalize S ++ [newR (List.replicate 24 (v8 0#8)) 117] = T at *
  obtain ⟨b, hb0⟩ : ∃ b, b = S.length := ⟨_, rfl⟩
  rw [← hb0] at hr ⊢
  repeat first|refine W.g ?_|refine L.p rfl rfl ?_|refine L.nil ?_|refine L.skip rfl ?_
  refine L.cl (numDigits_C u (by omega) hu T (hP.cons hc)) rfl rfl ?_
  rintro _ _ ⟨rfl, rfl⟩
  refine ⟨nofun, ?_⟩
  rename Mem => T
  repeat first|refine W.g ?_|refine L.p rfl rfl ?_|refine L.nil ?_|refine L.skip rfl ?_
  have hsl : aslice 1 (some ⟨b, 0, none⟩) 24 24 none (some (vi (dec u).length)) none = some (.slice (some ⟨b, 0, none⟩) (dec u).length 24) := aslice_to (a := some ⟨b, 0, none⟩) (n := 24) (c := 24) (h := (dec u).length) (kd := .i64) rfl (by show _ ≤ 24; omega) nofun
  refine L.is (.slice (some ⟨b, 0, none⟩) (dec u).length 24) ((slice_arr (n := 24) rfl rfl rfl (by decide)).trans hsl) rfl ?_
  repeat first|refine W.g ?_|refine L.p rfl rfl ?_|refine L.nil ?_|refine L.skip rfl ?_
  refine L.cl (fb10_C b (dec u).length 24 u _ T hr rfl (by show _ ≤ (List.replicate 24 (v8 0#8)).length; rw [List.length_replicate]; omega) hnd hu hu2) rfl rfl ?_
  rintro _ T2 ⟨hk, cs, hr2, hcl, hct⟩
  refine ⟨nofun, ?_⟩
  rw [hdp] at hct
  have hk2 : Cons S T2 := hk.mono hc (by omega)
  repeat first|refine W.g ?_|refine L.p rfl rfl ?_|refine L.nil ?_|refine L.skip rfl ?_
  refine L.is (.slice (some ⟨b, 0, none⟩) (dec u).length 24) ((slice_arr (n := 24) rfl rfl rfl (by decide)).trans hsl) rfl ?_
  repeat first|refine W.g ?_|refine L.p rfl rfl ?_|refine L.nil ?_|refine L.skip rfl ?_
  refine L.text2 (l := dec u) rfl hr2 rfl rfl (by show _ ≤ cs.length; rw [hcl]; show _ ≤ (List.replicate 24 (v8 0#8)).length; rw [List.length_replicate]; omega) hct rfl rfl rfl rfl ?_
  repeat first|refine W.g ?_|refine L.p rfl rfl ?_|refine L.nil ?_|refine L.skip rfl ?_
  exact ⟨.inr rfl, _, rfl, rfl, hk2⟩
theorem formatUint_C (u : Nat) (hu : u < 18446744073709551616) (S : Mem) (hP : PowOk S) : C Tryz.prog gN Ext 79 [.int .u64 (u : Int), vi 10] S fun v S' => v = .string (strB (dec u)) ∧ Cons S S' := by
  refine C.fn Tryz.func79 rfl (by kernel_rfl) rfl ?_
  repeat first|refine W.g ?_|refine L.p rfl rfl ?_|refine L.nil ?_|refine L.skip rfl ?_
  refine L.cl (formatUint0_C u hu S hP) rfl rfl ?_
  rintro _ S2 ⟨rfl, hk⟩
  refine ⟨fun _ => hk, ?_⟩
  repeat first|refine W.g ?_|refine L.p rfl rfl ?_|refine L.nil ?_|refine L.skip rfl ?_
  exact ⟨.inr rfl, _, rfl, rfl, hk⟩
end Go.Proofs.YtbdnkneedengcaaGreatDoor

/- Layer 1: a number's text. Conditions: the powers of ten lie in memory. -/
set_option linter.unusedSimpArgs false
set_option linter.unusedVariables false
set_option maxRecDepth 100000
set_option maxHeartbeats 4000000
set_option exponentiation.threshold 20000
namespace Go.Proofs.YtbdnkneedengcaaGreatDoor
open Go Ie
variable {Ext : FuncId → List Value → Mem → Outc → Mem → Prop}
def textL (l : WL) : BL := if small l then dec (wnum l) else []
def textE (l : WL) : Int := if small l then 0 else 3
/-- one limb of a division by a word -/
theorem short_step {N ten rest j : Nat} {f : WL} {x q : BitVec 64} (hx : f[j]? = some x) (hq : q.toNat = (rest * 18446744073709551616 + x.toNat) / ten)
    (h : N = ten * (2 ^ (64 * (j + 1)) * wnum (f.drop (j + 1))) + rest * 2 ^ (64 * (j + 1)) + wnum (f.take (j + 1))) :
    N = ten * (2 ^ (64 * j) * wnum ((f.set j q).drop j)) + (rest * 18446744073709551616 + x.toNat) % ten * 2 ^ (64 * j) + wnum ((f.set j q).take j) := by
  have hlt := (List.getElem?_eq_some_iff.1 hx).1
  have h1 : (f.set j q).drop j = q :: f.drop (j + 1) := by
    rw [List.drop_eq_getElem_cons (by rw [List.length_set]; exact hlt), List.getElem_set_self, List.drop_set_of_lt (Nat.lt_succ_self j)]
  have h2 : (f.set j q).take j = f.take j := by rw [List.take_set_of_le (Nat.le_refl j)]
  rw [h1, h2, wnum, hq]
  rw [h, wnum_take_succ hx, pow64_succ]
  have hd := Nat.div_add_mod (rest * 18446744073709551616 + x.toNat) ten
  generalize (rest * 18446744073709551616 + x.toNat) / ten = Q at *
  generalize (rest * 18446744073709551616 + x.toNat) % ten = R at *
  generalize 2 ^ (64 * j) = P at *
  generalize wnum (f.drop (j + 1)) = H at *
  have e1 : ten * (P * (Q + 18446744073709551616 * H)) = ten * (P * 18446744073709551616 * H) + P * (ten * Q) := by
    rw [Nat.mul_add P, Nat.mul_add ten, ← Nat.mul_assoc P, Nat.mul_left_comm ten P Q]; omega
  have e2 : P * (ten * Q) + R * P = rest * (P * 18446744073709551616) + P * x.toNat := by
    rw [Nat.mul_comm R, ← Nat.mul_add, hd, Nat.mul_add, ← Nat.mul_assoc, Nat.mul_comm P rest, Nat.mul_assoc]
  omega
theorem flat_ge {ps : List BL} (h : ∀ p ∈ ps, p ≠ []) : ps.length ≤ ps.flatten.length := by
  induction ps with
  | nil => simp
  | cons p ps ih =>
    have h1 := ih (fun q hq => h q (List.mem_cons_of_mem _ hq))
    have h2 : 0 < p.length := List.length_pos_iff.2 (h p List.mem_cons_self)
    rw [List.length_cons, List.flatten_cons, List.length_append]
    omega
theorem dec_bound {n : Nat} (h : n < 2 ^ 8192) : (dec n).length ≤ 2467 := by
  obtain ⟨k, k1, k2, k3, k4⟩ := dec_of_len (n := n)
  rw [k1]
  rcases k3 with rfl | k3
  · omega
  · refine Classical.byContradiction fun hc => ?_
    have h1 : 10 ^ 2467 ≤ 10 ^ k := Nat.pow_le_pow_right (by decide) (by omega)
    have h2 : 2 ^ 8192 ≤ 10 ^ 2467 := by decide +kernel
    omega
theorem wnum_pos_of {f : WL} (h : Canon f) (hl : 0 < f.length) : 0 < wnum f := by
  refine Nat.pos_of_ne_zero fun e => ?_
  have := toW_wnum h
  rw [e, toW_zero] at this
  rw [← this] at hl
  simp at hl
theorem natText_C (a : Option Addr) (c : Nat) (l : WL) (S : Mem) (hI : WIn S a c l) (hP : PowOk S) :
    C Tryz.prog gN Ext 31 [.slice a l.length c] S fun v S' => v = .tuple #[.string (strB (textL l)), .int .i64 (textE l)] ∧ Cons S S' := by
  refine C.fn Tryz.func31 rfl (by kernel_rfl) rfl ?_
  repeat first|refine W.g ?_|refine L.p rfl rfl ?_|refine L.nil ?_|refine L.skip rfl ?_
  refine L.bs [WS.v ⟨a, c, l⟩] rfl rfl rfl rfl rfl rfl ?_
  have hc : Cons S (S ++ [newR [WS.v ⟨a, c, l⟩] 22]) := Cons.push _ _
  have hs : Slv (S ++ [newR [WS.v ⟨a, c, l⟩] 22]) 1 (.slice (some ⟨S.length, 0, none⟩) 1 1) 1 ([WS.mk a c l].map WS.v) := Slv.all (row_push_new rfl) rfl rfl
  generalize S ++ [newR [WS.v ⟨a, c, l⟩] 22] = S1 at *
  refine L.cl (fit_C _ [⟨a, c, l⟩] S1 hs (fun w hw => by simp at hw; subst hw; exact hI.cons hc) (by simp)) rfl rfl ?_
  rintro _ _ ⟨rfl, rfl⟩
  refine ⟨nofun, ?_⟩
  repeat first|refine W.g ?_|refine L.p rfl rfl ?_|refine L.nil ?_|refine L.skip rfl ?_
  refine W.ite rfl (fun h => ?_) (fun h => ?_)
  · have hsm : small l = false := by simpa using h
    repeat first|refine W.g ?_|refine L.p rfl rfl ?_|refine L.nil ?_|refine L.skip rfl ?_
    exact ⟨.inr rfl, _, rfl, by unfold textL textE; rw [hsm]; rfl, hc⟩
  have hsm : small l = true := by simpa using h
  clear h
  rename Mem => S1
  have hI1 := hI.cons hc
  have hN : wnum l < 2 ^ 8192 := by
    have : (toW (wnum l)).length ≤ 128 := of_decide_eq_true hsm
    exact (toW_len _ 128).1 this
  have hdb := dec_bound hN
  repeat first|refine W.g ?_|refine L.p rfl rfl ?_|refine L.nil ?_|refine L.skip rfl ?_
  refine L.cl (trim_C a c l _ hI1) rfl rfl ?_
  rintro _ _ ⟨rfl, rfl⟩
  refine ⟨nofun, ?_⟩
  refine L.cl (clone_C a c (fm l) _ hI1.form) rfl rfl ?_
  rintro _ S2 ⟨d, rfl, hR⟩
  refine ⟨fun _ => hR.1, ?_⟩
  obtain ⟨hO, hv⟩ := hR.own
  have hk2 := hc.trans hR.1
  rw [hv]
  repeat first|refine W.g ?_|refine L.p rfl rfl ?_|refine L.nil ?_|refine L.skip rfl ?_
  refine W.ite rfl (fun h => ?_) (fun h => ?_)
  · have h0 : wnum l = 0 := (fm_nil l).1 (by have := eq_of_beq h; omega)
    clear h
    repeat first|refine W.g ?_|refine L.p rfl rfl ?_|refine L.nil ?_|refine L.skip rfl ?_
    exact ⟨.inr rfl, _, rfl, by unfold textL textE; rw [hsm, h0, if_pos rfl, if_pos rfl, dec_small (by decide)]; rfl, hk2⟩
  have hlp : 0 < (fm l).length := Nat.pos_of_ne_zero fun e => by rw [e] at h; cases h
  clear h
  obtain ⟨b, hb⟩ : ∃ b, d.a = some b := by
    cases hd : d.a with
    | some b => exact ⟨b, rfl⟩
    | none =>
      obtain ⟨h1, ⟨_, h3, _⟩ | ⟨b, r, h2, _⟩⟩ := hR.2.2.1
      · rw [wv_len] at h1; omega
      · rw [hd] at h2; cases h2
  have hbS : S.length ≤ b := by have := hR.2.2.2 b hb; have := hc.len; omega
  have hcap := hO.1.2.1
  obtain ⟨r0, hr0, hro0, hrl0, hrt0⟩ : ∃ r, S2.row? b = some r ∧ r.ro = none ∧ (fm l).length ≤ r.cells.length ∧ r.cells.take (fm l).length = wv (fm l) := by
    obtain ⟨h1, ⟨h2, _⟩ | ⟨b', r, h2, h3, h4, h5, h6, _⟩⟩ := hR.2.2.1
    · rw [hb] at h2; cases h2
    · rw [hb] at h2; cases h2
      rw [wv_len] at h1
      rw [← h1] at h5 h6
      exact ⟨r, h3, h4, h5, h6⟩
  have hda : d.ad = some ⟨b, 0, none⟩ := by unfold Hd.ad; rw [hb]; rfl
  rw [hda]
  obtain ⟨cc, hcc⟩ : ∃ cc, cc = d.c := ⟨_, rfl⟩
  rw [← hcc] at hcap ⊢
  have hlen0 : (fm l).length ≤ 128 := of_decide_eq_true hsm
  clear hR hO hv hda hs hI1
  repeat first|refine W.g ?_|refine L.p rfl rfl ?_|refine L.nil ?_|refine L.skip rfl ?_
  refine W.loop (fun k e T => ∃ (f : WL) (r : Row) (ps : List BL) (d : Hd), k = wnum f ∧ e 4 = .slice (some ⟨b, 0, none⟩) f.length cc ∧ e 5 = d.v ∧ Cons S T ∧ T.row? b = some r ∧ r.ro = none ∧ f.length ≤ r.cells.length ∧ r.cells.take f.length = wv f ∧ Canon f ∧ f.length ≤ knownCap cc ∧ f.length ≤ 128 ∧
      HdOk T 9 d (tv ps) ∧ (∀ x, d.a = some x → S.length ≤ x ∧ x ≠ b) ∧ (ps = [] ∨ d.c = UNK + d.n) ∧ (f = [] → ps ≠ []) ∧ (∀ p ∈ ps, p ≠ []) ∧ dec (wnum l) = (if f = [] then [] else dec (wnum f)) ++ ps.reverse.flatten) (wnum (fm l))
    ⟨fm l, r0, [], Hd0, rfl, rfl, rfl, hk2, hr0, hro0, hrl0, hrt0, canon_toW _, hcap, hlen0, HdOk.nil _ _, nofun, .inl rfl, (fun e => by rw [e] at hlp; simp at hlp), (fun p hp => by simp at hp), by rw [if_neg (fun e => by rw [e] at hlp; simp at hlp), show wnum (fm l) = wnum l from wnum_toW _]; simp⟩ ?_
  clear hr0 hro0 hrl0 hrt0 hk2 hcap hb hlp hlen0 hcc
  rintro k e T ⟨f, r, ps, d, rfl, e4, e5, hk, hr, hro, hrl, hrt, hcan, hcap, hlen, hd, hda, hdc, hfps, hne, hdec⟩
  refine W.env2 e4 e5 ?_
  have hflat : ps.reverse.flatten.length ≤ 2467 := by rw [hdec, List.length_append] at hdb; omega
  have hpsl : ps.length ≤ 2467 := by
    have := flat_ge (ps := ps.reverse) (fun p hp => hne p (List.mem_reverse.1 hp))
    rw [List.length_reverse] at this
    omega
  have hdn : ps.length = d.n := by have := hd.len; rw [tv_len] at this; exact this
  repeat first|refine W.g ?_|refine L.p rfl rfl ?_|refine L.nil ?_|refine L.skip rfl ?_
  refine W.ite rfl (fun h => ?_) (fun h => ?_)
  rotate_left
  · have hf : f = [] := List.length_eq_zero_iff.1 (by have := of_decide_eq_false h; omega)
    clear h
    subst hf
    rw [if_pos rfl, List.nil_append] at hdec
    have hps := hfps rfl
    have hcu : d.c = UNK + d.n := hdc.resolve_left hps
    obtain ⟨x, hx⟩ : ∃ x, d.a = some x := by
      cases hd2 : d.a with
      | some b => exact ⟨b, rfl⟩
      | none =>
        obtain ⟨h1, ⟨_, h3, _⟩ | ⟨b, r, h2, _⟩⟩ := hd
        · exfalso
          have : ps = [] := List.length_eq_zero_iff.1 (by omega)
          exact hps this
        · rw [hd2] at h2; cases h2
    have hrow : T.row? x = some (grownR (tv ps) 9 1) := by
      obtain ⟨h1, ⟨h2, _⟩ | ⟨b', r', h2, h3, h4, h5, h6, ⟨h7, h8⟩ | ⟨h7, h8⟩⟩⟩ := hd
      · rw [hx] at h2; cases h2
      · unfold UNK at *; omega
      · rw [hx] at h2; cases h2
        rw [h3, h8]
    have hdv : d.v = .slice (some ⟨x, 0, none⟩) d.n (UNK + d.n) := by unfold Hd.v; rw [hx, hcu]; rfl
    rw [hdv]
    repeat first|refine W.g ?_|refine L.p rfl rfl ?_|refine L.nil ?_|refine L.skip rfl ?_
    refine L.cl (reverse_C x d.n (UNK + d.n) ps T hrow hdn (by omega)) rfl rfl ?_
    rintro _ T2 ⟨kT2, hrow2⟩
    refine ⟨nofun, ?_⟩
    have hk2 : Cons S T2 := kT2.mono hk (hda x hx).1
    repeat first|refine W.g ?_|refine L.p rfl rfl ?_|refine L.nil ?_|refine L.skip rfl ?_
    refine L.cl (join_C (some ⟨x, 0, none⟩) (UNK + d.n) d.n ps.reverse T2 (Slv.all hrow2 rfl (by rw [tv_len, List.length_reverse]; omega)) (by rw [List.length_reverse]; exact hdn) (.inr ⟨Nat.le_add_right _ _, by rw [knownCap_unk]; exact Nat.le_refl _⟩) (by omega) (by omega) (fun p hp => hne p (List.mem_reverse.1 hp))) rfl rfl ?_
    rintro _ T3 ⟨rfl, kT3⟩
    refine ⟨nofun, ?_⟩
    repeat first|refine W.g ?_|refine L.p rfl rfl ?_|refine L.nil ?_|refine L.skip rfl ?_
    exact ⟨.inr rfl, _, rfl, by unfold textL textE; rw [hsm, if_pos rfl, if_pos rfl, hdec]; rfl, hk2.trans kT3⟩
  have hfl : 0 < f.length := by have := of_decide_eq_true h; omega
  clear h
  have hfne : f ≠ [] := fun e => by rw [e] at hfl; simp at hfl
  rw [if_neg hfne] at hdec
  have hpos := wnum_pos_of hcan hfl
  repeat first|refine W.g ?_|refine L.p rfl rfl ?_|refine L.nil ?_|refine L.skip rfl ?_
  refine W.mono (R := fun x e' T' => x = .exit 2 ∧ ∃ (f2 : WL) (r2 : Row) (rest : Nat), e' 4 = .slice (some ⟨b, 0, none⟩) f.length cc ∧ e' 5 = d.v ∧ e' 6 = .int .u64 (rest : Int) ∧ Keep b T T' ∧ T'.row? b = some r2 ∧ r2.ro = none ∧ f.length ≤ r2.cells.length ∧ r2.cells.take f.length = wv f2 ∧ f2.length = f.length ∧ rest < 10000000000000000000 ∧ wnum f = 10000000000000000000 * wnum f2 + rest) ?_ ?_
  · refine W.loop (fun i e' T' => ∃ (f2 : WL) (r2 : Row) (rest : Nat), i ≤ f.length ∧ e' 4 = .slice (some ⟨b, 0, none⟩) f.length cc ∧ e' 5 = d.v ∧ e' 6 = .int .u64 (rest : Int) ∧ e' 7 = .int .i64 ((i : Int) - 1) ∧ Keep b T T' ∧ T'.row? b = some r2 ∧ r2.ro = none ∧ f.length ≤ r2.cells.length ∧ r2.cells.take f.length = wv f2 ∧ f2.length = f.length ∧ rest < 10000000000000000000 ∧
        wnum f = 10000000000000000000 * (2 ^ (64 * i) * wnum (f2.drop i)) + rest * 2 ^ (64 * i) + wnum (f2.take i)) f.length
      ⟨f, r, 0, Nat.le_refl _, rfl, rfl, rfl, congrArg (Value.int .i64) (wrap64 (by omega) (by omega)), Keep.refl _ _, hr, hro, hrl, hrt, rfl, by decide, by rw [List.drop_length, List.take_length]; simp [wnum]⟩ ?_
    rintro i e T' ⟨f2, r2, rest, hi, e4, e5, e6, e7, kT, hr2, hro2, hrl2, hrt2, hf2l, hrest, hinv⟩
    refine W.env4 e4 e5 e6 e7 ?_
    repeat first|refine W.g ?_|refine L.p rfl rfl ?_|refine L.nil ?_|refine L.skip rfl ?_
    refine W.ite rfl (fun h => ?_) (fun h => ?_)
    · have hi1 : 1 ≤ i := by have := of_decide_eq_true h; omega
      clear h
      obtain ⟨j, rfl⟩ : ∃ j, i = j + 1 := ⟨i - 1, by omega⟩
      have hm : (((j + 1 : Nat) : Int) - 1) = (j : Int) := by omega
      rw [hm]
      obtain ⟨x, hx⟩ : ∃ x, f2[j]? = some x := ⟨_, List.getElem?_eq_getElem (by omega)⟩
      have hsl : Slv T' 1 (.slice (some ⟨b, 0, none⟩) f.length cc) f.length (wv f2) := by
        have := Slv.of (sz := 1) (n := f.length) (o := 0) (c := cc) hr2 (by omega) (.inl hro2)
        rwa [List.drop_zero, Nat.mul_one, hrt2] at this
      obtain ⟨q, hq⟩ := word_of (n := (rest * 18446744073709551616 + x.toNat) / 10000000000000000000) (Nat.div_lt_of_lt_mul (by have := x.isLt; omega))
      have hst := short_step (ten := 10000000000000000000) hx hq hinv
      repeat first|refine W.g ?_|refine L.p rfl rfl ?_|refine L.nil ?_|refine L.skip rfl ?_
      refine L.el hsl (k := j) rfl (wv_get hx) rfl rfl rfl rfl (fun _ => rfl) rfl (fun p => ?_)
      repeat first|refine W.g ?_|refine L.p rfl rfl ?_|refine L.nil ?_|refine L.skip rfl ?_
      refine L.cl (div64_C rest x.toNat 10000000000000000000 T' hrest x.isLt (by decide)) rfl rfl ?_
      rintro _ T5 ⟨rfl, hT5⟩
      have hT5 := hT5.symm
      subst hT5
      refine ⟨nofun, ?_⟩
      repeat first|refine W.g ?_|refine L.p rfl rfl ?_|refine L.nil ?_|refine L.skip rfl ?_
      rw [← hq]
      refine L.elst hr2 hro2 (by omega) (k := j) rfl (by omega) rfl rfl rfl rfl (fun _ => rfl) (fun _ => rfl) rfl rfl rfl (fun p => ?_)
      have hst2 : r2.st = .live := (Mem.row?_some hr2).2
      have hr3 : Mem.row? (List.set T' b { r2 with cells := r2.cells.set (0 + j) (v64 q) }) b = some { r2 with cells := r2.cells.set (0 + j) (v64 q) } := row_set_same hr2 hst2
      have kT3 := kT.trans (Keep.set b T' { r2 with cells := r2.cells.set (0 + j) (v64 q) })
      generalize List.set T' b _ = T6 at *
      repeat first|refine W.g ?_|refine L.p rfl rfl ?_|refine L.nil ?_|refine L.skip rfl ?_
      refine ⟨j, by omega, f2.set j q, _, (rest * 18446744073709551616 + x.toNat) % 10000000000000000000, by omega, rfl, rfl, rfl, congrArg (Value.int .i64) (wrap64 (by omega) (by omega)), kT3, hr3, hro2, ?_, ?_, by simpa using hf2l, Nat.mod_lt _ (by decide), hst⟩
      · show f.length ≤ (r2.cells.set (0 + j) (v64 q)).length
        rw [List.length_set]; exact hrl2
      · show (r2.cells.set (0 + j) (v64 q)).take f.length = _
        rw [List.take_set, hrt2, Nat.zero_add]
        unfold wv
        rw [List.map_set]
    · have hi0 : i = 0 := by have := of_decide_eq_false h; omega
      subst hi0
      clear h
      rw [Nat.mul_zero, Nat.pow_zero, Nat.one_mul, Nat.mul_one, List.drop_zero, List.take_zero] at hinv
      repeat first|refine W.g ?_|refine L.p rfl rfl ?_|refine L.nil ?_|refine L.skip rfl ?_
      exact ⟨rfl, f2, r2, rest, rfl, rfl, rfl, kT, hr2, hro2, hrl2, hrt2, hf2l, hrest, by simpa [wnum] using hinv⟩
  rintro _ e' T' ⟨rfl, f2, r2, rest, e4, e5, e6, kT, hr2, hro2, hrl2, hrt2, hf2l, hrest, hsum⟩
  refine W.env3 e4 e5 e6 ?_
  have hk' : Cons S T' := kT.mono hk hbS
  have hd' := hd.keep (bs := [b]) (kT.keepL (by simp)) (fun x hx => by have := (hda x hx).2; simpa using this)
  have hI2 : WIn T' (some ⟨b, 0, none⟩) cc f2 := by
    refine ⟨?_, by omega, nofun, by omega⟩
    have := Slv.of (sz := 1) (n := f.length) (o := 0) (c := cc) hr2 (by omega) (.inl hro2)
    rw [List.drop_zero, Nat.mul_one, hrt2] at this
    rw [hf2l]; exact this
  have hfw : wnum (fm f2) = wnum f2 := wnum_toW _
  have hfl2 : (fm f2).length ≤ f2.length := toW_len_le f2
  have htk : r2.cells.take (fm f2).length = wv (fm f2) := by
    have h1 : (r2.cells.take f.length).take (fm f2).length = (wv f2).take (fm f2).length := by rw [hrt2]
    rw [List.take_take, Nat.min_eq_left (by omega)] at h1
    rw [h1, wv, ← List.map_take, toW_take]; rfl
  repeat first|refine W.g ?_|refine L.p rfl rfl ?_|refine L.nil ?_|refine L.skip rfl ?_
  refine L.cl (trim_C (some ⟨b, 0, none⟩) cc f2 T' hI2) rfl (by rw [hf2l]; rfl) ?_
  rintro _ _ ⟨rfl, rfl⟩
  refine ⟨nofun, ?_⟩
  rename Mem => T'
  repeat first|refine W.g ?_|refine L.p rfl rfl ?_|refine L.nil ?_|refine L.skip rfl ?_
  refine L.cl (formatUint_C rest (by omega) T' (hP.cons hk')) rfl rfl ?_
  rintro _ T2 ⟨rfl, kT2⟩
  refine ⟨fun _ => kT2, ?_⟩
  have hr22 := kT2.row' hr2
  have hd2 := hd'.cons kT2
  repeat first|refine W.g ?_|refine L.p rfl rfl ?_|refine L.nil ?_|refine L.skip rfl ?_
  refine W.ite rfl (fun h => ?_) (fun h => ?_)
  · have hl2 : 0 < (fm f2).length := by have := of_decide_eq_true h; omega
    clear h
    have hw2 : wnum f2 ≠ 0 := fun e => by have := (fm_nil f2).2 e; omega
    have e19 : rest < 10 ^ 19 := by
      have e : (10 : Nat) ^ 19 = 10000000000000000000 := by decide
      rw [e]; exact hrest
    obtain ⟨hle, hfill⟩ := dec_fill (n := rest) (k := 19) e19 (by decide)
    have hsne : pad 19 rest ≠ [] := fun e => by have := pad_len 19 rest; rw [e] at this; simp at this
    have hdd : dec (wnum f) = (if fm f2 = [] then [] else dec (wnum (fm f2))) ++ pad 19 rest := by
      have e : (10 : Nat) ^ 19 = 10000000000000000000 := by decide
      rw [if_neg (fun e => by rw [e] at hl2; simp at hl2), hfw, dec_split (k := 19) (n := wnum f) (by rw [e, hsum]; omega), ← pad_mod 19 (wnum f), e, hsum]
      congr 2
      · omega
      · omega
    repeat first|refine W.g ?_|refine L.p rfl rfl ?_|refine L.nil ?_|refine L.skip rfl ?_
    refine L.tlen rfl rfl rfl rfl ?_
    repeat first|refine W.g ?_|refine L.p rfl rfl ?_|refine L.nil ?_|refine L.skip rfl ?_
    refine L.cl (repeat0_C (19 - (dec rest).length) (by omega) T2) rfl ((show acall _ _ = some (_, [_, .int .i64 (IntKind.i64.wrap (19 - ((dec rest).length : Int)))]) from rfl).trans (by rw [wrap64 (by omega) (by omega), show (19 - ((dec rest).length : Int)) = ((19 - (dec rest).length : Nat) : Int) by omega]; rfl)) ?_
    rintro _ _ ⟨rfl, rfl⟩
    refine ⟨nofun, ?_⟩
    rename Mem => T2
    repeat first|refine W.g ?_|refine L.p rfl rfl ?_|refine L.nil ?_|refine L.skip rfl ?_
    refine L.tadd rfl rfl (by rw [List.length_replicate]; omega) rfl ?_
    rw [hfill]
    repeat first|refine W.g ?_|refine L.p rfl rfl ?_|refine L.nil ?_|refine L.skip rfl ?_
    refine L.pushC (w := .string (strB (pad 19 rest))) rfl hd2 rfl rfl rfl rfl rfl (by omega) rfl (fun _ => rfl) ?_
    rintro p h' T3 u1 u2 uc ⟨b', u3, u5⟩ u4
    have hnb : b ∉ d.a.toList := fun hm => (hda b (by simpa using hm)).2 rfl
    have hr3 := u4.row hr22 hnb
    have hk3 : Cons S T3 := u4.cons0 (hk'.trans kT2) (fun x hx => (hda x (by simpa using hx)).1)
    have hb2 := row_lt hr22
    have hln := (hk'.trans kT2).len
    repeat first|refine W.g ?_|refine L.p rfl rfl ?_|refine L.nil ?_|refine L.skip rfl ?_
    refine ⟨wnum (fm f2), by rw [hfw]; omega, fm f2, r2, ps ++ [(pad 19 rest)], h', rfl, rfl, rfl, hk3, hr3, hro2, by omega, htk, canon_toW _, by omega, by omega, by rw [tv, List.map_append]; exact u1, fun x hx => by rw [u3] at hx; cases hx; exact ⟨by omega, by omega⟩, .inr uc, fun _ => by simp, fun q hq => ?_, ?_⟩
    · rcases List.mem_append.1 hq with h | h
      · exact hne q h
      · rw [List.mem_singleton] at h; rw [h]; exact hsne
    · rw [List.reverse_append, List.flatten_append, hdec]
      show _ = _ ++ ((([(pad 19 rest)] : List BL).reverse).flatten ++ _)
      rw [show (([(pad 19 rest)] : List BL).reverse).flatten = (pad 19 rest) by simp, ← List.append_assoc, hdd]
  · have hl2 : (fm f2).length = 0 := by have := of_decide_eq_false h; omega
    clear h
    have hw2 : wnum f2 = 0 := (fm_nil f2).1 hl2
    have hsne : dec rest ≠ [] := fun e => by have := dec_len_pos rest; rw [e] at this; simp at this
    have hdd : dec (wnum f) = (if fm f2 = [] then [] else dec (wnum (fm f2))) ++ dec rest := by
      rw [if_pos (List.length_eq_zero_iff.1 hl2), hsum, hw2, Nat.mul_zero, Nat.zero_add]; rfl
    repeat first|refine W.g ?_|refine L.p rfl rfl ?_|refine L.nil ?_|refine L.skip rfl ?_
    refine L.pushC (w := .string (strB (dec rest))) rfl hd2 rfl rfl rfl rfl rfl (by omega) rfl (fun _ => rfl) ?_
    rintro p h' T3 u1 u2 uc ⟨b', u3, u5⟩ u4
    have hnb : b ∉ d.a.toList := fun hm => (hda b (by simpa using hm)).2 rfl
    have hr3 := u4.row hr22 hnb
    have hk3 : Cons S T3 := u4.cons0 (hk'.trans kT2) (fun x hx => (hda x (by simpa using hx)).1)
    have hb2 := row_lt hr22
    have hln := (hk'.trans kT2).len
    repeat first|refine W.g ?_|refine L.p rfl rfl ?_|refine L.nil ?_|refine L.skip rfl ?_
    refine ⟨wnum (fm f2), by rw [hfw]; omega, fm f2, r2, ps ++ [(dec rest)], h', rfl, rfl, rfl, hk3, hr3, hro2, by omega, htk, canon_toW _, by omega, by omega, by rw [tv, List.map_append]; exact u1, fun x hx => by rw [u3] at hx; cases hx; exact ⟨by omega, by omega⟩, .inr uc, fun _ => by simp, fun q hq => ?_, ?_⟩
    · rcases List.mem_append.1 hq with h | h
      · exact hne q h
      · rw [List.mem_singleton] at h; rw [h]; exact hsne
    · rw [List.reverse_append, List.flatten_append, hdec]
      show _ = _ ++ ((([(dec rest)] : List BL).reverse).flatten ++ _)
      rw [show (([(dec rest)] : List BL).reverse).flatten = (dec rest) by simp, ← List.append_assoc, hdd]
end Go.Proofs.YtbdnkneedengcaaGreatDoor

/- Lists of limbs that are handed out to be read. Conditions: none. -/
set_option linter.unusedSimpArgs false
set_option linter.unusedVariables false
set_option maxRecDepth 100000
namespace Go.Proofs.YtbdnkneedengcaaGreatDoor
open Go
/-- a list that comes in, of any length -/
def WPre (S : Mem) (a : Option Addr) (c : Nat) (l : WL) : Prop := Slv S 1 (.slice a l.length c) l.length (wv l) ∧ l.length ≤ knownCap c ∧ (a = none → c = 0)
theorem WPre.win {S : Mem} {a : Option Addr} {c : Nat} {l : WL} (h : WPre S a c l) (hl : l.length < 1099511627776) : WIn S a c l := ⟨h.1, h.2.1, h.2.2, hl⟩
/-- a list that a reference hands out -/
def RefW (S S' : Mem) (v : Value) (l : WL) : Prop := Cons S S' ∧ ∃ a c, v = .slice a l.length c ∧ WIn S' a c l
theorem grow_win {N : Nat} {S : Mem} {el : TypeId} {a : Option Addr} {c : Nat} {l : WL} (h : Grow N S el 1 (.slice a l.length c) l.length (wv l)) (hl : l.length < 1099511627776) : WIn S a c l := by
  refine ⟨h.slv, ?_, ?_, hl⟩
  · obtain ⟨h1, ⟨hv, h0⟩ | ⟨b, hb, hv, hr⟩⟩ := h
    · rw [h0]; exact Nat.zero_le _
    · cases hv; rw [knownCap_unk]; exact Nat.le_refl _
  · intro ha
    obtain ⟨h1, ⟨hv, h0⟩ | ⟨b, hb, hv, hr⟩⟩ := h
    · injection hv
    · rw [ha] at hv; injection hv with e1; cases e1
section
variable {P : Program} {G : Nat} {Ext : FuncId → List Value → Mem → Outc → Mem → Prop} {e : Env} {S : Mem} {fl : Bool} {ops : Array Oper} {K : Kont}
variable {rest : List Oper} {dst : Option Tmp} {ty : TypeId} {pos : String} {af : Array Edge} {gd : Option (Nat × Bool)}
/-- limbs written down -/
theorem L.bsW {t : TypeId} {len : Nat} {parts : Array (Nat × Operand)} (l : WL) (hb : bldOk P t = some (55, 1)) (hl : len = l.length) (hsm : Nat.ble len 16777216 = true)
    (hp : parts.toList.map (fun p => (p.1, e.eval p.2)) = ((wv l).zipIdx 0).map fun p => (p.2, p.1)) (hlen : Nat.ble l.length 1000 = true) (hw : awanted ops ⟨dst, .buildSlice t len parts, ty, pos, af, gd⟩ e = true)
    (h : ∀ b T, Cons S T → WIn T (some ⟨b, 0, none⟩) l.length l → L P G Ext fl ops rest (e.put dst (.slice (some ⟨b, 0, none⟩) l.length l.length)) T K) :
    L P G Ext fl ops (⟨dst, .buildSlice t len parts, ty, pos, af, gd⟩ :: rest) e S K := by
  subst hl
  have hlen := Nat.le_of_ble_eq_true hlen
  have hr : Mem.row? (S ++ [newR (wv l) 55]) S.length = some (newR (wv l) 55) := row_push_new rfl
  refine L.bs (wv l) hb (wv_len l).symm hsm hp (wv_one l) hw (h S.length _ (Cons.push _ _) ⟨Slv.all hr rfl (by rw [wv_len, Nat.mul_one]), ?_, nofun, by omega⟩)
  unfold knownCap
  rw [if_pos (by unfold UNK; omega)]
  exact Nat.le_refl _
end
end Go.Proofs.YtbdnkneedengcaaGreatDoor

/- Layer 1: what the statements call besides. Conditions: the tables lie in memory. -/
set_option linter.unusedSimpArgs false
set_option linter.unusedVariables false
set_option maxRecDepth 100000
set_option maxHeartbeats 4000000
set_option exponentiation.threshold 20000
namespace Go.Proofs.YtbdnkneedengcaaGreatDoor
open Go Ie
variable {Ext : FuncId → List Value → Mem → Outc → Mem → Prop}
/-! ### the limits, by numbers -/
theorem small_num (l : WL) : small l = decide (wnum l < 2 ^ 8192) := by
  unfold small
  exact decide_eq_decide.2 (toW_len (wnum l) 128)
theorem small_of {l : WL} (h : wnum l < 2 ^ 8192) : small l = true := by rw [small_num]; exact decide_eq_true h
theorem told_num {N : Nat} (h : N < 2 ^ 8192) : toldL (toW N) = toW N ∧ toldE (toW N) = 0 := by
  have hs : small (toW N) = true := small_of (by rw [wnum_toW]; exact h)
  unfold toldL toldE
  rw [hs, if_pos rfl, if_pos rfl]
  exact ⟨by unfold fm; rw [wnum_toW], rfl⟩
theorem mul_num {l1 l2 : WL} (h1 : wnum l1 < 2 ^ 8192) (h2 : wnum l2 < 2 ^ 8192) (h : wnum l1 * wnum l2 < 2 ^ 8192) : mulL l1 l2 = toW (wnum l1 * wnum l2) ∧ mulE l1 l2 = 0 := by
  unfold mulL mulE
  rw [small_of h1, small_of h2]
  exact told_num h
theorem sub_below {l1 l2 : WL} (h1 : wnum l1 < 2 ^ 8192) (h2 : wnum l2 < 2 ^ 8192) (h : wnum l1 < wnum l2) : subL l1 l2 = [] ∧ subE l1 l2 = 10 := by
  unfold subL subE
  rw [small_of h1, small_of h2]
  simp only [Bool.and_self, if_true]
  rw [if_pos h, if_pos h]
  exact ⟨rfl, rfl⟩
theorem div_num {l1 l2 : WL} (h1 : wnum l1 < 2 ^ 8192) (h2 : wnum l2 < 2 ^ 8192) (h : wnum l2 ≠ 0) : divQ l1 l2 = toW (wnum l1 / wnum l2) ∧ divM l1 l2 = toW (wnum l1 % wnum l2) ∧ divE l1 l2 = 0 := by
  unfold divQ divM divE
  rw [small_of h1, small_of h2]
  simp only [Bool.and_self, if_true]
  rw [if_neg h, if_neg h, if_neg h]
  exact ⟨rfl, rfl, rfl⟩
theorem toW_is {N : Nat} {r : WL} (hc : Canon r) (h : wnum r = N) : toW N = r := by rw [← h, toW_wnum hc]
theorem RetW.win {S S' : Mem} {d : Hd} {l : WL} (h : RetW S S' d l) : WIn S' d.ad d.c l := h.own.1.1
theorem RetW.val {S S' : Mem} {d : Hd} {l : WL} (h : RetW S S' d l) : d.v = .slice d.ad l.length d.c := h.own.2
theorem WIn.new {S : Mem} {b n : Nat} {l : WL} (h : S.row? b = some (newR (wv l) 55)) (hl : l.length = n) (hn : n < 1000000) : WIn S (some ⟨b, 0, none⟩) n l := (WOwn.row (N := 0) h hl (Nat.zero_le _) hn).1
/-! ### the short calls -/
theorem works_C (S : Mem) (hS : SinOk S) (hP : PowOk S) (hG : gN ≤ S.length) : C Tryz.prog gN Ext 29 [] S fun v S' => v = .bool true ∧ Cons S S' := by
  refine C.fn Tryz.func29 rfl (by kernel_rfl) rfl ?_
  repeat first|refine W.g ?_|refine L.p rfl rfl ?_|refine L.nil ?_|refine L.skip rfl ?_
  refine L.bsW [18446744073709551615#64] rfl rfl rfl rfl rfl rfl (fun b1 S1 k1 i1 => ?_)
  repeat first|refine W.g ?_|refine L.p rfl rfl ?_|refine L.nil ?_|refine L.skip rfl ?_
  refine L.bsW [18446744073709551615#64, 0#64] rfl rfl rfl rfl rfl rfl (fun b2 S2 k2 i2 => ?_)
  repeat first|refine W.g ?_|refine L.p rfl rfl ?_|refine L.nil ?_|refine L.skip rfl ?_
  have q1 : wnum [18446744073709551615#64] = 18446744073709551615 := rfl
  have q2 : wnum [18446744073709551615#64, 0#64] = 18446744073709551615 := rfl
  have q3 : wnum [1#64, 18446744073709551614#64] = 18446744073709551615 * 18446744073709551615 := by decide
  have hb : (2 : Nat) ^ 128 ≤ 2 ^ 8192 := Nat.pow_le_pow_right (by decide) (by decide)
  have hm := mul_num (l1 := [18446744073709551615#64]) (l2 := [18446744073709551615#64, 0#64]) (by rw [q1]; omega) (by rw [q2]; omega) (by rw [q1, q2]; omega)
  refine L.cl (mulS_C _ _ _ _ _ _ S2 (i1.cons k2) i2 (by decide)) rfl rfl ?_
  rintro _ S3 ⟨d, rfl, hR⟩
  refine ⟨fun _ => hR.1, ?_⟩
  rw [hm.2]
  rw [hm.1, q1, q2, toW_is (r := [1#64, 18446744073709551614#64]) (by unfold Canon; decide) q3] at hR
  have k3 := (k1.trans k2).trans hR.1
  rw [hR.val]
  have r1 := hR.win
  clear hm hR i1 i2 k1 k2 q1 q2 q3
  repeat first|refine W.g ?_|refine L.p rfl rfl ?_|refine L.nil ?_|refine L.skip rfl ?_
  refine L.bsW [5#64, 1#64] rfl rfl rfl rfl rfl rfl (fun b1 S4 k4 i1 => ?_)
  repeat first|refine W.g ?_|refine L.p rfl rfl ?_|refine L.nil ?_|refine L.skip rfl ?_
  refine L.bsW [9223372036854775808#64] rfl rfl rfl rfl rfl rfl (fun b2 S5 k5 i2 => ?_)
  repeat first|refine W.g ?_|refine L.p rfl rfl ?_|refine L.nil ?_|refine L.skip rfl ?_
  have q1 : wnum [5#64, 1#64] = 18446744073709551621 := rfl
  have q2 : wnum [9223372036854775808#64] = 9223372036854775808 := rfl
  have hm := div_num (l1 := [5#64, 1#64]) (l2 := [9223372036854775808#64]) (by rw [q1]; omega) (by rw [q2]; omega) (by rw [q2]; decide)
  refine L.cl (natDiv_C _ _ _ _ _ _ S5 (i1.cons k5) i2) rfl rfl ?_
  rintro _ S6 ⟨d1, d2, rfl, hR1, hR2, hap⟩
  refine ⟨fun _ => hR1.1, ?_⟩
  rw [hm.2.2]
  rw [hm.1, q1, q2, show toW (18446744073709551621 / 9223372036854775808) = [2#64] from toW_is (by unfold Canon; decide) (by decide)] at hR1
  rw [hm.2.1, q1, q2, show toW (18446744073709551621 % 9223372036854775808) = [5#64] from toW_is (by unfold Canon; decide) (by decide)] at hR2
  rw [hR1.val, hR2.val]
  have k6 := (k4.trans k5).trans hR1.1
  have r1' := r1.cons k6
  have r2 := hR1.win
  have r3 := hR2.win
  have k7 := k3.trans k6
  clear hm hR1 hR2 i1 i2 k4 k5 q1 q2 r1 k3 k6 hap
  repeat first|refine W.g ?_|refine L.p rfl rfl ?_|refine L.nil ?_|refine L.skip rfl ?_
  refine L.bsW [0#64, 1#64] rfl rfl rfl rfl rfl rfl (fun b1 S7 k8 i1 => ?_)
  repeat first|refine W.g ?_|refine L.p rfl rfl ?_|refine L.nil ?_|refine L.skip rfl ?_
  have q1 : wnum [0#64, 1#64] = 18446744073709551616 := rfl
  have hsm : small [0#64, 1#64] = true := small_of (by rw [q1]; omega)
  have ht : textL [0#64, 1#64] = [49#8, 56#8, 52#8, 52#8, 54#8, 55#8, 52#8, 52#8, 48#8, 55#8, 51#8, 55#8, 48#8, 57#8, 53#8, 53#8, 49#8, 54#8, 49#8, 54#8] := by
    unfold textL
    rw [hsm, if_pos rfl, q1, dec_pad (k := 19) (by decide) (.inr (by decide))]
    decide
  have hte : textE [0#64, 1#64] = 0 := by unfold textE; rw [hsm]; rfl
  refine L.cl (natText_C _ _ _ S7 i1 ((hP.cons k7).cons k8)) rfl rfl ?_
  rintro _ S8 ⟨rfl, k9⟩
  refine ⟨fun _ => k9, ?_⟩
  rw [ht, hte]
  have k10 := (k7.trans k8).trans k9
  have r1 := (r1'.cons k8).cons k9
  have r2' := (r2.cons k8).cons k9
  have r3' := (r3.cons k8).cons k9
  clear ht hte hsm q1 i1 k7 k8 k9 r1' r2 r3
  repeat first|refine W.g ?_|refine L.p rfl rfl ?_|refine L.nil ?_|refine L.skip rfl ?_
  refine L.bsW [1#64] rfl rfl rfl rfl rfl rfl (fun b1 S9 k4 i1 => ?_)
  repeat first|refine W.g ?_|refine L.p rfl rfl ?_|refine L.nil ?_|refine L.skip rfl ?_
  refine L.bsW [2#64] rfl rfl rfl rfl rfl rfl (fun b2 S10 k5 i2 => ?_)
  repeat first|refine W.g ?_|refine L.p rfl rfl ?_|refine L.nil ?_|refine L.skip rfl ?_
  have q1 : wnum [1#64] = 1 := rfl
  have q2 : wnum [2#64] = 2 := rfl
  have hm := sub_below (l1 := [1#64]) (l2 := [2#64]) (by rw [q1]; omega) (by rw [q2]; omega) (by rw [q1, q2]; omega)
  refine L.cl (natSub_C _ _ _ _ _ _ S10 (i1.cons k5) i2) rfl rfl ?_
  rintro _ S11 ⟨d4, rfl, hR4⟩
  refine ⟨fun _ => hR4.1, ?_⟩
  rw [hm.2]
  have k6 := (k4.trans k5).trans hR4.1
  have k7 := k10.trans k6
  have p1 := r1.cons k6
  have p2 := r2'.cons k6
  have p3 := r3'.cons k6
  clear hm hR4 i1 i2 k4 k5 q1 q2 r1 r2' r3' k10 k6
  repeat first|refine W.g ?_|refine L.p rfl rfl ?_|refine L.nil ?_|refine L.skip rfl ?_
  refine L.bsW [1#64, 18446744073709551614#64] rfl rfl rfl rfl rfl rfl (fun b1 S12 k4 i1 => ?_)
  repeat first|refine W.g ?_|refine L.p rfl rfl ?_|refine L.nil ?_|refine L.skip rfl ?_
  refine L.cl (sameW_C _ _ [1#64, 18446744073709551614#64] [1#64, 18446744073709551614#64] 2 2 S12 (p1.cons k4).1 i1.1 (by decide) (by decide)) rfl rfl ?_
  rintro _ M ⟨rfl, hM⟩
  have hM := hM.symm
  subst hM
  refine ⟨nofun, ?_⟩
  rw [beq_self_eq_true]
  repeat first|refine W.g ?_|refine L.p rfl rfl ?_|refine L.nil ?_|refine L.skip rfl ?_
  refine L.bsW [2#64] rfl rfl rfl rfl rfl rfl (fun b1 S13 k5 i1 => ?_)
  repeat first|refine W.g ?_|refine L.p rfl rfl ?_|refine L.nil ?_|refine L.skip rfl ?_
  refine L.cl (sameW_C _ _ [2#64] [2#64] 1 1 S13 ((p2.cons k4).cons k5).1 i1.1 (by decide) (by decide)) rfl rfl ?_
  rintro _ M ⟨rfl, hM⟩
  have hM := hM.symm
  subst hM
  refine ⟨nofun, ?_⟩
  rw [beq_self_eq_true]
  repeat first|refine W.g ?_|refine L.p rfl rfl ?_|refine L.nil ?_|refine L.skip rfl ?_
  refine L.bsW [5#64] rfl rfl rfl rfl rfl rfl (fun b1 S14 k6 i1 => ?_)
  repeat first|refine W.g ?_|refine L.p rfl rfl ?_|refine L.nil ?_|refine L.skip rfl ?_
  refine L.cl (sameW_C _ _ [5#64] [5#64] 1 1 S14 (((p3.cons k4).cons k5).cons k6).1 i1.1 (by decide) (by decide)) rfl rfl ?_
  rintro _ M ⟨rfl, hM⟩
  have hM := hM.symm
  subst hM
  refine ⟨nofun, ?_⟩
  rw [beq_self_eq_true]
  repeat first|refine W.g ?_|refine L.p rfl rfl ?_|refine L.nil ?_|refine L.skip rfl ?_
  refine ⟨.inr rfl, _, rfl, (force_eq rfl).trans (congrArg Value.bool ?_), ((k7.trans k4).trans k5).trans k6⟩
  exact beq_self_eq_true (strB [49#8, 56#8, 52#8, 52#8, 54#8, 55#8, 52#8, 52#8, 48#8, 55#8, 51#8, 55#8, 48#8, 57#8, 53#8, 53#8, 49#8, 54#8, 49#8, 54#8]).toList
end Go.Proofs.YtbdnkneedengcaaGreatDoor

/- Arguments that came in, on the abstract memory of the world in which a call begins. Conditions: none. -/
set_option linter.unusedSimpArgs false
set_option linter.unusedVariables false
namespace Go.Proofs.YtbdnkneedengcaaGreatDoor
open Go

/-- a slice of whole numbers that came in: none; or it leads to a row of cap cells, the numbers zs -/
def IsRow (k : IntKind) (w : World) (a : Option Addr) (len cap : Nat) (zs : List Int) : Prop :=
  (a = none ∧ len = 0 ∧ cap = 0 ∧ zs = []) ∨
  ∃ x, a = some x ∧ len ≤ cap ∧ cap ≤ maxLen ∧ zs.length = cap ∧ (∀ i, i < zs.length → w.cell? (x.add i) = some (.int k (zs.getD i 0))) ∧ ∀ n ∈ zs, (Lit.int k n).wf = true
theorem okWide_block {P : Program} {W : World} {base : Nat} {t e : TypeId} {a : Addr} {len cap : Nat} (hu : P.underlying t = some (.slice e)) (h : Value.okWide P W .any base t (.slice (some a) len cap)) : a.block < W.heap.size := by
  unfold Value.okWide at h
  simp only [hu] at h
  unfold Cell.okWide at h
  simp only [hu] at h
  unfold Cell.ok at h
  simp only [hu] at h
  obtain ⟨_, _, _, _, row, cells, hs, _⟩ := h
  unfold World.shape? at hs
  split at hs
  · rename_i c el fz hh
    exact (Array.getElem?_eq_some_iff.1 hh).1
  · cases hs
theorem row_cap {k : IntKind} {W : World} {a : Option Addr} {len cap : Nat} {zs : List Int} (h : IsRow k W a len cap zs) : cap < UNK ∧ len ≤ cap := by
  rcases h with ⟨rfl, rfl, rfl, rfl⟩ | ⟨x, rfl, hlc, hm, hz, hcell, hwf⟩
  · exact ⟨by decide, by decide⟩
  · exact ⟨by unfold maxLen at hm; unfold UNK; omega, hlc⟩
theorem world_ints {k : IntKind} {W : World} {N : Nat} {a : Option Addr} {len cap : Nat} {zs : List Int} (h : IsRow k W a len cap zs) (hb : ∀ x, a = some x → x.block < W.heap.size + N) :
    Slv (mem0 W N) 1 (.slice a len cap) len ((zs.take len).map (Value.int k)) ∧ VR (rho0 W N) (.slice a len cap) (.slice a len cap) ∧ (zs.take len).length = len ∧ Cut len cap ∧ (∀ n ∈ zs, (Lit.int k n).wf = true) := by
  rcases h with ⟨rfl, rfl, rfl, rfl⟩ | ⟨x, rfl, hlc, hm, hz, hcell, hwf⟩
  · exact ⟨Slv.nil _ _ _ _, .slNil _ _, rfl, .inl ⟨by decide, by decide⟩, nofun⟩
  · have hcu : cap < UNK := by unfold maxLen at hm; unfold UNK; omega
    have hlen : (zs.take len).length = len := by rw [List.length_take]; omega
    refine ⟨?_, (fixed_slice (N := N) (hb x rfl) hcu).1, hlen, .inl ⟨hcu, hlc⟩, hwf⟩
    rcases Nat.eq_zero_or_pos len with rfl | hpos
    · rw [List.take_zero]; exact Slv.nil _ _ _ _
    have h0 := hcell 0 (by omega)
    have hx0 : x.add 0 = x := rfl
    rw [hx0] at h0
    unfold World.cell? at h0
    split at h0
    · rename_i c el fz hh
      split at h0
      · cases h0
      · rename_i hsp
        have hsp' : x.spot = none := by cases hxs : x.spot <;> simp_all
        obtain ⟨r, hr, hrl, hrc⟩ := mem0_live (N := N) hh
        have hxa : x = ⟨x.block, x.off, none⟩ := by cases x; simp at hsp'; subst hsp'; rfl
        have hci : ∀ i, i < cap → r.cells[x.off + i]? = some (.int k (zs.getD i 0)) := by
          intro i hi
          have h1 := hcell i (by omega)
          have hadd : x.add i = ⟨x.block, x.off + i, none⟩ := by
            unfold Addr.add
            split
            · rename_i h9; rw [h9]; exact hxa
            · rfl
          rw [hadd] at h1
          simp only [World.cell?, hh] at h1
          exact hrc _ _ (by simpa using h1) (fixed_scalar W N rfl)
        have hbound : x.off + len * 1 ≤ r.cells.length := by
          have := (List.getElem?_eq_some_iff.1 (hci (len - 1) (by omega))).1
          omega
        have hseg : (r.cells.drop x.off).take (len * 1) = (zs.take len).map (Value.int k) := by
          apply List.ext_getElem?
          intro i
          rw [List.getElem?_take, Nat.mul_one]
          split
          · rename_i hi
            rw [List.getElem?_drop, hci i (by omega), List.getElem?_map, List.getElem?_take, if_pos hi, List.getD_eq_getElem?_getD, List.getElem?_eq_getElem (by omega)]
            rfl
          · rename_i hi
            rw [List.getElem?_eq_none (by rw [List.length_map, hlen]; omega)]
        have := Slv.of (sz := 1) (n := len) (c := cap) hr hbound (.inr (by rw [hseg, List.all_map, List.all_eq_true]; intro n _; rfl))
        rw [hseg, ← hxa] at this
        exact this
    · cases h0
end Go.Proofs.YtbdnkneedengcaaGreatDoor

/- What the listed variables read as, in the abstract memory. Conditions: none. -/
set_option linter.unusedSimpArgs false
set_option linter.unusedVariables false
set_option maxRecDepth 100000
namespace Go.Proofs.YtbdnkneedengcaaGreatDoor
open Go Go.RowKit Ie
open Go.ChangeShapes Go.WideShapes Go.ChangeAt
section
variable {H : Type} {enc : TypeId × Value → H} {P : Program} {w : World} {base : Nat} {spare : Nat → Bool} {held : Bool} {fuel : Nat} {t : TypeId} {cs : List Value} {x : DataW H × List MemPlace}
theorem trod_float {k : FloatKind} (ht : P.underlying t = some (.float k)) (h : DataW.trod enc P w base spare held fuel t cs = some x) : ∃ b, cs = [.float k b] ∧ x = (.lit (.float k b), []) := by
  cases fuel with
  | zero => simp [DataW.trod] at h
  | succ n =>
    unfold DataW.trod at h
    rw [ht] at h
    split at h <;> simp_all
/-- the cells of a laid array of plain values -/
theorem arr_cells {n : Nat} {e : TypeId} {vs : List Value} {ls : List (DataW H)} {p : List MemPlace} (ht : P.underlying t = some (.array n e)) (c1 : P.cellsOf e = 1) (ct : P.cellsOf t = n) (hl : ls.length = n) (hvl : vs.length = n)
    (hel : ∀ (m i : Nat) (c : List Value) (y : DataW H × List MemPlace) (d : DataW H) (v : Value), DataW.trod enc P w base spare held m e c = some y → y.1 = d → ls[i]? = some d → vs[i]? = some v → c = [v])
    (h : DataW.trod enc P w base spare held fuel t cs = some (.agg ls, p)) : cs = vs := by
  obtain ⟨xs, m, rfl, hx, hlen, hn, hels⟩ := DataW.trod_array ht h
  simp only [Prod.mk.injEq, DataW.agg.injEq] at hx
  rw [ct] at hlen
  apply List.ext_getElem?
  intro i
  by_cases hi : i < n
  · have h1 := hels i hi
    rw [c1, Nat.mul_one] at h1
    obtain ⟨y, hy⟩ : ∃ y, xs[i]? = some y := ⟨_, List.getElem?_eq_getElem (by omega)⟩
    obtain ⟨v, hv⟩ : ∃ v, vs[i]? = some v := ⟨_, List.getElem?_eq_getElem (by omega)⟩
    rw [hy] at h1
    have hd : ls[i]? = some y.1 := by rw [hx.1, List.getElem?_map, hy]; rfl
    have h2 := hel m i _ y y.1 v h1 rfl hd hv
    have h3 : ((cs.drop i).take 1)[0]? = some v := by rw [h2]; rfl
    rw [List.getElem?_take, if_pos (by decide), List.getElem?_drop, Nat.add_zero] at h3
    rw [h3, hv]
  · rw [List.getElem?_eq_none (by omega), List.getElem?_eq_none (by omega)]
theorem arr_ints {n : Nat} {e : TypeId} {k : IntKind} {zs : List Int} {p : List MemPlace} (ht : P.underlying t = some (.array n e)) (he : P.underlying e = some (.int k)) (c1 : P.cellsOf e = 1) (ct : P.cellsOf t = n) (hl : zs.length = n)
    (h : DataW.trod enc P w base spare held fuel t cs = some (.agg (zs.map fun z => .lit (.int k z)), p)) : cs = zs.map (Value.int k) := by
  refine arr_cells ht c1 ct (by rw [List.length_map, hl]) (by rw [List.length_map, hl]) (fun m i c y d v h1 h2 h3 h4 => ?_) h
  obtain ⟨z, rfl, rfl, _⟩ := DataW.trod_int he h1
  dsimp only at h2
  subst h2
  rw [List.getElem?_map, Option.map_eq_some_iff] at h3 h4
  obtain ⟨z1, q1, q2⟩ := h3
  obtain ⟨z2, q3, rfl⟩ := h4
  rw [q1] at q3
  cases q3
  cases q2
  rfl
theorem arr_floats {n : Nat} {e : TypeId} {k : FloatKind} {zs : List Nat} {p : List MemPlace} (ht : P.underlying t = some (.array n e)) (he : P.underlying e = some (.float k)) (c1 : P.cellsOf e = 1) (ct : P.cellsOf t = n) (hl : zs.length = n)
    (h : DataW.trod enc P w base spare held fuel t cs = some (.agg (zs.map fun z => .lit (.float k z)), p)) : cs = zs.map (Value.float k) := by
  refine arr_cells ht c1 ct (by rw [List.length_map, hl]) (by rw [List.length_map, hl]) (fun m i c y d v h1 h2 h3 h4 => ?_) h
  obtain ⟨z, rfl, rfl⟩ := trod_float he h1
  dsimp only at h2
  subst h2
  rw [List.getElem?_map, Option.map_eq_some_iff] at h3 h4
  obtain ⟨z1, q1, q2⟩ := h3
  obtain ⟨z2, q3, rfl⟩ := h4
  rw [q1] at q3
  cases q3
  cases q2
  rfl
theorem laid_var {laid : List (String × DataW Unit)} {n : String} {d : DataW Unit} {ps : List MemPlace} (hm : (n, d) ∈ laid) (h : DataW.LaidVars P w laid ps) :
    ∃ g t cs fuel p, P.globalNamed n = some g ∧ (P.globals[g]?).map (·.type) = some t ∧ w.var? P n = some cs ∧ DataW.trod (fun _ => ()) P w 0 (fun _ => true) false fuel t cs.toList = some (d, p) := by
  induction laid generalizing ps with
  | nil => simp at hm
  | cons y l ih =>
    obtain ⟨n', d'⟩ := y
    obtain ⟨g, t, cs, fuel, p, q, h1, h2, h3, h4, h5, _⟩ := h
    rcases List.mem_cons.1 hm with h6 | h6
    · cases h6
      exact ⟨g, t, cs, fuel, p, h1, h2, h3, h4⟩
    · exact ih h6 h5
end
/-- a variable's row in the abstract memory -/
theorem var_row {W : World} {n : String} {g : Nat} {cs : Array Value} {vs : List Value} (hg : Tryz.prog.globalNamed n = some g) (hv : W.var? Tryz.prog n = some cs) (hcs : cs.toList = vs) (hs : vs.all scalar = true) :
    g < W.heap.size ∧ ∀ N, RowIs (mem0 W N) g vs := by
  simp only [World.var?, hg, Option.bind_some] at hv
  split at hv
  · rename_i c e fz hh
    obtain rfl : c = cs := by simpa using hv
    refine ⟨(Array.getElem?_eq_some_iff.1 hh).1, fun N => ?_⟩
    obtain ⟨rw', hr, hrl, hrc⟩ := mem0_live (N := N) hh
    refine ⟨rw', hr, List.ext_getElem? fun k => ?_⟩
    rw [List.getElem?_take]
    split
    · rename_i hk
      obtain ⟨v, hv⟩ : ∃ v, vs[k]? = some v := ⟨_, List.getElem?_eq_getElem hk⟩
      rw [hv]
      refine hrc k _ ?_ (fixed_scalar W N ?_)
      · rw [← Array.getElem?_toList, hcs]; exact hv
      · exact List.all_eq_true.1 hs _ (List.mem_of_getElem? hv)
    · rename_i hk
      rw [List.getElem?_eq_none (by omega)]
  · cases hv
abbrev laidL : List (String × DataW Unit) := [("math/bits.deBruijn32tab", Rows.laid_math_bits_deBruijn32tab), ("math/bits.deBruijn64tab", Rows.laid_math_bits_deBruijn64tab), ("internal/strconv.uint64pow10", Rows.laid_internal_strconv_uint64pow10), ("math._sin", Rows.laid_math_sin), ("math._cos", Rows.laid_math_cos), ("math.mPi4", Rows.laid_math_mPi4)]
theorem of_laid {W : World} (h : laidMetH Tryz.prog laidL W) : gN ≤ W.heap.size ∧ ∀ N, SinOk (mem0 W N) ∧ PowOk (mem0 W N) := by
  rw [MakeChecks.laidMetH_plain _ _ _ (by kernel_rfl)] at h
  obtain ⟨ps, hv, _, _⟩ := h
  obtain ⟨g1, t1, cs1, f1, p1, a1, b1, c1, d1⟩ := laid_var (n := "internal/strconv.uint64pow10") (d := Rows.laid_internal_strconv_uint64pow10) (by simp) hv
  obtain ⟨g2, t2, cs2, f2, p2, a2, b2, c2, d2⟩ := laid_var (n := "math._sin") (d := Rows.laid_math_sin) (by simp) hv
  obtain ⟨g3, t3, cs3, f3, p3, a3, b3, c3, d3⟩ := laid_var (n := "math._cos") (d := Rows.laid_math_cos) (by simp) hv
  obtain ⟨g4, t4, cs4, f4, p4, a4, b4, c4, d4⟩ := laid_var (n := "math/bits.deBruijn64tab") (d := Rows.laid_math_bits_deBruijn64tab) (by simp) hv
  obtain rfl := Option.some.inj ((show Tryz.prog.globalNamed "internal/strconv.uint64pow10" = some 5 by kernel_rfl).symm.trans a1)
  obtain rfl := Option.some.inj ((show Tryz.prog.globalNamed "math._sin" = some 4 by kernel_rfl).symm.trans a2)
  obtain rfl := Option.some.inj ((show Tryz.prog.globalNamed "math._cos" = some 3 by kernel_rfl).symm.trans a3)
  obtain rfl := Option.some.inj ((show Tryz.prog.globalNamed "math/bits.deBruijn64tab" = some 13 by kernel_rfl).symm.trans a4)
  obtain rfl := Option.some.inj ((show (Tryz.prog.globals[5]?).map (·.type) = some 143 by kernel_rfl).symm.trans b1)
  obtain rfl := Option.some.inj ((show (Tryz.prog.globals[4]?).map (·.type) = some 140 by kernel_rfl).symm.trans b2)
  obtain rfl := Option.some.inj ((show (Tryz.prog.globals[3]?).map (·.type) = some 140 by kernel_rfl).symm.trans b3)
  have e1 : cs1.toList = powT := arr_ints (k := .u64) (zs := (List.range 20).map fun i => ((10 ^ i : Nat) : Int)) Tryz.underlying143 Tryz.underlying55 (by kernel_rfl) (by kernel_rfl) rfl d1
  have e2 : cs2.toList = sinT.map vf := arr_floats (k := .f64) (zs := sinT) Tryz.underlying140 Tryz.underlying87 (by kernel_rfl) (by kernel_rfl) rfl d2
  have e3 : cs3.toList = cosT.map vf := arr_floats (k := .f64) (zs := cosT) Tryz.underlying140 Tryz.underlying87 (by kernel_rfl) (by kernel_rfl) rfl d3
  have r1 := var_row a1 c1 e1 rfl
  have r2 := var_row a2 c2 e2 rfl
  have r3 := var_row a3 c3 e3 rfl
  have hlt : 13 < W.heap.size := by
    simp only [World.var?, a4, Option.bind_some] at c4
    split at c4
    · rename_i c e fz hh
      exact (Array.getElem?_eq_some_iff.1 hh).1
    · cases c4
  have hgN : gN ≤ 13 + 1 := Nat.le_of_ble_eq_true (by kernel_rfl)
  exact ⟨by omega, fun N => ⟨⟨r3.2 N, r2.2 N⟩, r1.2 N⟩⟩
theorem words_of (zs : List Int) (len : Nat) (hwf : ∀ n ∈ zs, (Lit.int .u64 n).wf = true) (hl : (zs.take len).length = len) : ∃ l : WL, l.length = len ∧ wv l = (zs.take len).map (Value.int .u64) := by
  refine ⟨(zs.take len).map (BitVec.ofInt 64), by rw [List.length_map, hl], ?_⟩
  unfold wv
  rw [List.map_map]
  refine List.map_congr_left fun n hn => ?_
  have h := hwf n (List.mem_of_mem_take hn)
  have hx : 0 ≤ n ∧ n ≤ 18446744073709551615 := by simpa [Lit.wf, IntKind.min, IntKind.max, IntKind.signed, IntKind.bits] using h
  show v64 (BitVec.ofInt 64 n) = _
  rw [v64, ← wrap_u64, wrapU64 (by omega) (by omega)]
theorem row_pre {W : World} {N : Nat} {a : Option Addr} {cap : Nat} {zs : List Int} {l : WL} (w : IsRow .u64 W a l.length cap zs) (hs : Slv (mem0 W N) 1 (.slice a l.length cap) l.length (wv l)) : WPre (mem0 W N) a cap l := by
  have h := row_cap w
  refine ⟨hs, by unfold knownCap; rw [if_pos h.1]; exact h.2, fun ha => ?_⟩
  subst ha
  rcases w with ⟨_, _, h3, _⟩ | ⟨x, h1, _⟩
  · exact h3
  · cases h1
/-- the heap that the door's run leaves meets the condition -/
theorem door_met (os : Os) (args : Array Value) : laidMetH Tryz.prog laidL ((World.doorLaid Tryz.prog 400 os).forCall (fun _ _ => 0) ⟨#[], args, []⟩).memory :=
  laidMetH_of_parts3 (fuel := 8) (laidMet_of_run' 8 (by kernel_rfl) (by kernel_rfl)) (by kernel_rfl) (by kernel_rfl)
end Go.Proofs.YtbdnkneedengcaaGreatDoor

/- The book of lists that were handed out: a list more. Conditions: none. -/
set_option linter.unusedSimpArgs false
set_option linter.unusedVariables false
set_option maxRecDepth 100000
namespace Go.Proofs.YtbdnkneedengcaaGreatDoor
open Go
variable {G : Nat} {Ext : FuncId → List Value → Mem → Outc → Mem → Prop}

/-- the book at row rb holds the lists ws and bs; the rows ps are its own -/
def Book (S : Mem) (rb : Nat) (ws bs : List Hd) (ps : List Nat) : Prop :=
  ∃ hw hb : Hd, S.row? rb = some (newR [hw.v, hb.v] 27) ∧ HdOk S 22 hw (ws.map Hd.v) ∧ HdOk S 43 hb (bs.map Hd.v) ∧ rb ∈ ps ∧
    (∀ b, hw.a = some b → b ∈ ps ∧ b ≠ rb) ∧ (∀ b, hb.a = some b → b ∈ ps ∧ b ≠ rb ∧ hw.a ≠ some b)
theorem Book.keep {S S1 : Mem} {rb : Nat} {ws bs : List Hd} {ps cs : List Nat} (h : Book S rb ws bs ps) (k : KeepL cs S S1) (hd : ∀ b ∈ cs, b ∉ ps) : Book S1 rb ws bs ps := by
  obtain ⟨hw, hb, h1, h2, h3, h4, h5, h6⟩ := h
  exact ⟨hw, hb, k.row h1 (fun hm => hd _ hm h4), h2.keep k (fun b e hm => hd _ hm (h5 b e).1), h3.keep k (fun b e hm => hd _ hm (h6 b e).1), h4, h5, h6⟩
theorem Book.cons {S S1 : Mem} {rb : Nat} {ws bs : List Hd} {ps : List Nat} (h : Book S rb ws bs ps) (k : Cons S S1) : Book S1 rb ws bs ps := h.keep (k.keepL []) (by simp)
/-- an empty book -/
theorem Book.new (S : Mem) : Book (S ++ [newR [.slice none 0 0, .slice none 0 0] 27]) S.length [] [] [S.length] :=
  ⟨⟨none, 0, 0⟩, ⟨none, 0, 0⟩, row_push_new rfl, HdOk.nil _ _, HdOk.nil _ _, by simp, nofun, nofun⟩
/-- from one book to the next: its own rows are old ones of its own, or new -/
def Sub2 (S : Mem) (ps ps' : List Nat) : Prop := ∀ r ∈ ps', r ∈ ps ∨ S.length ≤ r
theorem words_C (S : Mem) (h : Hd) (rb : Nat) (ws bs : List Hd) (ps : List Nat) (hB : Book S rb ws bs ps) (hn : ws.length < 1000000) :
    C Tryz.prog G Ext 23 [.pointer (some ⟨rb, 0, none⟩), h.v] S fun v S' => ∃ ps', Book S' rb (ws ++ [h]) bs ps' ∧ Sub2 S ps ps' ∧ KeepL ps S S' := by
  obtain ⟨hw, hb, hr, h2, h3, h4, h5, h6⟩ := hB
  refine C.fn Tryz.func23 rfl (by kernel_rfl) rfl ?_
  repeat first|refine W.g ?_|refine L.p rfl rfl ?_|refine L.nil ?_|refine L.skip rfl ?_
  refine L.ld (cell_of hr rfl) rfl rfl rfl ?_
  repeat first|refine W.g ?_|refine L.p rfl rfl ?_|refine L.nil ?_|refine L.skip rfl ?_
  refine L.pushH (h := hw) rfl h2 rfl rfl rfl rfl rfl (by have := h2.len; rw [List.length_map] at this; omega) rfl (fun _ => rfl) (fun p h' S1 k1 k2 k3 k4 => ?_)
  obtain ⟨b', k5, k6⟩ := k3
  have hne : rb ∉ hw.a.toList := fun hm => by
    have := (h5 rb (by simpa using hm)).2
    exact this rfl
  have hr1 := k4.row hr hne
  repeat first|refine W.g ?_|refine L.p rfl rfl ?_|refine L.nil ?_|refine L.skip rfl ?_
  refine L.st (ad := ⟨rb, 0, none⟩) (vs := [h'.v]) (write_of hr1 rfl (by simp [newR]) rfl) rfl rfl rfl rfl ?_
  rw [putFrom_one _ _ _ (by simp [newR])]
  repeat first|refine W.g ?_|refine L.p rfl rfl ?_|refine L.nil ?_|refine L.skip rfl ?_
  have hlt := row_lt hr
  have hk := Keep.set rb S1 { newR [hw.v, hb.v] 27 with cells := List.set (newR [hw.v, hb.v] 27).cells 0 h'.v }
  have hkl := Keep.keepL (bs := [rb]) hk (by simp)
  refine ⟨.inl rfl, _, rfl, b' :: ps, ⟨h', hb, row_set_same hr1 rfl, ?_, ?_, by simp [h4], ?_, ?_⟩, ?_, ?_⟩
  · rw [List.map_append]; exact k1.keep hkl (fun b e hm => by rw [k5] at e; cases e; simp at hm; omega)
  · exact (h3.keep k4 (fun b e hm => (h6 b e).2.2 (by simpa using hm))).keep hkl (fun b e hm => (h6 b e).2.1 (by simpa using hm))
  · intro b e; rw [k5] at e; cases e; exact ⟨by simp, by omega⟩
  · intro b e
    have := h3.lt e
    exact ⟨by simp [(h6 b e).1], (h6 b e).2.1, fun e2 => by rw [k5] at e2; cases e2; omega⟩
  · intro r hm
    rcases List.mem_cons.1 hm with rfl | hm
    · exact .inr k6
    · exact .inl hm
  · refine (k4.mono ?_).then hkl (by simp [h4])
    intro r hm
    exact (h5 r (by simpa using hm)).1
theorem bytes_C (S : Mem) (h : Hd) (rb : Nat) (ws bs : List Hd) (ps : List Nat) (hB : Book S rb ws bs ps) (hn : bs.length < 1000000) :
    C Tryz.prog G Ext 36 [.pointer (some ⟨rb, 0, none⟩), h.v] S fun v S' => ∃ ps', Book S' rb ws (bs ++ [h]) ps' ∧ Sub2 S ps ps' ∧ KeepL ps S S' := by
  obtain ⟨hw, hb, hr, h2, h3, h4, h5, h6⟩ := hB
  refine C.fn Tryz.func36 rfl (by kernel_rfl) rfl ?_
  repeat first|refine W.g ?_|refine L.p rfl rfl ?_|refine L.nil ?_|refine L.skip rfl ?_
  refine L.ld (cell_of hr rfl) rfl rfl rfl ?_
  repeat first|refine W.g ?_|refine L.p rfl rfl ?_|refine L.nil ?_|refine L.skip rfl ?_
  refine L.pushH (h := hb) rfl h3 rfl rfl rfl rfl rfl (by have := h3.len; rw [List.length_map] at this; omega) rfl (fun _ => rfl) (fun p h' S1 k1 k2 k3 k4 => ?_)
  obtain ⟨b', k5, k6⟩ := k3
  have hne : rb ∉ hb.a.toList := fun hm => by
    have := (h6 rb (by simpa using hm)).2.1
    exact this rfl
  have hr1 := k4.row hr hne
  repeat first|refine W.g ?_|refine L.p rfl rfl ?_|refine L.nil ?_|refine L.skip rfl ?_
  refine L.st (ad := ⟨rb, 1, none⟩) (vs := [h'.v]) (write_of hr1 rfl (by simp [newR]) rfl) rfl rfl rfl rfl ?_
  rw [putFrom_one _ _ _ (by simp [newR])]
  repeat first|refine W.g ?_|refine L.p rfl rfl ?_|refine L.nil ?_|refine L.skip rfl ?_
  have hlt := row_lt hr
  have hk := Keep.set rb S1 { newR [hw.v, hb.v] 27 with cells := List.set (newR [hw.v, hb.v] 27).cells 1 h'.v }
  have hkl := Keep.keepL (bs := [rb]) hk (by simp)
  refine ⟨.inl rfl, _, rfl, b' :: ps, ⟨hw, h', row_set_same hr1 rfl, ?_, ?_, by simp [h4], ?_, ?_⟩, ?_, ?_⟩
  · exact (h2.keep k4 (fun b e hm => (h6 b (by simpa using hm)).2.2 e)).keep hkl (fun b e hm => (h5 b e).2 (by simpa using hm))
  · rw [List.map_append]; exact k1.keep hkl (fun b e hm => by rw [k5] at e; cases e; simp at hm; omega)
  · intro b e
    exact ⟨by simp [(h5 b e).1], (h5 b e).2⟩
  · intro b e; rw [k5] at e; cases e
    refine ⟨by simp, by omega, fun e2 => ?_⟩
    have := h2.lt e2
    omega
  · intro r hm
    rcases List.mem_cons.1 hm with rfl | hm
    · exact .inr k6
    · exact .inl hm
  · refine (k4.mono ?_).then hkl (by simp [h4])
    intro r hm
    exact (h6 r (by simpa using hm)).1
end Go.Proofs.YtbdnkneedengcaaGreatDoor

/- The book: each list has memory of its own. Conditions: none. -/
set_option linter.unusedSimpArgs false
set_option linter.unusedVariables false
set_option maxRecDepth 100000
namespace Go.Proofs.YtbdnkneedengcaaGreatDoor
open Go
variable {G : Nat} {Ext : FuncId → List Value → Mem → Outc → Mem → Prop}

def mkW (k n : Nat) : List Value := (List.range n).map fun (i : Nat) => v64 (mk k i)
def mkB (k n : Nat) : List Value := (List.range n).map fun (i : Nat) => v8 ((mk k i).setWidth 8)
theorem mkW_succ (k n : Nat) : mkW k (n + 1) = mkW k n ++ [v64 (mk k n)] := by simp [mkW, List.range_succ]
theorem mkB_succ (k n : Nat) : mkB k (n + 1) = mkB k n ++ [v8 ((mk k n).setWidth 8)] := by simp [mkB, List.range_succ]
theorem mkW_get {k n i : Nat} (h : i < n) : (mkW k n)[i]? = some (v64 (mk k i)) := by simp [mkW, h]
theorem mkB_get {k n i : Nat} (h : i < n) : (mkB k n)[i]? = some (v8 ((mk k i).setWidth 8)) := by simp [mkB, h]
theorem take_set_succ {l m : List Value} {w : Value} {i : Nat} (h : l.take i = m) (hi : i < l.length) : (l.set i w).take (i + 1) = m ++ [w] := by
  rw [List.take_add_one, List.getElem?_set_self hi, List.take_set_of_le (Nat.le_refl i), h]; rfl
def blks (hs : List Hd) : List Nat := hs.filterMap Hd.a
theorem blks_mem {hs : List Hd} {h : Hd} {b : Nat} {k : Nat} (hk : hs[k]? = some h) (hb : h.a = some b) : b ∈ blks hs := List.mem_filterMap.2 ⟨h, List.mem_of_getElem? hk, hb⟩
theorem blks_at {hs : List Hd} {b : Nat} (h : b ∈ blks hs) : ∃ (k : Nat) (d : Hd), hs[k]? = some d ∧ d.a = some b := by
  obtain ⟨d, h1, h2⟩ := List.mem_filterMap.1 h
  obtain ⟨k, h3⟩ := List.getElem?_of_mem h1
  exact ⟨k, d, h3, h2⟩
/-- each list's block is its own -/
def Own (hs : List Hd) : Prop := ∀ (i j : Nat) (h d : Hd) (b : Nat), hs[i]? = some h → hs[j]? = some d → h.a = some b → d.a = some b → i = j
def Alive (S : Mem) (el : TypeId) (hs : List Hd) : Prop := ∀ (i : Nat) (h : Hd), hs[i]? = some h → h.n ≤ 1000000000000 ∧ ∃ l, HdOk S el h l
def Marked (S : Mem) (el : TypeId) (f : Nat → Nat → List Value) (x : Nat) (hs : List Hd) : Prop := ∀ (i : Nat) (h : Hd), hs[i]? = some h → HdOk S el h (f i (h.n + x))
theorem Alive.keep {S S1 : Mem} {el : TypeId} {hs : List Hd} {bs : List Nat} (h : Alive S el hs) (k : KeepL bs S S1) (hd : ∀ b ∈ bs, b ∉ blks hs) : Alive S1 el hs := fun i d hi =>
  ⟨(h i d hi).1, (h i d hi).2.imp fun l h2 => h2.keep k fun b e hm => hd b hm (blks_mem hi e)⟩

set_option maxHeartbeats 1000000 in
theorem apart_C (S : Mem) (rb : Nat) (ws bs : List Hd) (ps : List Nat) (hB : Book S rb ws bs ps) (hn : ws.length < 1000000 ∧ bs.length < 1000000) (hAws : Alive S 55 ws) (hAbs : Alive S 5 bs)
    (hOws : Own ws) (hObs : Own bs) (hdws : ∀ b ∈ blks ws, b ∉ ps) (hdbs : ∀ b ∈ blks bs, b ∉ ps) (hdd : ∀ b ∈ blks ws, b ∉ blks bs) :
    C Tryz.prog G Ext 28 [.pointer (some ⟨rb, 0, none⟩)] S fun v S' => v = .bool true ∧ KeepL (blks ws ++ blks bs) S S' := by
  refine C.fn Tryz.func28 rfl (by kernel_rfl) rfl ?_
  have hBws := hB
  repeat first|refine W.g ?_|refine L.p rfl rfl ?_|refine L.nil ?_|refine L.skip rfl ?_
  refine W.loop (fun j e S' => ∃ k : Nat, j = ws.length - k ∧ k ≤ ws.length ∧ e 0 = .pointer (some ⟨rb, 0, none⟩) ∧ e 3 = vi k ∧ KeepL (blks ws) S S' ∧ (∀ (i : Nat) (h : Hd), ws[i]? = some h → if i < k then HdOk S' 55 h (mkW i h.n) else ∃ l, HdOk S' 55 h l)) ws.length
    ⟨0, by omega, by omega, rfl, rfl, KeepL.refl _ _, fun i h hi => by rw [if_neg (by omega)]; exact (hAws i h hi).2⟩ ?_
  rintro j e S' ⟨k, rfl, hk, e0, ek, hkeep, hst⟩
  refine W.env2 e0 ek ?_
  obtain ⟨hw, hb, hr, h2, h3, h4, h5, h6⟩ := hBws.keep hkeep hdws
  have hlen := h2.len
  rw [List.length_map] at hlen
  repeat first|refine W.g ?_|refine L.p rfl rfl ?_|refine L.nil ?_|refine L.skip rfl ?_
  refine L.ld (cell_of hr rfl) rfl rfl rfl ?_
  repeat first|refine W.g ?_|refine L.p rfl rfl ?_|refine L.nil ?_|refine L.skip rfl ?_
  refine W.ite rfl (fun h => ?_) (fun h => ?_)
  · have hkl : k < ws.length := by simp at h; omega
    obtain ⟨hh, hkh⟩ : ∃ hh, ws[k]? = some hh := ⟨_, List.getElem?_eq_getElem hkl⟩
    have hel : (ws.map Hd.v)[k]? = some hh.v := by rw [List.getElem?_map, hkh]; rfl
    obtain ⟨l0, hl0⟩ : ∃ l, HdOk S' 55 hh l := by have := hst k hh hkh; rwa [if_neg (by omega)] at this
    have hnb : ∀ b, hh.a = some b → b ≠ rb := fun b e hm => hdws b (blks_mem hkh e) (hm ▸ h4)
    have hnw : ∀ b, hh.a = some b → hw.a ≠ some b := fun b e hm => hdws b (blks_mem hkh e) (h5 b hm).1
    have hsm := (hAws k hh hkh).1
    clear h
    repeat first|refine W.g ?_|refine L.p rfl rfl ?_|refine L.nil ?_|refine L.skip rfl ?_
    refine W.loop (fun j e S'' => ∃ (i : Nat) (l : List Value), j = hh.n - i ∧ i ≤ hh.n ∧ e 0 = .pointer (some ⟨rb, 0, none⟩) ∧ e 3 = vi k ∧ e 4 = vi i ∧ KeepL hh.a.toList S' S'' ∧ HdOk S'' 55 hh l ∧ l.take i = mkW k i) hh.n
      ⟨0, l0, by omega, by omega, rfl, rfl, rfl, KeepL.refl _ _, hl0, rfl⟩ ?_
    rintro j e S'' ⟨i, l, rfl, hi, e0, ek, ei, hkp, hl, htk⟩
    refine W.env3 e0 ek ei ?_
    have hr2 := hkp.row hr (fun hm => hnb rb (by simpa using hm) rfl)
    have hx2 := h2.keep hkp (fun b e hm => hnw b (by simpa using hm) e)
    repeat first|refine W.g ?_|refine L.p rfl rfl ?_|refine L.nil ?_|refine L.skip rfl ?_
    refine L.ld (cell_of hr2 rfl) rfl rfl rfl ?_
    repeat first|refine W.g ?_|refine L.p rfl rfl ?_|refine L.nil ?_|refine L.skip rfl ?_
    refine L.el hx2.slv rfl hel rfl rfl rfl rfl (fun _ => rfl) rfl (fun p => ?_)
    repeat first|refine W.g ?_|refine L.p rfl rfl ?_|refine L.nil ?_|refine L.skip rfl ?_
    refine W.ite rfl (fun h => ?_) (fun h => ?_)
    · have hin : i < hh.n := by simp at h; omega
      obtain ⟨a, n, c⟩ := hh
      obtain ⟨b, rfl⟩ : ∃ b, a = some b := by
        obtain ⟨_, ⟨_, h0, _⟩ | ⟨b, _, h0, _⟩⟩ := hl
        · dsimp only at h0 hin; omega
        · exact ⟨b, h0⟩
      obtain ⟨r, hrr, hro, hrl, hrt⟩ := hl.row
      have hll := hl.len
      dsimp only at hin hll hi
      repeat first|refine W.g ?_|refine L.p rfl rfl ?_|refine L.nil ?_|refine L.skip rfl ?_
      refine L.ld (cell_of hr2 rfl) rfl rfl rfl ?_
      repeat first|refine W.g ?_|refine L.p rfl rfl ?_|refine L.nil ?_|refine L.skip rfl ?_
      refine L.el hx2.slv rfl hel rfl rfl rfl rfl (fun _ => rfl) rfl (fun p => ?_)
      repeat first|refine W.g ?_|refine L.p rfl rfl ?_|refine L.nil ?_|refine L.skip rfl ?_
      refine L.cl (mark_C _ _ _) rfl rfl ?_
      rintro _ _ ⟨rfl, rfl⟩
      refine ⟨fun _ => Cons.refl _, ?_⟩
      repeat first|refine W.g ?_|refine L.p rfl rfl ?_|refine L.nil ?_|refine L.skip rfl ?_
      refine L.elst hrr hro (by omega) rfl hin rfl rfl rfl rfl (fun _ => rfl) (fun _ => rfl) rfl rfl rfl (fun p => ?_)
      repeat first|refine W.g ?_|refine L.p rfl rfl ?_|refine L.nil ?_|refine L.skip rfl ?_
      rw [Nat.zero_add]
      refine ⟨n - (i + 1), by show n - (i + 1) < n - i; omega, i + 1, _, rfl, by show i + 1 ≤ n; omega, rfl, rfl, ?_, ?_, hl.set _ hrr, ?_⟩
      · refine (force_eq rfl).trans ?_
        rw [wrap64 (by omega) (by dsimp only at hsm; omega)]; rfl
      · exact hkp.trans ((Keep.set b _ _).keepL (by simp))
      · rw [mkW_succ]; exact take_set_succ htk (by omega)
    · have hin : i = hh.n := by simp at h; omega
      subst hin
      repeat first|refine W.g ?_|refine L.p rfl rfl ?_|refine L.nil ?_|refine L.skip rfl ?_
      refine ⟨ws.length - (k + 1), by omega, k + 1, rfl, by omega, rfl, ?_, ?_, ?_⟩
      · refine (force_eq rfl).trans ?_
        rw [wrap64 (by omega) (by omega)]; rfl
      · exact hkeep.trans (hkp.mono fun b hm => blks_mem hkh (by simpa using hm))
      · intro i h hi'
        by_cases hik : i = k
        · subst hik
          rw [hkh] at hi'; cases hi'
          rw [if_pos (by omega)]
          rw [List.take_of_length_le (Nat.le_of_eq hl.len)] at htk
          rw [← htk]; exact hl
        · have hne : ∀ b, h.a = some b → b ∉ hh.a.toList := fun b e hm => hik (hOws i k h hh b hi' hkh e (by simpa using hm))
          have := hst i h hi'
          split at this
          · rw [if_pos (by omega)]; exact this.keep hkp hne
          · rw [if_neg (by omega)]
            obtain ⟨l', hl'⟩ := this
            exact ⟨l', hl'.keep hkp hne⟩
  have hkl : k = ws.length := by simp at h; omega
  subst hkl
  have hMws : Marked S' 55 mkW 0 ws := fun i h hi => by
    have := hst i h hi
    have hlt := (List.getElem?_eq_some_iff.1 hi).1
    rw [if_pos hlt] at this
    exact this
  clear hst h hr h2 h3 h5 h6 hlen ek
  rename Mem => S1
  have hBbs := hBws.keep hkeep hdws
  have hAbs := hAbs.keep hkeep hdd
  have hkeep1 := hkeep
  clear hBws hkeep e0 hk
  repeat first|refine W.g ?_|refine L.p rfl rfl ?_|refine L.nil ?_|refine L.skip rfl ?_
  refine W.loop (fun j e S' => ∃ k : Nat, j = bs.length - k ∧ k ≤ bs.length ∧ e 0 = .pointer (some ⟨rb, 0, none⟩) ∧ e 5 = vi k ∧ KeepL (blks bs) S1 S' ∧ (∀ (i : Nat) (h : Hd), bs[i]? = some h → if i < k then HdOk S' 5 h (mkB i h.n) else ∃ l, HdOk S' 5 h l)) bs.length
    ⟨0, by omega, by omega, rfl, rfl, KeepL.refl _ _, fun i h hi => by rw [if_neg (by omega)]; exact (hAbs i h hi).2⟩ ?_
  rintro j e S' ⟨k, rfl, hk, e0, ek, hkeep, hst⟩
  refine W.env2 e0 ek ?_
  obtain ⟨hw, hb, hr, h2, h3, h4, h5, h6⟩ := hBbs.keep hkeep hdbs
  have hlen := h3.len
  rw [List.length_map] at hlen
  repeat first|refine W.g ?_|refine L.p rfl rfl ?_|refine L.nil ?_|refine L.skip rfl ?_
  refine L.ld (cell_of hr rfl) rfl rfl rfl ?_
  repeat first|refine W.g ?_|refine L.p rfl rfl ?_|refine L.nil ?_|refine L.skip rfl ?_
  refine W.ite rfl (fun h => ?_) (fun h => ?_)
  · have hkl : k < bs.length := by simp at h; omega
    obtain ⟨hh, hkh⟩ : ∃ hh, bs[k]? = some hh := ⟨_, List.getElem?_eq_getElem hkl⟩
    have hel : (bs.map Hd.v)[k]? = some hh.v := by rw [List.getElem?_map, hkh]; rfl
    obtain ⟨l0, hl0⟩ : ∃ l, HdOk S' 5 hh l := by have := hst k hh hkh; rwa [if_neg (by omega)] at this
    have hnb : ∀ b, hh.a = some b → b ≠ rb := fun b e hm => hdbs b (blks_mem hkh e) (hm ▸ h4)
    have hnw : ∀ b, hh.a = some b → hb.a ≠ some b := fun b e hm => hdbs b (blks_mem hkh e) (h6 b hm).1
    have hsm := (hAbs k hh hkh).1
    clear h
    repeat first|refine W.g ?_|refine L.p rfl rfl ?_|refine L.nil ?_|refine L.skip rfl ?_
    refine W.loop (fun j e S'' => ∃ (i : Nat) (l : List Value), j = hh.n - i ∧ i ≤ hh.n ∧ e 0 = .pointer (some ⟨rb, 0, none⟩) ∧ e 5 = vi k ∧ e 6 = vi i ∧ KeepL hh.a.toList S' S'' ∧ HdOk S'' 5 hh l ∧ l.take i = mkB k i) hh.n
      ⟨0, l0, by omega, by omega, rfl, rfl, rfl, KeepL.refl _ _, hl0, rfl⟩ ?_
    rintro j e S'' ⟨i, l, rfl, hi, e0, ek, ei, hkp, hl, htk⟩
    refine W.env3 e0 ek ei ?_
    have hr2 := hkp.row hr (fun hm => hnb rb (by simpa using hm) rfl)
    have hx2 := h3.keep hkp (fun b e hm => hnw b (by simpa using hm) e)
    repeat first|refine W.g ?_|refine L.p rfl rfl ?_|refine L.nil ?_|refine L.skip rfl ?_
    refine L.ld (cell_of hr2 rfl) rfl rfl rfl ?_
    repeat first|refine W.g ?_|refine L.p rfl rfl ?_|refine L.nil ?_|refine L.skip rfl ?_
    refine L.el hx2.slv rfl hel rfl rfl rfl rfl (fun _ => rfl) rfl (fun p => ?_)
    repeat first|refine W.g ?_|refine L.p rfl rfl ?_|refine L.nil ?_|refine L.skip rfl ?_
    refine W.ite rfl (fun h => ?_) (fun h => ?_)
    · have hin : i < hh.n := by simp at h; omega
      obtain ⟨a, n, c⟩ := hh
      obtain ⟨b, rfl⟩ : ∃ b, a = some b := by
        obtain ⟨_, ⟨_, h0, _⟩ | ⟨b, _, h0, _⟩⟩ := hl
        · dsimp only at h0 hin; omega
        · exact ⟨b, h0⟩
      obtain ⟨r, hrr, hro, hrl, hrt⟩ := hl.row
      have hll := hl.len
      dsimp only at hin hll hi
      repeat first|refine W.g ?_|refine L.p rfl rfl ?_|refine L.nil ?_|refine L.skip rfl ?_
      refine L.ld (cell_of hr2 rfl) rfl rfl rfl ?_
      repeat first|refine W.g ?_|refine L.p rfl rfl ?_|refine L.nil ?_|refine L.skip rfl ?_
      refine L.el hx2.slv rfl hel rfl rfl rfl rfl (fun _ => rfl) rfl (fun p => ?_)
      repeat first|refine W.g ?_|refine L.p rfl rfl ?_|refine L.nil ?_|refine L.skip rfl ?_
      refine L.cl (mark_C _ _ _) rfl rfl ?_
      rintro _ _ ⟨rfl, rfl⟩
      refine ⟨fun _ => Cons.refl _, ?_⟩
      repeat first|refine W.g ?_|refine L.p rfl rfl ?_|refine L.nil ?_|refine L.skip rfl ?_
      refine L.elst hrr hro (by omega) rfl hin rfl rfl rfl rfl (fun _ => rfl) (fun _ => rfl) rfl rfl rfl (fun p => ?_)
      repeat first|refine W.g ?_|refine L.p rfl rfl ?_|refine L.nil ?_|refine L.skip rfl ?_
      rw [Nat.zero_add]
      refine ⟨n - (i + 1), by show n - (i + 1) < n - i; omega, i + 1, _, rfl, by show i + 1 ≤ n; omega, rfl, rfl, ?_, ?_, hl.set _ hrr, ?_⟩
      · refine (force_eq rfl).trans ?_
        rw [wrap64 (by omega) (by dsimp only at hsm; omega)]; rfl
      · exact hkp.trans ((Keep.set b _ _).keepL (by simp))
      · rw [mkB_succ, show v8 ((mk k i).setWidth 8) = .int .u8 (IntKind.u8.wrap ((mk k i).toNat : Int)) by rw [u8_of_v64]]; exact take_set_succ htk (by omega)
    · have hin : i = hh.n := by simp at h; omega
      subst hin
      repeat first|refine W.g ?_|refine L.p rfl rfl ?_|refine L.nil ?_|refine L.skip rfl ?_
      refine ⟨bs.length - (k + 1), by omega, k + 1, rfl, by omega, rfl, ?_, ?_, ?_⟩
      · refine (force_eq rfl).trans ?_
        rw [wrap64 (by omega) (by omega)]; rfl
      · exact hkeep.trans (hkp.mono fun b hm => blks_mem hkh (by simpa using hm))
      · intro i h hi'
        by_cases hik : i = k
        · subst hik
          rw [hkh] at hi'; cases hi'
          rw [if_pos (by omega)]
          rw [List.take_of_length_le (Nat.le_of_eq hl.len)] at htk
          rw [← htk]; exact hl
        · have hne : ∀ b, h.a = some b → b ∉ hh.a.toList := fun b e hm => hik (hObs i k h hh b hi' hkh e (by simpa using hm))
          have := hst i h hi'
          split at this
          · rw [if_pos (by omega)]; exact this.keep hkp hne
          · rw [if_neg (by omega)]
            obtain ⟨l', hl'⟩ := this
            exact ⟨l', hl'.keep hkp hne⟩
  have hkl : k = bs.length := by simp at h; omega
  subst hkl
  have hMbs : Marked S' 5 mkB 0 bs := fun i h hi => by
    have := hst i h hi
    have hlt := (List.getElem?_eq_some_iff.1 hi).1
    rw [if_pos hlt] at this
    exact this
  clear hst h hr h2 h3 h5 h6 hlen ek
  rename Mem => S2
  have hBws := hBbs.keep hkeep hdbs
  have hMbs2 : Marked S2 5 mkB 0 bs := hMbs
  have hMws : Marked S2 55 mkW 0 ws := fun i h hi => (hMws i h hi).keep hkeep (fun b e hm => hdd b (blks_mem hi e) hm)
  have hkeep2 : KeepL (blks ws ++ blks bs) S S2 := (hkeep1.mono (by simp +contextual)).trans (hkeep.mono (by simp +contextual))
  clear hBbs hkeep hkeep1 e0 hk
  repeat first|refine W.g ?_|refine L.p rfl rfl ?_|refine L.nil ?_|refine L.skip rfl ?_
  refine W.loop (fun j e S' => ∃ (k : Nat) (dw : List Hd) (hxw : Hd), j = ws.length - k ∧ k ≤ ws.length ∧ e 0 = .pointer (some ⟨rb, 0, none⟩) ∧ e 8 = vi k ∧ e 7 = hxw.v ∧ e 0 = .pointer (some ⟨rb, 0, none⟩) ∧ dw.length = k ∧ KeepL (blks ws) S2 S' ∧ HdOk S' 22 hxw (dw.map Hd.v) ∧
      (∀ b, hxw.a = some b → List.length S2 ≤ b) ∧ (∀ (i : Nat) (d : Hd), dw[i]? = some d → (∃ h, ws[i]? = some h ∧ HdOk S' 55 d (mkW i (h.n + 64)) ∧ d.n = h.n + 64) ∧ ∃ b, d.a = some b ∧ List.length S2 ≤ b ∧ hxw.a ≠ some b) ∧
      (∀ (i : Nat) (h : Hd), ws[i]? = some h → k ≤ i → HdOk S' 55 h (mkW i h.n))) ws.length
    ⟨0, [], ⟨none, 0, 0⟩, by omega, by omega, rfl, rfl, rfl, rfl, rfl, KeepL.refl _ _, HdOk.nil _ _, nofun, fun i d hi => by simp at hi, fun i h hi _ => hMws i h hi⟩ ?_
  rintro j e S' ⟨k, dw, hxw, rfl, hk, e0, ek, ex, eo, hdl, hkeep, hhx, hxb, hds, hst⟩
  refine W.env4 e0 ek ex eo ?_
  obtain ⟨hw, hb, hr, h2, h3, h4, h5, h6⟩ := hBws.keep hkeep hdws
  have hlen := h2.len
  rw [List.length_map] at hlen
  repeat first|refine W.g ?_|refine L.p rfl rfl ?_|refine L.nil ?_|refine L.skip rfl ?_
  refine L.ld (cell_of hr rfl) rfl rfl rfl ?_
  repeat first|refine W.g ?_|refine L.p rfl rfl ?_|refine L.nil ?_|refine L.skip rfl ?_
  refine W.ite rfl (fun h => ?_) (fun h => ?_)
  · have hkl : k < ws.length := by simp at h; omega
    obtain ⟨hh, hkh⟩ : ∃ hh, ws[k]? = some hh := ⟨_, List.getElem?_eq_getElem hkl⟩
    have hel : (ws.map Hd.v)[k]? = some hh.v := by rw [List.getElem?_map, hkh]; rfl
    have hl0 := hst k hh hkh (Nat.le_refl _)
    have hnb : ∀ b, hh.a = some b → b ≠ rb := fun b e hm => hdws b (blks_mem hkh e) (hm ▸ h4)
    have hnw : ∀ b, hh.a = some b → hw.a ≠ some b := fun b e hm => hdws b (blks_mem hkh e) (h5 b hm).1
    have hlt : ∀ b, hh.a = some b → b < List.length S2 := fun b e => by
      have := hMws k hh hkh
      exact this.lt e
    have hsm := (hAws k hh hkh).1
    have hSl := hkeep.1
    clear h
    repeat first|refine W.g ?_|refine L.p rfl rfl ?_|refine L.nil ?_|refine L.skip rfl ?_
    refine L.ld (cell_of hr rfl) rfl rfl rfl ?_
    repeat first|refine W.g ?_|refine L.p rfl rfl ?_|refine L.nil ?_|refine L.skip rfl ?_
    refine L.el h2.slv rfl hel rfl rfl rfl rfl (fun _ => rfl) rfl (fun p => ?_)
    repeat first|refine W.g ?_|refine L.p rfl rfl ?_|refine L.nil ?_|refine L.skip rfl ?_
    refine W.loop (fun j e S'' => ∃ (i : Nat) (hl : Hd), j = 64 - i ∧ i ≤ 64 ∧ e 0 = .pointer (some ⟨rb, 0, none⟩) ∧ e 8 = vi k ∧ e 7 = hxw.v ∧ e 0 = .pointer (some ⟨rb, 0, none⟩) ∧ e 9 = hl.v ∧ e 10 = vi i ∧ KeepL hh.a.toList S' S'' ∧ HdOk S'' 55 hl (mkW k (hh.n + i)) ∧ hl.n = hh.n + i ∧ ((i = 0 ∧ hl.a = hh.a) ∨ ∃ b, hl.a = some b ∧ List.length S' ≤ b)) 64
      ⟨0, hh, by omega, by omega, rfl, rfl, rfl, rfl, rfl, rfl, KeepL.refl _ _, hl0, rfl, .inl ⟨rfl, rfl⟩⟩ ?_
    rintro j e S'' ⟨i, hl, rfl, hi, e0, ek, ex, eo, el, ei, hkp, hhl, hln, hla⟩
    refine W.env6 e0 ek ex eo el ei ?_
    have hr2 := hkp.row hr (fun hm => hnb rb (by simpa using hm) rfl)
    have hx2 := h2.keep hkp (fun b e hm => hnw b (by simpa using hm) e)
    repeat first|refine W.g ?_|refine L.p rfl rfl ?_|refine L.nil ?_|refine L.skip rfl ?_
    refine W.ite rfl (fun h => ?_) (fun h => ?_)
    · have hin : i < 64 := by simp at h; omega
      repeat first|refine W.g ?_|refine L.p rfl rfl ?_|refine L.nil ?_|refine L.skip rfl ?_
      refine L.ld (cell_of hr2 rfl) rfl rfl rfl ?_
      repeat first|refine W.g ?_|refine L.p rfl rfl ?_|refine L.nil ?_|refine L.skip rfl ?_
      refine L.el hx2.slv rfl hel rfl rfl rfl rfl (fun _ => rfl) rfl (fun p => ?_)
      repeat first|refine W.g ?_|refine L.p rfl rfl ?_|refine L.nil ?_|refine L.skip rfl ?_
      refine L.cl (mark_C _ _ _) rfl rfl ?_
      rintro _ _ ⟨rfl, rfl⟩
      refine ⟨fun _ => Cons.refl _, ?_⟩
      repeat first|refine W.g ?_|refine L.p rfl rfl ?_|refine L.nil ?_|refine L.skip rfl ?_
      refine L.pushH (h := hl) rfl hhl rfl rfl rfl rfl rfl (by omega) rfl (fun _ => rfl) (fun p h' S9 k1 k2 k3 k4 => ?_)
      rw [wrap64 (by omega) (by omega)] at k1
      repeat first|refine W.g ?_|refine L.p rfl rfl ?_|refine L.nil ?_|refine L.skip rfl ?_
      obtain ⟨b', k5, k6⟩ := k3
      have hSl2 := hkp.1
      refine ⟨64 - (i + 1), by omega, i + 1, h', rfl, by omega, rfl, rfl, rfl, rfl, rfl, ?_, ?_, ?_, by omega, .inr ⟨b', k5, by omega⟩⟩
      · refine (force_eq rfl).trans ?_
        rw [wrap64 (by omega) (by omega)]; rfl
      · refine hkp.then k4 ?_
        intro r hm
        rcases hla with ⟨_, hla⟩ | ⟨b, hla, hlb⟩
        · rw [hla] at hm; exact .inl hm
        · rw [hla] at hm; simp at hm; exact .inr (by omega)
      · rw [show hh.n + (i + 1) = (hh.n + i) + 1 by omega, mkW_succ]
        exact k1
    · have hin : i = 64 := by simp at h; omega
      subst hin
      obtain ⟨bl, hla, hlb⟩ : ∃ b, hl.a = some b ∧ List.length S' ≤ b := by
        rcases hla with ⟨h0, _⟩ | h0
        · omega
        · exact h0
      have hbl := hhl.lt hla
      have hxk : HdOk S'' 22 hxw (dw.map Hd.v) := hhx.keep hkp (fun b e hm => by have := hxb b e; have := hlt b (by simpa using hm); omega)
      have hxn := hxk.len
      rw [List.length_map] at hxn
      repeat first|refine W.g ?_|refine L.p rfl rfl ?_|refine L.nil ?_|refine L.skip rfl ?_
      refine L.pushH (h := hxw) rfl hxk rfl rfl rfl rfl rfl (by omega) rfl (fun _ => rfl) (fun p h' S9 k1 k2 k3 k4 => ?_)
      obtain ⟨b', k5, k6⟩ := k3
      repeat first|refine W.g ?_|refine L.p rfl rfl ?_|refine L.nil ?_|refine L.skip rfl ?_
      have hSl2 := hkp.1
      have hkS : KeepL (blks ws) S' S'' := hkp.mono fun b hm => blks_mem hkh (by simpa using hm)
      have hk4 : ∀ r ∈ hxw.a.toList, r ∈ blks ws ∨ List.length S2 ≤ r := fun r hm => .inr (hxb r (by simpa using hm))
      refine ⟨ws.length - (k + 1), by omega, k + 1, dw ++ [hl], h', rfl, by omega, rfl, ?_, rfl, rfl, by simp [hdl], (hkeep.trans hkS).then k4 hk4, by rw [List.map_append]; exact k1, ?_, ?_, ?_⟩
      · refine (force_eq rfl).trans ?_
        rw [wrap64 (by omega) (by omega)]; rfl
      · intro b e; rw [k5] at e; cases e; omega
      · intro i d hi'
        rw [List.getElem?_append] at hi'
        split at hi'
        · obtain ⟨⟨h9, q1, q2, q3⟩, b9, q4, q5, q6⟩ := hds i d hi'
          have q7 := q2.lt q4
          refine ⟨⟨h9, q1, (q2.keep hkp (fun b e hm => ?_)).keep k4 (fun b e hm => ?_), q3⟩, b9, q4, q5, fun e => ?_⟩
          · rw [q4] at e; cases e
            have := hlt _ (by simpa using hm : hh.a = some b9); omega
          · rw [q4] at e; cases e
            exact q6 (by simpa using hm)
          · rw [k5] at e; cases e; omega
        · rename_i hge
          rw [List.getElem?_singleton] at hi'
          split at hi'
          · rename_i h0
            cases hi'
            have hik : i = k := by omega
            subst hik
            refine ⟨⟨hh, hkh, hhl.keep k4 (fun b e hm => ?_), hln⟩, bl, hla, by omega, fun e => ?_⟩
            · rw [hla] at e; cases e
              have := hhx.lt (by simpa using hm : hxw.a = some bl)
              omega
            · rw [k5] at e; cases e; omega
          · cases hi'
      · intro i h hi' hge
        have hq := hst i h hi' (by omega)
        refine (hq.keep hkp (fun b e hm => ?_)).keep k4 (fun b e hm => ?_)
        · have := hOws i k h hh b hi' hkh e (by simpa using hm); omega
        · have := hxb b (by simpa using hm)
          have := (hMws i h hi').lt e
          omega
  have hkl : k = ws.length := by simp at h; omega
  clear h hr h2 h3 h5 h6 hlen ek e0 hst
  subst hkl
  rename Mem => S3
  have hBbs := hBws.keep hkeep hdws
  have hMbs : Marked S3 5 mkB 0 bs := fun i h hi => (hMbs i h hi).keep hkeep (fun b e hm => hdd b hm (blks_mem hi e))
  have hhxdw := hhx
  have hdsdw := hds
  have hxbw := hxb
  have hkeep3 : KeepL (blks ws ++ blks bs) S S3 := hkeep2.trans (hkeep.mono (by simp +contextual))
  have hS23 := hkeep.1
  clear hkeep hkeep2 hhx hds hxb hBws hk
  repeat first|refine W.g ?_|refine L.p rfl rfl ?_|refine L.nil ?_|refine L.skip rfl ?_
  refine W.loop (fun j e S' => ∃ (k : Nat) (ds : List Hd) (hx : Hd), j = bs.length - k ∧ k ≤ bs.length ∧ e 0 = .pointer (some ⟨rb, 0, none⟩) ∧ e 12 = vi k ∧ e 11 = hx.v ∧ e 7 = hxw.v ∧ ds.length = k ∧ KeepL (blks bs) S3 S' ∧ HdOk S' 43 hx (ds.map Hd.v) ∧
      (∀ b, hx.a = some b → List.length S3 ≤ b) ∧ (∀ (i : Nat) (d : Hd), ds[i]? = some d → (∃ h, bs[i]? = some h ∧ HdOk S' 5 d (mkB i (h.n + 64)) ∧ d.n = h.n + 64) ∧ ∃ b, d.a = some b ∧ List.length S3 ≤ b ∧ hx.a ≠ some b) ∧
      (∀ (i : Nat) (h : Hd), bs[i]? = some h → k ≤ i → HdOk S' 5 h (mkB i h.n))) bs.length
    ⟨0, [], ⟨none, 0, 0⟩, by omega, by omega, rfl, rfl, rfl, rfl, rfl, KeepL.refl _ _, HdOk.nil _ _, nofun, fun i d hi => by simp at hi, fun i h hi _ => hMbs i h hi⟩ ?_
  rintro j e S' ⟨k, ds, hx, rfl, hk, e0, ek, ex, eo, hdl, hkeep, hhx, hxb, hds, hst⟩
  refine W.env4 e0 ek ex eo ?_
  obtain ⟨hw, hb, hr, h2, h3, h4, h5, h6⟩ := hBbs.keep hkeep hdbs
  have hlen := h3.len
  rw [List.length_map] at hlen
  repeat first|refine W.g ?_|refine L.p rfl rfl ?_|refine L.nil ?_|refine L.skip rfl ?_
  refine L.ld (cell_of hr rfl) rfl rfl rfl ?_
  repeat first|refine W.g ?_|refine L.p rfl rfl ?_|refine L.nil ?_|refine L.skip rfl ?_
  refine W.ite rfl (fun h => ?_) (fun h => ?_)
  · have hkl : k < bs.length := by simp at h; omega
    obtain ⟨hh, hkh⟩ : ∃ hh, bs[k]? = some hh := ⟨_, List.getElem?_eq_getElem hkl⟩
    have hel : (bs.map Hd.v)[k]? = some hh.v := by rw [List.getElem?_map, hkh]; rfl
    have hl0 := hst k hh hkh (Nat.le_refl _)
    have hnb : ∀ b, hh.a = some b → b ≠ rb := fun b e hm => hdbs b (blks_mem hkh e) (hm ▸ h4)
    have hnw : ∀ b, hh.a = some b → hb.a ≠ some b := fun b e hm => hdbs b (blks_mem hkh e) (h6 b hm).1
    have hlt : ∀ b, hh.a = some b → b < List.length S3 := fun b e => by
      have := hMbs k hh hkh
      exact this.lt e
    have hsm := (hAbs k hh hkh).1
    have hSl := hkeep.1
    clear h
    repeat first|refine W.g ?_|refine L.p rfl rfl ?_|refine L.nil ?_|refine L.skip rfl ?_
    refine L.ld (cell_of hr rfl) rfl rfl rfl ?_
    repeat first|refine W.g ?_|refine L.p rfl rfl ?_|refine L.nil ?_|refine L.skip rfl ?_
    refine L.el h3.slv rfl hel rfl rfl rfl rfl (fun _ => rfl) rfl (fun p => ?_)
    repeat first|refine W.g ?_|refine L.p rfl rfl ?_|refine L.nil ?_|refine L.skip rfl ?_
    refine W.loop (fun j e S'' => ∃ (i : Nat) (hl : Hd), j = 64 - i ∧ i ≤ 64 ∧ e 0 = .pointer (some ⟨rb, 0, none⟩) ∧ e 12 = vi k ∧ e 11 = hx.v ∧ e 7 = hxw.v ∧ e 13 = hl.v ∧ e 14 = vi i ∧ KeepL hh.a.toList S' S'' ∧ HdOk S'' 5 hl (mkB k (hh.n + i)) ∧ hl.n = hh.n + i ∧ ((i = 0 ∧ hl.a = hh.a) ∨ ∃ b, hl.a = some b ∧ List.length S' ≤ b)) 64
      ⟨0, hh, by omega, by omega, rfl, rfl, rfl, rfl, rfl, rfl, KeepL.refl _ _, hl0, rfl, .inl ⟨rfl, rfl⟩⟩ ?_
    rintro j e S'' ⟨i, hl, rfl, hi, e0, ek, ex, eo, el, ei, hkp, hhl, hln, hla⟩
    refine W.env6 e0 ek ex eo el ei ?_
    have hr2 := hkp.row hr (fun hm => hnb rb (by simpa using hm) rfl)
    have hx2 := h3.keep hkp (fun b e hm => hnw b (by simpa using hm) e)
    repeat first|refine W.g ?_|refine L.p rfl rfl ?_|refine L.nil ?_|refine L.skip rfl ?_
    refine W.ite rfl (fun h => ?_) (fun h => ?_)
    · have hin : i < 64 := by simp at h; omega
      repeat first|refine W.g ?_|refine L.p rfl rfl ?_|refine L.nil ?_|refine L.skip rfl ?_
      refine L.ld (cell_of hr2 rfl) rfl rfl rfl ?_
      repeat first|refine W.g ?_|refine L.p rfl rfl ?_|refine L.nil ?_|refine L.skip rfl ?_
      refine L.el hx2.slv rfl hel rfl rfl rfl rfl (fun _ => rfl) rfl (fun p => ?_)
      repeat first|refine W.g ?_|refine L.p rfl rfl ?_|refine L.nil ?_|refine L.skip rfl ?_
      refine L.cl (mark_C _ _ _) rfl rfl ?_
      rintro _ _ ⟨rfl, rfl⟩
      refine ⟨fun _ => Cons.refl _, ?_⟩
      repeat first|refine W.g ?_|refine L.p rfl rfl ?_|refine L.nil ?_|refine L.skip rfl ?_
      refine L.pushH (h := hl) rfl hhl rfl rfl rfl rfl rfl (by omega) rfl (fun _ => rfl) (fun p h' S9 k1 k2 k3 k4 => ?_)
      rw [wrap64 (by omega) (by omega)] at k1
      repeat first|refine W.g ?_|refine L.p rfl rfl ?_|refine L.nil ?_|refine L.skip rfl ?_
      obtain ⟨b', k5, k6⟩ := k3
      have hSl2 := hkp.1
      refine ⟨64 - (i + 1), by omega, i + 1, h', rfl, by omega, rfl, rfl, rfl, rfl, rfl, ?_, ?_, ?_, by omega, .inr ⟨b', k5, by omega⟩⟩
      · refine (force_eq rfl).trans ?_
        rw [wrap64 (by omega) (by omega)]; rfl
      · refine hkp.then k4 ?_
        intro r hm
        rcases hla with ⟨_, hla⟩ | ⟨b, hla, hlb⟩
        · rw [hla] at hm; exact .inl hm
        · rw [hla] at hm; simp at hm; exact .inr (by omega)
      · rw [show hh.n + (i + 1) = (hh.n + i) + 1 by omega, mkB_succ]
        (rw [u8_of_v64] at k1; exact k1)
    · have hin : i = 64 := by simp at h; omega
      subst hin
      obtain ⟨bl, hla, hlb⟩ : ∃ b, hl.a = some b ∧ List.length S' ≤ b := by
        rcases hla with ⟨h0, _⟩ | h0
        · omega
        · exact h0
      have hbl := hhl.lt hla
      have hxk : HdOk S'' 43 hx (ds.map Hd.v) := hhx.keep hkp (fun b e hm => by have := hxb b e; have := hlt b (by simpa using hm); omega)
      have hxn := hxk.len
      rw [List.length_map] at hxn
      repeat first|refine W.g ?_|refine L.p rfl rfl ?_|refine L.nil ?_|refine L.skip rfl ?_
      refine L.pushH (h := hx) rfl hxk rfl rfl rfl rfl rfl (by omega) rfl (fun _ => rfl) (fun p h' S9 k1 k2 k3 k4 => ?_)
      obtain ⟨b', k5, k6⟩ := k3
      repeat first|refine W.g ?_|refine L.p rfl rfl ?_|refine L.nil ?_|refine L.skip rfl ?_
      have hSl2 := hkp.1
      have hkS : KeepL (blks bs) S' S'' := hkp.mono fun b hm => blks_mem hkh (by simpa using hm)
      have hk4 : ∀ r ∈ hx.a.toList, r ∈ blks bs ∨ List.length S3 ≤ r := fun r hm => .inr (hxb r (by simpa using hm))
      refine ⟨bs.length - (k + 1), by omega, k + 1, ds ++ [hl], h', rfl, by omega, rfl, ?_, rfl, rfl, by simp [hdl], (hkeep.trans hkS).then k4 hk4, by rw [List.map_append]; exact k1, ?_, ?_, ?_⟩
      · refine (force_eq rfl).trans ?_
        rw [wrap64 (by omega) (by omega)]; rfl
      · intro b e; rw [k5] at e; cases e; omega
      · intro i d hi'
        rw [List.getElem?_append] at hi'
        split at hi'
        · obtain ⟨⟨h9, q1, q2, q3⟩, b9, q4, q5, q6⟩ := hds i d hi'
          have q7 := q2.lt q4
          refine ⟨⟨h9, q1, (q2.keep hkp (fun b e hm => ?_)).keep k4 (fun b e hm => ?_), q3⟩, b9, q4, q5, fun e => ?_⟩
          · rw [q4] at e; cases e
            have := hlt _ (by simpa using hm : hh.a = some b9); omega
          · rw [q4] at e; cases e
            exact q6 (by simpa using hm)
          · rw [k5] at e; cases e; omega
        · rename_i hge
          rw [List.getElem?_singleton] at hi'
          split at hi'
          · rename_i h0
            cases hi'
            have hik : i = k := by omega
            subst hik
            refine ⟨⟨hh, hkh, hhl.keep k4 (fun b e hm => ?_), hln⟩, bl, hla, by omega, fun e => ?_⟩
            · rw [hla] at e; cases e
              have := hhx.lt (by simpa using hm : hx.a = some bl)
              omega
            · rw [k5] at e; cases e; omega
          · cases hi'
      · intro i h hi' hge
        have hq := hst i h hi' (by omega)
        refine (hq.keep hkp (fun b e hm => ?_)).keep k4 (fun b e hm => ?_)
        · have := hObs i k h hh b hi' hkh e (by simpa using hm); omega
        · have := hxb b (by simpa using hm)
          have := (hMbs i h hi').lt e
          omega
  have hkl : k = bs.length := by simp at h; omega
  clear h hr h2 h3 h5 h6 hlen ek e0 hst
  subst hkl
  rename Mem => S4
  have hkeep4 : KeepL (blks ws ++ blks bs) S S4 := hkeep3.trans (hkeep.mono (by simp +contextual))
  have hblt : ∀ b ∈ blks bs, b < List.length S2 := fun b hm => by
    obtain ⟨k, d, h1, h2⟩ := blks_at hm
    exact (hMbs2 k d h1).lt h2
  have hhxdw := hhxdw.keep hkeep (fun b e hm => by have := hxbw b e; have := hblt b hm; omega)
  have hdsdw : ∀ (i : Nat) (d : Hd), dw[i]? = some d → (∃ h, ws[i]? = some h ∧ HdOk S4 55 d (mkW i (h.n + 64)) ∧ d.n = h.n + 64) ∧ True := fun i d hi => by
    obtain ⟨⟨h9, q1, q2, q3⟩, b9, q4, q5, q6⟩ := hdsdw i d hi
    exact ⟨⟨h9, q1, q2.keep hkeep (fun b e hm => by rw [q4] at e; cases e; have := hblt _ hm; omega), q3⟩, trivial⟩
  have hhxds := hhx
  have hdsds := hds
  clear hkeep hkeep3 hhx hds hxb hBbs hk hxbw
  repeat first|refine W.g ?_|refine L.p rfl rfl ?_|refine L.nil ?_|refine L.skip rfl ?_
  refine W.loop (fun j e S' => ∃ k : Nat, j = dw.length - k ∧ k ≤ dw.length ∧ S4 = S' ∧ e 7 = hxw.v ∧ e 15 = vi k ∧ e 11 = hx.v) dw.length ⟨0, by omega, by omega, rfl, rfl, rfl, rfl⟩ ?_
  rintro j e S' ⟨k, rfl, hk, rfl, ex, ek, eo⟩
  refine W.env3 ex ek eo ?_
  have hlen := hhxdw.len
  rw [List.length_map] at hlen
  repeat first|refine W.g ?_|refine L.p rfl rfl ?_|refine L.nil ?_|refine L.skip rfl ?_
  refine W.ite rfl (fun h => ?_) (fun h => ?_)
  · have hkl : k < dw.length := by simp at h; omega
    obtain ⟨dd, hkd⟩ : ∃ dd, dw[k]? = some dd := ⟨_, List.getElem?_eq_getElem hkl⟩
    have hel : (dw.map Hd.v)[k]? = some dd.v := by rw [List.getElem?_map, hkd]; rfl
    obtain ⟨⟨hh, hkh, hdok, hdn⟩, _⟩ := hdsdw k dd hkd
    rw [← hdn] at hdok
    have hsm := (hAws k hh hkh).1
    clear h
    repeat first|refine W.g ?_|refine L.p rfl rfl ?_|refine L.nil ?_|refine L.skip rfl ?_
    refine W.loop (fun j e S'' => ∃ i : Nat, j = dd.n - i ∧ i ≤ dd.n ∧ S4 = S'' ∧ e 7 = hxw.v ∧ e 15 = vi k ∧ e 11 = hx.v ∧ e 16 = vi i) dd.n ⟨0, by omega, by omega, rfl, rfl, rfl, rfl, rfl⟩ ?_
    rintro j e S'' ⟨i, rfl, hi, rfl, ex, ek, eo, ei⟩
    refine W.env4 ex ek eo ei ?_
    repeat first|refine W.g ?_|refine L.p rfl rfl ?_|refine L.nil ?_|refine L.skip rfl ?_
    refine L.el hhxdw.slv rfl hel rfl rfl rfl rfl (fun _ => rfl) rfl (fun p => ?_)
    repeat first|refine W.g ?_|refine L.p rfl rfl ?_|refine L.nil ?_|refine L.skip rfl ?_
    refine W.ite rfl (fun h => ?_) (fun h => ?_)
    · have hin : i < dd.n := by simp at h; omega
      repeat first|refine W.g ?_|refine L.p rfl rfl ?_|refine L.nil ?_|refine L.skip rfl ?_
      refine L.el hhxdw.slv rfl hel rfl rfl rfl rfl (fun _ => rfl) rfl (fun p => ?_)
      repeat first|refine W.g ?_|refine L.p rfl rfl ?_|refine L.nil ?_|refine L.skip rfl ?_
      refine L.el hdok.slv rfl (mkW_get hin) rfl rfl rfl rfl (fun _ => rfl) rfl (fun p => ?_)
      repeat first|refine W.g ?_|refine L.p rfl rfl ?_|refine L.nil ?_|refine L.skip rfl ?_
      refine L.cl (mark_C _ _ _) rfl rfl ?_
      rintro _ _ ⟨rfl, rfl⟩
      refine ⟨fun _ => Cons.refl _, ?_⟩
      repeat first|refine W.g ?_|refine L.p rfl rfl ?_|refine L.nil ?_|refine L.skip rfl ?_
      refine W.ite rfl (fun h => ?_) (fun h => ?_)
      · exfalso; (simp at h)
      · repeat first|refine W.g ?_|refine L.p rfl rfl ?_|refine L.nil ?_|refine L.skip rfl ?_
        refine ⟨dd.n - (i + 1), by omega, i + 1, rfl, by omega, rfl, rfl, rfl, rfl, ?_⟩
        refine (force_eq rfl).trans ?_
        rw [wrap64 (by omega) (by omega)]; rfl
    · repeat first|refine W.g ?_|refine L.p rfl rfl ?_|refine L.nil ?_|refine L.skip rfl ?_
      refine ⟨dw.length - (k + 1), by omega, k + 1, rfl, by omega, rfl, rfl, ?_, rfl⟩
      refine (force_eq rfl).trans ?_
      rw [wrap64 (by omega) (by omega)]; rfl
  clear h ek hlen
  repeat first|refine W.g ?_|refine L.p rfl rfl ?_|refine L.nil ?_|refine L.skip rfl ?_
  refine W.loop (fun j e S' => ∃ k : Nat, j = ds.length - k ∧ k ≤ ds.length ∧ S4 = S' ∧ e 11 = hx.v ∧ e 17 = vi k ∧ e 11 = hx.v) ds.length ⟨0, by omega, by omega, rfl, rfl, rfl, rfl⟩ ?_
  rintro j e S' ⟨k, rfl, hk, rfl, ex, ek, eo⟩
  refine W.env3 ex ek eo ?_
  have hlen := hhxds.len
  rw [List.length_map] at hlen
  repeat first|refine W.g ?_|refine L.p rfl rfl ?_|refine L.nil ?_|refine L.skip rfl ?_
  refine W.ite rfl (fun h => ?_) (fun h => ?_)
  · have hkl : k < ds.length := by simp at h; omega
    obtain ⟨dd, hkd⟩ : ∃ dd, ds[k]? = some dd := ⟨_, List.getElem?_eq_getElem hkl⟩
    have hel : (ds.map Hd.v)[k]? = some dd.v := by rw [List.getElem?_map, hkd]; rfl
    obtain ⟨⟨hh, hkh, hdok, hdn⟩, _⟩ := hdsds k dd hkd
    rw [← hdn] at hdok
    have hsm := (hAbs k hh hkh).1
    clear h
    repeat first|refine W.g ?_|refine L.p rfl rfl ?_|refine L.nil ?_|refine L.skip rfl ?_
    refine W.loop (fun j e S'' => ∃ i : Nat, j = dd.n - i ∧ i ≤ dd.n ∧ S4 = S'' ∧ e 11 = hx.v ∧ e 17 = vi k ∧ e 11 = hx.v ∧ e 18 = vi i) dd.n ⟨0, by omega, by omega, rfl, rfl, rfl, rfl, rfl⟩ ?_
    rintro j e S'' ⟨i, rfl, hi, rfl, ex, ek, eo, ei⟩
    refine W.env4 ex ek eo ei ?_
    repeat first|refine W.g ?_|refine L.p rfl rfl ?_|refine L.nil ?_|refine L.skip rfl ?_
    refine L.el hhxds.slv rfl hel rfl rfl rfl rfl (fun _ => rfl) rfl (fun p => ?_)
    repeat first|refine W.g ?_|refine L.p rfl rfl ?_|refine L.nil ?_|refine L.skip rfl ?_
    refine W.ite rfl (fun h => ?_) (fun h => ?_)
    · have hin : i < dd.n := by simp at h; omega
      repeat first|refine W.g ?_|refine L.p rfl rfl ?_|refine L.nil ?_|refine L.skip rfl ?_
      refine L.el hhxds.slv rfl hel rfl rfl rfl rfl (fun _ => rfl) rfl (fun p => ?_)
      repeat first|refine W.g ?_|refine L.p rfl rfl ?_|refine L.nil ?_|refine L.skip rfl ?_
      refine L.el hdok.slv rfl (mkB_get hin) rfl rfl rfl rfl (fun _ => rfl) rfl (fun p => ?_)
      repeat first|refine W.g ?_|refine L.p rfl rfl ?_|refine L.nil ?_|refine L.skip rfl ?_
      refine L.cl (mark_C _ _ _) rfl rfl ?_
      rintro _ _ ⟨rfl, rfl⟩
      refine ⟨fun _ => Cons.refl _, ?_⟩
      repeat first|refine W.g ?_|refine L.p rfl rfl ?_|refine L.nil ?_|refine L.skip rfl ?_
      refine W.ite rfl (fun h => ?_) (fun h => ?_)
      · exfalso; (rw [u8_of_v64] at h; simp at h)
      · repeat first|refine W.g ?_|refine L.p rfl rfl ?_|refine L.nil ?_|refine L.skip rfl ?_
        refine ⟨dd.n - (i + 1), by omega, i + 1, rfl, by omega, rfl, rfl, rfl, rfl, ?_⟩
        refine (force_eq rfl).trans ?_
        rw [wrap64 (by omega) (by omega)]; rfl
    · repeat first|refine W.g ?_|refine L.p rfl rfl ?_|refine L.nil ?_|refine L.skip rfl ?_
      refine ⟨ds.length - (k + 1), by omega, k + 1, rfl, by omega, rfl, rfl, ?_, rfl⟩
      refine (force_eq rfl).trans ?_
      rw [wrap64 (by omega) (by omega)]; rfl
  clear h ek hlen
  repeat first|refine W.g ?_|refine L.p rfl rfl ?_|refine L.nil ?_|refine L.skip rfl ?_
  exact ⟨.inr rfl, _, rfl, rfl, hkeep4⟩
end Go.Proofs.YtbdnkneedengcaaGreatDoor

/- The book from its making to its answer. Conditions: none. -/
set_option linter.unusedSimpArgs false
set_option linter.unusedVariables false
set_option maxRecDepth 100000
namespace Go.Proofs.YtbdnkneedengcaaGreatDoor
open Go
variable {G : Nat} {Ext : FuncId → List Value → Mem → Outc → Mem → Prop}

/-- a book made after M0, with these lists; nothing of M0 has changed -/
def BK (M0 S : Mem) (rb : Nat) (ws bs : List Hd) : Prop := Cons M0 S ∧ ∃ ps, Book S rb ws bs ps ∧ ∀ r ∈ ps, M0.length ≤ r
theorem BK.new (M0 : Mem) : BK M0 (M0 ++ [newR [.slice none 0 0, .slice none 0 0] 27]) M0.length [] [] :=
  ⟨Cons.push _ _, _, Book.new M0, fun r hm => by simp at hm; omega⟩
theorem BK.step {M0 S S' : Mem} {rb : Nat} {ws' bs' : List Hd} {ps ps' : List Nat} (hc : Cons M0 S) (hp : ∀ r ∈ ps, M0.length ≤ r) (q1 : Book S' rb ws' bs' ps') (q2 : Sub2 S ps ps') (q3 : KeepL ps S S') : BK M0 S' rb ws' bs' :=
  ⟨q3.cons0 hc hp, ps', q1, fun r hm => (q2 r hm).elim (hp r) (fun h => Nat.le_trans hc.len h)⟩
theorem words_BK {M0 S : Mem} {rb : Nat} {ws bs : List Hd} (h : Hd) (hK : BK M0 S rb ws bs) (hn : ws.length < 1000000) : C Tryz.prog G Ext 23 [.pointer (some ⟨rb, 0, none⟩), h.v] S fun v S' => BK M0 S' rb (ws ++ [h]) bs := by
  obtain ⟨hc, ps, hB, hp⟩ := hK
  obtain ⟨v, S', h1, ps', q1, q2, q3⟩ := words_C (G := G) (Ext := Ext) S h rb ws bs ps hB hn
  exact ⟨v, S', h1, .step hc hp q1 q2 q3⟩
theorem bytes_BK {M0 S : Mem} {rb : Nat} {ws bs : List Hd} (h : Hd) (hK : BK M0 S rb ws bs) (hn : bs.length < 1000000) : C Tryz.prog G Ext 36 [.pointer (some ⟨rb, 0, none⟩), h.v] S fun v S' => BK M0 S' rb ws (bs ++ [h]) := by
  obtain ⟨hc, ps, hB, hp⟩ := hK
  obtain ⟨v, S', h1, ps', q1, q2, q3⟩ := bytes_C (G := G) (Ext := Ext) S h rb ws bs ps hB hn
  exact ⟨v, S', h1, .step hc hp q1 q2 q3⟩
theorem Alive.nil (S : Mem) (el : TypeId) : Alive S el [] := fun i h hi => by simp at hi
theorem Alive.add {S : Mem} {el : TypeId} {d : Hd} {ds : List Hd} {l : List Value} (h : HdOk S el d l) (hn : l.length ≤ 1000000000000) (t : Alive S el ds) : Alive S el (d :: ds) := fun i x hi => by
  cases i with
  | zero => cases hi; exact ⟨by have := h.len; omega, l, h⟩
  | succ i => exact t i x hi
theorem Own.nil : Own [] := fun i j h d b hi => by simp at hi
theorem Own.add {d : Hd} {ds : List Hd} (h : ∀ b, d.a = some b → b ∉ blks ds) (t : Own ds) : Own (d :: ds) := fun i j x y b hi hj ex ey => by
  cases i with
  | zero =>
    cases hi
    cases j with
    | zero => rfl
    | succ j => exact absurd (blks_mem (k := j) hj ey) (h b ex)
  | succ i =>
    cases j with
    | zero => cases hj; exact absurd (blks_mem (k := i) hi ex) (h b ey)
    | succ j => exact congrArg (· + 1) (t i j x y b hi hj ex ey)
theorem mem_blks {d : Hd} {ds : List Hd} {b : Nat} : b ∈ blks (d :: ds) ↔ d.a = some b ∨ b ∈ blks ds := by
  unfold blks
  rw [List.filterMap_cons]
  cases h : d.a with
  | none => simp
  | some x => simp; exact or_congr_left eq_comm
theorem Alive.lt {S : Mem} {el : TypeId} {hs : List Hd} (h : Alive S el hs) {b : Nat} (hb : b ∈ blks hs) : b < S.length := by
  obtain ⟨k, d, h1, h2⟩ := blks_at hb
  obtain ⟨_, l, h3⟩ := h k d h1
  exact h3.lt h2
theorem apart_BK {M0 S : Mem} {rb : Nat} {ws bs : List Hd} (hK : BK M0 S rb ws bs) (hn : ws.length < 1000000 ∧ bs.length < 1000000) (hAws : Alive M0 55 ws) (hAbs : Alive M0 5 bs) (hOws : Own ws) (hObs : Own bs) (hdd : ∀ b ∈ blks ws, b ∉ blks bs) :
    C Tryz.prog G Ext 28 [.pointer (some ⟨rb, 0, none⟩)] S fun v S' => v = .bool true ∧ KeepL (blks ws ++ blks bs) M0 S' := by
  obtain ⟨hc, ps, hB, hp⟩ := hK
  obtain ⟨v, S', h1, h2, h3⟩ := apart_C (G := G) (Ext := Ext) S rb ws bs ps hB hn (hAws.keep (hc.keepL []) (by simp)) (hAbs.keep (hc.keepL []) (by simp)) hOws hObs (fun b hb hm => by have := hAws.lt hb; have := hp b hm; omega) (fun b hb hm => by have := hAbs.lt hb; have := hp b hm; omega) hdd
  exact ⟨v, S', h1, h2, (hc.keepL _).trans h3⟩
end Go.Proofs.YtbdnkneedengcaaGreatDoor

/- A book of words made after M0, with lists on their way to it. Conditions: none. -/
set_option linter.unusedSimpArgs false
set_option linter.unusedVariables false
set_option maxRecDepth 100000
namespace Go.Proofs.YtbdnkneedengcaaGreatDoor
open Go
variable {G : Nat} {Ext : FuncId → List Value → Mem → Outc → Mem → Prop}
def BkP (M0 T : Mem) (rb : Nat) (ws ds : List Hd) : Prop := Cons M0 T ∧ ∃ ps, Book T rb ws [] ps ∧ (∀ r ∈ ps, M0.length ≤ r ∧ r < T.length) ∧ Alive T 55 (ws ++ ds) ∧ Own (ws ++ ds) ∧ ∀ b ∈ blks (ws ++ ds), M0.length ≤ b ∧ b ∉ ps
theorem BkP.new (M0 : Mem) : BkP M0 (M0 ++ [newR [.slice none 0 0, .slice none 0 0] 27]) M0.length [] [] :=
  ⟨Cons.push _ _, [M0.length], Book.new M0, fun r hm => by simp at hm; simp; omega, .nil _ _, .nil, fun b hb => by simp [blks] at hb⟩
theorem BkP.cons {M0 T T' : Mem} {rb : Nat} {ws ds : List Hd} (h : BkP M0 T rb ws ds) (k : Cons T T') : BkP M0 T' rb ws ds := by
  obtain ⟨hc, ps, hB, hp, hA, hO, hD⟩ := h
  exact ⟨hc.trans k, ps, hB.cons k, fun r hm => ⟨(hp r hm).1, Nat.lt_of_lt_of_le (hp r hm).2 k.len⟩, hA.keep (k.keepL []) (by simp), hO, hD⟩
theorem mem_blks' {ds : List Hd} {d : Hd} {b : Nat} : b ∈ blks (ds ++ [d]) ↔ b ∈ blks ds ∨ d.a = some b := by
  unfold blks
  rw [List.filterMap_append, List.mem_append]
  refine or_congr_right ?_
  cases h : d.a with
  | none => simp [h]
  | some x => simp [h, eq_comm]
theorem BkP.add {M0 T T' : Mem} {rb : Nat} {ws ds : List Hd} {d : Hd} {l : WL} (h : BkP M0 T rb ws ds) (r : RetW T T' d l) (hl : l.length ≤ 1000000000000) : BkP M0 T' rb ws (ds ++ [d]) := by
  have h' := h.cons r.1
  obtain ⟨hc, ps, hB, hp, hA, hO, hD⟩ := h
  obtain ⟨_, ps', hB', hp', hA', _, _⟩ := h'
  have hlt : ∀ b ∈ blks (ws ++ ds), b < T.length := fun b hb => hA.lt hb
  have hn : d.n = l.length := by have := r.2.2.1.len; rw [wv_len] at this; omega
  refine ⟨hc.trans r.1, ps, hB.cons r.1, fun q hm => ⟨(hp q hm).1, Nat.lt_of_lt_of_le (hp q hm).2 r.1.len⟩, ?_, ?_, ?_⟩
  · intro i x hi
    rw [← List.append_assoc, List.getElem?_append] at hi
    split at hi
    · exact hA' i x hi
    · rw [List.getElem?_singleton] at hi
      split at hi
      · cases hi
        exact ⟨by omega, _, r.2.2.1⟩
      · cases hi
  · rw [← List.append_assoc]
    intro i j x y b hi hj ex ey
    rw [List.getElem?_append] at hi hj
    split at hi <;> split at hj
    · exact hO i j x y b hi hj ex ey
    · rw [List.getElem?_singleton] at hj
      split at hj
      · cases hj
        have h1 := hlt b (blks_mem hi ex)
        have h2 := r.2.2.2 b ey
        omega
      · cases hj
    · rw [List.getElem?_singleton] at hi
      split at hi
      · cases hi
        have h1 := hlt b (blks_mem hj ey)
        have h2 := r.2.2.2 b ex
        omega
      · cases hi
    · rw [List.getElem?_singleton] at hi hj
      split at hi
      · split at hj
        · omega
        · cases hj
      · cases hi
  · intro b hb
    rw [← List.append_assoc] at hb
    rcases mem_blks'.1 hb with hb | hb
    · exact hD b hb
    · have h2 := r.2.2.2 b hb
      exact ⟨Nat.le_trans hc.len h2, fun hm => by have := (hp b hm).2; omega⟩
end Go.Proofs.YtbdnkneedengcaaGreatDoor

/- Layer 1: numbers out of bytes. Conditions: none. -/
set_option linter.unusedSimpArgs false
set_option linter.unusedVariables false
set_option maxRecDepth 100000
namespace Go.Proofs.YtbdnkneedengcaaGreatDoor
open Go
variable {G : Nat} {Ext : FuncId → List Value → Mem → Outc → Mem → Prop}

/-- a list of bytes that may be read, and cut -/
def BIn (S : Mem) (a : Option Addr) (c : Nat) (l : BL) : Prop := Slv S 1 (.slice a l.length c) l.length (bv l) ∧ Cut l.length c ∧ l.length < 1099511627776
theorem BIn.cons {S S' : Mem} {a : Option Addr} {c : Nat} {l : BL} (h : BIn S a c l) (k : Cons S S') : BIn S' a c l := ⟨h.1.cons k, h.2⟩
theorem BIn.part {S : Mem} {a : Option Addr} {c k h : Nat} {l : BL} {lo hi : Option Value} (hI : BIn S a c l) (hl : LoIs lo k) (hh : HiIs hi l.length h) (hk : k ≤ h) (hn : h ≤ l.length) :
    ∃ a' c', aslice 1 a l.length c lo hi none = some (.slice a' ((l.drop k).take (h - k)).length c') ∧ BIn S a' c' ((l.drop k).take (h - k)) := by
  obtain ⟨a', c', h1, h2, h3, _⟩ := slv_part hI.1 hl hh hk hn hI.2.1
  have hlen : ((l.drop k).take (h - k)).length = h - k := by rw [List.length_take, List.length_drop]; omega
  refine ⟨a', c', by rw [hlen]; exact h1, ?_, by rw [hlen]; exact h3, by have := hI.2.2; omega⟩
  rw [hlen]
  rwa [show ((bv l).drop k).take (h - k) = bv ((l.drop k).take (h - k)) by simp [bv, List.map_take, List.map_drop]] at h2
theorem BIn.from {S : Mem} {a : Option Addr} {c k : Nat} {l : BL} {lv : Value} {kd : IntKind} (hI : BIn S a c l) (hl : lv = .int kd (k : Int)) (hk : k ≤ l.length) :
    ∃ a' c', aslice 1 a l.length c (some lv) none none = some (.slice a' (l.drop k).length c') ∧ BIn S a' c' (l.drop k) := by
  subst hl
  obtain ⟨a', c', h1, h2⟩ := hI.part (.inr ⟨kd, rfl⟩) (.inl ⟨rfl, rfl⟩) hk (Nat.le_refl _)
  rw [List.take_of_length_le (by rw [List.length_drop]; omega)] at h1 h2
  exact ⟨a', c', h1, h2⟩
theorem v8_eq0 (x : BitVec 8) : ((x.toNat : Int) == 0) = (x == 0#8) := by
  rw [Bool.eq_iff_iff]
  simp only [beq_iff_eq]
  exact ⟨fun h => BitVec.eq_of_toNat_eq (by simpa using h), fun h => by rw [h]; rfl⟩
theorem up8 {n : Nat} (h : n < 1099511627776) : IntKind.i64.wrap (Int.tdiv (IntKind.i64.wrap ((n : Int) + 7)) 8) = (((n + 7) / 8 : Nat) : Int) := by
  rw [wrap64 (x := (n : Int) + 7) (by omega) (by omega), show ((n : Int) + 7) = ((n + 7 : Nat) : Int) by omega, show Int.tdiv ((n + 7 : Nat) : Int) 8 = (((n + 7) / 8 : Nat) : Int) from (Int.ofNat_tdiv (n + 7) 8).symm, wrap64 (by omega) (by omega)]

end Go.Proofs.YtbdnkneedengcaaGreatDoor

/- Layer 1's reference: digits to the base 2^32, forms, lengths. Conditions: none. -/
set_option linter.unusedSimpArgs false
set_option linter.unusedVariables false
set_option maxRecDepth 100000
namespace Go.Proofs.YtbdnkneedengcaaGreatDoor
open Go
variable {G : Nat} {Ext : FuncId → List Value → Mem → Outc → Mem → Prop}

/-- the number of digits to the base 2^32 -/
def hnum : WL → Nat
  | [] => 0
  | x :: l => x.toNat + 4294967296 * hnum l
theorem hnum_append (l m : WL) : hnum (l ++ m) = hnum l + 2 ^ (32 * l.length) * hnum m := by
  induction l with
  | nil => simp [hnum]
  | cons x l ih =>
    rw [List.cons_append, hnum, hnum, ih, List.length_cons, Nat.mul_succ, Nat.pow_add, Nat.mul_add, ← Nat.mul_assoc, Nat.mul_comm (2 ^ (32 * l.length)) (2 ^ 32)]
    have e : (2 : Nat) ^ 32 = 4294967296 := by decide
    rw [e]
    omega
theorem hnum_zeros (k : Nat) : hnum (List.replicate k 0#64) = 0 := by
  induction k with
  | zero => rfl
  | succ k ih => rw [List.replicate_succ, hnum, ih]; rfl
/-- a list is its form, and noughts -/
theorem form_zeros (l : WL) : l = fm l ++ List.replicate (l.length - (fm l).length) 0#64 := by
  have h1 : l.take (fm l).length = fm l := toW_take l
  have hs : fm l ++ l.drop (fm l).length = l := by
    have := List.take_append_drop (fm l).length l
    rwa [h1] at this
  have h0 : wnum (l.drop (fm l).length) = 0 := by
    have h2 := wnum_append (fm l) (l.drop (fm l).length)
    rw [hs, show wnum (fm l) = wnum l from wnum_toW _] at h2
    have hp : 0 < 2 ^ (64 * (fm l).length) := Nat.pow_pos (by decide)
    have h3 : 2 ^ (64 * (fm l).length) * wnum (l.drop (fm l).length) = 0 := by omega
    rcases Nat.mul_eq_zero.1 h3 with h4 | h4
    · omega
    · exact h4
  have hz : ∀ m : WL, wnum m = 0 → m = List.replicate m.length 0#64 := by
    intro m
    induction m with
    | nil => intro _; rfl
    | cons x m ih =>
      intro h
      rw [wnum] at h
      have hx : x = 0#64 := BitVec.eq_of_toNat_eq (by simp; omega)
      rw [List.length_cons, List.replicate_succ, ← ih (by omega), hx]
  have h5 := hz _ h0
  rw [List.length_drop] at h5
  rw [h5] at hs
  exact hs.symm
theorem hnum_form (l : WL) : hnum (fm l) = hnum l := by
  conv => rhs; rw [form_zeros l, hnum_append, hnum_zeros]
  simp
def Small32 (l : WL) : Prop := ∀ x ∈ l, x.toNat < 4294967296
theorem small32_form {l : WL} (h : Small32 l) : Small32 (fm l) := fun x hx => h x (by
  rw [show fm l = l.take (fm l).length from (toW_take l).symm] at hx
  exact List.mem_of_mem_take hx)
/-- each limb in two -/
def hl (l : WL) : WL := l.flatMap fun x => [x &&& 0xffffffff#64, x >>> 32]
theorem and32 (x : BitVec 64) : (x &&& 0xffffffff#64).toNat = x.toNat % 4294967296 := by
  rw [BitVec.toNat_and]
  exact Nat.and_two_pow_sub_one_eq_mod x.toNat 32
theorem shr32 (x : BitVec 64) : (x >>> 32).toNat = x.toNat / 4294967296 := by
  rw [BitVec.toNat_ushiftRight, Nat.shiftRight_eq_div_pow]
theorem hnum_hl (l : WL) : hnum (hl l) = wnum l := by
  induction l with
  | nil => rfl
  | cons x l ih =>
    have hx := x.isLt
    show hnum ((x &&& 0xffffffff#64) :: (x >>> 32) :: hl l) = _
    rw [hnum, hnum, ih, wnum, and32, shr32]
    omega
theorem small_hl (l : WL) : Small32 (hl l) := by
  intro y hy
  obtain ⟨x, _, hx⟩ := List.mem_flatMap.1 hy
  have hlt := x.isLt
  simp at hx
  rcases hx with rfl | rfl
  · rw [and32]; omega
  · rw [shr32]; omega
/-- two digits in one -/
def un : WL → WL
  | [] => []
  | [x] => [x]
  | x :: y :: l => (x ||| y <<< 32) :: un l
theorem wnum_un (l : WL) (h : Small32 l) : wnum (un l) = hnum l := by
  match l, h with
  | [], _ => rfl
  | [x], _ => rfl
  | x :: y :: l, h =>
    have hx := h x (by simp)
    have hy := h y (by simp)
    rw [un, wnum, wnum_un l (fun z hz => h z (by simp [hz])), hnum, hnum]
    have : (x ||| y <<< 32).toNat = x.toNat + 4294967296 * y.toNat := by
      rw [BitVec.toNat_or, BitVec.toNat_shiftLeft, Nat.shiftLeft_eq, Nat.mod_eq_of_lt (by omega)]
      have := Nat.two_pow_add_eq_or_of_lt (i := 32) (show x.toNat < 2 ^ 32 from hx) y.toNat
      rw [Nat.or_comm, Nat.mul_comm y.toNat, ← this]
      omega
    rw [this]
    omega
theorem form_un (l : WL) : fm (un (fm (hl l))) = fm l := by
  show toW (wnum (un (fm (hl l)))) = toW (wnum l)
  rw [wnum_un _ (small32_form (small_hl l)), hnum_form, hnum_hl]

theorem strip_C (a : Option Addr) (c : Nat) (l : WL) (S : Mem) (h : WIn S a c l) : C Tryz.prog G Ext 89 [.slice a l.length c] S fun v S' => v = .slice a (fm l).length c ∧ S' = S := by
  refine C.fn Tryz.func89 rfl (by kernel_rfl) rfl ?_
  obtain ⟨hs, hc, ha, hlen⟩ := h
  repeat first|refine W.g ?_|refine L.p rfl rfl ?_|refine L.nil ?_|refine L.skip rfl ?_
  refine W.loop (fun j e S' => ∃ k : Nat, j = k ∧ k ≤ l.length ∧ S' = S ∧ e 0 = .slice a l.length c ∧ e 3 = vi k ∧ ∀ i, k ≤ i → i < l.length → l[i]? = some 0#64) l.length ⟨l.length, rfl, Nat.le_refl _, rfl, rfl, rfl, fun i h1 h2 => by omega⟩ ?_
  rintro k e S' ⟨_, rfl, hk, rfl, e0, e3, hz⟩
  refine W.env2 e0 e3 ?_
  have fin : (k = 0 ∨ l[k - 1]? ≠ some 0#64) → k = (fm l).length := fun h => by
    have := take_canon hk hz h
    unfold fm
    rw [← this, List.length_take]; omega
  repeat first|refine W.g ?_|refine L.p rfl rfl ?_|refine L.nil ?_|refine L.skip rfl ?_
  cases hb : decide ((k : Int) > 0)
  · have hk0 : k = 0 := by have := of_decide_eq_false hb; omega
    clear hb
    repeat first|refine W.g ?_|refine L.p rfl rfl ?_|refine L.nil ?_|refine L.skip rfl ?_
    refine W.ite rfl (fun h => ?_) (fun h => ?_)
    · cases h
    repeat first|refine W.g ?_|refine L.p rfl rfl ?_|refine L.nil ?_|refine L.skip rfl ?_
    refine L.is (.slice a k c) ((slice_at0 rfl rfl rfl).trans (aslice_to (kd := .i64) rfl (by omega) ha)) rfl ?_
    repeat first|refine W.g ?_|refine L.p rfl rfl ?_|refine L.nil ?_|refine L.skip rfl ?_
    exact ⟨.inr rfl, _, rfl, by rw [← fin (.inl hk0)]; rfl, rfl⟩
  have hk0 : 0 < k := by have := of_decide_eq_true hb; omega
  clear hb
  repeat first|refine W.g ?_|refine L.p rfl rfl ?_|refine L.nil ?_|refine L.skip rfl ?_
  have hkl : k - 1 < l.length := by omega
  have hget : l[k - 1]? = some l[k - 1] := List.getElem?_eq_getElem hkl
  refine L.el hs (k := k - 1) (by rw [wrap64 (by omega) (by omega)]; omega) (wv_get hget) rfl rfl rfl rfl (fun _ => rfl) rfl (fun p => ?_)
  repeat first|refine W.g ?_|refine L.p rfl rfl ?_|refine L.nil ?_|refine L.skip rfl ?_
  cases hz0 : (l[k - 1] == 0#64)
  · have hne : l[k - 1] ≠ 0#64 := by simpa using hz0
    have hv : ((l[k - 1].toNat : Int) == 0) = false := by
      rw [beq_eq_false_iff_ne]
      intro e; exact hne (BitVec.eq_of_toNat_eq (by simpa using e))
    rw [hv]
    repeat first|refine W.g ?_|refine L.p rfl rfl ?_|refine L.nil ?_|refine L.skip rfl ?_
    refine W.ite rfl (fun h => ?_) (fun h => ?_)
    · cases h
    repeat first|refine W.g ?_|refine L.p rfl rfl ?_|refine L.nil ?_|refine L.skip rfl ?_
    refine L.is (.slice a k c) ((slice_at0 rfl rfl rfl).trans (aslice_to (kd := .i64) rfl (by omega) ha)) rfl ?_
    repeat first|refine W.g ?_|refine L.p rfl rfl ?_|refine L.nil ?_|refine L.skip rfl ?_
    exact ⟨.inr rfl, _, rfl, by rw [← fin (.inr (by rw [hget]; simpa using hne))]; rfl, rfl⟩
  · have he : l[k - 1] = 0#64 := by simpa using hz0
    rw [show ((l[k - 1].toNat : Int) == 0) = true by rw [he]; rfl]
    repeat first|refine W.g ?_|refine L.p rfl rfl ?_|refine L.nil ?_|refine L.skip rfl ?_
    refine W.ite rfl (fun h => ?_) (fun h => ?_)
    rotate_left
    · cases h
    repeat first|refine W.g ?_|refine L.p rfl rfl ?_|refine L.nil ?_|refine L.skip rfl ?_
    refine ⟨k - 1, by omega, k - 1, rfl, by omega, rfl, rfl, ?_, fun i h1 h2 => ?_⟩
    · refine (force_eq rfl).trans ?_
      rw [wrap64 (by omega) (by omega)]
      congr 1; omega
    rcases Nat.eq_or_lt_of_le h1 with h3 | h3
    · rw [← h3, hget, he]
    · exact hz i (by omega) h2
theorem and_u64 (x : BitVec 64) : IntKind.u64.wrap ((BitVec.ofInt IntKind.u64.bits (x.toNat : Int) &&& BitVec.ofInt IntKind.u64.bits 4294967295).toNat : Int) = ((x &&& 0xffffffff#64).toNat : Int) := by
  rw [bits_u64, ofInt_toNat, wrap_u64, ofInt_toNat]; rfl
theorem halves_C (a : Option Addr) (c : Nat) (l : WL) (S : Mem) (hI : WIn S a c l) (hlen : l.length < 1000000) : C Tryz.prog G Ext 73 [.slice a l.length c] S fun v S' => RefW S S' v (fm (hl l)) := by
  refine C.fn Tryz.func73 rfl (by kernel_rfl) rfl ?_
  repeat first|refine W.g ?_|refine L.p rfl rfl ?_|refine L.nil ?_|refine L.skip rfl ?_
  refine W.loop (fun j e S' => ∃ (i : Nat) (a3 : Option Addr) (c3 : Nat), j = l.length - i ∧ i ≤ l.length ∧ Cons S S' ∧ e 0 = .slice a l.length c ∧ e 3 = .slice a3 (i + i) c3 ∧ e 4 = vi i ∧ Grow S.length S' 55 1 (.slice a3 (i + i) c3) (i + i) (wv (hl (l.take i)))) l.length
    ⟨0, none, 0, by omega, by omega, Cons.refl _, rfl, rfl, rfl, Grow.nil _ _ _ _⟩ ?_
  rintro j e S' ⟨i, a3, c3, rfl, hi, hc, e0, e3, e4, hg⟩
  refine W.env3 e0 e3 e4 ?_
  repeat first|refine W.g ?_|refine L.p rfl rfl ?_|refine L.nil ?_|refine L.skip rfl ?_
  refine W.ite rfl (fun h => ?_) (fun h => ?_)
  · have hin : i < l.length := by have := of_decide_eq_true h; omega
    clear h
    obtain ⟨x, hx⟩ : ∃ x, l[i]? = some x := ⟨_, List.getElem?_eq_getElem hin⟩
    repeat first|refine W.g ?_|refine L.p rfl rfl ?_|refine L.nil ?_|refine L.skip rfl ?_
    refine L.el (hI.cons hc).1 rfl (wv_get hx) rfl rfl rfl rfl (fun _ => rfl) rfl (fun p => ?_)
    repeat first|refine W.g ?_|refine L.p rfl rfl ?_|refine L.nil ?_|refine L.skip rfl ?_
    refine L.push1 (w := v64 (x &&& 0xffffffff#64)) rfl hc.len (.inl hg) rfl ((force_eq rfl).trans (congrArg (Value.int .u64) (and_u64 x))) rfl rfl rfl (by omega) rfl (fun _ => rfl) (fun p a4 c4 S2 h2 h3 h4 => ?_)
    have hc2 := hc.trans' h4
    repeat first|refine W.g ?_|refine L.p rfl rfl ?_|refine L.nil ?_|refine L.skip rfl ?_
    refine L.el (hI.cons hc2).1 rfl (wv_get hx) rfl rfl rfl rfl (fun _ => rfl) rfl (fun p => ?_)
    repeat first|refine W.g ?_|refine L.p rfl rfl ?_|refine L.nil ?_|refine L.skip rfl ?_
    refine L.push1 (w := v64 (x >>> 32)) rfl hc2.len (.inl h2) rfl ((force_eq rfl).trans (congrArg (Value.int .u64) (fdiv_shr x 32))) rfl rfl rfl (by omega) rfl (fun _ => rfl) (fun p a5 c5 S3 k2 k3 k4 => ?_)
    repeat first|refine W.g ?_|refine L.p rfl rfl ?_|refine L.nil ?_|refine L.skip rfl ?_
    refine ⟨l.length - (i + 1), by omega, i + 1, a5, c5, rfl, by omega, hc2.trans' k4, rfl, ?_, ?_, ?_⟩
    · refine (force_eq rfl).trans ?_
      rw [show i + i + 1 + 1 = i + 1 + (i + 1) by omega]
    · refine (force_eq rfl).trans ?_
      rw [wrap64 (by omega) (by omega)]; rfl
    · rw [show i + i + 1 + 1 = i + 1 + (i + 1) by omega] at k2
      have : wv (hl (l.take (i + 1))) = (wv (hl (l.take i)) ++ [v64 (x &&& 0xffffffff#64)]) ++ [v64 (x >>> 32)] := by
        rw [List.take_add_one, hx, hl, List.flatMap_append, wv, List.map_append]
        show List.map v64 (hl (l.take i)) ++ [_, _] = _
        rw [List.append_assoc]; rfl
      rw [this]
      exact k2
  · have hin : i = l.length := by have := of_decide_eq_false h; omega
    subst hin
    rw [List.take_length] at hg
    have hll : (hl l).length = l.length + l.length := by have := hg.1; rw [wv_len] at this; omega
    rw [← hll] at hg ⊢
    have hW := grow_win hg (by omega)
    repeat first|refine W.g ?_|refine L.p rfl rfl ?_|refine L.nil ?_|refine L.skip rfl ?_
    refine L.cl (strip_C a3 c3 (hl l) _ hW) rfl rfl ?_
    rintro _ _ ⟨rfl, rfl⟩
    refine ⟨nofun, ?_⟩
    repeat first|refine W.g ?_|refine L.p rfl rfl ?_|refine L.nil ?_|refine L.skip rfl ?_
    exact ⟨.inr rfl, _, rfl, hc, a3, c3, rfl, hW.form⟩
end Go.Proofs.YtbdnkneedengcaaGreatDoor

/- Layer 1's reference: forms, lengths, numbers out of bytes. Conditions: none. -/
set_option linter.unusedSimpArgs false
set_option linter.unusedVariables false
set_option maxRecDepth 100000
namespace Go.Proofs.YtbdnkneedengcaaGreatDoor
open Go
variable {G : Nat} {Ext : FuncId → List Value → Mem → Outc → Mem → Prop}

theorem un_app : ∀ (q : Nat) (l m : WL), l.length = 2 * q → un (l ++ m) = un l ++ un m
  | 0, l, m, h => by rw [List.length_eq_zero_iff.1 (by omega : l.length = 0)]; rfl
  | q + 1, [], m, h => by simp at h
  | q + 1, [x], m, h => by simp at h; omega
  | q + 1, x :: y :: l, m, h => by
    show un (x :: y :: (l ++ m)) = _
    rw [un, un, un_app q l m (by simp at h; omega)]; rfl
theorem un_len (l : WL) : (un l).length ≤ l.length := by
  match l with
  | [] => exact Nat.le_refl _
  | [x] => exact Nat.le_refl _
  | x :: y :: l => rw [un, List.length_cons, List.length_cons, List.length_cons]; have := un_len l; omega
theorem or_shl64 (x y : BitVec 64) : IntKind.u64.wrap ((BitVec.ofInt IntKind.u64.bits (x.toNat : Int) ||| BitVec.ofInt IntKind.u64.bits (IntKind.u64.wrap ((y.toNat : Int) * 2 ^ 32))).toNat : Int) = ((x ||| y <<< 32).toNat : Int) := by
  rw [wrap_u64 ((y.toNat : Int) * 2 ^ 32), ofInt_shl, bits_u64, ofInt_toNat, ofInt_toNat, wrap_u64, ofInt_toNat]
theorem limbs_C (a : Option Addr) (c : Nat) (h : WL) (S : Mem) (hI : WIn S a c h) (hlen : h.length < 1000000) : C Tryz.prog G Ext 88 [.slice a h.length c] S fun v S' => RefW S S' v (fm (un h)) := by
  refine C.fn Tryz.func88 rfl (by kernel_rfl) rfl ?_
  repeat first|refine W.g ?_|refine L.p rfl rfl ?_|refine L.nil ?_|refine L.skip rfl ?_
  refine W.loop (fun j e S' => ∃ (q : Nat) (a3 : Option Addr) (c3 : Nat), j = h.length + 1 - 2 * q ∧ 2 * q ≤ h.length + 1 ∧ Cons S S' ∧ e 0 = .slice a h.length c ∧ e 3 = .slice a3 q c3 ∧ e 4 = vi (2 * q) ∧ Grow S.length S' 55 1 (.slice a3 q c3) q (wv (un (h.take (2 * q))))) (h.length + 1)
    ⟨0, none, 0, by omega, by omega, Cons.refl _, rfl, rfl, rfl, Grow.nil _ _ _ _⟩ ?_
  rintro j e S' ⟨q, a3, c3, rfl, hi, hc, e0, e3, e4, hg⟩
  refine W.env3 e0 e3 e4 ?_
  repeat first|refine W.g ?_|refine L.p rfl rfl ?_|refine L.nil ?_|refine L.skip rfl ?_
  have hIc := hI.cons hc
  refine W.ite rfl (fun hb => ?_) (fun hb => ?_)
  · have hin : 2 * q < h.length := by have := of_decide_eq_true hb; omega
    clear hb
    obtain ⟨x, hx⟩ : ∃ x, h[2 * q]? = some x := ⟨_, List.getElem?_eq_getElem hin⟩
    have hw1 : IntKind.i64.wrap (((2 * q : Nat) : Int) + 1) = ((2 * q + 1 : Nat) : Int) := by rw [wrap64 (by omega) (by omega)]; omega
    repeat first|refine W.g ?_|refine L.p rfl rfl ?_|refine L.nil ?_|refine L.skip rfl ?_
    refine L.el hIc.1 rfl (wv_get hx) rfl rfl rfl rfl (fun _ => rfl) rfl (fun p => ?_)
    repeat first|refine W.g ?_|refine L.p rfl rfl ?_|refine L.nil ?_|refine L.skip rfl ?_
    rw [hw1]
    refine W.ite rfl (fun hb => ?_) (fun hb => ?_)
    · have hin2 : 2 * q + 1 < h.length := by have := of_decide_eq_true hb; omega
      clear hb
      obtain ⟨y, hy⟩ : ∃ y, h[2 * q + 1]? = some y := ⟨_, List.getElem?_eq_getElem hin2⟩
      repeat first|refine W.g ?_|refine L.p rfl rfl ?_|refine L.nil ?_|refine L.skip rfl ?_
      refine L.el hIc.1 hw1 (wv_get hy) rfl rfl rfl rfl (fun _ => rfl) rfl (fun p => ?_)
      repeat first|refine W.g ?_|refine L.p rfl rfl ?_|refine L.nil ?_|refine L.skip rfl ?_
      repeat first|refine W.g ?_|refine L.p rfl rfl ?_|refine L.nil ?_|refine L.skip rfl ?_
      refine L.push1 (w := v64 (x ||| y <<< 32)) rfl hc.len (.inl hg) rfl ((force_eq rfl).trans (congrArg (Value.int .u64) (or_shl64 x y))) rfl rfl rfl (by omega) rfl (fun _ => rfl) (fun p a5 c5 S3 k2 k3 k4 => ?_)
      repeat first|refine W.g ?_|refine L.p rfl rfl ?_|refine L.nil ?_|refine L.skip rfl ?_
      refine ⟨h.length + 1 - 2 * (q + 1), by omega, q + 1, a5, c5, rfl, by omega, hc.trans' k4, rfl, ?_, ?_, ?_⟩
      · exact force_eq rfl
      · refine (force_eq rfl).trans ?_
        rw [wrap64 (by omega) (by omega)]
        congr 1
      · rw [show 2 * (q + 1) = 2 * q + 2 by omega]
        have : un (h.take (2 * q + 2)) = un (h.take (2 * q)) ++ [(x ||| y <<< 32)] := by
          rw [List.take_add, un_app q _ _ (by rw [List.length_take]; omega), show (h.drop (2 * q)).take 2 = [x, y] by (rw [List.drop_eq_getElem_cons hin, List.drop_eq_getElem_cons hin2]; rw [List.getElem?_eq_getElem hin] at hx; rw [List.getElem?_eq_getElem hin2] at hy; cases hx; cases hy; rfl)]
          rfl
        rw [this, wv, List.map_append]
        exact k2
    · have hin2 : 2 * q + 1 = h.length := by have := of_decide_eq_false hb; omega
      clear hb
      repeat first|refine W.g ?_|refine L.p rfl rfl ?_|refine L.nil ?_|refine L.skip rfl ?_
      refine L.push1 (w := v64 x) rfl hc.len (.inl hg) rfl rfl rfl rfl rfl (by omega) rfl (fun _ => rfl) (fun p a5 c5 S3 k2 k3 k4 => ?_)
      repeat first|refine W.g ?_|refine L.p rfl rfl ?_|refine L.nil ?_|refine L.skip rfl ?_
      refine ⟨h.length + 1 - 2 * (q + 1), by omega, q + 1, a5, c5, rfl, by omega, hc.trans' k4, rfl, ?_, ?_, ?_⟩
      · exact force_eq rfl
      · refine (force_eq rfl).trans ?_
        rw [wrap64 (by omega) (by omega)]
        congr 1
      · rw [show 2 * (q + 1) = 2 * q + 2 by omega]
        have : un (h.take (2 * q + 2)) = un (h.take (2 * q)) ++ [x] := by
          rw [List.take_add, un_app q _ _ (by rw [List.length_take]; omega), show (h.drop (2 * q)).take 2 = [x] by (rw [List.drop_eq_getElem_cons hin, List.drop_eq_nil_of_le (by omega)]; rw [List.getElem?_eq_getElem hin] at hx; cases hx; rfl)]
          rfl
        rw [this, wv, List.map_append]
        exact k2
  · have hin : h.length ≤ 2 * q := by have := of_decide_eq_false hb; omega
    clear hb
    rw [List.take_of_length_le hin] at hg
    have hll : (un h).length = q := by have := hg.1; rw [wv_len] at this; omega
    rw [← hll] at hg ⊢
    have hW := grow_win hg (by have := un_len h; omega)
    repeat first|refine W.g ?_|refine L.p rfl rfl ?_|refine L.nil ?_|refine L.skip rfl ?_
    refine L.cl (strip_C a3 c3 (un h) _ hW) rfl rfl ?_
    rintro _ _ ⟨rfl, rfl⟩
    refine ⟨nofun, ?_⟩
    repeat first|refine W.g ?_|refine L.p rfl rfl ?_|refine L.nil ?_|refine L.skip rfl ?_
    exact ⟨.inr rfl, _, rfl, hc, a3, c3, rfl, hW.form⟩
theorem hl_len (l : WL) : (hl l).length = 2 * l.length := by
  induction l with
  | nil => rfl
  | cons x l ih => show ((x &&& 0xffffffff#64) :: (x >>> 32) :: hl l).length = _; simp [ih]; omega
theorem form_C (a : Option Addr) (c : Nat) (l : WL) (S : Mem) (hI : WIn S a c l) (hlen : l.length < 400000) : C Tryz.prog G Ext 67 [.slice a l.length c] S fun v S' => RefW S S' v (fm l) := by
  refine C.fn Tryz.func67 rfl (by kernel_rfl) rfl ?_
  repeat first|refine W.g ?_|refine L.p rfl rfl ?_|refine L.nil ?_|refine L.skip rfl ?_
  refine L.cl (halves_C a c l S hI (by omega)) rfl rfl ?_
  rintro _ S1 ⟨hc1, a1, c1, rfl, hW1⟩
  refine ⟨nofun, ?_⟩
  have hln : (fm (hl l)).length ≤ 2 * l.length := by have h1 : (fm (hl l)).length ≤ (hl l).length := toW_len_le _; rw [hl_len] at h1; exact h1
  refine L.cl (limbs_C a1 c1 (fm (hl l)) S1 hW1 (by omega)) rfl rfl ?_
  rintro _ S2 ⟨hc2, a2, c2, rfl, hW2⟩
  refine ⟨nofun, ?_⟩
  rw [form_un] at hW2 ⊢
  repeat first|refine W.g ?_|refine L.p rfl rfl ?_|refine L.nil ?_|refine L.skip rfl ?_
  exact ⟨.inr rfl, _, rfl, hc1.trans hc2, a2, c2, rfl, hW2⟩
theorem fits_C (a : Option Addr) (c : Nat) (l : WL) (S : Mem) (hI : WIn S a c l) (hlen : l.length < 400000) : C Tryz.prog G Ext 63 [.slice a l.length c] S fun v S' => v = .bool (small l) ∧ Cons S S' := by
  refine C.fn Tryz.func63 rfl (by kernel_rfl) rfl ?_
  repeat first|refine W.g ?_|refine L.p rfl rfl ?_|refine L.nil ?_|refine L.skip rfl ?_
  refine L.cl (form_C a c l S hI hlen) rfl rfl ?_
  rintro _ S1 ⟨hc1, a1, c1, rfl, hW1⟩
  refine ⟨nofun, ?_⟩
  repeat first|refine W.g ?_|refine L.p rfl rfl ?_|refine L.nil ?_|refine L.skip rfl ?_
  refine ⟨.inr rfl, _, rfl, (force_eq rfl).trans (congrArg Value.bool ?_), hc1⟩
  unfold small
  rw [Bool.eq_iff_iff]
  simp only [decide_eq_true_eq]
  omega
theorem hnum_lt {l : WL} (h : Small32 l) : hnum l < 2 ^ (32 * l.length) := by
  induction l with
  | nil => simp [hnum]
  | cons x l ih =>
    have hx := h x (by simp)
    have h2 := ih (fun y hy => h y (by simp [hy]))
    rw [hnum, List.length_cons, Nat.mul_succ, Nat.pow_add]
    have := Nat.mul_le_mul_left 4294967296 (Nat.succ_le_of_lt h2)
    rw [Nat.mul_comm (2 ^ (32 * l.length))]
    have e : (2 : Nat) ^ 32 = 4294967296 := by decide
    rw [e]
    omega
theorem blen_top32 {l : WL} {x : BitVec 64} (hs : Small32 l) (h : l.getLast? = some x) (hx : x ≠ 0#64) : blen (hnum l) = 32 * (l.length - 1) + blen x.toNat := by
  have hne : l ≠ [] := by intro e; subst e; simp at h
  have hs2 := List.dropLast_concat_getLast hne
  have he : l.getLast hne = x := by rw [List.getLast?_eq_some_getLast hne] at h; simpa using h
  have hw := hnum_append l.dropLast [l.getLast hne]
  rw [hs2, he] at hw
  have hx0 : x.toNat ≠ 0 := fun e => hx (BitVec.eq_of_toNat_eq (by simpa using e))
  rw [hw]
  simp only [hnum, Nat.mul_zero, Nat.add_zero, List.length_dropLast]
  have hlt := hnum_lt (l := l.dropLast) (fun y hy => hs y (List.dropLast_subset _ hy))
  rw [List.length_dropLast] at hlt
  exact blen_shift hlt hx0
theorem blen_half {m : Nat} (h : 0 < m) : blen m = blen (m / 2) + 1 := by
  by_cases h1 : m < 2
  · have : m = 1 := by omega
    subst this; decide
  · have := blen_div (n := m) (k := 1) (by omega)
    rw [this, Nat.pow_one]; omega
theorem length_C (a : Option Addr) (c : Nat) (l : WL) (S : Mem) (hI : WIn S a c l) (hlen : l.length < 400000) : C Tryz.prog G Ext 27 [.slice a l.length c] S fun v S' => v = vi (blen (wnum l)) ∧ Cons S S' := by
  refine C.fn Tryz.func27 rfl (by kernel_rfl) rfl ?_
  repeat first|refine W.g ?_|refine L.p rfl rfl ?_|refine L.nil ?_|refine L.skip rfl ?_
  refine L.cl (halves_C a c l S hI (by omega)) rfl rfl ?_
  rintro _ S1 ⟨hc1, a1, c1, rfl, hW1⟩
  refine ⟨nofun, ?_⟩
  have hln : (fm (hl l)).length ≤ 2 * l.length := by have h1 : (fm (hl l)).length ≤ (hl l).length := toW_len_le _; rw [hl_len] at h1; exact h1
  have hnum' : hnum (fm (hl l)) = wnum l := by rw [hnum_form, hnum_hl]
  have hcan := canon_toW (wnum (hl l))
  have hsm := small32_form (small_hl l)
  obtain ⟨h, hh⟩ : ∃ h, h = fm (hl l) := ⟨_, rfl⟩
  rw [← hh] at hW1 hln hnum' hsm ⊢
  rw [show toW (wnum (hl l)) = h from hh.symm] at hcan
  clear hh
  repeat first|refine W.g ?_|refine L.p rfl rfl ?_|refine L.nil ?_|refine L.skip rfl ?_
  refine W.ite rfl (fun hb => ?_) (fun hb => ?_)
  · have h0 : h = [] := by simpa using hb
    have : wnum l = 0 := by rw [← hnum', h0]; rfl
    repeat first|refine W.g ?_|refine L.p rfl rfl ?_|refine L.nil ?_|refine L.skip rfl ?_
    exact ⟨.inr rfl, _, rfl, by rw [this]; rfl, hc1⟩
  · have h0 : 0 < h.length := by
      rcases Nat.eq_zero_or_pos h.length with h1 | h1
      · rw [h1] at hb; simp at hb
      · exact h1
    clear hb
    obtain ⟨x, hx⟩ : ∃ x, h.getLast? = some x := ⟨_, List.getLast?_eq_some_getLast (by intro e; rw [e] at h0; simp at h0)⟩
    have hxi : h[h.length - 1]? = some x := by rw [← List.getLast?_eq_getElem?]; exact hx
    have hx0 : x ≠ 0#64 := fun e => hcan (by rw [← e]; exact hx)
    have ht := blen_top32 hsm hx hx0
    rw [hnum'] at ht
    have hb64 := blen_le.2 (show x.toNat < 2 ^ 64 from x.isLt)
    repeat first|refine W.g ?_|refine L.p rfl rfl ?_|refine L.nil ?_|refine L.skip rfl ?_
    refine L.el hW1.1 (k := h.length - 1) (by rw [wrap64 (by omega) (by omega)]; omega) (wv_get hxi) rfl rfl rfl rfl (fun _ => rfl) rfl (fun p => ?_)
    repeat first|refine W.g ?_|refine L.p rfl rfl ?_|refine L.nil ?_|refine L.skip rfl ?_
    refine W.loop (fun j e S' => ∃ m k : Nat, j = m ∧ S' = S1 ∧ e 4 = vi k ∧ e 5 = .int .u64 (m : Int) ∧ k + blen m = blen (wnum l) ∧ m < 18446744073709551616) x.toNat
      ⟨x.toNat, 32 * (h.length - 1), rfl, rfl, ?_, rfl, ht.symm, x.isLt⟩ ?_
    · refine (force_eq rfl).trans ?_
      rw [wrap64 (x := (h.length : Int) - 1) (by omega) (by omega), wrap64 (by omega) (by omega)]
      congr 1; omega
    rintro m e _ ⟨_, k, rfl, rfl, e4, e5, hk, hm⟩
    refine W.env2 e4 e5 ?_
    repeat first|refine W.g ?_|refine L.p rfl rfl ?_|refine L.nil ?_|refine L.skip rfl ?_
    refine W.ite rfl (fun hb => ?_) (fun hb => ?_)
    · have hm0 : 0 < m := by have := of_decide_eq_true hb; omega
      have hb1 := blen_half hm0
      have hb2 := blen_le.2 (show m < 2 ^ 64 from hm)
      repeat first|refine W.g ?_|refine L.p rfl rfl ?_|refine L.nil ?_|refine L.skip rfl ?_
      refine ⟨m / 2, Nat.div_lt_self hm0 (by decide), m / 2, k + 1, rfl, rfl, ?_, ?_, by omega, by omega⟩
      · refine (force_eq rfl).trans ?_
        rw [wrap64 (by omega) (by omega)]; rfl
      · exact (force_eq rfl).trans (congrArg (Value.int .u64) (fdiv_nat m (2 ^ 1)))
    · have hm0 : m = 0 := by have := of_decide_eq_false hb; omega
      subst hm0
      repeat first|refine W.g ?_|refine L.p rfl rfl ?_|refine L.nil ?_|refine L.skip rfl ?_
      refine ⟨.inr rfl, _, rfl, ?_, hc1⟩
      refine (force_eq rfl).trans ?_
      rw [← hk]; rfl
end Go.Proofs.YtbdnkneedengcaaGreatDoor

/- Digits to the base 2^32: the laws of reckoning with them. Conditions: none. -/
set_option linter.unusedSimpArgs false
set_option linter.unusedVariables false
set_option maxRecDepth 100000
set_option exponentiation.threshold 20000
namespace Go.Proofs.YtbdnkneedengcaaGreatDoor
open Go
theorem hnum_take_succ {l : WL} {i : Nat} {x : BitVec 64} (h : l[i]? = some x) : hnum (l.take (i + 1)) = hnum (l.take i) + 2 ^ (32 * i) * x.toNat := by
  have hlt := (List.getElem?_eq_some_iff.1 h).1
  rw [List.take_add_one, h]
  show hnum (l.take i ++ [x]) = _
  rw [hnum_append, List.length_take, Nat.min_eq_left (by omega)]
  show _ + _ * (x.toNat + 4294967296 * 0) = _
  rw [Nat.mul_zero, Nat.add_zero]
theorem hnum_snoc (l : WL) (x : BitVec 64) : hnum (l ++ [x]) = hnum l + 2 ^ (32 * l.length) * x.toNat := by
  rw [hnum_append]
  show _ + _ * (x.toNat + 4294967296 * 0) = _
  rw [Nat.mul_zero, Nat.add_zero]
theorem hnum_set {l : WL} {q : Nat} {x y : BitVec 64} (h : l[q]? = some x) : hnum (l.set q y) + x.toNat * 2 ^ (32 * q) = hnum l + y.toNat * 2 ^ (32 * q) := by
  induction l generalizing q with
  | nil => simp at h
  | cons z l ih =>
    cases q with
    | zero =>
      simp at h; subst h
      simp only [List.set_cons_zero, hnum, Nat.mul_zero, Nat.pow_zero, Nat.mul_one]
      omega
    | succ q =>
      have h2 := ih (by simpa using h)
      rw [List.set_cons_succ, hnum, hnum, Nat.mul_succ, Nat.add_comm (32 * q) 32, Nat.pow_add]
      have e : (2 : Nat) ^ 32 = 4294967296 := by decide
      rw [e]
      have h3 : ∀ a : Nat, a * (4294967296 * 2 ^ (32 * q)) = 4294967296 * (a * 2 ^ (32 * q)) := fun a => by
        rw [← Nat.mul_assoc, Nat.mul_comm a, Nat.mul_assoc]
      rw [h3, h3]
      omega
theorem htake_more {l : WL} {i : Nat} (h : l.length ≤ i) : l.take (i + 1) = l.take i := by rw [List.take_of_length_le (by omega), List.take_of_length_le h]
/-- digits, the last of which is not nought -/
def HalfOk (l : WL) : Prop := Small32 l ∧ Canon l
theorem small32_take {l : WL} (h : Small32 l) (k : Nat) : Small32 (l.take k) := fun x hx => h x (List.mem_of_mem_take hx)
theorem small32_get {l : WL} (h : Small32 l) {i : Nat} {x : BitVec 64} (hx : l[i]? = some x) : x.toNat < 4294967296 := h x (List.mem_of_getElem? hx)
theorem small32_set {l : WL} (h : Small32 l) {i : Nat} {x : BitVec 64} (hx : x.toNat < 4294967296) : Small32 (l.set i x) := fun y hy => by
  rcases List.mem_or_eq_of_mem_set hy with h1 | rfl
  · exact h y h1
  · exact hx
theorem small32_snoc {l : WL} (h : Small32 l) {x : BitVec 64} (hx : x.toNat < 4294967296) : Small32 (l ++ [x]) := fun y hy => by
  rcases List.mem_append.1 hy with h1 | h1
  · exact h y h1
  · rw [List.mem_singleton] at h1; subst h1; exact hx
theorem HalfOk.form {l : WL} (h : Small32 l) : HalfOk (fm l) := ⟨small32_form h, canon_toW _⟩
theorem HalfOk.nil : HalfOk [] := ⟨fun x hx => by simp at hx, canon_nil⟩
theorem half_ge {l : WL} (h : HalfOk l) (hp : 0 < l.length) : 2 ^ (32 * (l.length - 1)) ≤ hnum l := by
  have hne : l ≠ [] := by intro e; subst e; simp at hp
  have hs := List.dropLast_concat_getLast hne
  have hw := hnum_snoc l.dropLast (l.getLast hne)
  rw [hs, List.length_dropLast] at hw
  have h0 : (l.getLast hne).toNat ≠ 0 := fun e => h.2 (by rw [List.getLast?_eq_some_getLast hne]; exact congrArg some (BitVec.eq_of_toNat_eq (by simpa using e)))
  have : 2 ^ (32 * (l.length - 1)) * 1 ≤ 2 ^ (32 * (l.length - 1)) * (l.getLast hne).toNat := Nat.mul_le_mul_left _ (by omega)
  omega
theorem half_pos {l : WL} (h : HalfOk l) (hp : 0 < l.length) : 0 < hnum l := Nat.lt_of_lt_of_le (Nat.two_pow_pos _) (half_ge h hp)
theorem half_zero {l : WL} (h : HalfOk l) (h0 : hnum l = 0) : l = [] := by
  refine List.length_eq_zero_iff.1 (Classical.byContradiction fun hc => ?_)
  have := half_pos h (by omega)
  omega
theorem half_len {a b : WL} (ha : HalfOk a) (hb : HalfOk b) (h : hnum a ≤ hnum b) : a.length ≤ b.length := by
  refine Classical.byContradiction fun hc => ?_
  have h1 := half_ge ha (by omega)
  have h2 := hnum_lt hb.1
  have h3 : 2 ^ (32 * b.length) ≤ 2 ^ (32 * (a.length - 1)) := Nat.pow_le_pow_right (by decide) (by omega)
  omega
theorem hsplit_at {f : WL} {k : Nat} {x : BitVec 64} (h : f[k]? = some x) : hnum f = hnum (f.take k) + 2 ^ (32 * k) * (x.toNat + 4294967296 * hnum (f.drop (k + 1))) := by
  have hlt := (List.getElem?_eq_some_iff.1 h).1
  have hx := (List.getElem?_eq_some_iff.1 h).2
  have h1 : f = f.take k ++ (x :: f.drop (k + 1)) := by
    conv => lhs; rw [← List.take_append_drop k f, List.drop_eq_getElem_cons hlt, hx]
  conv => lhs; rw [h1]
  rw [hnum_append, List.length_take, Nat.min_eq_left (by omega)]; rfl
theorem hcmp_at {f g : WL} (hf : Small32 f) {k : Nat} {x y : BitVec 64} (hx : f[k]? = some x) (hy : g[k]? = some y) (he : f.drop (k + 1) = g.drop (k + 1)) (h : x.toNat < y.toNat) : hnum f < hnum g := by
  rw [hsplit_at hx, hsplit_at hy, he]
  have h1 := hnum_lt (small32_take hf k)
  have h2 : 2 ^ (32 * (f.take k).length) ≤ 2 ^ (32 * k) := Nat.pow_le_pow_right (by omega) (by rw [List.length_take]; omega)
  have h3 := Nat.mul_le_mul_left (2 ^ (32 * k)) (show x.toNat + 4294967296 * hnum (g.drop (k + 1)) + 1 ≤ y.toNat + 4294967296 * hnum (g.drop (k + 1)) by omega)
  rw [Nat.mul_add (2 ^ (32 * k)) (x.toNat + 4294967296 * hnum (g.drop (k + 1))) 1, Nat.mul_one] at h3
  omega
theorem pow32_succ (i : Nat) : 2 ^ (32 * (i + 1)) = 2 ^ (32 * i) * 4294967296 := by rw [show 32 * (i + 1) = 32 * i + 32 by omega, Nat.pow_add]
/-- one digit of a product with a small number -/
theorem mul_step32 {O X s x n c P : Nat} (h : O + c * P = X * n) (hs : s = x * n + c) : O + P * (s % 4294967296) + s / 4294967296 * (P * 4294967296) = (X + P * x) * n := by
  have e : P * (s % 4294967296) + s / 4294967296 * (P * 4294967296) = P * s := by
    rw [Nat.mul_comm _ (P * 4294967296), Nat.mul_assoc, ← Nat.mul_add, Nat.add_comm, Nat.div_add_mod]
  rw [Nat.add_assoc, e, hs, Nat.add_mul, ← h, Nat.mul_add, Nat.mul_comm P c, Nat.mul_assoc]; omega
/-- one digit of a difference -/
theorem sub_step32 {O X Y s x y l P : Nat} (h : O + Y = X + l * P) (hl : l ≤ 1) (hx : x < 4294967296) (hy : y < 4294967296) (hs : s = x + 4294967296 - l - y) : 
    O + P * (s % 4294967296) + (Y + P * y) = (X + P * x) + (1 - s / 4294967296) * (P * 4294967296) ∧ s / 4294967296 ≤ 1 := by
  have h2 : s / 4294967296 ≤ 1 := by omega
  refine ⟨?_, h2⟩
  have h3 : s % 4294967296 + y + l = x + (1 - s / 4294967296) * 4294967296 := by omega
  have h4 : P * (s % 4294967296) + P * y + l * P = P * x + (1 - s / 4294967296) * (P * 4294967296) := by
    rw [Nat.mul_comm l P, ← Nat.mul_add, ← Nat.mul_add, h3, Nat.mul_add, Nat.mul_left_comm P]
  omega
/-- how often a number surely goes into another -/
theorem sure_le {a b lo t P lb T : Nat} (ha : a = lo + P * t) (hb : b = lb + P * T) (hlb : lb < P) : t / (T + 1) * b ≤ a := by
  have h1 : t / (T + 1) * (T + 1) ≤ t := Nat.div_mul_le_self _ _
  have h2 : b ≤ P * (T + 1) := by rw [Nat.mul_add]; omega
  have h3 : t / (T + 1) * b ≤ t / (T + 1) * (P * (T + 1)) := Nat.mul_le_mul_left _ h2
  have h4 : t / (T + 1) * (P * (T + 1)) = P * (t / (T + 1) * (T + 1)) := by rw [Nat.mul_left_comm]
  have h5 := Nat.mul_le_mul_left P h1
  omega
end Go.Proofs.YtbdnkneedengcaaGreatDoor
