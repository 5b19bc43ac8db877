/- What several proofs share, part 2: a model of memory, contracts of functions. Conditions: none. -/
import Derived.Orders
import Derived.Laws.Rows
import Derived.Laws.Sem
import Derived.Laws.World
import Derived.Laws.AppendOwn
import Derived.Tactics
import Derived.Laws.IdiomCopy
/- The abstract machine: memory as rows, values related by a renaming of blocks; its pure operations. Conditions: none. -/
set_option linter.unusedSimpArgs false
set_option linter.unusedVariables false
namespace Go.Proofs.YtbiigbicgfchiaaGreatDoor
section
open Go
inductive RowSt where | live | moved | opq
 deriving DecidableEq
structure Row where
 cells:List Value
 elem:TypeId
 exact:Bool
 sz:Nat
 st:RowSt
 ro:Option (Nat × Nat)
 it:Option (ByteArray × Nat)
abbrev Mem:=List Row
abbrev Env:=Nat→Value
def newR (cells:List Value) (elem:TypeId):Row:=⟨cells,elem,true,0,.live,none,none⟩
def grownR (cells:List Value) (elem:TypeId) (sz:Nat):Row:=⟨cells,elem,false,sz,.live,none,none⟩
def Env.put (e:Env) (d:Option Tmp) (v:Value):Env:=fun t=>match d with
 | some d=>if t=d then v else e t
 | none=>e t
def Env.eval (e:Env):Operand→Value
 | .tmp t=>e t
 | .const v=>v
 | .global g=>.pointer (some ⟨g,0,none⟩)
 | .func f=>.func (.func f) #[] #[]
def Env.of (args:List Value):Env:=fun t=>args.getD t undef
def UNK:Nat:=9223372036854775808
structure Loc where
 b:Nat
 N:Nat
 sz:Nat
def At (ρ:Nat→Option Loc) (r b:Nat):Prop:=∃ L,ρ r=some L∧L.b=b
def CapOk (ρ:Nat→Option Loc) (r off c c':Nat):Prop:=(c<UNK→c'=c)∧(UNK≤c→c≤c'+UNK∧∃ L,ρ r=some L∧(off=0→c'*L.sz≤L.N))
inductive VR (ρ:Nat→Option Loc):Value→Value→Prop
 | bool (b):VR ρ (.bool b) (.bool b)
 | int (k n):VR ρ (.int k n) (.int k n)
 | float (k b):VR ρ (.float k b) (.float k b)
 | complex (k a b):VR ρ (.complex k a b) (.complex k a b)
 | string (s):VR ρ (.string s) (.string s)
 | map (r):VR ρ (.map r) (.map r)
 | chan (r):VR ρ (.chan r) (.chan r)
 | ptrNil:VR ρ (.pointer none) (.pointer none)
 | ptr (a a':Addr) (hb:At ρ a.block a'.block) (ho:a'.off=a.off) (hs:a'.spot=a.spot):VR ρ (.pointer (some a)) (.pointer (some a'))
 | slNil (n c):VR ρ (.slice none n c) (.slice none n c)
 | slE (a c):VR ρ (.slice none 0 UNK) (.slice a 0 c)
 | sl (a a':Addr) (n c c':Nat) (hb:At ρ a.block a'.block) (ho:a'.off=a.off) (hs:a'.spot=a.spot)
   (hc:CapOk ρ a.block a.off c c'):VR ρ (.slice (some a) n c) (.slice (some a') n c')
 | func (fn) (f f' c c':Array Value) (hf:f.size=f'.size) (hc:c.size=c'.size)
   (hF:∀ (i:Nat) (v v':Value),f[i]?=some v→f'[i]?=some v'→VR ρ v v') (hC:∀ (i:Nat) (v v':Value),c[i]?=some v→c'[i]?=some v'→VR ρ v v') :
   VR ρ (.func fn f c) (.func fn f' c')
 | nilFunc:VR ρ .nilFunc .nilFunc
 | iface (t v v') (h:VR ρ v v'):VR ρ (.iface t v) (.iface t v')
 | nilIface:VR ρ .nilIface .nilIface
 | agg (c c':Array Value) (hc:c.size=c'.size) (hC:∀ (i:Nat) (v v':Value),c[i]?=some v→c'[i]?=some v'→VR ρ v v'):VR ρ (.agg c) (.agg c')
 | tuple (c c':Array Value) (hc:c.size=c'.size) (hC:∀ (i:Nat) (v v':Value),c[i]?=some v→c'[i]?=some v'→VR ρ v v'):VR ρ (.tuple c) (.tuple c')
def Sub (ρ ρ':Nat→Option Loc):Prop:=∀ r b,ρ r=some b→ρ' r=some b
theorem Sub.refl (ρ):Sub ρ ρ:=fun _ _ h=>h
theorem Sub.trans {a b c:Nat→Option Loc} (h:Sub a b) (k:Sub b c):Sub a c:=fun r x hx=>k r x (h r x hx)
theorem At.mono {ρ ρ':Nat→Option Loc} (h:Sub ρ ρ') {r b:Nat} (hv:At ρ r b):At ρ' r b:=let ⟨L,h1,h2⟩:=hv;⟨L,h _ _ h1,h2⟩
theorem CapOk.mono {ρ ρ':Nat→Option Loc} (h:Sub ρ ρ') {r o c c':Nat} (hv:CapOk ρ r o c c'):CapOk ρ' r o c c':=
 ⟨hv.1,fun hu=>let ⟨a,L,h1,h2⟩:=hv.2 hu;⟨a,L,h _ _ h1,h2⟩⟩
theorem At.inj {ρ:Nat→Option Loc} {r b b':Nat} (h:At ρ r b) (k:At ρ r b'):b=b':=by
 obtain⟨L,h1,h2⟩:=h
 obtain⟨M,k1,k2⟩:=k
 rw[h1] at k1;cases k1;exact h2.symm.trans k2
theorem VR.mono {ρ ρ':Nat→Option Loc} (h:Sub ρ ρ') {v v':Value} (hv:VR ρ v v'):VR ρ' v v':=by
 induction hv with
 | bool b=>exact .bool b
 | int k n=>exact .int k n
 | float k b=>exact .float k b
 | complex k a b=>exact .complex k a b
 | string s=>exact .string s
 | map r=>exact .map r
 | chan r=>exact .chan r
 | ptrNil=>exact .ptrNil
 | ptr a a' hb ho hs=>exact .ptr a a' (hb.mono h) ho hs
 | slNil n c=>exact .slNil n c
 | slE a c=>exact .slE a c
 | sl a a' n c c' hb ho hs hc=>exact .sl a a' n c c' (hb.mono h) ho hs (hc.mono h)
 | func fn f f' c c' hf hc _ _ iF iC=>exact .func fn f f' c c' hf hc iF iC
 | nilFunc=>exact .nilFunc
 | iface t v v' _ ih=>exact .iface t v v' ih
 | nilIface=>exact .nilIface
 | agg c c' hc _ ih=>exact .agg c c' hc ih
 | tuple c c' hc _ ih=>exact .tuple c c' hc ih
def LR (ρ:Nat→Option Loc) (l l':List Value):Prop:=l.length=l'.length∧∀ (i:Nat) (v v':Value),l[i]?=some v→l'[i]?=some v'→VR ρ v v'
theorem LR.nil (ρ):LR ρ [] []:=⟨rfl,fun i v v' h=>by simp at h⟩
theorem LR.cons {ρ} {v v':Value} {l l':List Value} (h:VR ρ v v') (hl:LR ρ l l'):LR ρ (v :: l) (v' :: l'):=by
 refine⟨by simp [hl.1],fun i u u' a b=>?_⟩
 cases i with
 | zero=>simp at a b;subst a;subst b;exact h
 | succ i=>exact hl.2 i u u' (by simpa using a) (by simpa using b)
theorem LR.append {ρ} {l l' m m':List Value} (h:LR ρ l l') (k:LR ρ m m'):LR ρ (l++m) (l'++m'):=by
 refine⟨by simp [h.1,k.1],fun i u u' a b=>?_⟩
 by_cases hi:i<l.length
 ·rw[List.getElem?_append_left hi] at a
  rw[List.getElem?_append_left (h.1 ▸ hi)] at b
  exact h.2 i u u' a b
 ·rw[List.getElem?_append_right (by omega)] at a
  rw[List.getElem?_append_right (by have:=h.1;omega)] at b
  exact k.2 (i - l.length) u u' a (by rw[h.1];exact b)
theorem LR.take {ρ} {l l':List Value} (h:LR ρ l l') (n:Nat):LR ρ (l.take n) (l'.take n):=by
 refine⟨by simp [h.1],fun i u u' a b=>?_⟩
 rw[List.getElem?_take] at a b
 by_cases hi:i<n
 ·rw[if_pos hi] at a b;exact h.2 i u u' a b
 ·rw[if_neg hi] at a;cases a
theorem LR.drop {ρ} {l l':List Value} (h:LR ρ l l') (n:Nat):LR ρ (l.drop n) (l'.drop n):=by
 refine⟨by simp [h.1],fun i u u' a b=>?_⟩
 rw[List.getElem?_drop] at a b
 exact h.2 _ u u' a b
theorem LR.get {ρ} {l l':List Value} (h:LR ρ l l') {i:Nat} {v:Value} (hv:l[i]?=some v):∃ v',l'[i]?=some v'∧VR ρ v v':=by
 have hi:i<l.length:=(List.getElem?_eq_some_iff.1 hv).1
 have hi':i<l'.length:=h.1 ▸ hi
 exact⟨l'[i],List.getElem?_eq_getElem hi',h.2 i _ _ hv (List.getElem?_eq_getElem hi')⟩
theorem LR.agg {ρ} {c c':Array Value} (h:LR ρ c.toList c'.toList):VR ρ (.agg c) (.agg c'):=
 .agg c c' (by simpa using h.1) fun i v v' a b=>h.2 i v v' (by simpa using a) (by simpa using b)
theorem LR.tuple {ρ} {c c':Array Value} (h:LR ρ c.toList c'.toList):VR ρ (.tuple c) (.tuple c'):=
 .tuple c c' (by simpa using h.1) fun i v v' a b=>h.2 i v v' (by simpa using a) (by simpa using b)
theorem VR.aggInv {ρ} {c:Array Value} {v':Value} (h:VR ρ (.agg c) v'):∃ c',v'=.agg c'∧LR ρ c.toList c'.toList:=by
 cases h with
 | agg _ c' hc hC=>exact⟨c',rfl,by simpa using hc,fun i v v' a b=>hC i v v' (by simpa using a) (by simpa using b)⟩
theorem VR.tupleInv {ρ} {c:Array Value} {v':Value} (h:VR ρ (.tuple c) v'):∃ c',v'=.tuple c'∧LR ρ c.toList c'.toList:=by
 cases h with
 | tuple _ c' hc hC=>exact⟨c',rfl,by simpa using hc,fun i v v' a b=>hC i v v' (by simpa using a) (by simpa using b)⟩
theorem VR.cellsLR {ρ} {v v':Value} (h:VR ρ v v'):LR ρ v.cells.toList v'.cells.toList:=by
 cases v with
 | agg c=>obtain⟨c',rfl,hl⟩:=h.aggInv;exact hl
 | _=>
  have hv:VR ρ _ v':=h
  cases h<;>exact LR.cons hv (LR.nil _)
def scalar:Value→Bool
 | .bool _ | .int _ _ | .float _ _ | .complex _ _ _ | .string _ | .nilIface | .nilFunc | .pointer none=>true
 | .slice none _ c=>Nat.blt c UNK
 | _=>false
def flat1:Value→Bool
 | .agg c=>c.toList.all scalar
 | v=>scalar v
def flat:Value→Bool
 | .tuple c=>c.toList.all flat1
 | .iface _ v=>flat1 v
 | v=>flat1 v
theorem VR.scalar_eq {ρ} {v v':Value} (h:VR ρ v v') (hs:scalar v=true):v'=v:=by
 cases h<;>first | rfl | (simp [scalar] at hs)
theorem scalar_VR (ρ) {v:Value} (hs:scalar v=true):VR ρ v v:=by
 cases v with
 | bool b=>exact .bool b
 | int k n=>exact .int k n
 | float k b=>exact .float k b
 | complex k a b=>exact .complex k a b
 | string s=>exact .string s
 | pointer a=>cases a with
  | none=>exact .ptrNil
  | some a=>simp [scalar] at hs
 | slice a n c=>cases a with
  | none=>exact .slNil n c
  | some a=>simp [scalar] at hs
 | nilFunc=>exact .nilFunc
 | nilIface=>exact .nilIface
 | _=>simp [scalar] at hs
theorem LR.scalar_eq {ρ} {l l':List Value} (h:LR ρ l l') (hs:l.all scalar=true):l'=l:=by
 apply List.ext_getElem?
 intro i
 rcases Nat.lt_or_ge i l.length with hi | hi
 ·have hi':i<l'.length:=h.1 ▸ hi
  rw[List.getElem?_eq_getElem hi,List.getElem?_eq_getElem hi']
  have:=h.2 i _ _ (List.getElem?_eq_getElem hi) (List.getElem?_eq_getElem hi')
  exact congrArg some (this.scalar_eq (List.all_eq_true.1 hs _ (List.getElem_mem hi)))
 ·rw[List.getElem?_eq_none hi,List.getElem?_eq_none (by rw[← h.1];exact hi)]
theorem scalars_LR (ρ) {l:List Value} (hs:l.all scalar=true):LR ρ l l:=
 ⟨rfl,fun i v v' a b=>by rw[a] at b;cases b;exact scalar_VR ρ (List.all_eq_true.1 hs _ (List.mem_of_getElem? a))⟩
theorem VR.flat1_eq {ρ} {v v':Value} (h:VR ρ v v') (hs:flat1 v=true):v'=v:=by
 cases v with
 | agg c=>
  obtain⟨c',rfl,hl⟩:=h.aggInv
  have:=hl.scalar_eq (by simpa [flat1] using hs)
  exact congrArg Value.agg (Array.ext' this)
 | _=>exact h.scalar_eq (by simpa [flat1] using hs)
theorem flat1_VR (ρ) {v:Value} (hs:flat1 v=true):VR ρ v v:=by
 cases v with
 | agg c=>exact LR.agg (scalars_LR ρ (by simpa [flat1] using hs))
 | _=>exact scalar_VR ρ (by simpa [flat1] using hs)
theorem LR.flat1_eq {ρ} {l l':List Value} (h:LR ρ l l') (hs:l.all flat1=true):l'=l:=by
 apply List.ext_getElem?
 intro i
 rcases Nat.lt_or_ge i l.length with hi | hi
 ·have hi':i<l'.length:=h.1 ▸ hi
  rw[List.getElem?_eq_getElem hi,List.getElem?_eq_getElem hi']
  have:=h.2 i _ _ (List.getElem?_eq_getElem hi) (List.getElem?_eq_getElem hi')
  exact congrArg some (this.flat1_eq (List.all_eq_true.1 hs _ (List.getElem_mem hi)))
 ·rw[List.getElem?_eq_none hi,List.getElem?_eq_none (by rw[← h.1];exact hi)]
theorem flats_LR (ρ) {l:List Value} (hs:l.all flat1=true):LR ρ l l:=
 ⟨rfl,fun i v v' a b=>by rw[a] at b;cases b;exact flat1_VR ρ (List.all_eq_true.1 hs _ (List.mem_of_getElem? a))⟩
theorem VR.flat_eq {ρ} {v v':Value} (h:VR ρ v v') (hs:flat v=true):v'=v:=by
 cases v with
 | tuple c=>
  obtain⟨c',rfl,hl⟩:=h.tupleInv
  have:=hl.flat1_eq (by simpa [flat] using hs)
  exact congrArg Value.tuple (Array.ext' this)
 | iface t v=>
  cases h with
  | iface _ _ v' h=>exact congrArg _ (h.flat1_eq (by simpa [flat] using hs))
 | _=>exact h.flat1_eq (by simpa [flat] using hs)
theorem flat_VR (ρ) {v:Value} (hs:flat v=true):VR ρ v v:=by
 cases v with
 | tuple c=>exact LR.tuple (flats_LR ρ (by simpa [flat] using hs))
 | iface t v=>exact .iface t v v (flat1_VR ρ (by simpa [flat] using hs))
 | _=>exact flat1_VR ρ (by simpa [flat] using hs)
theorem undef_flat:flat undef=true:=rfl
def Mem.row? (S:Mem) (r:Nat):Option Row:=match S[r]? with
 | some x=>if x.st=.live then some x else none
 | none=>none
def known:Value→Bool
 | .tuple _=>false
 | _=>true
def Mem.cellsAt (S:Mem) (a:Addr) (n:Nat):Option (List Value):=match S.row? a.block with
 | some x=>if a.spot=none∧a.off+n≤x.cells.length∧(x.ro=none∨((x.cells.drop a.off).take n).all known=true) then some ((x.cells.drop a.off).take n) else none
 | none=>none
def oneCell:Value→Bool
 | .agg _ | .tuple _=>false
 | _=>true
def putFrom (l:List Value) (i:Nat) (vs:List Value):List Value:=l.take i++vs++l.drop (i+vs.length)
def Mem.write (S:Mem) (a:Addr) (vs:List Value):Option Mem:=match S.row? a.block with
 | some x=>if a.spot=none∧a.off+vs.length≤x.cells.length∧x.ro=none∧vs.all oneCell=true then
   some (S.set a.block { x with cells:=putFrom x.cells a.off vs }) else none
 | none=>none
theorem Mem.row?_some {S:Mem} {r:Nat} {x:Row} (h:S.row? r=some x):S[r]?=some x∧x.st=.live:=by
 unfold Mem.row? at h
 split at h
 ·rename_i y hy
  split at h
  ·cases h;exact⟨hy,by assumption⟩
  ·cases h
 ·cases h
theorem Mem.row?_of {S:Mem} {r:Nat} {x:Row} (h:S[r]?=some x) (hl:x.st=.live):S.row? r=some x:=by
 simp [Mem.row?,h,hl]
def Quiet (ρ:Nat→Option Loc) (S:Mem) (b:Nat):Prop:=∀ r,At ρ r b→∃ x,S[r]?=some x∧(x.st=.opq∨x.ro≠none)
def Lone (ρ:Nat→Option Loc) (S:Mem) (b:Nat):Prop:=∀ r,At ρ r b→∃ x,S[r]?=some x∧x.st=.opq
structure RowAt (ρ:Nat→Option Loc) (x:Row) (L:Loc) (w:World):Prop where
 ex:∃ (c:Array Value) (fz:Nat × Nat),w.heap[L.b]?=some (.cells c x.elem fz)∧x.cells.length≤c.size ∧
  (x.exact=true→c.size=x.cells.length)∧(x.exact=false→L.N=c.size∧L.sz=x.sz)∧(∀ f,x.ro=some f→fz=f)∧(x.ro=none→∀ i,i<c.size→¬ (fz.1≤i∧i<fz.2)) ∧
  ∀ (i:Nat) (v:Value),x.cells[i]?=some v→(x.ro≠none∧known v=false)∨∃ v',c[i]?=some v'∧VR ρ v v'
structure SR (ρ:Nat→Option Loc) (S:Mem) (w:World):Prop where
 live:∀ (r:Nat) (x:Row),S[r]?=some x→x.st=.live→∃ L,ρ r=some L∧RowAt ρ x L w
 dom:∀ r L,ρ r=some L→r<S.length∧∀ x,S[r]?=some x→x.st≠.opq→L.b<w.heap.size
 inj:∀ (r r':Nat) (x x':Row) (b:Nat),At ρ r b→At ρ r' b→S[r]?=some x→S[r']?=some x'→x.st=.live→x'.st=.live→r=r'
 iter:∀ (r:Nat) (x:Row) (s:ByteArray) (p:Nat),S[r]?=some x→x.it=some (s,p)→∃ L,ρ r=some L∧w.heap[L.b]?=some (.stringIter s p)∧∀ (r':Nat) (x':Row),At ρ r' L.b→S[r']?=some x'→x'.it≠none→r'=r
structure Stp (ρ:Nat→Option Loc) (S:Mem) (w:World) (ρ':Nat→Option Loc) (S':Mem) (w':World):Prop where
 ext:Sub ρ ρ'
 tape:w'.tape=w.tape
 os:w'.os=w.os
 output:w'.output=w.output
 size:w.heap.size≤w'.heap.size
 frame:∀ b,b<w.heap.size→Quiet ρ S b→w'.heap[b]?=w.heap[b]?
 quiet:∀ b,b<w.heap.size→Quiet ρ S b→Quiet ρ' S' b
 lone:∀ b,b<w.heap.size→Lone ρ S b→Lone ρ' S' b
theorem Stp.refl (ρ S w):Stp ρ S w ρ S w:=⟨Sub.refl _,rfl,rfl,rfl,Nat.le_refl _,fun _ _ _=>rfl,fun _ _ h=>h,fun _ _ h=>h⟩
theorem Stp.trans {ρ S w ρ1 S1 w1 ρ2 S2 w2} (h:Stp ρ S w ρ1 S1 w1) (k:Stp ρ1 S1 w1 ρ2 S2 w2):Stp ρ S w ρ2 S2 w2:=
 ⟨h.ext.trans k.ext,k.tape.trans h.tape,k.os.trans h.os,k.output.trans h.output,Nat.le_trans h.size k.size,
  fun b hb hq=>(k.frame b (Nat.lt_of_lt_of_le hb h.size) (h.quiet b hb hq)).trans (h.frame b hb hq),
  fun b hb hq=>k.quiet b (Nat.lt_of_lt_of_le hb h.size) (h.quiet b hb hq),fun b hb hq=>k.lone b (Nat.lt_of_lt_of_le hb h.size) (h.lone b hb hq)⟩
theorem Stp.drew (ρ S) (w:World):Stp ρ S w ρ S w.drew:=⟨Sub.refl _,rfl,rfl,rfl,Nat.le_refl _,fun _ _ _=>rfl,fun _ _ h=>h,fun _ _ h=>h⟩
theorem SR.drew {ρ S} {w:World} (h:SR ρ S w):SR ρ S w.drew:=⟨fun r x a b=>let ⟨L,h1,h2⟩:=h.live r x a b;⟨L,h1,⟨h2.ex⟩⟩,h.dom,h.inj,h.iter⟩
end
section
open Go
def pureRun (P:Program) {α:Type}:Sem α→Option α
 | .pure a=>some a
 | .program k=>pureRun P (k P)
 | _=>none
theorem pureRun_sound {P:Program} {α:Type} {s:Sem α} {a:α} (h:pureRun P s=some a) (w:World):s.run P w=.ok a w:=by
 induction s with
 | pure b=>simp [pureRun] at h;subst h;rfl
 | program k ih=>exact ih P (by simpa [pureRun] using h)
 | _=>simp [pureRun] at h
theorem pureRun_bind {P:Program} {α β:Type} (s:Sem α) (f:α→Sem β):pureRun P (s >>= f)=(pureRun P s).bind fun a=>pureRun P (f a):=by
 show pureRun P (s.bind f)=_
 induction s with
 | pure b=>rfl
 | program k ih=>simpa [pureRun,Sem.bind] using ih P
 | _=>rfl
@[simp] theorem pureRun_pure {P:Program} {α:Type} (a:α):pureRun P (pure a:Sem α)=some a:=rfl
def aflat (P:Program) (o:Oper) (ev:Operand→Value):Option Value:=
 if o.op.operands.toList.all (fun x=>flat (ev x)) then
  match pureRun P (execOp ev o) with
  | some (.value v)=>if flat v then some v else none
  | _=>none
 else none
def isAggD:TypeDesc→Bool
 | .struct _ | .array _ _=>true
 | _=>false
def apart (P:Program) (t:TypeId) (cs:List Value) (off:Nat):Option Value:=
 match P.underlying t,P.info? t with
 | some d,some i=>if isAggD d then some (.agg ((cs.drop off).take i.size).toArray) else cs[off]?
 | _,_=>none
def abound (v:Value) (y:Nat):Option Nat:=match v with
 | .int _ i=>if 0≤i∧i≤y then some i.toNat else none
 | _=>none
def knownCap (c:Nat):Nat:=if c<UNK then c else c - UNK
def acut (size:Nat) (a:Option Addr) (l h m:Nat):Value:=.slice (if m=l then a else a.map (fun x=>Addr.add x (l*size))) (h - l) (m - l)
def aslice (size:Nat) (a:Option Addr) (len cap:Nat) (lo hi mx:Option Value):Option Value:=
 match mx with
 | some mv=>(abound mv (knownCap cap)).bind fun m=>(hi.bind (abound · m)).bind fun h=>(match lo with | some v=>abound v h | none=>some 0).bind fun l=>
   if m<UNK then (match a with
    | some x=>some (acut size (some x) l h m)
    | none=>if cap<UNK then some (acut size none l h m) else if m=0 then some (.slice none 0 UNK) else none) else none
 | none=>(match hi with | some v=>abound v (knownCap cap) | none=>some len).bind fun h=>(match lo with | some v=>abound v h | none=>some 0).bind fun l=>
   if cap<UNK then some (acut size a l h cap)
   else match a with
    | some x=>if l=0∨l<knownCap cap then some (.slice (some (Addr.add x (l*size))) (h - l) (UNK+(knownCap cap - l))) else if h=l then some (.slice none 0 UNK) else none
    | none=>if h=0 then some (.slice none 0 UNK) else none
def aindexA (P:Program) (t:TypeId) (x ix:Value):Option Value:=match ix with
 | .int _ i=>match P.underlying t,x with
  | some (.slice e),.slice (some a) len _=>if 0≤i∧i<len∧(P.info? e).isSome then some (.pointer (some (a.add (i.toNat * P.cellsOf e)))) else none
  | some (.array len e),.pointer (some a)=>if 0≤i∧i<len∧(P.info? e).isSome then some (.pointer (some (a.add (i.toNat * P.cellsOf e)))) else none
  | _,_=>none
 | _=>none
def anilB (P:Program) (t:TypeId) (x y:Value):Option Bool:=
 match P.underlying t,x,y with
 | some (.slice _),.slice none _ c,.slice b _ d=>if c<UNK∧(b=none→d<UNK) then some b.isNone else none
 | some (.slice _),.slice (some _) _ _,.slice none _ d=>if d<UNK then some false else none
 | some (.pointer _),.pointer none,.pointer b=>some b.isNone
 | some (.pointer _),.pointer (some _),.pointer none=>some false
 | some (.func _ _ _),.nilFunc,.nilFunc=>some true
 | some (.func _ _ _),.nilFunc,.func ..=>some false
 | some (.func _ _ _),.func ..,.nilFunc=>some false
 | _,_,_=>none
def anilOp (op:BinOp) (b:Bool):Option Value:=match op with
 | .eql=>some (.bool b)
 | .neq=>some (.bool !b)
 | _=>none
def anil (P:Program) (op:BinOp) (t:TypeId) (x y:Value):Option Value:=(anilB P t x y).bind (anilOp op)
def abuild (P:Program) (t:TypeId) (parts:Array (Nat × Value)):Option Value:=
 match P.info? t with
 | some i=>match i.zero with
  | some z=>if z.cells.toList.all scalar then pureRun P (Instr.build t parts) else none
  | none=>none
 | none=>none
def apure (P:Program) (o:Oper) (ev:Operand→Value):Option Value:=
 match o.op with
 | .move x | .assign x=>some (ev x)
 | .pick c a b=>match ev c with
  | .bool t=>some (if t then ev a else ev b)
  | _=>none
 | .nilCheck x=>match ev x with
  | .pointer (some a)=>some (.pointer (some a))
  | _=>none
 | .fieldAddr s x f=>match P.underlying s,ev x with
  | some (.struct fs),.pointer (some a)=>match fs[f]? with
   | some fd=>if (P.info? fd.type).isSome∧P.cellsOf fd.type≠0 then some (.pointer (some (a.add fd.offset))) else none
   | none=>none
  | _,_=>none
 | .indexAddr t x ix=>aindexA P t (ev x) (ev ix)
 | .slice t x lo hi mx=>match ev x with
  | .slice a len cap=>match P.underlying t with
   | some (.slice e)=>if (P.info? e).isSome then aslice (P.cellsOf e) a len cap (lo.map ev) (hi.map ev) (mx.map ev) else none
   | _=>none
  | .pointer (some a)=>match P.underlying t with
   | some (.array n e)=>if (P.info? e).isSome∧n<UNK then aslice (P.cellsOf e) (some a) n n (lo.map ev) (hi.map ev) (mx.map ev) else none
   | _=>none
  | _=>aflat P o ev
 | .index t x ix=>match ev x,ev ix with
  | .agg cs,.int _ i=>match P.underlying t with
   | some (.array len e)=>if 0≤i∧i<len then apart P e cs.toList (i.toNat * P.cellsOf e) else none
   | _=>none
  | _,_=>aflat P o ev
 | .field t x f=>match ev x,P.underlying t with
  | .agg cs,some (.struct fs)=>match fs[f]? with
   | some fd=>apart P fd.type cs.toList fd.offset
   | none=>none
  | _,_=>none
 | .extract x i=>match ev x with
  | .tuple vs=>vs[i]?
  | _=>none
 | .build t parts=>abuild P t (parts.map fun (i,x)=>(i,ev x))
 | .makeInterface t x=>match P.underlying t with
  | some (.interface _)=>none
  | some _=>some (.iface t (ev x))
  | none=>none
 | .makeFunc fn first captured=>some (.func fn (first.map ev) (captured.map ev))
 | .binOp op t x y _=>match aflat P o ev with
  | some v=>some v
  | none=>anil P op t (ev x) (ev y)
 | .unOp .. | .convert .. | .typeAssert ..=>aflat P o ev
 | .call c=>match c.callee with
  | .builtin .len=>match c.argTypes[0]?.bind P.underlying,(c.args[0]?).map ev with
   | some (.slice _),some (.slice _ n _)=>some (.int .i64 n)
   | _,_=>aflat P o ev
  | .builtin .cap=>match c.argTypes[0]?.bind P.underlying,(c.args[0]?).map ev with
   | some (.slice _),some (.slice _ _ n)=>if n<UNK then some (.int .i64 n) else none
   | _,_=>none
  | .builtin .min | .builtin .max | .builtin .real | .builtin .imag | .builtin .complex=>aflat P o ev
  | _=>none
 | _=>none
theorem add_VR {ρ:Nat→Option Loc} {a a':Addr} (n:Nat) (hb:At ρ a.block a'.block) (ho:a'.off=a.off) (hs:a'.spot=a.spot) :
  VR ρ (.pointer (some (a.add n))) (.pointer (some (a'.add n))):=by
 unfold Addr.add
 split
 ·exact .ptr _ _ hb ho hs
 ·exact .ptr _ _ hb (by simp [ho]) rfl
section
variable {P:Program} {o:Oper} {ev ev':Operand→Value} {ρ:Nat→Option Loc} {v:Value}
theorem aflat_sound (hsel:∀ cs b,o.op≠.select cs b) (h:aflat P o ev=some v) (hv:∀ x∈o.op.operands,VR ρ (ev x) (ev' x)) :
  ∃ v',VR ρ v v'∧∀ w,(execOp ev' o).run P w=.ok (.value v') w:=by
 unfold aflat at h
 split at h
 ·rename_i hall
  split at h
  ·rename_i u hr
   split at h
   ·cases h
    have he:execOp ev' o=execOp ev o:=execOp_congr o hsel fun x hx=>
     (hv x hx).flat_eq (List.all_eq_true.1 hall x (by simpa using hx))
    exact⟨v,flat_VR ρ (by assumption),fun w=>by rw[he];exact pureRun_sound hr w⟩
   ·cases h
  ·cases h
 ·cases h
theorem run_underlying' {t:TypeId} {d:TypeDesc} (h:P.underlying t=some d) (w:World):(underlying t).run P w=.ok d w:=by
 simp [underlying,h]
theorem run_sizeOf' {t:TypeId} (h:(P.info? t).isSome=true) (w:World):(sizeOf t).run P w=.ok (P.cellsOf t) w:=by
 obtain⟨i,hi⟩:=Option.isSome_iff_exists.1 h
 simp [sizeOf,typeInfo,hi,Program.cellsOf]
theorem abound_run {v:Value} {y n:Nat} (h:abound v y=some n) (code:BoundsCode) {y':Nat} (hy:y≤y') (w:World) :
  (Instr.sliceBound v y' code).run P w=.ok n w∧n≤y:=by
 unfold abound at h
 split at h
 ·rename_i k i
  split at h
  ·rename_i hi
   cases h
   have h':0≤i∧i≤(y':Int):=⟨hi.1,by omega⟩
   refine⟨?_,by omega⟩
   simp [Instr.sliceBound,asIntOf,h']
  ·cases h
 ·cases h
theorem abound_scalar {v:Value} {y n:Nat} (h:abound v y=some n):scalar v=true:=by
 unfold abound at h
 split at h
 ·rfl
 ·cases h
theorem abound_le {v:Value} {y n:Nat} (h:abound v y=some n):n≤y:=by
 unfold abound at h
 split at h
 ·split at h
  ·cases h;omega
  ·cases h
 ·cases h
theorem optional_eq {lo:Option Operand} {y n:Nat} {d:Nat} (hv:∀ x,lo=some x→VR ρ (ev x) (ev' x)) (h:(match lo.map ev with | some v=>abound v y | none=>some d)=some n) :
  lo.map ev'=lo.map ev:=by
 cases lo with
 | none=>rfl
 | some x=>
  have:=(hv x rfl).scalar_eq (abound_scalar h)
  simp [this]
theorem cut_VR {size:Nat} {a a':Option Addr} (l:Nat) (ha:∀ x,a=some x→∃ x',a'=some x'∧At ρ x.block x'.block∧x'.off=x.off∧x'.spot=x.spot) (hn:a=none→a'=none)
  (n c:Nat) (hc:c<UNK) (b:Prop) [Decidable b] :
  VR ρ (.slice (if b then a else a.map (fun x=>Addr.add x (l*size))) n c) (.slice (if b then a' else a'.map (fun x=>Addr.add x (l*size))) n c):=by
 have hk:∀ r o,CapOk ρ r o c c:=fun r o=>⟨fun _=>rfl,fun h=>by omega⟩
 cases a with
 | none=>rw[hn rfl];simp;exact .slNil _ _
 | some x=>
  obtain⟨x',rfl,h1,h2,h3⟩:=ha x rfl
  split
  ·exact .sl x x' n c c h1 h2 h3 (hk _ _)
  ·simp only [Option.map_some]
   unfold Addr.add
   split
   ·exact .sl x x' n c c h1 h2 h3 (hk _ _)
   ·exact .sl _ _ n c c h1 (by simp [h2]) rfl (hk _ _)
theorem slice_sound {isS:Bool} {size:Nat} {a a':Option Addr} {len cap cap':Nat} {lo hi mx:Option Operand}
  (ha:∀ x,a=some x→∃ x',a'=some x'∧At ρ x.block x'.block∧x'.off=x.off∧x'.spot=x.spot) (hn:a=none→(a'=none∧cap'=cap)∨(len=0∧cap=UNK))
  (hc:cap<UNK→cap'=cap) (hu:UNK≤cap→cap≤cap'+UNK) (hC:∀ x,a=some x→CapOk ρ x.block x.off cap cap')
  (hlo:∀ x,lo=some x→VR ρ (ev x) (ev' x)) (hhi:∀ x,hi=some x→VR ρ (ev x) (ev' x)) (hmx:∀ x,mx=some x→VR ρ (ev x) (ev' x))
  (h:aslice size a len cap (lo.map ev) (hi.map ev) (mx.map ev)=some v) :
  ∃ l h' m,VR ρ v (.slice (if m=l then a' else a'.map (fun x=>Addr.add x (l*size))) (h' - l) (m - l)) ∧
   ∀ w,(Instr.sliceBounds isS len cap' (lo.map ev') (hi.map ev') (mx.map ev')).run P w=.ok (l,h',m) w:=by
 have hk:knownCap cap≤cap':=by
  unfold knownCap
  split
  ·rename_i h1;rw[hc h1];exact Nat.le_refl _
  ·have:=hu (by omega);omega
 unfold aslice at h
 cases mx with
 | some x=>
  simp only [Option.map_some] at h
  rw[Option.bind_eq_some_iff] at h
  obtain⟨m,hm,h⟩:=h
  rw[Option.bind_eq_some_iff] at h
  obtain⟨hh,hh1,h⟩:=h
  rw[Option.bind_eq_some_iff] at h
  obtain⟨l,hl,h⟩:=h
  split at h
  ·rename_i hmu
   have hvr:VR ρ v (.slice (if m=l then a' else a'.map (fun x=>Addr.add x (l*size))) (hh - l) (m - l)):=by
    cases a with
    | some x=>
     cases h
     exact cut_VR l ha nofun _ _ (by omega) _
    | none=>
     simp only [] at h
     split at h
     ·rename_i hcu
      cases h
      have h0:a'=none:=by rcases hn rfl with h0 | h0;exact h0.1;omega
      exact cut_VR l ha (fun _=>h0) _ _ (by omega) _
     ·split at h
      ·rename_i hm0
       cases h
       subst hm0
       have hh0:hh=0:=by
        cases hi with
        | none=>simp at hh1
        | some y=>
         simp only [Option.map_some,Option.bind_some] at hh1
         have:=abound_le hh1;omega
       subst hh0
       have hl0:l=0:=by
        cases hlo':lo with
        | none=>rw[hlo'] at hl;simp at hl;omega
        | some y=>
         rw[hlo'] at hl
         simp only [Option.map_some] at hl
         have:=abound_le hl;omega
       subst hl0
       exact .slE _ _
      ·cases h
   clear h
   cases hi with
   | none=>simp at hh1
   | some y=>
    simp only [Option.map_some,Option.bind_some] at hh1
    have e1:ev' x=ev x:=(hmx x rfl).scalar_eq (abound_scalar hm)
    have e2:ev' y=ev y:=(hhi y rfl).scalar_eq (abound_scalar hh1)
    have e3:=optional_eq hlo hl
    refine⟨l,hh,m,hvr,fun w=>?_⟩
    have hm':=(abound_run (P:=P) hm (if isS then .slice3Acap else .slice3Alen) hk w).1
    have hh':=(abound_run (P:=P) hh1 .slice3B (Nat.le_refl _) w).1
    rw[e3]
    simp only [Instr.sliceBounds,Option.map_some,e1,e2,Sem.run_bind,hm',Result.andThen_ok,hh']
    cases lo with
    | none=>simp only [Option.map_none] at hl ⊢;cases hl;simp
    | some z=>
     simp only [Option.map_some] at hl ⊢
     simp [(abound_run (P:=P) hl .slice3C (Nat.le_refl _) w).1]
  ·cases h
 | none=>
  simp only [Option.map_none] at h
  rw[Option.bind_eq_some_iff] at h
  obtain⟨hh,hh1,h⟩:=h
  rw[Option.bind_eq_some_iff] at h
  obtain⟨l,hl,h⟩:=h
  have e2:=optional_eq hhi hh1
  have e3:=optional_eq hlo hl
  have hrun:∀ w,(Instr.sliceBounds isS len cap' (lo.map ev') (hi.map ev') ((none:Option Operand).map ev')).run P w=.ok (l,hh,cap') w:=fun w=>by
   rw[e2,e3]
   simp only [Instr.sliceBounds,Option.map_none,Sem.run_bind,Sem.run_pure,Result.andThen_ok]
   cases hi with
   | none=>
    simp only [Option.map_none] at hh1 ⊢
    cases hh1
    cases lo with
    | none=>simp only [Option.map_none] at hl ⊢;cases hl;simp
    | some z=>simp only [Option.map_some] at hl ⊢;simp [(abound_run (P:=P) hl .sliceB (Nat.le_refl _) w).1]
   | some y=>
    simp only [Option.map_some] at hh1 ⊢
    have hq:=fun code=>(abound_run (P:=P) hh1 code hk w).1
    cases lo with
    | none=>simp only [Option.map_none] at hl ⊢;cases hl;simp [hq]
    | some z=>simp only [Option.map_some] at hl ⊢;simp [hq,(abound_run (P:=P) hl .sliceB (Nat.le_refl _) w).1]
  split at h
  ·rename_i hcu
   cases h
   refine⟨l,hh,cap',?_,hrun⟩
   rw[hc hcu]
   exact cut_VR l ha (fun h=>by rcases hn h with h0 | h0;exact h0.1;omega) _ _ (by omega) _
  ·rename_i hcu
   cases a with
   | none=>
    simp only [] at h
    split at h
    ·rename_i hh0
     cases h
     refine⟨l,hh,cap',?_,hrun⟩
     rw[hh0,Nat.zero_sub];exact .slE _ _
    ·cases h
   | some x=>
    simp only [] at h
    split at h
    ·rename_i hor
     cases h
     refine⟨l,hh,cap',?_,hrun⟩
     have hne:l=0∨cap'≠l:=by omega
     obtain⟨x',rfl,h1,h2,h3⟩:=ha x rfl
     have hadd:(if cap'=l then some x' else (some x').map (fun x=>Addr.add x (l*size)))=some (x'.add (l*size)):=by
      split
      ·rename_i he
       have:l=0:=by omega
       subst this
       simp [Addr.add]
      ·rfl
     rw[hadd]
     have huu:=hu (by omega)
     have hl:l≤cap':=by
      unfold knownCap at hor hk
      split at hor
      ·omega
      ·rename_i h9
       rw[if_neg h9] at hk
       omega
     have hkl:UNK+(knownCap cap - l)≤(cap' - l)+UNK:=by omega
     obtain⟨_,L,hL1,hL2⟩:=(hC x rfl).2 (by omega)
     have hCap:∀ o,(o=0→x.off=0)→CapOk ρ x.block o (UNK+(knownCap cap - l)) (cap' - l):=fun o ho=>
      ⟨fun h=>by omega,fun _=>⟨hkl,L,hL1,fun h0=>Nat.le_trans (Nat.mul_le_mul_right _ (Nat.sub_le _ _)) (hL2 (ho h0))⟩⟩
     unfold Addr.add
     split
     ·exact .sl _ _ _ _ _ h1 h2 h3 (hCap _ id)
     ·exact .sl _ _ _ _ _ h1 (by simp [h2]) rfl (hCap _ (fun h=>by simp at h;omega))
    ·split at h
     ·rename_i he
      cases h
      refine⟨l,hh,cap',?_,hrun⟩
      rw[he,Nat.sub_self];exact .slE _ _
     ·cases h
theorem run_isAgg' {t:TypeId} {d:TypeDesc} (h:P.underlying t=some d) (w:World):(isAgg t).run P w=.ok (isAggD d) w:=by
 unfold isAgg
 rw[Sem.run_bind,run_underlying' h]
 cases d<;>rfl
theorem part_sound {t:TypeId} {cs:List Value} {cs':Array Value} {off:Nat} (hl:LR ρ cs cs'.toList) (h:apart P t cs off=some v) :
  ∃ v',VR ρ v v'∧∀ w,(part t cs' off).run P w=.ok v' w:=by
 unfold apart at h
 split at h
 ·rename_i d i hd hi
  have hs:∀ w,(sizeOf t).run P w=.ok i.size w:=fun w=>by
   have:=run_sizeOf' (P:=P) (t:=t) (by rw[hi];rfl) w
   simpa [Program.cellsOf,hi] using this
  split at h
  ·rename_i hag
   cases h
   refine⟨.agg (cs'.extract off (off+i.size)),LR.agg ?_,fun w=>?_⟩
   ·rw[Array.toList_extract]
    have:=(hl.drop off).take i.size
    simpa [List.extract_eq_take_drop] using this
   ·unfold part
    rw[Sem.run_bind,run_isAgg' hd,hag]
    simp [hs]
  ·rename_i hag
   obtain⟨v',hv',hr⟩:=hl.get h
   refine⟨v',hr,fun w=>?_⟩
   have hag':isAggD d=false:=by simpa using hag
   unfold part
   rw[Sem.run_bind,run_isAgg' hd,hag']
   have:cs'[off]?=some v':=by simpa using hv'
   simp [this]
 ·cases h
theorem LR.set {l l':List Value} {u u':Value} (h:LR ρ l l') (i:Nat) (hu:VR ρ u u'):LR ρ (l.set i u) (l'.set i u'):=by
 refine⟨by simp [h.1],fun j x x' a b=>?_⟩
 rw[List.getElem?_set] at a b
 by_cases hij:i=j
 ·rw[if_pos hij] at a b
  by_cases hj:i<l.length
  ·rw[if_pos hj] at a
   rw[if_pos (by rw[← h.1];exact hj)] at b
   cases a;cases b;exact hu
  ·rw[if_neg hj] at a;cases a
 ·rw[if_neg hij] at a b
  exact h.2 j x x' a b
theorem fold_LR (off:Nat):∀ (l l':List Value) (k:Nat) (cs cs':Array Value),LR ρ l l'→LR ρ cs.toList cs'.toList →
  LR ρ ((l.zipIdx k).foldl (fun cs (x:Value × Nat)=>cs.setIfInBounds (off+x.2) x.1) cs).toList ((l'.zipIdx k).foldl (fun cs (x:Value × Nat)=>cs.setIfInBounds (off+x.2) x.1) cs').toList
 | [],[],_,_,_,_,hc=>hc
 | [],_ :: _,_,_,_,hl,_=>by simp [LR] at hl
 | _ :: _,[],_,_,_,hl,_=>by simp [LR] at hl
 | x :: l,x' :: l',k,cs,cs',hl,hc=>by
  simp only [List.zipIdx_cons,List.foldl_cons]
  refine fold_LR off l l' (k+1) _ _ ⟨by simpa using hl.1,fun i v v' a b=>hl.2 (i+1) v v' (by simpa using a) (by simpa using b)⟩ ?_
  simp only [Array.toList_setIfInBounds]
  exact hc.set _ (hl.2 0 x x' (by simp) (by simp))
theorem fill_sound (place:Nat→Option (Nat × Nat)):∀ (parts parts':List (Nat × Value)) (cs cs' r:Array Value),parts.length=parts'.length →
  (∀ (i:Nat) (p p':Nat × Value),parts[i]?=some p→parts'[i]?=some p'→p.1=p'.1∧VR ρ p.2 p'.2)→LR ρ cs.toList cs'.toList→Instr.fill place cs parts=some r →
  ∃ r',Instr.fill place cs' parts'=some r'∧LR ρ r.toList r'.toList
 | [],[],cs,cs',r,_,_,hc,h=>⟨cs',rfl,by simp only [Instr.fill] at h;cases h;exact hc⟩
 | [],_ :: _,_,_,_,hl,_,_,_=>by simp at hl
 | _ :: _,[],_,_,_,hl,_,_,_=>by simp at hl
 | (i,x) :: l,(i',x') :: l',cs,cs',r,hl,hp,hc,h=>by
  obtain⟨rfl,hx⟩:=hp 0 (i,x) (i',x') (by simp) (by simp)
  have hcl:=hx.cellsLR
  have e1:x'.cells.size=x.cells.size:=by have:=hcl.1;simpa using this.symm
  have e2:cs'.size=cs.size:=by have:=hc.1;simpa using this.symm
  simp only [Instr.fill] at h ⊢
  cases hpl:place i with
  | none=>simp [hpl] at h
  | some q=>
   obtain⟨off,size⟩:=q
   simp only [hpl] at h ⊢
   rw[e1,e2]
   split at h
   ·cases h
   ·rename_i hcond
    rw[if_neg hcond]
    refine fill_sound place l l' _ _ r (by simpa using hl) (fun j p p' a b=>hp (j+1) p p' (by simpa using a) (by simpa using b)) ?_ h
    have:=fold_LR off x.cells.toList x'.cells.toList 0 cs cs' hcl hc
    simpa only [← Array.foldl_toList,Array.toList_zipIdx] using this
theorem build_sound {t:TypeId} {parts parts':Array (Nat × Value)} (hs:parts.size=parts'.size)
  (hp:∀ (i:Nat) (p p':Nat × Value),parts[i]?=some p→parts'[i]?=some p'→p.1=p'.1∧VR ρ p.2 p'.2) (h:abuild P t parts=some v) :
  ∃ v',VR ρ v v'∧pureRun P (Instr.build t parts')=some v':=by
 unfold abuild at h
 split at h
 ·rename_i i hi
  split at h
  ·rename_i z hz
   split at h
   ·rename_i hall
    have hzero:pureRun P (zeroValue t)=some z:=by
     simp [zeroValue,typeInfo,pureRun_bind,program,pureRun,hi,hz]
    unfold Instr.build at h ⊢
    simp only [pureRun_bind,hzero,Option.bind_some] at h ⊢
    cases hu:P.underlying t with
    | none=>simp [underlying,pureRun_bind,program,pureRun,hu,stuck] at h
    | some d=>
     have hun:pureRun P (underlying t)=some d:=by simp [underlying,pureRun_bind,program,pureRun,hu]
     simp only [hun,Option.bind_some] at h ⊢
     cases d with
     | struct fields=>
      simp only [pureRun_bind] at h ⊢
      rw[Option.bind_eq_some_iff] at h
      obtain⟨places,hpl,h⟩:=h
      simp only [hpl,Option.bind_some]
      cases hf:Instr.fill (fun x=>places[x]?) z.cells parts.toList with
      | none=>simp [hf,stuck,pureRun] at h
      | some cells=>
       obtain⟨r',hr',hlr⟩:=fill_sound (ρ:=ρ) _ parts.toList parts'.toList z.cells z.cells cells (by simpa using hs) (fun i p p' a b=>hp i p p' (by simpa using a) (by simpa using b)) (scalars_LR ρ hall) hf
       simp only [hf,pureRun_pure,Option.some.injEq] at h
       simp only [hr',pureRun_pure]
       subst h
       exact⟨_,LR.agg hlr,rfl⟩
     | array n e=>
      simp only [pureRun_bind] at h ⊢
      rw[Option.bind_eq_some_iff] at h
      obtain⟨size,hpl,h⟩:=h
      simp only [hpl,Option.bind_some]
      cases hf:Instr.fill (fun i=>some (i*size,size)) z.cells parts.toList with
      | none=>simp [hf,stuck,pureRun] at h
      | some cells=>
       obtain⟨r',hr',hlr⟩:=fill_sound (ρ:=ρ) _ parts.toList parts'.toList z.cells z.cells cells (by simpa using hs) (fun i p p' a b=>hp i p p' (by simpa using a) (by simpa using b)) (scalars_LR ρ hall) hf
       simp only [hf,pureRun_pure,Option.some.injEq] at h
       simp only [hr',pureRun_pure]
       subst h
       exact⟨_,LR.agg hlr,rfl⟩
     | _=>simp [stuck,pureRun] at h
   ·cases h
  ·cases h
 ·cases h
theorem VR.ptrInv {a:Addr} {v':Value} (h:VR ρ (.pointer (some a)) v'):∃ a',v'=.pointer (some a')∧At ρ a.block a'.block∧a'.off=a.off∧a'.spot=a.spot:=by
 cases h with
 | ptr _ a' hb ho hs=>exact⟨a',rfl,hb,ho,hs⟩
theorem VR.slInv {a:Option Addr} {n c:Nat} {v':Value} (h:VR ρ (.slice a n c) v'):∃ a' c',v'=.slice a' n c' ∧
  (∀ x,a=some x→∃ x',a'=some x'∧At ρ x.block x'.block∧x'.off=x.off∧x'.spot=x.spot)∧(a=none→(a'=none∧c'=c)∨(n=0∧c=UNK))∧(c<UNK→c'=c)∧(UNK≤c→c≤c'+UNK)∧(∀ x,a=some x→CapOk ρ x.block x.off c c'):=by
 cases h with
 | slNil=>exact⟨none,c,rfl,nofun,fun _=>.inl ⟨rfl,rfl⟩,fun _=>rfl,fun _=>by omega,nofun⟩
 | slE a c'=>exact⟨a,c',rfl,nofun,fun _=>.inr ⟨rfl,rfl⟩,fun h=>absurd h (by decide),fun _=>by omega,nofun⟩
 | sl a a' _ _ c' hb ho hs hc=>exact⟨some a',c',rfl,fun x hx=>by cases hx;exact⟨a',rfl,hb,ho,hs⟩,nofun,hc.1,fun h=>(hc.2 h).1,fun x hx=>by cases hx;exact hc⟩
theorem equal_unf (t:TypeId) (x y:Value):Op.equal t x y=Op.equalIn (9999+1) t x y:=rfl
theorem anilB_sound {t:TypeId} {x y x' y':Value} {b:Bool} (h:anilB P t x y=some b) (hx:VR ρ x x') (hy:VR ρ y y') :
  (∀ w,(Op.equal t x' y').run P w=.ok b w)∧(∀ op,binOp op t x' y'=match op with
   | .eql=>(do pure (.bool (← Op.equal t x' y')))
   | .neq=>(do pure (.bool (!(← Op.equal t x' y'))))
   | op=>binOp op t x' y')∧(∀ op (a c:Operand),eqGuard op t a c x' y'=pure ()):=by
 unfold anilB at h
 have g1:∀ (op:BinOp) (a c:Operand) (x y:Value),(match x,y with | .nilIface,.nilIface=>False | .agg _,.agg _=>False | _,_=>True)→eqGuard op t a c x y=pure ():=by
  intro op a c x y hk
  cases op<;>first | rfl | (cases x<;>first | rfl | (cases y<;>first | rfl | exact hk.elim))
 split at h
 ·rename_i e n c b' m d hu
  split at h
  rotate_left
  ·cases h
  rename_i hcd
  cases h
  obtain⟨a2,c2,rfl,_,ha2,_⟩:=hx.slInv
  obtain⟨b2,d2,rfl,hb1,hb2,_⟩:=hy.slInv
  obtain⟨rfl,rfl⟩:a2=none∧c2=c:=by rcases ha2 rfl with h0 | h0;exact h0;omega
  have hbn:b2.isNone=b'.isNone:=by
   cases b' with
   | none=>
    have hd:=hcd.2 rfl
    rcases hb2 rfl with h0 | h0
    ·rw[h0.1]
    ·omega
   | some z=>obtain⟨z',rfl,_⟩:=hb1 z rfl;rfl
  exact⟨fun w=>by rw[equal_unf];unfold Op.equalIn;rw[Sem.run_bind,run_underlying' hu,← hbn];rfl,fun op=>by cases op<;>rfl,fun op a c=>g1 op a c _ _ trivial⟩
 ·rename_i e z n c m d hu
  split at h
  rotate_left
  ·cases h
  cases h
  obtain⟨a2,c2,rfl,ha1,_⟩:=hx.slInv
  obtain⟨b2,d2,rfl,hb1,hb2,_⟩:=hy.slInv
  obtain⟨z',rfl,_⟩:=ha1 z rfl
  obtain⟨rfl,rfl⟩:b2=none∧d2=d:=by rcases hb2 rfl with h0 | h0;exact h0;omega
  exact⟨fun w=>by rw[equal_unf];unfold Op.equalIn;rw[Sem.run_bind,run_underlying' hu];rfl,fun op=>by cases op<;>rfl,fun op a c=>g1 op a c _ _ trivial⟩
 ·rename_i e b' hu
  cases h
  have e1:=hx.scalar_eq rfl
  subst e1
  cases b' with
  | none=>
   have e2:=hy.scalar_eq rfl
   subst e2
   exact⟨fun w=>by rw[equal_unf];unfold Op.equalIn;rw[Sem.run_bind,run_underlying' hu];rfl,fun op=>by cases op<;>rfl,fun op a c=>g1 op a c _ _ trivial⟩
  | some z=>
   obtain⟨z',rfl,_⟩:=hy.ptrInv
   exact⟨fun w=>by rw[equal_unf];unfold Op.equalIn;rw[Sem.run_bind,run_underlying' hu];rfl,fun op=>by cases op<;>rfl,fun op a c=>g1 op a c _ _ trivial⟩
 ·rename_i e z hu
  cases h
  obtain⟨z',rfl,_⟩:=hx.ptrInv
  have e2:=hy.scalar_eq rfl
  subst e2
  exact⟨fun w=>by rw[equal_unf];unfold Op.equalIn;rw[Sem.run_bind,run_underlying' hu];rfl,fun op=>by cases op<;>rfl,fun op a c=>g1 op a c _ _ trivial⟩
 ·rename_i hu
  cases h
  have e1:=hx.scalar_eq rfl
  have e2:=hy.scalar_eq rfl
  subst e1 e2
  exact⟨fun w=>by rw[equal_unf];unfold Op.equalIn;rw[Sem.run_bind,run_underlying' hu];rfl,fun op=>by cases op<;>rfl,fun op a c=>g1 op a c _ _ trivial⟩
 ·rename_i hu
  cases h
  have e1:=hx.scalar_eq rfl
  subst e1
  cases hy
  exact⟨fun w=>by rw[equal_unf];unfold Op.equalIn;rw[Sem.run_bind,run_underlying' hu];rfl,fun op=>by cases op<;>rfl,fun op a c=>g1 op a c _ _ trivial⟩
 ·rename_i hu
  cases h
  have e2:=hy.scalar_eq rfl
  subst e2
  cases hx
  exact⟨fun w=>by rw[equal_unf];unfold Op.equalIn;rw[Sem.run_bind,run_underlying' hu];rfl,fun op=>by cases op<;>rfl,fun op a c=>g1 op a c _ _ trivial⟩
 ·cases h
theorem anil_sound {op:BinOp} {t:TypeId} {x y x' y':Value} (h:anil P op t x y=some v) (hx:VR ρ x x') (hy:VR ρ y y') (a c:Operand) :
  ∃ v',VR ρ v v'∧∀ w,((do eqGuard op t a c x' y';binOp op t x' y'):Sem Value).run P w=.ok v' w:=by
 unfold anil at h
 rw[Option.bind_eq_some_iff] at h
 obtain⟨b,hb,h⟩:=h
 obtain⟨h1,h2,h3⟩:=anilB_sound hb hx hy
 unfold anilOp at h
 split at h
 ·cases h;exact⟨_,.bool _,fun w=>by rw[h3,h2];simp [h1]⟩
 ·cases h;exact⟨_,.bool _,fun w=>by rw[h3,h2];simp [h1]⟩
 ·cases h
theorem aindexA_sound {t:TypeId} {x ix x' ix':Value} (h:aindexA P t x ix=some v) (hx:VR ρ x x') (hi:VR ρ ix ix') :
  ∃ v',VR ρ v v'∧∀ w,(Instr.indexAt t x' ix').run P w=.ok v' w:=by
 unfold aindexA at h
 split at h
 ·rename_i k i
  have e:=hi.scalar_eq rfl
  subst e
  split at h
  ·rename_i e a len cap hu
   split at h
   ·rename_i hc
    cases h
    obtain⟨a',c',rfl,ha1,_⟩:=hx.slInv
    obtain⟨z,rfl,h1,h2,h3⟩:=ha1 a rfl
    refine⟨_,add_VR _ h1 h2 h3,fun w=>?_⟩
    simp [Instr.indexAt,asIntOf,run_underlying' hu,hc.1,hc.2.1,run_sizeOf' hc.2.2]
   ·cases h
  ·rename_i len e a hu
   split at h
   ·rename_i hc
    cases h
    obtain⟨z,rfl,h1,h2,h3⟩:=hx.ptrInv
    refine⟨_,add_VR _ h1 h2 h3,fun w=>?_⟩
    simp [Instr.indexAt,Instr.sureAddr,asIntOf,run_underlying' hu,hc.1,hc.2.1,run_sizeOf' hc.2.2]
   ·cases h
  ·cases h
 ·cases h
theorem apure_sound (h:apure P o ev=some v) (hv:∀ x∈o.op.operands,VR ρ (ev x) (ev' x)) :
  ∃ v',VR ρ v v'∧∀ w,(execOp ev' o).run P w=.ok (.value v') w:=by
 have H:=h
 unfold apure at h
 split at h
 ·rename_i x ho;cases h;exact⟨_,hv x (by simp [ho,Op.operands]),fun w=>by simp [execOp,ho]⟩
 ·rename_i x ho;cases h;exact⟨_,hv x (by simp [ho,Op.operands]),fun w=>by simp [execOp,ho]⟩
 ·rename_i c a b ho
  split at h
  ·rename_i t hc
   cases h
   have e:=(hv c (by simp [ho,Op.operands])).scalar_eq (by rw[hc];rfl)
   rw[hc] at e
   have ha:=hv a (by simp [ho,Op.operands])
   have hb:=hv b (by simp [ho,Op.operands])
   cases t
   ·exact⟨_,hb,fun w=>by simp [execOp,ho,e,asBool]⟩
   ·exact⟨_,ha,fun w=>by simp [execOp,ho,e,asBool]⟩
  ·cases h
 ·rename_i x ho
  split at h
  ·rename_i a hx
   cases h
   have hh:=hv x (by simp [ho,Op.operands])
   rw[hx] at hh
   obtain⟨a',ha,h1,h2,h3⟩:=hh.ptrInv
   exact⟨_,ha ▸ hh,fun w=>by simp [execOp,ho,ha]⟩
  ·cases h
 ·rename_i s x f ho
  split at h
  ·rename_i fs a hu hx
   split at h
   ·rename_i fd hf
    split at h
    ·rename_i hc
     cases h
     have hh:=hv x (by simp [ho,Op.operands])
     rw[hx] at hh
     obtain⟨a',ha,h1,h2,h3⟩:=hh.ptrInv
     exact⟨_,add_VR _ h1 h2 h3,fun w=>by simp [execOp,ho,ha,Instr.fieldAt,run_underlying' hu,hf,Instr.sureAddr,fieldPlace,run_sizeOf' hc.1,hc.2]⟩
    ·cases h
   ·cases h
  ·cases h
 ·rename_i t x ix ho
  obtain⟨v',h1,h2⟩:=aindexA_sound h (hv x (by simp [ho,Op.operands])) (hv ix (by simp [ho,Op.operands]))
  exact⟨v',h1,fun w=>by simp [execOp,ho,h2]⟩
 ·rename_i t x lo hi mx ho
  have m0:=hv x (by simp [ho,Op.operands])
  have m1:∀ y,lo=some y→VR ρ (ev y) (ev' y):=fun y hy=>hv y (by simp [ho,Op.operands,hy])
  have m2:∀ y,hi=some y→VR ρ (ev y) (ev' y):=fun y hy=>hv y (by simp [ho,Op.operands,hy])
  have m3:∀ y,mx=some y→VR ρ (ev y) (ev' y):=fun y hy=>hv y (by simp [ho,Op.operands,hy])
  split at h
  ·rename_i a len cap hx
   split at h
   ·rename_i e hu
    split at h
    ·rename_i hc
     rw[hx] at m0
     obtain⟨a',c',ha,ha1,ha2,hc1,hc2,hC⟩:=m0.slInv
     obtain⟨l,h',m,hr,hrun⟩:=slice_sound (P:=P) (isS:=true) ha1 ha2 hc1 hc2 hC m1 m2 m3 h
     exact⟨_,hr,fun w=>by simp [execOp,ho,ha,Instr.sliceAt,Instr.slice,run_underlying' hu,hrun,run_sizeOf' hc]⟩
    ·cases h
   ·cases h
  ·rename_i a hx
   split at h
   ·rename_i n e hu
    split at h
    ·rename_i hc
     rw[hx] at m0
     obtain⟨a',ha,h1,h2,h3⟩:=m0.ptrInv
     obtain⟨l,h',m,hr,hrun⟩:=slice_sound (P:=P) (isS:=false) (a:=some a) (a':=some a') (cap':=n) (fun x hx=>by cases hx;exact⟨a',rfl,h1,h2,h3⟩) nofun (fun _=>rfl) (fun hk=>by omega) (fun x hx=>⟨fun _=>rfl,fun hk=>by omega⟩) m1 m2 m3 h
     refine⟨_,hr,fun w=>?_⟩
     simp only [execOp,ho,ha,Instr.sliceAt,Sem.run_bind,run_underlying' hu,Result.andThen_ok,Instr.sureAddr,Sem.run_pure,hrun,run_sizeOf' hc.1]
     split<;>rfl
    ·cases h
   ·cases h
  ·exact aflat_sound (by rw[ho];nofun) h hv
 ·rename_i t x ix ho
  split at h
  ·rename_i cs k i hx hi
   split at h
   ·rename_i len e hu
    split at h
    ·rename_i hc
     have m0:=hv x (by simp [ho,Op.operands])
     have m1:=(hv ix (by simp [ho,Op.operands])).scalar_eq (by rw[hi];rfl)
     rw[hx] at m0
     obtain⟨cs',hcs,hl⟩:=m0.aggInv
     obtain⟨v',hr,hrun⟩:=part_sound hl h
     have hs:(P.info? e).isSome=true:=by
      unfold apart at h
      split at h
      ·rename_i hi;rw[hi];rfl
      ·cases h
     exact⟨v',hr,fun w=>by simp [execOp,ho,hcs,m1,hi,Instr.index,asIntOf,run_underlying' hu,hc.1,hc.2,run_sizeOf' hs,hrun]⟩
    ·cases h
   ·cases h
  ·exact aflat_sound (by rw[ho];nofun) h hv
 ·rename_i t x f ho
  split at h
  ·rename_i cs fs hx hu
   split at h
   ·rename_i fd hf
    have m0:=hv x (by simp [ho,Op.operands])
    rw[hx] at m0
    obtain⟨cs',hcs,hl⟩:=m0.aggInv
    obtain⟨v',hr,hrun⟩:=part_sound hl h
    exact⟨v',hr,fun w=>by simp [execOp,ho,hcs,Instr.field,run_underlying' hu,hf,asAgg,hrun]⟩
   ·cases h
  ·cases h
 ·rename_i x i ho
  split at h
  ·rename_i vs hx
   have m0:=hv x (by simp [ho,Op.operands])
   rw[hx] at m0
   obtain⟨cs',hcs,hl⟩:=m0.tupleInv
   obtain⟨v',hg,hr⟩:=hl.get (i:=i) (v:=v) (by simpa using h)
   have hg':cs'[i]?=some v':=by simpa using hg
   exact⟨v',hr,fun w=>by simp [execOp,ho,hcs,Instr.extract,hg']⟩
  ·cases h
 ·rename_i t parts ho
  have hp:∀ (i:Nat) (p p':Nat × Value),(parts.map fun (i,x)=>(i,ev x))[i]?=some p→(parts.map fun (i,x)=>(i,ev' x))[i]?=some p'→p.1=p'.1∧VR ρ p.2 p'.2:=by
   intro i p p' a b
   rw[Array.getElem?_map,Option.map_eq_some_iff] at a b
   obtain⟨q,hq,rfl⟩:=a
   obtain⟨q',hq',rfl⟩:=b
   rw[hq] at hq'
   cases hq'
   refine⟨rfl,hv q.2 ?_⟩
   rw[ho]
   simp only [Op.operands,List.mem_toArray,List.mem_map,Array.mem_toList_iff]
   exact⟨q,Array.mem_of_getElem? hq,rfl⟩
  obtain⟨v',hr,hrun⟩:=build_sound (by simp) hp h
  exact⟨v',hr,fun w=>by simp [execOp,ho,pureRun_sound hrun]⟩
 ·rename_i t x ho
  have m0:=hv x (by simp [ho,Op.operands])
  split at h
  ·cases h
  ·rename_i d hni hu
   cases h
   refine⟨_,.iface t _ _ m0,fun w=>?_⟩
   simp only [execOp,ho,Instr.makeInterface,Sem.run_bind,run_underlying' hu,Result.andThen_ok]
   cases d<;>first | rfl | exact absurd hu (hni _)
  ·cases h
 ·rename_i fn first captured ho
  cases h
  refine⟨.func fn (first.map ev') (captured.map ev'),.func fn _ _ _ _ (by simp) (by simp) ?_ ?_,fun w=>by simp [execOp,ho,Instr.makeFunc]⟩
  ·intro i x x' a b
   rw[Array.getElem?_map,Option.map_eq_some_iff] at a b
   obtain⟨q,hq,rfl⟩:=a
   obtain⟨q',hq',rfl⟩:=b
   rw[hq] at hq'
   cases hq'
   exact hv q (by simp [ho,Op.operands,Array.mem_of_getElem? hq])
  ·intro i x x' a b
   rw[Array.getElem?_map,Option.map_eq_some_iff] at a b
   obtain⟨q,hq,rfl⟩:=a
   obtain⟨q',hq',rfl⟩:=b
   rw[hq] at hq'
   cases hq'
   exact hv q (by simp [ho,Op.operands,Array.mem_of_getElem? hq])
 ·rename_i op t x y yt ho
  split at h
  ·rename_i u hu
   cases h
   exact aflat_sound (by rw[ho];nofun) hu hv
  ·obtain⟨v',hr,hrun⟩:=anil_sound h (hv x (by simp [ho,Op.operands])) (hv y (by simp [ho,Op.operands])) x y
   refine⟨v',hr,fun w=>?_⟩
   have:=hrun w
   simp only [execOp,ho]
   rw[Sem.run_bind,this]
   rfl
 ·rename_i ho;exact aflat_sound (by rw[ho];nofun) h hv
 ·rename_i ho;exact aflat_sound (by rw[ho];nofun) h hv
 ·rename_i ho;exact aflat_sound (by rw[ho];nofun) h hv
 ·rename_i c ho
  split at h
  ·rename_i hcal
   split at h
   ·rename_i e a n cp hT hA
    cases h
    rw[Option.bind_eq_some_iff] at hT
    obtain⟨t,ht,hu⟩:=hT
    rw[Option.map_eq_some_iff] at hA
    obtain⟨y,hy,hA⟩:=hA
    have m0:=hv y (by simp [ho,Op.operands,Call.operands,hcal,Array.mem_of_getElem? hy])
    rw[hA] at m0
    obtain⟨a',c',ha,_⟩:=m0.slInv
    refine⟨_,.int _ _,fun w=>?_⟩
    simp [execOp,ho,resolve,hcal,invoke,builtin,Builtin.len_,ht,hy,ha,run_underlying' hu,goInt]
   ·exact aflat_sound (by rw[ho];nofun) h hv
  ·rename_i hcal
   split at h
   ·rename_i e a q n hT hA
    split at h
    ·rename_i hn
     cases h
     rw[Option.bind_eq_some_iff] at hT
     obtain⟨t,ht,hu⟩:=hT
     rw[Option.map_eq_some_iff] at hA
     obtain⟨y,hy,hA⟩:=hA
     have m0:=hv y (by simp [ho,Op.operands,Call.operands,hcal,Array.mem_of_getElem? hy])
     rw[hA] at m0
     obtain⟨a',c',ha,_,_,hc,_⟩:=m0.slInv
     refine⟨_,.int _ _,fun w=>?_⟩
     simp [execOp,ho,resolve,hcal,invoke,builtin,Builtin.cap_,ht,hy,ha,run_underlying' hu,goInt,hc hn]
    ·cases h
   ·cases h
  ·exact aflat_sound (by rw[ho];nofun) h hv
  ·exact aflat_sound (by rw[ho];nofun) h hv
  ·exact aflat_sound (by rw[ho];nofun) h hv
  ·exact aflat_sound (by rw[ho];nofun) h hv
  ·exact aflat_sound (by rw[ho];nofun) h hv
  ·cases h
 ·cases h
end
def PSim (P:Program) (o:Oper) (ev:Operand→Value) (v:Value):Prop:=∀ (ρ:Nat→Option Loc) (ev':Operand→Value),(∀ x∈o.op.operands,VR ρ (ev x) (ev' x))→∃ v',VR ρ v v'∧∀ w,(execOp ev' o).run P w=.ok (.value v') w
theorem apure_psim {P:Program} {o:Oper} {ev:Operand→Value} {v:Value} (h:apure P o ev=some v):PSim P o ev v:=fun ρ ev' hv=>apure_sound h hv
end
section
open Go
section
variable {P:Program} {ρ:Nat→Option Loc} {S S':Mem} {w:World}
theorem cellsAt_real {a a':Addr} {n:Nat} {l:List Value} (h:SR ρ S w) (hl:S.cellsAt a n=some l) (hb:At ρ a.block a'.block) (ho:a'.off=a.off) (hs:a'.spot=a.spot) :
  ∃ l',LR ρ l l'∧l'.length=n∧a'.spot=none∧∀ (j:Nat) (v:Value),l'[j]?=some v→w.cell? (a'.add j)=some v:=by
 unfold Mem.cellsAt at hl
 split at hl
 ·rename_i x hx
  split at hl
  ·rename_i hc
   cases hl
   obtain⟨hx1,hx2⟩:=Mem.row?_some hx
   obtain⟨L,hb',⟨c,fz,hh,hle,_,_,_,_,hcell⟩⟩:=h.live _ _ hx1 hx2
   have hLb:L.b=a'.block:=At.inj ⟨L,hb',rfl⟩ hb
   rw[hLb] at hh
   have hsp:a'.spot=none:=hs.trans hc.1
   refine⟨(c.toList.drop a.off).take n,⟨?_,?_⟩,?_,hsp,?_⟩
   ·simp only [List.length_take,List.length_drop,Array.length_toList];omega
   ·intro i v v' e1 e2
    rw[List.getElem?_take] at e1 e2
    split at e1
    ·rename_i hi
     rw[if_pos hi] at e2
     rw[List.getElem?_drop] at e1 e2
     obtain⟨hk1,hk2⟩ | ⟨u,hu,hr⟩:=hcell _ _ e1
     ·exfalso
      rcases hc.2.2 with hk3 | hk3
      ·exact hk1 hk3
      ·have:=List.all_eq_true.1 hk3 v (List.mem_of_getElem? (i:=i) (by rw[List.getElem?_take,if_pos hi,List.getElem?_drop];exact e1))
       rw[hk2] at this;cases this
     have:u=v':=by
      have e3:c[a.off+i]?=some v':=by simpa using e2
      rw[hu] at e3;exact Option.some.inj e3
     subst this;exact hr
    ·cases e1
   ·simp only [List.length_take,List.length_drop,Array.length_toList];omega
   ·intro j v e
    rw[List.getElem?_take] at e
    split at e
    ·rw[List.getElem?_drop] at e
     have hadd:a'.add j=⟨a'.block,a'.off+j,none⟩:=by
      unfold Addr.add
      split
      ·rename_i h0
       subst h0
       cases a'
       simp at hsp ⊢
       exact hsp
      ·rfl
     rw[hadd,cell_of_row w a'.block (a'.off+j) c x.elem fz hh,ho]
     simpa using e
    ·cases e
  ·cases hl
 ·cases hl
def bytesOf:List Value→Option (List UInt8)
 | []=>some []
 | .int .u8 n :: r=>(bytesOf r).map (UInt8.ofNat n.toNat :: ·)
 | _ :: _=>none
def isBytes (P:Program) (t:TypeId):Bool:=match P.underlying t with
 | some (.int .u8)=>true
 | _=>false
def aloadAt (P:Program) (t:TypeId) (x:Value) (S:Mem):Option Value:=match x,P.underlying t,P.info? t with
 | .pointer (some a),some d,some i=>if isAggD d then (S.cellsAt a i.size).map fun l=>.agg l.toArray else (S.cellsAt a 1).bind (·[0]?)
 | _,_,_=>none
def aload (P:Program) (o:Oper) (ev:Operand→Value) (S:Mem):Option Value:=
 match o.op with
 | .load t x=>aloadAt P t (ev x) S
 | .convert src dst x=>match ev x,P.underlying src,P.underlying dst with
  | .slice (some a) n _,some (.slice e),some .string=>if isBytes P e then ((S.cellsAt a n).bind bytesOf).map fun l=>.string ⟨l.toArray⟩ else none
  | _,_,_=>none
 | _=>none
theorem bytesOf_run {f:Value→ByteArray→Sem (ForInStep ByteArray)} (hf:∀ n r,f (.int .u8 n) r=pure (ForInStep.yield (r.push (UInt8.ofNat n.toNat)))) (l:List Value) :
  ∀ (bs:List UInt8) (s:ByteArray) (w:World),bytesOf l=some bs→(forIn l s f).run P w=.ok ⟨s.data++bs.toArray⟩ w:=by
 induction l with
 | nil=>intro bs s w h;simp [bytesOf] at h;subst h;simp
 | cons v l ih=>
  intro bs s w h
  unfold bytesOf at h
  split at h
  ·rename_i he;cases he
  ·rename_i n r he
   cases he
   rw[Option.map_eq_some_iff] at h
   obtain⟨b2,hb2,rfl⟩:=h
   rw[List.forIn_cons,Sem.run_bind]
   rw[hf]
   simp only [Sem.run_pure,Result.andThen_ok]
   rw[ih b2 _ w hb2]
   congr 1
   simp [ByteArray.push]
  ·cases h
theorem bytesOf_scalar:∀ (l:List Value) (bs:List UInt8),bytesOf l=some bs→l.all scalar=true
 | [],_,_=>rfl
 | v :: l,bs,h=>by
  unfold bytesOf at h
  split at h
  ·rename_i he;cases he
  ·rename_i n r he
   cases he
   rw[Option.map_eq_some_iff] at h
   obtain⟨b2,hb2,rfl⟩:=h
   simp only [List.all_cons,Bool.and_eq_true]
   exact⟨rfl,bytesOf_scalar l b2 hb2⟩
  ·cases h
theorem aloadAt_sound {t:TypeId} {x x':Value} {v:Value} (hS:SR ρ S w) (h:aloadAt P t x S=some v) (m0:VR ρ x x') :
  ∃ v' a',x'=.pointer (some a')∧VR ρ v v'∧(loadVar t a').run P w=.ok v' w:=by
 unfold aloadAt at h
 split at h
 ·rename_i a d i hd hi
  obtain⟨a',rfl,h1,h2,h3⟩:=m0.ptrInv
  have hso:∀ w,(sizeOf t).run P w=.ok i.size w:=fun w=>by
   have:=run_sizeOf' (P:=P) (t:=t) (by rw[hi];rfl) w
   simpa [Program.cellsOf,hi] using this
  split at h
  ·rename_i hag
   rw[Option.map_eq_some_iff] at h
   obtain⟨l,hl,rfl⟩:=h
   obtain⟨l',hr,hlen,_,hcell⟩:=cellsAt_real hS hl h1 h2 h3
   have hrun:=run_loadCells_list (P:=P) w a' l' hcell
   rw[hlen] at hrun
   refine⟨.agg l'.toArray,a',rfl,LR.agg (by simpa using hr),?_⟩
   simp [loadVar,run_isAgg' hd,hag,hso,hrun]
  ·rename_i hag
   rw[Option.bind_eq_some_iff] at h
   obtain⟨l,hl,h⟩:=h
   obtain⟨l',hr,hlen,hsp,hcell⟩:=cellsAt_real hS hl h1 h2 h3
   obtain⟨v',hv',hvr⟩:=hr.get h
   have hc:=hcell 0 v' hv'
   rw[show a'.add 0=a' from rfl] at hc
   have hag':isAggD d=false:=by simpa using hag
   refine⟨v',a',rfl,hvr,?_⟩
   simp [loadVar,run_isAgg' hd,hag',hc]
 ·cases h
theorem aload_sound {o:Oper} {ev ev':Operand→Value} {v:Value} (hS:SR ρ S w) (h:aload P o ev S=some v) (hv:∀ x∈o.op.operands,VR ρ (ev x) (ev' x)) :
  ∃ v',VR ρ v v'∧(execOp ev' o).run P w=.ok (.value v') w:=by
 unfold aload at h
 split at h
 ·rename_i t x ho
  obtain⟨v',a',ha,hr,hrun⟩:=aloadAt_sound (P:=P) hS h (hv x (by simp [ho,Op.operands]))
  exact⟨v',hr,by simp [execOp,ho,ha,Instr.loadAt,Instr.sureAddr,hrun]⟩
 ·rename_i src dst x ho
  split at h
  ·rename_i a n c e hx hsr hds
   split at h
   ·rename_i hby
    rw[Option.map_eq_some_iff] at h
    obtain⟨bs,hbs,rfl⟩:=h
    rw[Option.bind_eq_some_iff] at hbs
    obtain⟨l,hl,hbs⟩:=hbs
    have m0:=hv x (by simp [ho,Op.operands])
    rw[hx] at m0
    obtain⟨a0,c',ha,ha1,_⟩:=m0.slInv
    obtain⟨a',rfl,h1,h2,h3⟩:=ha1 a rfl
    obtain⟨l',hr,hlen,hsp,hcell⟩:=cellsAt_real hS hl h1 h2 h3
    have hll:=hr.scalar_eq (bytesOf_scalar l bs hbs)
    subst hll
    have hrun:=run_loadCells_list (P:=P) w a' l' hcell
    rw[hlen] at hrun
    refine⟨_,.string _,?_⟩
    have hby':∀ w,(underlying e).run P w=.ok (.int .u8) w:=fun w=>by
     unfold isBytes at hby
     split at hby
     ·rename_i hq;exact run_underlying' hq w
     ·cases hby
    have hcv:(convert src dst (.slice (some a') n c')).run P w=(Conv.bytesToString (.slice (some a') n c')).run P w:=by
     unfold convert
     simp only [Sem.run_bind,run_underlying' hsr,run_underlying' hds,Result.andThen_ok,hby']
    simp only [execOp,ho,ha,Sem.run_bind,hcv]
    unfold Conv.bytesToString
    simp only [Sem.run_bind,hrun,Result.andThen_ok]
    rw[← Array.forIn_toList]
    rw[bytesOf_run (fun _ _=>rfl) l' bs ByteArray.empty w hbs]
    simp only [Sem.run_pure,Result.andThen_ok]
    congr 3
    show ByteArray.mk (#[]++bs.toArray)=_
    simp
   ·cases h
  ·cases h
 ·cases h
end
def zeroList (z:Array Value) (n:Nat):List Value:=(List.range n).map fun i=>z[i % z.size]!
def roomy (need bytes:Nat):Prop:=need*bytes≤70368744177664∧bytes≤1073741824∧need≤70368744177664∧0<bytes
instance (n b:Nat):Decidable (roomy n b):=by unfold roomy;infer_instance
def firstOf (S:Mem) (size n:Nat):Value→Option (List Value)
 | .slice (some a) _ _=>if n*size=0 then some [] else S.cellsAt a (n*size)
 | .slice none _ c=>if c<UNK∨n*size=0 then some [] else none
 | .string s=>some ((s.data.toList.take n).map fun b=>.int .u8 b.toNat)
 | _=>none
theorem firstOf_zero {S:Mem} {size:Nat} {x:Value} {l:List Value} (h:firstOf S size 0 x=some l):l=[]:=by
 unfold firstOf at h
 split at h
 ·rw[if_pos (Nat.zero_mul _)] at h;cases h;rfl
 ·rw[if_pos (.inr (Nat.zero_mul _))] at h;cases h;rfl
 ·cases h;simp
 ·cases h
theorem firstOf_nil (S:Mem) (size n:Nat):firstOf S size n (.slice none 0 0)=some []:=by
 show (if 0<UNK∨n*size=0 then some [] else none)=some []
 rw[if_pos (Or.inl (by decide))]
def lenOf':Value→Option Nat
 | .slice _ n _=>some n
 | .string s=>some s.size
 | _=>none
def aappend (P:Program) (ts xs:TypeId) (s x:Value) (S:Mem):Option (Value × Mem):=
 match P.underlying ts,P.underlying xs,s with
 | some (.slice e),some dx,.slice base n c=>match P.info? e,(match dx with | .slice _ | .string=>some () | _=>none) with
  | some i,some ()=>match i.zero,lenOf' x with
   | some z,some m=>(firstOf S i.size m x).bind fun news=>(firstOf S i.size n s).bind fun old=>
    if z.cells.size≠i.size∨¬ z.cells.toList.all scalar then none else
    if n+m≤knownCap c then
     match base with
     | some a=>if news=[] then some (.slice base (n+m) c,S) else (S.write (a.add (n*i.size)) news).map fun S'=>(.slice base (n+m) c,S')
     | none=>if c<UNK∧news=[] then some (.slice none (n+m) c,S) else none
    else if roomy (n+m) i.bytes∧news.length=m*i.size∧old.length=n*i.size then
     if c<UNK then some (.slice (some ⟨S.length,0,none⟩) (n+m) (UNK+(n+m)),S++[grownR (old++news) e i.size])
     else match base with
      | some a=>if a.off=0∧a.spot=none then match S.row? a.block with
        | some r=>if r.ro=none∧r.elem=e∧r.exact=false∧r.sz=i.size∧news.all oneCell=true∧n*i.size≤r.cells.length then
          some (.slice (some ⟨S.length,0,none⟩) (n+m) (UNK+(n+m)),S.set a.block { r with st:=.moved }++[grownR (old++news) e i.size]) else none
        | none=>none
       else none
      | none=>none
    else none
   | _,_=>none
  | _,_=>none
 | _,_,_=>none
end
section
open Go
theorem putFrom_length (l:List Value) (i:Nat) (vs:List Value) (h:i+vs.length≤l.length):(putFrom l i vs).length=l.length:=by
 simp [putFrom];omega
theorem putFrom_get (l:List Value) (i:Nat) (vs:List Value) (h:i+vs.length≤l.length) (j:Nat) :
  (putFrom l i vs)[j]?=if j<i then l[j]? else if j<i+vs.length then vs[j - i]? else l[j]?:=by
 unfold putFrom
 have hl:(l.take i).length=i:=by simp;omega
 by_cases h1:j<i
 ·rw[if_pos h1,List.append_assoc,List.getElem?_append_left (by omega),List.getElem?_take,if_pos h1]
 ·rw[if_neg h1,List.append_assoc,List.getElem?_append_right (by omega),hl]
  by_cases h2:j<i+vs.length
  ·rw[if_pos h2,List.getElem?_append_left (by omega)]
  ·rw[if_neg h2,List.getElem?_append_right (by omega),List.getElem?_drop]
   congr 1
   omega
theorem putFrom_cons (l:List Value) (i:Nat) (v:Value) (vs:List Value) (h:i<l.length):putFrom l i (v :: vs)=putFrom (l.set i v) (i+1) vs:=by
 unfold putFrom
 have h1:(l.set i v).take (i+1)=l.take i++[v]:=by
  rw[List.take_succ_eq_append_getElem (by simpa using h)]
  simp [List.take_set_of_le]
 rw[h1,List.drop_set_of_lt (by omega)]
 simp [Nat.add_assoc,Nat.add_comm 1]
theorem setCell_heap {w:World} {b o:Nat} {c:Array Value} {T:TypeId} {fz:Nat × Nat} (v:Value) (h:w.heap[b]?=some (.cells c T fz)) :
  (w.setCell ⟨b,o,none⟩ v).heap[b]?=some (.cells (c.setIfInBounds o v) T fz):=by
 simp [World.setCell,Array.getElem?_modify,h]
theorem setCells_heap (b:Nat) (T:TypeId) (fz:Nat × Nat):∀ (vs:List Value) (o:Nat) (w:World) (c:Array Value),w.heap[b]?=some (.cells c T fz)→o+vs.length≤c.size →
  (w.setCells b o vs).heap[b]?=some (.cells (putFrom c.toList o vs).toArray T fz)
 | [],o,w,c,h,_=>by simp [World.setCells,putFrom,h]
 | v :: r,o,w,c,h,hl=>by
  simp only [List.length_cons] at hl
  rw[World.setCells,setCells_heap b T fz r (o+1) _ (c.setIfInBounds o v) (setCell_heap v h) (by simp;omega),putFrom_cons _ _ _ _ (by simp;omega)]
  simp
theorem setCells_other (b:Nat):∀ (vs:List Value) (o:Nat) (w:World) (k:Nat),k≠b→(w.setCells b o vs).heap[k]?=w.heap[k]?
 | [],_,_,_,_=>rfl
 | v :: r,o,w,k,h=>by rw[World.setCells,setCells_other b r (o+1) _ k h,heap_setCell_other w ⟨b,o,none⟩ k v h]
theorem setCells_rest (b:Nat):∀ (vs:List Value) (o:Nat) (w:World),(w.setCells b o vs).heap.size=w.heap.size∧(w.setCells b o vs).tape=w.tape∧(w.setCells b o vs).os=w.os∧(w.setCells b o vs).output=w.output
 | [],_,_=>⟨rfl,rfl,rfl,rfl⟩
 | v :: r,o,w=>by
  obtain⟨h1,h2,h3,h4⟩:=setCells_rest b r (o+1) (w.setCell ⟨b,o,none⟩ v)
  exact⟨by rw[World.setCells,h1];simp,h2,h3,h4⟩
theorem oneCell_eq:∀ v:Value,Value.oneCell' v=oneCell v:=by intro v;cases v<;>rfl
theorem VR.oneCell {ρ} {v v':Value} (h:VR ρ v v'):oneCell v'=oneCell v:=by cases h<;>rfl
theorem LR.oneCell {ρ} {l l':List Value} (h:LR ρ l l') (h1:l.all oneCell=true):∀ v∈l',v.oneCell'=true:=by
 intro v hv
 obtain⟨i,hi⟩:=List.mem_iff_getElem?.1 hv
 have hlt:i<l.length:=by rw[h.1];exact(List.getElem?_eq_some_iff.1 hi).1
 have:=h.2 i _ _ (List.getElem?_eq_getElem hlt) hi
 rw[oneCell_eq,this.oneCell]
 exact List.all_eq_true.1 h1 _ (List.getElem_mem hlt)
section
variable {P:Program} {ρ ρ':Nat→Option Loc} {S S':Mem} {w w':World}
theorem RowAt.mono (h:Sub ρ ρ') {x:Row} {L:Loc} (hx:RowAt ρ x L w) (hw:w'.heap[L.b]?=w.heap[L.b]?):RowAt ρ' x L w':=by
 obtain⟨c,fz,h1,h2,h3,h4,h5,h6,h7⟩:=hx.ex
 exact⟨c,fz,hw.trans h1,h2,h3,h4,h5,h6,fun i v hv=>(h7 i v hv).imp id fun ⟨v',a,b⟩=>⟨v',a,b.mono h⟩⟩
theorem row_live_lt {x:Row} {r:Nat} (h:S[r]?=some x):r<S.length:=(List.getElem?_eq_some_iff.1 h).1
theorem SR.put (h:SR ρ S w) {r:Nat} {x:Row} {L:Loc} (hx:S[r]?=some x) (hl:x.st=.live) (hron:x.ro=none) (hL:ρ r=some L) {cells:List Value}
  (hw:∀ k,k≠L.b→w'.heap[k]?=w.heap[k]?) (hsz:w'.heap.size=w.heap.size) (htape:w'.tape=w.tape) (hos:w'.os=w.os) (hout:w'.output=w.output)
  (hrow:RowAt ρ { x with cells:=cells } L w'):SR ρ (S.set r { x with cells:=cells }) w'∧Stp ρ S w ρ (S.set r { x with cells:=cells }) w':=by
 have hr:=row_live_lt hx
 refine⟨⟨fun r' x' hx' hl'=>?_,fun r' L' hL'=>?_,fun r1 r2 x1 x2 b h1 h2 k1 k2 l1 l2=>?_,fun r' x' s p hx' hit=>?_⟩,⟨Sub.refl _,htape,hos,hout,by omega,fun b hb hq=>hw b fun e=>?_,fun b hb hq r' hr'=>?_,fun b hb hq r' hr'=>?_⟩⟩
 ·rw[List.getElem?_set] at hx'
  by_cases e:r=r'
  ·rw[if_pos e] at hx'
   subst e
   rw[if_pos hr] at hx'
   cases hx'
   exact⟨L,hL,hrow⟩
  ·rw[if_neg e] at hx'
   obtain⟨M,h1,h2⟩:=h.live r' x' hx' hl'
   refine⟨M,h1,h2.mono (Sub.refl _) (hw _ fun e'=>e ?_)⟩
   exact h.inj r r' x x' L.b ⟨L,hL,rfl⟩ ⟨M,h1,e'⟩ hx hx' hl hl'
 ·have:=h.dom r' L' hL'
  refine⟨by simpa using this.1,fun y hy hyo=>?_⟩
  rw[hsz]
  rw[List.getElem?_set] at hy
  by_cases e:r=r'
  ·subst e;exact this.2 x hx (by rw[hl];nofun)
  ·rw[if_neg e] at hy;exact this.2 y hy hyo
 ·have get:∀ (q:Nat) (y:Row),(S.set r { x with cells:=cells })[q]?=some y→y.st=.live→∃ z,S[q]?=some z∧z.st=.live:=by
   intro q y hy hyl
   rw[List.getElem?_set] at hy
   by_cases e:r=q
   ·subst e;exact⟨x,hx,hl⟩
   ·rw[if_neg e] at hy;exact⟨y,hy,hyl⟩
  obtain⟨z1,a1,b1⟩:=get r1 x1 k1 l1
  obtain⟨z2,a2,b2⟩:=get r2 x2 k2 l2
  exact h.inj r1 r2 z1 z2 b h1 h2 a1 a2 b1 b2
 ·obtain⟨L0,h1,h2⟩:=h.live r x hx hl
  rw[hL] at h1;cases h1
  obtain⟨c,fz,h3,_⟩:=h2.ex
  rw[List.getElem?_set] at hx'
  by_cases e:r=r'
  ·rw[if_pos e] at hx'
   subst e
   rw[if_pos hr] at hx'
   cases hx'
   obtain⟨M,m1,m2,_⟩:=h.iter r x s p hx hit
   rw[hL] at m1;cases m1
   rw[h3] at m2;cases m2
  ·rw[if_neg e] at hx'
   obtain⟨M,m1,m2,m3⟩:=h.iter r' x' s p hx' hit
   refine⟨M,m1,?_,fun q y hq hy hyi=>?_⟩
   ·rw[hw M.b (fun e'=>by rw[e',h3] at m2;cases m2)]
    exact m2
   ·rw[List.getElem?_set] at hy
    by_cases e2:r=q
    ·rw[if_pos e2] at hy
     subst e2
     rw[if_pos hr] at hy
     cases hy
     exact m3 r x hq hx hyi
    ·rw[if_neg e2] at hy
     exact m3 q y hq hy hyi
 ·obtain⟨y,hy,hyo⟩:=hq r ⟨L,hL,e.symm⟩
  rw[hx] at hy;cases hy;rw[hl,hron] at hyo;exact hyo.elim nofun fun h=>h rfl
 ·obtain⟨y,hy,hyo⟩:=hq r' hr'
  by_cases e:r=r'
  ·subst e;rw[hx] at hy;cases hy;rw[hl,hron] at hyo;exact(hyo.elim nofun fun h=>h rfl:False).elim
  ·exact⟨y,by rw[List.getElem?_set,if_neg e];exact hy,hyo⟩
 ·obtain⟨y,hy,hyo⟩:=hq r' hr'
  by_cases e:r=r'
  ·subst e;rw[hx] at hy;cases hy;rw[hl] at hyo;cases hyo
  ·exact⟨y,by rw[List.getElem?_set,if_neg e];exact hy,hyo⟩
theorem addr_lit {a:Addr} (h:a.spot=none):a=⟨a.block,a.off,none⟩:=by cases a;simp at h;subst h;rfl
theorem write_sound {a a':Addr} {vs vs':List Value} (h:SR ρ S w) (hw:S.write a vs=some S') (hv:LR ρ vs vs') (hb:At ρ a.block a'.block) (ho:a'.off=a.off) (hs:a'.spot=a.spot) :
  ∃ w',(storeCells a' vs').run P w=.ok () w'∧SR ρ S' w'∧Stp ρ S w ρ S' w':=by
 unfold Mem.write at hw
 split at hw
 ·rename_i x hx
  split at hw
  ·rename_i hc
   cases hw
   obtain⟨hx1,hx2⟩:=Mem.row?_some hx
   obtain⟨L,hL,⟨c,fz,hh,hle,hex,hgr,hro,hun,hcell⟩⟩:=h.live _ _ hx1 hx2
   have hLb:L.b=a'.block:=At.inj ⟨L,hL,rfl⟩ hb
   have hsp:a'.spot=none:=hs.trans hc.1
   have hlen:vs'.length=vs.length:=hv.1.symm
   have hfit:a'.off+vs'.length≤c.size:=by rw[hlen,ho];omega
   have ha':=addr_lit hsp
   have hh':=hh
   rw[hLb] at hh'
   have hrun:=run_storeCells_cells (P:=P) a'.block a'.off vs' 0 w (fun j hj=>by
    rw[cell_of_row w _ _ c x.elem fz hh']
    simp;omega) (fun j hj=>by
    have:=hun hc.2.2.1 (a'.off+0+j) (by omega)
    simp only [World.frozen?,hh']
    simpa using this) (hv.oneCell hc.2.2.2)
   rw[← ha'] at hrun
   refine⟨_,hrun,?_⟩
   obtain⟨q1,q2,q3,q4⟩:=setCells_rest a'.block vs' (a'.off+0) w
   refine h.put hx1 hx2 hc.2.2.1 hL (fun k hk=>setCells_other _ _ _ _ k (by rw[← hLb];exact hk)) q1 q2 q3 q4 ⟨(putFrom c.toList a'.off vs').toArray,fz,?_,?_,?_,?_,hro,?_,?_⟩
   ·rw[hLb];exact setCells_heap _ _ _ _ _ _ _ hh' hfit
   ·simp only [List.size_toArray]
    rw[putFrom_length _ _ _ hc.2.1,putFrom_length _ _ _ (by simpa using hfit)]
    simpa using hle
   ·intro he
    simp only [List.size_toArray]
    rw[putFrom_length _ _ _ hc.2.1,putFrom_length _ _ _ (by simpa using hfit)]
    simpa using hex he
   ·intro he
    simp only [List.size_toArray]
    rw[putFrom_length _ _ _ (by simpa using hfit)]
    simpa using hgr he
   ·intro he i hi
    simp only [List.size_toArray] at hi
    rw[putFrom_length _ _ _ (by simpa using hfit)] at hi
    exact hun he i (by simpa using hi)
   ·intro i v e
    simp only [List.getElem?_toArray]
    rw[putFrom_get _ _ _ hc.2.1] at e
    rw[putFrom_get _ _ _ (by simpa using hfit),ho,hlen]
    split at e
    ·rename_i h1
     rw[if_pos h1]
     obtain⟨hk1,_⟩ | ⟨v',a1,b1⟩:=hcell i v e
     ·exact absurd hc.2.2.1 hk1
     exact .inr ⟨v',by simpa using a1,b1⟩
    ·rename_i h1
     rw[if_neg h1]
     split at e
     ·rename_i h2
      rw[if_pos h2]
      exact .inr (hv.get e)
     ·rename_i h2
      rw[if_neg h2]
      obtain⟨hk1,_⟩ | ⟨v',a1,b1⟩:=hcell i v e
      ·exact absurd hc.2.2.1 hk1
      exact .inr ⟨v',by simpa using a1,b1⟩
  ·cases hw
 ·cases hw
theorem SR.push (h:SR ρ S w) (x:Row) (c:Array Value) (fz:Nat × Nat) (hheap:w'.heap=w.heap.push (.cells c x.elem fz)) (htape:w'.tape=w.tape) (hos:w'.os=w.os) (hout:w'.output=w.output)
  (sz:Nat) (hle:x.cells.length≤c.size) (hex:x.exact=true→c.size=x.cells.length) (hgr:x.exact=false→sz=x.sz) (hro:x.ro=none)
  (hun:∀ i,i<c.size→¬ (fz.1≤i∧i<fz.2)) (hcell:∀ (i:Nat) (v:Value),x.cells[i]?=some v→∃ v',c[i]?=some v'∧VR ρ v v') (hnit:x.it=none:=by rfl) :
  ∃ ρ',ρ' S.length=some ⟨w.heap.size,c.size,sz⟩∧SR ρ' (S++[x]) w'∧Stp ρ S w ρ' (S++[x]) w':=by
 have hsub:Sub ρ fun r=>if r=S.length then some ⟨w.heap.size,c.size,sz⟩ else ρ r:=fun r L hL=>by
  have:=(h.dom r L hL).1
  show (if r=S.length then _ else ρ r)=some L
  rw[if_neg (by omega)];exact hL
 have hsize:w'.heap.size=w.heap.size+1:=by rw[hheap];simp
 have hold:∀ k,k<w.heap.size→w'.heap[k]?=w.heap[k]?:=fun k hk=>by rw[hheap,Array.getElem?_push,if_neg (by omega)]
 have back:∀ (q:Nat) (M:Loc),(if q=S.length then some ⟨w.heap.size,c.size,sz⟩ else ρ q)=some M→(q=S.length∧M.b=w.heap.size)∨(q≠S.length∧ρ q=some M):=by
  intro q M hM
  by_cases e:q=S.length
  ·rw[if_pos e] at hM;cases hM;exact .inl ⟨e,rfl⟩
  ·rw[if_neg e] at hM;exact .inr ⟨e,hM⟩
 refine⟨fun r=>if r=S.length then some ⟨w.heap.size,c.size,sz⟩ else ρ r,by simp,⟨fun r y hy hl=>?_,fun r L hL=>?_,fun r r' y y' b h1 h2 k1 k2 l1 l2=>?_,fun r y s p hy hit=>?_⟩,⟨hsub,htape,hos,hout,by omega,fun b hb _=>hold b hb,fun b hb hq r hr=>?_,fun b hb hq r hr=>?_⟩⟩
 ·by_cases e:r=S.length
  ·subst e
   simp at hy
   subst hy
   refine⟨⟨w.heap.size,c.size,sz⟩,if_pos rfl,⟨c,fz,by rw[hheap];simp,hle,hex,fun he=>⟨rfl,hgr he⟩,fun f hf=>(by rw[hro] at hf;cases hf),fun _=>hun,fun i v hv=>?_⟩⟩
   obtain⟨v',a,b⟩:=hcell i v hv
   exact .inr ⟨v',a,b.mono hsub⟩
  ·have hy':S[r]?=some y:=by
    rw[List.getElem?_append] at hy
    split at hy
    ·exact hy
    ·rename_i h9
     have:r - S.length≠0:=by omega
     rw[List.getElem?_singleton,if_neg this] at hy
     cases hy
   obtain⟨L,h1,h2⟩:=h.live r y hy' hl
   exact⟨L,hsub _ _ h1,h2.mono hsub (hold _ ((h.dom r L h1).2 y hy' (by rw[hl];nofun)))⟩
 ·rcases back r L hL with ⟨e,e2⟩ | ⟨e,e2⟩
  ·subst e;exact⟨by simp,fun _ _ _=>by omega⟩
  ·have:=h.dom r L e2
   refine⟨by simp;omega,fun y hy hyo=>?_⟩
   rw[List.getElem?_append_left this.1] at hy
   have:=this.2 y hy hyo
   omega
 ·obtain⟨L1,p1,p2⟩:=h1
  obtain⟨L2,q1,q2⟩:=h2
  have old:∀ (q:Nat) (z:Row),q≠S.length→(S++[x])[q]?=some z→S[q]?=some z:=by
   intro q z hq hz
   rw[List.getElem?_append] at hz
   split at hz
   ·exact hz
   ·rename_i h9
    rw[List.getElem?_singleton,if_neg (by omega)] at hz
    cases hz
  rcases back r L1 p1 with ⟨e,e2⟩ | ⟨e,e2⟩<;>rcases back r' L2 q1 with ⟨f,f2⟩ | ⟨f,f2⟩
  ·omega
  ·have:=(h.dom r' L2 f2).2 y' (old r' y' f k2) (by rw[l2];nofun);omega
  ·have:=(h.dom r L1 e2).2 y (old r y e k1) (by rw[l1];nofun);omega
  ·exact h.inj r r' y y' b ⟨L1,e2,p2⟩ ⟨L2,f2,q2⟩ (old r y e k1) (old r' y' f k2) l1 l2
 ·by_cases e:r=S.length
  ·subst e
   simp at hy
   subst hy
   rw[hnit] at hit;cases hit
  ·have hy':S[r]?=some y:=by
    rw[List.getElem?_append] at hy
    split at hy
    ·exact hy
    ·rename_i h9
     have:r - S.length≠0:=by omega
     rw[List.getElem?_singleton,if_neg this] at hy
     cases hy
   obtain⟨M,m1,m2,m3⟩:=h.iter r y s p hy' hit
   refine⟨M,hsub _ _ m1,by rw[hold _ (Array.getElem?_eq_some_iff.1 m2).1];exact m2,fun q z ⟨L1,l1,l2⟩ hz hzi=>?_⟩
   rcases back q L1 l1 with ⟨e1,_⟩ | ⟨e1,e2⟩
   ·subst e1;simp at hz;subst hz;exact absurd hnit hzi
   ·refine m3 q z ⟨L1,e2,l2⟩ ?_ hzi
    rw[List.getElem?_append_left (h.dom q L1 e2).1] at hz;exact hz
 ·obtain⟨L,p1,p2⟩:=hr
  rcases back r L p1 with ⟨e,e2⟩ | ⟨e,e2⟩
  ·omega
  ·obtain⟨y,hy,hyo⟩:=hq r ⟨L,e2,p2⟩
   exact⟨y,by rw[List.getElem?_append_left (row_live_lt hy)];exact hy,hyo⟩
 ·obtain⟨L,p1,p2⟩:=hr
  rcases back r L p1 with ⟨e,e2⟩ | ⟨e,e2⟩
  ·omega
  ·obtain⟨y,hy,hyo⟩:=hq r ⟨L,e2,p2⟩
   exact⟨y,by rw[List.getElem?_append_left (row_live_lt hy)];exact hy,hyo⟩
theorem SR.kill (h:SR ρ S w) {r:Nat} {x:Row} (hx:S[r]?=some x) (hl:x.st=.live) (hron:x.ro=none) :
  SR ρ (S.set r { x with st:=.moved }) w∧Stp ρ S w ρ (S.set r { x with st:=.moved }) w:=by
 have hr:=row_live_lt hx
 have get:∀ (q:Nat) (y:Row),(S.set r { x with st:=.moved })[q]?=some y→y.st=.live→S[q]?=some y:=by
  intro q y hy hyl
  rw[List.getElem?_set] at hy
  by_cases e:r=q
  ·subst e;rw[if_pos rfl,if_pos hr] at hy;cases hy;cases hyl
  ·rw[if_neg e] at hy;exact hy
 refine⟨⟨fun q y hy hyl=>h.live q y (get q y hy hyl) hyl,fun q L hL=>⟨by simpa using (h.dom q L hL).1,fun y hy hyo=>?_⟩,
  fun r1 r2 x1 x2 b h1 h2 k1 k2 l1 l2=>h.inj r1 r2 x1 x2 b h1 h2 (get r1 x1 k1 l1) (get r2 x2 k2 l2) l1 l2,fun q y s p hy hit=>by
   rw[List.getElem?_set] at hy
   by_cases e:r=q
   ·subst e
    rw[if_pos rfl,if_pos hr] at hy;cases hy
    obtain⟨M,m1,m2,m3⟩:=h.iter r x s p hx hit
    exact⟨M,m1,m2,fun q z hq hz hzi=>by
     rw[List.getElem?_set] at hz
     by_cases e:r=q
     ·exact e.symm
     ·rw[if_neg e] at hz;exact m3 q z hq hz hzi⟩
   ·rw[if_neg e] at hy
    obtain⟨M,m1,m2,m3⟩:=h.iter q y s p hy hit
    exact⟨M,m1,m2,fun q' z hq hz hzi=>by
     rw[List.getElem?_set] at hz
     by_cases e:r=q'
     ·subst e;rw[if_pos rfl,if_pos hr] at hz;cases hz;exact m3 r x hq hx hzi
     ·rw[if_neg e] at hz;exact m3 q' z hq hz hzi⟩⟩,
  ⟨Sub.refl _,rfl,rfl,rfl,Nat.le_refl _,fun _ _ _=>rfl,fun b hb hq q hq'=>?_,fun b hb hq q hq'=>?_⟩⟩
 ·rw[List.getElem?_set] at hy
  by_cases e:r=q
  ·subst e;exact(h.dom r L hL).2 x hx (by rw[hl];nofun)
  ·rw[if_neg e] at hy;exact(h.dom q L hL).2 y hy hyo
 ·obtain⟨y,hy,hyo⟩:=hq q hq'
  by_cases e:r=q
  ·subst e;rw[hx] at hy;cases hy;rw[hl,hron] at hyo;exact(hyo.elim nofun fun h=>h rfl:False).elim
  ·exact⟨y,by rw[List.getElem?_set,if_neg e];exact hy,hyo⟩
 ·obtain⟨y,hy,hyo⟩:=hq q hq'
  by_cases e:r=q
  ·subst e;rw[hx] at hy;cases hy;rw[hl] at hyo;cases hyo
  ·exact⟨y,by rw[List.getElem?_set,if_neg e];exact hy,hyo⟩
theorem SR.take (h:SR ρ S w) (x:Row) (L:Loc) {r0:Nat} {x0:Row} (hr0:ρ r0=some L) (hx0:S[r0]?=some x0) (hm:x0.st=.moved) (hron:x0.ro=none)
  (hfree:∀ (r:Nat) (y:Row),At ρ r L.b→S[r]?=some y→y.st≠.live)
  (hw:∀ k,k≠L.b→w'.heap[k]?=w.heap[k]?) (hsz:w'.heap.size=w.heap.size) (htape:w'.tape=w.tape) (hos:w'.os=w.os) (hout:w'.output=w.output)
  (hrow:RowAt ρ x L w') (hcl:∃ c e fz,w.heap[L.b]?=some (.cells c e fz)) (hnit:x.it=none:=by rfl):∃ ρ',ρ' S.length=some L∧SR ρ' (S++[x]) w'∧Stp ρ S w ρ' (S++[x]) w':=by
 have hsub:Sub ρ fun r=>if r=S.length then some L else ρ r:=fun r M hM=>by
  have:=(h.dom r M hM).1
  show (if r=S.length then _ else ρ r)=some M
  rw[if_neg (by omega)];exact hM
 have hLlt:=(h.dom r0 L hr0).2 x0 hx0 (by rw[hm];nofun)
 have back:∀ (q:Nat) (M:Loc),(if q=S.length then some L else ρ q)=some M→(q=S.length∧M=L)∨(q≠S.length∧ρ q=some M):=by
  intro q M hM
  by_cases e:q=S.length
  ·rw[if_pos e] at hM;cases hM;exact .inl ⟨e,rfl⟩
  ·rw[if_neg e] at hM;exact .inr ⟨e,hM⟩
 have old:∀ (q:Nat) (z:Row),q≠S.length→(S++[x])[q]?=some z→S[q]?=some z:=by
  intro q z hq hz
  rw[List.getElem?_append] at hz
  split at hz
  ·exact hz
  ·rename_i h9
   rw[List.getElem?_singleton,if_neg (by omega)] at hz
   cases hz
 refine⟨fun r=>if r=S.length then some L else ρ r,by simp,⟨fun r y hy hl=>?_,fun r M hM=>?_,fun r r' y y' b h1 h2 k1 k2 l1 l2=>?_,fun r y s p hy hit=>?_⟩,⟨hsub,htape,hos,hout,by omega,fun b hb hq=>hw b fun e=>?_,fun b hb hq r hr=>?_,fun b hb hq r hr=>?_⟩⟩
 ·by_cases e:r=S.length
  ·subst e
   simp at hy
   subst hy
   exact⟨L,if_pos rfl,hrow.mono hsub rfl⟩
  ·have hy':=old r y e hy
   obtain⟨M,h1,h2⟩:=h.live r y hy' hl
   exact⟨M,hsub _ _ h1,h2.mono hsub (hw _ fun e'=>hfree r y ⟨M,h1,e'⟩ hy' hl)⟩
 ·rcases back r M hM with ⟨e,e2⟩ | ⟨e,e2⟩
  ·subst e e2;exact⟨by simp,fun _ _ _=>by omega⟩
  ·have:=h.dom r M e2
   refine⟨by simp;omega,fun y hy hyo=>?_⟩
   rw[List.getElem?_append_left this.1] at hy
   have:=this.2 y hy hyo
   omega
 ·obtain⟨L1,p1,p2⟩:=h1
  obtain⟨L2,q1,q2⟩:=h2
  rcases back r L1 p1 with ⟨e,e2⟩ | ⟨e,e2⟩<;>rcases back r' L2 q1 with ⟨f,f2⟩ | ⟨f,f2⟩
  ·omega
  ·subst e2;exact absurd l2 (hfree r' y' ⟨L2,f2,by rw[q2,p2]⟩ (old r' y' f k2))
  ·subst f2;exact absurd l1 (hfree r y ⟨L1,e2,by rw[p2,q2]⟩ (old r y e k1))
  ·exact h.inj r r' y y' b ⟨L1,e2,p2⟩ ⟨L2,f2,q2⟩ (old r y e k1) (old r' y' f k2) l1 l2
 ·by_cases e:r=S.length
  ·subst e
   simp at hy
   subst hy
   rw[hnit] at hit;cases hit
  ·obtain⟨M,m1,m2,m3⟩:=h.iter r y s p (old r y e hy) hit
   obtain⟨c,el,fz,hc⟩:=hcl
   refine⟨M,hsub _ _ m1,by rw[hw _ (fun e'=>by rw[e',hc] at m2;cases m2)];exact m2,fun q z ⟨L1,l1,l2⟩ hz hzi=>?_⟩
   rcases back q L1 l1 with ⟨e1,_⟩ | ⟨e1,e2⟩
   ·subst e1;simp at hz;subst hz;exact absurd hnit hzi
   ·exact m3 q z ⟨L1,e2,l2⟩ (old q z e1 hz) hzi
 ·obtain⟨y,hy,hyo⟩:=hq r0 ⟨L,hr0,e.symm⟩
  rw[hx0] at hy;cases hy;rw[hm,hron] at hyo;exact hyo.elim nofun fun h=>h rfl
 ·obtain⟨M,p1,p2⟩:=hr
  rcases back r M p1 with ⟨e,e2⟩ | ⟨e,e2⟩
  ·subst e2
   obtain⟨y,hy,hyo⟩:=hq r0 ⟨M,hr0,p2⟩
   rw[hx0] at hy;cases hy;rw[hm,hron] at hyo;exact(hyo.elim nofun fun h=>h rfl:False).elim
  ·obtain⟨y,hy,hyo⟩:=hq r ⟨M,e2,p2⟩
   exact⟨y,by rw[List.getElem?_append_left (row_live_lt hy)];exact hy,hyo⟩
 ·obtain⟨M,p1,p2⟩:=hr
  rcases back r M p1 with ⟨e,e2⟩ | ⟨e,e2⟩
  ·subst e2
   obtain⟨y,hy,hyo⟩:=hq r0 ⟨M,hr0,p2⟩
   rw[hx0] at hy;cases hy;rw[hm] at hyo;cases hyo
  ·obtain⟨y,hy,hyo⟩:=hq r ⟨M,e2,p2⟩
   exact⟨y,by rw[List.getElem?_append_left (row_live_lt hy)];exact hy,hyo⟩
theorem SR.adopt2 {w0:World} {ρ0:Nat→Option Loc} {S0:Mem} (h:SR ρ S w) (x:Row) (c:Array Value) (b0:Nat) (hb0:w.heap[b0]?=some (.cells c x.elem (0,0))) (hl:Lone ρ S b0) (hst:Stp ρ0 S0 w0 ρ S w) (hold:w0.heap.size≤b0)
  (hex:x.exact=true) (hle:c.size=x.cells.length) (hro:x.ro=none) (hcell:∀ (i:Nat) (v:Value),x.cells[i]?=some v→∃ v',c[i]?=some v'∧VR ρ v v') (hnit:x.it=none:=by rfl) :
  ∃ ρ',Sub ρ ρ'∧ρ' S.length=some ⟨b0,c.size,0⟩∧SR ρ' (S++[x]) w∧Stp ρ0 S0 w0 ρ' (S++[x]) w∧∀ r,r≠S.length→ρ' r=ρ r:=by
 have hlt:b0<w.heap.size:=(Array.getElem?_eq_some_iff.1 hb0).1
 have hsub:Sub ρ fun r=>if r=S.length then some ⟨b0,c.size,0⟩ else ρ r:=fun r M hM=>by
  have:=(h.dom r M hM).1
  show (if r=S.length then _ else ρ r)=some M
  rw[if_neg (by omega)];exact hM
 have back:∀ (q:Nat) (M:Loc),(if q=S.length then some ⟨b0,c.size,0⟩ else ρ q)=some M→(q=S.length∧M=⟨b0,c.size,0⟩)∨(q≠S.length∧ρ q=some M):=by
  intro q M hM
  by_cases e:q=S.length
  ·rw[if_pos e] at hM;cases hM;exact .inl ⟨e,rfl⟩
  ·rw[if_neg e] at hM;exact .inr ⟨e,hM⟩
 have old:∀ (q:Nat) (z:Row),q≠S.length→(S++[x])[q]?=some z→S[q]?=some z:=by
  intro q z hq hz
  rw[List.getElem?_append] at hz
  split at hz
  ·exact hz
  ·rename_i h9
   rw[List.getElem?_singleton,if_neg (by omega)] at hz
   cases hz
 have hfree:∀ (r:Nat) (y:Row),At ρ r b0→S[r]?=some y→y.st≠.live:=fun r y hr hy hyl=>by
  obtain⟨z,hz,hzo⟩:=hl r hr
  rw[hy] at hz;cases hz;rw[hyl] at hzo;cases hzo
 refine⟨fun r=>if r=S.length then some ⟨b0,c.size,0⟩ else ρ r,hsub,by simp,⟨fun r y hy hl=>?_,fun r M hM=>?_,fun r r' y y' b h1 h2 k1 k2 l1 l2=>?_,fun r y s p hy hit=>?_⟩,⟨hst.ext.trans hsub,hst.tape,hst.os,hst.output,hst.size,hst.frame,fun b hb hq r hr=>?_,fun b hb hq r hr=>?_⟩,fun r hr=>if_neg hr⟩
 ·by_cases e:r=S.length
  ·subst e
   simp at hy
   subst hy
   refine⟨⟨b0,c.size,0⟩,if_pos rfl,⟨c,(0,0),hb0,by omega,fun _=>hle,fun he=>(by rw[hex] at he;cases he),fun f hf=>(by rw[hro] at hf;cases hf),fun _ i _ h=>by simp at h,fun i v hv=>?_⟩⟩
   obtain⟨v',a,b⟩:=hcell i v hv
   exact .inr ⟨v',a,b.mono hsub⟩
  ·have hy':=old r y e hy
   obtain⟨M,h1,h2⟩:=h.live r y hy' hl
   exact⟨M,hsub _ _ h1,h2.mono hsub rfl⟩
 ·rcases back r M hM with ⟨e,e2⟩ | ⟨e,e2⟩
  ·subst e e2;exact⟨by simp,fun _ _ _=>hlt⟩
  ·have:=h.dom r M e2
   refine⟨by simp;omega,fun y hy hyo=>?_⟩
   rw[List.getElem?_append_left this.1] at hy
   exact this.2 y hy hyo
 ·obtain⟨L1,p1,p2⟩:=h1
  obtain⟨L2,q1,q2⟩:=h2
  rcases back r L1 p1 with ⟨e,e2⟩ | ⟨e,e2⟩<;>rcases back r' L2 q1 with ⟨f,f2⟩ | ⟨f,f2⟩
  ·omega
  ·subst e2;exact absurd l2 (hfree r' y' ⟨L2,f2,by rw[q2,← p2]⟩ (old r' y' f k2))
  ·subst f2;exact absurd l1 (hfree r y ⟨L1,e2,by rw[p2,← q2]⟩ (old r y e k1))
  ·exact h.inj r r' y y' b ⟨L1,e2,p2⟩ ⟨L2,f2,q2⟩ (old r y e k1) (old r' y' f k2) l1 l2
 ·by_cases e:r=S.length
  ·subst e
   simp at hy
   subst hy
   rw[hnit] at hit;cases hit
  ·obtain⟨M,m1,m2,m3⟩:=h.iter r y s p (old r y e hy) hit
   refine⟨M,hsub _ _ m1,m2,fun q z ⟨L1,l1,l2⟩ hz hzi=>?_⟩
   rcases back q L1 l1 with ⟨e1,_⟩ | ⟨e1,e2⟩
   ·subst e1;simp at hz;subst hz;exact absurd hnit hzi
   ·exact m3 q z ⟨L1,e2,l2⟩ (old q z e1 hz) hzi
 ·obtain⟨M,p1,p2⟩:=hr
  rcases back r M p1 with ⟨e,e2⟩ | ⟨e,e2⟩
  ·subst e2;dsimp only at p2;omega
  ·obtain⟨y,hy,hyo⟩:=hst.quiet b hb hq r ⟨M,e2,p2⟩
   exact⟨y,by rw[List.getElem?_append_left (row_live_lt hy)];exact hy,hyo⟩
 ·obtain⟨M,p1,p2⟩:=hr
  rcases back r M p1 with ⟨e,e2⟩ | ⟨e,e2⟩
  ·subst e2;dsimp only at p2;omega
  ·obtain⟨y,hy,hyo⟩:=hst.lone b hb hq r ⟨M,e2,p2⟩
   exact⟨y,by rw[List.getElem?_append_left (row_live_lt hy)];exact hy,hyo⟩
end
end
section
open Go
section
variable {P:Program} {ρ ρ':Nat→Option Loc} {S S':Mem} {w w':World} {v:Value}
theorem firstOf_sound {size n:Nat} {x x':Value} {l:List Value} (hS:SR ρ S w) (h:firstOf S size n x=some l) (hx:VR ρ x x') :
  ∃ l',LR ρ l l'∧∀ w2:World,w2.heap=w.heap→(Builtin.firstCells size n x').run P w2=.ok l'.toArray w2:=by
 unfold firstOf at h
 split at h
 ·rename_i a m c
  obtain⟨a0,c',rfl,ha1,_⟩:=hx.slInv
  obtain⟨a',rfl,h1,h2,h3⟩:=ha1 a rfl
  split at h
  ·rename_i h0
   cases h
   refine⟨[],LR.nil ρ,fun w2 _=>?_⟩
   simp [Builtin.firstCells,h0,loadCells,loadCellsFrom]
  ·obtain⟨l',hr,hlen,_,hcell⟩:=cellsAt_real hS h h1 h2 h3
   refine⟨l',hr,fun w2 hw2=>?_⟩
   have:=run_loadCells_list (P:=P) w2 a' l' (fun j u hu=>by
    have:=hcell j u hu
    simpa [World.cell?,hw2] using this)
   rw[hlen] at this
   simpa [Builtin.firstCells] using this
 ·split at h
  ·rename_i hor
   cases h
   rcases hor with h0 | h0
   ·have e:=hx.scalar_eq (by simpa [scalar] using h0)
    subst e
    exact⟨[],LR.nil ρ,fun w2 _=>by simp [Builtin.firstCells]⟩
   ·obtain⟨a0,c',rfl,_⟩:=hx.slInv
    refine⟨[],LR.nil ρ,fun w2 _=>?_⟩
    cases a0<;>simp [Builtin.firstCells,h0,loadCells,loadCellsFrom]
  ·cases h
 ·rename_i s
  have e:=hx.scalar_eq rfl
  subst e
  cases h
  refine⟨_,scalars_LR ρ (by rw[List.all_eq_true];intro y hy;obtain⟨b,_,rfl⟩:=List.mem_map.1 hy;rfl),fun w2 _=>?_⟩
  simp only [Builtin.firstCells,Sem.run_pure]
  congr 1
  apply Array.ext'
  simp [ByteArray.data_extract,List.extract_eq_take_drop]
 ·cases h
theorem lenOf_sound {x x':Value} {m:Nat} (h:lenOf' x=some m) (hx:VR ρ x x') (w2:World):(Builtin.lenOf x').run P w2=.ok m w2:=by
 unfold lenOf' at h
 split at h
 ·cases h
  obtain⟨a0,c',rfl,_⟩:=hx.slInv
  simp [Builtin.lenOf]
 ·have e:=hx.scalar_eq rfl
  subst e
  cases h
  simp [Builtin.lenOf]
 ·cases h
theorem append_fits_run {ts xs ty e:TypeId} {i:TypeInfo} {dx:TypeDesc} {base:Option Addr} {n c m:Nat} {x:Value} {news:List Value} (hts:P.underlying ts=some (.slice e)) (hxs:P.underlying xs=some dx)
  (hni:dx=.string∨∃ e2,dx=.slice e2) (hi:P.info? e=some i) (hm:(Builtin.lenOf x).run P w=.ok m w) (hfit:n+m≤c) (hnews:(Builtin.firstCells i.size m x).run P w=.ok news.toArray w)
  (hst:∀ a,base=some a→(storeCells (a.add (n*i.size)) news).run P w=.ok () w') (hnone:base=none→w'=w) :
  (Builtin.append_ #[ts,xs] ty #[.slice base n c,x]).run P w=.ok (.slice base (n+m) c) w':=by
 unfold Builtin.append_
 rcases hni with rfl | ⟨e2,rfl⟩
 all_goals
  simp only [List.getElem?_toArray,List.getElem?_cons_zero,List.getElem?_cons_succ,Sem.run_bind,run_underlying' hts,run_underlying' hxs,Result.andThen_ok,sizeOf,typeInfo,run_program,hi,Sem.run_pure,Bool.false_eq_true,if_false,hm,hfit,if_true,Bool.not_false,hnews]
  cases base with
  | none=>simp [hnone rfl]
  | some a=>simp [hst a rfl]
theorem nextcap_le (need c:Nat) (h:¬ need≤c):Builtin.nextslicecap need c≤2*need+768:=by
 unfold Builtin.nextslicecap
 split
 ·omega
 ·split
  ·omega
  ·have grow:∀ (k x:Nat),x≤need+need / 4+192→Builtin.growBy need k x≤need+need / 4+192:=by
    intro k
    induction k with
    | zero=>intro x hx;exact hx
    | succ k ih=>
     intro x hx
     unfold Builtin.growBy
     split
     ·exact hx
     ·exact ih _ (by omega)
   have:=grow 4 c (by omega)
   omega
theorem append_grow_run {ts xs ty e:TypeId} {i:TypeInfo} {z:Value} {dx:TypeDesc} {base:Option Addr} {n c m:Nat} {x:Value} {news old:List Value} (hts:P.underlying ts=some (.slice e)) (hxs:P.underlying xs=some dx)
  (hni:dx=.string∨∃ e2,dx=.slice e2) (hi:P.info? e=some i) (hzero:i.zero=some z) (hm:(Builtin.lenOf x).run P w=.ok m w) (hfit:¬ n+m≤c) (hroom:roomy (n+m) i.bytes)
  (hold:(Builtin.firstCells i.size n (.slice base n c)).run P w.drew=.ok old.toArray w.drew) (hnews:(Builtin.firstCells i.size m x).run P w.drew=.ok news.toArray w.drew) :
  ∃ cap,n+m≤cap∧(Builtin.append_ #[ts,xs] ty #[.slice base n c,x]).run P w=.ok (.slice (some ⟨w.heap.size,0,none⟩) (n+m) cap)
   (w.drew.alloc (.cells (old.toArray++news.toArray++Builtin.zeroCells z.cells (cap - (n+m))) e)):=by
 obtain⟨r1,r2,r3,r4⟩:=hroom
 have hnc:=nextcap_le (n+m) c hfit
 have hno:¬ (Builtin.nextslicecap (n+m) c*i.bytes > 2^48):=by
  have h1:=Nat.mul_le_mul_right i.bytes hnc
  have h2:(2*(n+m)+768)*i.bytes=2*((n+m)*i.bytes)+768*i.bytes:=by rw[Nat.add_mul,Nat.mul_assoc]
  omega
 have hmax:IntKind.i64.max=9223372036854775807:=rfl
 have hno2:¬ (((n+m:Nat):Int) > IntKind.i64.max∧(False∨i.bytes=0)):=by omega
 refine⟨(Question.appendCap (n+m) c e).cut (w.tape w.drawn (.appendCap (n+m) c e)),by simp [Question.cut],?_⟩
 unfold Builtin.append_
 rcases hni with rfl | ⟨e2,rfl⟩
 all_goals
  simp only [List.getElem?_toArray,List.getElem?_cons_zero,List.getElem?_cons_succ,Sem.run_bind,run_underlying' hts,run_underlying' hxs,Result.andThen_ok,sizeOf,typeInfo,run_program,hi,Sem.run_pure,Bool.false_eq_true,if_false,hm,hfit,Bool.not_false,if_true]
  rw[Sem.run_ite,if_neg (by simpa using hno2)]
  simp only [Sem.run_bind,typeInfo,run_program,hi,Sem.run_pure,Result.andThen_ok]
  rw[Sem.run_ite,if_neg hno]
  simp only [Sem.run_bind,run_choose,Question.forced,Bool.false_eq_true,if_false,Result.andThen_ok,World.drew_eq,run_askRoom,hold,hnews,zeroValue,typeInfo,run_program,hi,hzero,Sem.run_pure,newRow,run_newObj,World.alloc_eq]
  rfl
theorem add_at {a a':Addr} (k:Nat) (hb:At ρ a.block a'.block) (ho:a'.off=a.off) (hs:a'.spot=a.spot) :
  At ρ (a.add k).block (a'.add k).block∧(a'.add k).off=(a.add k).off∧(a'.add k).spot=(a.add k).spot:=by
 unfold Addr.add
 split
 ·exact⟨hb,ho,hs⟩
 ·exact⟨hb,by simp [ho],rfl⟩
theorem grown_push {e:TypeId} {i:TypeInfo} {z:Value} {old old' news news':List Value} {n m cap:Nat} (hS:SR ρ S w) (ho:LR ρ old old') (hn:LR ρ news news') (hol:old.length=n*i.size) (hnl:news.length=m*i.size)
  (hz:z.cells.size=i.size) (hcap:n+m≤cap) :
  ∃ v' ρ',VR ρ' (.slice (some ⟨S.length,0,none⟩) (n+m) (UNK+(n+m))) v'∧v'=.slice (some ⟨w.heap.size,0,none⟩) (n+m) cap ∧
   SR ρ' (S++[grownR (old++news) e i.size]) (w.drew.alloc (.cells (old'.toArray++news'.toArray++Builtin.zeroCells z.cells (cap - (n+m))) e)) ∧
   Stp ρ S w ρ' (S++[grownR (old++news) e i.size]) (w.drew.alloc (.cells (old'.toArray++news'.toArray++Builtin.zeroCells z.cells (cap - (n+m))) e)):=by
 have hc:(old'.toArray++news'.toArray++Builtin.zeroCells z.cells (cap - (n+m))).size=cap*i.size:=by
  simp only [Array.size_append,List.size_toArray,size_zeroCells,hz,← ho.1,← hn.1,hol,hnl]
  rw[← Nat.add_mul,← Nat.add_mul]
  congr 1
  omega
 obtain⟨ρ',h1,h2,h3⟩:=hS.drew.push (w':=w.drew.alloc (.cells (old'.toArray++news'.toArray++Builtin.zeroCells z.cells (cap - (n+m))) e)) (grownR (old++news) e i.size) _ (0,0) rfl rfl rfl rfl i.size (by
   rw[hc];simp only [grownR,List.length_append,hol,hnl,← Nat.add_mul];exact Nat.mul_le_mul_right _ hcap) nofun (fun _=>rfl) rfl (fun j _ h=>by simp at h) (fun j u hu=>by
   have hL:=(ho.append hn).get hu
   obtain⟨u',hu',hr⟩:=hL
   refine⟨u',?_,hr⟩
   have:((old'++news')++(Builtin.zeroCells z.cells (cap - (n+m))).toList)[j]?=some u':=by
    rw[List.getElem?_append_left (List.getElem?_eq_some_iff.1 hu').1];exact hu'
   simpa [← Array.getElem?_toList] using this)
 refine⟨_,ρ',?_,rfl,h2,(Stp.drew ρ S w).trans h3⟩
 refine .sl _ _ _ _ _ ⟨_,h1,rfl⟩ rfl rfl ⟨fun h=>by omega,fun _=>⟨by omega,_,h1,fun _=>?_⟩⟩
 show cap*i.size≤_
 rw[hc]
 exact Nat.le_refl _
set_option maxHeartbeats 1000000 in
theorem zeroList_scalar {z:Array Value} (hz:z.toList.all scalar=true) (h0:0<z.size) (n:Nat):(zeroList z n).all scalar=true:=by
 rw[List.all_eq_true]
 intro v hv
 obtain⟨i,_,rfl⟩:=List.mem_map.1 hv
 have hlt:i % z.size<z.size:=Nat.mod_lt _ h0
 rw[getElem!_pos z (i % z.size) hlt]
 exact List.all_eq_true.1 hz _ (by simp)
theorem append_zero_run {ts xs ty e:TypeId} {i:TypeInfo} {z:Value} {kd kx:IntKind} {base:Option Addr} {n c m:Nat} {old:List Value} (hts:P.underlying ts=some (.slice e)) (hxs:P.underlying xs=some (.int kd))
  (hi:P.info? e=some i) (hzero:i.zero=some z) (hz:z.cells.size=i.size) (hpos:0<m*i.size) (hfit:¬ n+m≤c) (hroom:roomy (n+m) i.bytes)
  (hold:(Builtin.firstCells i.size n (.slice base n c)).run P w.drew=.ok old.toArray w.drew) :
  ∃ cap,n+m≤cap∧(Builtin.append_ #[ts,xs] ty #[.slice base n c,.int kx (m:Int)]).run P w=.ok (.slice (some ⟨w.heap.size,0,none⟩) (n+m) cap)
   (w.drew.alloc (.cells (old.toArray++(zeroList z.cells (m*i.size)).toArray++Builtin.zeroCells z.cells (cap - (n+m))) e)):=by
 obtain⟨r1,r2,r3,r4⟩:=hroom
 have hnc:=nextcap_le (n+m) c hfit
 have hno:¬ (Builtin.nextslicecap (n+m) c*i.bytes > 2^48):=by
  have h1:=Nat.mul_le_mul_right i.bytes hnc
  have h2:(2*(n+m)+768)*i.bytes=2*((n+m)*i.bytes)+768*i.bytes:=by rw[Nat.add_mul,Nat.mul_assoc]
  omega
 have hmax:IntKind.i64.max=9223372036854775807:=rfl
 have hno2:¬ (((n+m:Nat):Int) > IntKind.i64.max∧(True∨i.bytes=0)):=by omega
 have hmb:m*i.bytes≤(n+m)*i.bytes:=Nat.mul_le_mul_right _ (by omega)
 have hw:IntKind.i64.wrap (m:Int)=(m:Int):=by
  simp only [IntKind.wrap,IntKind.bits,IntKind.signed,Bool.true_and,decide_eq_true_eq,ge_iff_le]
  split<;>omega
 have hl0:¬ ((m:Int)<0):=by omega
 have hai:(asInt (.int kx (m:Int))).run P w=.ok (m:Int) w:=rfl
 have hl1:¬ ((m:Int)*(i.bytes:Int) > 2^48):=by
  have:((m:Int)*(i.bytes:Int))=((m*i.bytes:Nat):Int):=by push_cast;rfl
  rw[this];omega
 have hzc:Builtin.zeroCells z.cells m=(zeroList z.cells (m*i.size)).toArray:=by
  unfold Builtin.zeroCells zeroList
  rw[hz];apply Array.ext';simp
 refine⟨(Question.appendCap (n+m) c e).cut (w.tape w.drawn (.appendCap (n+m) c e)),by simp [Question.cut],?_⟩
 unfold Builtin.append_
 simp only [List.getElem?_toArray,List.getElem?_cons_zero,List.getElem?_cons_succ,Sem.run_bind,run_underlying' hts,run_underlying' hxs,Result.andThen_ok,sizeOf,typeInfo,run_program,hi,Sem.run_pure,if_true,hai,hw]
 rw[Sem.run_ite,if_neg hl0]
 simp only [Sem.run_bind,typeInfo,run_program,hi,Sem.run_pure,Result.andThen_ok]
 rw[Sem.run_ite,if_neg hl1]
 simp only [Sem.run_bind,typeInfo,run_program,hi,Sem.run_pure,Result.andThen_ok,Int.toNat_natCast,hfit,if_false,Bool.not_true,Bool.false_eq_true]
 rw[Sem.run_ite,if_neg (by simpa using hno2)]
 simp only [Sem.run_bind,typeInfo,run_program,hi,Sem.run_pure,Result.andThen_ok]
 rw[Sem.run_ite,if_neg hno]
 have hne:¬ m*i.size=0:=by omega
 simp only [Sem.run_bind,run_choose,Question.forced,Bool.false_eq_true,if_false,Result.andThen_ok,World.drew_eq,run_askRoom,hold,hne,zeroValue,typeInfo,run_program,hi,hzero,Sem.run_pure,newRow,run_newObj,World.alloc_eq,hzc]
 rfl
def aappendZ (P:Program) (ts xs:TypeId) (s x:Value) (S:Mem):Option (Value × Mem):=
 match P.underlying ts,P.underlying xs,s,x with
 | some (.slice e),some (.int _),.slice base n c,.int _ k=>match P.info? e with
  | some i=>match i.zero with
   | some z=>(firstOf S i.size n s).bind fun old=>
    if c<UNK∧z.cells.size=i.size∧z.cells.toList.all scalar=true∧0<k.toNat * i.size∧¬ n+k.toNat≤c∧roomy (n+k.toNat) i.bytes∧old.length=n*i.size then
     some (.slice (some ⟨S.length,0,none⟩) (n+k.toNat) (UNK+(n+k.toNat)),S++[grownR (old++zeroList z.cells (k.toNat * i.size)) e i.size])
    else none
   | none=>none
  | none=>none
 | _,_,_,_=>none
theorem aappendZ_sound {ts xs ty:TypeId} {s x s' x':Value} (hS:SR ρ S w) (h:aappendZ P ts xs s x S=some (v,S')) (hs:VR ρ s s') (hx:VR ρ x x') :
  ∃ v' ρ' w',VR ρ' v v'∧SR ρ' S' w'∧Stp ρ S w ρ' S' w'∧(Builtin.append_ #[ts,xs] ty #[s',x']).run P w=.ok v' w':=by
 unfold aappendZ at h
 split at h
 ·rename_i e kd base n c kx k hts hxs
  split at h
  ·rename_i i hi
   split at h
   ·rename_i z hz
    rw[Option.bind_eq_some_iff] at h
    obtain⟨old,hold,h⟩:=h
    split at h
    ·rename_i hc
     obtain⟨hcu,hzs,hza,hpos,hfit,hro,hol⟩:=hc
     cases h
     have hxe:=hx.scalar_eq rfl
     subst hxe
     obtain⟨base',c',rfl,hb1,hb2,hc1,hc2,hC⟩:=hs.slInv
     obtain⟨old',hor,horun⟩:=firstOf_sound (P:=P) hS hold hs
     have hcc:=hc1 hcu
     subst hcc
     have hk:k=(k.toNat:Int):=by
      have:0<k.toNat:=Nat.pos_of_ne_zero (fun h0=>by rw[h0,Nat.zero_mul] at hpos;omega)
      omega
     obtain⟨cap,hcap,hrun⟩:=append_zero_run (P:=P) (w:=w) (ty:=ty) (kx:=kx) (base:=base') (m:=k.toNat) hts hxs hi hz hzs hpos hfit hro (horun w.drew rfl)
     rw[← hk] at hrun
     have hz0:0<z.cells.size:=by
      rw[hzs];exact Nat.pos_of_ne_zero (fun h0=>by rw[h0,Nat.mul_zero] at hpos;omega)
     obtain⟨v',ρ',k1,k2,k3,k4⟩:=grown_push (e:=e) (i:=i) (z:=z) hS hor (scalars_LR ρ (zeroList_scalar hza hz0 (k.toNat * i.size))) hol (by simp [zeroList]) hzs hcap
     exact⟨v',ρ',_,k1,k3,k4,by rw[hrun,k2]⟩
    ·cases h
   ·cases h
  ·cases h
 ·cases h
theorem aappend_sound {ts xs ty:TypeId} {s x s' x':Value} (hS:SR ρ S w) (h:aappend P ts xs s x S=some (v,S')) (hs:VR ρ s s') (hx:VR ρ x x') :
  ∃ v' ρ' w',VR ρ' v v'∧SR ρ' S' w'∧Stp ρ S w ρ' S' w'∧(Builtin.append_ #[ts,xs] ty #[s',x']).run P w=.ok v' w':=by
 unfold aappend at h
 split at h
 ·rename_i e dx base n c hts hxs
  split at h
  ·rename_i i hi hdx
   have hni:dx=.string∨∃ e2,dx=.slice e2:=by
    cases dx<;>first | exact .inl rfl | exact .inr ⟨_,rfl⟩ | cases hdx
   split at h
   ·rename_i z m hz hm
    rw[Option.bind_eq_some_iff] at h
    obtain⟨news,hnews,h⟩:=h
    rw[Option.bind_eq_some_iff] at h
    obtain⟨old,hold,h⟩:=h
    obtain⟨base',c',rfl,hb1,hb2,hc1,hc2,hC⟩:=hs.slInv
    obtain⟨news',hnr,hnrun⟩:=firstOf_sound (P:=P) hS hnews hx
    obtain⟨old',hor,horun⟩:=firstOf_sound (P:=P) hS hold hs
    have hmrun:=lenOf_sound (P:=P) hm hx w
    split at h
    ·cases h
    ·rename_i hzz
     have hzs:z.cells.size=i.size:=by
      by_cases e:z.cells.size=i.size
      ·exact e
      ·exact absurd (.inl e) hzz
     split at h
     ·rename_i hfit
      have hfit':n+m≤c':=by
       unfold knownCap at hfit
       cases base with
       | none=>
        rcases hb2 rfl with h0 | h0
        ·rw[h0.2];split at hfit<;>omega
        ·split at hfit<;>omega
       | some a=>
        split at hfit
        ·rename_i h1;rw[hc1 h1];exact hfit
        ·have:=hc2 (by omega);omega
      cases base with
      | some a=>
       obtain⟨a',rfl,g1,g2,g3⟩:=hb1 a rfl
       simp only [] at h
       split at h
       ·rename_i hnil
        cases h
        have hn':news'=[]:=List.eq_nil_of_length_eq_zero (by rw[← hnr.1,hnil];rfl)
        refine⟨_,ρ,w,.sl a a' _ _ _ g1 g2 g3 (hC a rfl),hS,Stp.refl _ _ _,append_fits_run hts hxs hni hi hmrun hfit' (hnrun w rfl) (fun y hy=>?_) nofun⟩
        subst hn'
        simp [storeCells]
       ·rw[Option.map_eq_some_iff] at h
        obtain⟨S1,hS1,h⟩:=h
        cases h
        obtain⟨q1,q2,q3⟩:=add_at (n*i.size) g1 g2 g3
        obtain⟨w1,hrun,hs1,hs2⟩:=write_sound (P:=P) hS hS1 hnr q1 q2 q3
        exact⟨_,ρ,w1,.sl a a' _ _ _ g1 g2 g3 (hC a rfl),hs1,hs2,append_fits_run hts hxs hni hi hmrun hfit' (hnrun w rfl) (fun y hy=>by cases hy;exact hrun) nofun⟩
      | none=>
       simp only [] at h
       split at h
       ·rename_i hnil
        obtain⟨rfl,rfl⟩:base'=none∧c'=c:=by rcases hb2 rfl with h0 | h0;exact h0;omega
        cases h
        exact⟨_,ρ,w,.slNil _ _,hS,Stp.refl _ _ _,append_fits_run hts hxs hni hi hmrun hfit' (hnrun w rfl) nofun (fun _=>rfl)⟩
       ·cases h
     ·rename_i hfit
      split at h
      ·rename_i hroom
       obtain⟨hro,hnl,hol⟩:=hroom
       split at h
       ·rename_i hcu
        cases h
        have hcc:=hc1 hcu
        subst hcc
        have hnf:¬ n+m≤c':=by unfold knownCap at hfit;rw[if_pos hcu] at hfit;exact hfit
        obtain⟨cap,hcap,hrun⟩:=append_grow_run (P:=P) (w:=w) (ty:=ty) (base:=base') (x:=x') hts hxs hni hi hz hmrun hnf hro (horun w.drew rfl) (hnrun w.drew rfl)
        obtain⟨v',ρ',k1,k2,k3,k4⟩:=grown_push (e:=e) (i:=i) (z:=z) hS hor hnr hol hnl hzs hcap
        exact⟨v',ρ',_,k1,k3,k4,by rw[hrun,k2]⟩
       ·rename_i hcu
        cases base with
        | none=>simp at h
        | some a=>
         obtain⟨a',rfl,g1,g2,g3⟩:=hb1 a rfl
         simp only [] at h
         split at h
         ·rename_i hoff
          split at h
          ·rename_i r hr
           split at h
           ·rename_i hcond
            obtain⟨p1,p2,p3,p4,p5,p6⟩:=hcond
            cases h
            obtain⟨hr1,hr2⟩:=Mem.row?_some hr
            obtain⟨kS,kT⟩:=hS.kill hr1 hr2 p1
            have hlen:(S.set a.block { r with st:=.moved }).length=S.length:=by simp
            by_cases hnf:n+m≤c'
            ·obtain⟨L,hL,⟨cs,fz,hh,hle,hex,hgr,hro',hun,hcell⟩⟩:=hS.live _ _ hr1 hr2
             have hLb:L.b=a'.block:=At.inj ⟨L,hL,rfl⟩ g1
             obtain⟨hgr1,hgr2⟩:=hgr p3
             obtain⟨_,L2,hL2,hcap⟩:=(hC a rfl).2 (by omega)
             rw[hL] at hL2
             cases hL2
             have hcapN:=hcap hoff.1
             rw[hgr2,p4] at hcapN
             have hnm:(n+m)*i.size≤cs.size:=by rw[← hgr1];exact Nat.le_trans (Nat.mul_le_mul_right _ hnf) hcapN
             have hnl':news'.length=m*i.size:=by rw[← hnr.1];exact hnl
             have hfits:n*i.size+news'.length≤cs.size:=by rw[hnl',← Nat.add_mul];exact hnm
             have hh':=hh
             rw[hLb] at hh'
             have haa:a'=⟨a'.block,0,none⟩:=by
              have:=addr_lit (g3.trans hoff.2)
              rw[g2,hoff.1] at this;exact this
             have hadd:a'.add (n*i.size)=⟨a'.block,0+n*i.size,none⟩:=by
              rw[haa];unfold Addr.add;split
              ·rename_i h0;simp [h0]
              ·rfl
             have hrunS:=run_storeCells_cells (P:=P) a'.block (0+n*i.size) news' 0 w (fun j hj=>by
              rw[cell_of_row w _ _ cs r.elem fz hh']
              simp;omega) (fun j hj=>by
              have:=hun p1 (0+n*i.size+0+j) (by omega)
              simp only [World.frozen?,hh']
              simpa using this) (hnr.oneCell p5)
             rw[← hadd] at hrunS
             obtain⟨s1,s2,s3,s4⟩:=setCells_rest a'.block news' (0+n*i.size+0) w
             have hrow:RowAt ρ (grownR (old++news) e i.size) L (w.setCells a'.block (0+n*i.size+0) news'):=by
              refine⟨(putFrom cs.toList (n*i.size) news').toArray,fz,?_,?_,nofun,fun _=>?_,nofun,fun _ j hj=>?_,fun j u hu=>?_⟩
              ·rw[hLb]
               have:=setCells_heap a'.block r.elem fz news' (0+n*i.size+0) w cs hh' (by omega)
               rw[p2] at this
               simpa [grownR] using this
              ·simp only [grownR,List.length_append,hol,hnl,List.size_toArray]
               rw[putFrom_length _ _ _ (by simpa using hfits),← Nat.add_mul]
               simpa using hnm
              ·simp only [List.size_toArray]
               rw[putFrom_length _ _ _ (by simpa using hfits)]
               exact⟨by simpa using hgr1,by rw[hgr2,p4];rfl⟩
              ·simp only [List.size_toArray] at hj
               rw[putFrom_length _ _ _ (by simpa using hfits)] at hj
               exact hun p1 j (by simpa using hj)
              ·simp only [grownR] at hu
               simp only [List.getElem?_toArray]
               rw[putFrom_get _ _ _ (by simpa using hfits)]
               by_cases hj:j<n*i.size
               ·rw[if_pos hj]
                rw[List.getElem?_append_left (by omega)] at hu
                have hru:r.cells[j]?=some u:=by
                 unfold firstOf at hold
                 simp only [] at hold
                 split at hold
                 ·omega
                 ·unfold Mem.cellsAt at hold
                  rw[hr] at hold
                  simp only [] at hold
                  split at hold
                  ·cases hold
                   rw[List.getElem?_take,if_pos hj,List.getElem?_drop,hoff.1,Nat.zero_add] at hu
                   exact hu
                  ·cases hold
                obtain⟨q0,_⟩ | ⟨u',q1,q2⟩:=hcell j u hru
                ·exact absurd p1 q0
                exact .inr ⟨u',by simpa using q1,q2⟩
               ·rw[if_neg hj]
                rw[List.getElem?_append_right (by omega),hol] at hu
                have hju:j - n*i.size<news.length:=(List.getElem?_eq_some_iff.1 hu).1
                rw[if_pos (by rw[hnl'];omega)]
                exact .inr (hnr.get hu)
             obtain⟨ρ',t1,t2,t3⟩:=kS.take (w':=w.setCells a'.block (0+n*i.size+0) news') (grownR (old++news) e i.size) L hL (x0:={ r with st:=.moved }) (by rw[List.getElem?_set,if_pos rfl,if_pos (row_live_lt hr1)]) rfl p1
              (fun q y hq hy hyl=>by
               rw[List.getElem?_set] at hy
               by_cases eq:a.block=q
               ·subst eq;rw[if_pos rfl,if_pos (row_live_lt hr1)] at hy;cases hy;cases hyl
               ·rw[if_neg eq] at hy
                exact eq (hS.inj a.block q r y L.b ⟨L,hL,rfl⟩ hq hr1 hy hr2 hyl)) (fun k hk=>setCells_other _ _ _ _ k (by rw[← hLb];exact hk)) s1 s2 s3 s4 hrow ⟨_,_,_,hh⟩
             rw[hlen] at t1
             refine⟨.slice (some a') (n+m) c',ρ',_,.sl _ _ _ _ _ ⟨L,t1,hLb⟩ (by rw[g2,hoff.1]) (g3.trans hoff.2) ⟨fun h=>by omega,fun _=>⟨by omega,L,t1,fun _=>?_⟩⟩,t2,kT.trans t3,
              append_fits_run hts hxs hni hi hmrun hnf (hnrun w rfl) (fun y hy=>by cases hy;exact hrunS) nofun⟩
             exact hcap hoff.1
            ·obtain⟨cap,hcap,hrun⟩:=append_grow_run (P:=P) (w:=w) (ty:=ty) (base:=some a') (x:=x') hts hxs hni hi hz hmrun hnf hro (horun w.drew rfl) (hnrun w.drew rfl)
             obtain⟨v',ρ',k1,k2,k3,k4⟩:=grown_push (e:=e) (i:=i) (z:=z) kS hor hnr hol hnl hzs hcap
             rw[hlen] at k1
             exact⟨v',ρ',_,k1,k3,kT.trans k4,by rw[hrun,k2]⟩
           ·cases h
          ·cases h
         ·cases h
      ·cases h
   ·cases h
  ·cases h
 ·cases h
def zeroOf (P:Program) (t:TypeId):Option Value:=match P.info? t with
 | some i=>match i.zero with
  | some z=>if z.cells.toList.all scalar then some z else none
  | none=>none
 | none=>none
def intOf':Value→Option Int
 | .int _ n=>some n
 | _=>none
def acopy (P:Program) (td:TypeId) (d x:Value) (S:Mem):Option (Value × Mem):=
 match P.underlying td,d with
 | some (.slice e),.slice base n _=>match P.info? e,lenOf' x with
  | some i,some m=>(firstOf S i.size (Nat.min m n) x).bind fun news=>match base with
   | some a=>if news=[] then some (.int .i64 (Nat.min m n:Nat),S) else (S.write a news).map fun S'=>(.int .i64 (Nat.min m n:Nat),S')
   | none=>some (.int .i64 (Nat.min m n:Nat),S)
  | _,_=>none
 | _,_=>none
def aeff (P:Program) (o:Oper) (ev:Operand→Value) (S:Mem):Option (Value × Mem):=
 match o.op with
 | .alloc t=>(zeroOf P t).map fun z=>(.pointer (some ⟨S.length,0,none⟩),S++[newR z.cells.toList t])
 | .box t x=>some (.pointer (some ⟨S.length,0,none⟩),S++[newR (ev x).cells.toList t])
 | .buildSlice t len parts=>match P.underlying t with
  | some (.slice e)=>match P.info? e,zeroOf P e with
   | some i,some z=>if len*i.size≤16777216∧len<UNK∧0<z.cells.size then
     (Instr.fill (fun i'=>some (i'*i.size,i.size)) (zeroList z.cells (len*i.size)).toArray (parts.map fun (i,x)=>(i,ev x)).toList).map fun cells=>
      (.slice (some ⟨S.length,0,none⟩) len len,S++[newR cells.toList e]) else none
   | _,_=>none
  | _=>none
 | .store t a x=>match ev a,P.info? t with
  | .pointer (some ad),some i=>if (ev x).cells.size=i.size then (S.write ad (ev x).cells.toList).map fun S'=>(undef,S') else none
  | _,_=>none
 | .makeSlice t l c=>match P.underlying t with
  | some (.slice e)=>match P.info? e,zeroOf P e,intOf' (ev l),intOf' (ev c) with
   | some i,some z,some l,some c=>if 0≤l∧l≤c∧c≤140737488355328∧c.toNat * i.bytes≤140737488355328∧0<z.cells.size then
     some (.slice (some ⟨S.length,0,none⟩) l.toNat c.toNat,S++[newR (zeroList z.cells (c.toNat * i.size)) e]) else none
   | _,_,_,_=>none
  | _=>none
 | .convert src dst x=>match ev x,P.underlying src,P.underlying dst with
  | .string s,some .string,some (.slice e)=>if isBytes P e then
    some (.slice (some ⟨S.length,0,none⟩) s.size (UNK+s.size),S++[grownR (s.data.toList.map fun b=>.int .u8 b.toNat) e 1]) else none
  | _,_,_=>none
 | .call c=>match c.callee with
  | .builtin .append=>match c.argTypes[0]?,c.argTypes[1]?,c.args[0]?,c.args[1]? with
   | some ts,some xs,some s,some x=>if c.args.size=2∧c.argTypes.size=2 then (match aappend P ts xs (ev s) (ev x) S with
    | some r=>some r
    | none=>aappendZ P ts xs (ev s) (ev x) S) else none
   | _,_,_,_=>none
  | .builtin .copy=>match c.argTypes[0]?,c.args[0]?,c.args[1]? with
   | some td,some d,some x=>acopy P td (ev d) (ev x) S
   | _,_,_=>none
  | _=>none
 | _=>none
theorem zeroOf_run {t:TypeId} {z:Value} (h:zeroOf P t=some z):(∀ w2:World,(zeroValue t).run P w2=.ok z w2)∧z.cells.toList.all scalar=true∧∃ i,P.info? t=some i∧i.zero=some z:=by
 unfold zeroOf at h
 split at h
 ·rename_i i hi
  split at h
  ·rename_i z' hz
   split at h
   ·rename_i ha
    cases h
    exact⟨fun w2=>by simp [zeroValue,typeInfo,hi,hz],ha,i,hi,hz⟩
   ·cases h
  ·cases h
 ·cases h
theorem SR.pushNew (h:SR ρ S w) (cells cells':List Value) (hc:LR ρ cells cells') (t:TypeId) :
  ∃ ρ',VR ρ' (.pointer (some ⟨S.length,0,none⟩)) (.pointer (some ⟨w.heap.size,0,none⟩))∧(∀ n c,c<UNK→VR ρ' (.slice (some ⟨S.length,0,none⟩) n c) (.slice (some ⟨w.heap.size,0,none⟩) n c)) ∧
   SR ρ' (S++[newR cells t]) (w.alloc (.cells cells'.toArray t))∧Stp ρ S w ρ' (S++[newR cells t]) (w.alloc (.cells cells'.toArray t)):=by
 obtain⟨ρ',h1,h2,h3⟩:=h.push (w':=w.alloc (.cells cells'.toArray t)) (newR cells t) cells'.toArray (0,0) rfl rfl rfl rfl 0 (by simp [newR,hc.1]) (fun _=>by simp [newR,hc.1]) nofun rfl (fun j _ h=>by simp at h) (fun j u hu=>by
  obtain⟨u',a,b⟩:=hc.get hu
  exact⟨u',by simpa using a,b⟩)
 exact⟨ρ',.ptr _ _ ⟨_,h1,rfl⟩ rfl rfl,fun n c hc=>.sl _ _ _ _ _ ⟨_,h1,rfl⟩ rfl rfl ⟨fun _=>rfl,fun h=>by omega⟩,h2,h3⟩
theorem acopy_sound {td xs ty:TypeId} {d x d' x':Value} (hS:SR ρ S w) (h:acopy P td d x S=some (v,S')) (hd:VR ρ d d') (hx:VR ρ x x') :
  ∃ v' ρ' w',VR ρ' v v'∧SR ρ' S' w'∧Stp ρ S w ρ' S' w'∧∀ (ts:Array TypeId) (as:Array Value),ts[0]?=some td→as[0]?=some d'→as[1]?=some x'→(Builtin.copy_ ts ty as).run P w=.ok v' w':=by
 unfold acopy at h
 split at h
 ·rename_i e base n cp htd
  split at h
  ·rename_i i m hi hm
   rw[Option.bind_eq_some_iff] at h
   obtain⟨news,hnews,h⟩:=h
   obtain⟨base',c',rfl,hb1,hb2,_⟩:=hd.slInv
   obtain⟨news',hnr,hnrun⟩:=firstOf_sound (P:=P) hS hnews hx
   have hmrun:=lenOf_sound (P:=P) hm hx w
   have run:∀ w',(∀ a,base'=some a→(storeCells a news').run P w=.ok () w')→(base'=none→w'=w)→∀ (ts:Array TypeId) (as:Array Value),ts[0]?=some td→as[0]?=some (.slice base' n c')→as[1]?=some x' →
     (Builtin.copy_ ts ty as).run P w=.ok (.int .i64 (Nat.min m n:Nat)) w':=by
    intro w' hst hno ts as e1 e2 e3
    unfold Builtin.copy_
    simp only [e1,e2,e3,Sem.run_bind,run_underlying' htd,Result.andThen_ok,hmrun,sizeOf,typeInfo,run_program,hi,Sem.run_pure,hnrun w rfl]
    cases base' with
    | none=>simp [hno rfl,goInt]
    | some a=>simp [hst a rfl,goInt]
   cases base with
   | some a=>
    obtain⟨a',rfl,g1,g2,g3⟩:=hb1 a rfl
    simp only [] at h
    split at h
    ·rename_i hnil
     cases h
     have hn':news'=[]:=List.eq_nil_of_length_eq_zero (by rw[← hnr.1,hnil];rfl)
     exact⟨_,ρ,w,.int _ _,hS,Stp.refl _ _ _,run w (fun y hy=>by subst hn';simp [storeCells]) nofun⟩
    ·rw[Option.map_eq_some_iff] at h
     obtain⟨S1,hS1,h⟩:=h
     cases h
     obtain⟨w1,hrun,hs1,hs2⟩:=write_sound (P:=P) hS hS1 hnr g1 g2 g3
     exact⟨_,ρ,w1,.int _ _,hs1,hs2,run w1 (fun y hy=>by cases hy;exact hrun) nofun⟩
   | none=>
    cases h
    rcases hb2 rfl with ⟨rfl,rfl⟩ | ⟨rfl,_⟩
    ·exact⟨_,ρ,w,.int _ _,hS,Stp.refl _ _ _,run w nofun (fun _=>rfl)⟩
    ·have hn0:news=[]:=firstOf_zero (by simpa using hnews)
     have hn':news'=[]:=List.eq_nil_of_length_eq_zero (by rw[← hnr.1,hn0];rfl)
     exact⟨_,ρ,w,.int _ _,hS,Stp.refl _ _ _,run w (fun y hy=>by subst hn';simp [storeCells]) (fun _=>rfl)⟩
  ·cases h
 ·cases h
theorem wrap64_id {n:Int} (h0:0≤n) (h1:n≤140737488355328):IntKind.i64.wrap n=n:=by
 have e1:IntKind.i64.bits=64:=rfl
 have e2:IntKind.i64.signed=true:=rfl
 unfold IntKind.wrap
 rw[e1,e2]
 simp only [Bool.true_and,decide_eq_true_eq]
 split<;>omega
theorem makeSlice_run {t e:TypeId} {i:TypeInfo} {z:Value} {l c:Int} {kl kc:IntKind} (ht:P.underlying t=some (.slice e)) (hi:P.info? e=some i) (hz:∀ w2:World,(zeroValue e).run P w2=.ok z w2)
  (h0:0≤l) (h1:l≤c) (h2:c≤140737488355328) (h3:c.toNat * i.bytes≤140737488355328) :
  ∃ z',(c.toNat * i.size≠0→z'=z.cells)∧(Instr.makeSlice t (.int kl l) (.int kc c)).run P w=.ok (.slice (some ⟨w.heap.size,0,none⟩) l.toNat c.toNat) (w.alloc (.cells (zeroList z' (c.toNat * i.size)).toArray e)):=by
 have hb:∀ n:Int,0≤n→n≤c→(i.bytes:Int)*n≤140737488355328:=fun n hn hnc=>by
  have h4:n.toNat≤c.toNat:=by omega
  have h5:=Nat.mul_le_mul_right i.bytes h4
  have h6:((n.toNat * i.bytes:Nat):Int)≤140737488355328:=by omega
  rw[Int.natCast_mul,Int.toNat_of_nonneg hn,Int.mul_comm] at h6
  exact h6
 have hbc:=hb c (by omega) (Int.le_refl _)
 have hne:∀ q:Sem Value,(if ((c<0 || decide ((i.bytes:Int)*c > 2^48)) || decide (l<0) || decide (l > c))=true then q else pure default)=pure default:=fun q=>by
  rw[if_neg]
  simp
  omega
 have hcond:((decide (c<0) || decide ((i.bytes:Int)*c > 2^48)) || decide (l<0) || decide (l > c))=false:=by simp;omega
 by_cases hn:c.toNat * i.size=0
 ·refine⟨#[],fun h=>absurd hn h,?_⟩
  unfold Instr.makeSlice
  simp only [Sem.run_bind,run_underlying' ht,Result.andThen_ok,asInt,asIntOf,Sem.run_pure,typeInfo,run_program,hi,wrap64_id h0 (by omega:l≤140737488355328),wrap64_id (by omega:0≤c) h2]
  rw[Sem.run_ite,if_neg (by simpa using hcond)]
  simp only [Sem.run_bind,run_askRoom,Result.andThen_ok,sizeOf,typeInfo,run_program,hi,Sem.run_pure,hn,if_true,newRow,run_newObj,World.alloc_eq]
  congr 2
  simp [zeroList]
 ·refine⟨z.cells,fun _=>rfl,?_⟩
  unfold Instr.makeSlice
  simp only [Sem.run_bind,run_underlying' ht,Result.andThen_ok,asInt,asIntOf,Sem.run_pure,typeInfo,run_program,hi,wrap64_id h0 (by omega:l≤140737488355328),wrap64_id (by omega:0≤c) h2]
  rw[Sem.run_ite,if_neg (by simpa using hcond)]
  simp only [Sem.run_bind,run_askRoom,Result.andThen_ok,sizeOf,typeInfo,run_program,hi,Sem.run_pure,hn,if_false,hz,newRow,run_newObj,World.alloc_eq]
  congr 3
  apply Array.ext'
  simp [zeroList]
set_option maxHeartbeats 1000000 in
theorem aeff_sound {o:Oper} {ev ev':Operand→Value} (hS:SR ρ S w) (h:aeff P o ev S=some (v,S')) (hv:∀ x∈o.op.operands,VR ρ (ev x) (ev' x)) :
  ∃ v' ρ' w',VR ρ' v v'∧SR ρ' S' w'∧Stp ρ S w ρ' S' w'∧((execOp ev' o).run P w=.ok (.value v') w'∨((execOp ev' o).run P w=.ok .skip w'∧v'=undef)):=by
 unfold aeff at h
 split at h
 ·rename_i t ho
  rw[Option.map_eq_some_iff] at h
  obtain⟨z,hz,h⟩:=h
  cases h
  obtain⟨hzr,hza,_⟩:=zeroOf_run hz
  obtain⟨ρ',h1,_,h2,h3⟩:=hS.pushNew z.cells.toList z.cells.toList (scalars_LR ρ hza) t
  refine⟨_,ρ',_,h1,h2,h3,.inl ?_⟩
  simp [execOp,ho,Instr.alloc,hzr,newVar,newRow]
 ·rename_i t x ho
  cases h
  have m0:=(hv x (by simp [ho,Op.operands])).cellsLR
  obtain⟨ρ',h1,_,h2,h3⟩:=hS.pushNew _ _ m0 t
  refine⟨_,ρ',_,h1,h2,h3,.inl ?_⟩
  simp [execOp,ho,Instr.box,newVar,newRow]
 ·rename_i t len parts ho
  split at h
  ·rename_i e ht
   split at h
   ·rename_i i z hi hz
    split at h
    ·rename_i hc
     rw[Option.map_eq_some_iff] at h
     obtain⟨cells,hcells,h⟩:=h
     cases h
     obtain⟨hzr,hza,_⟩:=zeroOf_run hz
     have hp:∀ (i:Nat) (p p':Nat × Value),(parts.map fun (i,x)=>(i,ev x)).toList[i]?=some p→(parts.map fun (i,x)=>(i,ev' x)).toList[i]?=some p'→p.1=p'.1∧VR ρ p.2 p'.2:=by
      intro i p p' a b
      rw[Array.getElem?_toList,Array.getElem?_map,Option.map_eq_some_iff] at a b
      obtain⟨q,hq,rfl⟩:=a
      obtain⟨q',hq',rfl⟩:=b
      rw[hq] at hq'
      cases hq'
      refine⟨rfl,hv q.2 ?_⟩
      rw[ho]
      simp only [Op.operands,List.mem_toArray,List.mem_map,Array.mem_toList_iff]
      exact⟨q,Array.mem_of_getElem? hq,rfl⟩
     obtain⟨cells',hf',hlr⟩:=fill_sound (ρ:=ρ) _ _ (parts.map fun (i,x)=>(i,ev' x)).toList _ (zeroList z.cells (len*i.size)).toArray cells (by simp) hp (by simpa using scalars_LR ρ (zeroList_scalar hza hc.2.2 _)) hcells
     obtain⟨ρ',h1,h1s,h2,h3⟩:=hS.pushNew cells.toList cells'.toList hlr e
     refine⟨_,ρ',_,h1s len len hc.2.1,h2,h3,.inl ?_⟩
     have hrun:(Instr.buildSlice t len (parts.map fun (i,x)=>(i,ev' x))).run P w=.ok (.slice (some ⟨w.heap.size,0,none⟩) len len) (w.alloc (.cells cells'.toList.toArray e)):=by
      unfold Instr.buildSlice
      simp only [Sem.run_bind,run_underlying' ht,Result.andThen_ok,sizeOf,typeInfo,run_program,hi,Sem.run_pure]
      rw[Sem.run_ite,if_neg (by omega)]
      have hz0:∀ (zz:Array Value),(len*i.size≠0→zz=z.cells)→(Array.range (len*i.size)).map (fun x=>zz[x % zz.size]!)=(zeroList z.cells (len*i.size)).toArray:=fun zz hzz=>by
       by_cases h0:len*i.size=0
       ·rw[h0];simp [zeroList]
       ·rw[hzz h0];apply Array.ext';simp [zeroList]
      have hf2:Instr.fill (fun i'=>some (i'*i.size,i.size)) (zeroList z.cells (len*i.size)).toArray (Array.map (fun x=>(x.fst,ev' x.snd)) parts).toList=some cells':=hf'
      split
      ·rename_i h0
       rw[Sem.run_bind]
       simp only [Sem.run_pure,Result.andThen_ok]
       rw[hz0 #[] (fun h=>absurd h0 h),hf2]
       simp [newRow]
      ·rw[Sem.run_bind]
       simp only [Sem.run_bind,hzr,Sem.run_pure,Result.andThen_ok]
       rw[hz0 z.cells (fun _=>rfl),hf2]
       simp [newRow]
     simp [execOp,ho,hrun]
    ·cases h
   ·cases h
  ·cases h
 ·rename_i t a x ho
  split at h
  ·rename_i ad i ha hi
   split at h
   ·rename_i hsz
    rw[Option.map_eq_some_iff] at h
    obtain⟨S1,hS1,h⟩:=h
    cases h
    have m0:=hv a (by simp [ho,Op.operands])
    have m1:=(hv x (by simp [ho,Op.operands])).cellsLR
    rw[ha] at m0
    obtain⟨a',hae,g1,g2,g3⟩:=m0.ptrInv
    obtain⟨w1,hrun,hs1,hs2⟩:=write_sound (P:=P) hS hS1 m1 g1 g2 g3
    refine⟨undef,ρ,w1,flat_VR ρ undef_flat,hs1,hs2,.inr ⟨?_,rfl⟩⟩
    have hsz':(ev' x).cells.size=i.size:=by have:=m1.1;simp only [Array.length_toList] at this;omega
    simp [execOp,ho,hae,Instr.storeAt,Instr.sureAddr,storeVar,sizeOf,typeInfo,hi,hsz',hrun]
   ·cases h
  ·cases h
 ·rename_i t l c ho
  split at h
  ·rename_i e ht
   split at h
   ·rename_i i z l' c' hi hz hl hc
    split at h
    ·rename_i hcond
     cases h
     have e1:=(hv l (by simp [ho,Op.operands])).scalar_eq (by unfold intOf' at hl;split at hl<;>first | rename_i hq;rw[hq];rfl | cases hl)
     have e2:=(hv c (by simp [ho,Op.operands])).scalar_eq (by unfold intOf' at hc;split at hc<;>first | rename_i hq;rw[hq];rfl | cases hc)
     obtain⟨kl,hl'⟩:∃ k,ev l=.int k l':=by unfold intOf' at hl;split at hl<;>first | (rename_i hq;cases hl;exact⟨_,hq⟩) | cases hl
     obtain⟨kc,hc'⟩:∃ k,ev c=.int k c':=by unfold intOf' at hc;split at hc<;>first | (rename_i hq;cases hc;exact⟨_,hq⟩) | cases hc
     obtain⟨hzr,hza,_⟩:=zeroOf_run hz
     obtain⟨z',hz',hrun⟩:=makeSlice_run (P:=P) (w:=w) (kl:=kl) (kc:=kc) ht hi hzr hcond.1 hcond.2.1 hcond.2.2.1 hcond.2.2.2.1
     have hzl:zeroList z' (c'.toNat * i.size)=zeroList z.cells (c'.toNat * i.size):=by
      by_cases h0:c'.toNat * i.size=0
      ·rw[h0];rfl
      ·rw[hz' h0]
     rw[hzl] at hrun
     obtain⟨ρ',h1,h1s,h2,h3⟩:=hS.pushNew _ _ (scalars_LR ρ (zeroList_scalar hza hcond.2.2.2.2 (c'.toNat * i.size))) e
     refine⟨_,ρ',_,h1s l'.toNat c'.toNat (by unfold UNK;omega),h2,h3,.inl ?_⟩
     simp [execOp,ho,e1,e2,hl',hc',hrun]
    ·cases h
   ·cases h
  ·cases h
 ·rename_i src dst x ho
  split at h
  ·rename_i s e hx hsr hds
   split at h
   ·rename_i hby
    cases h
    have e1:=(hv x (by simp [ho,Op.operands])).scalar_eq (by rw[hx];rfl)
    have hby':∀ w,(underlying e).run P w=.ok (.int .u8) w:=fun w=>by
     unfold isBytes at hby
     split at hby
     ·rename_i hq;exact run_underlying' hq w
     ·cases hby
    obtain⟨cap,hce⟩:∃ cap,(Question.appendCap s.size 0 e).cut (w.tape w.drawn (.appendCap s.size 0 e))=cap:=⟨_,rfl⟩
    have hcap:s.size≤cap:=by rw[← hce];simp [Question.cut]
    obtain⟨C,hC⟩:∃ C:Array Value,(s.data.map fun b:UInt8=>Value.int .u8 b.toNat)++Array.replicate (cap - s.size) (Value.int .u8 0)=C:=⟨_,rfl⟩
    have hds':s.data.size=s.size:=rfl
    have hCs:C.size=cap:=by rw[← hC];simp [hds'];omega
    have hrun:(convert src dst (.string s)).run P w=.ok (.slice (some ⟨w.heap.size,0,none⟩) s.size cap) ((w.drew.alloc (.cells C e)).freeze ⟨w.heap.size,C.size,none⟩ 1):=by
     unfold convert
     simp only [Sem.run_bind,run_underlying' hsr,run_underlying' hds,Result.andThen_ok,hby']
     unfold Conv.stringToBytes
     simp only [Sem.run_bind,run_choose,Question.forced,Bool.false_eq_true,if_false,hce,Result.andThen_ok,newRow,run_newObj,Sem.run_pure,markStringish,run_shape,World.drew_eq,World.alloc_eq,hC]
     have hsh:(w.drew.alloc (.cells C e)).shape? w.heap.size=some (e,C.size):=by
      unfold World.shape?
      rw[show (w.drew.alloc (.cells C e)).heap[w.heap.size]?=some (.cells C e) from heap_alloc_new w.drew _]
     rw[show w.drew.heap.size=w.heap.size from rfl,hsh]
     simp
    have hheap:((w.drew.alloc (.cells C e)).freeze ⟨w.heap.size,C.size,none⟩ 1).heap=w.heap.push (.cells C e (C.size,C.size+1)):=by
     have h1:(w.drew.alloc (.cells C e)).heap=w.heap.push (.cells C e):=rfl
     unfold World.freeze
     rw[if_neg (by omega)]
     simp only [h1]
     apply Array.ext_getElem?
     intro j
     rw[Array.getElem?_modify]
     by_cases hj:w.heap.size=j
     ·subst hj;simp
     ·rw[if_neg hj,Array.getElem?_push,Array.getElem?_push]
      split
      ·rename_i h9;exact absurd h9.symm hj
      ·rfl
    have hrest:((w.drew.alloc (.cells C e)).freeze ⟨w.heap.size,C.size,none⟩ 1).tape=w.tape∧((w.drew.alloc (.cells C e)).freeze ⟨w.heap.size,C.size,none⟩ 1).os=w.os∧((w.drew.alloc (.cells C e)).freeze ⟨w.heap.size,C.size,none⟩ 1).output=w.output:=by
     unfold World.freeze;rw[if_neg (by omega)];exact⟨rfl,rfl,rfl⟩
    obtain⟨ρ',h1,h2,h3⟩:=hS.push (w':=(w.drew.alloc (.cells C e)).freeze ⟨w.heap.size,C.size,none⟩ 1) (grownR (s.data.toList.map fun b:UInt8=>Value.int .u8 b.toNat) e 1) C (C.size,C.size+1) hheap hrest.1 hrest.2.1 hrest.2.2 1
     (by simp [grownR,hCs,hds'];exact hcap) nofun (fun _=>rfl) rfl (fun j hj=>by simp;omega) (fun j u hu=>by
      refine⟨u,?_,?_⟩
      ·simp only [grownR] at hu
       have hj:j<s.data.size:=by
        have:=(List.getElem?_eq_some_iff.1 hu).1
        simpa using this
       rw[← hC,Array.getElem?_append_left (by simpa using hj)]
       simpa using hu
      ·simp only [grownR,List.getElem?_map,Option.map_eq_some_iff] at hu
       obtain⟨q,_,rfl⟩:=hu
       exact .int _ _)
    refine⟨.slice (some ⟨w.heap.size,0,none⟩) s.size cap,ρ',_,.sl _ _ _ _ _ ⟨_,h1,rfl⟩ rfl rfl ⟨fun h=>by omega,fun _=>⟨by omega,_,h1,fun _=>?_⟩⟩,h2,h3,.inl (by simp [execOp,ho,e1,hx,hrun])⟩
    show cap*1≤C.size
    omega
   ·cases h
  ·cases h
 ·rename_i c ho
  split at h
  ·rename_i hcal
   split at h
   ·rename_i ts xs s x h1 h2 h3 h4
    split at h
    ·rename_i hsz
     have m0:=hv s (by simp [ho,Op.operands,Call.operands,hcal,Array.mem_of_getElem? h3])
     have m1:=hv x (by simp [ho,Op.operands,Call.operands,hcal,Array.mem_of_getElem? h4])
     obtain⟨v',ρ',w',k1,k2,k3,k4⟩:∃ v' ρ' w',VR ρ' v v'∧SR ρ' S' w'∧Stp ρ S w ρ' S' w'∧(Builtin.append_ #[_,_] o.type #[_,_]).run P w=.ok v' w':=by
      split at h
      ·rename_i r hr
       cases h
       exact aappend_sound (ty:=o.type) hS hr m0 m1
      ·exact aappendZ_sound (ty:=o.type) hS h m0 m1
     refine⟨v',ρ',w',k1,k2,k3,.inl ?_⟩
     have ea:c.args=#[s,x]:=by
      apply Array.ext_getElem?
      intro i
      match i with
      | 0=>simpa using h3
      | 1=>simpa using h4
      | i+2=>rw[Array.getElem?_eq_none (by omega)];simp
     have et:c.argTypes=#[ts,xs]:=by
      apply Array.ext_getElem?
      intro i
      match i with
      | 0=>simpa using h1
      | 1=>simpa using h2
      | i+2=>rw[Array.getElem?_eq_none (by omega)];simp
     simp [execOp,ho,resolve,hcal,invoke,builtin,ea,et,k4]
    ·cases h
   ·cases h
  ·rename_i hcal
   split at h
   ·rename_i td d x h1 h2 h3
    have m0:=hv d (by simp [ho,Op.operands,Call.operands,hcal,Array.mem_of_getElem? h2])
    have m1:=hv x (by simp [ho,Op.operands,Call.operands,hcal,Array.mem_of_getElem? h3])
    obtain⟨v',ρ',w',k1,k2,k3,k4⟩:=acopy_sound (xs:=0) (ty:=o.type) hS h m0 m1
    refine⟨v',ρ',w',k1,k2,k3,.inl ?_⟩
    simp [execOp,ho,resolve,hcal,invoke,builtin,k4 c.argTypes (c.args.map ev') h1 (by simp [h2]) (by simp [h3])]
   ·cases h
  ·cases h
 ·cases h
end
end
section
open Go
inductive Xit where
 | nrm | exit (id:Nat) | goto (l:Nat) | ret | pan (v:Value)
inductive Outc where
 | ret (v:Value) | pan (v:Value)
def Xit.inBlock (id:Nat):Xit→Xit
 | .exit id'=>if id'=id then .nrm else .exit id'
 | x=>x
inductive Jd where
 | ops (fl:Bool) (ops:Array Oper) (is:List Nat) (e:Env) (S:Mem) (x:Option Value) (e':Env) (S':Mem)
 | code (c:Code) (e:Env) (S:Mem) (x:Xit) (e':Env) (S':Mem)
 | call (f:FuncId) (args:List Value) (S:Mem) (out:Outc) (S':Mem)
def awanted (ops:Array Oper) (o:Oper) (e:Env):Bool:=match o.guard with
 | none=>true
 | some (j,want)=>match (ops[j]?).bind (·.dst) with
  | some t=>match e t with
   | .bool b=>b==want
   | _=>false
  | none=>false
def acall (o:Oper) (ev:Operand→Value):Option (FuncId × List Value):=match o.op with
 | .call c=>match c.callee with
  | .value f=>match ev f with
   | .func (.func f) first captured=>some (f,first.toList++c.args.toList.map ev++captured.toList)
   | _=>none
  | _=>none
 | _=>none
def Cons (S S':Mem):Prop:=∀ r,r<S.length→S'[r]?=S[r]?
theorem Cons.refl (S:Mem):Cons S S:=fun _ _=>rfl
theorem Cons.len {S S':Mem} (h:Cons S S'):S.length≤S'.length:=by
 rcases Nat.lt_or_ge S'.length S.length with hl | hl
 ·have:=h S'.length hl
  rw[List.getElem?_eq_none (Nat.le_refl _),List.getElem?_eq_getElem hl] at this
  cases this
 ·exact hl
theorem Cons.trans {a b c:Mem} (h:Cons a b) (k:Cons b c):Cons a c:=fun r hr=>(k r (Nat.lt_of_lt_of_le hr h.len)).trans (h r hr)
theorem Cons.push (S:Mem) (x:Row):Cons S (S++[x]):=fun r hr=>List.getElem?_append_left hr
def ares1 (P:Program) (e:Env) (S:Mem):ResultVar→Option Value
 | .tmp t=>some (e t)
 | .cell a t=>aloadAt P t (e a) S
def aresults (P:Program) (fn:Func) (e:Env) (S:Mem):Option Value:=match fn.results.toList with
 | [r]=>ares1 P e S r
 | []=>some (.tuple #[])
 | [r,s]=>(ares1 P e S r).bind fun u=>(ares1 P e S s).map fun v=>.tuple #[u,v]
 | [r,s,t]=>(ares1 P e S r).bind fun u=>(ares1 P e S s).bind fun v=>(ares1 P e S t).map fun x=>.tuple #[u,v,x]
 | [r,s,t,q]=>(ares1 P e S r).bind fun u=>(ares1 P e S s).bind fun v=>(ares1 P e S t).bind fun x=>(ares1 P e S q).map fun y=>.tuple #[u,v,x,y]
 | _=>none
def opKind (P:Program) (o:Oper):Nat:=match o.op with
 | .load ..=>1
 | .alloc _ | .box .. | .buildSlice .. | .makeSlice ..=>2
 | .store ..=>3
 | .convert s _ _=>match P.underlying s with
  | some (.slice _)=>1
  | some .string=>2
  | some (.pointer _)=>4
  | some .unsafePointer=>4
  | _=>0
 | .range ..=>2
 | .next ..=>3
 | .call c=>match c.callee with
  | .builtin .append | .builtin .copy | .builtin .unsafeString=>3
  | .builtin _=>0
  | _=>4
 | _=>0
def maskOf (acc:List Nat) (es:List Edge):Nat:=es.foldl (fun s e=>if Region.binds .any e then s ||| (2^e.on) ||| acc.getD e.on 0 else s) 0
def masks:List Oper→List Nat→List Nat
 | [],acc=>acc
 | o :: r,acc=>masks r (acc++[maskOf acc o.after.toList])
def ordB (ms:List Nat) (i j:Nat):Bool:=(ms.getD j 0).testBit i || (ms.getD i 0).testBit j
def pairOk (P:Program) (ops:Array Oper) (ms:List Nat) (i j:Nat) (oi oj:Oper):Bool:=
 (match oi.dst with
  | some d=>oj.dst != some d && (!(oj.looksAt ops).contains d || ordB ms i j)
  | none=>true) &&
 (!(decide (2≤opKind P oi) && decide (2≤opKind P oj)) || ordB ms i j) &&
 (!(opKind P oi==3 && opKind P oj==1) || ordB ms i j)
def orderOk (P:Program) (ops:Array Oper):Bool:=
 let ms:=masks ops.toList []
 ops.toList.zipIdx.all fun (oj,j)=>(oj.after.toList.all fun e=>!Region.binds .any e || decide (e.on<j)) &&
  ops.toList.zipIdx.all fun (oi,i)=>i==j || pairOk P ops ms i j oi oj
def floaty (P:Program) (ops:Array Oper):Bool:=
 let ms:=masks ops.toList []
 ops.toList.zipIdx.any fun (oj,j)=>opKind P oj==1 && ops.toList.zipIdx.any fun (oi,i)=>opKind P oi==4 && !ordB ms i j
inductive Anc (ops:Array Oper):Nat→Nat→Prop
 | edge {j:Nat} {o:Oper} {e:Edge} (ho:ops[j]?=some o) (he:e∈o.after) (hb:Region.binds .any e=true):Anc ops e.on j
 | trans {i j k:Nat} (h:Anc ops i j) (h':Anc ops j k):Anc ops i k
theorem maskOf_sound {ops:Array Oper} {acc:List Nat} {j:Nat} (hacc:∀ k i,(acc.getD k 0).testBit i=true→Anc ops i k):∀ (es:List Edge) (s:Nat),
  (∀ e∈es,Region.binds .any e=true→Anc ops e.on j)→(∀ i,s.testBit i=true→Anc ops i j) →
  ∀ i,(es.foldl (fun s e=>if Region.binds .any e then s ||| (2^e.on) ||| acc.getD e.on 0 else s) s).testBit i=true→Anc ops i j
 | [],s,_,hs,i,h=>hs i h
 | e :: es,s,he,hs,i,h=>by
  simp only [List.foldl_cons] at h
  refine maskOf_sound hacc es _ (fun e' h'=>he e' (List.mem_cons_of_mem _ h')) (fun i' hi'=>?_) i h
  by_cases hb:Region.binds .any e=true
  ·rw[if_pos hb] at hi'
   simp only [Nat.testBit_or,Bool.or_eq_true] at hi'
   have h0:=he e List.mem_cons_self hb
   rcases hi' with (h1 | h1) | h1
   ·exact hs i' h1
   ·rw[Nat.testBit_two_pow] at h1
    have:e.on=i':=by simpa using h1
    rw[← this];exact h0
   ·exact(hacc _ _ h1).trans h0
  ·rw[if_neg hb] at hi';exact hs i' hi'
theorem masks_sound {ops:Array Oper}:∀ (l:List Oper) (acc:List Nat),(∀ k,l[k]?=ops[acc.length+k]?)→(∀ k i,(acc.getD k 0).testBit i=true→Anc ops i k) →
  ∀ k i,((masks l acc).getD k 0).testBit i=true→Anc ops i k
 | [],acc,_,h,k,i,hk=>h k i hk
 | o :: l,acc,hl,h,k,i,hk=>by
  simp only [masks] at hk
  have h0:ops[acc.length]?=some o:=by simpa using (hl 0).symm
  refine masks_sound l (acc++[maskOf acc o.after.toList]) (fun k=>by have:=hl (k+1);simpa [Nat.add_assoc,Nat.add_comm 1] using this) (fun k' i' h'=>?_) k i hk
  rw[List.getD_eq_getElem?_getD,List.getElem?_append] at h'
  split at h'
  ·exact h k' i' (by rw[List.getD_eq_getElem?_getD];exact h')
  ·rename_i hge
   by_cases he:k'=acc.length
   ·subst he
    simp at h'
    exact maskOf_sound h o.after.toList 0 (fun e he hb=>.edge h0 (by simpa using he) hb) (fun i h=>by simp at h) i' h'
   ·rw[List.getElem?_singleton,if_neg (by omega)] at h'
    simp at h'
structure Order (P:Program) (ops:Array Oper):Prop where
 less:∀ {j:Nat} {o:Oper} {e:Edge},ops[j]?=some o→e∈o.after→Region.binds .any e=true→e.on<j
 uniq:∀ {i j:Nat} {oi oj:Oper} {d:Tmp},ops[i]?=some oi→ops[j]?=some oj→i≠j→oi.dst=some d→oj.dst≠some d
 slot:∀ {i j:Nat} {oi oj:Oper} {d:Tmp},ops[i]?=some oi→ops[j]?=some oj→i≠j→oi.dst=some d→d∈oj.looksAt ops→Anc ops i j∨Anc ops j i
 effs:∀ {i j:Nat} {oi oj:Oper},ops[i]?=some oi→ops[j]?=some oj→i≠j→2≤opKind P oi→2≤opKind P oj→Anc ops i j∨Anc ops j i
 wr:∀ {i j:Nat} {oi oj:Oper},ops[i]?=some oi→ops[j]?=some oj→i≠j→opKind P oi=3→opKind P oj=1→Anc ops i j∨Anc ops j i
 fl:floaty P ops=false→∀ {i j:Nat} {oi oj:Oper},ops[i]?=some oi→ops[j]?=some oj→opKind P oi=4→opKind P oj=1→Anc ops i j∨Anc ops j i
theorem zipIdx_mem {ops:Array Oper} {j:Nat} {o:Oper} (h:ops[j]?=some o):(o,j)∈ops.toList.zipIdx:=by
 rw[List.mem_zipIdx_iff_getElem?];simpa using h
theorem order_of {P:Program} {ops:Array Oper} (h:orderOk P ops=true):Order P ops:=by
 have hm:=masks_sound (ops:=ops) ops.toList [] (by simp) (by simp)
 have ord:∀ i j,ordB (masks ops.toList []) i j=true→Anc ops i j∨Anc ops j i:=fun i j h=>by
  simp only [ordB,Bool.or_eq_true] at h
  exact h.imp (hm _ _) (hm _ _)
 simp only [orderOk,List.all_eq_true,Bool.and_eq_true] at h
 have pr:∀ {i j:Nat} {oi oj:Oper},ops[i]?=some oi→ops[j]?=some oj→i≠j→pairOk P ops (masks ops.toList []) i j oi oj=true:=fun hi hj hne=>by
  have:=(h _ (zipIdx_mem hj)).2 _ (zipIdx_mem hi)
  simp only [Bool.or_eq_true,beq_iff_eq] at this
  exact this.resolve_left hne
 refine⟨fun hj he hb=>?_,fun hi hj hne hd=>?_,fun {i j _ _ _} hi hj hne hd hl=>?_,fun {i j _ _} hi hj hne k1 k2=>?_,fun {i j _ _} hi hj hne k1 k2=>?_,fun hf i j oi oj hi hj k1 k2=>?_⟩
 ·have:=(h _ (zipIdx_mem hj)).1 _ (by simpa using he)
  simpa [hb] using this
 ·have:=pr hi hj hne
  simp only [pairOk,hd,Bool.and_eq_true,bne_iff_ne] at this
  exact this.1.1.1
 ·have:=pr hi hj hne
  simp only [pairOk,hd,Bool.and_eq_true,Bool.or_eq_true,Bool.not_eq_true',List.contains_iff_mem] at this
  rcases this.1.1.2 with h1 | h1
  ·exact absurd hl (by simpa using h1)
  ·exact ord _ _ h1
 ·have:=pr hi hj hne
  simp only [pairOk,Bool.and_eq_true,Bool.or_eq_true] at this
  rcases this.1.2 with h1 | h1
  ·simp [k1,k2] at h1
  ·exact ord _ _ h1
 ·have:=pr hi hj hne
  simp only [pairOk,Bool.and_eq_true,Bool.or_eq_true] at this
  rcases this.2 with h1 | h1
  ·simp [k1,k2] at h1
  ·exact ord _ _ h1
 ·simp only [floaty,List.any_eq_false] at hf
  have:=hf _ (zipIdx_mem hj)
  simp only [k2,beq_self_eq_true,Bool.true_and,Bool.not_eq_true,List.any_eq_false] at this
  have:=this _ (zipIdx_mem hi)
  simp only [k1,beq_self_eq_true,Bool.true_and,Bool.not_eq_true',Bool.not_eq_false] at this
  exact ord _ _ (by simpa using this)
theorem Order.lt {P:Program} {ops:Array Oper} (h:Order P ops) {i j:Nat} (ha:Anc ops i j):i<j:=by
 induction ha with
 | edge ho he hb=>exact h.less ho he hb
 | trans _ _ ih1 ih2=>omega
end
section
open Go
def Glob (G:Nat) (ρ:Nat→Option Loc):Prop:=∀ g,g<G→At ρ g g
def ER (ρ:Nat→Option Loc) (e:Env) (a:Act):Prop:=∀ t,VR ρ (e t) (a.tmps.getD t undef)
def operandOk (G:Nat):Operand→Bool
 | .const v=>flat v
 | .global g=>decide (g<G)
 | _=>true
def operOk (n G:Nat) (o:Oper):Bool:=(match o.dst with | some d=>decide (d<n) | none=>true) && o.op.operands.toList.all (operandOk G)
def opsOk (n G:Nat) (ops:Array Oper):Bool:=ops.toList.all (operOk n G)
theorem eval_VR {ρ:Nat→Option Loc} {G:Nat} {e:Env} {a:Act} (hG:Glob G ρ) {x:Operand} (hx:operandOk G x=true) (h:∀ t,x=.tmp t→VR ρ (e t) (a.tmps.getD t undef)):VR ρ (e.eval x) (a.eval x):=by
 cases x with
 | tmp t=>exact h t rfl
 | const v=>exact flat_VR ρ hx
 | global g=>exact .ptr _ _ (hG g (by simpa [operandOk] using hx)) rfl rfl
 | func f=>exact .func _ _ _ _ _ rfl rfl (fun i v v' h=>by simp at h) (fun i v v' h=>by simp at h)
theorem opsOk_mem {n G:Nat} {ops:Array Oper} (h:opsOk n G ops=true) {i:Nat} {o:Oper} (hi:ops[i]?=some o):(∀ d,o.dst=some d→d<n)∧∀ x∈o.op.operands,operandOk G x=true:=by
 have:=List.all_eq_true.1 h o (by simpa using Array.mem_of_getElem? hi)
 simp only [operOk,Bool.and_eq_true] at this
 refine⟨fun d hd=>by have h1:=this.1;rw[hd] at h1;simpa using h1,fun x hx=>List.all_eq_true.1 this.2 x (by simpa using hx)⟩
theorem put_ER {ρ:Nat→Option Loc} {e:Env} {a:Act} {v v':Value} {dst:Option Tmp} (h:ER ρ e a) (hv:VR ρ v v') (hd:∀ d,dst=some d→d<a.tmps.size):ER ρ (e.put dst v) (a.put dst v'):=by
 intro t
 cases dst with
 | none=>exact h t
 | some d=>
  have hdl:=hd d rfl
  simp only [Env.put,Act.put]
  by_cases e:t=d
  ·subst e
   rw[if_pos rfl]
   simp [hdl]
   exact hv
  ·rw[if_neg e]
   have:=h t
   simp only [Array.getD_eq_getD_getElem?] at this ⊢
   rw[Array.getElem?_setIfInBounds_ne (fun h=>e h.symm)]
   exact this
theorem put_size (a:Act) (dst:Option Tmp) (v:Value):(a.put dst v).tmps.size=a.tmps.size:=by cases dst<;>simp [Act.put]
theorem put_defers' (a:Act) (dst:Option Tmp) (v:Value):(a.put dst v).defers=a.defers:=by cases dst<;>rfl
section
variable {P:Program} {G:Nat}
def OpSim (P:Program) (G:Nat) (o:Oper) (e:Env) (S:Mem) (v:Value) (S1:Mem):Prop:=
 ∀ (ρ:Nat→Option Loc) (a:Act) (w:World) (K:Act→World→Prop) (Q:Exit→Act→World→Prop),(∀ x∈o.op.operands,VR ρ (e.eval x) (a.eval x))→SR ρ S w→Glob G ρ →
  (∀ v' ρ' w',VR ρ' v v'→SR ρ' S1 w'→Stp ρ S w ρ' S1 w'→K (a.put o.dst v') w')→o.wp P a w K Q
theorem wp_value {o:Oper} {a:Act} {w w':World} {v:Value} {K:Act→World→Prop} {Q:Exit→Act→World→Prop} (h:(execOp a.eval o).run P w=.ok (.value v) w') (hK:K (a.put o.dst v) w'):o.wp P a w K Q:=by
 unfold Oper.wp;rw[h];exact hK
theorem wp_skip' {o:Oper} {a:Act} {w w':World} {K:Act→World→Prop} {Q:Exit→Act→World→Prop} (h:(execOp a.eval o).run P w=.ok .skip w') (hK:K (a.put o.dst undef) w'):o.wp P a w K Q:=by
 unfold Oper.wp;rw[h];exact hK
theorem sim_pure {o:Oper} {e:Env} {v:Value} (h:PSim P o e.eval v) (S:Mem):OpSim P G o e S v S:=fun ρ a w K Q hv hS hG hK=>by
 obtain⟨v',h1,h2⟩:=h ρ a.eval hv
 exact wp_value (h2 w) (hK v' ρ w h1 hS (Stp.refl _ _ _))
theorem sim_load {o:Oper} {e:Env} {v:Value} {S:Mem} (h:aload P o e.eval S=some v):OpSim P G o e S v S:=fun ρ a w K Q hv hS hG hK=>by
 obtain⟨v',h1,h2⟩:=aload_sound hS h hv
 exact wp_value h2 (hK v' ρ w h1 hS (Stp.refl _ _ _))
theorem sim_eff {o:Oper} {e:Env} {v:Value} {S S1:Mem} (h:aeff P o e.eval S=some (v,S1)):OpSim P G o e S v S1:=fun ρ a w K Q hv hS hG hK=>by
 obtain⟨v',ρ',w',h1,h2,h3,h4 | ⟨h4,h5⟩⟩:=aeff_sound hS h hv
 ·exact wp_value h4 (hK v' ρ' w' h1 h2 h3)
 ·exact wp_skip' h4 (h5 ▸ hK v' ρ' w' h1 h2 h3)
def isAlloc (o:Oper):Bool:=match o.op with | .alloc _=>true | _=>false
inductive Tr (P:Program) (G:Nat) (fl:Bool) (ops:Array Oper):List Nat→Env→Mem→Env→Mem→Prop
 | nil (e S):Tr P G fl ops [] e S e S
 | skip {i is o e S e' S'} (ho:ops[i]?=some o) (hw:awanted ops o e=false) (h:Tr P G fl ops is (e.put o.dst undef) S e' S'):Tr P G fl ops (i :: is) e S e' S'
 | pure {i is o e S v e' S'} (ho:ops[i]?=some o) (hw:awanted ops o e=true) (hp:PSim P o e.eval v) (hna:isAlloc o=false) (h:Tr P G fl ops is (e.put o.dst v) S e' S'):Tr P G fl ops (i :: is) e S e' S'
 | load {i is o e S v e' S'} (ho:ops[i]?=some o) (hw:awanted ops o e=true) (hp:aload P o e.eval S=some v) (h:Tr P G fl ops is (e.put o.dst v) S e' S'):Tr P G fl ops (i :: is) e S e' S'
 | eff {i is o e S v S1 e' S'} (ho:ops[i]?=some o) (hw:awanted ops o e=true) (hp:OpSim P G o e S v S1) (hk:2≤opKind P o) (hc:opKind P o=2∨(opKind P o=4∧fl=true)→Cons S S1)
   (hal:∀ t,o.op=.alloc t→aeff P o e.eval S=some (v,S1)) (h:Tr P G fl ops is (e.put o.dst v) S1 e' S'):Tr P G fl ops (i :: is) e S e' S'
theorem wanted_eq {ρ:Nat→Option Loc} {ops:Array Oper} {o:Oper} {e:Env} {a:Act} {n:Nat} (hn:a.tmps.size=n) (hok:opsOk n G ops=true)
  (h:∀ t,t∈o.looksAt ops→VR ρ (e t) (a.tmps.getD t undef)):Region.wanted o (yielded ops a.tmps)=awanted ops o e:=by
 unfold Region.wanted awanted
 cases hg:o.guard with
 | none=>rfl
 | some q=>
  obtain⟨j,want⟩:=q
  simp only [yielded]
  cases hj:(ops[j]?).bind (·.dst) with
  | none=>simp
  | some t=>
   rw[Option.bind_eq_some_iff] at hj
   obtain⟨oj,hoj,hd⟩:=hj
   have ht:t<a.tmps.size:=by rw[hn];exact(opsOk_mem hok hoj).1 t hd
   have hm:t∈o.looksAt ops:=by simp [Oper.looksAt,hg,hoj,hd]
   have hr:=h t hm
   have hget:a.tmps[t]?=some (a.tmps.getD t undef):=by simp [ht]
   simp only [Option.bind_some,hget]
   generalize a.tmps.getD t undef=u at hr
   generalize e t=z at hr
   cases hr<;>first | rfl | (cases want<;>rename_i b<;>cases b<;>rfl)
def Reach (G:Nat) (n:Nat) (ds:List Deferred) (ρ0:Nat→Option Loc) (S0:Mem) (w0:World) (e':Env) (S':Mem) (K:Act→World→Prop):Prop:=
 ∀ ρ' a' w',ER ρ' e' a'→SR ρ' S' w'→Stp ρ0 S0 w0 ρ' S' w'→a'.tmps.size=n→a'.defers=ds→K a' w'
theorem Tr.run {fl:Bool} {ops:Array Oper} {n:Nat} (hok:opsOk n G ops=true) {is:List Nat} {e e':Env} {S S':Mem} (h:Tr P G fl ops is e S e' S') {Q:Exit→Act→World→Prop} {ds:List Deferred}
  {ρ0:Nat→Option Loc} {S0:Mem} {w0:World} (hK:Reach G n ds ρ0 S0 w0 e' S' (Q .normal)):∀ (ρ:Nat→Option Loc) (a:Act) (w:World),ER ρ e a→SR ρ S w→Glob G ρ→Stp ρ0 S0 w0 ρ S w→a.tmps.size=n→a.defers=ds→wpOps P ops Q is a w:=by
 induction h with
 | nil e S=>intro ρ a w hE hS hG hst hn hd;exact hK ρ a w hE hS hst hn hd
 | skip ho hw _ ih=>
  intro ρ a w hE hS hG hst hn hd
  simp only [wpOps,ho]
  rw[wanted_eq hn hok (fun t _=>hE t),hw]
  simp only [Bool.false_eq_true,if_false]
  exact ih hK ρ _ w (put_ER hE (flat_VR ρ undef_flat) (fun d h=>by rw[hn];exact(opsOk_mem hok ho).1 d h)) hS hG hst (by rw[put_size];exact hn) (by rw[put_defers'];exact hd)
 | pure ho hw hp _ _ ih=>
  intro ρ a w hE hS hG hst hn hd
  simp only [wpOps,ho]
  rw[wanted_eq hn hok (fun t _=>hE t),hw]
  simp only [if_true]
  refine .inl (sim_pure (G:=G) hp _ ρ a w _ _ (fun x hx=>eval_VR hG ((opsOk_mem hok ho).2 x hx) (fun t _=>hE t)) hS hG (fun v' ρ' w' h1 h2 h3=>?_))
  exact ih hK ρ' _ w' (put_ER (fun t=>(hE t).mono h3.ext) h1 (fun d h=>by rw[hn];exact(opsOk_mem hok ho).1 d h)) h2 (fun g hg=>(hG g hg).mono h3.ext) (hst.trans h3) (by rw[put_size];exact hn) (by rw[put_defers'];exact hd)
 | load ho hw hp _ ih=>
  intro ρ a w hE hS hG hst hn hd
  simp only [wpOps,ho]
  rw[wanted_eq hn hok (fun t _=>hE t),hw]
  simp only [if_true]
  refine .inl (sim_load (G:=G) hp ρ a w _ _ (fun x hx=>eval_VR hG ((opsOk_mem hok ho).2 x hx) (fun t _=>hE t)) hS hG (fun v' ρ' w' h1 h2 h3=>?_))
  exact ih hK ρ' _ w' (put_ER (fun t=>(hE t).mono h3.ext) h1 (fun d h=>by rw[hn];exact(opsOk_mem hok ho).1 d h)) h2 (fun g hg=>(hG g hg).mono h3.ext) (hst.trans h3) (by rw[put_size];exact hn) (by rw[put_defers'];exact hd)
 | eff ho hw hp _ _ _ _ ih=>
  intro ρ a w hE hS hG hst hn hd
  simp only [wpOps,ho]
  rw[wanted_eq hn hok (fun t _=>hE t),hw]
  simp only [if_true]
  refine .inl (hp ρ a w _ _ (fun x hx=>eval_VR hG ((opsOk_mem hok ho).2 x hx) (fun t _=>hE t)) hS hG (fun v' ρ' w' h1 h2 h3=>?_))
  exact ih hK ρ' _ w' (put_ER (fun t=>(hE t).mono h3.ext) h1 (fun d h=>by rw[hn];exact(opsOk_mem hok ho).1 d h)) h2 (fun g hg=>(hG g hg).mono h3.ext) (hst.trans h3) (by rw[put_size];exact hn) (by rw[put_defers'];exact hd)
def Fact (P:Program) (G:Nat) (fl:Bool) (ops:Array Oper) (E:Nat→Env) (M:Nat→Mem) (V:Nat→Value) (j:Nat) (o:Oper):Prop:=
 E (j+1)=(E j).put o.dst (V j)∧((awanted ops o (E j)=false∧V j=undef∧M (j+1)=M j)∨(awanted ops o (E j)=true ∧
  ((PSim P o (E j).eval (V j)∧M (j+1)=M j)∨(aload P o (E j).eval (M j)=some (V j)∧M (j+1)=M j) ∨
   (OpSim P G o (E j) (M j) (V j) (M (j+1))∧2≤opKind P o∧(opKind P o=2∨(opKind P o=4∧fl=true)→Cons (M j) (M (j+1)))))))
theorem Tr.facts {fl:Bool} {ops:Array Oper} {is:List Nat} {e e':Env} {S S':Mem} (h:Tr P G fl ops is e S e' S'):∀ k m,is=List.range' k m→∃ (E:Nat→Env) (M:Nat→Mem) (V:Nat→Value),
  E k=e∧M k=S∧E (k+m)=e'∧M (k+m)=S'∧∀ j,k≤j→j<k+m→∃ o,ops[j]?=some o∧Fact P G fl ops E M V j o:=by
 have step:∀ {i:Nat} {is:List Nat} {e e1 e':Env} {S S1 S':Mem} {v:Value} {o:Oper},ops[i]?=some o→(∀ (E:Nat→Env) (M:Nat→Mem) (V:Nat→Value),E i=e→M i=S→E (i+1)=e1→M (i+1)=S1→V i=v→Fact P G fl ops E M V i o) →
   (∀ k m,is=List.range' k m→∃ (E:Nat→Env) (M:Nat→Mem) (V:Nat→Value),E k=e1∧M k=S1∧E (k+m)=e'∧M (k+m)=S'∧∀ j,k≤j→j<k+m→∃ o,ops[j]?=some o∧Fact P G fl ops E M V j o) →
   ∀ k m,i :: is=List.range' k m→∃ (E:Nat→Env) (M:Nat→Mem) (V:Nat→Value),E k=e∧M k=S∧E (k+m)=e'∧M (k+m)=S'∧∀ j,k≤j→j<k+m→∃ o,ops[j]?=some o∧Fact P G fl ops E M V j o:=by
  intro i is e e1 e' S S1 S' v o ho hf ih k m hk
  cases m with
  | zero=>simp at hk
  | succ m=>
   rw[List.range'_succ] at hk
   injection hk with hk1 hk2
   subst hk1
   obtain⟨E,M,V,h1,h2,h3,h4,h5⟩:=ih (i+1) m hk2
   have e0:∀ (α:Type) (f:Nat→α) (x:α),(fun j=>if j=i then x else f j) i=x:=fun α f x=>if_pos rfl
   have e9:∀ (α:Type) (f:Nat→α) (x:α) (j:Nat),i<j→(fun j=>if j=i then x else f j) j=f j:=fun α f x j hj=>if_neg (by omega)
   refine⟨fun j=>if j=i then e else E j,fun j=>if j=i then S else M j,fun j=>if j=i then v else V j,e0 _ _ _,e0 _ _ _,?_,?_,fun j hj1 hj2=>?_⟩
   ·rw[e9 _ _ _ _ (by omega)];rw[← h3];congr 1;omega
   ·rw[e9 _ _ _ _ (by omega)];rw[← h4];congr 1;omega
   ·by_cases hji:j=i
    ·subst hji
     exact⟨o,ho,hf _ _ _ (e0 _ _ _) (e0 _ _ _) ((e9 _ _ _ _ (by omega)).trans h1) ((e9 _ _ _ _ (by omega)).trans h2) (e0 _ _ _)⟩
    ·obtain⟨oj,hoj,hfj⟩:=h5 j (by omega) (by omega)
     refine⟨oj,hoj,?_⟩
     unfold Fact at hfj ⊢
     rw[e9 _ _ _ j (by omega),e9 _ _ _ j (by omega),e9 _ _ _ j (by omega),e9 _ _ _ (j+1) (by omega),e9 _ _ _ (j+1) (by omega)]
     exact hfj
 induction h with
 | nil e S=>
  intro k m hk
  cases m with
  | zero=>exact⟨fun _=>e,fun _=>S,fun _=>undef,rfl,rfl,rfl,rfl,fun j h1 h2=>by omega⟩
  | succ m=>simp [List.range'_succ] at hk
 | skip ho hw _ ih=>exact step ho (fun E M V h1 h2 h3 h4 h5=>⟨by rw[h1,h3,h5],.inl ⟨by rw[h1];exact hw,h5,by rw[h2,h4]⟩⟩) ih
 | pure ho hw hp _ _ ih=>exact step ho (fun E M V h1 h2 h3 h4 h5=>⟨by rw[h1,h3,h5],.inr ⟨by rw[h1];exact hw,.inl ⟨by rw[h1,h5];exact hp,by rw[h2,h4]⟩⟩⟩) ih
 | load ho hw hp _ ih=>exact step ho (fun E M V h1 h2 h3 h4 h5=>⟨by rw[h1,h3,h5],.inr ⟨by rw[h1];exact hw,.inr (.inl ⟨by rw[h1,h2,h5];exact hp,by rw[h2,h4]⟩)⟩⟩) ih
 | eff ho hw hp hk hc _ _ ih=>exact step ho (fun E M V h1 h2 h3 h4 h5=>⟨by rw[h1,h3,h5],.inr ⟨by rw[h1];exact hw,.inr (.inr ⟨by rw[h1,h2,h4,h5];exact hp,hk,by rw[h2,h4];exact hc⟩)⟩⟩) ih
def FactA (P:Program) (G:Nat) (fl:Bool) (ops:Array Oper) (E:Nat→Env) (M:Nat→Mem) (V:Nat→Value) (j:Nat) (o:Oper):Prop:=
 Fact P G fl ops E M V j o∧∀ t,o.op=.alloc t→o.guard=none→World→aeff P o (E j).eval (M j)=some (V j,M (j+1))
theorem Tr.facts2 {fl:Bool} {ops:Array Oper} {is:List Nat} {e e':Env} {S S':Mem} (h:Tr P G fl ops is e S e' S'):∀ k m,is=List.range' k m→∃ (E:Nat→Env) (M:Nat→Mem) (V:Nat→Value),
  E k=e∧M k=S∧E (k+m)=e'∧M (k+m)=S'∧∀ j,k≤j→j<k+m→∃ o,ops[j]?=some o∧FactA P G fl ops E M V j o:=by
 have step:∀ {i:Nat} {is:List Nat} {e e1 e':Env} {S S1 S':Mem} {v:Value} {o:Oper},ops[i]?=some o→(∀ (E:Nat→Env) (M:Nat→Mem) (V:Nat→Value),E i=e→M i=S→E (i+1)=e1→M (i+1)=S1→V i=v→FactA P G fl ops E M V i o) →
   (∀ k m,is=List.range' k m→∃ (E:Nat→Env) (M:Nat→Mem) (V:Nat→Value),E k=e1∧M k=S1∧E (k+m)=e'∧M (k+m)=S'∧∀ j,k≤j→j<k+m→∃ o,ops[j]?=some o∧FactA P G fl ops E M V j o) →
   ∀ k m,i :: is=List.range' k m→∃ (E:Nat→Env) (M:Nat→Mem) (V:Nat→Value),E k=e∧M k=S∧E (k+m)=e'∧M (k+m)=S'∧∀ j,k≤j→j<k+m→∃ o,ops[j]?=some o∧FactA P G fl ops E M V j o:=by
  intro i is e e1 e' S S1 S' v o ho hf ih k m hk
  cases m with
  | zero=>simp at hk
  | succ m=>
   rw[List.range'_succ] at hk
   injection hk with hk1 hk2
   subst hk1
   obtain⟨E,M,V,h1,h2,h3,h4,h5⟩:=ih (i+1) m hk2
   have e0:∀ (α:Type) (f:Nat→α) (x:α),(fun j=>if j=i then x else f j) i=x:=fun α f x=>if_pos rfl
   have e9:∀ (α:Type) (f:Nat→α) (x:α) (j:Nat),i<j→(fun j=>if j=i then x else f j) j=f j:=fun α f x j hj=>if_neg (by omega)
   refine⟨fun j=>if j=i then e else E j,fun j=>if j=i then S else M j,fun j=>if j=i then v else V j,e0 _ _ _,e0 _ _ _,?_,?_,fun j hj1 hj2=>?_⟩
   ·rw[e9 _ _ _ _ (by omega)];rw[← h3];congr 1;omega
   ·rw[e9 _ _ _ _ (by omega)];rw[← h4];congr 1;omega
   ·by_cases hji:j=i
    ·subst hji
     exact⟨o,ho,hf _ _ _ (e0 _ _ _) (e0 _ _ _) ((e9 _ _ _ _ (by omega)).trans h1) ((e9 _ _ _ _ (by omega)).trans h2) (e0 _ _ _)⟩
    ·obtain⟨oj,hoj,hfj⟩:=h5 j (by omega) (by omega)
     refine⟨oj,hoj,?_⟩
     unfold FactA Fact at hfj ⊢
     rw[e9 _ _ _ j (by omega),e9 _ _ _ j (by omega),e9 _ _ _ j (by omega),e9 _ _ _ (j+1) (by omega),e9 _ _ _ (j+1) (by omega)]
     exact hfj
 induction h with
 | nil e S=>
  intro k m hk
  cases m with
  | zero=>exact⟨fun _=>e,fun _=>S,fun _=>undef,rfl,rfl,rfl,rfl,fun j h1 h2=>by omega⟩
  | succ m=>simp [List.range'_succ] at hk
 | skip ho hw _ ih=>exact step ho (fun E M V h1 h2 h3 h4 h5=>⟨⟨by rw[h1,h3,h5],.inl ⟨by rw[h1];exact hw,h5,by rw[h2,h4]⟩⟩,fun t ht hg _=>by simp [awanted,hg] at hw⟩) ih
 | pure ho hw hp hna _ ih=>exact step ho (fun E M V h1 h2 h3 h4 h5=>⟨⟨by rw[h1,h3,h5],.inr ⟨by rw[h1];exact hw,.inl ⟨by rw[h1,h5];exact hp,by rw[h2,h4]⟩⟩⟩,fun t ht _ _=>by simp [isAlloc,ht] at hna⟩) ih
 | load ho hw hp _ ih=>exact step ho (fun E M V h1 h2 h3 h4 h5=>⟨⟨by rw[h1,h3,h5],.inr ⟨by rw[h1];exact hw,.inr (.inl ⟨by rw[h1,h2,h5];exact hp,by rw[h2,h4]⟩)⟩⟩,fun t ht _ _=>by simp [aload,ht] at hp⟩) ih
 | eff ho hw hp hk hc hal _ ih=>exact step ho (fun E M V h1 h2 h3 h4 h5=>⟨⟨by rw[h1,h3,h5],.inr ⟨by rw[h1];exact hw,.inr (.inr ⟨by rw[h1,h2,h4,h5];exact hp,hk,by rw[h2,h4];exact hc⟩)⟩⟩,fun t ht _ _=>by rw[h1,h2,h4,h5];exact hal t ht⟩) ih
end
end
section
open Go
theorem count_set_true:∀ (l:List Bool) (i:Nat),l[i]?=some false→(l.set i true).count false+1=l.count false
 | [],i,h=>by simp at h
 | b :: l,0,h=>by simp at h;subst h;simp
 | b :: l,i+1,h=>by
  have:=count_set_true l i (by simpa using h)
  simp only [List.set_cons_succ,List.count_cons]
  omega
section
variable {P:Program} {G:Nat}
theorem aload_agree {o:Oper} {ev:Operand→Value} {S:Mem} {v:Value} (h:aload P o ev S=some v) :
  opKind P o=1∧∃ x∈o.op.operands,∃ b,(∀ ρ u,VR ρ (ev x) u→∃ c,At ρ b c)∧b<S.length∧∀ S2:Mem,S2[b]?=S[b]?→aload P o ev S2=some v:=by
 have cells:∀ (a:Addr) (n:Nat) (l:List Value),S.cellsAt a n=some l→a.block<S.length∧∀ S2:Mem,S2[a.block]?=S[a.block]?→S2.cellsAt a n=S.cellsAt a n:=by
  intro a n l hl
  refine⟨?_,fun S2 h2=>by simp only [Mem.cellsAt,Mem.row?,h2]⟩
  unfold Mem.cellsAt at hl
  split at hl
  ·rename_i x hx;exact row_live_lt (Mem.row?_some hx).1
  ·cases hl
 unfold aload at h
 split at h
 ·rename_i t x ho
  refine⟨by simp [opKind,ho],x,by simp [ho,Op.operands],?_⟩
  unfold aloadAt at h
  split at h
  ·rename_i a d i hx hd hi
   refine⟨a.block,fun ρ u hu=>?_,?_⟩
   ·rw[hx] at hu
    obtain⟨a',_,h1,_⟩:=hu.ptrInv
    exact⟨_,h1⟩
   ·split at h
    ·rename_i hag
     rw[Option.map_eq_some_iff] at h
     obtain⟨l,hl,rfl⟩:=h
     obtain⟨c1,c2⟩:=cells a _ l hl
     exact⟨c1,fun S2 h2=>by simp only [aload,ho,aloadAt,hx,hd,hi,hag,if_true,c2 S2 h2,hl,Option.map_some]⟩
    ·rename_i hag
     have h':=h
     rw[Option.bind_eq_some_iff] at h
     obtain⟨l,hl,h⟩:=h
     obtain⟨c1,c2⟩:=cells a _ l hl
     exact⟨c1,fun S2 h2=>by simp only [aload,ho,aloadAt,hx,hd,hi,hag,Bool.false_eq_true,if_false,c2 S2 h2,h']⟩
  ·cases h
 ·rename_i src dst x ho
  split at h
  ·rename_i a n c e hx hsr hds
   split at h
   ·rename_i hby
    have h':=h
    rw[Option.map_eq_some_iff] at h
    obtain⟨bs,hbs,rfl⟩:=h
    rw[Option.bind_eq_some_iff] at hbs
    obtain⟨l,hl,hbs⟩:=hbs
    obtain⟨c1,c2⟩:=cells a _ l hl
    refine⟨by simp [opKind,ho,hsr],x,by simp [ho,Op.operands],a.block,fun ρ u hu=>?_,c1,fun S2 h2=>?_⟩
    ·rw[hx] at hu
     obtain⟨a',c',rfl,h1,_⟩:=hu.slInv
     obtain⟨z,rfl,hz,_⟩:=h1 a rfl
     exact⟨_,hz⟩
    ·simp only [aload,ho,hx,hsr,hds,hby,if_true,c2 S2 h2,h']
   ·cases h
  ·cases h
 ·cases h
structure Inv (P:Program) (G:Nat) (ops:Array Oper) (e0:Env) (M:Nat→Mem) (V:Nat→Value) (ρ0:Nat→Option Loc) (S0:Mem) (w0:World) (n:Nat) (ds:List Deferred)
  (ρ:Nat→Option Loc) (m:Nat) (listed:Array Bool) (a:Act) (w:World):Prop where
 closed:∀ (j:Nat) (o:Oper) (x:Edge),ops[j]?=some o→listed.getD j false=true→x∈o.after→Region.binds .any x=true→listed.getD x.on false=true
 hit:∀ (k:Nat) (o:Oper) (t:Tmp),ops[k]?=some o→listed.getD k false=true→o.dst=some t→VR ρ (V k) (a.tmps.getD t undef)
 miss:∀ t,(∀ (k:Nat) (o:Oper),ops[k]?=some o→listed.getD k false=true→o.dst≠some t)→VR ρ (e0 t) (a.tmps.getD t undef)
 hm:m≤ops.size
 eff:∀ (k:Nat) (o:Oper),ops[k]?=some o→2≤opKind P o→(listed.getD k false=true↔k<m)
 sr:SR ρ (M m) w
 gl:Glob G ρ
 stp:Stp ρ0 S0 w0 ρ (M m) w
 size:a.tmps.size=n
 def_:a.defers=ds
 lsize:listed.size=ops.size
theorem Inv.anc {ops:Array Oper} {e0:Env} {M:Nat→Mem} {V:Nat→Value} {ρ0:Nat→Option Loc} {S0:Mem} {w0:World} {n:Nat} {ds:List Deferred} {ρ:Nat→Option Loc} {m:Nat} {listed:Array Bool} {a:Act} {w:World}
  (h:Inv P G ops e0 M V ρ0 S0 w0 n ds ρ m listed a w) {i j:Nat} (ha:Anc ops i j):listed.getD j false=true→listed.getD i false=true:=by
 induction ha with
 | edge ho he hb=>exact fun hj=>h.closed _ _ _ ho hj he hb
 | trans _ _ ih1 ih2=>exact fun hk=>ih1 (ih2 hk)
theorem Inv.ancReady {ops:Array Oper} {e0:Env} {M:Nat→Mem} {V:Nat→Value} {ρ0:Nat→Option Loc} {S0:Mem} {w0:World} {n:Nat} {ds:List Deferred} {ρ:Nat→Option Loc} {m:Nat} {listed:Array Bool} {a:Act} {w:World}
  (h:Inv P G ops e0 M V ρ0 S0 w0 n ds ρ m listed a w) {i j:Nat} {o:Oper} (ho:ops[j]?=some o) (hr:∀ x∈o.after,Region.binds .any x=true→listed.getD x.on false=true) (ha:Anc ops i j):listed.getD i false=true:=by
 induction ha with
 | edge ho' he hb=>rw[ho] at ho';cases ho';exact hr _ he hb
 | trans h1 h2 ih1 ih2=>exact h.anc h1 (ih2 ho)
set_option maxHeartbeats 1000000 in
theorem Tr.drawn {fl:Bool} {ops:Array Oper} {n:Nat} (hord:Order P ops) (hfl:fl=false→floaty P ops=false) (hok:opsOk n G ops=true) {e e':Env} {S S':Mem}
  (h:Tr P G fl ops (List.range ops.size) e S e' S') {Q:Exit→Act→World→Prop} {ds:List Deferred} {ρ0:Nat→Option Loc} {S0:Mem} {w0:World} (hK:Reach G n ds ρ0 S0 w0 e' S' (Q .normal))
  {ρ:Nat→Option Loc} {a:Act} {w:World} (hE:ER ρ e a) (hS:SR ρ S w) (hG:Glob G ρ) (hst:Stp ρ0 S0 w0 ρ S w) (hn:a.tmps.size=n) (hd:a.defers=ds) :
  wpAny P .any ops Q ops.size (Array.replicate ops.size false) a w:=by
 obtain⟨E,M,V,hE0,hM0,hEN,hMN,hfact⟩:=h.facts 0 ops.size (List.range_eq_range')
 rw[Nat.zero_add] at hEN hMN
 have fact:∀ {j:Nat} {o:Oper},ops[j]?=some o→Fact P G fl ops E M V j o:=fun {j o} hj=>by
  obtain⟨o',ho',hf⟩:=hfact j (Nat.zero_le _) (by have:=(Array.getElem?_eq_some_iff.1 hj).1;omega)
  rw[hj] at ho';cases ho';exact hf
 have lt:∀ {j:Nat} {o:Oper},ops[j]?=some o→j<ops.size:=fun hj=>(Array.getElem?_eq_some_iff.1 hj).1
 have getO:∀ {j:Nat},j<ops.size→∃ o,ops[j]?=some o:=fun hj=>⟨_,Array.getElem?_eq_getElem hj⟩
 have mconst1:∀ {j:Nat} {o:Oper},ops[j]?=some o→¬ 2≤opKind P o→M (j+1)=M j:=fun hj hk=>by
  rcases (fact hj).2 with ⟨_,_,h⟩ | ⟨_,⟨_,h⟩ | ⟨_,h⟩ | ⟨_,h,_⟩⟩
  ·exact h
  ·exact h
  ·exact h
  ·exact absurd h hk
 have mconst:∀ (d a:Nat),a+d≤ops.size→(∀ k o,a≤k→k<a+d→ops[k]?=some o→¬ 2≤opKind P o)→M (a+d)=M a:=by
  intro d
  induction d with
  | zero=>intro a _ _;rfl
  | succ d ih=>
   intro a ha hk
   obtain⟨o,ho⟩:=getO (j:=a+d) (by omega)
   have:=mconst1 ho (hk _ _ (by omega) (by omega) ho)
   rw[← Nat.add_assoc,this]
   exact ih a (by omega) (fun k o h1 h2=>hk k o h1 (by omega))
 have mcons:∀ (d a:Nat),a+d≤ops.size→(∀ k o,a≤k→k<a+d→ops[k]?=some o→2≤opKind P o→opKind P o=2∨(opKind P o=4∧fl=true))→Cons (M a) (M (a+d)):=by
  intro d
  induction d with
  | zero=>intro a _ _;exact Cons.refl _
  | succ d ih=>
   intro a ha hk
   obtain⟨o,ho⟩:=getO (j:=a+d) (by omega)
   refine(ih a (by omega) (fun k o h1 h2=>hk k o h1 (by omega))).trans ?_
   rw[← Nat.add_assoc]
   by_cases h2:2≤opKind P o
   ·rcases (fact ho).2 with ⟨_,_,h⟩ | ⟨_,⟨_,h⟩ | ⟨_,h⟩ | ⟨_,_,h⟩⟩
    ·rw[h];exact Cons.refl _
    ·rw[h];exact Cons.refl _
    ·rw[h];exact Cons.refl _
    ·exact h (hk _ _ (by omega) (by omega) ho h2)
   ·rw[mconst1 ho h2];exact Cons.refl _
 have slotMiss:∀ (j t:Nat),j≤ops.size→(∀ (k:Nat) (o:Oper),k<j→ops[k]?=some o→o.dst≠some t)→E j t=e t:=by
  intro j
  induction j with
  | zero=>intro t _ _;rw[hE0]
  | succ j ih=>
   intro t hj hk
   obtain⟨o,ho⟩:=getO (j:=j) (by omega)
   rw[(fact ho).1]
   have hne:=hk j o (by omega) ho
   have:(E j).put o.dst (V j) t=E j t:=by
    unfold Env.put
    split
    ·rename_i d hd'
     rw[if_neg (fun h=>hne (by rw[hd',h]))]
    ·rfl
   rw[this]
   exact ih t (by omega) (fun k o h1=>hk k o (by omega))
 have slotHit:∀ (j k t:Nat) (o:Oper),j≤ops.size→k<j→ops[k]?=some o→o.dst=some t→E j t=V k:=by
  intro j
  induction j with
  | zero=>intro k t o _ hk;omega
  | succ j ih=>
   intro k t o hj hk ho hdst
   obtain⟨oj,hoj⟩:=getO (j:=j) (by omega)
   rw[(fact hoj).1]
   by_cases hkj:k=j
   ·subst hkj
    rw[ho] at hoj;cases hoj
    simp [Env.put,hdst]
   ·have hne:=hord.uniq ho hoj hkj hdst
    have:(E j).put oj.dst (V j) t=E j t:=by
     unfold Env.put
     split
     ·rename_i d hd'
      rw[if_neg (fun h=>hne (by rw[hd',h]))]
     ·rfl
    rw[this]
    exact ih k t o (by omega) (by omega) ho hdst
 have main:∀ (fuel:Nat) (listed:Array Bool) (ρ:Nat→Option Loc) (m:Nat) (a:Act) (w:World),listed.toList.count false=fuel→Inv P G ops e M V ρ0 S0 w0 n ds ρ m listed a w→wpAny P .any ops Q fuel listed a w:=by
  intro fuel
  induction fuel with
  | zero=>
   intro listed ρ m a w hcount I
   have all:∀ k,k<ops.size→listed.getD k false=true:=fun k hk=>by
    rw[List.count_eq_zero] at hcount
    have hk':k<listed.size:=by rw[I.lsize];exact hk
    have hmem:listed[k]∈listed.toList:=by simp
    simp only [Array.getD_eq_getD_getElem?,Array.getElem?_eq_getElem hk',Option.getD_some]
    cases hb:listed[k] with
    | true=>rfl
    | false=>rw[hb] at hmem;exact absurd hmem hcount
   have hMm:M m=S':=by
    have:=mconst (ops.size - m) m (by have:=I.hm;omega) (fun k o h1 h2 ho hk=>by
     have:=(I.eff k o ho hk).1 (all k (lt ho));omega)
    rw[show m+(ops.size - m)=ops.size from by have:=I.hm;omega] at this
    rw[← this,hMN]
   refine⟨?_,hK ρ a w ?_ (hMm ▸ I.sr) (hMm ▸ I.stp) I.size I.def_⟩
   ·cases hr:Region.ready .any ops listed with
    | nil=>rfl
    | cons i r=>
     have hi:i∈Region.ready .any ops listed:=by rw[hr];simp
     obtain⟨h0,o,ho,_⟩:=mem_ready.1 hi
     have:=all i (lt ho)
     have hi':i<listed.size:=by rw[I.lsize];exact lt ho
     simp only [Array.getD_eq_getD_getElem?,Array.getElem?_eq_getElem hi',Option.getD_some] at h0 this
     rw[h0] at this;cases this
   ·intro t
    rw[← hEN]
    by_cases hex:∃ (k:Nat) (o:Oper),ops[k]?=some o∧o.dst=some t
    ·obtain⟨k,o,ho,hdst⟩:=hex
     rw[slotHit _ k t o (Nat.le_refl _) (lt ho) ho hdst]
     exact I.hit k o t ho (all k (lt ho)) hdst
    ·rw[slotMiss _ t (Nat.le_refl _) (fun k o _ ho hdst=>hex ⟨k,o,ho,hdst⟩)]
     exact I.miss t (fun k o ho _ hdst=>hex ⟨k,o,ho,hdst⟩)
  | succ fuel ih=>
   intro listed ρ m a w hcount I
   refine⟨fun hnil=>?_,fun i hi=>?_⟩
   ·-- somebody may always come up
    exfalso
    have hmem:false∈listed.toList:=by
     have:0<listed.toList.count false:=by omega
     exact List.count_pos_iff.1 this
    obtain⟨k,hk⟩:=List.mem_iff_getElem?.1 hmem
    have hleast:∀ k:Nat,listed[k]?=some false→∃ i,i∈Region.ready .any ops listed:=by
     intro k
     induction k using Nat.strongRecOn with
     | _ k ihk=>
      intro hk
      have hks:k<ops.size:=by rw[← I.lsize];exact(Array.getElem?_eq_some_iff.1 hk).1
      obtain⟨o,ho⟩:=getO hks
      by_cases hall:∀ x∈o.after,Region.binds .any x=true→listed.getD x.on false=true
      ·exact⟨k,mem_ready.2 ⟨by simp [hk],o,ho,hall⟩⟩
      ·simp only [Classical.not_forall] at hall
       obtain⟨x,hx,hb,hxl⟩:=hall
       have hlt:=hord.less ho hx hb
       refine ihk x.on hlt ?_
       have hxs:x.on<listed.size:=by rw[I.lsize];omega
       rw[Array.getElem?_eq_getElem hxs]
       simp only [Array.getD_eq_getD_getElem?,Array.getElem?_eq_getElem hxs,Option.getD_some] at hxl
       simpa using hxl
    obtain⟨i,hi⟩:=hleast k (by simpa using hk)
    rw[hnil] at hi;cases hi
   ·obtain⟨h0,o,ho,hall⟩:=mem_ready.1 hi
    have hisz:=lt ho
    have hil:i<listed.size:=by rw[I.lsize];exact hisz
    have hif:listed[i]?=some false:=by
     rw[Array.getElem?_eq_getElem hil]
     simp only [Array.getD_eq_getD_getElem?,Array.getElem?_eq_getElem hil,Option.getD_some] at h0
     rw[h0]
    have hin:¬ listed.getD i false=true:=by simp [hif]
    have hpre:∀ {k:Nat},Anc ops k i→listed.getD k false=true:=fun ha=>I.ancReady ho hall ha
    have hpost:∀ {k:Nat},Anc ops i k→¬ listed.getD k false=true:=fun ha hk=>hin (I.anc ha hk)
    have hlook:∀ t,t∈o.looksAt ops→VR ρ (E i t) (a.tmps.getD t undef):=by
     intro t ht
     by_cases hex:∃ (k:Nat) (ok:Oper),ops[k]?=some ok∧ok.dst=some t∧k≠i
     ·obtain⟨k,ok,hok',hdst,hne⟩:=hex
      rcases hord.slot hok' ho hne hdst ht with hA | hA
      ·rw[slotHit i k t ok (by omega) (hord.lt hA) hok' hdst]
       exact I.hit k ok t hok' (hpre hA) hdst
      ·have hki:=hord.lt hA
       rw[slotMiss i t (by omega) (fun q oq hq hoq hdq=>hord.uniq hoq hok' (by omega) hdq hdst)]
       refine I.miss t (fun q oq hoq hql hdq=>?_)
       by_cases hqk:q=k
       ·subst hqk;exact hpost hA hql
       ·exact hord.uniq hoq hok' hqk hdq hdst
     ·rw[slotMiss i t (by omega) (fun q oq hq hoq hdq=>hex ⟨q,oq,hoq,hdq,by omega⟩)]
      refine I.miss t (fun q oq hoq hql hdq=>hex ⟨q,oq,hoq,hdq,fun hqi=>?_⟩)
      subst hqi;exact hin hql
    have hopv:∀ x∈o.op.operands,VR ρ ((E i).eval x) (a.eval x):=fun x hx=>eval_VR I.gl ((opsOk_mem hok ho).2 x hx) (fun t ht=>hlook t (by
     subst ht
     simp only [Oper.looksAt,List.mem_append,List.mem_filterMap]
     exact .inl ⟨.tmp t,by simpa using hx,rfl⟩))
    have hwant:Region.wanted o (yielded ops a.tmps)=awanted ops o (E i):=wanted_eq I.size hok hlook
    have hdstlt:∀ d,o.dst=some d→d<a.tmps.size:=fun d h=>by rw[I.size];exact(opsOk_mem hok ho).1 d h
    have hcnt:(listed.setIfInBounds i true).toList.count false=fuel:=by
     have:=count_set_true listed.toList i (by simpa using hif)
     rw[Array.toList_setIfInBounds]
     omega
    have hset:∀ k,(listed.setIfInBounds i true).getD k false=true↔listed.getD k false=true∨k=i:=fun k=>by
     by_cases hki:i=k
     ·subst hki;simp [hil]
     ·rw[getD_set_ne false hki];constructor
      ·exact .inl
      ·rintro (h | h)
       ·exact h
       ·exact absurd h.symm hki
    have go:∀ (v':Value) (ρ':Nat→Option Loc) (m':Nat) (w':World),VR ρ' (V i) v'→m'≤ops.size→SR ρ' (M m') w'→Sub ρ ρ'→Stp ρ0 S0 w0 ρ' (M m') w' →
      (∀ (k:Nat) (ok:Oper),ops[k]?=some ok→2≤opKind P ok→((listed.getD k false=true∨k=i)↔k<m'))→wpAny P .any ops Q fuel (listed.setIfInBounds i true) (a.put o.dst v') w':=by
     intro v' ρ' m' w' hv hm' hs hsub hstp heff
     refine ih _ ρ' m' _ w' hcnt ⟨fun j oj x hoj hjl hx hb=>?_,fun k ok t hok' hkl hdst=>?_,fun t hmiss=>?_,hm',fun k ok hok' hk=>?_,hs,fun g hg=>(I.gl g hg).mono hsub,hstp,by rw[put_size];exact I.size,by rw[put_defers'];exact I.def_,by simpa using I.lsize⟩
     ·rw[hset] at hjl ⊢
      rcases hjl with hjl | rfl
      ·exact .inl (I.closed j oj x hoj hjl hx hb)
      ·rw[ho] at hoj;cases hoj;exact .inl (hall x hx hb)
     ·by_cases hki:k=i
      ·subst hki
       rw[ho] at hok';cases hok'
       have hdl:=hdstlt t hdst
       simp [Act.put,hdst,hdl]
       exact hv
      ·rw[hset] at hkl
       have:=(I.hit k ok t hok' (hkl.resolve_right hki) hdst).mono hsub
       have hne:=hord.uniq hok' ho hki hdst
       rw[show (a.put o.dst v').tmps.getD t undef=a.tmps.getD t undef from ?_]
       ·exact this
       ·cases hd':o.dst with
        | none=>rfl
        | some d=>
         simp only [Act.put,Array.getD_eq_getD_getElem?]
         rw[Array.getElem?_setIfInBounds_ne (fun h=>hne (by rw[hd',h]))]
     ·have h1:o.dst≠some t:=hmiss i o ho ((hset i).2 (.inr rfl))
      have:=(I.miss t (fun k ok hok' hkl=>hmiss k ok hok' ((hset k).2 (.inl hkl)))).mono hsub
      rw[show (a.put o.dst v').tmps.getD t undef=a.tmps.getD t undef from ?_]
      ·exact this
      ·cases hd':o.dst with
       | none=>rfl
       | some d=>
        simp only [Act.put,Array.getD_eq_getD_getElem?]
        rw[Array.getElem?_setIfInBounds_ne (fun h=>h1 (by rw[hd',h]))]
     ·rw[hset];exact heff k ok hok' hk
    have hact:2≤opKind P o→M m=M i∧∀ (k:Nat) (ok:Oper),ops[k]?=some ok→2≤opKind P ok→((listed.getD k false=true∨k=i)↔k<i+1):=by
     intro hk2
     have hmi:m≤i:=by
      rcases Nat.lt_or_ge i m with h9 | h9
      ·exact absurd ((I.eff i o ho hk2).2 h9) hin
      ·exact h9
     refine⟨?_,fun k ok hok' hk=>?_⟩
     ·have:=mconst (i - m) m (by omega) (fun k ok h1 h2 hok' hk=>by
       rcases hord.effs hok' ho (by omega) hk hk2 with hA | hA
       ·have:=(I.eff k ok hok' hk).1 (hpre hA);omega
       ·have:=hord.lt hA;omega)
      rw[show m+(i - m)=i from by omega] at this
      exact this.symm
     ·by_cases hki:k=i
      ·subst hki;exact⟨fun _=>by omega,fun _=>.inr rfl⟩
      ·rcases hord.effs hok' ho hki hk hk2 with hA | hA
       ·have:=hord.lt hA
        exact⟨fun _=>by omega,fun _=>.inl (hpre hA)⟩
       ·have:=hord.lt hA
        exact⟨fun hh=>absurd (hh.resolve_right hki) (hpost hA),fun _=>by omega⟩
    have hquiet:¬ 2≤opKind P o→∀ (k:Nat) (ok:Oper),ops[k]?=some ok→2≤opKind P ok→((listed.getD k false=true∨k=i)↔k<m):=fun hk k ok hok' hk'=>by
     rw[← I.eff k ok hok' hk']
     exact⟨fun hh=>hh.resolve_right (fun e=>by subst e;rw[ho] at hok';cases hok';exact hk hk'),.inl⟩
    have same:∀ (v':Value),VR ρ (V i) v'→M (i+1)=M i→wpAny P .any ops Q fuel (listed.setIfInBounds i true) (a.put o.dst v') w:=fun v' hv hMi=>by
     by_cases hk2:2≤opKind P o
     ·obtain⟨h1,h2⟩:=hact hk2
      exact go v' ρ (i+1) w hv (by omega) (by rw[hMi,← h1];exact I.sr) (Sub.refl _) (by rw[hMi,← h1];exact I.stp) h2
     ·exact go v' ρ m w hv I.hm I.sr (Sub.refl _) I.stp (hquiet hk2)
    unfold wpOp
    simp only [ho]
    rw[hwant]
    rcases (fact ho).2 with ⟨hw,hV,hMi⟩ | ⟨hw,⟨hp,hMi⟩ | ⟨hp,hMi⟩ | ⟨hp,hk2,_⟩⟩
    ·rw[hw]
     simp only [Bool.false_eq_true,if_false]
     exact same undef (by rw[hV];exact flat_VR ρ undef_flat) hMi
    ·rw[hw]
     simp only [if_true]
     obtain⟨v',hv',hrun⟩:=hp ρ a.eval hopv
     exact .inl (wp_value (hrun w) (same v' hv' hMi))
    ·rw[hw]
     simp only [if_true]
     obtain⟨hk1,x,hx,b,hb,hbl,hagree⟩:=aload_agree hp
     have hbm:b<(M m).length:=by
      obtain⟨c,L,hL,_⟩:=hb ρ _ (hopv x hx)
      exact(I.sr.dom b L hL).1
     have hun:∀ (k:Nat) (ok:Oper),ops[k]?=some ok→2≤opKind P ok→¬ (Anc ops k i∨Anc ops i k)→opKind P ok=2∨(opKind P ok=4∧fl=true):=fun k ok hok' hk hno=>by
      have hle:opKind P ok≤4:=by
       unfold opKind
       split<;>first | omega | (split<;>omega)
      have h3:opKind P ok≠3:=fun h3=>by
       refine hno (hord.wr hok' ho (fun e=>?_) h3 hk1)
       subst e;rw[ho] at hok';cases hok';omega
      by_cases h4:opKind P ok=4
      ·refine .inr ⟨h4,?_⟩
       cases hfl':fl with
       | true=>rfl
       | false=>exact absurd (hord.fl (hfl hfl') hok' ho h4 hk1) hno
      ·exact .inl (by omega)
     have hsame:(M m)[b]?=(M i)[b]?:=by
      rcases Nat.lt_or_ge i m with him | him
      ·have hc:=mcons (m - i) i (by have:=I.hm;omega) (fun k ok h1 h2 hok' hk=>by
        refine hun k ok hok' hk fun hA=>?_
        have hkl:=(I.eff k ok hok' hk).2 (by omega)
        rcases hA with hA | hA
        ·have:=hord.lt hA;omega
        ·exact hpost hA hkl)
       rw[show i+(m - i)=m from by omega] at hc
       exact hc b hbl
      ·have hc:=mcons (i - m) m (by omega) (fun k ok h1 h2 hok' hk=>by
        refine hun k ok hok' hk fun hA=>?_
        rcases hA with hA | hA
        ·have:=(I.eff k ok hok' hk).1 (hpre hA);omega
        ·have:=hord.lt hA;omega)
       rw[show m+(i - m)=i from by omega] at hc
       exact(hc b hbm).symm
     obtain⟨v',hv',hrun⟩:=aload_sound I.sr (hagree (M m) hsame) hopv
     exact .inl (wp_value hrun (same v' hv' hMi))
    ·rw[hw]
     simp only [if_true]
     obtain⟨h1,h2⟩:=hact hk2
     refine .inl (hp ρ a w _ _ hopv (h1 ▸ I.sr) I.gl fun v' ρ' w' q1 q2 q3=>?_)
     exact go v' ρ' (i+1) w' q1 (by omega) q2 q3.ext (Stp.trans (h1 ▸ I.stp) q3) h2
 refine main ops.size _ ρ 0 a w (by simp) ⟨fun j o x ho hl=>?_,fun k o t ho hl=>?_,fun t _=>hE t,Nat.zero_le _,fun k o ho _=>?_,by rw[hM0];exact hS,hG,by rw[hM0];exact hst,hn,hd,by simp⟩
 ·by_cases hj:j<ops.size
  ·simp [hj] at hl
  ·simp [hj] at hl
 ·by_cases hk:k<ops.size
  ·simp [hk] at hl
  ·simp [hk] at hl
 ·by_cases hk:k<ops.size
  ·simp [hk]
  ·simp [hk]
end
end
end Go.Proofs.YtbiigbicgfchiaaGreatDoor
