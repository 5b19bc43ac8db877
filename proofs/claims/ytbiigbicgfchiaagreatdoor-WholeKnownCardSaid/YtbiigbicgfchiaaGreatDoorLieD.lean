/- What several proofs share, part 4: a model of memory, contracts of functions. Conditions: none. -/
import Derived.Test.YtbiigbicgfchiaaGreatDoorLieA
import Derived.Test.YtbiigbicgfchiaaGreatDoorLieC
import Derived.Laws.Strings
import Derived.Test.YtbiigbicgfchiaaGreatDoorChecked
/- Rules for strings. Conditions: none. -/
set_option linter.unusedSimpArgs false
set_option linter.unusedVariables false
namespace Go.Proofs.YtbiigbicgfchiaaGreatDoor
open Go
section
variable {P:Program} {G:Nat} {Ext:FuncId→List Value→Mem→Outc→Mem→Prop} {e:Env} {S:Mem} {fl:Bool} {ops:Array Oper} {K:Kont}
variable {rest:List Oper} {dst:Option Tmp} {ty:TypeId} {pos:String} {af:Array Edge} {gd:Option (Nat × Bool)}
theorem apure_strix {t:TypeId} {x ix:Operand} {s:ByteArray} {k:IntKind} {i:Nat} {b:UInt8} {ev:Operand→Value} (hx:ev x=.string s) (hi:ev ix=.int k (i:Int)) (hb:s[i]?=some b) (hu:P.underlying t=some .string) :
  apure P ⟨dst,.index t x ix,ty,pos,af,gd⟩ ev=some (.int .u8 b.toNat):=by
 have h:aflat P ⟨dst,.index t x ix,ty,pos,af,gd⟩ ev=some (.int .u8 b.toNat):=by
  unfold aflat
  rw[if_pos (by simp [Op.operands,hx,hi,flat];exact⟨rfl,rfl⟩)]
  have:pureRun P (execOp ev ⟨dst,.index t x ix,ty,pos,af,gd⟩)=some (.value (.int .u8 b.toNat)):=by
   have h0:(0:Int)≤(i:Int):=by omega
   simp only [execOp,hx,hi,pureRun_bind,Instr.index,asIntOf,pureRun_pure,Option.bind_some,pureRun_underlying hu,h0,if_true,Int.toNat_natCast,hb]
  rw[this];simp [flat,flat1,scalar]
 simp only [apure,hx,hi,h]
theorem L.sx {t:TypeId} {x ix:Operand} {s:ByteArray} {k:IntKind} {i:Nat} {b:UInt8} (hx:e.eval x=.string s) (hi:e.eval ix=.int k (i:Int)) (hb:s[i]?=some b) (hu:P.underlying t=some .string)
  (hw:awanted ops ⟨dst,.index t x ix,ty,pos,af,gd⟩ e=true) (h:L P G Ext fl ops rest (e.put dst (.int .u8 b.toNat)) S K):L P G Ext fl ops (⟨dst,.index t x ix,ty,pos,af,gd⟩ :: rest) e S K:=
 L.pure hw (apure_strix hx hi hb hu) h
end
theorem apure_nil {P:Program} {t:TypeId} {x y:Operand} {a:Option Addr} {n c:Nat} {ev:Operand→Value} {yt:TypeId} {dst:Option Tmp} {ty:TypeId} {pos:String} {af:Array Edge} {gd:Option (Nat × Bool)} {e:TypeId} (hx:ev x=.slice a n c) (hy:ev y=.slice none 0 0) (hu:P.underlying t=some (.slice e)) (hc:a=none→c=0∧n=0) :
  apure P ⟨dst,.binOp .eql t x y yt,ty,pos,af,gd⟩ ev=some (.bool a.isNone):=by
 cases a with
 | none=>
  obtain⟨rfl,rfl⟩:=hc rfl
  simp only [apure]
  split
  ·rename_i v hv
   have h2:aflat P ⟨dst,.binOp .eql t x y yt,ty,pos,af,gd⟩ ev=some (.bool true):=by
    unfold aflat
    rw[if_pos (by simp [Op.operands,hx,hy,flat];rfl)]
    have:pureRun P (execOp ev ⟨dst,.binOp .eql t x y yt,ty,pos,af,gd⟩)=some (.value (.bool true)):=by
     have he:pureRun P (Op.equal t (.slice none 0 0) (.slice none 0 0))=some true:=by
      rw[equal_unf];unfold Op.equalIn
      rw[pureRun_bind,pureRun_underlying hu];rfl
     simp only [execOp,hx,hy,pureRun_bind]
     have hg:pureRun P (eqGuard .eql t x y (.slice none 0 0) (.slice none 0 0))=some ():=rfl
     have hb:binOp .eql t (.slice none 0 0) (.slice none 0 0)=(do pure (.bool (← Op.equal t (.slice none 0 0) (.slice none 0 0)))):=rfl
     simp only [hg,hb,pureRun_bind,he,Option.bind_some,pureRun_pure]
    rw[this];simp [flat,flat1,scalar]
   rw[h2] at hv;cases hv;rfl
  ·simp only [hx,hy,anil,anilB,hu,Option.isNone]
   rw[if_pos ⟨by decide,fun _=>by decide⟩];rfl
 | some a=>
  have h2:aflat P ⟨dst,.binOp .eql t x y yt,ty,pos,af,gd⟩ ev=none:=by
   unfold aflat
   rw[if_neg (by simp [Op.operands,hx,hy,flat,flat1,scalar])]
  simp only [apure,h2,hx,hy,anil,anilB,hu]
  rw[if_pos (by decide)];rfl
end Go.Proofs.YtbiigbicgfchiaaGreatDoor
set_option maxRecDepth 100000
namespace Go.Proofs.YtbiigbicgfchiaaGreatDoor
section
open Go
variable {G:Nat} {Ext:FuncId→List Value→Mem→Outc→Mem→Prop}
def WIn (S:Mem) (a:Option Addr) (c:Nat) (l:WL):Prop:=Slv S 1 (.slice a l.length c) l.length (wv l)∧l.length≤knownCap c∧(a=none→c=0)∧l.length<1099511627776
theorem WIn.cons {S S':Mem} {a:Option Addr} {c:Nat} {l:WL} (h:WIn S a c l) (k:Cons S S'):WIn S' a c l:=⟨h.1.cons k,h.2⟩
theorem aslice_to {size n c h:Nat} {a:Option Addr} {hv:Value} {kd:IntKind} (hh:hv=.int kd (h:Int)) (hc:h≤knownCap c) (ha:a=none→c=0):aslice size a n c none (some hv) none=some (.slice a h c):=by
 cases a with
 | some x=>
  subst hh
  rw[aslice_at (k:=0) (h:=h) (.inl ⟨rfl,rfl⟩) (.inr ⟨kd,rfl⟩) (Nat.zero_le _) hc]
  have e0:Addr.add x (0*size)=x:=by rw[Nat.zero_mul];rfl
  split
  ·unfold acut
   simp only [Option.map_some,e0,Nat.sub_zero,ite_self]
  ·rename_i hk
   dsimp only
   rw[if_pos (.inl rfl),e0,Nat.sub_zero]
   congr 2
   unfold knownCap;rw[if_neg hk];omega
 | none=>
  subst hh
  have hc0:=ha rfl
  subst hc0
  have h0:h=0:=by simpa [knownCap,UNK] using hc
  subst h0
  rfl
theorem Slv.cut0 {S:Mem} {a:Option Addr} {n c m:Nat} {l:List Value} (h:Slv S 1 (.slice a n c) n l) (hm:m≤n):Slv S 1 (.slice a m c) m (l.take m):=by
 obtain⟨h1,a2,c2,hv,h3⟩:=h
 cases hv
 refine⟨by rw[List.length_take];omega,a,c,rfl,?_⟩
 rcases h3 with h3 | ⟨b,o,r,rfl,q2,q3,q4,q5⟩
 ·exact .inl (by omega)
 ·refine .inr ⟨b,o,r,rfl,q2,by omega,?_,q5.imp id fun h=>?_⟩
  ·rw[← q4,List.take_take];congr 1;omega
  ·rw[List.all_eq_true] at h ⊢;exact fun x hx=>h x (List.mem_of_mem_take hx)
theorem WIn.form {S:Mem} {a:Option Addr} {c:Nat} {l:WL} (h:WIn S a c l):WIn S a c (fm l):=by
 have hl:(fm l).length≤l.length:=toW_len_le l
 refine⟨?_,by have:=h.2.1;omega,h.2.2.1,by have:=h.2.2.2;omega⟩
 have:=h.1.cut0 hl
 rwa [show (wv l).take (fm l).length=wv (fm l) by rw[wv,← List.map_take,toW_take];rfl] at this
theorem trim_C (a:Option Addr) (c:Nat) (l:WL) (S:Mem) (h:WIn S a c l):C Tryz.prog G Ext 88 [.slice a l.length c] S fun v S'=>v=.slice a (fm l).length c∧S'=S:=by
 refine C.fn Tryz.func88 rfl (by kernel_rfl) rfl ?_
 obtain⟨hs,hc,ha,hlen⟩:=h
 refine go ?_
 refine W.loop (fun j e S'=>∃ k:Nat,j=k∧k≤l.length∧S'=S∧e 0=.slice a k c∧∀ i,k≤i→i<l.length→l[i]?=some 0#64) l.length ⟨l.length,rfl,Nat.le_refl _,rfl,rfl,fun i h1 h2=>by omega⟩ ?_
 rintro k e S' ⟨_,rfl,hk,rfl,e0,hz⟩
 refine W.env e0 ?_
 have fin:(k=0∨l[k - 1]?≠some 0#64)→k=(fm l).length:=fun h=>by
  have:=take_canon hk hz h
  unfold fm
  rw[← this,List.length_take];omega
 refine go ?_
 cases hb:decide ((k:Int) > 0)
 ·have hk0:k=0:=by simp at hb;omega
  clear hb
  refine go ?_
  refine W.ite rfl (fun h=>?_) (fun h=>?_)
  ·cases h
  refine go ?_
  exact⟨.inr rfl,_,rfl,by rw[← fin (.inl hk0)];rfl,rfl⟩
 have hk0:0<k:=by simp at hb;omega
 clear hb
 refine go ?_
 have hkl:k - 1<l.length:=by omega
 have hget:l[k - 1]?=some l[k - 1]:=List.getElem?_eq_getElem hkl
 have hs':Slv S' 1 (.slice a k c) k ((wv l).take k):=hs.cut0 hk
 refine L.el hs' (k:=k - 1) (by rw[wrap64 (by omega) (by omega)];omega) (by rw[List.getElem?_take,if_pos (by omega)];exact wv_get hget) rfl rfl rfl rfl (fun _=>rfl) rfl (fun p=>?_)
 refine go ?_
 cases hz0:(l[k - 1]==0#64)
 ·have hne:l[k - 1]≠0#64:=by simpa using hz0
  have hv:((l[k - 1].toNat:Int)==0)=false:=by
   rw[beq_eq_false_iff_ne]
   intro e;exact hne (BitVec.eq_of_toNat_eq (by simpa using e))
  rw[hv]
  refine W.ite rfl (fun h=>?_) (fun h=>?_)
  ·cases h
  refine go ?_
  exact⟨.inr rfl,_,rfl,by rw[← fin (.inr (by rw[hget];simpa using hne))];rfl,rfl⟩
 ·have he:l[k - 1]=0#64:=by simpa using hz0
  rw[show ((l[k - 1].toNat:Int)==0)=true by rw[he];rfl]
  refine W.ite rfl (fun h=>?_) (fun h=>?_)
  rotate_left
  ·cases h
  refine go ?_
  refine L.is (.slice a (k - 1) c) ?_ rfl ?_
  ·rw[slice_at (a:=a) (n:=k) (c:=c) rfl rfl rfl (fun e=>by rw[ha e];decide)]
   refine aslice_to (kd:=.i64) ?_ (by omega) ha
   refine(force_eq rfl).trans ?_
   rw[wrap64 (by omega) (by omega)]
   congr 1;omega
  refine go ?_
  refine⟨k - 1,by omega,k - 1,rfl,by omega,rfl,rfl,fun i h1 h2=>?_⟩
  rcases Nat.eq_or_lt_of_le h1 with h3 | h3
  ·rw[← h3,hget,he]
  ·exact hz i (by omega) h2
def small (l:WL):Bool:=decide ((fm l).length≤128)
theorem small_len (l:WL):(decide (((fm l).length:Int) > 128))=!small l:=by
 unfold small
 by_cases h:(fm l).length≤128
 ·simp only [h,decide_true,Bool.not_true,decide_eq_false_iff_not]
  omega
 ·simp only [h,decide_false,Bool.not_false,decide_eq_true_eq]
  omega
structure WS where
 a:Option Addr
 c:Nat
 l:WL
def WS.v (w:WS):Value:=.slice w.a w.l.length w.c
theorem fit1_C (a:Option Addr) (c:Nat) (l:WL) (S:Mem) (h:WIn S a c l):C Tryz.prog G Ext 127 [.slice a l.length c] S fun v S'=>v=.bool (!small l)∧S'=S:=by
 refine C.fn Tryz.func127 rfl (by kernel_rfl) rfl (go ?_)
 refine L.cl (trim_C a c l S h) rfl rfl ?_
 rintro _ _ ⟨rfl,rfl⟩
 refine⟨nofun,go ?_⟩
 exact⟨.inr rfl,_,rfl,congrArg Value.bool (small_len l),rfl⟩
def bad1 (ws:List WS):Int:=match ws.findIdx? (fun w=>!small w.l) with
 | some i=>i
 | none=>-1
theorem index_C (v:Value) (ws:List WS) (S:Mem) (hv:Slv S 1 v ws.length (ws.map WS.v)) (hw:∀ w∈ws,WIn S w.a w.c w.l) (hn:ws.length<1000000) :
  C Tryz.prog G Ext 152 [v,.func (.func 127) #[] #[]] S fun v S'=>v=.int .i64 (bad1 ws)∧S'=S:=by
 obtain⟨_,a,c,rfl,_⟩:=id hv
 refine C.fn Tryz.func152 rfl (by kernel_rfl) rfl (go ?_)
 refine W.loop (fun j e S'=>∃ i:Nat,j=ws.length - i∧i≤ws.length∧S'=S∧e 0=.slice a ws.length c∧e 1=.func (.func 127) #[] #[]∧e 7=vi ws.length∧e 8=vi i∧∀ k w,k<i→ws[k]?=some w→small w.l=true) ws.length
  ⟨0,by omega,by omega,rfl,rfl,rfl,rfl,rfl,fun k w hk=>by omega⟩ ?_
 rintro j e S' ⟨i,rfl,hi,rfl,e0,e1,e7,e8,hs⟩
 refine W.env4 e0 e1 e7 e8 (go ?_)
 refine W.ite rfl (fun h=>?_) (fun h=>?_)
 ·have hin:i<ws.length:=by simp at h;omega
  obtain⟨w,hwi⟩:∃ w,ws[i]?=some w:=⟨_,List.getElem?_eq_getElem hin⟩
  clear h
  refine go ?_
  refine L.el hv rfl (show (ws.map WS.v)[i]?=some (.slice w.a w.l.length w.c) by rw[List.getElem?_map,hwi];rfl) rfl rfl rfl rfl (fun _=>rfl) rfl (fun p=>?_)
  refine L.cl (fit1_C w.a w.c w.l _ (hw w (List.mem_of_getElem? hwi))) rfl rfl ?_
  rintro _ _ ⟨rfl,rfl⟩
  refine⟨nofun,go ?_⟩
  refine W.ite rfl (fun h=>?_) (fun h=>?_)
  ·have hb:small w.l=false:=by simpa using h
   refine go ?_
   refine⟨.inr rfl,_,rfl,(force_eq rfl).trans ?_,rfl⟩
   have:ws.findIdx? (fun w=>!small w.l)=some i:=by
    rw[List.findIdx?_eq_some_iff_getElem]
    refine⟨hin,?_,fun j hj=>?_⟩
    ·have:ws[i]=w:=by rw[List.getElem?_eq_getElem hin] at hwi;simpa using hwi
     rw[this,hb];rfl
    ·have:=hs j ws[j] hj (List.getElem?_eq_getElem (by omega))
     simp [this]
   unfold bad1;rw[this]
  ·have hb:small w.l=true:=by simpa using h
   refine go ?_
   refine⟨ws.length - (i+1),by omega,i+1,rfl,by omega,rfl,rfl,rfl,rfl,?_,fun k w' hk hk'=>?_⟩
   ·refine(force_eq rfl).trans ?_
    rw[wrap64 (by omega) (by omega)];rfl
   ·rcases Nat.lt_or_eq_of_le (Nat.le_of_lt_succ hk) with h1 | rfl
    ·exact hs k w' h1 hk'
    ·rw[hwi] at hk';cases hk';exact hb
 ·have hin:i=ws.length:=by simp at h;omega
  subst hin
  refine go ?_
  refine⟨.inr rfl,_,rfl,(force_eq rfl).trans ?_,rfl⟩
  have:ws.findIdx? (fun w=>!small w.l)=none:=by
   rw[List.findIdx?_eq_none_iff]
   intro w hw'
   obtain⟨k,hk⟩:=List.getElem?_of_mem hw'
   have:=hs k w (List.getElem?_eq_some_iff.1 hk).1 hk
   simp [this]
  unfold bad1;rw[this]
theorem fit_C (v:Value) (ws:List WS) (S:Mem) (hv:Slv S 1 v ws.length (ws.map WS.v)) (hw:∀ w∈ws,WIn S w.a w.c w.l) (hn:ws.length<1000000) :
  C Tryz.prog G Ext 94 [v] S fun v S'=>v=.bool (ws.all fun w=>small w.l)∧S'=S:=by
 obtain⟨_,a,c,rfl,_⟩:=id hv
 refine C.fn Tryz.func94 rfl (by kernel_rfl) rfl (go ?_)
 refine L.cl (R:=fun v S'=>v=.bool (!ws.all fun w=>small w.l)∧S'=S) ?_ rfl rfl ?_
 ·refine C.fn Tryz.func126 rfl (by kernel_rfl) rfl (go ?_)
  refine L.cl (index_C _ ws S hv hw hn) rfl rfl ?_
  rintro _ _ ⟨rfl,rfl⟩
  refine⟨nofun,go ?_⟩
  refine⟨.inr rfl,_,rfl,(force_eq rfl).trans ?_,rfl⟩
  congr 1
  unfold bad1
  cases hf:ws.findIdx? (fun w=>!small w.l) with
  | none=>
   rw[List.findIdx?_eq_none_iff] at hf
   have:(ws.all fun w=>small w.l)=true:=by rw[List.all_eq_true];intro w hw';simpa using hf w hw'
   rw[this];rfl
  | some i=>
   rw[List.findIdx?_eq_some_iff_getElem] at hf
   obtain⟨h1,h2,_⟩:=hf
   have:(ws.all fun w=>small w.l)=false:=by
    rw[List.all_eq_false]
    exact⟨_,List.getElem_mem h1,by simpa using h2⟩
   rw[this]
   simp
 rintro _ _ ⟨rfl,rfl⟩
 refine⟨nofun,go ?_⟩
 refine⟨.inr rfl,_,rfl,(force_eq rfl).trans ?_,rfl⟩
 rw[Bool.not_not]
end
section
open Go
variable {G:Nat} {Ext:FuncId→List Value→Mem→Outc→Mem→Prop}
def WOwn (S:Mem) (N:Nat) (a:Option Addr) (c:Nat) (l:WL):Prop:=WIn S a c l∧∀ x,a=some x→x.off=0∧x.spot=none∧N≤x.block∧∃ r,S.row? x.block=some r∧r.ro=none∧r.cells.take l.length=wv l
theorem WOwn.cons {S S':Mem} {N:Nat} {a:Option Addr} {c:Nat} {l:WL} (h:WOwn S N a c l) (k:Cons S S'):WOwn S' N a c l:=
 ⟨h.1.cons k,fun x hx=>let ⟨h1,h2,h3,r,h4,h5⟩:=h.2 x hx;⟨h1,h2,h3,r,k.row' h4,h5⟩⟩
theorem WOwn.mono {S:Mem} {N M:Nat} {a:Option Addr} {c:Nat} {l:WL} (h:WOwn S N a c l) (k:M≤N):WOwn S M a c l:=
 ⟨h.1,fun x hx=>let ⟨h1,h2,h3,r,h4,h5⟩:=h.2 x hx;⟨h1,h2,by omega,r,h4,h5⟩⟩
theorem WOwn.form {S:Mem} {N:Nat} {a:Option Addr} {c:Nat} {l:WL} (h:WOwn S N a c l):WOwn S N a c (fm l):=by
 refine⟨h.1.form,fun x hx=>?_⟩
 obtain⟨h1,h2,h3,r,h4,h5,h6⟩:=h.2 x hx
 refine⟨h1,h2,h3,r,h4,h5,?_⟩
 have hl:(fm l).length≤l.length:=toW_len_le l
 have:(r.cells.take l.length).take (fm l).length=(wv l).take (fm l).length:=by rw[h6]
 rw[List.take_take,Nat.min_eq_left hl] at this
 rw[this,wv,← List.map_take,toW_take];rfl
theorem HdOk.wown {S:Mem} {N:Nat} {d:Hd} {l:WL} (h:HdOk S 57 d (wv l)) (hN:∀ b,d.a=some b→N≤b) (hl:l.length<1099511627776):WOwn S N (d.a.map fun b=>⟨b,0,none⟩) d.c l∧d.v=.slice (d.a.map fun b=>⟨b,0,none⟩) l.length d.c:=by
 have hn:=h.len
 rw[wv_len] at hn
 have hv:d.v=.slice (d.a.map fun b=>⟨b,0,none⟩) l.length d.c:=by unfold Hd.v;rw[hn]
 have hs:=h.slv
 rw[hv,← hn] at hs
 refine⟨⟨⟨hs,?_,?_,hl⟩,fun x hx=>?_⟩,hv⟩
 ·obtain⟨_,⟨_,h2,h3⟩ | ⟨b,r,_,_,_,_,_,⟨h3,h4⟩ | ⟨h3,_⟩⟩⟩:=h
  ·omega
  ·rw[h3,← hn];unfold knownCap;rw[if_pos (by omega)];exact Nat.le_refl _
  ·rw[h3,knownCap_unk];omega
 ·intro ha
  obtain⟨_,⟨_,h2,h3⟩ | ⟨b,r,h2,_⟩⟩:=h
  ·exact h3
  ·rw[h2] at ha;cases ha
 ·obtain⟨_,⟨h2,_⟩ | ⟨b,r,h2,h3,h4,h5,h6,_⟩⟩:=h
  ·rw[h2] at hx;cases hx
  ·rw[h2] at hx;cases hx
   exact⟨rfl,rfl,hN b h2,r,h3,h4,by rw[hn];exact h6⟩
def RetW (S S':Mem) (d:Hd) (l:WL):Prop:=Cons S S'∧l.length<1099511627776∧HdOk S' 57 d (wv l)∧∀ b,d.a=some b→S.length≤b
def Hd0:Hd:=⟨none,0,0⟩
theorem RetW.nil {S S':Mem} (k:Cons S S'):RetW S S' Hd0 []:=⟨k,by decide,HdOk.nil _ _,nofun⟩
theorem RetW.pre {S S1 S':Mem} {d:Hd} {l:WL} (k:Cons S S1) (h:RetW S1 S' d l):RetW S S' d l:=by
 obtain⟨h1,h2,h4,h5⟩:=h
 exact⟨k.trans h1,h2,h4,fun b e=>Nat.le_trans k.len (h5 b e)⟩
theorem RetW.post {S S1 S':Mem} {d:Hd} {l:WL} (h:RetW S S1 d l) (k:Cons S1 S'):RetW S S' d l:=by
 obtain⟨h1,h2,h4,h5⟩:=h
 exact⟨h1.trans k,h2,h4.cons k,h5⟩
def Hd.ad (d:Hd):Option Addr:=d.a.map fun b=>⟨b,0,none⟩
theorem RetW.own {S S':Mem} {d:Hd} {l:WL} (h:RetW S S' d l):WOwn S' S.length d.ad d.c l∧d.v=.slice d.ad l.length d.c:=h.2.2.1.wown h.2.2.2 h.2.1
theorem WOwn.clip {S0 S:Mem} {a:Option Addr} {c:Nat} {l:WL} (h:WOwn S S0.length a c l) (k:Cons S0 S):∃ d:Hd,.slice a l.length l.length=d.v∧RetW S0 S d l:=by
 cases a with
 | none=>
  have hn:l.length=0:=by have:=h.1.2.1;rw[h.1.2.2.1 rfl] at this;simpa [knownCap,UNK] using this
  have:l=[]:=List.length_eq_zero_iff.1 hn
  subst this
  exact⟨Hd0,rfl,RetW.nil k⟩
 | some x=>
  obtain⟨h1,h2,h3,r,h4,h5,h6⟩:=h.2 x rfl
  have hx:x=⟨x.block,0,none⟩:=by obtain⟨b,o,s⟩:=x;simp at h1 h2;subst h1;subst h2;rfl
  have hlt:=h.1.2.2.2
  refine⟨⟨some x.block,l.length,l.length⟩,by rw[hx];rfl,k,hlt,HdOk.full h4 h5 (wv_len l) h6 (by unfold UNK;omega),by rintro b ⟨⟩;exact h3⟩
theorem aslice_clip {size n c:Nat} {a:Option Addr} {hv mv:Value} {kd:IntKind} (hh:hv=.int kd (n:Int)) (hm:mv=.int kd (n:Int)) (hc:n≤knownCap c) (ha:a=none→c=0) (hn:n<UNK):aslice size a n c none (some hv) (some mv)=some (.slice a n n):=by
 subst hh;subst hm
 unfold aslice
 simp only [abound]
 rw[if_pos ⟨by omega,by omega⟩]
 simp only [Option.bind_some,Int.toNat_natCast]
 rw[if_pos ⟨by omega,by omega⟩]
 simp only [Option.bind_some,Int.toNat_natCast,hn,if_true]
 have hcut:acut size a 0 n n=.slice a n n:=by
  unfold acut
  simp only [Nat.sub_zero,Nat.zero_mul]
  congr 1
  split
  ·rfl
  ·cases a<;>rfl
 cases a with
 | some x=>exact congrArg some hcut
 | none=>
  have hc0:=ha rfl
  dsimp only
  rw[if_pos (by rw[hc0];decide)]
  exact congrArg some hcut
theorem clip_C (a:Option Addr) (c:Nat) (l:WL) (S:Mem) (h:WIn S a c l):C Tryz.prog G Ext 123 [.slice a l.length c] S fun v S'=>v=.slice a l.length l.length∧S'=S:=by
 refine C.fn Tryz.func123 rfl (by kernel_rfl) rfl (go ?_)
 refine L.is (.slice a l.length l.length) ?_ rfl ?_
 ·rw[slice_at (a:=a) (n:=l.length) (c:=c) rfl rfl rfl (fun e=>by rw[h.2.2.1 e];decide)]
  exact aslice_clip (kd:=.i64) rfl rfl h.2.1 h.2.2.1 (by have:=h.2.2.2;unfold UNK;omega)
 refine go ?_
 exact⟨.inr rfl,_,rfl,rfl,rfl⟩
def toldL (l:WL):WL:=if small l then fm l else []
def toldE (l:WL):Int:=if small l then 0 else 3
theorem told_C (S0:Mem) (a:Option Addr) (c:Nat) (l:WL) (S:Mem) (hO:WOwn S S0.length a c l) (k:Cons S0 S):C Tryz.prog G Ext 95 [.slice a l.length c] S fun v S'=>S'=S∧∃ d:Hd,v=.tuple #[d.v,.int .i64 (toldE l)]∧RetW S0 S d (toldL l):=by
 refine C.fn Tryz.func95 rfl (by kernel_rfl) rfl (go ?_)
 refine L.cl (trim_C a c l S hO.1) rfl rfl ?_
 rintro _ _ ⟨rfl,rfl⟩
 refine⟨nofun,go ?_⟩
 have hsm:=small_len l
 refine W.ite rfl (fun h=>?_) (fun h=>?_)
 ·have hs:small l=false:=by rw[hsm] at h;simpa using h
  refine go ?_
  exact⟨.inr rfl,_,rfl,rfl,Hd0,(by unfold toldE;rw[hs];rfl),by unfold toldL;rw[if_neg (by rw[hs];decide)];exact RetW.nil k⟩
 ·have hs:small l=true:=by rw[hsm] at h;simpa using h
  refine go ?_
  refine L.cl (clip_C a c (fm l) _ hO.form.1) rfl rfl ?_
  rintro _ _ ⟨rfl,rfl⟩
  refine⟨nofun,go ?_⟩
  obtain⟨d,hd,hR⟩:=hO.form.clip k
  refine⟨.inr rfl,_,rfl,rfl,d,(by rw[← hd];unfold toldE;rw[hs];rfl),?_⟩
  unfold toldL
  rw[if_pos hs]
  exact hR
theorem fm_fm (l:WL):fm (fm l)=fm l:=by unfold fm;rw[wnum_toW]
theorem small_fm (l:WL):small (fm l)=small l:=by unfold small;rw[fm_fm]
theorem told_fm (l:WL):toldL (fm l)=toldL l∧toldE (fm l)=toldE l:=by unfold toldL toldE;rw[small_fm,fm_fm];exact⟨rfl,rfl⟩
theorem clone_C (a:Option Addr) (c:Nat) (l:WL) (S:Mem) (hI:WIn S a c l):C Tryz.prog G Ext 104 [.slice a l.length c] S fun v S'=>∃ d:Hd,v=d.v∧RetW S S' d l:=by
 have hnil:a=none→c=0∧l.length=0:=fun e=>by
  have h1:=hI.2.2.1 e
  have h2:=hI.2.1
  rw[h1] at h2
  exact⟨h1,by simpa [knownCap,UNK] using h2⟩
 refine C.fn Tryz.func104 rfl (by kernel_rfl) rfl (go ?_)
 refine L.is (.bool a.isNone) (apure_nil (e:=57) rfl rfl rfl (fun e=>by exact hnil e)) rfl (go ?_)
 refine W.ite rfl (fun h=>?_) (fun h=>?_)
 ·have ha:a=none:=by cases a<;>simp at h ⊢
  have hl:l=[]:=List.length_eq_zero_iff.1 (hnil ha).2
  subst hl
  refine go ?_
  exact⟨.inr rfl,_,rfl,Hd0,rfl,RetW.nil (Cons.refl _)⟩
 ·clear h
  refine go ?_
  refine L.bs ([]:List Value) rfl rfl rfl rfl rfl rfl ?_
  have hr:Mem.row? (S++[newR [] 57]) S.length=some (newR [] 57):=row_push_new rfl
  have hc:Cons S (S++[newR [] 57]):=Cons.push _ _
  have h0:HdOk (S++[newR [] 57]) 57 ⟨some S.length,0,0⟩ []:=HdOk.full hr rfl rfl rfl (by decide)
  generalize S++[newR [] 57]=S1 at *
  refine go ?_
  refine L.appH (h:=⟨some S.length,0,0⟩) rfl h0 rfl rfl (hI.cons hc).1 (wv_one _) (by have:=hI.2.2.2;show 0+_≤_;omega) rfl rfl (fun h' S2 k1 k2 k3 k4=>go ?_)
  refine⟨.inr rfl,_,rfl,h',rfl,k4.cons0 hc (fun b hb=>by simp at hb;omega),hI.2.2.2,by simpa using k1,fun b e=>?_⟩
  rcases k3 with ⟨k3,_⟩ | ⟨b',k3,k5⟩
  ·rw[k3] at e;simp at e;omega
  ·rw[k3] at e;cases e
   have:=hc.len;omega
theorem norm_C (a:Option Addr) (c:Nat) (l:WL) (S:Mem) (hI:WIn S a c l):C Tryz.prog G Ext 72 [.slice a l.length c] S fun v S'=>∃ d:Hd,v=.tuple #[d.v,.int .i64 (toldE l)]∧RetW S S' d (toldL l):=by
 refine C.fn Tryz.func72 rfl (by kernel_rfl) rfl (go ?_)
 refine L.bs [WS.v ⟨a,c,l⟩] rfl rfl rfl rfl rfl rfl ?_
 have hc:Cons S (S++[newR [WS.v ⟨a,c,l⟩] 22]):=Cons.push _ _
 have hs:Slv (S++[newR [WS.v ⟨a,c,l⟩] 22]) 1 (.slice (some ⟨S.length,0,none⟩) 1 1) 1 ([WS.mk a c l].map WS.v):=Slv.all (row_push_new rfl) rfl rfl
 generalize S++[newR [WS.v ⟨a,c,l⟩] 22]=S1 at *
 refine L.cl (fit_C _ [⟨a,c,l⟩] S1 hs (fun w hw=>by simp at hw;subst hw;exact hI.cons hc) (by simp)) rfl rfl ?_
 rintro _ _ ⟨rfl,rfl⟩
 refine⟨nofun,go ?_⟩
 refine W.ite rfl (fun h=>?_) (fun h=>?_)
 ·have hs:small l=false:=by simpa using h
  refine go ?_
  exact⟨.inr rfl,_,rfl,Hd0,(by unfold toldE;rw[hs];rfl),by unfold toldL;rw[if_neg (by rw[hs];decide)];exact RetW.nil hc⟩
 ·have hs:small l=true:=by simpa using h
  rename Mem=>S1
  have hI1:=hI.cons hc
  refine go ?_
  refine L.cl (trim_C a c l _ hI1) rfl rfl ?_
  rintro _ _ ⟨rfl,rfl⟩
  refine⟨nofun,?_⟩
  refine L.cl (clone_C a c (fm l) _ hI1.form) rfl rfl ?_
  rintro _ S2 ⟨d,rfl,hR⟩
  refine⟨nofun,?_⟩
  obtain⟨hO,hv⟩:=hR.own
  refine L.cl (told_C _ d.ad d.c (fm l) S2 hO hR.1) rfl (by rw[← hv];rfl) ?_
  rintro _ _ ⟨rfl,d2,rfl,hR2⟩
  refine⟨nofun,go ?_⟩
  rw[(told_fm l).1] at hR2
  exact⟨.inr rfl,_,rfl,d2,by rw[(told_fm l).2];rfl,hR2.pre hc⟩
end
section
open Go
variable {G:Nat} {Ext:FuncId→List Value→Mem→Outc→Mem→Prop}
def LEN8:ByteArray:=⟨(([0,1]:List UInt8)++List.replicate 2 2++List.replicate 4 3++List.replicate 8 4++List.replicate 16 5++List.replicate 32 6++List.replicate 64 7++List.replicate 128 8).toArray⟩
theorem len8_tab {i:Nat} (h:i<256):LEN8[i]?=some (UInt8.ofNat (blen i))∧blen i<256:=by
 have:∀ i:Fin 256,LEN8[i.val]?=some (UInt8.ofNat (blen i.val))∧blen i.val<256:=by decide +kernel
 exact this ⟨i,h⟩
theorem blen_div {n k:Nat} (h:2^k≤n):blen n=k+blen (n / 2^k):=by
 have h1:n=n % 2^k+2^k*(n / 2^k):=by have:=Nat.div_add_mod n (2^k);omega
 have h2:n / 2^k≠0:=Nat.pos_iff_ne_zero.1 (Nat.div_pos h (Nat.pow_pos (by decide)))
 conv=>lhs;rw[h1]
 exact blen_shift (Nat.mod_lt _ (Nat.pow_pos (by decide))) h2
theorem fdiv_nat (n k:Nat):Int.fdiv (n:Int) (k:Int)=((n / k:Nat):Int):=by rw[Int.fdiv_eq_ediv_of_nonneg _ (by omega)];rfl
def LenAt (S:Mem) (n B:Nat):Xit→Env→Mem→Prop:=fun x e S'=>x=.nrm∧S'=S∧∃ m k:Nat,e 0=.int .u64 (m:Int)∧e 2=vi k∧m<B∧k≤64∧blen n=k+blen m
theorem len64_C (n:Nat) (hn:n<18446744073709551616) (S:Mem):C Tryz.prog G Ext 89 [.int .u64 (n:Int)] S fun v S'=>v=vi (blen n)∧S'=S:=by
 refine C.fn Tryz.func89 rfl (by kernel_rfl) rfl (go ?_)
 refine W.mono (R:=LenAt S n 4294967296) ?_ ?_
 ·refine W.ite rfl (fun h=>?_) (fun h=>?_)
  ·have hge:2^32≤n:=by
    have h1:=of_decide_eq_true h;have e:(2:Nat)^32=4294967296:=by decide
    rw[e];omega
   refine go ?_
   refine⟨rfl,rfl,n / 2^32,32,?_,rfl,?_,by decide,blen_div hge⟩
   ·exact(force_eq rfl).trans (congrArg (Value.int .u64) (fdiv_nat n (2^32)))
   ·exact Nat.div_lt_of_lt_mul (by
     have e:(2:Nat)^32=4294967296:=by decide
     rw[e];omega)
  ·have hlt:n<4294967296:=by have h1:=of_decide_eq_false h;omega
   refine go ?_
   exact⟨rfl,rfl,n,0,rfl,rfl,hlt,by decide,by omega⟩
 rintro _ e1 S1 ⟨rfl,rfl,m1,k1,e0,e2,hm1,hk1,hb1⟩
 refine W.env2 e0 e2 (go ?_)
 refine W.mono (R:=LenAt S1 n 65536) ?_ ?_
 ·refine W.ite rfl (fun h=>?_) (fun h=>?_)
  ·have hge:2^16≤m1:=by
    have h1:=of_decide_eq_true h;have e:(2:Nat)^16=65536:=by decide
    rw[e];omega
   refine go ?_
   refine⟨rfl,rfl,m1 / 2^16,k1+16,?_,?_,?_,?_,?_⟩
   ·exact(force_eq rfl).trans (congrArg (Value.int .u64) (fdiv_nat m1 (2^16)))
   ·refine(force_eq rfl).trans ?_
    rw[wrap64 (by omega) (by omega)];rfl
   ·exact Nat.div_lt_of_lt_mul (by
     have e:(2:Nat)^16=65536:=by decide
     rw[e];omega)
   ·have:=blen_div hge
    have h9:=blen_le.2 (show n<2^64 from hn)
    omega
   ·rw[hb1,blen_div hge];omega
  ·have hlt:m1<65536:=by have h1:=of_decide_eq_false h;omega
   refine go ?_
   exact⟨rfl,rfl,m1,k1,rfl,rfl,hlt,hk1,hb1⟩
 clear e0 e2 hm1 hk1 hb1
 rintro _ e1 S1 ⟨rfl,rfl,m1,k1,e0,e2,hm1,hk1,hb1⟩
 refine W.env2 e0 e2 (go ?_)
 refine W.mono (R:=LenAt S1 n 256) ?_ ?_
 ·refine W.ite rfl (fun h=>?_) (fun h=>?_)
  ·have hge:2^8≤m1:=by
    have h1:=of_decide_eq_true h;have e:(2:Nat)^8=256:=by decide
    rw[e];omega
   refine go ?_
   refine⟨rfl,rfl,m1 / 2^8,k1+8,?_,?_,?_,?_,?_⟩
   ·exact(force_eq rfl).trans (congrArg (Value.int .u64) (fdiv_nat m1 (2^8)))
   ·refine(force_eq rfl).trans ?_
    rw[wrap64 (by omega) (by omega)];rfl
   ·exact Nat.div_lt_of_lt_mul (by
     have e:(2:Nat)^8=256:=by decide
     rw[e];omega)
   ·have:=blen_div hge
    have h9:=blen_le.2 (show n<2^64 from hn)
    omega
   ·rw[hb1,blen_div hge];omega
  ·have hlt:m1<256:=by have h1:=of_decide_eq_false h;omega
   refine go ?_
   exact⟨rfl,rfl,m1,k1,rfl,rfl,hlt,hk1,hb1⟩
 clear e0 e2 hm1 hk1 hb1
 rintro _ e1 S1 ⟨rfl,rfl,m1,k1,e0,e2,hm1,hk1,hb1⟩
 refine W.env2 e0 e2 (go ?_)
 obtain⟨ht1,ht2⟩:=len8_tab hm1
 refine L.sx (s:=LEN8) (i:=m1) rfl ((force_eq rfl).trans (by rw[wrapU8 (by omega) (by omega)])) ht1 rfl rfl (go ?_)
 refine⟨.inr rfl,_,rfl,(force_eq rfl).trans ?_,rfl⟩
 have hu:(UInt8.ofNat (blen m1)).toNat=blen m1:=by rw[UInt8.toNat_ofNat'];omega
 have hb8:=blen_le.2 (show m1<2^8 from hm1)
 rw[hu,wrap64 (x:=(blen m1:Int)) (by omega) (by omega),wrap64 (by omega) (by omega),hb1]
 rfl
theorem bits_C (a:Option Addr) (c:Nat) (l:WL) (S:Mem) (hI:WIn S a c l):C Tryz.prog G Ext 57 [.slice a l.length c] S fun v S'=>v=vi (blen (wnum l))∧S'=S:=by
 refine C.fn Tryz.func57 rfl (by kernel_rfl) rfl (go ?_)
 refine L.cl (trim_C a c l S hI) rfl rfl ?_
 rintro _ _ ⟨rfl,rfl⟩
 refine⟨nofun,go ?_⟩
 have hF:=hI.form
 have hc:=canon_toW (wnum l)
 have hn:=wnum_toW (wnum l)
 refine W.ite rfl (fun h=>?_) (fun h=>?_)
 ·have h0:fm l=[]:=by simpa using h
  have:wnum l=0:=by rw[← hn];show wnum (fm l)=0;rw[h0];rfl
  refine go ?_
  exact⟨.inr rfl,_,rfl,by rw[this];rfl,rfl⟩
 ·have h0:0<(fm l).length:=by
   rcases Nat.eq_zero_or_pos (fm l).length with h1 | h1
   ·rw[h1] at h;simp at h
   ·exact h1
  clear h
  have hlen:=hF.2.2.2
  obtain⟨x,hx⟩:∃ x,(fm l).getLast?=some x:=⟨_,List.getLast?_eq_some_getLast (by intro e;rw[e] at h0;simp at h0)⟩
  have hxi:(fm l)[(fm l).length - 1]?=some x:=by rw[← List.getLast?_eq_getElem?];exact hx
  have hx0:x≠0#64:=fun e=>hc (by rw[← e];exact hx)
  have ht:=blen_top hx hx0
  rw[show wnum (fm l)=wnum l from hn] at ht
  refine go ?_
  refine L.el hF.1 (k:=(fm l).length - 1) (by rw[wrap64 (by omega) (by omega)];omega) (wv_get hxi) rfl rfl rfl rfl (fun _=>rfl) rfl (fun p=>?_)
  refine L.cl (len64_C x.toNat x.isLt _) rfl rfl ?_
  rintro _ _ ⟨rfl,rfl⟩
  refine⟨nofun,go ?_⟩
  refine⟨.inr rfl,_,rfl,(force_eq rfl).trans ?_,rfl⟩
  have hb:=blen_le.2 (show x.toNat<2^64 from x.isLt)
  rw[wrap64 (x:=((fm l).length:Int) - 1) (by omega) (by omega),wrap64 (x:=64*(((fm l).length:Int) - 1)) (by omega) (by omega),wrap64 (by omega) (by omega),ht]
  congr 1
  omega
end
section
open Go
section
variable {P:Program} {G:Nat} {Ext:FuncId→List Value→Mem→Outc→Mem→Prop} {e:Env} {S:Mem} {fl:Bool} {ops:Array Oper} {K:Kont}
variable {rest:List Oper} {dst:Option Tmp} {ty:TypeId} {pos:String} {af:Array Edge} {gd:Option (Nat × Bool)}
theorem addr_real {ρ:Nat→Option Loc} {w:World} {b:Nat} {r:Row} {v':Value} (hS:SR ρ S w) (hr:S.row? b=some r) (h:VR ρ (.pointer (some ⟨b,0,none⟩)) v') :
  ∃ L c fz,ρ b=some L∧v'=.pointer (some ⟨L.b,0,none⟩)∧w.heap[L.b]?=some (.cells c r.elem fz)∧r.cells.length≤c.size∧(r.exact=true→c.size=r.cells.length):=by
 obtain⟨hr1,hr2⟩:=Mem.row?_some hr
 obtain⟨L,hL,⟨c,fz,h1,h2,h3,_⟩⟩:=hS.live _ _ hr1 hr2
 cases h with
 | ptr _ a' k1 k2 k3=>
  obtain⟨L',l1,l2⟩:=k1
  dsimp only at l1
  rw[hL] at l1;cases l1
  refine⟨L,c,fz,hL,?_,h1,h2,h3⟩
  cases a' with
  | mk blk off spot=>dsimp only at k2 k3 l2;subst k2 k3 l2;rfl
theorem shape_real {w:World} {b:Nat} {c:Array Value} {el:TypeId} {fz:Nat × Nat} (h:w.heap[b]?=some (.cells c el fz)):w.shape? b=some (el,c.size):=by unfold World.shape?;rw[h]
theorem sim_unsafe1 {s d t0:TypeId} {x:Operand} {b:Nat} {r:Row} {i:TypeInfo} (hs:P.underlying s=some (.pointer t0)) (hd:P.underlying d=some .unsafePointer) (hi:P.info? t0=some i) (hi0:i.size≠0) (hx:e.eval x=.pointer (some ⟨b,0,none⟩)) (hr:S.row? b=some r) (hlen:0<r.cells.length) :
  OpSim P G ⟨dst,.convert s d x,ty,pos,af,gd⟩ e S (.pointer (some ⟨b,0,none⟩)) S:=fun ρ a w K Q hv hS hG hK=>by
 have h1:=hv x (by simp [Op.operands])
 rw[hx] at h1
 obtain⟨L,c,fz,hL,h2,h3,h4,_⟩:=addr_real hS hr h1
 have hsh:=shape_real h3
 have hrun:(execOp a.eval ⟨dst,.convert s d x,ty,pos,af,gd⟩).run P w=.ok (.value (.pointer (some ⟨L.b,0,none⟩))) w:=by
  have hc:(decide (0≥c.size))=false:=decide_eq_false (by omega)
  simp [execOp,convert,h2,underlying,hs,hd,Conv.unsafePointer,Conv.seenAt,viewAt,cellsIn,shape,Sem.run,hsh,sizeOf,typeInfo,hi,hi0]
  intro h0
  rw[h0] at h4
  have:r.cells.length≤0:=h4
  omega
 exact wp_value hrun (hK _ ρ _ (.ptr _ _ ⟨L,hL,rfl⟩ rfl rfl) hS (Stp.refl _ _ _))
theorem sim_unsafe2 {s d u:TypeId} {x:Operand} {b:Nat} {r:Row} {i:TypeInfo} (hs:P.underlying s=some .unsafePointer) (hd:P.underlying d=some (.pointer u)) (hi:P.info? u=some i) (hx:e.eval x=.pointer (some ⟨b,0,none⟩)) (hr:S.row? b=some r) (hex:r.exact=true)
  (hlies:liesAt P P.depth r.elem (r.cells.length / P.cellsOf r.elem) 0 u 1=true):OpSim P G ⟨dst,.convert s d x,ty,pos,af,gd⟩ e S (.pointer (some ⟨b,0,none⟩)) S:=fun ρ a w K Q hv hS hG hK=>by
 have h1:=hv x (by simp [Op.operands])
 rw[hx] at h1
 obtain⟨L,c,fz,hL,h2,h3,h4,h5⟩:=addr_real hS hr h1
 have hsh:=shape_real h3
 have hrun:(execOp a.eval ⟨dst,.convert s d x,ty,pos,af,gd⟩).run P w=.ok (.value (.pointer (some ⟨L.b,0,none⟩))) w:=by
  simp [execOp,convert,h2,underlying,hs,hd,Conv.unsafePointer,Conv.seenAt,viewAt,cellsIn,shape,Sem.run,hsh,sizeOf,typeInfo,hi,variablesAt,h5 hex,hlies]
 exact wp_value hrun (hK _ ρ _ (.ptr _ _ ⟨L,hL,rfl⟩ rfl rfl) hS (Stp.refl _ _ _))
theorem psim_same {t t0 yt:TypeId} {x y:Operand} {a:Addr} {i:TypeInfo} (op:BinOp) (hop:op=.eql∨op=.neq) (hu:P.underlying t=some (.pointer t0)) (hi:P.info? t0=some i) (hi0:i.size≠0) (hx:e.eval x=.pointer (some a)) (hy:e.eval y=.pointer (some a)) :
  PSim P ⟨dst,.binOp op t x y yt,ty,pos,af,gd⟩ e.eval (.bool (if op=.eql then true else false)):=fun ρ ev' hv=>by
 have h1:=hv x (by simp [Op.operands])
 have h2:=hv y (by simp [Op.operands])
 rw[hx] at h1
 rw[hy] at h2
 obtain⟨b,h3,h4⟩:∃ b,ev' x=.pointer (some b)∧ev' y=.pointer (some b):=by
  generalize ev' x=u at h1
  generalize ev' y=v at h2
  cases h1 with
  | ptr _ b k1 k2 k3=>
   cases h2 with
   | ptr _ c l1 l2 l3=>
    refine⟨b,rfl,?_⟩
    obtain⟨L,p1,p2⟩:=k1
    obtain⟨M,q1,q2⟩:=l1
    rw[p1] at q1;cases q1
    cases b;cases c
    simp_all
 refine⟨_,.bool _,fun w=>pureRun_sound ?_ w⟩
 have he:pureRun P (Op.equal t (.pointer (some b)) (.pointer (some b)))=some true:=by
  rw[equal_unf];unfold Op.equalIn
  rw[pureRun_bind,pureRun_underlying hu]
  simp [pureRun_bind,sizeOf,typeInfo,program,hi,hi0,sameAddr,pureRun]
 rcases hop with rfl | rfl
 ·simp only [execOp,h3,h4,pureRun_bind]
  have hg:pureRun P (eqGuard .eql t x y (.pointer (some b)) (.pointer (some b)))=some ():=rfl
  have hb:binOp .eql t (.pointer (some b)) (.pointer (some b))=(do pure (.bool (← Op.equal t (.pointer (some b)) (.pointer (some b))))):=rfl
  simp only [hg,hb,pureRun_bind,he,Option.bind_some,pureRun_pure,if_true]
 ·simp only [execOp,h3,h4,pureRun_bind]
  have hg:pureRun P (eqGuard .neq t x y (.pointer (some b)) (.pointer (some b)))=some ():=rfl
  have hb:binOp .neq t (.pointer (some b)) (.pointer (some b))=(do pure (.bool (!(← Op.equal t (.pointer (some b)) (.pointer (some b)))))):=rfl
  simp only [hg,hb,pureRun_bind,he,Option.bind_some,pureRun_pure]
  rfl
theorem psim_data {x:Operand} {ts:Array TypeId} {a:Addr} {n c:Nat} (hx:e.eval x=.slice (some a) n c) (hn:0<n) (hk:n≤knownCap c) :
  PSim P ⟨dst,.call ⟨.builtin .unsafeSliceData,#[x],ts⟩,ty,pos,af,gd⟩ e.eval (.pointer (some a)):=fun ρ ev' hv=>by
 have h1:=hv x (by simp [Op.operands,Call.operands])
 rw[hx] at h1
 obtain⟨b,c',h3,h4,h5⟩:∃ b c',ev' x=.slice (some b) n c'∧c'≠0∧VR ρ (.pointer (some a)) (.pointer (some b)):=by
  generalize ev' x=u at h1
  unfold knownCap at hk
  cases h1 with
  | sl _ b _ _ c' k1 k2 k3 k4=>
   refine⟨b,c',rfl,?_,.ptr _ _ k1 k2 k3⟩
   split at hk
   ·rename_i hc;have:=k4.1 hc;omega
   ·rename_i hc;have:=(k4.2 (by omega)).1;omega
 refine⟨_,h5,fun w=>pureRun_sound ?_ w⟩
 have hb:Builtin.unsafeSliceData_ ts ty #[.slice (some b) n c']=pure (.pointer (some b)):=by
  show (if c'≠0 then _ else _)=_
  rw[if_pos h4]
 simp [execOp,resolve,h3,pureRun_bind,invoke,builtin,hb]
theorem SR.dead {ρ:Nat→Option Loc} {w w':World} (h:SR ρ S w) {r:Nat} {x:Row} {L:Loc} (hx:S[r]?=some x) (hm:x.st=.moved) (hron:x.ro=none) (hL:ρ r=some L)
  (hfree:∀ (q:Nat) (y:Row),At ρ q L.b→S[q]?=some y→y.st≠.live) (hcl:∃ c e fz,w.heap[L.b]?=some (.cells c e fz))
  (hw:∀ k,k≠L.b→w'.heap[k]?=w.heap[k]?) (hsz:w'.heap.size=w.heap.size) (htape:w'.tape=w.tape) (hos:w'.os=w.os) (hout:w'.output=w.output):SR ρ S w'∧Stp ρ S w ρ S w':=by
 refine⟨⟨fun q y hy hl=>?_,fun q M hM=>?_,h.inj,fun q y s p hy hit=>?_⟩,⟨Sub.refl _,htape,hos,hout,by omega,fun b hb hq=>hw b fun e=>?_,fun b hb hq=>hq,fun b hb hq=>hq⟩⟩
 ·obtain⟨M,m1,m2⟩:=h.live q y hy hl
  exact⟨M,m1,m2.mono (Sub.refl _) (hw _ fun e=>hfree q y ⟨M,m1,e⟩ hy hl)⟩
 ·rw[hsz];exact h.dom q M hM
 ·obtain⟨M,m1,m2,m3⟩:=h.iter q y s p hy hit
  obtain⟨c,el,fz,hc⟩:=hcl
  exact⟨M,m1,by rw[hw _ (fun e'=>by rw[e',hc] at m2;cases m2)];exact m2,m3⟩
 ·obtain⟨y,hy,hyo⟩:=hq r ⟨L,hL,e.symm⟩
  rw[hx] at hy;cases hy
  rw[hm,hron] at hyo
  exact hyo.elim nofun fun h=>h rfl
def strB (l:List (BitVec 8)):ByteArray:=⟨(l.map fun x=>UInt8.ofNat x.toNat).toArray⟩
theorem run_loadBytes {P:Program} {w:World} {b:Nat}:∀ (l:List (BitVec 8)) (off:Nat) (acc:ByteArray),(∀ j x,l[j]?=some x→w.cell? ⟨b,off+j,none⟩=some (.int .u8 x.toNat)) →
  (loadBytes ⟨b,off,none⟩ acc l.length).run P w=.ok ⟨acc.data++(l.map fun x=>UInt8.ofNat x.toNat).toArray⟩ w
 | [],off,acc,_=>by simp [loadBytes]
 | x :: l,off,acc,h=>by
  have h0:=h 0 x rfl
  rw[Nat.add_zero] at h0
  have ih:=run_loadBytes (P:=P) (w:=w) (b:=b) l (off+1) (acc.push (UInt8.ofNat x.toNat)) (fun j y hj=>by
   have:=h (j+1) y (by simpa using hj)
   rw[Nat.add_assoc,Nat.add_comm 1];exact this)
  have hadd:Addr.add ⟨b,off,none⟩ 1=⟨b,off+1,none⟩:=by simp [Addr.add]
  simp only [List.length_cons,loadBytes,Sem.run_bind,hadd]
  have hl:(load ⟨b,off,none⟩).run P w=.ok (.int .u8 x.toNat) w:=by simp [h0]
  rw[hl]
  simp only [Result.andThen_ok,Int.toNat_natCast]
  have hu:x.toNat.toUInt8=UInt8.ofNat x.toNat:=rfl
  rw[hu,ih]
  simp [ByteArray.push]
theorem sim_string {x y:Operand} {ts:Array TypeId} {b pt u d:Nat} {r:Row} {l:List (BitVec 8)} {k:IntKind} (hx:e.eval x=.pointer (some ⟨b,0,none⟩)) (hy:e.eval y=.int k (l.length:Int)) (hr:S.row? b=some r) (hro:r.ro=none) (hc:r.cells.take l.length=l.map fun x=>Value.int .u8 x.toNat)
  (hn:0<l.length) (hn2:l.length<9223372036854775807) (hlen:l.length≤r.cells.length) (hit:r.it=none) (hts:ts[0]?=some pt) (hpt:P.underlying pt=some (.pointer u)) (hd:P.depth=d+1) (hs:sameLayout P P.depth r.elem u=true) (h1:P.cellsOf r.elem=1) :
  OpSim P G ⟨dst,.call ⟨.builtin .unsafeString,#[x,y],ts⟩,ty,pos,af,gd⟩ e S (.string (strB l)) (S.set b { r with st:=.moved }):=fun ρ a w K Q hv hS hG hK=>by
 have m1:=hv x (by simp [Op.operands,Call.operands])
 have m2:=hv y (by simp [Op.operands,Call.operands])
 rw[hx] at m1
 rw[hy] at m2
 have m2:a.eval y=.int k (l.length:Int):=m2.scalar_eq rfl
 obtain⟨hr1,hr2⟩:=Mem.row?_some hr
 obtain⟨L,c,fz,hL,g1,g2,g3,g4⟩:=addr_real hS hr m1
 obtain⟨L',hL',⟨c',fz',f1,f2,f3,f4,f5,f6,f7⟩⟩:=hS.live _ _ hr1 hr2
 rw[hL] at hL';cases hL'
 rw[g2] at f1;cases f1
 have hsh:=shape_real g2
 obtain⟨kS,kT⟩:=hS.kill hr1 hr2 hro
 have hbl:b<S.length:=row_live_lt hr1
 have hfree:∀ (q:Nat) (y:Row),At ρ q L.b→(S.set b { r with st:=.moved })[q]?=some y→y.st≠.live:=fun q y hq hy hyl=>by
  rw[List.getElem?_set] at hy
  by_cases e1:b=q
  ·subst e1;rw[if_pos rfl,if_pos hbl] at hy;cases hy;cases hyl
  ·rw[if_neg e1] at hy
   exact e1 (hS.inj b q r y L.b ⟨L,hL,rfl⟩ hq hr1 hy hr2 hyl)
 have hmod:∀ k,k≠L.b→(w.freeze ⟨L.b,0,none⟩ l.length).heap[k]?=w.heap[k]?:=fun k hk=>by
  unfold World.freeze
  split
  ·rfl
  ·show (w.heap.modify _ _)[k]?=_
   rw[Array.getElem?_modify,if_neg (Ne.symm hk)]
 have hsz:(w.freeze ⟨L.b,0,none⟩ l.length).heap.size=w.heap.size:=by
  unfold World.freeze
  split
  ·rfl
  ·show (w.heap.modify _ _).size=_;simp
 have hrest:(w.freeze ⟨L.b,0,none⟩ l.length).tape=w.tape∧(w.freeze ⟨L.b,0,none⟩ l.length).os=w.os∧(w.freeze ⟨L.b,0,none⟩ l.length).output=w.output:=by
  unfold World.freeze
  split<;>exact⟨rfl,rfl,rfl⟩
 obtain⟨dS,dT⟩:=kS.dead (r:=b) (x:={ r with st:=.moved }) (w':=w.freeze ⟨L.b,0,none⟩ l.length) (by rw[List.getElem?_set,if_pos rfl,if_pos hbl]) rfl hro hL hfree ⟨_,_,_,g2⟩ hmod hsz hrest.1 hrest.2.1 hrest.2.2
 have hload:=run_loadBytes (P:=P) (w:=w) (b:=L.b) l 0 .empty (fun j z hj=>by
  have hj1:j<l.length:=(List.getElem?_eq_some_iff.1 hj).1
  have:r.cells[j]?=some (.int .u8 z.toNat):=by
   have:=congrArg (·[j]?) hc
   simp only [List.getElem?_take,if_pos hj1,List.getElem?_map,hj,Option.map_some] at this
   exact this
  rw[Nat.zero_add,cell_of_row w _ _ c r.elem fz g2]
  rcases f7 j _ this with ⟨q0,_⟩ | ⟨v',q1,q2⟩
  ·exact absurd hro q0
  ·rw[q1,q2.scalar_eq rfl])
 have hlies:liesAt P P.depth r.elem c.size 0 u l.length=true:=by
  rw[hd,liesAt,hd,rowAt,← hd]
  simp only [h1]
  rw[hs]
  have:l.length≤c.size:=by omega
  simp [this]
 have hrun:(execOp a.eval ⟨dst,.call ⟨.builtin .unsafeString,#[x,y],ts⟩,ty,pos,af,gd⟩).run P w=.ok (.value (.string (strB l))) (w.freeze ⟨L.b,0,none⟩ l.length):=by
  have hb:(Builtin.unsafeString_ ts ty #[.pointer (some ⟨L.b,0,none⟩),.int k (l.length:Int)]).run P w=.ok (.string (strB l)) (w.freeze ⟨L.b,0,none⟩ l.length):=by
   have e1:¬ ((l.length:Int)<0):=by omega
   have e2:¬ ((l.length:Int) > IntKind.i64.max):=by show ¬ ((l.length:Int) > 9223372036854775807);omega
   have e3:¬ ((l.length:Int)=0):=by omega
   have hld:(loadBytes ⟨L.b,0,none⟩ .empty l.length).run P w=.ok (strB l) w:=by
    rw[hload]
    have he:ByteArray.empty.data=#[]:=rfl
    simp only [strB,he,Array.empty_append]
   have hva:(variablesAt ⟨L.b,0,none⟩ u l.length).run P w=.ok true w:=by
    simp [variablesAt,shape,Sem.run,hsh,h1,hlies]
   show Sem.run P (asInt (.int k (l.length:Int)) >>= _) w=_
   rw[Sem.run_bind]
   have ha:(asInt (.int k (l.length:Int))).run P w=.ok (l.length:Int) w:=rfl
   rw[ha,Result.andThen_ok]
   simp only [hts]
   rw[if_neg e1,if_neg e2]
   show Sem.run P (if (l.length:Int)=0 then _ else _) w=_
   rw[if_neg e3]
   have hel:(elemOf pt).run P w=.ok u w:=by simp [elemOf,underlying,hpt]
   simp only [Sem.run_bind,hel,Result.andThen_ok,Int.toNat_natCast,hva,if_true,hld,run_freeze,Sem.run_pure]
  simp [execOp,resolve,g1,m2,invoke,builtin,hb]
 exact wp_value hrun (hK _ ρ _ (.string _) dS (kT.trans dT))
theorem L.string {x y:Operand} {ts:Array TypeId} {b pt u d:Nat} {r:Row} (l:List (BitVec 8)) {k:IntKind} (hw:awanted ops ⟨dst,.call ⟨.builtin .unsafeString,#[x,y],ts⟩,ty,pos,af,gd⟩ e=true) (hx:e.eval x=.pointer (some ⟨b,0,none⟩)) (hy:e.eval y=.int k (l.length:Int)) (hr:S.row? b=some r) (hro:r.ro=none) (hc:r.cells.take l.length=l.map fun x=>Value.int .u8 x.toNat)
  (hn:0<l.length) (hn2:l.length<9223372036854775807) (hlen:l.length≤r.cells.length) (hit:r.it=none) (hts:ts[0]?=some pt) (hpt:P.underlying pt=some (.pointer u)) (hd:P.depth=d+1) (hs:sameLayout P P.depth r.elem u=true) (h1:P.cellsOf r.elem=1)
  (h:L P G Ext fl ops rest (e.put dst (.string (strB l))) (S.set b { r with st:=.moved }) K):L P G Ext fl ops (⟨dst,.call ⟨.builtin .unsafeString,#[x,y],ts⟩,ty,pos,af,gd⟩ :: rest) e S K:=
 L.sem hw (sim_string hx hy hr hro hc hn hn2 hlen hit hts hpt hd hs h1) (Nat.le_succ 2) (fun h=>by rcases h with h | ⟨h,_⟩<;>cases h) h
theorem psim_empty {x y:Operand} {ts:Array TypeId} {pt:TypeId} {k:IntKind} (hx:e.eval x=.pointer none) (hy:e.eval y=.int k 0) (hts:ts[0]?=some pt):OpSim P G ⟨dst,.call ⟨.builtin .unsafeString,#[x,y],ts⟩,ty,pos,af,gd⟩ e S (.string (strB [])) S:=fun ρ a w K Q hv hS hG hK=>by
 have m1:=hv x (by simp [Op.operands,Call.operands])
 have m2:=hv y (by simp [Op.operands,Call.operands])
 rw[hx] at m1
 rw[hy] at m2
 have m2:a.eval y=.int k 0:=m2.scalar_eq rfl
 have m1:a.eval x=.pointer none:=by
  generalize a.eval x=z at m1
  cases m1;rfl
 have hb:(Builtin.unsafeString_ ts ty #[.pointer none,.int k 0]).run P w=.ok (.string (strB [])) w:=by
  show Sem.run P (asInt (.int k 0) >>= _) w=_
  rw[Sem.run_bind]
  have ha:(asInt (.int k 0)).run P w=.ok 0 w:=rfl
  rw[ha,Result.andThen_ok]
  simp only [hts]
  rfl
 have hrun:(execOp a.eval ⟨dst,.call ⟨.builtin .unsafeString,#[x,y],ts⟩,ty,pos,af,gd⟩).run P w=.ok (.value (.string (strB []))) w:=by
  simp [execOp,resolve,m1,m2,invoke,builtin,hb]
 exact wp_value hrun (hK _ ρ _ (.string _) hS (Stp.refl _ _ _))
theorem L.string0 {x y:Operand} {ts:Array TypeId} {pt:TypeId} {k:IntKind} (hw:awanted ops ⟨dst,.call ⟨.builtin .unsafeString,#[x,y],ts⟩,ty,pos,af,gd⟩ e=true) (hx:e.eval x=.pointer none) (hy:e.eval y=.int k 0) (hts:ts[0]?=some pt)
  (h:L P G Ext fl ops rest (e.put dst (.string (strB []))) S K):L P G Ext fl ops (⟨dst,.call ⟨.builtin .unsafeString,#[x,y],ts⟩,ty,pos,af,gd⟩ :: rest) e S K:=
 L.sem hw (psim_empty hx hy hts) (Nat.le_succ 2) (fun h=>by rcases h with h | ⟨h,_⟩<;>cases h) h
end
end
section
open Go
theorem bytesOf_bv (l:BL):bytesOf (bv l)=some (l.map fun x=>UInt8.ofNat x.toNat):=by
 induction l with
 | nil=>rfl
 | cons x l ih=>
  show (bytesOf (bv l)).map _=_
  rw[ih]
  simp
theorem byte_back (x:BitVec 8):(UInt8.ofNat x.toNat).toNat=x.toNat:=by rw[UInt8.toNat_ofNat'];exact Nat.mod_eq_of_lt x.isLt
theorem strB_size (l:BL):(strB l).size=l.length:=by
 show ((l.map _).toArray).size=_
 simp
theorem strB_get {l:BL} {i:Nat} {x:BitVec 8} (h:l[i]?=some x):(strB l)[i]?=some (UInt8.ofNat x.toNat):=by
 have hlt:=(List.getElem?_eq_some_iff.1 h).1
 have:i<(strB l).size:=by rw[strB_size];exact hlt
 have h2:=(List.getElem?_eq_some_iff.1 h).2
 rw[getElem?_pos (strB l) i this]
 congr 1
 show ((l.map fun x=>UInt8.ofNat x.toNat).toArray)[i]'(by simpa using hlt)=_
 simp [h2]
theorem strB_inj {a b:BL} (h:strB a=strB b):a=b:=by
 have h1:(a.map fun x=>UInt8.ofNat x.toNat)=b.map fun x=>UInt8.ofNat x.toNat:=by
  have:=congrArg (fun s:ByteArray=>s.data.toList) h
  simpa [strB] using this
 refine(List.map_inj_right (fun x y h=>?_)).1 h1
 have:=congrArg UInt8.toNat h
 rw[byte_back,byte_back] at this
 exact BitVec.eq_of_toNat_eq this
theorem strB_of (s:ByteArray):∃ l:BL,s=strB l:=by
 refine⟨s.data.toList.map fun b=>BitVec.ofNat 8 b.toNat,?_⟩
 unfold strB
 rw[List.map_map]
 have:((fun x:BitVec 8=>UInt8.ofNat x.toNat) ∘ fun b:UInt8=>BitVec.ofNat 8 b.toNat)=id:=by
  funext b
  show UInt8.ofNat (BitVec.ofNat 8 b.toNat).toNat=b
  rw[BitVec.toNat_ofNat,Nat.mod_eq_of_lt b.toNat_lt]
  exact UInt8.ofNat_toNat
 rw[this,List.map_id]
theorem strB_app (a b:BL):strB a++strB b=strB (a++b):=by
 apply ByteArray.ext
 rw[ByteArray.data_append]
 simp [strB]
section
variable {P:Program} {G:Nat} {Ext:FuncId→List Value→Mem→Outc→Mem→Prop} {e:Env} {S:Mem} {fl:Bool} {ops:Array Oper} {K:Kont}
variable {rest:List Oper} {dst:Option Tmp} {ty:TypeId} {pos:String} {af:Array Edge} {gd:Option (Nat × Bool)}
theorem L.text {s d:TypeId} {x:Operand} {h:Hd} {l:BL} {el el2:TypeId} (hx:e.eval x=h.v) (hh:HdOk S el2 h (bv l)) (hs:P.underlying s=some (.slice el)) (hd:P.underlying d=some .string) (hel:isBytes P el=true)
  (hw:awanted ops ⟨dst,.convert s d x,ty,pos,af,gd⟩ e=true)
  (k:L P G Ext fl ops rest (e.put dst (.string (strB l))) S K):L P G Ext fl ops (⟨dst,.convert s d x,ty,pos,af,gd⟩ :: rest) e S K:=by
 obtain⟨h1,⟨h2,h3,h4⟩ | ⟨b,r,h2,h3,h4,h5,h6,h7⟩⟩:=hh
 ·rw[bv_len] at h1
  have hn:l=[]:=List.length_eq_zero_iff.1 (by omega)
  subst hn
  have hv:h.v=.slice none 0 0:=by unfold Hd.v;rw[h2,h3,h4];rfl
  rw[hv] at hx
  refine L.psim (v:=.string (strB [])) hw (fun ρ ev' hv=>?_) k
  have m:=hv x (by simp [Op.operands])
  rw[hx] at m
  have m:ev' x=.slice none 0 0:=m.scalar_eq rfl
  refine⟨_,.string _,fun w=>?_⟩
  have hby':∀ w,(underlying el).run P w=.ok (.int .u8) w:=fun w=>by
   unfold isBytes at hel
   split at hel
   ·rename_i hq;exact run_underlying' hq w
   ·cases hel
  have hcv:(convert s d (.slice none 0 0)).run P w=(Conv.bytesToString (.slice none 0 0)).run P w:=by
   unfold convert
   simp only [Sem.run_bind,run_underlying' hs,run_underlying' hd,Result.andThen_ok,hby']
  simp only [execOp,m,Sem.run_bind,hcv]
  rfl
 ·have hn:h.n=l.length:=by rw[bv_len] at h1;omega
  have hv:h.v=.slice (some ⟨b,0,none⟩) l.length h.c:=by unfold Hd.v;rw[h2,hn];rfl
  have hc:S.cellsAt ⟨b,0,none⟩ l.length=some (bv l):=by
   unfold Mem.cellsAt
   simp only [h3]
   rw[if_pos ⟨trivial,by omega,.inl h4⟩]
   rw[List.drop_zero,← hn,h6]
  refine L.load hw ?_ k
  unfold aload
  dsimp only
  rw[hx,hv,hs,hd]
  simp only [hel,if_true,hc,Option.bind_some,bytesOf_bv,Option.map_some]
  rfl
theorem L.sB {t:TypeId} {x ix:Operand} {l:BL} {k:IntKind} {i:Nat} {b:BitVec 8} (hx:e.eval x=.string (strB l)) (hi:e.eval ix=.int k (i:Int)) (hb:l[i]?=some b) (hu:P.underlying t=some .string)
  (hw:awanted ops ⟨dst,.index t x ix,ty,pos,af,gd⟩ e=true) (h:L P G Ext fl ops rest (e.put dst (v8 b)) S K):L P G Ext fl ops (⟨dst,.index t x ix,ty,pos,af,gd⟩ :: rest) e S K:=by
 refine L.sx hx hi (strB_get hb) hu hw ?_
 rw[byte_back];exact h
end
end
section
open Go
theorem strB_toList (l:BL):(strB l).toList=l.map fun x=>UInt8.ofNat x.toNat:=by
 rw[ByteArray.toList_eq];rfl
theorem strB_same (a b:BL):((strB a).toList==(strB b).toList)=decide (a=b):=by
 rw[strB_toList,strB_toList]
 by_cases h:a=b
 ·subst h;simp
 ·rw[decide_eq_false h]
  exact beq_eq_false_iff_ne.2 fun he=>h (strB_inj (by unfold strB;rw[he]))
theorem strB_part (l:BL) (i j:Nat):(strB l).extract i j=strB ((l.take j).drop i):=by
 apply ByteArray.ext
 rw[ByteArray.data_extract]
 show (l.map fun x=>UInt8.ofNat x.toNat).toArray.extract i j=(((l.take j).drop i).map fun x=>UInt8.ofNat x.toNat).toArray
 rw[List.extract_toArray,List.extract_eq_take_drop]
 congr 1
 rw[List.map_drop,List.map_take,List.drop_take]
section
variable {P:Program} {G:Nat} {Ext:FuncId→List Value→Mem→Outc→Mem→Prop} {e:Env} {S:Mem} {fl:Bool} {ops:Array Oper} {K:Kont}
variable {rest:List Oper} {dst:Option Tmp} {ty:TypeId} {pos:String} {af:Array Edge} {gd:Option (Nat × Bool)}
theorem L.flat {op:Op} {v:Value} (hf:op.operands.toList.all (fun x=>flat (e.eval x))=true) (hv:flat v=true) (hs:∀ cs b,op≠.select cs b) (hp:pureRun P (execOp e.eval ⟨dst,op,ty,pos,af,gd⟩)=some (.value v)) (hw:awanted ops ⟨dst,op,ty,pos,af,gd⟩ e=true)
  (k:L P G Ext fl ops rest (e.put dst v) S K) (hna:isAlloc ⟨dst,op,ty,pos,af,gd⟩=false:=by rfl):L P G Ext fl ops (⟨dst,op,ty,pos,af,gd⟩ :: rest) e S K:=by
 refine L.psim hw (fun ρ ev' h=>?_) k hna
 refine aflat_sound hs ?_ h
 unfold aflat
 dsimp only
 rw[if_pos hf,hp]
 dsimp only
 rw[if_pos hv]
theorem L.from {t:TypeId} {x lo:Operand} {l:BL} {k:IntKind} {i:Nat} (hx:e.eval x=.string (strB l)) (hi:e.eval lo=.int k (i:Int)) (hb:i≤l.length) (hu:P.underlying t=some .string)
  (hw:awanted ops ⟨dst,.slice t x (some lo) none none,ty,pos,af,gd⟩ e=true) (h:L P G Ext fl ops rest (e.put dst (.string (strB (l.drop i)))) S K):L P G Ext fl ops (⟨dst,.slice t x (some lo) none none,ty,pos,af,gd⟩ :: rest) e S K:=by
 refine L.flat (by simp [Op.operands,hx,hi];exact⟨rfl,rfl⟩) rfl nofun ?_ hw h
 have h0:(0:Int)≤(i:Int)∧(i:Int)≤(l.length:Nat):=by omega
 have hb:pureRun P (Instr.sliceAt t (.string (strB l)) (some (.int k (i:Int))) none none)=some (.string (strB (l.drop i))):=by
  unfold Instr.sliceAt
  rw[pureRun_bind,pureRun_underlying hu]
  show pureRun P (Instr.slice t (.string (strB l)) (some (.int k (i:Int))) none none)=_
  unfold Instr.slice
  rw[pureRun_bind,pureRun_underlying hu]
  show pureRun P (Instr.sliceBounds false (strB l).size (strB l).size (some (.int k (i:Int))) none none >>= fun (l',h,_)=>Pure.pure (Value.string ((strB l).extract l' h)))=_
  rw[pureRun_bind]
  have hs:pureRun P (Instr.sliceBounds false (strB l).size (strB l).size (some (.int k (i:Int))) none none)=some (i,(strB l).size,(strB l).size):=by
   unfold Instr.sliceBounds
   simp [pureRun_bind,Instr.sliceBound,asIntOf,h0,strB_size]
   rw[if_pos hb];rfl
  rw[hs]
  show some (Value.string ((strB l).extract _ _))=_
  rw[strB_part]
  simp [strB_size]
 simp only [execOp,hx,hi,Option.map_some,Option.map_none,pureRun_bind,hb]
 rfl
theorem L.upto {t:TypeId} {x hi:Operand} {l:BL} {k:IntKind} {i:Nat} (hx:e.eval x=.string (strB l)) (hi':e.eval hi=.int k (i:Int)) (hb:i≤l.length) (hu:P.underlying t=some .string)
  (hw:awanted ops ⟨dst,.slice t x none (some hi) none,ty,pos,af,gd⟩ e=true) (h:L P G Ext fl ops rest (e.put dst (.string (strB (l.take i)))) S K):L P G Ext fl ops (⟨dst,.slice t x none (some hi) none,ty,pos,af,gd⟩ :: rest) e S K:=by
 refine L.flat (by simp [Op.operands,hx,hi'];exact⟨rfl,rfl⟩) rfl nofun ?_ hw h
 have h0:(0:Int)≤(i:Int)∧(i:Int)≤(l.length:Nat):=by omega
 have hb:pureRun P (Instr.sliceAt t (.string (strB l)) none (some (.int k (i:Int))) none)=some (.string (strB (l.take i))):=by
  unfold Instr.sliceAt
  rw[pureRun_bind,pureRun_underlying hu]
  show pureRun P (Instr.slice t (.string (strB l)) none (some (.int k (i:Int))) none)=_
  unfold Instr.slice
  rw[pureRun_bind,pureRun_underlying hu]
  show pureRun P (Instr.sliceBounds false (strB l).size (strB l).size none (some (.int k (i:Int))) none >>= fun (l',h,_)=>Pure.pure (Value.string ((strB l).extract l' h)))=_
  rw[pureRun_bind]
  have hs:pureRun P (Instr.sliceBounds false (strB l).size (strB l).size none (some (.int k (i:Int))) none)=some (0,i,(strB l).size):=by
   unfold Instr.sliceBounds
   simp [pureRun_bind,Instr.sliceBound,asIntOf,h0,strB_size]
   rw[if_pos hb];rfl
  rw[hs]
  show some (Value.string ((strB l).extract _ _))=_
  rw[strB_part]
  simp [strB_size]
 simp only [execOp,hx,hi',Option.map_some,Option.map_none,pureRun_bind,hb]
 rfl
theorem L.tadd {t yt:TypeId} {x y:Operand} {a b:BL} (hx:e.eval x=.string (strB a)) (hy:e.eval y=.string (strB b)) (hl:a.length+b.length<1000000000)
  (hw:awanted ops ⟨dst,.binOp .add t x y yt,ty,pos,af,gd⟩ e=true) (h:L P G Ext fl ops rest (e.put dst (.string (strB (a++b)))) S K):L P G Ext fl ops (⟨dst,.binOp .add t x y yt,ty,pos,af,gd⟩ :: rest) e S K:=by
 refine L.flat (by simp [Op.operands,hx,hy];exact⟨rfl,rfl⟩) rfl nofun ?_ hw h
 have hb:binOp .add t (.string (strB a)) (.string (strB b))=Pure.pure (.string (strB (a++b))):=by
  show Op.stringOp .add _ _=_
  unfold Op.stringOp
  have:¬ (((strB a).size+(strB b).size:Nat):Int) > IntKind.i64.max:=by rw[strB_size,strB_size];show ¬ (_ > (9223372036854775807:Int));omega
  simp only [this,if_false,strB_app]
 simp only [execOp,hx,hy,pureRun_bind,hb]
 rfl
theorem L.tlen {t:TypeId} {x:Operand} {a:BL} {ts:Array TypeId} (hx:e.eval x=.string (strB a)) (hts:ts[0]?=some t) (hu:P.underlying t=some .string)
  (hw:awanted ops ⟨dst,.call ⟨.builtin .len,#[x],ts⟩,ty,pos,af,gd⟩ e=true) (h:L P G Ext fl ops rest (e.put dst (vi a.length)) S K):L P G Ext fl ops (⟨dst,.call ⟨.builtin .len,#[x],ts⟩,ty,pos,af,gd⟩ :: rest) e S K:=by
 refine L.flat (by simp [Op.operands,Call.operands,hx];rfl) rfl nofun ?_ hw h
 have hb:pureRun P (Builtin.len_ ts ty #[.string (strB a)])=some (vi a.length):=by
  unfold Builtin.len_
  simp only [hts]
  show pureRun P (underlying t >>= _)=_
  rw[pureRun_bind,pureRun_underlying hu]
  show some (goInt (strB a).size)=_
  rw[strB_size];rfl
 have hm:∀ s:Sem Value,pureRun P s=some (vi a.length)→pureRun P (Next.value <$> s)=some (Next.value (vi a.length)):=fun s h=>by
  rw[map_eq_pure_bind,pureRun_bind,h];rfl
 simp [execOp,resolve,hx,pureRun_bind,invoke,builtin]
 exact hm _ hb
end
end
section
open Go Ie
abbrev vf (w:Nat):Value:=.float .f64 w
abbrev vc (w:Nat × Nat):Value:=.complex .f64 w.1 w.2
section
variable {P:Program} {G:Nat} {Ext:FuncId→List Value→Mem→Outc→Mem→Prop} {e:Env} {S:Mem} {fl:Bool} {ops:Array Oper} {K:Kont}
variable {rest:List Oper} {dst:Option Tmp} {ty:TypeId} {pos:String} {af:Array Edge} {gd:Option (Nat × Bool)}
theorem arith_add {a b r:Nat} (h:Ieee.double.add a b=some r):Op.floatArith .add .f64 a b=Pure.pure (vf r):=by
 unfold Op.floatArith
 simp only [pure_bind]
 rw[show FloatKind.f64.format.add a b=some r from h]
theorem L.fadd {t yt:TypeId} {x y:Operand} {a b r:Nat} (hr:Ieee.double.add a b=some r) (hx:e.eval x=vf a) (hy:e.eval y=vf b)
  (hw:awanted ops ⟨dst,.binOp .add t x y yt,ty,pos,af,gd⟩ e=true) (h:L P G Ext fl ops rest (e.put dst (vf r)) S K):L P G Ext fl ops (⟨dst,.binOp .add t x y yt,ty,pos,af,gd⟩ :: rest) e S K:=by
 refine L.flat (by simp [Op.operands,hx,hy];exact⟨rfl,rfl⟩) rfl nofun ?_ hw h
 have hb:binOp .add t (vf a) (vf b)=Pure.pure (vf r):=arith_add hr
 simp only [execOp,hx,hy,pureRun_bind,hb]
 rfl
theorem arith_sub {a b r:Nat} (h:Ieee.double.sub a b=some r):Op.floatArith .sub .f64 a b=Pure.pure (vf r):=by
 unfold Op.floatArith
 simp only [pure_bind]
 rw[show FloatKind.f64.format.sub a b=some r from h]
theorem L.fsub {t yt:TypeId} {x y:Operand} {a b r:Nat} (hr:Ieee.double.sub a b=some r) (hx:e.eval x=vf a) (hy:e.eval y=vf b)
  (hw:awanted ops ⟨dst,.binOp .sub t x y yt,ty,pos,af,gd⟩ e=true) (h:L P G Ext fl ops rest (e.put dst (vf r)) S K):L P G Ext fl ops (⟨dst,.binOp .sub t x y yt,ty,pos,af,gd⟩ :: rest) e S K:=by
 refine L.flat (by simp [Op.operands,hx,hy];exact⟨rfl,rfl⟩) rfl nofun ?_ hw h
 have hb:binOp .sub t (vf a) (vf b)=Pure.pure (vf r):=arith_sub hr
 simp only [execOp,hx,hy,pureRun_bind,hb]
 rfl
theorem arith_mul {a b r:Nat} (h:Ieee.double.mul a b=some r):Op.floatArith .mul .f64 a b=Pure.pure (vf r):=by
 unfold Op.floatArith
 simp only [pure_bind]
 rw[show FloatKind.f64.format.mul a b=some r from h]
theorem L.fmul {t yt:TypeId} {x y:Operand} {a b r:Nat} (hr:Ieee.double.mul a b=some r) (hx:e.eval x=vf a) (hy:e.eval y=vf b)
  (hw:awanted ops ⟨dst,.binOp .mul t x y yt,ty,pos,af,gd⟩ e=true) (h:L P G Ext fl ops rest (e.put dst (vf r)) S K):L P G Ext fl ops (⟨dst,.binOp .mul t x y yt,ty,pos,af,gd⟩ :: rest) e S K:=by
 refine L.flat (by simp [Op.operands,hx,hy];exact⟨rfl,rfl⟩) rfl nofun ?_ hw h
 have hb:binOp .mul t (vf a) (vf b)=Pure.pure (vf r):=arith_mul hr
 simp only [execOp,hx,hy,pureRun_bind,hb]
 rfl
theorem arith_quo {a b r:Nat} (h:Ieee.double.div a b=some r):Op.floatArith .quo .f64 a b=Pure.pure (vf r):=by
 unfold Op.floatArith
 simp only [pure_bind]
 rw[show FloatKind.f64.format.div a b=some r from h]
theorem L.fquo {t yt:TypeId} {x y:Operand} {a b r:Nat} (hr:Ieee.double.div a b=some r) (hx:e.eval x=vf a) (hy:e.eval y=vf b)
  (hw:awanted ops ⟨dst,.binOp .quo t x y yt,ty,pos,af,gd⟩ e=true) (h:L P G Ext fl ops rest (e.put dst (vf r)) S K):L P G Ext fl ops (⟨dst,.binOp .quo t x y yt,ty,pos,af,gd⟩ :: rest) e S K:=by
 refine L.flat (by simp [Op.operands,hx,hy];exact⟨rfl,rfl⟩) rfl nofun ?_ hw h
 have hb:binOp .quo t (vf a) (vf b)=Pure.pure (vf r):=arith_quo hr
 simp only [execOp,hx,hy,pureRun_bind,hb]
 rfl
theorem carith {op:BinOp} {a b r:Nat} (h:Op.floatArith op .f64 a b=Pure.pure (vf r)):Op.Complex.arith op .f64 a b=Pure.pure r:=by
 unfold Op.Complex.arith
 rw[h];rfl
theorem L.cadd {t yt:TypeId} {x y:Operand} {a b r:Nat × Nat} (hr:Ie.cadd a b=some r) (hx:e.eval x=vc a) (hy:e.eval y=vc b)
  (hw:awanted ops ⟨dst,.binOp .add t x y yt,ty,pos,af,gd⟩ e=true) (h:L P G Ext fl ops rest (e.put dst (vc r)) S K):L P G Ext fl ops (⟨dst,.binOp .add t x y yt,ty,pos,af,gd⟩ :: rest) e S K:=by
 refine L.flat (by simp [Op.operands,hx,hy];exact⟨rfl,rfl⟩) rfl nofun ?_ hw h
 obtain⟨a1,a2⟩:=a
 obtain⟨b1,b2⟩:=b
 unfold Ie.cadd at hr
 rw[Option.bind_eq_some_iff] at hr
 obtain⟨r1,h1,hr⟩:=hr
 rw[Option.map_eq_some_iff] at hr
 obtain⟨r2,h2,rfl⟩:=hr
 have hb:binOp .add t (.complex .f64 a1 a2) (.complex .f64 b1 b2)=Pure.pure (.complex .f64 r1 r2):=by
  show Op.complexOp .add .f64 a1 a2 b1 b2=_
  unfold Op.complexOp
  dsimp only
  rw[carith (arith_add h1),carith (arith_add h2)];rfl
 simp only [execOp,hx,hy,pureRun_bind,hb]
 rfl
theorem L.csub {t yt:TypeId} {x y:Operand} {a b r:Nat × Nat} (hr:Ie.csub a b=some r) (hx:e.eval x=vc a) (hy:e.eval y=vc b)
  (hw:awanted ops ⟨dst,.binOp .sub t x y yt,ty,pos,af,gd⟩ e=true) (h:L P G Ext fl ops rest (e.put dst (vc r)) S K):L P G Ext fl ops (⟨dst,.binOp .sub t x y yt,ty,pos,af,gd⟩ :: rest) e S K:=by
 refine L.flat (by simp [Op.operands,hx,hy];exact⟨rfl,rfl⟩) rfl nofun ?_ hw h
 obtain⟨a1,a2⟩:=a
 obtain⟨b1,b2⟩:=b
 unfold Ie.csub at hr
 rw[Option.bind_eq_some_iff] at hr
 obtain⟨r1,h1,hr⟩:=hr
 rw[Option.map_eq_some_iff] at hr
 obtain⟨r2,h2,rfl⟩:=hr
 have hb:binOp .sub t (.complex .f64 a1 a2) (.complex .f64 b1 b2)=Pure.pure (.complex .f64 r1 r2):=by
  show Op.complexOp .sub .f64 a1 a2 b1 b2=_
  unfold Op.complexOp
  dsimp only
  rw[carith (arith_sub h1),carith (arith_sub h2)];rfl
 simp only [execOp,hx,hy,pureRun_bind,hb]
 rfl
theorem L.cmul {t yt:TypeId} {x y:Operand} {a b r:Nat × Nat} (hr:Ie.cmul a b=some r) (hx:e.eval x=vc a) (hy:e.eval y=vc b)
  (hw:awanted ops ⟨dst,.binOp .mul t x y yt,ty,pos,af,gd⟩ e=true) (h:L P G Ext fl ops rest (e.put dst (vc r)) S K):L P G Ext fl ops (⟨dst,.binOp .mul t x y yt,ty,pos,af,gd⟩ :: rest) e S K:=by
 refine L.flat (by simp [Op.operands,hx,hy];exact⟨rfl,rfl⟩) rfl nofun ?_ hw h
 obtain⟨a1,a2⟩:=a
 obtain⟨b1,b2⟩:=b
 unfold Ie.cmul at hr
 rw[Option.bind_eq_some_iff] at hr
 obtain⟨ac,h1,hr⟩:=hr
 rw[Option.bind_eq_some_iff] at hr
 obtain⟨bd,h2,hr⟩:=hr
 rw[Option.bind_eq_some_iff] at hr
 obtain⟨r1,h3,hr⟩:=hr
 rw[Option.bind_eq_some_iff] at hr
 obtain⟨ad,h4,hr⟩:=hr
 rw[Option.bind_eq_some_iff] at hr
 obtain⟨bc,h5,hr⟩:=hr
 rw[Option.map_eq_some_iff] at hr
 obtain⟨r2,h6,rfl⟩:=hr
 have hp:Op.Complex.product a1 a2 b1 b2=Pure.pure (r1,r2):=by
  unfold Op.Complex.product Op.Complex.mul Op.Complex.sub Op.Complex.add
  rw[carith (arith_mul h1),carith (arith_mul h2),carith (arith_mul h4),carith (arith_mul h5)]
  simp only [pure_bind]
  rw[carith (arith_sub h3),carith (arith_add h6)]
  simp only [pure_bind]
 have hb:binOp .mul t (.complex .f64 a1 a2) (.complex .f64 b1 b2)=Pure.pure (.complex .f64 r1 r2):=by
  show Op.complexOp .mul .f64 a1 a2 b1 b2=_
  unfold Op.complexOp Op.Complex.conv
  dsimp only
  simp only [if_true,pure_bind]
  show (Op.Complex.product a1 a2 b1 b2 >>= _)=_
  rw[hp];rfl
 simp only [execOp,hx,hy,pureRun_bind,hb]
 rfl
theorem nearest_nat (n:Nat):FloatKind.f64.nearest (n:Int)=fNat n:=by
 unfold FloatKind.nearest fNat
 rw[decide_eq_false (by omega)];rfl
theorem L.f2i {s d:TypeId} {x:Operand} {b:Nat} {n:Int} {k:IntKind} (hr:(Ieee.double.read b).toInt .zero=some n) (hx:e.eval x=vf b) (h0:k.min≤n∧n≤k.max) (hs:P.underlying s=some (.float .f64)) (hd:P.underlying d=some (.int k))
  (hw:awanted ops ⟨dst,.convert s d x,ty,pos,af,gd⟩ e=true) (h:L P G Ext fl ops rest (e.put dst (.int k n)) S K):L P G Ext fl ops (⟨dst,.convert s d x,ty,pos,af,gd⟩ :: rest) e S K:=by
 refine L.flat (by simp [Op.operands,hx];exact rfl) rfl nofun ?_ hw h
 have hf:Conv.floatToInt .f64 b k=Pure.pure (.int k n):=by
  unfold Conv.floatToInt
  rw[show (FloatKind.f64.decode b).toInt .zero=some n from hr]
  dsimp only
  rw[if_pos h0]
 have hb:pureRun P (convert s d (vf b))=some (.int k n):=by
  unfold convert
  rw[pureRun_bind,pureRun_underlying hs]
  show pureRun P (underlying d >>= _)=_
  rw[pureRun_bind,pureRun_underlying hd]
  show pureRun P (Conv.floatToInt .f64 b k)=_
  rw[hf];rfl
 simp only [execOp,hx,pureRun_bind,hb]
 rfl
end
end
section
open Go Ie
variable {Ext:FuncId→List Value→Mem→Outc→Mem→Prop}
noncomputable abbrev gN:Nat:=Tryz.prog.globals.size
def RowIs (S:Mem) (g:Nat) (l:List Value):Prop:=∃ r,S.row? g=some r∧r.cells.take l.length=l
theorem RowIs.cons {S T:Mem} {g:Nat} {l:List Value} (h:RowIs S g l) (k:Cons S T):RowIs T g l:=by
 obtain⟨r,h1,h2⟩:=h
 exact⟨r,k.row h1,h2⟩
theorem RowIs.cell {S:Mem} {g:Nat} {l:List Value} (h:RowIs S g l) {k:Nat} {v:Value} (hv:l[k]?=some v):∃ r,S.row? g=some r∧r.cells[k]?=some v:=by
 obtain⟨r,h1,h2⟩:=h
 refine⟨r,h1,?_⟩
 have hlt:k<l.length:=(List.getElem?_eq_some_iff.1 hv).1
 rw[← h2,List.getElem?_take,if_pos hlt] at hv
 exact hv
def SinOk (S:Mem):Prop:=RowIs S 3 (cosT.map vf)∧RowIs S 4 (sinT.map vf)
theorem SinOk.cons {S T:Mem} (h:SinOk S) (k:Cons S T):SinOk T:=⟨h.1.cons k,h.2.cons k⟩
attribute [local irreducible] Ieee.Format.add Ieee.Format.sub Ieee.Format.mul Ieee.Format.div Ieee.Format.order Ieee.Format.nearest Ieee.Datum.toInt
theorem isNaN_C (x:Nat) (S:Mem):C Tryz.prog gN Ext 176 [vf x] S fun v S'=>v=.bool (Ieee.double.order x x != some .eq)∧S'=S:=by
 refine C.fn Tryz.func176 rfl (by kernel_rfl) rfl (go ?_)
 exact⟨.inr rfl,_,rfl,rfl,rfl⟩
theorem bits_fn:ExternFn Tryz.prog 195 Extern.MathFloatBits.float64bits:=⟨_,Tryz.func195,by kernel_rfl,rfl,by kernel_rfl,by kernel_rfl⟩
theorem frombits_fn:ExternFn Tryz.prog 194 Extern.MathFloatBits.float64frombits:=⟨_,Tryz.func194,by kernel_rfl,rfl,by kernel_rfl,by kernel_rfl⟩
theorem lr1 {ρ:Nat→Option Loc} {v:Value} {args':List Value} (hv:scalar v=true) (h:LR ρ [v] args'):args'=[v]:=by
 obtain⟨h1,h2⟩:=h
 match args',h1 with
 | [x],_=>
  have hx:=(h2 0 _ _ rfl rfl).scalar_eq hv
  rw[hx]
theorem andNot63 {x:Nat} (h:x<18446744073709551616):(IntKind.u64.wrap ((BitVec.ofInt IntKind.u64.bits (x:Int) &&& ~~~BitVec.ofInt IntKind.u64.bits 9223372036854775808).toNat:Int))=((x % 9223372036854775808:Nat):Int):=by
 have h1:(BitVec.ofInt 64 (x:Int) &&& ~~~BitVec.ofInt 64 9223372036854775808).toNat=x % 9223372036854775808:=by
  have h2:(~~~BitVec.ofInt 64 9223372036854775808)=BitVec.ofNat 64 (2^63 - 1):=by decide
  rw[h2,BitVec.toNat_and,BitVec.toNat_ofNat,Nat.mod_eq_of_lt (by decide),Nat.and_two_pow_sub_one_eq_mod,BitVec.toNat_ofInt]
  show ((x:Int) % ((2^64:Nat):Int)).toNat % 9223372036854775808=_
  omega
 show IntKind.u64.wrap ((BitVec.ofInt 64 (x:Int) &&& ~~~BitVec.ofInt 64 9223372036854775808).toNat:Int)=_
 rw[h1,wrapU64 (by omega) (by omega)]
theorem abs_C (x:Nat) (hx:x<18446744073709551616) (S:Mem):C Tryz.prog gN Ext 193 [vf x] S fun v S'=>v=vf (x % 9223372036854775808)∧S'=S:=by
 refine C.fn Tryz.func193 rfl (by kernel_rfl) rfl (go ?_)
 refine L.ext (v:=.int .u64 x) rfl rfl bits_fn (fun ρ args' h=>⟨_,flat_VR _ rfl,fun w=>by rw[lr1 rfl h];rfl⟩) (go ?_)
 rw[andNot63 hx]
 refine L.ext (v:=vf (x % 9223372036854775808)) rfl rfl frombits_fn (fun ρ args' h=>⟨_,flat_VR _ rfl,fun w=>by rw[lr1 rfl h];rfl⟩) (go ?_)
 exact⟨.inr rfl,_,rfl,rfl,rfl⟩
theorem isInf_C (x:Nat) (hx:x<18446744073709551616) (S:Mem):C Tryz.prog gN Ext 177 [vf x,.int .i64 0] S fun v S'=>v=.bool (fIs .gt (x % 9223372036854775808) 9218868437227405311)∧S'=S:=by
 refine C.fn Tryz.func177 rfl (by kernel_rfl) rfl (go ?_)
 refine W.ite rfl (fun h=>?_) (fun h=>?_)
 rotate_left
 ·cases h
 refine go ?_
 refine L.cl (abs_C x hx S) rfl rfl ?_
 rintro _ _ ⟨rfl,rfl⟩
 refine⟨nofun,go ?_⟩
 exact⟨.inr rfl,_,rfl,rfl,rfl⟩
end
end Go.Proofs.YtbiigbicgfchiaaGreatDoor
set_option maxHeartbeats 4000000
namespace Go.Proofs.YtbiigbicgfchiaaGreatDoor
section
open Go Ie
variable {Ext:FuncId→List Value→Mem→Outc→Mem→Prop}
attribute [local irreducible] Ieee.Format.add Ieee.Format.sub Ieee.Format.mul Ieee.Format.div Ieee.Format.order Ieee.Format.nearest Ieee.Datum.toInt
theorem poly_steps {c0 c1 c2 c3 c4 c5 zz r:Nat} (h:poly dbl [c0,c1,c2,c3,c4,c5] zz=some r):∃ a1 a2 a3 a4 a5 a6 a7 a8 a9,Ieee.double.mul c0 zz=some a1∧Ieee.double.add a1 c1=some a2∧Ieee.double.mul a2 zz=some a3∧Ieee.double.add a3 c2=some a4∧Ieee.double.mul a4 zz=some a5∧Ieee.double.add a5 c3=some a6∧Ieee.double.mul a6 zz=some a7∧Ieee.double.add a7 c4=some a8∧Ieee.double.mul a8 zz=some a9∧Ieee.double.add a9 c5=some r:=by
 unfold poly dbl at h
 simp only [Option.bind_eq_some_iff] at h
 obtain⟨a1,h1,a2,h2,a3,h3,a4,h4,a5,h5,a6,h6,a7,h7,a8,h8,a9,h9,h10⟩:=h
 exact⟨a1,a2,a3,a4,a5,a6,a7,a8,a9,h1,h2,h3,h4,h5,h6,h7,h8,h9,h10⟩
theorem sincos_C (x si co:Nat) (hx:x<18446744073709551616) (h:sincosO dbl x=some (si,co)) (S:Mem) (hS:SinOk S) :
  C Tryz.prog gN Ext 153 [vf x] S fun v S'=>v=.tuple #[vf si,vf co]∧S'=S:=by
 obtain⟨hrc0,hrs0⟩:=hS
 obtain⟨rc,hrc,hcc0⟩:=hrc0
 obtain⟨rs,hrs,hcs0⟩:=hrs0
 have hcc:∀ (k:Nat) (v:Value),(cosT.map vf)[k]?=some v→rc.cells[k]?=some v:=fun k v hv=>by
  have hlt:k<6:=(List.getElem?_eq_some_iff.1 hv).1
  rw[← hcc0,List.getElem?_take,if_pos (show k<(cosT.map vf).length from hlt)] at hv
  exact hv
 have hcs:∀ (k:Nat) (v:Value),(sinT.map vf)[k]?=some v→rs.cells[k]?=some v:=fun k v hv=>by
  have hlt:k<6:=(List.getElem?_eq_some_iff.1 hv).1
  rw[← hcs0,List.getElem?_take,if_pos (show k<(sinT.map vf).length from hlt)] at hv
  exact hv
 clear hcc0 hcs0
 unfold sincosO at h
 refine C.fn Tryz.func153 rfl (by kernel_rfl) rfl (go ?_)
 refine W.ite (t:=fIs .eq x 0) rfl (fun hq=>?_) (fun hq=>?_)
 ·rw[hq] at h
  simp only [if_true,Option.some.injEq,Prod.mk.injEq] at h
  obtain⟨rfl,rfl⟩:=h
  refine go ?_
  exact⟨.inr rfl,_,rfl,rfl,rfl⟩
 rw[hq] at h
 simp only [Bool.false_eq_true,if_false] at h
 split at h
 rotate_left
 ·cases h
 rename_i hfin
 simp only [Bool.and_eq_true,Bool.not_eq_true'] at hfin
 obtain⟨hnan,hinf⟩:=hfin
 refine go ?_
 refine L.cl (isNaN_C x S) rfl rfl ?_
 rintro _ _ ⟨rfl,rfl⟩
 refine⟨nofun,?_⟩
 have hnan':(Ieee.double.order x x != some .eq)=false:=by
  show (!(Ieee.double.order x x==some .eq))=false
  rw[show (Ieee.double.order x x==some .eq)=true from hnan];rfl
 rw[hnan']
 refine go ?_
 refine L.cl (isInf_C x hx _) rfl rfl ?_
 rintro _ _ ⟨rfl,rfl⟩
 refine⟨nofun,?_⟩
 rw[hinf]
 refine go ?_
 first | refine W.condT rfl ?_ | refine W.condF rfl ?_
 refine go ?_
 rename Mem=>S
 refine W.mono (R:=fun x' e' S'=>x'=.nrm∧S'=S∧∃ (y:Nat) (sg:Bool),e' 0=vf y∧e' 4=.bool sg∧e' 5=.bool false∧fIs .lt x 0=sg∧y=if sg then fNeg x else x) ?_ ?_
 ·refine W.ite (t:=fIs .lt x 0) rfl (fun hs=>?_) (fun hs=>?_)
  ·refine go ?_
   exact⟨rfl,rfl,fNeg x,true,rfl,rfl,rfl,hs,rfl⟩
  ·refine go ?_
   exact⟨rfl,rfl,x,false,rfl,rfl,rfl,hs,rfl⟩
 rintro _ e S1 ⟨rfl,hS1,y0,sg,e0,e4,e5,hsg,hy0⟩
 subst hS1
 rename Mem=>S
 refine W.env3 e0 e4 e5 ?_
 rw[hsg,← hy0] at h
 clear hsg hy0 hnan hinf hnan' hq
 refine go ?_
 refine W.ite rfl (fun hb=>?_) (fun hb=>?_)
 ·exfalso
  rw[show (fIs .gt (y0) 4737786807993761792 || fIs .eq (y0) 4737786807993761792)=true from hb] at h
  simp at h
 rw[show (fIs .gt (y0) 4737786807993761792 || fIs .eq (y0) 4737786807993761792)=false from hb] at h
 simp only [Bool.false_eq_true,if_false] at h
 rw[Option.bind_eq_some_iff] at h
 obtain⟨p0,hmul,h⟩:=h
 split at h
 rotate_left
 ·cases h
 rename_i n0 hread
 split at h
 rotate_left
 ·cases h
 rename_i hn08
 rw[Option.bind_eq_some_iff] at h
 obtain⟨q,hoct,h⟩:=h
 rw[Option.bind_eq_some_iff] at h
 obtain⟨w0,hrest,h⟩:=h
 rw[Option.map_eq_some_iff] at h
 obtain⟨pr,hparts,hsgn⟩:=h
 unfold partsO dbl at hparts
 simp only [Option.bind_eq_some_iff] at hparts
 obtain⟨zz,z1,v1,z2,v2,z3,v3,z4,pc,hpc,v4,z5,v5,z6,v6,z7,ps,hps,v7,z8,v8',z9,hpr⟩:=hparts
 obtain⟨a1,a2,a3,a4,a5,a6,a7,a8,a9,c1,c2,c3,c4,c5,c6,c7,c8,c9,c10⟩:=poly_steps hpc
 obtain⟨b1,b2,b3,b4,b5,b6,b7,b8,b9,s1,s2,s3,s4,s5,s6,s7,s8,s9,s10⟩:=poly_steps hps
 cases hpr
 obtain⟨n,rfl⟩:∃ n:Nat,n0=(n:Int):=⟨n0.toNat,by omega⟩
 have hn8:n≤8:=by omega
 rw[Int.toNat_natCast] at hoct
 refine go ?_
 refine L.fmul hmul rfl rfl rfl (go ?_)
 refine L.f2i hread rfl ⟨show (0:Int)≤_ by omega,show _≤(18446744073709551615:Int) by omega⟩ rfl rfl rfl ?_
 clear hread hn08
 have hcases:n=0∨n=1∨n=2∨n=3∨n=4∨n=5∨n=6∨n=7∨n=8:=by omega
 rcases hcases with rfl | rfl | rfl | rfl | rfl | rfl | rfl | rfl | rfl
 obtain⟨y,hy0,rfl⟩:∃ y,y=fNat 0∧(0,y)=q:=by
  have h0:some (0 % 8,fNat 0)=some q:=hoct
  exact⟨_,rfl,Option.some.inj h0⟩
 unfold restO dbl at hrest
 simp only [Option.bind_eq_some_iff] at hrest
 obtain⟨u1,e1,u2,e2,u3,e3,u4,e4,u5,e5,e6⟩:=hrest
 have hsi:=congrArg Prod.fst hsgn
 have hco:=congrArg Prod.snd hsgn
 simp [signO] at hsi hco
 subst hsi hco
 subst hy0
 refine go ?_
 first | refine W.condT rfl ?_ | refine W.condF rfl ?_
 refine go ?_
 rotate_left
 obtain⟨y,hy,rfl⟩:∃ y,Ieee.double.add (fNat 1) 4607182418800017408=some y∧(2,y)=q:=by
  have h0:(Ieee.double.add (fNat 1) 4607182418800017408).map (fun y=>((1+1) % 8,y))=some q:=hoct
  rw[Option.map_eq_some_iff] at h0
  exact h0
 unfold restO dbl at hrest
 simp only [Option.bind_eq_some_iff] at hrest
 obtain⟨u1,e1,u2,e2,u3,e3,u4,e4,u5,e5,e6⟩:=hrest
 have hsi:=congrArg Prod.fst hsgn
 have hco:=congrArg Prod.snd hsgn
 simp [signO] at hsi hco
 subst hsi hco
 refine go ?_
 first | refine W.condT rfl ?_ | refine W.condF rfl ?_
 refine go ?_
 refine L.fadd hy rfl rfl rfl (go ?_)
 rotate_left
 obtain⟨y,hy0,rfl⟩:∃ y,y=fNat 2∧(2,y)=q:=by
  have h0:some (2 % 8,fNat 2)=some q:=hoct
  exact⟨_,rfl,Option.some.inj h0⟩
 unfold restO dbl at hrest
 simp only [Option.bind_eq_some_iff] at hrest
 obtain⟨u1,e1,u2,e2,u3,e3,u4,e4,u5,e5,e6⟩:=hrest
 have hsi:=congrArg Prod.fst hsgn
 have hco:=congrArg Prod.snd hsgn
 simp [signO] at hsi hco
 subst hsi hco
 subst hy0
 refine go ?_
 first | refine W.condT rfl ?_ | refine W.condF rfl ?_
 refine go ?_
 rotate_left
 obtain⟨y,hy,rfl⟩:∃ y,Ieee.double.add (fNat 3) 4607182418800017408=some y∧(4,y)=q:=by
  have h0:(Ieee.double.add (fNat 3) 4607182418800017408).map (fun y=>((3+1) % 8,y))=some q:=hoct
  rw[Option.map_eq_some_iff] at h0
  exact h0
 unfold restO dbl at hrest
 simp only [Option.bind_eq_some_iff] at hrest
 obtain⟨u1,e1,u2,e2,u3,e3,u4,e4,u5,e5,e6⟩:=hrest
 have hsi:=congrArg Prod.fst hsgn
 have hco:=congrArg Prod.snd hsgn
 simp [signO] at hsi hco
 subst hsi hco
 refine go ?_
 first | refine W.condT rfl ?_ | refine W.condF rfl ?_
 refine go ?_
 refine L.fadd hy rfl rfl rfl (go ?_)
 rotate_left
 obtain⟨y,hy0,rfl⟩:∃ y,y=fNat 4∧(4,y)=q:=by
  have h0:some (4 % 8,fNat 4)=some q:=hoct
  exact⟨_,rfl,Option.some.inj h0⟩
 unfold restO dbl at hrest
 simp only [Option.bind_eq_some_iff] at hrest
 obtain⟨u1,e1,u2,e2,u3,e3,u4,e4,u5,e5,e6⟩:=hrest
 have hsi:=congrArg Prod.fst hsgn
 have hco:=congrArg Prod.snd hsgn
 simp [signO] at hsi hco
 subst hsi hco
 subst hy0
 refine go ?_
 first | refine W.condT rfl ?_ | refine W.condF rfl ?_
 refine go ?_
 rotate_left
 obtain⟨y,hy,rfl⟩:∃ y,Ieee.double.add (fNat 5) 4607182418800017408=some y∧(6,y)=q:=by
  have h0:(Ieee.double.add (fNat 5) 4607182418800017408).map (fun y=>((5+1) % 8,y))=some q:=hoct
  rw[Option.map_eq_some_iff] at h0
  exact h0
 unfold restO dbl at hrest
 simp only [Option.bind_eq_some_iff] at hrest
 obtain⟨u1,e1,u2,e2,u3,e3,u4,e4,u5,e5,e6⟩:=hrest
 have hsi:=congrArg Prod.fst hsgn
 have hco:=congrArg Prod.snd hsgn
 simp [signO] at hsi hco
 subst hsi hco
 refine go ?_
 first | refine W.condT rfl ?_ | refine W.condF rfl ?_
 refine go ?_
 refine L.fadd hy rfl rfl rfl (go ?_)
 rotate_left
 obtain⟨y,hy0,rfl⟩:∃ y,y=fNat 6∧(6,y)=q:=by
  have h0:some (6 % 8,fNat 6)=some q:=hoct
  exact⟨_,rfl,Option.some.inj h0⟩
 unfold restO dbl at hrest
 simp only [Option.bind_eq_some_iff] at hrest
 obtain⟨u1,e1,u2,e2,u3,e3,u4,e4,u5,e5,e6⟩:=hrest
 have hsi:=congrArg Prod.fst hsgn
 have hco:=congrArg Prod.snd hsgn
 simp [signO] at hsi hco
 subst hsi hco
 subst hy0
 refine go ?_
 first | refine W.condT rfl ?_ | refine W.condF rfl ?_
 refine go ?_
 rotate_left
 obtain⟨y,hy,rfl⟩:∃ y,Ieee.double.add (fNat 7) 4607182418800017408=some y∧(0,y)=q:=by
  have h0:(Ieee.double.add (fNat 7) 4607182418800017408).map (fun y=>((7+1) % 8,y))=some q:=hoct
  rw[Option.map_eq_some_iff] at h0
  exact h0
 unfold restO dbl at hrest
 simp only [Option.bind_eq_some_iff] at hrest
 obtain⟨u1,e1,u2,e2,u3,e3,u4,e4,u5,e5,e6⟩:=hrest
 have hsi:=congrArg Prod.fst hsgn
 have hco:=congrArg Prod.snd hsgn
 simp [signO] at hsi hco
 subst hsi hco
 refine go ?_
 first | refine W.condT rfl ?_ | refine W.condF rfl ?_
 refine go ?_
 refine L.fadd hy rfl rfl rfl (go ?_)
 rotate_left
 obtain⟨y,hy0,rfl⟩:∃ y,y=fNat 8∧(0,y)=q:=by
  have h0:some (8 % 8,fNat 8)=some q:=hoct
  exact⟨_,rfl,Option.some.inj h0⟩
 unfold restO dbl at hrest
 simp only [Option.bind_eq_some_iff] at hrest
 obtain⟨u1,e1,u2,e2,u3,e3,u4,e4,u5,e5,e6⟩:=hrest
 have hsi:=congrArg Prod.fst hsgn
 have hco:=congrArg Prod.snd hsgn
 simp [signO] at hsi hco
 subst hsi hco
 subst hy0
 refine go ?_
 first | refine W.condT rfl ?_ | refine W.condF rfl ?_
 refine go ?_
 rotate_left
 all_goals
  refine L.fmul e1 rfl rfl rfl (go ?_)
  refine L.fsub e2 rfl rfl rfl (go ?_)
  refine L.fmul e3 rfl rfl rfl (go ?_)
  refine L.fsub e4 rfl rfl rfl (go ?_)
  refine L.fmul e5 rfl rfl rfl (go ?_)
  refine L.fsub e6 rfl rfl rfl (go ?_)
  first | refine W.condT rfl ?_ | refine W.condF rfl ?_
  refine go ?_
  first | refine W.condT rfl ?_ | refine W.condF rfl ?_
  refine go ?_
  refine L.fmul z1 rfl rfl rfl (go ?_)
  refine L.fmul z2 rfl rfl rfl (go ?_)
  refine L.fsub z3 rfl rfl rfl (go ?_)
  refine L.fmul z4 rfl rfl rfl (go ?_)
  refine L.ld (a:=⟨_,0,none⟩) (cell_of hrc (hcc 0 _ rfl) (.inr rfl)) rfl rfl rfl (go ?_)
  refine L.fmul c1 rfl rfl rfl (go ?_)
  refine L.ld (a:=⟨_,1,none⟩) (cell_of hrc (hcc 1 _ rfl) (.inr rfl)) rfl rfl rfl (go ?_)
  refine L.fadd c2 rfl rfl rfl (go ?_)
  refine L.fmul c3 rfl rfl rfl (go ?_)
  refine L.ld (a:=⟨_,2,none⟩) (cell_of hrc (hcc 2 _ rfl) (.inr rfl)) rfl rfl rfl (go ?_)
  refine L.fadd c4 rfl rfl rfl (go ?_)
  refine L.fmul c5 rfl rfl rfl (go ?_)
  refine L.ld (a:=⟨_,3,none⟩) (cell_of hrc (hcc 3 _ rfl) (.inr rfl)) rfl rfl rfl (go ?_)
  refine L.fadd c6 rfl rfl rfl (go ?_)
  refine L.fmul c7 rfl rfl rfl (go ?_)
  refine L.ld (a:=⟨_,4,none⟩) (cell_of hrc (hcc 4 _ rfl) (.inr rfl)) rfl rfl rfl (go ?_)
  refine L.fadd c8 rfl rfl rfl (go ?_)
  refine L.fmul c9 rfl rfl rfl (go ?_)
  refine L.ld (a:=⟨_,5,none⟩) (cell_of hrc (hcc 5 _ rfl) (.inr rfl)) rfl rfl rfl (go ?_)
  refine L.fadd c10 rfl rfl rfl (go ?_)
  refine L.fmul z5 rfl rfl rfl (go ?_)
  refine L.fadd z6 rfl rfl rfl (go ?_)
  refine L.fmul z7 rfl rfl rfl (go ?_)
  refine L.ld (a:=⟨_,0,none⟩) (cell_of hrs (hcs 0 _ rfl) (.inr rfl)) rfl rfl rfl (go ?_)
  refine L.fmul s1 rfl rfl rfl (go ?_)
  refine L.ld (a:=⟨_,1,none⟩) (cell_of hrs (hcs 1 _ rfl) (.inr rfl)) rfl rfl rfl (go ?_)
  refine L.fadd s2 rfl rfl rfl (go ?_)
  refine L.fmul s3 rfl rfl rfl (go ?_)
  refine L.ld (a:=⟨_,2,none⟩) (cell_of hrs (hcs 2 _ rfl) (.inr rfl)) rfl rfl rfl (go ?_)
  refine L.fadd s4 rfl rfl rfl (go ?_)
  refine L.fmul s5 rfl rfl rfl (go ?_)
  refine L.ld (a:=⟨_,3,none⟩) (cell_of hrs (hcs 3 _ rfl) (.inr rfl)) rfl rfl rfl (go ?_)
  refine L.fadd s6 rfl rfl rfl (go ?_)
  refine L.fmul s7 rfl rfl rfl (go ?_)
  refine L.ld (a:=⟨_,4,none⟩) (cell_of hrs (hcs 4 _ rfl) (.inr rfl)) rfl rfl rfl (go ?_)
  refine L.fadd s8 rfl rfl rfl (go ?_)
  refine L.fmul s9 rfl rfl rfl (go ?_)
  refine L.ld (a:=⟨_,5,none⟩) (cell_of hrs (hcs 5 _ rfl) (.inr rfl)) rfl rfl rfl (go ?_)
  refine L.fadd s10 rfl rfl rfl (go ?_)
  refine L.fmul z8 rfl rfl rfl (go ?_)
  refine L.fadd z9 rfl rfl rfl (go ?_)
  first | refine W.condT rfl ?_ | refine W.condF rfl ?_
  refine go ?_
  cases sg
  ·first | refine W.condT rfl ?_ | refine W.condF rfl ?_
   refine go ?_
   first | refine W.condT rfl ?_ | refine W.condF rfl ?_
   refine go ?_
   exact⟨.inr rfl,_,rfl,rfl,rfl⟩
  ·first | refine W.condT rfl ?_ | refine W.condF rfl ?_
   refine go ?_
   first | refine W.condT rfl ?_ | refine W.condF rfl ?_
   refine go ?_
   exact⟨.inr rfl,_,rfl,rfl,rfl⟩
end
section
open Go Ie
variable {Ext:FuncId→List Value→Mem→Outc→Mem→Prop}
attribute [local irreducible] Ieee.Format.add Ieee.Format.sub Ieee.Format.mul Ieee.Format.div Ieee.Format.order Ieee.Format.nearest Ieee.Datum.toInt
section
variable {P:Program} {G:Nat} {e:Env} {S:Mem} {fl:Bool} {ops:Array Oper} {K:Kont}
variable {rest:List Oper} {dst:Option Tmp} {ty:TypeId} {pos:String} {af:Array Edge} {gd:Option (Nat × Bool)}
theorem next_value {s:Sem Value} {v:Value} (h:pureRun P s=some v):pureRun P (Next.value <$> s)=some (Next.value v):=by
 rw[map_eq_pure_bind,pureRun_bind,h];rfl
theorem L.cx {x y:Operand} {ts:Array TypeId} {a b:Nat} (hx:e.eval x=vf a) (hy:e.eval y=vf b)
  (hw:awanted ops ⟨dst,.call ⟨.builtin .complex,#[x,y],ts⟩,ty,pos,af,gd⟩ e=true) (h:L P G Ext fl ops rest (e.put dst (vc (a,b))) S K):L P G Ext fl ops (⟨dst,.call ⟨.builtin .complex,#[x,y],ts⟩,ty,pos,af,gd⟩ :: rest) e S K:=by
 refine L.flat (by simp [Op.operands,Call.operands,hx,hy];exact⟨rfl,rfl⟩) rfl nofun ?_ hw h
 have hb:pureRun P (Builtin.complex_ ts ty #[vf a,vf b])=some (vc (a,b)):=rfl
 simp [execOp,resolve,hx,hy,pureRun_bind,invoke,builtin]
 exact next_value hb
theorem L.re {x:Operand} {ts:Array TypeId} {a b:Nat} (hx:e.eval x=.complex .f64 a b)
  (hw:awanted ops ⟨dst,.call ⟨.builtin .real,#[x],ts⟩,ty,pos,af,gd⟩ e=true) (h:L P G Ext fl ops rest (e.put dst (vf a)) S K):L P G Ext fl ops (⟨dst,.call ⟨.builtin .real,#[x],ts⟩,ty,pos,af,gd⟩ :: rest) e S K:=by
 refine L.flat (by simp [Op.operands,Call.operands,hx];exact rfl) rfl nofun ?_ hw h
 have hb:pureRun P (Builtin.real_ ts ty #[.complex .f64 a b])=some (vf a):=rfl
 simp [execOp,resolve,hx,pureRun_bind,invoke,builtin]
 exact next_value hb
end
theorem keepL_set' (S:Mem) (b:Nat) (x:Row):KeepL [b] S (S.set b x):=⟨by simp,fun r hr hn=>by
 rw[List.getElem?_set]
 split
 ·rename_i h;subst h;exact absurd (List.mem_singleton.2 rfl) hn
 ·rfl⟩
theorem SinOk.keepL {S T:Mem} {bs:List Nat} (h:SinOk S) (k:KeepL bs S T) (hb:∀ b∈bs,gN≤b):SinOk T:=by
 obtain⟨⟨r,h1,h2⟩,s,h3,h4⟩:=h
 exact⟨⟨r,k.row h1 (fun hm=>absurd (hb _ hm) (of_decide_eq_false (by kernel_rfl))),h2⟩,s,k.row h3 (fun hm=>absurd (hb _ hm) (of_decide_eq_false (by kernel_rfl))),h4⟩
def fc (n:Nat) (f:Nat→Nat × Nat):List Value:=(List.range n).map fun p=>vc (f p)
theorem fc_len (n:Nat) (f:Nat→Nat × Nat):(fc n f).length=n:=by simp [fc]
theorem fc_get {n p:Nat} (f:Nat→Nat × Nat) (h:p<n):(fc n f)[p]?=some (vc (f p)):=by simp [fc,h]
def upd (f:Nat→Nat × Nat) (p:Nat) (v:Nat × Nat):Nat→Nat × Nat:=fun x=>if x=p then v else f x
theorem fc_set (n p:Nat) (f:Nat→Nat × Nat) (v:Nat × Nat):(fc n f).set p (vc v)=fc n (upd f p v):=by
 refine List.ext_getElem? fun k=>?_
 rw[List.getElem?_set]
 by_cases hk:k<n
 ·rw[fc_get _ hk,fc_get _ hk,fc_len]
  unfold upd
  by_cases he:p=k
  ·subst he;rw[if_pos rfl,if_pos hk,if_pos rfl]
  ·rw[if_neg he,if_neg (fun h=>he h.symm)]
 ·rw[List.getElem?_eq_none (by rw[fc_len];omega),List.getElem?_eq_none (by rw[fc_len];omega),fc_len]
  split
  ·rw[if_neg (by omega)]
  ·rfl
theorem fc_congr {n:Nat} {f g:Nat→Nat × Nat} (h:∀ p,p<n→f p=g p):fc n f=fc n g:=List.map_congr_left fun p hp=>by rw[h p (List.mem_range.1 hp)]
def CRow (S:Mem) (b n:Nat) (f:Nat→Nat × Nat):Prop:=S.row? b=some (newR (fc n f) 118)
theorem CRow.set {S:Mem} {b n:Nat} {f:Nat→Nat × Nat} (h:CRow S b n f) (p:Nat) (v:Nat × Nat):CRow (S.set b { newR (fc n f) 118 with cells:=(newR (fc n f) 118).cells.set (0+p) (vc v) }) b n (upd f p v):=by
 unfold CRow
 rw[row_set_same h rfl,Nat.zero_add,← fc_set];rfl
theorem CRow.slv {S:Mem} {b n c:Nat} {f:Nat→Nat × Nat} (h:CRow S b n f):Slv S 1 (.slice (some ⟨b,0,none⟩) n c) n (fc n f):=Slv.all h rfl (by rw[Nat.mul_one];exact fc_len _ _)
theorem and_nat {a b:Nat} (ha:a<4096) (hb:b<4096):IntKind.i64.wrap ((BitVec.ofInt IntKind.i64.bits (a:Int) &&& BitVec.ofInt IntKind.i64.bits (b:Int)).toNat:Int)=((a &&& b:Nat):Int):=by
 have h1:(BitVec.ofInt 64 (a:Int) &&& BitVec.ofInt 64 (b:Int)).toNat=a &&& b:=by
  rw[BitVec.toNat_and,BitVec.toNat_ofInt,BitVec.toNat_ofInt]
  rw[show ((a:Int) % ((2^64:Nat):Int)).toNat=a by omega,show ((b:Int) % ((2^64:Nat):Int)).toNat=b by omega]
 have h2:a &&& b≤a:=Nat.and_le_left
 show IntKind.i64.wrap ((BitVec.ofInt 64 (a:Int) &&& BitVec.ofInt 64 (b:Int)).toNat:Int)=_
 rw[h1,wrap64 (by omega) (by omega)]
theorem xor_lt {a b:Nat} (ha:a<4096) (hb:b<4096):a ^^^ b<4096:=Nat.xor_lt_two_pow (n:=12) ha hb
theorem xor_nat {a b:Nat} (ha:a<4096) (hb:b<4096):IntKind.i64.wrap ((BitVec.ofInt IntKind.i64.bits (a:Int) ^^^ BitVec.ofInt IntKind.i64.bits (b:Int)).toNat:Int)=((a ^^^ b:Nat):Int):=by
 have h1:(BitVec.ofInt 64 (a:Int) ^^^ BitVec.ofInt 64 (b:Int)).toNat=a ^^^ b:=by
  rw[BitVec.toNat_xor,BitVec.toNat_ofInt,BitVec.toNat_ofInt]
  rw[show ((a:Int) % ((2^64:Nat):Int)).toNat=a by omega,show ((b:Int) % ((2^64:Nat):Int)).toNat=b by omega]
 have h2:=xor_lt ha hb
 show IntKind.i64.wrap ((BitVec.ofInt 64 (a:Int) ^^^ BitVec.ofInt 64 (b:Int)).toNat:Int)=_
 rw[h1,wrap64 (by omega) (by omega)]
theorem half_nat (a:Nat):Int.fdiv (a:Int) (2^min (Int.toNat 1) IntKind.i64.bits)=((a / 2:Nat):Int):=by
 show Int.fdiv (a:Int) 2=_
 rw[Int.fdiv_eq_ediv_of_nonneg _ (by omega)];rfl
theorem transform_C {Lg:Nat} (hL:Lok Lg) (n b cap:Nat) (hn:n=2^Lg) {sg:Nat} {c:Nat→Cx} (hW:Ie.Way sg c) (w:Nat→Nat × Nat) (S:Mem) (hr:CRow S b n w) (hb:gN≤b) (hS:SinOk S)
  {a:Nat→Cx} {e0 B:Rat} (hB:1≤B) (hB2:B≤36893488147419103232) (ha:∀ p,(a p).M B) (he0:0≤e0) (he:(e0+187*eps*B)*1048576≤B) (hw:∀ j,j<n→∃ x,CV (w j) x∧(x.sub (a j)).M e0) :
  C Tryz.prog gN Ext 129 [.slice (some ⟨b,0,none⟩) n cap,vf sg] S fun v S'=>KeepL [b] S S'∧∃ w',CRow S' b n w'∧∀ j,j<n→∃ x,CV (w' j) x∧(x.sub (Cx.dft c Lg a j)).M (err e0 B Lg):=by
 have hn2:n≤2048∧512≤n∧Lg≤11:=by rcases hL with rfl | rfl | rfl<;>rw[hn]<;>decide
 have hJ:∀ p,p<n→jn n (jn n p)=p∧jn n p<n:=fun p hp=>by
  have:=jn_all hL (t:=p) (by omega)
  rw[← hn] at this
  exact this.2
 refine C.fn Tryz.func129 rfl (by kernel_rfl) rfl (go ?_)
 refine W.loop (fun j e S'=>∃ i f,j=n - i∧1≤i∧i≤n∧e 0=.slice (some ⟨b,0,none⟩) n cap∧e 1=vf sg∧e 4=vi n∧e 5=vi i∧e 6=vi (jn n (i - 1))∧CRow S' b n f∧KeepL [b] S S'∧∀ p,p<n→f p=if min p (jn n p)<i then w (jn n p) else w p) (n - 1)
  ⟨1,w,rfl,by omega,by omega,rfl,rfl,rfl,rfl,?_,hr,KeepL.refl _ _,fun p hp=>?_⟩ ?_
 ·rfl
 ·split
  ·rename_i h
   have h0:p=0:=by
    rcases Nat.lt_or_ge p 1 with h1 | h1
    ·omega
    ·have h2:jn n p=0:=by omega
     have h3:=(hJ p hp).1
     rw[h2] at h3
     have h4:jn n 0=0:=rfl
     omega
   subst h0;rfl
  ·rfl
 clear hr
 rintro j e T ⟨i,f,rfl,hi1,hi,e0',e1,e4,e5,e6,hf,hk,hfp⟩
 refine W.env5 e0' e1 e4 e5 e6 (go ?_)
 refine W.ite rfl (fun h=>?_) (fun h=>?_)
 ·have hin:i<n:=by have:=of_decide_eq_true h;omega
  clear h
  have hj1:=(hJ (i - 1) (by omega)).2
  refine go ?_
  rw[half_nat]
  refine W.loop (fun j' e' S'=>∃ fu bit jj,j'=fu∧bit<2^fu∧bit<4096∧jj<4096∧nj fu bit jj=jn n i∧S'=T∧e' 0=.slice (some ⟨b,0,none⟩) n cap∧e' 1=vf sg∧e' 4=vi n∧e' 5=vi i∧e' 6=vi jj∧e' 7=vi bit) 12
   ⟨12,n / 2,jn n (i - 1),rfl,by omega,by omega,by omega,?_,rfl,rfl,rfl,rfl,rfl,rfl,rfl⟩ ?_
  ·show nj 12 (n / 2) (jn n (i - 1))=jn n i
   conv=>rhs;rw[show i=(i - 1)+1 by omega]
   rfl
  clear e0' e1 e4 e5 e6 e
  rintro fu e T' ⟨fu',bit,jj,rfl,hb1,hb2,hj2,hnj,rfl,e0',e1,e4,e5,e6,e7⟩
  refine W.env6 e0' e1 e4 e5 e6 e7 (go ?_)
  rw[and_nat hj2 hb2]
  refine W.ite rfl (fun h=>?_) (fun h=>?_)
  ·have hne:jj &&& bit≠0:=by
    intro h0;rw[h0] at h;cases h
   clear h
   cases fu with
   | zero=>
    have:bit=0:=by simpa using hb1
    subst this
    exact absurd (Nat.and_zero jj) hne
   | succ fu=>
    refine go ?_
    rw[xor_nat hj2 hb2,half_nat]
    refine⟨fu,by omega,fu,bit / 2,jj ^^^ bit,rfl,by rw[Nat.pow_succ] at hb1;omega,by omega,xor_lt hj2 hb2,?_,rfl,rfl,rfl,rfl,rfl,rfl,rfl⟩
    rw[← hnj]
    conv=>rhs;unfold nj
    rw[if_neg hne]
  ·have h0:jj &&& bit=0:=by
    refine Classical.byContradiction fun hc=>?_
    have:(((jj &&& bit:Nat):Int) != 0)=true:=by rw[bne_iff_ne];omega
    rw[this] at h;cases h
   have hji:jj ^^^ bit=jn n i:=by
    rw[← hnj]
    cases fu with
    | zero=>rfl
    | succ fu=>
     conv=>rhs;unfold nj
     rw[if_pos h0]
   clear h hnj hb1
   have hji2:=(hJ i hin).2
   refine go ?_
   rw[xor_nat hj2 hb2,hji]
   refine W.ite rfl (fun h=>?_) (fun h=>?_)
   ·have hij:i<jn n i:=by have:=of_decide_eq_true h;omega
    clear h
    have hii:=(hJ i hin).1
    have fi:f i=w i:=by rw[hfp i hin,if_neg (by omega)]
    have fj:f (jn n i)=w (jn n i):=by rw[hfp _ hji2,hii,if_neg (by omega)]
    refine go ?_
    refine L.el (hf.slv (c:=cap)) (k:=jn n i) rfl (fc_get f hji2) rfl rfl rfl rfl (fun _=>rfl) rfl (fun p=>go ?_)
    refine L.el (hf.slv (c:=cap)) (k:=i) rfl (fc_get f hin) rfl rfl rfl rfl (fun _=>rfl) rfl (fun p=>?_)
    refine L.elst hf rfl (by show 0+n≤(fc n f).length;rw[fc_len];omega) rfl hin rfl rfl rfl rfl (fun _=>rfl) (fun _=>rfl) rfl rfl rfl (fun p=>?_)
    have hf1:=hf.set i (f (jn n i))
    have k1:=hk.trans (keepL_set' T' b { newR (fc n f) 118 with cells:=(newR (fc n f) 118).cells.set (0+i) (vc (f (jn n i))) })
    generalize List.set T' b _=T1 at *
    refine L.elst hf1 rfl (by show 0+n≤(fc n _).length;rw[fc_len];omega) rfl hji2 rfl rfl rfl rfl (fun _=>rfl) (fun _=>rfl) rfl rfl rfl (fun p=>?_)
    have hf2:=hf1.set (jn n i) (f i)
    have k2:=k1.trans (keepL_set' T1 b { newR (fc n (upd f i (f (jn n i)))) 118 with cells:=(newR (fc n (upd f i (f (jn n i)))) 118).cells.set (0+jn n i) (vc (f i)) })
    generalize List.set T1 b _=T2 at *
    refine go ?_
    refine⟨n - (i+1),by omega,i+1,_,rfl,by omega,by omega,rfl,rfl,rfl,?_,by rw[Nat.add_sub_cancel];rfl,hf2,k2,fun p hp=>?_⟩
    ·refine(force_eq rfl).trans ?_
     rw[wrap64 (by omega) (by omega)];rfl
    ·have hp2:=hJ p hp
     unfold upd
     by_cases h1:p=jn n i
     ·subst h1
      rw[if_pos rfl,fi,hii,if_pos (by omega)]
     ·rw[if_neg h1]
      by_cases h2:p=i
      ·subst h2
       rw[if_pos rfl,fj,if_pos (by omega)]
      ·rw[if_neg h2,hfp p hp]
       have h3:min p (jn n p)≠i:=by
        intro h4
        rcases Nat.le_total p (jn n p) with h5 | h5
        ·rw[Nat.min_eq_left h5] at h4;exact h2 h4
        ·rw[Nat.min_eq_right h5] at h4
         rw[← h4,hp2.1] at h1;exact h1 rfl
       by_cases h4:min p (jn n p)<i
       ·rw[if_pos h4,if_pos (by omega)]
       ·rw[if_neg h4,if_neg (by omega)]
   ·have hij:jn n i≤i:=by have:=of_decide_eq_false h;omega
    clear h
    refine go ?_
    refine⟨n - (i+1),by omega,i+1,f,rfl,by omega,by omega,rfl,rfl,rfl,?_,by rw[Nat.add_sub_cancel];rfl,hf,hk,fun p hp=>?_⟩
    ·refine(force_eq rfl).trans ?_
     rw[wrap64 (by omega) (by omega)];rfl
    ·have hp2:=hJ p hp
     rw[hfp p hp]
     by_cases h4:min p (jn n p)<i
     ·rw[if_pos h4,if_pos (by omega)]
     ·rw[if_neg h4]
      by_cases h5:min p (jn n p)<i+1
      ·rw[if_pos h5]
       have hii:=(hJ i hin).1
       have h6:p=i:=by
        rcases Nat.le_total p (jn n p) with h7 | h7
        ·rw[Nat.min_eq_left h7] at h4 h5;omega
        ·rw[Nat.min_eq_right h7] at h4 h5
         have h8:jn n p=i:=by omega
         have h9:=hp2.1
         rw[h8] at h9;omega
       subst h6
       have h7:jn n p=p:=by
        have h8:p≤jn n p:=by omega
        omega
       rw[h7]
      ·rw[if_neg h5]
 have hin:i=n:=by have:=of_decide_eq_false h;omega
 subst hin
 clear h e5 e6
 have hfa:∀ p,p<i→f p=w (jn i p):=fun p hp=>by rw[hfp p hp,if_pos (by omega)]
 refine go ?_
 have hst0:Stage c (fun p=>a (jn i p)) i 0 f (err e0 B 0):=Stage.zero hW.zero fun j hj=>by
  rw[hfa j hj];exact hw _ (hJ j hj).2
 have ha':∀ p,((fun p=>a (jn i p)) p).M B:=fun p=>ha _
 clear hfp hfa hw
 refine W.loop (fun j e S'=>∃ s f,j=12 - s∧s≤Lg∧e 0=.slice (some ⟨b,0,none⟩) i cap∧e 1=vf sg∧e 4=vi i∧e 8=vi (2^(s+1))∧CRow S' b i f∧KeepL [b] S S'∧Stage c (fun p=>a (jn i p)) i s f (err e0 B s)) 12
  ⟨0,f,rfl,by omega,rfl,rfl,rfl,rfl,hf,hk,hst0⟩ ?_
 clear hst0 hf hk e0' e1 e4 e hi hi1
 rintro j e T1 ⟨s,f,rfl,hsL,e0',e1,e4,e8,hf,hk,hst⟩
 refine W.env4 e0' e1 e4 e8 ?_
 have hP:2^(s+1)≤4096:=Nat.pow_le_pow_right (n:=2) (i:=s+1) (j:=12) (by omega) (by omega)
 have h2s:2^(s+1)=2*2^s:=by rw[Nat.pow_succ];omega
 have h2p:1≤2^s:=Nat.one_le_two_pow
 refine go ?_
 refine W.ite rfl (fun h=>?_) (fun h=>?_)
 ·have hle:2^(s+1)≤i:=by have:=of_decide_eq_true h;omega
  clear h
  have hs11:s<Lg:=by
   rw[hn] at hle
   have:=(Nat.pow_le_pow_iff_right (a:=2) (by omega)).1 hle
   omega
  have hmod:i % 2^(s+1)=0:=by
   rw[hn,show Lg=(Lg - (s+1))+(s+1) by omega,Nat.pow_add];exact Nat.mul_mod_left _ _
  have htw:∀ k,k<2^s→∃ x,CV (twW sg s k) x∧(x.sub (c (k*2^(10 - s)))).M eta:=fun k hk=>(hW.tw (by omega) hk).2
  refine go ?_
  rw[show ((2^(s+1):Nat):Int).tdiv 2=((2^s:Nat):Int) by rw[h2s];exact(Int.ofNat_tdiv (2*2^s) 2).symm.trans (by rw[Nat.mul_div_cancel_left _ (by omega)]),wrap64 (show -9223372036854775808≤((2^s:Nat):Int) by omega) (by omega)]
  refine W.loop (fun j e S'=>∃ k g,j=2^s - k∧k≤2^s∧e 0=.slice (some ⟨b,0,none⟩) i cap∧e 1=vf sg∧e 4=vi i∧e 8=vi (2^(s+1))∧e 9=vi (2^s)∧e 62=vi (2^s)∧e 63=vi k∧CRow S' b i g∧KeepL [b] S S'∧∀ p,p<i→g p=if p % 2^s<k then flyW f (twW sg s) s p else f p) (2^s)
   ⟨0,f,rfl,by omega,rfl,rfl,rfl,rfl,rfl,rfl,rfl,hf,hk,fun p _=>by rw[if_neg (by omega)]⟩ ?_
  clear e0' e1 e4 e8 e hf hk
  rintro j e T2 ⟨k,g,rfl,hks,e0',e1,e4,e8,e9,e62,e63,hg,hk,hgp⟩
  refine W.env7 e0' e1 e4 e8 e9 e62 e63 (go ?_)
  refine W.ite rfl (fun h=>?_) (fun h=>?_)
  ·have hkl:k<2^s:=by have:=of_decide_eq_true h;omega
   clear h
   have htwk:=(hW.tw (show s≤10 by omega) hkl).1
   unfold twO at htwk
   rw[Option.bind_eq_some_iff] at htwk
   obtain⟨ang,hang,htwk⟩:=htwk
   rw[Option.map_eq_some_iff] at htwk
   obtain⟨⟨si,co⟩,hsc,htwk⟩:=htwk
   unfold angleO dbl at hang
   simp only [Option.bind_eq_some_iff] at hang
   obtain⟨m1,g1,m2,g2,m3,g3,g4⟩:=hang
   refine go ?_
   refine L.fmul g1 rfl rfl rfl ?_
   refine L.fmul g2 rfl rfl rfl (go ?_)
   rw[nearest_nat k]
   refine L.fmul g3 rfl rfl rfl (go ?_)
   rw[nearest_nat (2^(s+1))]
   refine L.fquo g4 rfl rfl rfl ?_
   refine L.cl (sincos_C ang si co (div_lt g4) hsc T2 (hS.keepL hk (by simpa using hb))) rfl rfl ?_
   rintro _ _ ⟨rfl,rfl⟩
   refine⟨nofun,go ?_⟩
   refine L.cx rfl rfl rfl (go ?_)
   have htwv:vc (co,si)=vc (twW sg s k):=congrArg vc htwk
   refine W.loop (fun j e S'=>∃ q g,j=i - q∧q≤i∧q*2^(s+1)≤i∧e 0=.slice (some ⟨b,0,none⟩) i cap∧e 1=vf sg∧e 4=vi i∧e 8=vi (2^(s+1))∧e 9=vi (2^s)∧e 13=vc (twW sg s k)∧e 14=vi (q*2^(s+1)+k)∧e 62=vi (2^s)∧e 63=vi k∧CRow S' b i g∧KeepL [b] S S'∧∀ p,p<i→g p=if p % 2^s<k∨(p % 2^s=k∧p / 2^(s+1)<q) then flyW f (twW sg s) s p else f p) i
    ⟨0,g,rfl,by omega,by omega,?_,?_,?_,?_,?_,?_,?_,?_,?_,hg,hk,fun p hp=>?_⟩ ?_
   ·rfl
   ·rfl
   ·rfl
   ·rfl
   ·rfl
   ·exact htwv
   ·show vi k=vi (0*2^(s+1)+k)
    rw[Nat.zero_mul,Nat.zero_add]
   ·rfl
   ·rfl
   ·rw[hgp p hp]
    by_cases h1:p % 2^s<k
    ·rw[if_pos h1,if_pos (.inl h1)]
    ·rw[if_neg h1,if_neg (fun h2=>h2.elim h1 (fun h3=>Nat.not_lt_zero _ h3.2))]
   clear e0' e1 e4 e8 e9 e62 e63 e hg hk hgp g g1 g2 g3 g4 hsc htwv htwk
   rintro j e T3 ⟨q,g,rfl,hqi,hqs,e0',e1,e4,e8,e9,e13,e14,e62,e63,hg,hk,hgp⟩
   refine W.env9 e0' e1 e4 e8 e9 e13 e14 e62 e63 (go ?_)
   refine W.ite rfl (fun h=>?_) (fun h=>?_)
   ·have hlt:q*2^(s+1)+k<i:=by have:=of_decide_eq_true h;omega
    clear h
    have hlt2:q*2^(s+1)+2^(s+1)≤i:=by
     obtain⟨d,hd⟩:=Nat.dvd_of_mod_eq_zero hmod
     rw[hd,Nat.mul_comm (2^(s+1)) d] at hlt ⊢
     have h1:q*2^(s+1)<d*2^(s+1):=by omega
     have h2:q<d:=Nat.lt_of_mul_lt_mul_right h1
     have:=Nat.mul_le_mul_right (2^(s+1)) h2
     rw[Nat.succ_mul] at this;exact this
    have hq1:q<i:=by
     have:=Nat.le_mul_of_pos_right q (show 0<2^(s+1) by omega)
     omega
    obtain⟨m,r1,r2,z1,z2,a1,a2,a3,_⟩:=Stage.core hW.turns (show s<11 by omega) hB hB2 ha' he0 he hmod hst htw q k (by omega) hkl
    obtain⟨y1,y2⟩:=flyW_at (w:=f) (tw:=twW sg s) hkl a1 a2 a3
    have i1:(q*2^(s+1)+k) / 2^(s+1)=q:=by rw[Nat.mul_comm,Nat.mul_add_div (by omega),Nat.div_eq_of_lt (by omega)];omega
    have i2:(q*2^(s+1)+k) % 2^s=k:=by rw[h2s,← Nat.mul_assoc,Nat.mul_comm,Nat.mul_add_mod,Nat.mod_eq_of_lt hkl]
    have i3:(q*2^(s+1)+k+2^s) / 2^(s+1)=q:=by rw[Nat.add_assoc,Nat.mul_comm,Nat.mul_add_div (by omega),Nat.div_eq_of_lt (by omega)];omega
    have i4:(q*2^(s+1)+k+2^s) % 2^s=k:=by rw[Nat.add_mod_right,i2]
    have u1:g (q*2^(s+1)+k)=f (q*2^(s+1)+k):=by rw[hgp _ hlt,if_neg (by rw[i1,i2];omega)]
    have u2:g (q*2^(s+1)+k+2^s)=f (q*2^(s+1)+k+2^s):=by rw[hgp _ (by omega),if_neg (by rw[i3,i4];omega)]
    rw[← u1] at a2 a3
    rw[← u2] at a1
    obtain⟨x0,hx0⟩:∃ x0,x0=q*2^(s+1)+k:=⟨_,rfl⟩
    rw[← hx0] at a1 a2 a3 i1 i2 i3 i4 u1 u2 y1 y2 hlt ⊢
    have hx1:x0+2^s<i:=by omega
    refine go ?_
    refine L.el (hg.slv (c:=cap)) (k:=x0) rfl (fc_get g hlt) rfl rfl rfl rfl (fun _=>rfl) rfl (fun p=>go ?_)
    rw[show IntKind.i64.wrap ((x0:Int)+((2^s:Nat):Int))=((x0+2^s:Nat):Int) by rw[wrap64 (by omega) (by omega)];rfl]
    refine L.el (hg.slv (c:=cap)) (k:=x0+2^s) rfl (fc_get g hx1) rfl rfl rfl rfl (fun _=>rfl) rfl (fun p=>go ?_)
    refine L.cmul a1 rfl rfl rfl (go ?_)
    rw[show IntKind.i64.wrap ((x0:Int)+((2^s:Nat):Int))=((x0+2^s:Nat):Int) by rw[wrap64 (by omega) (by omega)];rfl]
    refine L.cadd a2 rfl rfl rfl (go ?_)
    refine L.csub a3 rfl rfl rfl ?_
    refine L.elst hg rfl (by show 0+i≤(fc i g).length;rw[fc_len];omega) rfl hlt rfl rfl rfl rfl (fun _=>rfl) (fun _=>rfl) rfl rfl rfl (fun p=>?_)
    have hg1:=hg.set x0 r1
    have k1:=hk.trans (keepL_set' T3 b { newR (fc i g) 118 with cells:=(newR (fc i g) 118).cells.set (0+x0) (vc r1) })
    generalize List.set T3 b _=T4 at *
    refine L.elst hg1 rfl (by show 0+i≤(fc i _).length;rw[fc_len];omega) rfl hx1 rfl rfl rfl rfl (fun _=>rfl) (fun _=>rfl) rfl rfl rfl (fun p=>?_)
    have hg2:=hg1.set (x0+2^s) r2
    have k2:=k1.trans (keepL_set' T4 b { newR (fc i (upd g x0 r1)) 118 with cells:=(newR (fc i (upd g x0 r1)) 118).cells.set (0+(x0+2^s)) (vc r2) })
    generalize List.set T4 b _=T5 at *
    refine go ?_
    refine⟨i - (q+1),by omega,q+1,_,rfl,by omega,by rw[Nat.succ_mul];exact hlt2,rfl,rfl,rfl,rfl,rfl,rfl,?_,rfl,rfl,hg2,k2,fun p hp=>?_⟩
    ·refine(force_eq rfl).trans ?_
     rw[wrap64 (by omega) (by omega),hx0,Nat.succ_mul]
     exact congrArg (Value.int .i64) (by omega)
    ·unfold upd
     by_cases p1:p=x0+2^s
     ·rw[if_pos p1,p1,if_pos (.inr ⟨i4,by rw[i3];exact Nat.lt_succ_self _⟩)];exact y2.symm
     ·rw[if_neg p1]
      by_cases p2:p=x0
      ·rw[if_pos p2,p2,if_pos (.inr ⟨i2,by rw[i1];exact Nat.lt_succ_self _⟩)];exact y1.symm
      ·rw[if_neg p2,hgp p hp]
       by_cases p3:p % 2^s<k∨(p % 2^s=k∧p / 2^(s+1)<q)
       ·rw[if_pos p3,if_pos (p3.imp id fun h3=>⟨h3.1,by omega⟩)]
       ·rw[if_neg p3,if_neg]
        rintro (p4 | ⟨p4,p5⟩)
        ·exact p3 (.inl p4)
        ·have p6:p / 2^(s+1)=q:=by
          refine Classical.byContradiction fun hc=>p3 (.inr ⟨p4,by omega⟩)
         have d1:=Nat.div_add_mod p (2^(s+1))
         rw[p6,Nat.mul_comm] at d1
         have d2:=Nat.mod_lt p (show 0<2^(s+1) by omega)
         have d3:p % 2^(s+1) % 2^s=k:=by rw[h2s,Nat.mod_mul_left_mod];exact p4
         generalize p % 2^(s+1)=r at *
         by_cases hr:r<2^s
         ·rw[Nat.mod_eq_of_lt hr] at d3;omega
         ·rw[show r=(r - 2^s)+2^s by omega,Nat.add_mod_right,Nat.mod_eq_of_lt (by omega)] at d3;omega
   ·have hge:i≤q*2^(s+1)+k:=by have:=of_decide_eq_false h;omega
    clear h
    have hqd:∀ p,p<i→p / 2^(s+1)<q:=fun p hp=>by
     refine(Nat.div_lt_iff_lt_mul (by omega)).2 ?_
     obtain⟨d,hd⟩:=Nat.dvd_of_mod_eq_zero hmod
     have h1:d≤q:=by
      refine Classical.byContradiction fun hc=>?_
      have:=Nat.mul_le_mul_right (2^(s+1)) (show q+1≤d by omega)
      rw[Nat.succ_mul,Nat.mul_comm d,← hd] at this;omega
     have:=Nat.mul_le_mul_right (2^(s+1)) h1
     rw[Nat.mul_comm d,← hd] at this;omega
    refine go ?_
    refine⟨2^s - (k+1),by omega,k+1,g,rfl,by omega,rfl,rfl,rfl,rfl,rfl,rfl,?_,hg,hk,fun p hp=>?_⟩
    ·refine(force_eq rfl).trans ?_
     rw[wrap64 (by omega) (by omega)];rfl
    ·rw[hgp p hp]
     by_cases h1:p % 2^s<k+1
     ·rw[if_pos h1,if_pos]
      by_cases h2:p % 2^s<k
      ·exact .inl h2
      ·exact .inr ⟨by omega,hqd p hp⟩
     ·rw[if_neg h1,if_neg (fun h2=>h2.elim (fun h3=>by omega) (fun h3=>by omega))]
  ·have hkn:k=2^s:=by have:=of_decide_eq_false h;omega
   subst hkn
   clear h
   have hnew:∀ p,p<i→g p=flyW f (twW sg s) s p:=fun p hp=>by rw[hgp p hp,if_pos (Nat.mod_lt _ (by omega))]
   have hst2:Stage c (fun p=>a (jn i p)) i (s+1) g (err e0 B (s+1)):=fun j hj=>by
    rw[hnew j hj]
    exact Stage.fly hW.turns (by omega) hB hB2 ha' he0 he hmod hst htw j hj
   refine go ?_
   refine⟨12 - (s+1),by omega,s+1,g,rfl,by omega,rfl,rfl,rfl,?_,hg,hk,hst2⟩
   refine(force_eq rfl).trans ?_
   rw[wrap64 (by omega) (by omega),Nat.pow_succ 2 (s+1)]
   exact congrArg (Value.int .i64) (by omega)
 ·have hgt:¬ 2^(s+1)≤i:=by have:=of_decide_eq_false h;omega
  clear h
  have hsL2:s=Lg:=by
   refine Classical.byContradiction fun hc=>hgt ?_
   rw[hn];exact Nat.pow_le_pow_right (by omega) (by omega)
  subst hsL2
  refine go ?_
  refine⟨.inl rfl,_,rfl,hk,f,hf,fun j hj=>?_⟩
  obtain⟨x,x1,x2⟩:=hst j hj
  refine⟨x,x1,?_⟩
  rw[← hn,Nat.div_eq_of_lt hj,Nat.mod_eq_of_lt hj] at x2
  have e1:Cx.dft c s (sq (fun p=>a (jn i p)) s 0) j=Cx.dft c s a j:=by
   unfold Cx.dft
   refine Cx.sum_congr fun t ht=>?_
   have:=sq_top hL a ht
   rw[← hn] at this
   rw[this]
  rw[e1] at x2;exact x2
end
section
open Go Ie
variable {Ext:FuncId→List Value→Mem→Outc→Mem→Prop}
attribute [local irreducible] Ieee.Format.add Ieee.Format.sub Ieee.Format.mul Ieee.Format.div Ieee.Format.order Ieee.Format.nearest Ieee.Datum.toInt
theorem limb_byte {l:WL} {i k:Nat} {x:BitVec 64} (h:l[i]?=some x) (hk:k<8):IntKind.u8.wrap ((x.toNat:Int).fdiv (2^(8*k)))=((bA (wnum l) (8*i+k):Nat):Int):=by
 have hx:=limb_get h
 rw[show ((x.toNat:Int).fdiv (2^(8*k)))=((x.toNat / 2^(8*k):Nat):Int) by
  rw[← natCast_pow2];exact(Int.ofNat_fdiv x.toNat (2^(8*k))).symm]
 have hw:IntKind.u8.wrap ((x.toNat / 2^(8*k):Nat):Int)=((x.toNat / 2^(8*k) % 256:Nat):Int):=by
  rw[wrap_u8,BitVec.toNat_ofInt]
  show (((((x.toNat / 2^(8*k):Nat):Int) % ((2^8:Nat):Int)).toNat:Nat):Int)=_
  omega
 rw[hw]
 congr 1
 rw[hx]
 unfold bA
 rw[p256,show 8*(8*i+k)=64*i+8*k by omega,Nat.pow_add,← Nat.div_div_eq_div_mul]
 generalize wnum l / 2^(64*i)=z
 have h8:(2:Nat)^64=2^(8*k)*2^(64 - 8*k):=by rw[← Nat.pow_add];congr 1;omega
 rw[h8,Nat.mod_mul_right_div_self]
 exact Nat.mod_mod_of_dvd _ (Nat.pow_dvd_pow 2 (show 8≤64 - 8*k by omega))
theorem fNat_zero:fNat 0=0:=by kernel_rfl
def bW (N p:Nat):Nat × Nat:=(fNat (bA N p),0)
theorem fc_zero (n:Nat):List.replicate n (vc (0,0))=fc n fun _=>(0,0):=by
 unfold fc
 rw[List.map_const',List.length_range]
theorem spread_C (a:Option Addr) (c:Nat) (l:WL) (n:Nat) (S:Mem) (hI:Slv S 1 (.slice a l.length c) l.length (wv l)) (hl:8*l.length≤n) (hn:n≤2048) :
  C Tryz.prog gN Ext 128 [.slice a l.length c,vi n] S fun v S'=>v=.slice (some ⟨S.length,0,none⟩) n n∧Cons S S'∧CRow S' S.length n (bW (wnum l)):=by
 refine C.fn Tryz.func128 rfl (by kernel_rfl) rfl (go ?_)
 refine L.mk (n:=n) (m:=n) (bytes:=16) (zv:=vc (0,0)) rfl rfl rfl rfl rfl (Nat.le_refl _) (by omega) rfl rfl ?_
 have hr:CRow (S++[newR (List.replicate n (vc (0,0))) 118]) S.length n (fun _=>(0,0)):=by
  unfold CRow;rw[← fc_zero];exact row_push_new rfl
 have hc:Cons S (S++[newR (List.replicate n (vc (0,0))) 118]):=Cons.push _ _
 generalize S++[newR (List.replicate n (vc (0,0))) 118]=S1 at *
 obtain⟨rb,hrb⟩:∃ rb,rb=S.length:=⟨_,rfl⟩
 rw[← hrb] at hr ⊢
 refine go ?_
 refine W.loop (fun j e T=>∃ i g,j=l.length - i∧i≤l.length∧e 5=.slice (some ⟨rb,0,none⟩) n n∧e 11=.slice a l.length c∧e 12=vi l.length∧e 13=vi i∧Cons S T∧CRow T rb n g∧∀ p,p<n→g p=if p<8*i then bW (wnum l) p else (0,0)) l.length
  ⟨0,_,by omega,by omega,rfl,rfl,rfl,rfl,hc,hr,fun p _=>by rw[if_neg (by omega)]⟩ ?_
 clear hr hc
 rintro j e T ⟨i,g,rfl,hi,e5,e11,e12,e13,hc,hg,hgp⟩
 refine W.env4 e5 e11 e12 e13 (go ?_)
 refine W.ite rfl (fun h=>?_) (fun h=>?_)
 ·have hin:i<l.length:=by have:=of_decide_eq_true h;omega
  clear h
  obtain⟨x,hx⟩:∃ x,l[i]?=some x:=⟨_,List.getElem?_eq_getElem hin⟩
  refine go ?_
  refine L.el (hI.cons hc) (k:=i) rfl (wv_get hx) rfl rfl rfl rfl (fun _=>rfl) rfl (fun p=>go ?_)
  refine W.loop (fun j e T=>∃ k g,j=8 - k∧k≤8∧e 5=.slice (some ⟨rb,0,none⟩) n n∧e 6=vi i∧e 7=v64 x∧e 11=.slice a l.length c∧e 12=vi l.length∧e 13=vi i∧e 18=vi k∧Cons S T∧CRow T rb n g∧∀ p,p<n→g p=if p<8*i+k then bW (wnum l) p else (0,0)) 8
   ⟨0,g,by omega,by omega,rfl,rfl,rfl,rfl,rfl,rfl,rfl,hc,hg,fun p hp=>by rw[hgp p hp,Nat.add_zero]⟩ ?_
  clear hg hgp hc e5 e11 e12 e13 e g
  rintro j e T2 ⟨k,g,rfl,hk,e5,e6,e7,e11,e12,e13,e18,hc,hg,hgp⟩
  refine W.env7 e5 e6 e7 e11 e12 e13 e18 (go ?_)
  refine W.ite rfl (fun h=>?_) (fun h=>?_)
  ·have hk8:k<8:=by have:=of_decide_eq_true h;omega
   clear h
   have hpn:8*i+k<n:=by omega
   refine go ?_
   have w1:IntKind.i64.wrap (8*(i:Int))=((8*i:Nat):Int):=by rw[wrap64 (by omega) (by omega)];rfl
   have w2:IntKind.i64.wrap (((8*i:Nat):Int)+(k:Int))=((8*i+k:Nat):Int):=by rw[wrap64 (by omega) (by omega)];rfl
   have w3:IntKind.i64.wrap (8*(k:Int))=((8*k:Nat):Int):=by rw[wrap64 (by omega) (by omega)];rfl
   rw[w1,w2,w3]
   refine L.shr (8*k) rfl rfl rfl (by show 8*k≤64;omega) rfl (go ?_)
   rw[limb_byte hx hk8]
   rw[nearest_nat]
   refine L.cx rfl rfl rfl ?_
   refine L.elst hg rfl (by show 0+n≤(fc n g).length;rw[fc_len];omega) rfl hpn rfl rfl rfl rfl (fun _=>rfl) (fun _=>rfl) rfl rfl rfl (fun p=>?_)
   have hg2:=hg.set (8*i+k) (bW (wnum l) (8*i+k))
   have hc2:=hc.set rb { newR (fc n g) 118 with cells:=(newR (fc n g) 118).cells.set (0+(8*i+k)) (vc (bW (wnum l) (8*i+k))) } (by omega)
   unfold bW at hg2 hc2
   generalize List.set T2 rb _=T3 at *
   refine go ?_
   refine⟨8 - (k+1),by omega,k+1,_,rfl,by omega,rfl,rfl,rfl,rfl,rfl,rfl,?_,hc2,hg2,fun p hp=>?_⟩
   ·refine(force_eq rfl).trans ?_
    rw[wrap64 (by omega) (by omega)];rfl
   ·unfold upd
    by_cases h1:p=8*i+k
    ·rw[if_pos h1,if_pos (by omega),h1];rfl
    ·rw[if_neg h1,hgp p hp]
     by_cases h2:p<8*i+k
     ·rw[if_pos h2,if_pos (by omega)]
     ·rw[if_neg h2,if_neg (by omega)]
  ·have hk8:k=8:=by have:=of_decide_eq_false h;omega
   subst hk8
   clear h
   refine go ?_
   refine⟨l.length - (i+1),by omega,i+1,g,rfl,by omega,rfl,rfl,rfl,?_,hc,hg,fun p hp=>by rw[hgp p hp,show 8*i+8=8*(i+1) by omega]⟩
   refine(force_eq rfl).trans ?_
   rw[wrap64 (by omega) (by omega)];rfl
 ·have hin:i=l.length:=by have:=of_decide_eq_false h;omega
  subst hin
  clear h
  refine go ?_
  refine⟨.inr rfl,_,rfl,rfl,hc,?_⟩
  have:fc n g=fc n (bW (wnum l)):=fc_congr fun p hp=>by
   rw[hgp p hp]
   by_cases h1:p<8*l.length
   ·rw[if_pos h1]
   ·rw[if_neg h1]
    have h2:=wnum_lt l
    have h3:wnum l<256^p:=by
     rw[p256]
     exact Nat.lt_of_lt_of_le h2 (Nat.pow_le_pow_right (by omega) (by omega))
    unfold bW
    rw[bA_zero h3,fNat_zero]
  unfold CRow at hg ⊢
  rw[← this];exact hg
end
section
open Go Ie
variable {Ext:FuncId→List Value→Mem→Outc→Mem→Prop}
attribute [local irreducible] Ieee.Format.add Ieee.Format.sub Ieee.Format.mul Ieee.Format.div Ieee.Format.order Ieee.Format.nearest Ieee.Datum.toInt
theorem archFloor_fn : ExternFn Tryz.prog 154 (Extern.MathFloor.toIntegral "math.archFloor" .down) := ⟨_, Tryz.func154, by kernel_rfl, rfl, by kernel_rfl, by kernel_rfl⟩
def flD (h:Nat) (d:Ieee.Datum):Sem Value:=match d with
 | .nan s t=>
  if FloatKind.f64.format.quiet t=t then pure (.float .f64 h) else do
   let kept ← choose (.extern "math.Floor,Ceil,Trunc,RoundToEven.signallingNaN kept" 2)
   pure (.float .f64 (if kept==1 then h else FloatKind.f64.encode (.nan s (FloatKind.f64.format.quiet t))))
 | d=>pure (.float .f64 (FloatKind.f64.encode (d.integral .down)))
theorem floor_run {P : Program} {h c : Nat} (hi : (Ieee.double.read h).integral .down = .number false c 0) (w : World) : (Extern.MathFloor.toIntegral "math.archFloor" .down #[vf h]).run P w = .ok (vf (fNat c)) w := by
 have e1 : Extern.MathFloor.toIntegral "math.archFloor" .down #[vf h] = flD h (Ieee.double.read h) := rfl
 rw[e1]
 cases hr:Ieee.double.read h with
 | number s m p=>
  rw[hr] at hi
  show Sem.run P (pure (Value.float .f64 (FloatKind.f64.encode ((Ieee.Datum.number s m p).integral .down)))) w=_
  rw[hi];rfl
 | infinity s=>rw[hr] at hi;cases hi
 | nan s t=>rw[hr] at hi;cases hi
theorem floor_C (h c:Nat) (hi:(Ieee.double.read h).integral .down=.number false c 0) (S:Mem):C Tryz.prog gN Ext 130 [vf h] S fun v S'=>v=vf (fNat c)∧S'=S:=by
 refine C.fn Tryz.func130 rfl (by kernel_rfl) rfl (go ?_)
 refine W.condT rfl (go ?_)
 refine L.ext (v:=vf (fNat c)) rfl rfl archFloor_fn (fun ρ args' h=>⟨_,flat_VR _ rfl,fun w=>by rw[lr1 rfl h];exact floor_run hi w⟩) (go ?_)
 exact⟨.inr rfl,_,rfl,rfl,rfl⟩
theorem CRow.cons {S T:Mem} {b n:Nat} {f:Nat→Nat × Nat} (h:CRow S b n f) (k:Cons S T):CRow T b n f:=k.row' h
theorem CRow.keepL {S T:Mem} {b n:Nat} {f:Nat→Nat × Nat} {bs:List Nat} (h:CRow S b n f) (k:KeepL bs S T) (hb:b ∉ bs):CRow T b n f:=k.row h hb
theorem and255 {s:Nat} (h:s<9223372036854775808):IntKind.u64.wrap ((BitVec.ofInt IntKind.u64.bits (s:Int) &&& BitVec.ofInt IntKind.u64.bits 255).toNat:Int)=((s % 256:Nat):Int):=by
 have h1:(BitVec.ofInt 64 (s:Int) &&& BitVec.ofInt 64 255).toNat=s % 256:=by
  have h2:(BitVec.ofInt 64 255:BitVec 64)=BitVec.ofNat 64 (2^8 - 1):=by decide
  rw[h2,BitVec.toNat_and,BitVec.toNat_ofNat,Nat.mod_eq_of_lt (by decide),Nat.and_two_pow_sub_one_eq_mod,BitVec.toNat_ofInt]
  show ((s:Int) % ((2^64:Nat):Int)).toNat % 256=_
  omega
 show IntKind.u64.wrap ((BitVec.ofInt 64 (s:Int) &&& BitVec.ofInt 64 255).toNat:Int)=_
 rw[h1,wrapU64 (by omega) (by omega)]
theorem shl_b {b n:Nat} (hb:b<256) (hn:n≤56):IntKind.u64.wrap ((b:Int)*2^n)=((b*2^n:Nat):Int):=by
 have h1:b*2^n<256*2^n:=Nat.mul_lt_mul_of_pos_right hb (Nat.two_pow_pos n)
 have h2:2^n≤2^56:=Nat.pow_le_pow_right (by omega) hn
 have h3:((b:Int)*2^n)=((b*2^n:Nat):Int):=by rw[← natCast_pow2,Int.natCast_mul]
 rw[h3,wrapU64 (by omega) (by omega)]
theorem or_b {x b n:Nat} (hx:x<2^n) (hb:b<256) (hn:n≤56):IntKind.u64.wrap ((BitVec.ofInt IntKind.u64.bits (x:Int) ||| BitVec.ofInt IntKind.u64.bits ((b*2^n:Nat):Int)).toNat:Int)=((x+b*2^n:Nat):Int):=by
 have h1:b*2^n<256*2^n:=Nat.mul_lt_mul_of_pos_right hb (Nat.two_pow_pos n)
 have h2:2^n≤2^56:=Nat.pow_le_pow_right (by omega) hn
 have h5:x+b*2^n<2^64:=by
  have h6:b*2^n+2^n≤256*2^n:=by have:=Nat.mul_le_mul_right (2^n) (show b+1≤256 by omega);rwa [Nat.succ_mul] at this
  omega
 have h3:(BitVec.ofInt 64 (x:Int) ||| BitVec.ofInt 64 ((b*2^n:Nat):Int)).toNat=x+b*2^n:=by
  rw[BitVec.toNat_or,BitVec.toNat_ofInt,BitVec.toNat_ofInt,show ((x:Int) % ((2^64:Nat):Int)).toNat=x by omega,show (((b*2^n:Nat):Int) % ((2^64:Nat):Int)).toNat=b*2^n by omega]
  rw[Nat.or_comm,Nat.mul_comm,← Nat.two_pow_add_eq_or_of_lt hx];omega
 show IntKind.u64.wrap ((BitVec.ofInt 64 (x:Int) ||| BitVec.ofInt 64 ((b*2^n:Nat):Int)).toNat:Int)=_
 rw[h3,wrapU64 (by omega) (by omega)]
theorem shr8 (a:Nat):Int.fdiv (a:Int) (2^min (Int.toNat 8) IntKind.u64.bits)=((a / 256:Nat):Int):=by
 show Int.fdiv (a:Int) 256=_
 rw[Int.fdiv_eq_ediv_of_nonneg _ (by omega)];rfl
theorem out_step {o:WL} {k s:Nat} {x:BitVec 64} (hx:o[k / 8]?=some x) (ho:wnum o<256^k):x.toNat<2^(8*(k % 8))∧wnum (o.set (k / 8) (BitVec.ofNat 64 (x.toNat+s % 256*2^(8*(k % 8)))))=wnum o+s % 256*256^k∧(BitVec.ofNat 64 (x.toNat+s % 256*2^(8*(k % 8)))).toNat=x.toNat+s % 256*2^(8*(k % 8)):=by
 have h1:=limb_get hx
 have hk:256^k=2^(64*(k / 8))*2^(8*(k % 8)):=by rw[p256,← Nat.pow_add];congr 1;omega
 have h2:x.toNat<2^(8*(k % 8)):=by
  rw[h1]
  refine Nat.lt_of_le_of_lt (Nat.mod_le _ _) ?_
  rw[hk] at ho
  exact Nat.div_lt_of_lt_mul ho
 have h3:=wnum_set (y:=BitVec.ofNat 64 (x.toNat+s % 256*2^(8*(k % 8)))) hx
 have h4:x.toNat+s % 256*2^(8*(k % 8))<2^64:=by
  have a1:s % 256*2^(8*(k % 8))+2^(8*(k % 8))≤256*2^(8*(k % 8)):=by have:=Nat.mul_le_mul_right (2^(8*(k % 8))) (show s % 256+1≤256 by omega);rwa [Nat.succ_mul] at this
  have a2:2^(8*(k % 8))≤2^56:=Nat.pow_le_pow_right (by omega) (by omega)
  omega
 have h6:(BitVec.ofNat 64 (x.toNat+s % 256*2^(8*(k % 8)))).toNat=x.toNat+s % 256*2^(8*(k % 8)):=by rw[BitVec.toNat_ofNat,Nat.mod_eq_of_lt h4]
 rw[h6,Nat.add_mul] at h3
 have h5:s % 256*2^(8*(k % 8))*2^(64*(k / 8))=s % 256*256^k:=by rw[hk,Nat.mul_assoc,Nat.mul_comm (2^(8*(k % 8)))]
 rw[h5] at h3
 exact⟨h2,by omega,h6⟩
theorem ns_mod (F:Nat→Nat) (K d:Nat):ns (K+d) (fun m=>F m*256^m) % 256^K=ns K (fun m=>F m*256^m) % 256^K:=by
 induction d with
 | zero=>rfl
 | succ d ih=>
  show (ns (K+d) (fun m=>F m*256^m)+F (K+d)*256^(K+d)) % 256^K=_
  rw[Nat.pow_add,Nat.mul_left_comm,Nat.add_mul_mod_self_left,ih]
theorem transformed_C (a1 a2:Option Addr) (c1 c2:Nat) (l1 l2:WL) (S:Mem) (h1:Slv S 1 (.slice a1 l1.length c1) l1.length (wv l1)) (h2:Slv S 1 (.slice a2 l2.length c2) l2.length (wv l2))
  (n1:20≤l1.length) (n2:20≤l2.length) (n3:l1.length+l2.length≤129) (hS:SinOk S) (hG:gN≤S.length) :
  C Tryz.prog gN Ext 96 [.slice a1 l1.length c1,.slice a2 l2.length c2] S fun v S'=>∃ (ro:Nat) (o:WL),v=.slice (some ⟨ro,0,none⟩) (l1.length+l2.length) (l1.length+l2.length)∧S.length≤ro∧Cons S S'∧S'.row? ro=some (newR (wv o) 57)∧o.length=l1.length+l2.length∧wnum o=wnum l1*wnum l2:=by
 refine C.fn Tryz.func96 rfl (by kernel_rfl) rfl (go ?_)
 rw[show IntKind.i64.wrap ((l1.length:Int)+(l2.length:Int))=((l1.length+l2.length:Nat):Int) by rw[wrap64 (by omega) (by omega)];rfl]
 obtain⟨sz,hsz⟩:∃ sz,sz=l1.length+l2.length:=⟨_,rfl⟩
 rw[← hsz] at n3 ⊢
 refine W.loop (fun j e T=>∃ t,j=12 - t∧t≤11∧(t=0∨2^(t - 1)<8*sz)∧T=S∧e 0=.slice a1 l1.length c1∧e 1=.slice a2 l2.length c2∧e 5=vi sz∧e 6=vi (2^t)) 12
  ⟨0,rfl,by omega,.inl rfl,rfl,rfl,rfl,rfl,rfl⟩ ?_
 rintro j e T ⟨t,rfl,ht,ht0,rfl,e0,e1,e5,e6⟩
 refine W.env4 e0 e1 e5 e6 ?_
 have hp:2^t≤2048:=Nat.pow_le_pow_right (n:=2) (i:=t) (j:=11) (by omega) ht
 refine go ?_
 rw[show IntKind.i64.wrap (8*(sz:Int))=((8*sz:Nat):Int) by rw[wrap64 (by omega) (by omega)];rfl]
 refine W.ite rfl (fun h=>?_) (fun h=>?_)
 ·have hlt:2^t<8*sz:=by have:=of_decide_eq_true h;omega
  clear h
  have ht11:t<11:=by
   refine Classical.byContradiction fun hc=>?_
   have:t=11:=by omega
   subst this;omega
  refine go ?_
  refine⟨12 - (t+1),by omega,t+1,rfl,by omega,.inr (by rw[Nat.add_sub_cancel];exact hlt),rfl,rfl,rfl,rfl,?_⟩
  refine(force_eq rfl).trans ?_
  rw[Nat.pow_succ]
  generalize 2^t=N at *
  rw[wrap64 (by omega) (by omega)];rfl
 have hge:8*sz≤2^t:=by have:=of_decide_eq_false h;omega
 clear h
 have hL:Lok t:=by
  have h9:¬ t≤8:=fun hc=>by
   have:=Nat.pow_le_pow_right (n:=2) (by omega) hc;omega
  unfold Lok;omega
 have hL0:=ht0
 clear ht0
 obtain⟨n,hn⟩:∃ n,n=2^t:=⟨_,rfl⟩
 rw[← hn] at hge hp ⊢
 rename Mem=>S
 refine go ?_
 refine L.cl (spread_C a1 c1 l1 n S h1 (by omega) hp) rfl rfl ?_
 rintro _ S1 ⟨rfl,k1,hx1⟩
 refine⟨nofun,go ?_⟩
 refine L.cl (spread_C a2 c2 l2 n S1 (h2.cons k1) (by omega) hp) rfl rfl ?_
 rintro _ S2 ⟨rfl,k2,hy2⟩
 refine⟨nofun,?_⟩
 have hx2:=hx1.cons k2
 have hlt1:=row_lt hx1
 have hlt2:=row_lt hy2
 have hk2:=k1.trans k2
 refine go ?_
 obtain⟨bx,hbx⟩:∃ bx,bx=S.length:=⟨_,rfl⟩
 obtain⟨by',hby⟩:∃ by',by'=S1.length:=⟨_,rfl⟩
 rw[← hbx] at hx1 hx2 hlt1 hG ⊢
 rw[← hby] at hy2 hlt2 hlt1 ⊢
 have hCV:∀ (N:Nat),∀ j,j<n→∃ x,CV (bW N j) x∧(x.sub (aB N j)).M 0:=fun N j _=>by
  refine⟨aB N j,⟨fNat_FV (by have:=bA_le N j;omega),⟨false,0,-1074,by kernel_rfl,(show (0:Rat)=numR false 0 (-1074) by decide +kernel)⟩⟩,?_⟩
  rw[Cx.sub_self];exact Cx.M.zero (by decide +kernel)
 have hf1:=transform_C (Ext:=Ext) hL n bx n hn (.inl ⟨rfl,rfl⟩) (bW (wnum l1)) S2 hx2 hG (hS.cons hk2) (a:=aB (wnum l1)) (e0:=0) (B:=255) (by decide +kernel) (by decide +kernel) (aB_M _) (by decide +kernel) (by decide +kernel) (hCV _)
 refine L.cl hf1 rfl rfl ?_
 rintro _ S3 ⟨k3,fx,hx3,hfx⟩
 refine⟨nofun,?_⟩
 clear hf1
 have hy3:=hy2.keepL k3 (by simp;omega)
 have hk3:=k3.cons0 hk2 (by simp;omega)
 refine go ?_
 have hf2:=transform_C (Ext:=Ext) hL n by' n hn (.inl ⟨rfl,rfl⟩) (bW (wnum l2)) S3 hy3 (by omega) (hS.cons hk3) (a:=aB (wnum l2)) (e0:=0) (B:=255) (by decide +kernel) (by decide +kernel) (aB_M _) (by decide +kernel) (by decide +kernel) (hCV _)
 refine L.cl hf2 rfl rfl ?_
 rintro _ S4 ⟨k4,fy,hy4,hfy⟩
 refine⟨nofun,?_⟩
 clear hf2
 have hx4:=hx3.keepL k4 (by simp;omega)
 have hk4:=k4.cons0 hk3 (by simp;omega)
 have hprod:∀ p,p<n→∃ r z,cmul (fx p) (fy p)=some r∧CV r z∧(z.sub ((Cx.dft Cx.z t (aB (wnum l1)) p).mul (Cx.dft Cx.z t (aB (wnum l2)) p))).M (1 / 80):=fun p hp2=>by
  obtain⟨zu,u1,u2⟩:=hfx p hp2
  obtain⟨zv,v1,v2⟩:=hfy p hp2
  obtain⟨r,z,q1,q2,q3,_⟩:=prod_near hL u1 v1 u2 v2 (Cx.dft_M Cx.z_turns (by decide +kernel) (fun _ _=>aB_M _ _)) (Cx.dft_M Cx.z_turns (by decide +kernel) (fun _ _=>aB_M _ _))
  exact⟨r,z,q1,q2,q3⟩
 have hB1:∀ p,((Cx.dft Cx.z t (aB (wnum l1)) p).mul (Cx.dft Cx.z t (aB (wnum l2)) p)).M B1:=fun p=>by
  have b1:=(Cx.dft_M Cx.z_turns (s:=t) (k:=p) (B:=255) (by decide +kernel) (fun i _=>aB_M (wnum l1) i)).mono (pow_b hL)
  have b2:=(Cx.dft_M Cx.z_turns (s:=t) (k:=p) (B:=255) (by decide +kernel) (fun i _=>aB_M (wnum l2) i)).mono (pow_b hL)
  exact(b1.mul b2).mono (by decide +kernel)
 clear hfx hfy hCV k1 k2 k3 k4 hx2 hx3 hy3 hk2 hk3 hx1 hy2
 refine go ?_
 refine W.loop (fun j e T=>∃ i g,j=n - i∧i≤n∧e 5=vi sz∧e 6=vi n∧e 7=.slice (some ⟨bx,0,none⟩) n n∧e 8=.slice (some ⟨by',0,none⟩) n n∧e 35=vi n∧e 36=vi i∧Cons S T∧CRow T bx n g∧CRow T by' n fy∧∀ p,p<n→g p=if p<i then (cmul (fx p) (fy p)).getD (0,0) else fx p) n
  ⟨0,fx,rfl,by omega,rfl,rfl,rfl,rfl,rfl,rfl,hk4,hx4,hy4,fun p _=>by rw[if_neg (by omega)]⟩ ?_
 clear hk4 hx4 hy4 e0 e1 e5 e6 e
 rintro j e T ⟨i,g,rfl,hi,e5,e6,e7,e8,e35,e36,hkT,hg,hy,hgp⟩
 refine W.env6 e5 e6 e7 e8 e35 e36 (go ?_)
 refine W.ite rfl (fun h=>?_) (fun h=>?_)
 ·have hin:i<n:=by have:=of_decide_eq_true h;omega
  clear h
  obtain⟨r,z,hm,_⟩:=hprod i hin
  have gi:g i=fx i:=by rw[hgp i hin,if_neg (by omega)]
  refine go ?_
  refine L.el (hg.slv (c:=n)) (k:=i) rfl (fc_get g hin) rfl rfl rfl rfl (fun _=>rfl) rfl (fun p=>go ?_)
  refine L.el (hy.slv (c:=n)) (k:=i) rfl (fc_get fy hin) rfl rfl rfl rfl (fun _=>rfl) rfl (fun p=>?_)
  rw[gi]
  refine L.cmul hm rfl rfl rfl ?_
  refine L.elst hg rfl (by show 0+n≤(fc n g).length;rw[fc_len];omega) rfl hin rfl rfl rfl rfl (fun _=>rfl) (fun _=>rfl) rfl rfl rfl (fun p=>?_)
  have hg2:=hg.set i r
  have hy2:CRow (List.set T bx { newR (fc n g) 118 with cells:=(newR (fc n g) 118).cells.set (0+i) (vc r) }) by' n fy:=(row_set_other by' (show bx≠by' by omega)).trans hy
  have hk2:=hkT.set bx { newR (fc n g) 118 with cells:=(newR (fc n g) 118).cells.set (0+i) (vc r) } (by omega)
  generalize List.set T bx _=T2 at *
  refine go ?_
  refine⟨n - (i+1),by omega,i+1,_,rfl,by omega,rfl,rfl,rfl,rfl,rfl,?_,hk2,hg2,hy2,fun p hp2=>?_⟩
  ·refine(force_eq rfl).trans ?_
   rw[wrap64 (by omega) (by omega)];rfl
  ·unfold upd
   by_cases h1:p=i
   ·rw[if_pos h1,if_pos (by omega),h1,hm];rfl
   ·rw[if_neg h1,hgp p hp2]
    by_cases h2:p<i
    ·rw[if_pos h2,if_pos (by omega)]
    ·rw[if_neg h2,if_neg (by omega)]
 have hin:i=n:=by have:=of_decide_eq_false h;omega
 subst hin
 clear h e36 hy
 have hgw:∀ p,p<i→∃ x,CV (g p) x∧(x.sub ((Cx.dft Cx.z t (aB (wnum l1)) p).mul (Cx.dft Cx.z t (aB (wnum l2)) p))).M (1 / 80):=fun p hp2=>by
  obtain⟨r,z,q1,q2,q3⟩:=hprod p hp2
  have:g p=r:=by rw[hgp p hp2,if_pos hp2,q1];rfl
  rw[this];exact⟨z,q2,q3⟩
 clear hprod hgp
 refine go ?_
 have hf3:=transform_C (Ext:=Ext) hL i bx i hn (.inr ⟨rfl,rfl⟩) g T hg hG (hS.cons hkT) (a:=fun p=>(Cx.dft Cx.z t (aB (wnum l1)) p).mul (Cx.dft Cx.z t (aB (wnum l2)) p)) (e0:=1 / 80) (B:=B1) (by decide +kernel) (by decide +kernel) hB1 (by decide +kernel) (by decide +kernel) hgw
 refine L.cl hf3 rfl rfl ?_
 rintro _ T2 ⟨k3,f,hf,hfx⟩
 refine⟨nofun,?_⟩
 clear hf3 hg hgw hB1
 have hk3:=k3.cons0 hkT (by simp;omega)
 obtain⟨A,hA⟩:∃ A,A=wnum l1:=⟨_,rfl⟩
 obtain⟨B,hB⟩:∃ B,B=wnum l2:=⟨_,rfl⟩
 rw[← hA,← hB] at hfx
 obtain⟨cm,hcm⟩:∃ cm,cm=cN i (bA A) (bA B):=⟨_,rfl⟩
 have hout:∀ m,m<i→∃ q h,Ieee.double.div (f m).1 (fNat i)=some q∧Ieee.double.add q 4602678819172646912=some h∧(Ieee.double.read h).integral .down=.number false (cm m) 0∧(Ieee.double.read (fNat (cm m))).toInt .zero=some ((cm m:Nat):Int):=fun m hm=>by
  obtain⟨x,x1,x2⟩:=hfx m hm
  have:=out_near hL (A:=A) (B:=B) (m:=m) (by rw[← hn];exact hm) x1 x2
  rw[← hn,← hcm] at this;exact this
 have hcl:∀ m,cm m<274877906944:=fun m=>by rw[hcm];exact cN_lt hp (bA_le A) (bA_le B) m
 clear hfx
 refine go ?_
 refine L.mk (n:=sz) (m:=sz) (bytes:=8) (zv:=v64 0#64) rfl rfl rfl rfl rfl (Nat.le_refl _) (by omega) rfl rfl ?_
 have hro:Mem.row? (T2++[newR (List.replicate sz (v64 0#64)) 57]) T2.length=some (newR (wv (List.replicate sz 0#64)) 57):=by
  rw[row_push_new rfl];simp [wv]
 have hk4:=hk3.trans (Cons.push T2 (newR (List.replicate sz (v64 0#64)) 57))
 have hf4:CRow (T2++[newR (List.replicate sz (v64 0#64)) 57]) bx i f:=hf.cons (Cons.push _ _)
 have hSr:S.length≤T2.length:=hk3.len
 have hxr:bx≠T2.length:=by have:=row_lt hf;omega
 generalize T2++[newR (List.replicate sz (v64 0#64)) 57]=T3 at *
 obtain⟨ro,hro0⟩:∃ ro,ro=T2.length:=⟨_,rfl⟩
 rw[← hro0] at hro hSr hxr ⊢
 clear hro0 hk3 hf k3 hkT
 refine go ?_
 rw[show IntKind.i64.wrap (8*(sz:Int))=((8*sz:Nat):Int) by rw[wrap64 (by omega) (by omega)];rfl]
 refine W.loop (fun j e T=>∃ (k:Nat) (o:WL) (cr:Nat),j=8*sz - k∧k≤8*sz∧e 6=vi i∧e 7=.slice (some ⟨bx,0,none⟩) i i∧e 10=.slice (some ⟨ro,0,none⟩) sz sz∧e 11=.int .u64 (cr:Int)∧e 55=vi (8*sz)∧e 56=vi k∧Cons S T∧CRow T bx i f∧T.row? ro=some (newR (wv o) 57)∧o.length=sz∧wnum o<256^k∧cr<2199023255552∧wnum o+cr*256^k=ns k (fun m=>cm m*256^m)) (8*sz)
  ⟨0,List.replicate sz 0#64,0,by omega,by omega,rfl,rfl,rfl,rfl,rfl,rfl,hk4,hf4,hro,by simp,by rw[wnum_zeros];decide,by decide,by rw[wnum_zeros];rfl⟩ ?_
 clear hk4 hf4 hro e5 e6 e7 e8 e35 e
 rintro j e T ⟨k,o,cr,rfl,hk,e6,e7,e10,e11,e55,e56,hkT,hf,hro,hol,hwo,hcr,hsum⟩
 refine W.env6 e6 e7 e10 e11 e55 e56 (go ?_)
 refine W.ite rfl (fun h=>?_) (fun h=>?_)
 ·have hk8:k<8*sz:=by have:=of_decide_eq_true h;omega
  clear h
  have hki:k<i:=by omega
  obtain⟨q,h,q1,q2,q3,q4⟩:=hout k hki
  have hck:=hcl k
  refine go ?_
  refine L.el (hf.slv (c:=i)) (k:=k) rfl (fc_get f hki) rfl rfl rfl rfl (fun _=>rfl) rfl (fun p=>?_)
  refine L.re rfl rfl (go ?_)
  rw[nearest_nat]
  refine L.fquo q1 rfl rfl rfl ?_
  refine L.fadd q2 rfl rfl rfl ?_
  refine L.cl (floor_C h (cm k) q3 T) rfl rfl ?_
  rintro _ T5 ⟨rfl,hT5⟩
  have hT5:=hT5.symm
  subst hT5
  refine⟨nofun,?_⟩
  refine L.f2i q4 rfl ⟨show (0:Int)≤_ by omega,show _≤(18446744073709551615:Int) by omega⟩ rfl rfl rfl (go ?_)
  rw[show IntKind.u64.wrap ((cr:Int)+(cm k:Int))=((cr+cm k:Nat):Int) by rw[wrapU64 (by omega) (by omega)];rfl]
  obtain⟨s1,hs1⟩:∃ s1,s1=cr+cm k:=⟨_,rfl⟩
  rw[← hs1]
  obtain⟨x,hx⟩:∃ x,o[k / 8]?=some x:=⟨_,List.getElem?_eq_getElem (by omega)⟩
  obtain⟨o1,o2,o3⟩:=out_step (s:=s1) hx hwo
  have hkd:k / 8<sz:=by omega
  have hslo:Slv T 1 (.slice (some ⟨ro,0,none⟩) sz sz) sz (wv o):=Slv.all hro rfl (by rw[wv_len,hol,Nat.mul_one])
  rw[show ((k:Int).tdiv 8)=((k / 8:Nat):Int) from (Int.ofNat_tdiv k 8).symm,wrap64 (show -9223372036854775808≤((k / 8:Nat):Int) by omega) (by omega)]
  refine L.el hslo (k:=k / 8) rfl (wv_get hx) rfl rfl rfl rfl (fun _=>rfl) rfl (fun p=>go ?_)
  rw[and255 (by omega),show ((k:Int).tmod 8)=((k % 8:Nat):Int) from (Int.ofNat_tmod k 8).symm,show IntKind.i64.wrap (8*((k % 8:Nat):Int))=((8*(k % 8):Nat):Int) by rw[wrap64 (by omega) (by omega)];rfl]
  refine L.shl (8*(k % 8)) rfl rfl rfl (by show 8*(k % 8)≤64;omega) rfl ?_
  rw[shl_b (Nat.mod_lt _ (by omega)) (by omega)]
  refine go ?_
  rw[or_b o1 (Nat.mod_lt _ (by omega)) (by omega)]
  rw[← o3]
  obtain⟨y,hy⟩:∃ y,y=BitVec.ofNat 64 (x.toNat+s1 % 256*2^(8*(k % 8))):=⟨_,rfl⟩
  rw[← hy] at o2 ⊢
  refine L.elst hro rfl (by show 0+sz≤(wv o).length;rw[wv_len,hol];omega) rfl hkd rfl rfl rfl rfl (fun _=>rfl) (fun _=>rfl) rfl rfl rfl (fun p=>?_)
  have hr2:Mem.row? (List.set T ro { newR (wv o) 57 with cells:=(newR (wv o) 57).cells.set (0+k / 8) (v64 y) }) ro=some (newR (wv (o.set (k / 8) y)) 57):=by
   rw[row_set_same hro rfl,Nat.zero_add]
   simp [newR,wv,List.map_set]
  have hf2:CRow (List.set T ro { newR (wv o) 57 with cells:=(newR (wv o) 57).cells.set (0+k / 8) (v64 y) }) bx i f:=(row_set_other bx (Ne.symm hxr)).trans hf
  have hk2:=hkT.set ro { newR (wv o) 57 with cells:=(newR (wv o) 57).cells.set (0+k / 8) (v64 y) } hSr
  generalize List.set T ro _=T6 at *
  refine go ?_
  rw[shr8]
  refine⟨8*sz - (k+1),by omega,k+1,o.set (k / 8) y,s1 / 256,rfl,by omega,rfl,rfl,rfl,rfl,rfl,?_,hk2,hf2,hr2,by simpa using hol,?_,by omega,?_⟩
  ·refine(force_eq rfl).trans ?_
   rw[wrap64 (by omega) (by omega)];rfl
  ·rw[o2,Nat.pow_succ]
   have:=Nat.mul_le_mul_right (256^k) (show s1 % 256≤255 by omega)
   omega
  ·show _=ns k (fun m=>cm m*256^m)+cm k*256^k
   rw[o2,← hsum,Nat.pow_succ]
   have e1:s1 / 256*(256^k*256)=256*(s1 / 256)*256^k:=by rw[Nat.mul_comm (256^k) 256,← Nat.mul_assoc,Nat.mul_comm (s1 / 256) 256]
   have e2:s1 % 256*256^k+256*(s1 / 256)*256^k=s1*256^k:=by rw[← Nat.add_mul,Nat.mod_add_div]
   have e3:s1*256^k=cr*256^k+cm k*256^k:=by rw[hs1,Nat.add_mul]
   rw[e1];omega
 ·have hk8:k=8*sz:=by have:=of_decide_eq_false h;omega
  subst hk8
  clear h
  refine go ?_
  refine⟨.inr rfl,_,rfl,ro,o,rfl,by omega,hkT,hro,hol,?_⟩
  have hA2:=wnum_lt l1
  have hB2:=wnum_lt l2
  rw[← hA] at hA2
  rw[← hB] at hB2
  have hpA:∀ p,8*l1.length≤p→A<256^p:=fun p hp2=>by
   rw[p256];exact Nat.lt_of_lt_of_le hA2 (Nat.pow_le_pow_right (by omega) (by omega))
  have hpB:∀ p,8*l2.length≤p→B<256^p:=fun p hp2=>by
   rw[p256];exact Nat.lt_of_lt_of_le hB2 (Nat.pow_le_pow_right (by omega) (by omega))
  have hmul:=cN_sum (n:=i) (la:=8*l1.length) (lb:=8*l2.length) (x:=bA A) (y:=bA B) (by omega) (fun p hp2=>bA_zero (hpA p hp2)) (fun p hp2=>bA_zero (hpB p hp2))
  rw[bA_sum,bA_sum,Nat.mod_eq_of_lt (hpA i (by omega)),Nat.mod_eq_of_lt (hpB i (by omega)),← hcm] at hmul
  have hm2:=ns_mod cm (8*sz) (i - 8*sz)
  rw[show 8*sz+(i - 8*sz)=i by omega,hmul,← hsum,Nat.add_mul_mod_self_right,Nat.mod_eq_of_lt hwo] at hm2
  have hAB:A*B<256^(8*sz):=by
   rw[p256,show 8*(8*sz)=64*l1.length+64*l2.length by omega,Nat.pow_add]
   exact Nat.mul_lt_mul'' hA2 hB2
  rw[Nat.mod_eq_of_lt hAB] at hm2
  rw[← hA,← hB];exact hm2.symm
end
section
open Go
section
variable {P:Program} {G:Nat} {Ext:FuncId→List Value→Mem→Outc→Mem→Prop} {e:Env} {S:Mem} {fl:Bool} {ops:Array Oper} {K:Kont}
variable {rest:List Oper} {dst:Option Tmp} {ty:TypeId} {pos:String} {af:Array Edge} {gd:Option (Nat × Bool)}
theorem apure_max {x y:Operand} {ts:Array TypeId} {k k':IntKind} {a b:Int} {ev:Operand→Value} (hx:ev x=.int k a) (hy:ev y=.int k' b) :
  apure P ⟨dst,.call ⟨.builtin .max,#[x,y],ts⟩,ty,pos,af,gd⟩ ev=some (.int k (if b > a then b else a)):=by
 have h:aflat P ⟨dst,.call ⟨.builtin .max,#[x,y],ts⟩,ty,pos,af,gd⟩ ev=some (.int k (if b > a then b else a)):=by
  unfold aflat
  rw[if_pos (by simp [Op.operands,Call.operands,hx,hy,flat,flat1,scalar])]
  have:pureRun P (execOp ev ⟨dst,.call ⟨.builtin .max,#[x,y],ts⟩,ty,pos,af,gd⟩)=some (.value (.int k (if b > a then b else a))):=by
   simp [execOp,resolve,hx,hy,pureRun_bind,invoke,builtin,Builtin.max_,Builtin.max2]
  rw[this];rfl
 simp only [apure,h]
theorem apure_min {x y:Operand} {ts:Array TypeId} {k k':IntKind} {a b:Int} {ev:Operand→Value} (hx:ev x=.int k a) (hy:ev y=.int k' b) :
  apure P ⟨dst,.call ⟨.builtin .min,#[x,y],ts⟩,ty,pos,af,gd⟩ ev=some (.int k (if b<a then b else a)):=by
 have h:aflat P ⟨dst,.call ⟨.builtin .min,#[x,y],ts⟩,ty,pos,af,gd⟩ ev=some (.int k (if b<a then b else a)):=by
  unfold aflat
  rw[if_pos (by simp [Op.operands,Call.operands,hx,hy,flat,flat1,scalar])]
  have:pureRun P (execOp ev ⟨dst,.call ⟨.builtin .min,#[x,y],ts⟩,ty,pos,af,gd⟩)=some (.value (.int k (if b<a then b else a))):=by
   simp [execOp,resolve,hx,hy,pureRun_bind,invoke,builtin,Builtin.min_,Builtin.min2]
  rw[this];rfl
 simp only [apure,h]
theorem L.max {x y:Operand} {ts:Array TypeId} {k k':IntKind} {a b c:Int} (hw:awanted ops ⟨dst,.call ⟨.builtin .max,#[x,y],ts⟩,ty,pos,af,gd⟩ e=true) (hx:e.eval x=.int k a) (hy:e.eval y=.int k' b) (hc:(if b > a then b else a)=c)
  (h:L P G Ext fl ops rest (e.put dst (.int k c)) S K):L P G Ext fl ops (⟨dst,.call ⟨.builtin .max,#[x,y],ts⟩,ty,pos,af,gd⟩ :: rest) e S K:=L.pure hw (hc ▸ apure_max hx hy) h
theorem L.min {x y:Operand} {ts:Array TypeId} {k k':IntKind} {a b c:Int} (hw:awanted ops ⟨dst,.call ⟨.builtin .min,#[x,y],ts⟩,ty,pos,af,gd⟩ e=true) (hx:e.eval x=.int k a) (hy:e.eval y=.int k' b) (hc:(if b<a then b else a)=c)
  (h:L P G Ext fl ops rest (e.put dst (.int k c)) S K):L P G Ext fl ops (⟨dst,.call ⟨.builtin .min,#[x,y],ts⟩,ty,pos,af,gd⟩ :: rest) e S K:=L.pure hw (hc ▸ apure_min hx hy) h
end
end
end Go.Proofs.YtbiigbicgfchiaaGreatDoor
set_option exponentiation.threshold 20000
namespace Go.Proofs.YtbiigbicgfchiaaGreatDoor
section
open Go Ie
variable {Ext:FuncId→List Value→Mem→Outc→Mem→Prop}
theorem WOwn.row {S:Mem} {N b n:Nat} {l:WL} (h:S.row? b=some (newR (wv l) 57)) (hl:l.length=n) (hN:N≤b) (hn:n<1000000):WOwn S N (some ⟨b,0,none⟩) n l:=by
 subst hl
 refine⟨⟨Slv.all h rfl (by rw[wv_len,Nat.mul_one]),?_,nofun,by omega⟩,fun x hx=>?_⟩
 ·unfold knownCap;rw[if_pos (by unfold UNK;omega)];exact Nat.le_refl _
 ·cases hx
  exact⟨rfl,rfl,hN,_,h,rfl,List.take_of_length_le (by show (wv l).length≤_;rw[wv_len];exact Nat.le_refl _)⟩
def mulL (l1 l2:WL):WL:=if small l1 && small l2 then toldL (toW (wnum l1*wnum l2)) else []
def mulE (l1 l2:WL):Int:=if small l1 && small l2 then toldE (toW (wnum l1*wnum l2)) else 3
theorem small_toW (N:Nat):small (toW N)=decide (N<2^8192):=by
 unfold small fm
 rw[wnum_toW]
 exact decide_eq_decide.2 (toW_len N 128)
theorem toW_ge {N:Nat} (h:0<(toW N).length):2^(64*((toW N).length - 1))≤N:=by
 refine Classical.byContradiction fun hc=>?_
 have:=(toW_len N ((toW N).length - 1)).2 (by omega)
 omega
theorem mul_long {l1 l2:WL} (h:129<(fm l1).length+(fm l2).length) (h1:small l1=true) (h2:small l2=true):small (toW (wnum l1*wnum l2))=false:=by
 rw[small_toW]
 have a1:(toW (wnum l1)).length≤128:=of_decide_eq_true h1
 have a2:(toW (wnum l2)).length≤128:=of_decide_eq_true h2
 have h:129<(toW (wnum l1)).length+(toW (wnum l2)).length:=h
 have b1:=toW_ge (N:=wnum l1) (by omega)
 have b2:=toW_ge (N:=wnum l2) (by omega)
 have b3:=Nat.mul_le_mul b1 b2
 rw[← Nat.pow_add] at b3
 have b4:2^8192≤2^(64*((toW (wnum l1)).length - 1)+64*((toW (wnum l2)).length - 1)):=Nat.pow_le_pow_right (by omega) (by omega)
 exact decide_eq_false (by omega)
theorem wnum_take_succ {l:WL} {i:Nat} {x:BitVec 64} (h:l[i]?=some x):wnum (l.take (i+1))=wnum (l.take i)+2^(64*i)*x.toNat:=by
 have hlt:=(List.getElem?_eq_some_iff.1 h).1
 rw[List.take_add_one,h]
 show wnum (l.take i++[x])=_
 rw[wnum_append,List.length_take,Nat.min_eq_left (by omega)]
 show _+_*(x.toNat+18446744073709551616*0)=_
 rw[Nat.mul_zero,Nat.add_zero]
theorem mul_step {W P T x y cr lo:Nat} (h:W+cr*P=T):W+(x*y+lo+cr) / 18446744073709551616*(P*18446744073709551616)+(x*y+lo+cr) % 18446744073709551616*P=T+x*y*P+lo*P:=by
 have e1:(x*y+lo+cr) / 18446744073709551616*(P*18446744073709551616)+(x*y+lo+cr) % 18446744073709551616*P=(x*y+lo+cr)*P:=by
  rw[Nat.mul_comm P,← Nat.mul_assoc,← Nat.add_mul,Nat.mul_comm _ 18446744073709551616,Nat.div_add_mod]
 rw[Nat.add_assoc,e1,Nat.add_mul,Nat.add_mul,← h];omega
def TransR (Ext:FuncId→List Value→Mem→Outc→Mem→Prop) (a1 a2:Option Addr) (c1 c2:Nat) (f1 f2:WL) (S:Mem):Prop:=
 C Tryz.prog gN Ext 96 [.slice a1 f1.length c1,.slice a2 f2.length c2] S fun v S'=>∃ (ro:Nat) (o:WL),v=.slice (some ⟨ro,0,none⟩) (f1.length+f2.length) (f1.length+f2.length)∧S.length≤ro∧Cons S S'∧S'.row? ro=some (newR (wv o) 57)∧o.length=f1.length+f2.length∧wnum o=wnum f1*wnum f2
theorem mulG_C (a1 a2:Option Addr) (c1 c2:Nat) (l1 l2:WL) (S:Mem) (h1:WIn S a1 c1 l1) (h2:WIn S a2 c2 l2)
  (hT:20≤min (fm l1).length (fm l2).length→(fm l1).length+(fm l2).length≤129→∀ S1,Cons S S1→WIn S1 a1 c1 (fm l1)→WIn S1 a2 c2 (fm l2)→TransR Ext a1 a2 c1 c2 (fm l1) (fm l2) S1) :
  C Tryz.prog gN Ext 67 [.slice a1 l1.length c1,.slice a2 l2.length c2] S fun v S'=>∃ d:Hd,v=.tuple #[d.v,.int .i64 (mulE l1 l2)]∧RetW S S' d (mulL l1 l2):=by
 refine C.fn Tryz.func67 rfl (by kernel_rfl) rfl (go ?_)
 refine L.bs [WS.v ⟨a1,c1,l1⟩,WS.v ⟨a2,c2,l2⟩] rfl rfl rfl rfl rfl rfl ?_
 have hc:Cons S (S++[newR [WS.v ⟨a1,c1,l1⟩,WS.v ⟨a2,c2,l2⟩] 22]):=Cons.push _ _
 have hs:Slv (S++[newR [WS.v ⟨a1,c1,l1⟩,WS.v ⟨a2,c2,l2⟩] 22]) 1 (.slice (some ⟨S.length,0,none⟩) 2 2) 2 ([WS.mk a1 c1 l1,WS.mk a2 c2 l2].map WS.v):=Slv.all (row_push_new rfl) rfl rfl
 generalize S++[newR [WS.v ⟨a1,c1,l1⟩,WS.v ⟨a2,c2,l2⟩] 22]=S1 at *
 refine L.cl (fit_C _ [⟨a1,c1,l1⟩,⟨a2,c2,l2⟩] S1 hs (fun w hw=>by
  simp only [List.mem_cons,List.not_mem_nil,or_false] at hw
  rcases hw with rfl | rfl
  ·exact h1.cons hc
  ·exact h2.cons hc) (by simp)) rfl rfl ?_
 rintro _ _ ⟨rfl,rfl⟩
 refine⟨nofun,go ?_⟩
 refine W.ite rfl (fun h=>?_) (fun h=>?_)
 ·have hsm:(small l1 && small l2)=false:=by
   have h0:=h
   simp at h0
   cases hq:small l1<;>simp_all
  refine go ?_
  exact⟨.inr rfl,_,rfl,Hd0,(by unfold mulE;rw[hsm];rfl),by unfold mulL;rw[hsm];exact RetW.nil hc⟩
 have hsm:(small l1 && small l2)=true:=by
  have h0:=h
  simp at h0
  cases hq:small l1<;>simp_all
 clear h
 have hsm2:=hsm
 rw[Bool.and_eq_true] at hsm2
 rename Mem=>S1
 have hI1:=h1.cons hc
 have hI2:=h2.cons hc
 refine go ?_
 refine L.cl (trim_C a1 c1 l1 _ hI1) rfl rfl ?_
 rintro _ _ ⟨rfl,rfl⟩
 refine⟨nofun,go ?_⟩
 refine L.cl (trim_C a2 c2 l2 _ hI2) rfl rfl ?_
 rintro _ _ ⟨rfl,rfl⟩
 refine⟨nofun,?_⟩
 have hF1:=hI1.form
 have hF2:=hI2.form
 have b1:(fm l1).length≤128:=of_decide_eq_true hsm2.1
 have b2:(fm l2).length≤128:=of_decide_eq_true hsm2.2
 have hlong:=fun h=>mul_long (l1:=l1) (l2:=l2) h hsm2.1 hsm2.2
 have e1:wnum (fm l1)=wnum l1:=wnum_toW _
 have e2:wnum (fm l2)=wnum l2:=wnum_toW _
 have eE:mulE l1 l2=toldE (toW (wnum l1*wnum l2)):=by unfold mulE;rw[hsm];rfl
 have eL:mulL l1 l2=toldL (toW (wnum l1*wnum l2)):=by unfold mulL;rw[hsm];rfl
 rw[eE,eL,← e1,← e2]
 rw[← e1,← e2] at hlong
 clear hsm hsm2 eE eL hI1 hI2 hs e1 e2
 generalize fm l1=f1 at *
 generalize fm l2=f2 at *
 refine go ?_
 rw[wrap64 (show -9223372036854775808≤(f1.length:Int)+(f2.length:Int) by omega) (by omega)]
 refine W.ite rfl (fun h=>?_) (fun h=>?_)
 ·have hgt:129<f1.length+f2.length:=by have:=of_decide_eq_true h;omega
  have hbad:=hlong hgt
  refine go ?_
  exact⟨.inr rfl,_,rfl,Hd0,(by unfold toldE;rw[hbad];rfl),by unfold toldL;rw[hbad];exact RetW.nil hc⟩
 have hle:f1.length+f2.length≤129:=by have:=of_decide_eq_false h;omega
 clear h hlong
 refine go ?_
 refine L.min (c:=((min f1.length f2.length:Nat):Int)) rfl rfl rfl ?_ ?_
 ·split<;>omega
 refine go ?_
 refine W.ite rfl (fun h=>?_) (fun h=>?_)
 ·have hmin:20≤min f1.length f2.length:=by have:=of_decide_eq_true h;omega
  clear h
  refine go ?_
  refine L.cl (hT hmin hle _ hc hF1 hF2) rfl rfl ?_
  rintro _ S2 ⟨ro,o,rfl,hro,k2,hr,hol,hnum⟩
  refine⟨nofun,?_⟩
  have hO:WOwn S2 S.length (some ⟨ro,0,none⟩) (f1.length+f2.length) o:=WOwn.row hr hol (by have:=hc.len;omega) (by omega)
  refine L.cl (told_C S _ _ o S2 hO (hc.trans k2)) rfl (by rw[hol];rfl) ?_
  rintro _ _ ⟨rfl,d2,rfl,hR2⟩
  refine⟨nofun,go ?_⟩
  have t:=told_fm o
  unfold fm at t
  rw[hnum] at t
  rw[← t.1] at hR2
  exact⟨.inr rfl,_,rfl,d2,by rw[t.2];rfl,hR2⟩
 have hmin:min f1.length f2.length<20:=by have:=of_decide_eq_false h;omega
 clear h
 rename Mem=>S1
 obtain⟨sz,hsz⟩:∃ sz,sz=f1.length+f2.length:=⟨_,rfl⟩
 have hw1:IntKind.i64.wrap ((f1.length:Int)+(f2.length:Int))=((sz:Nat):Int):=by rw[wrap64 (by omega) (by omega),hsz];rfl
 refine go ?_
 refine L.mk (n:=sz) (m:=sz) (bytes:=8) (zv:=v64 0#64) rfl rfl hw1 rfl hw1 (Nat.le_refl _) (by omega) rfl rfl ?_
 have hro:Mem.row? (S1++[newR (List.replicate sz (v64 0#64)) 57]) S1.length=some (newR (wv (List.replicate sz 0#64)) 57):=by
  rw[row_push_new rfl];simp [wv]
 have hk4:=hc.trans (Cons.push S1 (newR (List.replicate sz (v64 0#64)) 57))
 have g1:=hF1.cons (Cons.push S1 (newR (List.replicate sz (v64 0#64)) 57))
 have g2:=hF2.cons (Cons.push S1 (newR (List.replicate sz (v64 0#64)) 57))
 have hk5:=Cons.push S1 (newR (List.replicate sz (v64 0#64)) 57)
 have hSr:S.length≤S1.length:=hc.len
 generalize S1++[newR (List.replicate sz (v64 0#64)) 57]=S3 at *
 obtain⟨ro,hro0⟩:∃ ro,ro=S1.length:=⟨_,rfl⟩
 rw[← hro0] at hro hSr ⊢
 refine go ?_
 refine W.loop (fun j e T=>∃ (i:Nat) (o:WL),j=f1.length - i∧i≤f1.length∧e 1=.slice a2 f2.length c2∧e 6=.slice (some ⟨ro,0,none⟩) sz sz∧e 48=.slice a1 f1.length c1∧e 49=vi f1.length∧e 50=vi i∧Cons S1 T∧T.row? ro=some (newR (wv o) 57)∧o.length=sz∧wnum o=wnum (f1.take i)*wnum f2∧∀ p,i+f2.length≤p→p<sz→o[p]?=some 0#64) f1.length
  ⟨0,List.replicate sz 0#64,by omega,by omega,rfl,rfl,rfl,rfl,rfl,hk5,hro,by simp,by rw[wnum_zeros];simp [wnum],fun p _ hp=>by simp [hp]⟩ ?_
 rintro j e T ⟨i,o,rfl,hi,e1,e6,e48,e49,e50,hkT,hro,hol,hwo,hz⟩
 refine W.env5 e1 e6 e48 e49 e50 (go ?_)
 refine W.ite rfl (fun h=>?_) (fun h=>?_)
 ·have hin:i<f1.length:=by have:=of_decide_eq_true h;omega
  clear h
  obtain⟨x,hx⟩:∃ x,f1[i]?=some x:=⟨_,List.getElem?_eq_getElem hin⟩
  refine go ?_
  refine L.el (hF1.1.cons hkT) (k:=i) rfl (wv_get hx) rfl rfl rfl rfl (fun _=>rfl) rfl (fun p=>go ?_)
  refine W.loop (fun j e T=>∃ (k:Nat) (o:WL) (cr:Nat),j=f2.length - k∧k≤f2.length∧e 1=.slice a2 f2.length c2∧e 6=.slice (some ⟨ro,0,none⟩) sz sz∧e 7=vi i∧e 8=v64 x∧e 9=.int .u64 (cr:Int)∧e 48=.slice a1 f1.length c1∧e 49=vi f1.length∧e 50=vi i∧e 55=.slice a2 f2.length c2∧e 56=vi f2.length∧e 57=vi k∧Cons S1 T∧T.row? ro=some (newR (wv o) 57)∧o.length=sz∧cr<18446744073709551616∧wnum o+cr*2^(64*(i+k))=wnum (f1.take i)*wnum f2+x.toNat * wnum (f2.take k)*2^(64*i)∧∀ p,i+f2.length≤p→p<sz→o[p]?=some 0#64) f2.length
   ⟨0,o,0,by omega,by omega,rfl,rfl,rfl,rfl,rfl,rfl,rfl,rfl,rfl,rfl,rfl,hkT,hro,hol,by decide,by rw[hwo];simp [wnum],hz⟩ ?_
  clear hro hol hwo hz hkT e1 e6 e48 e49 e50 o e
  rintro j e T2 ⟨k,o,cr,rfl,hk,e1,e6,e7,e8,e9,e48,e49,e50,e55,e56,e57,hkT,hro,hol,hcr,hsum,hz⟩
  refine W.env10 e1 e6 e7 e8 e9 e48 e49 e50 e55 e56 ?_
  refine W.env (t:=57) (v:=vi k) (by exact e57) (go ?_)
  refine W.ite rfl (fun h=>?_) (fun h=>?_)
  ·have hk2:k<f2.length:=by have:=of_decide_eq_true h;omega
   clear h
   obtain⟨y,hy⟩:∃ y,f2[k]?=some y:=⟨_,List.getElem?_eq_getElem hk2⟩
   obtain⟨z,hzz⟩:∃ z,o[i+k]?=some z:=⟨_,List.getElem?_eq_getElem (by omega)⟩
   have hslo:Slv T2 1 (.slice (some ⟨ro,0,none⟩) sz sz) sz (wv o):=Slv.all hro rfl (by rw[wv_len,hol,Nat.mul_one])
   have hw2:IntKind.i64.wrap ((i:Int)+(k:Int))=((i+k:Nat):Int):=by rw[wrap64 (by omega) (by omega)];rfl
   refine go ?_
   refine L.el (hF2.1.cons hkT) (k:=k) rfl (wv_get hy) rfl rfl rfl rfl (fun _=>rfl) rfl (fun p=>go ?_)
   refine L.cl (mul64_C x y T2) rfl rfl ?_
   rintro _ T5 ⟨rfl,hT5⟩
   have hT5:=hT5.symm
   subst hT5
   refine⟨nofun,go ?_⟩
   rw[hw2]
   refine L.el hslo (k:=i+k) rfl (wv_get hzz) rfl rfl rfl rfl (fun _=>rfl) rfl (fun p=>?_)
   refine L.add64 (a:=(x*y).toNat) (b:=z.toNat) (c:=0) (by omega) rfl rfl (go ?_)
   obtain⟨XY,hXY⟩:∃ XY,XY=x.toNat * y.toNat:=⟨_,rfl⟩
   have hXYl:XY≤18446744073709551615*18446744073709551615:=by rw[hXY];exact Nat.mul_le_mul (by have:=x.isLt;omega) (by have:=y.isLt;omega)
   have hlo:(x*y).toNat=XY % 18446744073709551616:=by rw[BitVec.toNat_mul,hXY]
   have hhi:(hiW x y).toNat=XY / 18446744073709551616:=by rw[hiW_val,hXY]
   have hzl:=z.isLt
   rw[hlo,hhi]
   rw[uadd (a:=XY / 18446744073709551616) (b:=(XY % 18446744073709551616+z.toNat+0) / 18446744073709551616) (by omega)]
   refine L.add64 (a:=(XY % 18446744073709551616+z.toNat+0) % 18446744073709551616) (b:=cr) (c:=0) (by omega) rfl rfl (go ?_)
   rw[uadd (a:=XY / 18446744073709551616+(XY % 18446744073709551616+z.toNat+0) / 18446744073709551616) (by omega)]
   rw[hw2]
   rw[show ((XY % 18446744073709551616+z.toNat+0) % 18446744073709551616+cr+0) % 18446744073709551616=(XY+z.toNat+cr) % 18446744073709551616 by omega,show XY / 18446744073709551616+(XY % 18446744073709551616+z.toNat+0) / 18446744073709551616+((XY % 18446744073709551616+z.toNat+0) % 18446744073709551616+cr+0) / 18446744073709551616=(XY+z.toNat+cr) / 18446744073709551616 by omega]
   obtain⟨r,hr⟩:∃ r:BitVec 64,r=BitVec.ofNat 64 ((XY+z.toNat+cr) % 18446744073709551616):=⟨_,rfl⟩
   have hrv:r.toNat=(XY+z.toNat+cr) % 18446744073709551616:=by rw[hr,BitVec.toNat_ofNat];exact Nat.mod_eq_of_lt (Nat.mod_lt _ (by decide))
   rw[← hrv]
   refine L.elst hro rfl (by show 0+sz≤(wv o).length;rw[wv_len,hol];omega) (k:=i+k) rfl (by omega) rfl rfl rfl rfl (fun _=>rfl) (fun _=>rfl) rfl rfl rfl (fun p=>?_)
   have hr2:Mem.row? (List.set T2 ro { newR (wv o) 57 with cells:=(newR (wv o) 57).cells.set (0+(i+k)) (v64 r) }) ro=some (newR (wv (o.set (i+k) r)) 57):=by
    rw[row_set_same hro rfl,Nat.zero_add]
    simp [newR,wv,List.map_set]
   have hk6:=hkT.set ro { newR (wv o) 57 with cells:=(newR (wv o) 57).cells.set (0+(i+k)) (v64 r) } (by omega)
   have hws:=wnum_set (y:=r) hzz
   generalize List.set T2 ro _=T6 at *
   refine go ?_
   refine⟨f2.length - (k+1),by omega,k+1,o.set (i+k) r,(XY+z.toNat+cr) / 18446744073709551616,rfl,by omega,rfl,rfl,rfl,rfl,rfl,rfl,rfl,rfl,rfl,rfl,?_,hk6,hr2,by simpa using hol,by omega,?_,fun p hp1 hp2=>?_⟩
   ·refine(force_eq rfl).trans ?_
    rw[wrap64 (by omega) (by omega)];rfl
   ·have hms:=mul_step (x:=x.toNat) (y:=y.toNat) (lo:=z.toNat) hsum
    rw[← hXY,← hrv] at hms
    have hp:2^(64*(i+(k+1)))=2^(64*(i+k))*18446744073709551616:=by rw[show 64*(i+(k+1))=64*(i+k)+64 by omega,Nat.pow_add]
    rw[hp,wnum_take_succ hy,Nat.mul_add x.toNat,Nat.add_mul (x.toNat * wnum (f2.take k))]
    have hx2:x.toNat * (2^(64*k)*y.toNat)*2^(64*i)=XY*2^(64*(i+k)):=by
     rw[hXY,show 64*(i+k)=64*k+64*i by omega,Nat.pow_add,← Nat.mul_assoc,← Nat.mul_assoc,Nat.mul_right_comm x.toNat (2^(64*k)) y.toNat]
    rw[hx2]
    omega
   ·rw[List.getElem?_set,if_neg (by omega)];exact hz p hp1 hp2
  ·have hkn:k=f2.length:=by have:=of_decide_eq_false h;omega
   subst hkn
   clear h
   rw[List.take_length] at hsum
   have hz0:=hz (i+f2.length) (Nat.le_refl _) (by omega)
   have hw3:IntKind.i64.wrap ((i:Int)+(f2.length:Int))=((i+f2.length:Nat):Int):=by rw[wrap64 (by omega) (by omega)];rfl
   obtain⟨r,hr⟩:∃ r:BitVec 64,r=BitVec.ofNat 64 cr:=⟨_,rfl⟩
   have hrv:r.toNat=cr:=by rw[hr,BitVec.toNat_ofNat];exact Nat.mod_eq_of_lt hcr
   rw[← hrv]
   refine go ?_
   rw[hw3]
   refine L.elst hro rfl (by show 0+sz≤(wv o).length;rw[wv_len,hol];omega) (k:=i+f2.length) rfl (by omega) rfl rfl rfl rfl (fun _=>rfl) (fun _=>rfl) rfl rfl rfl (fun p=>?_)
   have hr2:Mem.row? (List.set T2 ro { newR (wv o) 57 with cells:=(newR (wv o) 57).cells.set (0+(i+f2.length)) (v64 r) }) ro=some (newR (wv (o.set (i+f2.length) r)) 57):=by
    rw[row_set_same hro rfl,Nat.zero_add]
    simp [newR,wv,List.map_set]
   have hk6:=hkT.set ro { newR (wv o) 57 with cells:=(newR (wv o) 57).cells.set (0+(i+f2.length)) (v64 r) } (by omega)
   have hws:=wnum_set (y:=r) hz0
   generalize List.set T2 ro _=T6 at *
   refine go ?_
   refine⟨f1.length - (i+1),by omega,i+1,o.set (i+f2.length) r,rfl,by omega,rfl,rfl,rfl,rfl,?_,hk6,hr2,by simpa using hol,?_,fun p hp1 hp2=>?_⟩
   ·refine(force_eq rfl).trans ?_
    rw[wrap64 (by omega) (by omega)];rfl
   ·rw[wnum_take_succ hx,Nat.add_mul]
    have hz1:(0#64:BitVec 64).toNat * 2^(64*(i+f2.length))=0:=Nat.zero_mul _
    rw[hz1,hrv] at hws
    have hx2:2^(64*i)*x.toNat * wnum f2=x.toNat * wnum f2*2^(64*i):=by rw[Nat.mul_assoc,Nat.mul_comm]
    rw[hx2];omega
   ·rw[List.getElem?_set,if_neg (by omega)];exact hz p (by omega) hp2
 ·have hin:i=f1.length:=by have:=of_decide_eq_false h;omega
  subst hin
  clear h
  rw[List.take_length] at hwo
  refine go ?_
  have hO:WOwn T S.length (some ⟨ro,0,none⟩) sz o:=WOwn.row hro hol (by omega) (by omega)
  refine L.cl (told_C S _ _ o T hO (hc.trans hkT)) rfl (by rw[hol];rfl) ?_
  rintro _ _ ⟨rfl,d2,rfl,hR2⟩
  refine⟨nofun,go ?_⟩
  have t:=told_fm o
  unfold fm at t
  rw[hwo] at t
  rw[← t.1] at hR2
  exact⟨.inr rfl,_,rfl,d2,by rw[t.2];rfl,hR2⟩
theorem mul_C (a1 a2:Option Addr) (c1 c2:Nat) (l1 l2:WL) (S:Mem) (h1:WIn S a1 c1 l1) (h2:WIn S a2 c2 l2) (hS:SinOk S) (hG:gN≤S.length) :
  C Tryz.prog gN Ext 67 [.slice a1 l1.length c1,.slice a2 l2.length c2] S fun v S'=>∃ d:Hd,v=.tuple #[d.v,.int .i64 (mulE l1 l2)]∧RetW S S' d (mulL l1 l2):=
 mulG_C a1 a2 c1 c2 l1 l2 S h1 h2 fun hm hle S1 k w1 w2=>transformed_C a1 a2 c1 c2 (fm l1) (fm l2) S1 w1.1 w2.1 (by omega) (by omega) hle (hS.cons k) (Nat.le_trans hG k.len)
end
section
open Go
variable {G:Nat} {Ext:FuncId→List Value→Mem→Outc→Mem→Prop}
def cmpI (a b:Int):Int:=if a<b then -1 else if b<a then 1 else 0
theorem inan_C (a:Int) (S:Mem):C Tryz.prog G Ext 132 [.int .i64 a] S fun v S'=>v=.bool false∧S'=S:=by
 refine C.fn Tryz.func132 rfl (by kernel_rfl) rfl (go ?_)
 refine⟨.inr rfl,_,rfl,(force_eq rfl).trans ?_,rfl⟩
 rw[bne_self_eq_false]
theorem icmp_C (a b:Int) (S:Mem):C Tryz.prog G Ext 100 [.int .i64 a,.int .i64 b] S fun v S'=>v=.int .i64 (cmpI a b)∧S'=S:=by
 refine C.fn Tryz.func100 rfl (by kernel_rfl) rfl (go ?_)
 refine L.cl (inan_C a S) rfl rfl ?_
 rintro _ _ ⟨rfl,rfl⟩
 refine⟨nofun,go ?_⟩
 refine L.cl (inan_C b _) rfl rfl ?_
 rintro _ _ ⟨rfl,rfl⟩
 refine⟨nofun,go ?_⟩
 refine W.condF rfl (go ?_)
 refine W.condF rfl (go ?_)
 refine W.ite rfl (fun h=>?_) (fun h=>?_)
 ·have h1:a<b:=of_decide_eq_true h
  refine go ?_
  exact⟨.inr rfl,_,rfl,by unfold cmpI;rw[if_pos h1];rfl,rfl⟩
 have h1:¬ a<b:=of_decide_eq_false h
 clear h
 refine go ?_
 refine W.ite rfl (fun h=>?_) (fun h=>?_)
 ·have h2:b<a:=of_decide_eq_true h
  refine go ?_
  exact⟨.inr rfl,_,rfl,by unfold cmpI;rw[if_neg h1,if_pos h2];rfl,rfl⟩
 have h2:¬ b<a:=of_decide_eq_false h
 refine go ?_
 exact⟨.inr rfl,_,rfl,by unfold cmpI;rw[if_neg h1,if_neg h2];rfl,rfl⟩
theorem unan_C (a:Int) (S:Mem):C Tryz.prog G Ext 133 [.int .u64 a] S fun v S'=>v=.bool false∧S'=S:=by
 refine C.fn Tryz.func133 rfl (by kernel_rfl) rfl (go ?_)
 refine⟨.inr rfl,_,rfl,(force_eq rfl).trans ?_,rfl⟩
 rw[bne_self_eq_false]
theorem ucmp_C (a b:Int) (S:Mem):C Tryz.prog G Ext 101 [.int .u64 a,.int .u64 b] S fun v S'=>v=.int .i64 (cmpI a b)∧S'=S:=by
 refine C.fn Tryz.func101 rfl (by kernel_rfl) rfl (go ?_)
 refine L.cl (unan_C a S) rfl rfl ?_
 rintro _ _ ⟨rfl,rfl⟩
 refine⟨nofun,go ?_⟩
 refine L.cl (unan_C b _) rfl rfl ?_
 rintro _ _ ⟨rfl,rfl⟩
 refine⟨nofun,go ?_⟩
 refine W.condF rfl (go ?_)
 refine W.condF rfl (go ?_)
 refine W.ite rfl (fun h=>?_) (fun h=>?_)
 ·have h1:a<b:=of_decide_eq_true h
  refine go ?_
  exact⟨.inr rfl,_,rfl,by unfold cmpI;rw[if_pos h1];rfl,rfl⟩
 have h1:¬ a<b:=of_decide_eq_false h
 clear h
 refine go ?_
 refine W.ite rfl (fun h=>?_) (fun h=>?_)
 ·have h2:b<a:=of_decide_eq_true h
  refine go ?_
  exact⟨.inr rfl,_,rfl,by unfold cmpI;rw[if_neg h1,if_pos h2];rfl,rfl⟩
 have h2:¬ b<a:=of_decide_eq_false h
 refine go ?_
 exact⟨.inr rfl,_,rfl,by unfold cmpI;rw[if_neg h1,if_neg h2];rfl,rfl⟩
theorem toW_ge' {N:Nat} (h:0<(toW N).length):2^(64*((toW N).length - 1))≤N:=by
 refine Classical.byContradiction fun hc=>?_
 have:=(toW_len N ((toW N).length - 1)).2 (by omega)
 omega
theorem cmp_len {l1 l2:WL} (h:(fm l1).length<(fm l2).length):wnum l1<wnum l2:=by
 have h1:=wnum_lt (fm l1)
 rw[show wnum (fm l1)=wnum l1 from wnum_toW _] at h1
 have h2:=toW_ge' (N:=wnum l2) (show 0<(fm l2).length by omega)
 have h3:2^(64*(fm l1).length)≤2^(64*((toW (wnum l2)).length - 1)):=Nat.pow_le_pow_right (by omega) (by have:(fm l2).length=(toW (wnum l2)).length:=rfl;omega)
 omega
theorem split_at {f:WL} {k:Nat} {x:BitVec 64} (h:f[k]?=some x):wnum f=wnum (f.take k)+2^(64*k)*(x.toNat+18446744073709551616*wnum (f.drop (k+1))):=by
 have hlt:=(List.getElem?_eq_some_iff.1 h).1
 have hx:=(List.getElem?_eq_some_iff.1 h).2
 have h1:f=f.take k++(x :: f.drop (k+1)):=by
  conv=>lhs;rw[← List.take_append_drop k f,List.drop_eq_getElem_cons hlt,hx]
 conv=>lhs;rw[h1]
 rw[wnum_append,List.length_take,Nat.min_eq_left (by omega)];rfl
theorem cmp_at {f g:WL} {k:Nat} {x y:BitVec 64} (hx:f[k]?=some x) (hy:g[k]?=some y) (he:f.drop (k+1)=g.drop (k+1)) (h:x.toNat<y.toNat):wnum f<wnum g:=by
 rw[split_at hx,split_at hy,he]
 have h1:=wnum_lt (f.take k)
 have h2:2^(64*(f.take k).length)≤2^(64*k):=Nat.pow_le_pow_right (by omega) (by rw[List.length_take];omega)
 have h3:=Nat.mul_le_mul_left (2^(64*k)) (show x.toNat+18446744073709551616*wnum (g.drop (k+1))+1≤y.toNat+18446744073709551616*wnum (g.drop (k+1)) by omega)
 rw[Nat.mul_add (2^(64*k)) (x.toNat+18446744073709551616*wnum (g.drop (k+1))) 1,Nat.mul_one] at h3
 omega
theorem drop_same {f g:WL} {k:Nat} (h:∀ p,k≤p→f[p]?=g[p]?):f.drop k=g.drop k:=List.ext_getElem? fun i=>by rw[List.getElem?_drop,List.getElem?_drop];exact h _ (by omega)
theorem natCmp_C (a1 a2:Option Addr) (c1 c2:Nat) (l1 l2:WL) (S:Mem) (h1:WIn S a1 c1 l1) (h2:WIn S a2 c2 l2) :
  C Tryz.prog G Ext 69 [.slice a1 l1.length c1,.slice a2 l2.length c2] S fun v S'=>v=.int .i64 (cmpI (wnum l1) (wnum l2))∧S'=S:=by
 refine C.fn Tryz.func69 rfl (by kernel_rfl) rfl (go ?_)
 refine L.cl (trim_C a1 c1 l1 _ h1) rfl rfl ?_
 rintro _ _ ⟨rfl,rfl⟩
 refine⟨nofun,go ?_⟩
 refine L.cl (trim_C a2 c2 l2 _ h2) rfl rfl ?_
 rintro _ _ ⟨rfl,rfl⟩
 refine⟨nofun,?_⟩
 have hF1:=h1.form
 have hF2:=h2.form
 have hl1:=hF1.2.2.2
 have hl2:=hF2.2.2.2
 have e1:wnum (fm l1)=wnum l1:=wnum_toW _
 have e2:wnum (fm l2)=wnum l2:=wnum_toW _
 have q1:=fun h=>cmp_len (l1:=l1) (l2:=l2) h
 have q2:=fun h=>cmp_len (l1:=l2) (l2:=l1) h
 rw[← e1,← e2] at q1 q2
 rw[← e1,← e2]
 generalize fm l1=f at *
 generalize fm l2=g at *
 refine go ?_
 refine W.ite rfl (fun h=>?_) (fun h=>?_)
 ·have hne:f.length≠g.length:=fun he=>by rw[he] at h;simp at h
  clear h
  refine go ?_
  refine L.cl (icmp_C _ _ _) rfl rfl ?_
  rintro _ _ ⟨rfl,rfl⟩
  refine⟨nofun,go ?_⟩
  refine⟨.inr rfl,_,rfl,?_,rfl⟩
  show Value.int .i64 (cmpI _ _)=_
  congr 1
  unfold cmpI
  rcases Nat.lt_or_gt_of_ne hne with h | h
  ·have:=q1 h
   rw[if_pos (by omega),if_pos (by omega)]
  ·have:=q2 h
   rw[if_neg (by omega),if_pos (by omega),if_neg (by omega),if_pos (by omega)]
 have heq:f.length=g.length:=by
  refine Classical.byContradiction fun hc=>?_
  have:((f.length:Int) != (g.length:Int))=true:=by rw[bne_iff_ne];omega
  rw[this] at h;cases h
 clear h q1 q2
 rename Mem=>S
 refine go ?_
 refine W.loop (fun j e T=>∃ k:Nat,j=k∧k≤f.length∧T=S∧e 0=.slice a1 f.length c1∧e 1=.slice a2 g.length c2∧e 5=.int .i64 ((k:Int) - 1)∧∀ p,k≤p→f[p]?=g[p]?) f.length
  ⟨f.length,rfl,Nat.le_refl _,rfl,rfl,rfl,?_,fun p hp=>?_⟩ ?_
 ·exact congrArg (Value.int .i64) (wrap64 (by omega) (by omega))
 ·rw[List.getElem?_eq_none (by omega),List.getElem?_eq_none (by omega)]
 rintro j e T ⟨k,rfl,hk,rfl,e0,e1',e5,hp⟩
 refine W.env3 e0 e1' e5 (go ?_)
 refine W.ite rfl (fun h=>?_) (fun h=>?_)
 ·have hk1:1≤j:=by have:=of_decide_eq_true h;omega
  clear h
  obtain⟨m,rfl⟩:∃ m,j=m+1:=⟨j - 1,by omega⟩
  have hm:(((m+1:Nat):Int) - 1)=(m:Int):=by omega
  rw[hm]
  obtain⟨x,hx⟩:∃ x,f[m]?=some x:=⟨_,List.getElem?_eq_getElem (by omega)⟩
  obtain⟨y,hy⟩:∃ y,g[m]?=some y:=⟨_,List.getElem?_eq_getElem (by omega)⟩
  refine go ?_
  refine L.el hF1.1 (k:=m) rfl (wv_get hx) rfl rfl rfl rfl (fun _=>rfl) rfl (fun p=>go ?_)
  refine L.el hF2.1 (k:=m) rfl (wv_get hy) rfl rfl rfl rfl (fun _=>rfl) rfl (fun p=>go ?_)
  refine W.ite rfl (fun h=>?_) (fun h=>?_)
  ·have hne:x≠y:=by rw[v64_ne] at h;simpa using h
   clear h
   refine go ?_
   refine L.el hF1.1 (k:=m) rfl (wv_get hx) rfl rfl rfl rfl (fun _=>rfl) rfl (fun p=>go ?_)
   refine L.el hF2.1 (k:=m) rfl (wv_get hy) rfl rfl rfl rfl (fun _=>rfl) rfl (fun p=>?_)
   refine L.cl (ucmp_C _ _ _) rfl rfl ?_
   rintro _ _ ⟨rfl,rfl⟩
   refine⟨fun _=>Cons.refl _,go ?_⟩
   refine⟨.inr rfl,_,rfl,?_,rfl⟩
   show Value.int .i64 (cmpI _ _)=_
   congr 1
   unfold cmpI
   have hd:f.drop (m+1)=g.drop (m+1):=drop_same hp
   have hne2:x.toNat≠y.toNat:=fun h=>hne (BitVec.eq_of_toNat_eq h)
   rcases Nat.lt_or_gt_of_ne hne2 with h | h
   ·have:=cmp_at hx hy hd h
    rw[if_pos (by omega),if_pos (by omega)]
   ·have:=cmp_at hy hx hd.symm h
    rw[if_neg (by omega),if_pos (by omega),if_neg (by omega),if_pos (by omega)]
  ·have hxy:x=y:=by rw[v64_ne] at h;simpa using h
   clear h
   refine go ?_
   refine⟨m,by omega,m,rfl,by omega,rfl,rfl,rfl,?_,fun p hp1=>?_⟩
   ·refine(force_eq rfl).trans ?_
    rw[wrap64 (by omega) (by omega)]
   ·rcases Nat.lt_or_ge m p with h | h
    ·exact hp p (by omega)
    ·have:p=m:=by omega
     subst this
     rw[hx,hy,hxy]
 ·have hk0:j=0:=by have:=of_decide_eq_false h;omega
  subst hk0
  clear h
  have hfg:f=g:=List.ext_getElem? fun p=>hp p (Nat.zero_le _)
  refine go ?_
  refine⟨.inr rfl,_,rfl,?_,rfl⟩
  subst hfg
  unfold cmpI
  rw[if_neg (by omega),if_neg (by omega)];rfl
end
section
open Go
variable {G:Nat} {Ext:FuncId→List Value→Mem→Outc→Mem→Prop}
theorem take_more {l:WL} {i:Nat} (h:l.length≤i):l.take (i+1)=l.take i:=by rw[List.take_of_length_le (by omega),List.take_of_length_le h]
def SumR (S S':Mem) (v:Value) (N:Nat):Prop:=∃ (ro:Nat) (o:WL) (n:Nat),v=.slice (some ⟨ro,0,none⟩) n n∧S.length≤ro∧Cons S S'∧S'.row? ro=some (newR (wv o) 57)∧o.length=n∧n<1000000∧wnum o=N
theorem add_C (a1 a2:Option Addr) (c1 c2:Nat) (l1 l2:WL) (S:Mem) (h1:WIn S a1 c1 l1) (h2:WIn S a2 c2 l2) (n1:l1.length<100000) (n2:l2.length<100000) :
  C Tryz.prog G Ext 102 [.slice a1 l1.length c1,.slice a2 l2.length c2] S fun v S'=>SumR S S' v (wnum l1+wnum l2):=by
 refine C.fn Tryz.func102 rfl (by kernel_rfl) rfl (go ?_)
 refine W.ite rfl (fun h=>?_) (fun h=>?_)
 ·have hlt:l1.length<l2.length:=by have:=of_decide_eq_true h;omega
  clear h
  rw[Nat.add_comm (wnum l1)]
  refine go ?_
  have hw1:IntKind.i64.wrap ((l2.length:Int)+1)=((l2.length+1:Nat):Int):=by rw[wrap64 (by omega) (by omega)];rfl
  refine L.mk (n:=l2.length+1) (m:=l2.length+1) (bytes:=8) (zv:=v64 0#64) rfl rfl hw1 rfl hw1 (Nat.le_refl _) (by omega) rfl rfl ?_
  have hro:Mem.row? (S++[newR (List.replicate (l2.length+1) (v64 0#64)) 57]) S.length=some (newR (wv (List.replicate (l2.length+1) 0#64)) 57):=by
   rw[row_push_new rfl];simp [wv]
  have hc:=Cons.push S (newR (List.replicate (l2.length+1) (v64 0#64)) 57)
  generalize S++[newR (List.replicate (l2.length+1) (v64 0#64)) 57]=S1 at *
  obtain⟨ro,hro0⟩:∃ ro,ro=S.length:=⟨_,rfl⟩
  rw[← hro0] at hro ⊢
  refine go ?_
  refine W.loop (fun j e T=>∃ (i:Nat) (o:WL) (cr:Nat),j=l2.length - i∧i≤l2.length∧e 0=.slice a2 l2.length c2∧e 1=.slice a1 l1.length c1∧e 5=.slice (some ⟨ro,0,none⟩) (l2.length+1) (l2.length+1)∧e 6=.int .u64 (cr:Int)∧e 21=vi l2.length∧e 22=vi i∧Cons S T∧T.row? ro=some (newR (wv o) 57)∧o.length=l2.length+1∧cr≤1∧wnum o+cr*2^(64*i)=wnum (l2.take i)+wnum (l1.take i)∧∀ p,i≤p→p<l2.length+1→o[p]?=some 0#64) l2.length
   ⟨0,List.replicate (l2.length+1) 0#64,0,by omega,by omega,rfl,rfl,rfl,rfl,rfl,rfl,hc,hro,by simp,by omega,by rw[wnum_zeros];simp [wnum],fun p _ hp=>by simp [hp]⟩ ?_
  clear hro hc
  rintro j e T ⟨i,o,cr,rfl,hi,e0,e1,e5,e6,e21,e22,hkT,hro,hol,hcr,hsum,hz⟩
  refine W.env6 e0 e1 e5 e6 e21 e22 (go ?_)
  refine W.ite rfl (fun h=>?_) (fun h=>?_)
  ·have hin:i<l2.length:=by have:=of_decide_eq_true h;omega
   clear h
   obtain⟨x,hx⟩:∃ x,l2[i]?=some x:=⟨_,List.getElem?_eq_getElem hin⟩
   have hxl:=x.isLt
   have hz0:=hz i (Nat.le_refl _) (by omega)
   refine go ?_
   refine W.ite rfl (fun h=>?_) (fun h=>?_)
   ·have hi2:i<l1.length:=by have:=of_decide_eq_true h;omega
    clear h
    obtain⟨y,hy⟩:∃ y,l1[i]?=some y:=⟨_,List.getElem?_eq_getElem hi2⟩
    have hyl:=y.isLt
    have hty:=wnum_take_succ hy
    refine go ?_
    refine L.el (h1.1.cons hkT) (k:=i) rfl (wv_get hy) rfl rfl rfl rfl (fun _=>rfl) rfl (fun p=>go ?_)
    refine L.el (h2.1.cons hkT) (k:=i) rfl (wv_get hx) rfl rfl rfl rfl (fun _=>rfl) rfl (fun p=>go ?_)
    refine L.add64 (a:=x.toNat) (b:=y.toNat) (c:=cr) hcr rfl rfl (go ?_)
    obtain⟨r,hr⟩:∃ r:BitVec 64,r=BitVec.ofNat 64 ((x.toNat+y.toNat+cr) % 18446744073709551616):=⟨_,rfl⟩
    have hrv:r.toNat=(x.toNat+y.toNat+cr) % 18446744073709551616:=by rw[hr,BitVec.toNat_ofNat];exact Nat.mod_eq_of_lt (Nat.mod_lt _ (by decide))
    rw[← hrv]
    refine L.elst hro rfl (by show 0+(l2.length+1)≤(wv o).length;rw[wv_len,hol];omega) (k:=i) rfl (by omega) rfl rfl rfl rfl (fun _=>rfl) (fun _=>rfl) rfl rfl rfl (fun p=>?_)
    have hr2:Mem.row? (List.set T ro { newR (wv o) 57 with cells:=(newR (wv o) 57).cells.set (0+i) (v64 r) }) ro=some (newR (wv (o.set i r)) 57):=by
     rw[row_set_same hro rfl,Nat.zero_add]
     simp [newR,wv,List.map_set]
    have hk6:=hkT.set ro { newR (wv o) 57 with cells:=(newR (wv o) 57).cells.set (0+i) (v64 r) } (by omega)
    have hws:=wnum_set (y:=r) hz0
    generalize List.set T ro _=T6 at *
    refine go ?_
    refine⟨l2.length - (i+1),by omega,i+1,o.set i r,(x.toNat+y.toNat+cr) / 18446744073709551616,rfl,by omega,rfl,rfl,rfl,rfl,rfl,?_,hk6,hr2,by simpa using hol,by omega,?_,fun p hp1 hp2=>?_⟩
    ·refine(force_eq rfl).trans ?_
     rw[wrap64 (by omega) (by omega)];rfl
    ·rw[wnum_take_succ hx,hty]
     have hz1:(0#64:BitVec 64).toNat * 2^(64*i)=0:=Nat.zero_mul _
     rw[hz1,hrv] at hws
     have hp:2^(64*(i+1))=2^(64*i)*18446744073709551616:=by rw[show 64*(i+1)=64*i+64 by omega,Nat.pow_add]
     rw[hp]
     have e3:(x.toNat+y.toNat+cr) / 18446744073709551616*(2^(64*i)*18446744073709551616)+(x.toNat+y.toNat+cr) % 18446744073709551616*2^(64*i)=(x.toNat+y.toNat+cr)*2^(64*i):=by
      rw[Nat.mul_comm (2^(64*i)),← Nat.mul_assoc,← Nat.add_mul,Nat.mul_comm _ 18446744073709551616,Nat.div_add_mod]
     rw[Nat.add_mul,Nat.add_mul] at e3
     rw[Nat.mul_comm _ x.toNat,Nat.mul_comm _ (y.toNat)]
     omega
    ·rw[List.getElem?_set,if_neg (by omega)];exact hz p (by omega) hp2
   ·have hi2:l1.length≤i:=by have:=of_decide_eq_false h;omega
    clear h
    have hty:wnum (l1.take (i+1))=wnum (l1.take i)+2^(64*i)*0:=by rw[take_more hi2];omega
    refine go ?_
    refine L.el (h2.1.cons hkT) (k:=i) rfl (wv_get hx) rfl rfl rfl rfl (fun _=>rfl) rfl (fun p=>go ?_)
    refine L.add64 (a:=x.toNat) (b:=0) (c:=cr) hcr rfl rfl (go ?_)
    obtain⟨r,hr⟩:∃ r:BitVec 64,r=BitVec.ofNat 64 ((x.toNat+0+cr) % 18446744073709551616):=⟨_,rfl⟩
    have hrv:r.toNat=(x.toNat+0+cr) % 18446744073709551616:=by rw[hr,BitVec.toNat_ofNat];exact Nat.mod_eq_of_lt (Nat.mod_lt _ (by decide))
    rw[← hrv]
    refine L.elst hro rfl (by show 0+(l2.length+1)≤(wv o).length;rw[wv_len,hol];omega) (k:=i) rfl (by omega) rfl rfl rfl rfl (fun _=>rfl) (fun _=>rfl) rfl rfl rfl (fun p=>?_)
    have hr2:Mem.row? (List.set T ro { newR (wv o) 57 with cells:=(newR (wv o) 57).cells.set (0+i) (v64 r) }) ro=some (newR (wv (o.set i r)) 57):=by
     rw[row_set_same hro rfl,Nat.zero_add]
     simp [newR,wv,List.map_set]
    have hk6:=hkT.set ro { newR (wv o) 57 with cells:=(newR (wv o) 57).cells.set (0+i) (v64 r) } (by omega)
    have hws:=wnum_set (y:=r) hz0
    generalize List.set T ro _=T6 at *
    refine go ?_
    refine⟨l2.length - (i+1),by omega,i+1,o.set i r,(x.toNat+0+cr) / 18446744073709551616,rfl,by omega,rfl,rfl,rfl,rfl,rfl,?_,hk6,hr2,by simpa using hol,by omega,?_,fun p hp1 hp2=>?_⟩
    ·refine(force_eq rfl).trans ?_
     rw[wrap64 (by omega) (by omega)];rfl
    ·rw[wnum_take_succ hx,hty]
     have hz1:(0#64:BitVec 64).toNat * 2^(64*i)=0:=Nat.zero_mul _
     rw[hz1,hrv] at hws
     have hp:2^(64*(i+1))=2^(64*i)*18446744073709551616:=by rw[show 64*(i+1)=64*i+64 by omega,Nat.pow_add]
     rw[hp]
     have e3:(x.toNat+0+cr) / 18446744073709551616*(2^(64*i)*18446744073709551616)+(x.toNat+0+cr) % 18446744073709551616*2^(64*i)=(x.toNat+0+cr)*2^(64*i):=by
      rw[Nat.mul_comm (2^(64*i)),← Nat.mul_assoc,← Nat.add_mul,Nat.mul_comm _ 18446744073709551616,Nat.div_add_mod]
     rw[Nat.add_mul,Nat.add_mul] at e3
     rw[Nat.mul_comm _ x.toNat,Nat.mul_comm _ (0)]
     omega
    ·rw[List.getElem?_set,if_neg (by omega)];exact hz p (by omega) hp2
  ·have hin:i=l2.length:=by have:=of_decide_eq_false h;omega
   subst hin
   clear h
   rw[List.take_length,List.take_of_length_le (show l1.length≤l2.length by omega)] at hsum
   have hz0:=hz l2.length (Nat.le_refl _) (by omega)
   obtain⟨r,hr⟩:∃ r:BitVec 64,r=BitVec.ofNat 64 cr:=⟨_,rfl⟩
   have hrv:r.toNat=cr:=by rw[hr,BitVec.toNat_ofNat];exact Nat.mod_eq_of_lt (by omega)
   rw[← hrv]
   refine go ?_
   refine L.elst hro rfl (by show 0+(l2.length+1)≤(wv o).length;rw[wv_len,hol];omega) (k:=l2.length) rfl (by omega) rfl rfl rfl rfl (fun _=>rfl) (fun _=>rfl) rfl rfl rfl (fun p=>?_)
   have hr2:Mem.row? (List.set T ro { newR (wv o) 57 with cells:=(newR (wv o) 57).cells.set (0+l2.length) (v64 r) }) ro=some (newR (wv (o.set l2.length r)) 57):=by
    rw[row_set_same hro rfl,Nat.zero_add]
    simp [newR,wv,List.map_set]
   have hk6:=hkT.set ro { newR (wv o) 57 with cells:=(newR (wv o) 57).cells.set (0+l2.length) (v64 r) } (by omega)
   have hws:=wnum_set (y:=r) hz0
   generalize List.set T ro _=T6 at *
   refine go ?_
   have hz1:(0#64:BitVec 64).toNat * 2^(64*l2.length)=0:=Nat.zero_mul _
   rw[hz1,hrv] at hws
   exact⟨.inr rfl,_,rfl,ro,o.set l2.length r,l2.length+1,rfl,by omega,hk6,hr2,by simpa using hol,by omega,by omega⟩
 ·have hlt:l2.length≤l1.length:=by have:=of_decide_eq_false h;omega
  clear h
  refine go ?_
  have hw1:IntKind.i64.wrap ((l1.length:Int)+1)=((l1.length+1:Nat):Int):=by rw[wrap64 (by omega) (by omega)];rfl
  refine L.mk (n:=l1.length+1) (m:=l1.length+1) (bytes:=8) (zv:=v64 0#64) rfl rfl hw1 rfl hw1 (Nat.le_refl _) (by omega) rfl rfl ?_
  have hro:Mem.row? (S++[newR (List.replicate (l1.length+1) (v64 0#64)) 57]) S.length=some (newR (wv (List.replicate (l1.length+1) 0#64)) 57):=by
   rw[row_push_new rfl];simp [wv]
  have hc:=Cons.push S (newR (List.replicate (l1.length+1) (v64 0#64)) 57)
  generalize S++[newR (List.replicate (l1.length+1) (v64 0#64)) 57]=S1 at *
  obtain⟨ro,hro0⟩:∃ ro,ro=S.length:=⟨_,rfl⟩
  rw[← hro0] at hro ⊢
  refine go ?_
  refine W.loop (fun j e T=>∃ (i:Nat) (o:WL) (cr:Nat),j=l1.length - i∧i≤l1.length∧e 0=.slice a1 l1.length c1∧e 1=.slice a2 l2.length c2∧e 5=.slice (some ⟨ro,0,none⟩) (l1.length+1) (l1.length+1)∧e 6=.int .u64 (cr:Int)∧e 21=vi l1.length∧e 22=vi i∧Cons S T∧T.row? ro=some (newR (wv o) 57)∧o.length=l1.length+1∧cr≤1∧wnum o+cr*2^(64*i)=wnum (l1.take i)+wnum (l2.take i)∧∀ p,i≤p→p<l1.length+1→o[p]?=some 0#64) l1.length
   ⟨0,List.replicate (l1.length+1) 0#64,0,by omega,by omega,rfl,rfl,rfl,rfl,rfl,rfl,hc,hro,by simp,by omega,by rw[wnum_zeros];simp [wnum],fun p _ hp=>by simp [hp]⟩ ?_
  clear hro hc
  rintro j e T ⟨i,o,cr,rfl,hi,e0,e1,e5,e6,e21,e22,hkT,hro,hol,hcr,hsum,hz⟩
  refine W.env6 e0 e1 e5 e6 e21 e22 (go ?_)
  refine W.ite rfl (fun h=>?_) (fun h=>?_)
  ·have hin:i<l1.length:=by have:=of_decide_eq_true h;omega
   clear h
   obtain⟨x,hx⟩:∃ x,l1[i]?=some x:=⟨_,List.getElem?_eq_getElem hin⟩
   have hxl:=x.isLt
   have hz0:=hz i (Nat.le_refl _) (by omega)
   refine go ?_
   refine W.ite rfl (fun h=>?_) (fun h=>?_)
   ·have hi2:i<l2.length:=by have:=of_decide_eq_true h;omega
    clear h
    obtain⟨y,hy⟩:∃ y,l2[i]?=some y:=⟨_,List.getElem?_eq_getElem hi2⟩
    have hyl:=y.isLt
    have hty:=wnum_take_succ hy
    refine go ?_
    refine L.el (h2.1.cons hkT) (k:=i) rfl (wv_get hy) rfl rfl rfl rfl (fun _=>rfl) rfl (fun p=>go ?_)
    refine L.el (h1.1.cons hkT) (k:=i) rfl (wv_get hx) rfl rfl rfl rfl (fun _=>rfl) rfl (fun p=>go ?_)
    refine L.add64 (a:=x.toNat) (b:=y.toNat) (c:=cr) hcr rfl rfl (go ?_)
    obtain⟨r,hr⟩:∃ r:BitVec 64,r=BitVec.ofNat 64 ((x.toNat+y.toNat+cr) % 18446744073709551616):=⟨_,rfl⟩
    have hrv:r.toNat=(x.toNat+y.toNat+cr) % 18446744073709551616:=by rw[hr,BitVec.toNat_ofNat];exact Nat.mod_eq_of_lt (Nat.mod_lt _ (by decide))
    rw[← hrv]
    refine L.elst hro rfl (by show 0+(l1.length+1)≤(wv o).length;rw[wv_len,hol];omega) (k:=i) rfl (by omega) rfl rfl rfl rfl (fun _=>rfl) (fun _=>rfl) rfl rfl rfl (fun p=>?_)
    have hr2:Mem.row? (List.set T ro { newR (wv o) 57 with cells:=(newR (wv o) 57).cells.set (0+i) (v64 r) }) ro=some (newR (wv (o.set i r)) 57):=by
     rw[row_set_same hro rfl,Nat.zero_add]
     simp [newR,wv,List.map_set]
    have hk6:=hkT.set ro { newR (wv o) 57 with cells:=(newR (wv o) 57).cells.set (0+i) (v64 r) } (by omega)
    have hws:=wnum_set (y:=r) hz0
    generalize List.set T ro _=T6 at *
    refine go ?_
    refine⟨l1.length - (i+1),by omega,i+1,o.set i r,(x.toNat+y.toNat+cr) / 18446744073709551616,rfl,by omega,rfl,rfl,rfl,rfl,rfl,?_,hk6,hr2,by simpa using hol,by omega,?_,fun p hp1 hp2=>?_⟩
    ·refine(force_eq rfl).trans ?_
     rw[wrap64 (by omega) (by omega)];rfl
    ·rw[wnum_take_succ hx,hty]
     have hz1:(0#64:BitVec 64).toNat * 2^(64*i)=0:=Nat.zero_mul _
     rw[hz1,hrv] at hws
     have hp:2^(64*(i+1))=2^(64*i)*18446744073709551616:=by rw[show 64*(i+1)=64*i+64 by omega,Nat.pow_add]
     rw[hp]
     have e3:(x.toNat+y.toNat+cr) / 18446744073709551616*(2^(64*i)*18446744073709551616)+(x.toNat+y.toNat+cr) % 18446744073709551616*2^(64*i)=(x.toNat+y.toNat+cr)*2^(64*i):=by
      rw[Nat.mul_comm (2^(64*i)),← Nat.mul_assoc,← Nat.add_mul,Nat.mul_comm _ 18446744073709551616,Nat.div_add_mod]
     rw[Nat.add_mul,Nat.add_mul] at e3
     rw[Nat.mul_comm _ x.toNat,Nat.mul_comm _ (y.toNat)]
     omega
    ·rw[List.getElem?_set,if_neg (by omega)];exact hz p (by omega) hp2
   ·have hi2:l2.length≤i:=by have:=of_decide_eq_false h;omega
    clear h
    have hty:wnum (l2.take (i+1))=wnum (l2.take i)+2^(64*i)*0:=by rw[take_more hi2];omega
    refine go ?_
    refine L.el (h1.1.cons hkT) (k:=i) rfl (wv_get hx) rfl rfl rfl rfl (fun _=>rfl) rfl (fun p=>go ?_)
    refine L.add64 (a:=x.toNat) (b:=0) (c:=cr) hcr rfl rfl (go ?_)
    obtain⟨r,hr⟩:∃ r:BitVec 64,r=BitVec.ofNat 64 ((x.toNat+0+cr) % 18446744073709551616):=⟨_,rfl⟩
    have hrv:r.toNat=(x.toNat+0+cr) % 18446744073709551616:=by rw[hr,BitVec.toNat_ofNat];exact Nat.mod_eq_of_lt (Nat.mod_lt _ (by decide))
    rw[← hrv]
    refine L.elst hro rfl (by show 0+(l1.length+1)≤(wv o).length;rw[wv_len,hol];omega) (k:=i) rfl (by omega) rfl rfl rfl rfl (fun _=>rfl) (fun _=>rfl) rfl rfl rfl (fun p=>?_)
    have hr2:Mem.row? (List.set T ro { newR (wv o) 57 with cells:=(newR (wv o) 57).cells.set (0+i) (v64 r) }) ro=some (newR (wv (o.set i r)) 57):=by
     rw[row_set_same hro rfl,Nat.zero_add]
     simp [newR,wv,List.map_set]
    have hk6:=hkT.set ro { newR (wv o) 57 with cells:=(newR (wv o) 57).cells.set (0+i) (v64 r) } (by omega)
    have hws:=wnum_set (y:=r) hz0
    generalize List.set T ro _=T6 at *
    refine go ?_
    refine⟨l1.length - (i+1),by omega,i+1,o.set i r,(x.toNat+0+cr) / 18446744073709551616,rfl,by omega,rfl,rfl,rfl,rfl,rfl,?_,hk6,hr2,by simpa using hol,by omega,?_,fun p hp1 hp2=>?_⟩
    ·refine(force_eq rfl).trans ?_
     rw[wrap64 (by omega) (by omega)];rfl
    ·rw[wnum_take_succ hx,hty]
     have hz1:(0#64:BitVec 64).toNat * 2^(64*i)=0:=Nat.zero_mul _
     rw[hz1,hrv] at hws
     have hp:2^(64*(i+1))=2^(64*i)*18446744073709551616:=by rw[show 64*(i+1)=64*i+64 by omega,Nat.pow_add]
     rw[hp]
     have e3:(x.toNat+0+cr) / 18446744073709551616*(2^(64*i)*18446744073709551616)+(x.toNat+0+cr) % 18446744073709551616*2^(64*i)=(x.toNat+0+cr)*2^(64*i):=by
      rw[Nat.mul_comm (2^(64*i)),← Nat.mul_assoc,← Nat.add_mul,Nat.mul_comm _ 18446744073709551616,Nat.div_add_mod]
     rw[Nat.add_mul,Nat.add_mul] at e3
     rw[Nat.mul_comm _ x.toNat,Nat.mul_comm _ (0)]
     omega
    ·rw[List.getElem?_set,if_neg (by omega)];exact hz p (by omega) hp2
  ·have hin:i=l1.length:=by have:=of_decide_eq_false h;omega
   subst hin
   clear h
   rw[List.take_length,List.take_of_length_le (show l2.length≤l1.length by omega)] at hsum
   have hz0:=hz l1.length (Nat.le_refl _) (by omega)
   obtain⟨r,hr⟩:∃ r:BitVec 64,r=BitVec.ofNat 64 cr:=⟨_,rfl⟩
   have hrv:r.toNat=cr:=by rw[hr,BitVec.toNat_ofNat];exact Nat.mod_eq_of_lt (by omega)
   rw[← hrv]
   refine go ?_
   refine L.elst hro rfl (by show 0+(l1.length+1)≤(wv o).length;rw[wv_len,hol];omega) (k:=l1.length) rfl (by omega) rfl rfl rfl rfl (fun _=>rfl) (fun _=>rfl) rfl rfl rfl (fun p=>?_)
   have hr2:Mem.row? (List.set T ro { newR (wv o) 57 with cells:=(newR (wv o) 57).cells.set (0+l1.length) (v64 r) }) ro=some (newR (wv (o.set l1.length r)) 57):=by
    rw[row_set_same hro rfl,Nat.zero_add]
    simp [newR,wv,List.map_set]
   have hk6:=hkT.set ro { newR (wv o) 57 with cells:=(newR (wv o) 57).cells.set (0+l1.length) (v64 r) } (by omega)
   have hws:=wnum_set (y:=r) hz0
   generalize List.set T ro _=T6 at *
   refine go ?_
   have hz1:(0#64:BitVec 64).toNat * 2^(64*l1.length)=0:=Nat.zero_mul _
   rw[hz1,hrv] at hws
   exact⟨.inr rfl,_,rfl,ro,o.set l1.length r,l1.length+1,rfl,by omega,hk6,hr2,by simpa using hol,by omega,by omega⟩
def addL (l1 l2:WL):WL:=if small l1 && small l2 then toldL (toW (wnum l1+wnum l2)) else []
def addE (l1 l2:WL):Int:=if small l1 && small l2 then toldE (toW (wnum l1+wnum l2)) else 3
theorem natAdd_C (a1 a2:Option Addr) (c1 c2:Nat) (l1 l2:WL) (S:Mem) (h1:WIn S a1 c1 l1) (h2:WIn S a2 c2 l2) :
  C Tryz.prog G Ext 70 [.slice a1 l1.length c1,.slice a2 l2.length c2] S fun v S'=>∃ d:Hd,v=.tuple #[d.v,.int .i64 (addE l1 l2)]∧RetW S S' d (addL l1 l2):=by
 refine C.fn Tryz.func70 rfl (by kernel_rfl) rfl (go ?_)
 refine L.bs [WS.v ⟨a1,c1,l1⟩,WS.v ⟨a2,c2,l2⟩] rfl rfl rfl rfl rfl rfl ?_
 have hc:Cons S (S++[newR [WS.v ⟨a1,c1,l1⟩,WS.v ⟨a2,c2,l2⟩] 22]):=Cons.push _ _
 have hs:Slv (S++[newR [WS.v ⟨a1,c1,l1⟩,WS.v ⟨a2,c2,l2⟩] 22]) 1 (.slice (some ⟨S.length,0,none⟩) 2 2) 2 ([WS.mk a1 c1 l1,WS.mk a2 c2 l2].map WS.v):=Slv.all (row_push_new rfl) rfl rfl
 generalize S++[newR [WS.v ⟨a1,c1,l1⟩,WS.v ⟨a2,c2,l2⟩] 22]=S1 at *
 refine L.cl (fit_C _ [⟨a1,c1,l1⟩,⟨a2,c2,l2⟩] S1 hs (fun w hw=>by
  simp only [List.mem_cons,List.not_mem_nil,or_false] at hw
  rcases hw with rfl | rfl
  ·exact h1.cons hc
  ·exact h2.cons hc) (by simp)) rfl rfl ?_
 rintro _ _ ⟨rfl,rfl⟩
 refine⟨nofun,go ?_⟩
 refine W.ite rfl (fun h=>?_) (fun h=>?_)
 ·have hsm:(small l1 && small l2)=false:=by
   have h0:=h
   simp at h0
   cases hq:small l1<;>simp_all
  refine go ?_
  exact⟨.inr rfl,_,rfl,Hd0,(by unfold addE;rw[hsm];rfl),by unfold addL;rw[hsm];exact RetW.nil hc⟩
 have hsm:(small l1 && small l2)=true:=by
  have h0:=h
  simp at h0
  cases hq:small l1<;>simp_all
 clear h
 have hsm2:=hsm
 rw[Bool.and_eq_true] at hsm2
 rename Mem=>S1
 have hI1:=h1.cons hc
 have hI2:=h2.cons hc
 refine go ?_
 refine L.cl (trim_C a1 c1 l1 _ hI1) rfl rfl ?_
 rintro _ _ ⟨rfl,rfl⟩
 refine⟨nofun,go ?_⟩
 refine L.cl (trim_C a2 c2 l2 _ hI2) rfl rfl ?_
 rintro _ _ ⟨rfl,rfl⟩
 refine⟨nofun,?_⟩
 have b1:(fm l1).length≤128:=of_decide_eq_true hsm2.1
 have b2:(fm l2).length≤128:=of_decide_eq_true hsm2.2
 refine L.cl (add_C a1 a2 c1 c2 (fm l1) (fm l2) _ hI1.form hI2.form (by omega) (by omega)) rfl rfl ?_
 rintro _ S2 ⟨ro,o,n,rfl,hro,k2,hr,hol,hn,hnum⟩
 refine⟨nofun,?_⟩
 rw[show wnum (fm l1)=wnum l1 from wnum_toW _,show wnum (fm l2)=wnum l2 from wnum_toW _] at hnum
 have hO:WOwn S2 S.length (some ⟨ro,0,none⟩) n o:=WOwn.row hr hol (by have:=hc.len;omega) (by omega)
 refine L.cl (told_C S _ _ o S2 hO (hc.trans k2)) rfl (by rw[hol];rfl) ?_
 rintro _ _ ⟨rfl,d2,rfl,hR2⟩
 refine⟨nofun,go ?_⟩
 have t:=told_fm o
 unfold fm at t
 rw[hnum] at t
 rw[← t.1] at hR2
 exact⟨.inr rfl,_,rfl,d2,by unfold addE;rw[hsm,if_pos rfl,t.2];rfl,by unfold addL;rw[hsm,if_pos rfl];exact hR2⟩
end
section
open Go
theorem two64 {s:Nat} (hs:s≤64):2^s*2^(64 - s)=18446744073709551616:=by
 rw[← Nat.pow_add,show s+(64 - s)=64 by omega]
theorem up_word {x c s:Nat} (hs:s<64) (hc:c<2^s):(c ||| x*2^s % 18446744073709551616)+18446744073709551616*(x / 2 / 2^(63 - s))=c+x*2^s:=by
 have h1:=two64 (s:=s) (by omega)
 have h2:x*2^s % 18446744073709551616=2^s*(x % 2^(64 - s)):=by
  rw[← h1,Nat.mul_comm x,Nat.mul_mod_mul_left]
 have h3:x / 2 / 2^(63 - s)=x / 2^(64 - s):=by
  rw[Nat.div_div_eq_div_mul,show 64 - s=63 - s+1 by omega,Nat.pow_succ,Nat.mul_comm 2]
 rw[h2,h3,Nat.or_comm,← Nat.two_pow_add_eq_or_of_lt hc]
 conv=>lhs;rw[← h1]
 have h4:=Nat.div_add_mod x (2^(64 - s))
 have h5:x*2^s=2^s*(2^(64 - s)*(x / 2^(64 - s)))+2^s*(x % 2^(64 - s)):=by
  rw[← Nat.mul_add,h4,Nat.mul_comm]
 rw[h5,Nat.mul_assoc];omega
theorem up_over {x s:Nat} (hs:s<64) (hx:x<18446744073709551616):x / 2 / 2^(63 - s)<2^s:=by
 have h1:=two64 (s:=s) (by omega)
 have h3:x / 2 / 2^(63 - s)=x / 2^(64 - s):=by
  rw[Nat.div_div_eq_div_mul,show 64 - s=63 - s+1 by omega,Nat.pow_succ,Nat.mul_comm 2]
 rw[h3]
 exact Nat.div_lt_of_lt_mul (by rw[Nat.mul_comm,h1];exact hx)
theorem up_low {x c s:Nat} (hs:s<64) (hc:c<2^s):(c ||| x*2^s % 18446744073709551616)<18446744073709551616:=by
 have h:(2:Nat)^64=18446744073709551616:=by decide
 rw[← h]
 refine Nat.or_lt_two_pow (Nat.lt_of_lt_of_le hc (Nat.pow_le_pow_right (by decide) (by omega))) (Nat.mod_lt _ (by rw[h];decide))
def dnW (x y s:Nat):Nat:=x / 2^s ||| y*2 % 18446744073709551616*2^(63 - s) % 18446744073709551616
theorem dn_eq {x y s:Nat} (hs:s<64) (hx:x<18446744073709551616):dnW x y s=x / 2^s+2^(64 - s)*(y % 2^s):=by
 have h1:=two64 (s:=s) (by omega)
 have h2:y*2 % 18446744073709551616*2^(63 - s) % 18446744073709551616=2^(64 - s)*(y % 2^s):=by
  rw[Nat.mod_mul_mod,Nat.mul_assoc,Nat.mul_comm 2,← Nat.pow_succ,show (63 - s).succ=64 - s by omega,← h1,Nat.mul_comm (2^s),Nat.mul_comm y,Nat.mul_mod_mul_left]
 have h3:x / 2^s<2^(64 - s):=Nat.div_lt_of_lt_mul (by rw[h1];exact hx)
 unfold dnW
 rw[h2,Nat.or_comm,← Nat.two_pow_add_eq_or_of_lt h3,Nat.add_comm]
theorem dn_lt {x y s:Nat} (hs:s<64) (hx:x<18446744073709551616):dnW x y s<18446744073709551616:=by
 have h1:=two64 (s:=s) (by omega)
 have h3:x / 2^s<2^(64 - s):=Nat.div_lt_of_lt_mul (by rw[h1];exact hx)
 have h4:y % 2^s<2^s:=Nat.mod_lt _ (Nat.two_pow_pos s)
 have h5:2^(64 - s)*(y % 2^s+1)≤2^(64 - s)*2^s:=Nat.mul_le_mul_left _ h4
 rw[dn_eq hs hx,← h1,Nat.mul_comm (2^s)]
 rw[Nat.mul_add] at h5
 omega
theorem dn_num {x W s:Nat} (hs:s<64) (hx:x<18446744073709551616):(x+18446744073709551616*W) / 2^s=dnW x (W % 18446744073709551616) s+18446744073709551616*(W / 2^s):=by
 have h1:=two64 (s:=s) (by omega)
 have h2:W % 18446744073709551616 % 2^s=W % 2^s:=Nat.mod_mod_of_dvd _ ⟨2^(64 - s),h1.symm⟩
 have h4:=Nat.div_add_mod W (2^s)
 rw[dn_eq hs hx,h2]
 conv=>lhs;rw[← h1,Nat.mul_assoc,Nat.add_mul_div_left _ _ (Nat.two_pow_pos s)]
 have h5:2^(64 - s)*W=2^(64 - s)*(2^s*(W / 2^s))+2^(64 - s)*(W % 2^s):=by rw[← Nat.mul_add,h4]
 rw[h5,← Nat.mul_assoc,Nat.mul_comm (2^(64 - s)) (2^s),h1];omega
def dnAt (l:WL) (s p:Nat):BitVec 64:=BitVec.ofNat 64 (dnW (l.getD p 0#64).toNat (l.getD (p+1) 0#64).toNat s)
def dnL (l:WL) (s:Nat):WL:=(List.range l.length).map (dnAt l s)
theorem dnL_len (l:WL) (s:Nat):(dnL l s).length=l.length:=by simp [dnL]
theorem dnL_cons (x:BitVec 64) (l:WL) (s:Nat):dnL (x :: l) s=dnAt (x :: l) s 0 :: dnL l s:=by
 unfold dnL
 rw[List.length_cons,List.range_succ_eq_map,List.map_cons,List.map_map]
 congr 1
theorem wnum_head (l:WL):wnum l % 18446744073709551616=(l.getD 0 0#64).toNat:=by
 cases l with
 | nil=>rfl
 | cons x l=>
  have:=x.isLt
  show (x.toNat+18446744073709551616*wnum l) % 18446744073709551616=x.toNat
  omega
theorem dnL_num (l:WL) {s:Nat} (hs:s<64):wnum (dnL l s)=wnum l / 2^s:=by
 induction l with
 | nil=>show 0=0 / 2^s;rw[Nat.zero_div]
 | cons x l ih=>
  have hx:=x.isLt
  rw[dnL_cons,wnum,ih,wnum,dn_num hs hx,wnum_head]
  show (BitVec.ofNat 64 (dnW x.toNat (l.getD 0 0#64).toNat s)).toNat+_=_
  rw[BitVec.toNat_ofNat,Nat.mod_eq_of_lt (dn_lt hs hx)]
theorem est_top {u v ul vl P U T:Nat} (hu:u=ul+P*U) (hl:ul<P) (hv:v=vl+P*T) (hT:0<T):u<(U / T+1)*v:=by
 have h1:U<T*(U / T+1):=Nat.lt_mul_div_succ U hT
 have h2:P*(U+1)≤P*(T*(U / T+1)):=Nat.mul_le_mul_left _ h1
 have h3:P*(T*(U / T+1))≤(U / T+1)*v:=by
  rw[hv,Nat.mul_comm (U / T+1),Nat.add_mul,Nat.mul_assoc];omega
 rw[Nat.mul_add] at h2
 omega
theorem div_moved {a b Q u s:Nat} (h:a*2^s=Q*(b*2^s)+u) (hu:u<b*2^s):a / b=Q∧u / 2^s=a % b:=by
 have hp:=Nat.two_pow_pos s
 have h1:a*2^s / (b*2^s)=Q:=by
  rw[h,Nat.mul_comm Q,Nat.mul_add_div (by omega),Nat.div_eq_of_lt hu,Nat.add_zero]
 have h2:a*2^s % (b*2^s)=u:=by
  rw[h,Nat.mul_comm Q,Nat.mul_add_mod,Nat.mod_eq_of_lt hu]
 rw[Nat.mul_div_mul_right _ _ hp] at h1
 rw[Nat.mul_mod_mul_right] at h2
 exact⟨h1,by rw[← h2,Nat.mul_div_cancel _ hp]⟩
theorem sub_step {W V C l P x y q cr:Nat} (hx:x<18446744073709551616) (hy:y<18446744073709551616) (hq:q<18446744073709551616) (hcr:cr<18446744073709551616) (hl:l≤1) :
  ((x+18446744073709551616 - (q*y+cr) % 18446744073709551616 - l) % 18446744073709551616)+(q*y+cr+l)=x+18446744073709551616*((q*y+cr) / 18446744073709551616+if x<(q*y+cr) % 18446744073709551616+l then 1 else 0):=by
 generalize q*y+cr=z
 split<;>omega
theorem word_of {n:Nat} (h:n<18446744073709551616):∃ r:BitVec 64,r.toNat=n:=⟨BitVec.ofNat 64 n,by rw[BitVec.toNat_ofNat];exact Nat.mod_eq_of_lt h⟩
theorem or_nat {a b:Nat} (ha:a<18446744073709551616) (hb:b<18446744073709551616):IntKind.u64.wrap ((BitVec.ofInt IntKind.u64.bits (a:Int) ||| BitVec.ofInt IntKind.u64.bits (b:Int)).toNat:Int)=((a ||| b:Nat):Int):=by
 obtain⟨x,rfl⟩:=word_of ha
 obtain⟨y,rfl⟩:=word_of hb
 rw[bits_u64,ofInt_toNat,ofInt_toNat,wrap_u64,ofInt_toNat,BitVec.toNat_or]
theorem wmod (n:Nat):IntKind.u64.wrap (n:Int)=((n % 18446744073709551616:Nat):Int):=by
 rw[wrap_u64,BitVec.toNat_ofInt]
 show (((n:Int) % ((2^64:Nat):Int)).toNat:Int)=_
 omega
theorem shl_nat (x s:Nat):IntKind.u64.wrap ((x:Int)*2^s)=((x*2^s % 18446744073709551616:Nat):Int):=by
 rw[← wmod,Int.natCast_mul,Int.natCast_pow];rfl
theorem fdivn (n k:Nat):Int.fdiv (n:Int) (2^k)=((n / 2^k:Nat):Int):=by
 rw[show ((2:Int)^k)=((2^k:Nat):Int) by rw[Int.natCast_pow];rfl];exact fdiv_nat _ _
end
section
open Go
structure QEst (u v y1 y0 q r:Nat):Prop where
 eq:q*y1+r=u
 ge:u*4294967296+v<(q+1)*(y1*4294967296+y0)
 le:q≤4294967297
theorem QEst.init {u v y1 y0:Nat} (hu:u<y1*4294967296+y0) (hv:v<4294967296) (h1:2147483648≤y1) (h0:y0<4294967296):QEst u v y1 y0 (u / y1) (u % y1):=by
 have hd:=Nat.div_add_mod u y1
 have hm:=Nat.mod_lt u (show 0<y1 by omega)
 rw[Nat.mul_comm] at hd
 refine⟨hd,?_,?_⟩
 ·have h2:u+1≤(u / y1+1)*y1:=by rw[Nat.add_mul];omega
  have h3:=Nat.mul_le_mul_right 4294967296 h2
  have h4:(u / y1+1)*(y1*4294967296)≤(u / y1+1)*(y1*4294967296+y0):=Nat.mul_le_mul_left _ (Nat.le_add_right _ _)
  rw[← Nat.mul_assoc] at h4
  omega
 ·have h2:u<4294967298*y1:=by omega
  have:=Nat.div_lt_of_lt_mul (show u<y1*4294967298 by rw[Nat.mul_comm];exact h2)
  omega
theorem QEst.dec {u v y1 y0 q r:Nat} (h:QEst u v y1 y0 q r) (hu:u<y1*4294967296+y0) (hv:v<4294967296) (hb:4294967296≤q∨4294967296*r+v<q*y0):1≤q∧QEst u v y1 y0 (q - 1) (r+y1)∧q - 1≤4294967296:=by
 obtain⟨he,hg,hl⟩:=h
 have hlt:u*4294967296+v<q*(y1*4294967296+y0):=by
  rcases hb with hb | hb
  ·have h2:4294967296*(y1*4294967296+y0)≤q*(y1*4294967296+y0):=Nat.mul_le_mul_right _ hb
   omega
  ·rw[Nat.mul_add,← Nat.mul_assoc,← he,Nat.add_mul]
   clear he hg hl hu
   generalize q*y1=A at *
   generalize q*y0=B at *
   omega
 have hq:1≤q:=by
  rcases Nat.eq_zero_or_pos q with h0 | h0
  ·subst h0;rw[Nat.zero_mul] at hlt;omega
  ·exact h0
 refine⟨hq,⟨?_,?_,by omega⟩,by omega⟩
 ·obtain⟨p,rfl⟩:∃ p,q=p+1:=⟨q - 1,by omega⟩
  rw[Nat.add_sub_cancel,← he,Nat.add_mul];omega
 ·rw[Nat.sub_add_cancel hq];exact hlt
theorem QEst.fin {u v y1 y0 q r:Nat} (h:QEst u v y1 y0 q r) (hb:q*y0≤4294967296*r+v):(u*4294967296+v) / (y1*4294967296+y0)=q:=by
 obtain⟨he,hg,hl⟩:=h
 refine Nat.div_eq_of_lt_le ?_ hg
 rw[Nat.mul_add,← Nat.mul_assoc,← he,Nat.add_mul]
 omega
theorem QEst.fin2 {u v y1 y0 q r:Nat} (h:QEst u v y1 y0 q r) (hr:4294967296≤r) (hq:q≤4294967296) (h0:y0<4294967296):(u*4294967296+v) / (y1*4294967296+y0)=q:=by
 refine h.fin ?_
 have h1:q*y0≤4294967296*4294967296:=Nat.mul_le_mul hq (by omega)
 omega
theorem div_halves {u v w y q1 q0 t:Nat} (hy:0<y) (h1:(u*4294967296+v) / y=q1) (ht:t=(u*4294967296+v) % y) (h0:(t*4294967296+w) / y=q0) :
  ((u*4294967296+v)*4294967296+w) / y=q1*4294967296+q0∧((u*4294967296+v)*4294967296+w) % y=(t*4294967296+w) % y:=by
 have hd:=Nat.div_add_mod (u*4294967296+v) y
 rw[h1,← ht] at hd
 have he:(u*4294967296+v)*4294967296+w=y*(q1*4294967296)+(t*4294967296+w):=by
  rw[← Nat.mul_assoc];omega
 refine⟨?_,?_⟩
 ·rw[he,Nat.mul_add_div hy,h0]
 ·rw[he,Nat.mul_add_mod]
end
section
open Go Ie
variable {G:Nat} {Ext:FuncId→List Value→Mem→Outc→Mem→Prop}
theorem lz_C (n:Nat) (hn:n<18446744073709551616) (S:Mem):C Tryz.prog G Ext 134 [.int .u64 (n:Int)] S fun v S'=>v=vi (64 - blen n)∧S'=S:=by
 refine C.fn Tryz.func134 rfl (by kernel_rfl) rfl (go ?_)
 refine L.cl (len64_C n hn S) rfl rfl ?_
 rintro _ _ ⟨rfl,rfl⟩
 refine⟨nofun,?_⟩
 have hb:blen n≤64:=blen_le.2 hn
 refine go ?_
 refine⟨.inr rfl,_,rfl,(force_eq rfl).trans ?_,rfl⟩
 rw[wrap64 (by omega) (by omega)]
 show Value.int .i64 _=Value.int .i64 _
 congr 1;omega
theorem umulw (a b:Nat):IntKind.u64.wrap ((a:Int)*(b:Int))=((a*b % 18446744073709551616:Nat):Int):=by rw[← Int.natCast_mul,wmod]
theorem usub {a b:Nat} (ha:a<18446744073709551616) (hb:b≤a):IntKind.u64.wrap ((a:Int) - (b:Int))=((a - b:Nat):Int):=by
 rw[wrapU64 (by omega) (by omega)];omega
theorem uaddw (a b:Nat):IntKind.u64.wrap ((a:Int)+(b:Int))=(((a+b) % 18446744073709551616:Nat):Int):=by rw[← Int.natCast_add,wmod]
theorem usubm {a b:Nat} {r:Nat} (h:a % 18446744073709551616=(b+r) % 18446744073709551616) (hr:r<18446744073709551616):IntKind.u64.wrap (((a % 18446744073709551616:Nat):Int) - ((b % 18446744073709551616:Nat):Int))=(r:Int):=by
 rw[wrap_u64,BitVec.toNat_ofInt]
 show ((((a % 18446744073709551616:Nat):Int) - ((b % 18446744073709551616:Nat):Int)) % ((2^64:Nat):Int)).toNat=(r:Int)
 have e:((2^64:Nat):Int)=18446744073709551616:=by decide
 rw[e]
 omega
theorem nquo {a b:Nat} (ha:a<18446744073709551616):IntKind.u64.wrap (Int.tdiv (a:Int) (b:Int))=((a / b:Nat):Int):=by
 rw[show Int.tdiv (a:Int) (b:Int)=((a / b:Nat):Int) from (Int.ofNat_tdiv a b).symm]
 have:=Nat.div_le_self a b
 generalize a / b=q at *
 rw[wrapU64 (by omega) (by omega)]
theorem div64_C (hi lo y:Nat) (S:Mem) (hlt:hi<y) (hlo:lo<18446744073709551616) (hy:y<18446744073709551616) :
  C Tryz.prog gN Ext 114 [.int .u64 (hi:Int),.int .u64 (lo:Int),.int .u64 (y:Int)] S fun v S'=>v=.tuple #[.int .u64 (((hi*18446744073709551616+lo) / y:Nat):Int),.int .u64 (((hi*18446744073709551616+lo) % y:Nat):Int)]∧S'=S:=by
 refine C.fn Tryz.func114 rfl (by kernel_rfl) rfl (go ?_)
 refine W.ite rfl (fun h=>?_) (fun h=>?_)
 ·exfalso;have:=eq_of_beq h;omega
 clear h
 refine go ?_
 refine W.ite rfl (fun h=>?_) (fun h=>?_)
 ·exfalso;have:=of_decide_eq_true h;omega
 clear h
 refine go ?_
 refine W.ite rfl (fun h=>?_) (fun h=>?_)
 ·have h0:hi=0:=by have:=eq_of_beq h;omega
  clear h
  subst h0
  refine go ?_
  refine L.quo rfl rfl (by omega) rfl (go ?_)
  refine L.rem rfl rfl (by omega) rfl (go ?_)
  refine⟨.inr rfl,_,rfl,(force_eq rfl).trans ?_,rfl⟩
  rw[nquo hlo,show Int.tmod (lo:Int) (y:Int)=((lo % y:Nat):Int) from (Int.ofNat_tmod lo y).symm,Nat.zero_mul,Nat.zero_add]
  rfl
 clear h
 obtain⟨s,hs⟩:∃ s,s=64 - blen y:=⟨_,rfl⟩
 have hb64:blen y≤64:=blen_le.2 hy
 have hb0:0<blen y:=by unfold blen;rw[if_neg (by omega)];omega
 have hylt:y<2^blen y:=blen_le.1 (Nat.le_refl _)
 have hyge:2^(blen y - 1)≤y:=by
  refine Classical.byContradiction fun hc=>?_
  have:=blen_le.2 (show y<2^(blen y - 1) by omega)
  omega
 have hs64:s<64:=by omega
 obtain⟨Y,hYd⟩:∃ Y,Y=y*2^s:=⟨_,rfl⟩
 have hYlt:Y<18446744073709551616:=by
  have h1:2^blen y*2^s=18446744073709551616:=by rw[← Nat.pow_add,show blen y+s=64 by omega]
  rw[hYd,← h1];exact Nat.mul_lt_mul_of_pos_right hylt (Nat.two_pow_pos s)
 have hYge:9223372036854775808≤Y:=by
  have h1:2^(blen y - 1)*2^s=9223372036854775808:=by rw[← Nat.pow_add,show blen y - 1+s=63 by omega]
  rw[hYd,← h1];exact Nat.mul_le_mul_right _ hyge
 have hup:=up_word (x:=lo) (c:=0) hs64 (Nat.two_pow_pos s)
 have hcv:=up_over (x:=lo) hs64 hlo
 have h2s:=two64 (s:=s) (by omega)
 have hdd:lo / 2 / 2^(63 - s)=lo / 2^(64 - s):=by
  rw[Nat.div_div_eq_div_mul,show 64 - s=63 - s+1 by omega,Nat.pow_succ,Nat.mul_comm 2]
 rw[Nat.zero_or,Nat.zero_add] at hup
 rw[hdd] at hup hcv
 obtain⟨u,hu⟩:∃ u,u=hi*2^s+lo / 2^(64 - s):=⟨_,rfl⟩
 obtain⟨z,hz⟩:∃ z,z=lo*2^s % 18446744073709551616:=⟨_,rfl⟩
 have hzlt:z<18446744073709551616:=by omega
 have huY:u<Y:=by
  have h1:(hi+1)*2^s≤y*2^s:=Nat.mul_le_mul_right _ hlt
  rw[Nat.add_mul] at h1
  omega
 have hN:(hi*18446744073709551616+lo)*2^s=u*18446744073709551616+z:=by
  rw[Nat.add_mul,Nat.mul_right_comm,hu,hz,Nat.add_mul];omega
 obtain⟨y1,hy1⟩:∃ y1,y1=Y / 4294967296:=⟨_,rfl⟩
 obtain⟨y0,hy0⟩:∃ y0,y0=Y % 4294967296:=⟨_,rfl⟩
 obtain⟨v,hv⟩:∃ v,v=z / 4294967296:=⟨_,rfl⟩
 obtain⟨w,hw⟩:∃ w,w=z % 4294967296:=⟨_,rfl⟩
 have hY:Y=y1*4294967296+y0:=by omega
 have hvl:v<4294967296:=by omega
 have hwl:w<4294967296:=by omega
 have hy0l:y0<4294967296:=by omega
 have hy1l:y1<4294967296:=by omega
 have hy1g:2147483648≤y1:=by omega
 have hzv:z=v*4294967296+w:=by omega
 have w0:IntKind.u64.wrap (s:Int)=(s:Int):=wrapU64 (by omega) (by omega)
 have w0':min (Int.toNat (s:Int)) IntKind.u64.bits=s:=by rw[bits_u64,Int.toNat_natCast];omega
 have w1:IntKind.u64.wrap ((y:Int)*2^s)=(Y:Int):=by rw[shl_nat,← hYd,Nat.mod_eq_of_lt hYlt]
 have w2:Int.fdiv (Y:Int) (2^min (Int.toNat 32) IntKind.u64.bits)=(y1:Int):=by rw[shrHi,hy1]
 have w3:IntKind.u64.wrap ((BitVec.ofInt IntKind.u64.bits (Y:Int) &&& BitVec.ofInt IntKind.u64.bits 4294967295).toNat:Int)=(y0:Int):=by rw[andLo hYlt,hy0]
 have hiY:hi*2^s<18446744073709551616:=by omega
 have w4:IntKind.u64.wrap ((BitVec.ofInt IntKind.u64.bits (IntKind.u64.wrap ((hi:Int)*2^s)) ||| BitVec.ofInt IntKind.u64.bits (Int.fdiv (lo:Int) (2^(64 - s)))).toNat:Int)=(u:Int):=by
  rw[shl_nat,Nat.mod_eq_of_lt hiY,fdivn,or_nat hiY (by have:=Nat.div_le_self lo (2^(64 - s));omega),hu,Nat.mul_comm hi,Nat.two_pow_add_eq_or_of_lt hcv]
 have w5:IntKind.u64.wrap ((lo:Int)*2^s)=(z:Int):=by rw[shl_nat,hz]
 have w6:Int.fdiv (z:Int) (2^min (Int.toNat 32) IntKind.u64.bits)=(v:Int):=by rw[shrHi,hv]
 have w7:IntKind.u64.wrap ((BitVec.ofInt IntKind.u64.bits (z:Int) &&& BitVec.ofInt IntKind.u64.bits 4294967295).toNat:Int)=(w:Int):=by rw[andLo hzlt,hw]
 have hQ0:QEst u v y1 y0 (u / y1) (u % y1):=QEst.init (by omega) hvl hy1g hy0l
 have wr1:IntKind.u64.wrap ((u:Int) - IntKind.u64.wrap (((u / y1:Nat):Int)*(y1:Int)))=((u % y1:Nat):Int):=by
  have h1:=Nat.div_add_mod u y1
  rw[Nat.mul_comm] at h1
  rw[umul (a:=u / y1) (b:=y1) (by omega),usub (by omega) (by omega)]
  congr 1;omega
 refine go ?_
 refine L.cl (lz_C y hy S) rfl rfl ?_
 rintro _ _ ⟨rfl,rfl⟩
 refine⟨nofun,?_⟩
 rename Mem=>S
 rw[show ((64 - blen y:Nat))=s from hs.symm]
 refine go ?_
 rw[w0,w0',w1,w2,w3]
 refine L.shr (64 - s) rfl rfl ?_ (by rw[bits_u64];omega) rfl ?_
 ·rw[wrapU64 (by omega) (by omega)];omega
 refine go ?_
 rw[w4,w0',w5,w6,w7]
 refine L.quo rfl rfl (by omega) rfl ?_
 rw[nquo (by omega)]
 refine go ?_
 rw[wr1]
 refine W.mono (R:=fun x e' S'=>x=.exit 0∧S'=S∧∃ q:Nat,e' 8=.int .u64 (s:Int)∧e' 2=.int .u64 (Y:Int)∧e' 9=.int .u64 (y1:Int)∧e' 10=.int .u64 (y0:Int)∧e' 11=.int .u64 (u:Int)∧e' 13=.int .u64 (v:Int)∧e' 14=.int .u64 (w:Int)∧e' 15=.int .u64 (q:Int)∧(u*4294967296+v) / Y=q) ?_ ?_
 ·refine W.loop (fun j e' S'=>S'=S∧∃ q r:Nat,j=q∧e' 8=.int .u64 (s:Int)∧e' 2=.int .u64 (Y:Int)∧e' 9=.int .u64 (y1:Int)∧e' 10=.int .u64 (y0:Int)∧e' 11=.int .u64 (u:Int)∧e' 13=.int .u64 (v:Int)∧e' 14=.int .u64 (w:Int)∧e' 15=.int .u64 (q:Int)∧e' 16=.int .u64 (r:Int)∧QEst u v y1 y0 q r∧r<4294967296) (u / y1)
   ⟨rfl,u / y1,u % y1,rfl,rfl,rfl,rfl,rfl,rfl,rfl,rfl,rfl,rfl,hQ0,by have:=Nat.mod_lt u (show 0<y1 by omega);omega⟩ ?_
  rintro j e T ⟨rfl,q,r,rfl,e8,e2,e9,e10,e11,e13,e14,eq,er,hQ,hr⟩
  refine W.env9 e8 e2 e9 e10 e11 e13 e14 eq er ?_
  have hql:=hQ.le
  have hwq:IntKind.u64.wrap ((j:Int)*(y0:Int))=((j*y0:Nat):Int):=umul (Nat.lt_of_le_of_lt (Nat.mul_le_mul hql (show y0≤4294967295 by omega)) (by decide))
  have hwr:IntKind.u64.wrap (IntKind.u64.wrap (4294967296*(r:Int))+(v:Int))=((4294967296*r+v:Nat):Int):=by
   rw[show IntKind.u64.wrap (4294967296*(r:Int))=((4294967296*r:Nat):Int) from umul (a:=4294967296) (b:=r) (by omega),uadd (by omega)]
  refine go ?_
  cases hb:decide ((j:Int)≥4294967296)
  ·have hq32:j<4294967296:=by have:=of_decide_eq_false hb;omega
   clear hb
   refine go ?_
   refine W.ite rfl (fun h=>?_) (fun h=>?_)
   ·have hgt:4294967296*r+v<j*y0:=by rw[hwq,hwr] at h;have:=of_decide_eq_true h;omega
    clear h
    obtain⟨hq1,hQ2,hq2⟩:=hQ.dec (by omega) (by omega) (.inr hgt)
    have hw1:IntKind.u64.wrap ((j:Int) - 1)=((j - 1:Nat):Int):=by rw[wrapU64 (by omega) (by omega)];omega
    have hw2:IntKind.u64.wrap ((r:Int)+(y1:Int))=((r+y1:Nat):Int):=uadd (by omega)
    refine go ?_
    refine W.ite rfl (fun h=>?_) (fun h=>?_)
    ·have hge:4294967296≤r+y1:=by rw[hw2] at h;have:=of_decide_eq_true h;omega
     clear h
     have hf:=hQ2.fin2 hge hq2 (by omega)
     rw[← hY] at hf
     refine go ?_
     exact⟨rfl,rfl,j - 1,rfl,rfl,rfl,rfl,rfl,rfl,rfl,(force_eq rfl).trans (congrArg (Value.int .u64) hw1),hf⟩
    ·have hlt:r+y1<4294967296:=by rw[hw2] at h;have:=of_decide_eq_false h;omega
     clear h
     refine go ?_
     exact⟨j - 1,by omega,rfl,j - 1,r+y1,rfl,rfl,rfl,rfl,rfl,rfl,rfl,rfl,(force_eq rfl).trans (congrArg (Value.int .u64) hw1),(force_eq rfl).trans (congrArg (Value.int .u64) hw2),hQ2,hlt⟩
   ·have hle:j*y0≤4294967296*r+v:=by rw[hwq,hwr] at h;have:=of_decide_eq_false h;omega
    clear h
    have hf:=hQ.fin hle
    rw[← hY] at hf
    refine go ?_
    exact⟨rfl,rfl,j,rfl,rfl,rfl,rfl,rfl,rfl,rfl,rfl,hf⟩
  ·have hq32:4294967296≤j:=by have:=of_decide_eq_true hb;omega
   clear hb
   refine go ?_
   refine W.condT rfl ?_
   obtain⟨hq1,hQ2,hq2⟩:=hQ.dec (by omega) (by omega) (.inl hq32)
   have hw1:IntKind.u64.wrap ((j:Int) - 1)=((j - 1:Nat):Int):=by rw[wrapU64 (by omega) (by omega)];omega
   have hw2:IntKind.u64.wrap ((r:Int)+(y1:Int))=((r+y1:Nat):Int):=uadd (by omega)
   refine go ?_
   refine W.ite rfl (fun h=>?_) (fun h=>?_)
   ·have hge:4294967296≤r+y1:=by rw[hw2] at h;have:=of_decide_eq_true h;omega
    clear h
    have hf:=hQ2.fin2 hge hq2 (by omega)
    rw[← hY] at hf
    refine go ?_
    exact⟨rfl,rfl,j - 1,rfl,rfl,rfl,rfl,rfl,rfl,rfl,(force_eq rfl).trans (congrArg (Value.int .u64) hw1),hf⟩
   ·have hlt:r+y1<4294967296:=by rw[hw2] at h;have:=of_decide_eq_false h;omega
    clear h
    refine go ?_
    exact⟨j - 1,by omega,rfl,j - 1,r+y1,rfl,rfl,rfl,rfl,rfl,rfl,rfl,rfl,(force_eq rfl).trans (congrArg (Value.int .u64) hw1),(force_eq rfl).trans (congrArg (Value.int .u64) hw2),hQ2,hlt⟩
 rintro _ e T ⟨rfl,hT,q1,e8,e2,e9,e10,e11,e13,e14,e15,hq1⟩
 subst hT
 rename Mem=>S
 refine W.env8 e8 e2 e9 e10 e11 e13 e14 e15 ?_
 have hq1l:q1<4294967296:=by
  rw[← hq1]
  exact Nat.div_lt_of_lt_mul (by omega)
 obtain⟨t,ht⟩:∃ t,t=(u*4294967296+v) % Y:=⟨_,rfl⟩
 have htl:t<Y:=by rw[ht];exact Nat.mod_lt _ (by omega)
 have wt:IntKind.u64.wrap (IntKind.u64.wrap (IntKind.u64.wrap ((u:Int)*4294967296)+(v:Int)) - IntKind.u64.wrap ((q1:Int)*(Y:Int)))=(t:Int):=by
  rw[show IntKind.u64.wrap ((u:Int)*4294967296)=((u*4294967296 % 18446744073709551616:Nat):Int) from umulw u 4294967296,uaddw,umulw,Nat.mod_add_mod]
  refine usubm ?_ (by omega)
  congr 1
  have:=Nat.div_add_mod (u*4294967296+v) Y
  rw[hq1,← ht,Nat.mul_comm] at this
  exact this.symm
 have hQ0:QEst t w y1 y0 (t / y1) (t % y1):=QEst.init (by omega) hwl hy1g hy0l
 have wr2:IntKind.u64.wrap ((t:Int) - IntKind.u64.wrap (((t / y1:Nat):Int)*(y1:Int)))=((t % y1:Nat):Int):=by
  have h1:=Nat.div_add_mod t y1
  rw[Nat.mul_comm] at h1
  rw[umul (a:=t / y1) (b:=y1) (by omega),usub (by omega) (by omega)]
  congr 1;omega
 refine go ?_
 rw[wt]
 refine L.quo rfl rfl (by omega) rfl ?_
 rw[nquo (by omega)]
 refine go ?_
 rw[wr2]
 refine W.mono (R:=fun x e' S'=>x=.exit 2∧S'=S∧∃ q:Nat,e' 8=.int .u64 (s:Int)∧e' 2=.int .u64 (Y:Int)∧e' 9=.int .u64 (y1:Int)∧e' 10=.int .u64 (y0:Int)∧e' 11=.int .u64 (u:Int)∧e' 13=.int .u64 (v:Int)∧e' 14=.int .u64 (w:Int)∧e' 15=.int .u64 (q1:Int)∧e' 17=.int .u64 (t:Int)∧e' 18=.int .u64 (q:Int)∧(t*4294967296+w) / Y=q) ?_ ?_
 ·refine W.loop (fun j e' S'=>S'=S∧∃ q r:Nat,j=q∧e' 8=.int .u64 (s:Int)∧e' 2=.int .u64 (Y:Int)∧e' 9=.int .u64 (y1:Int)∧e' 10=.int .u64 (y0:Int)∧e' 11=.int .u64 (u:Int)∧e' 13=.int .u64 (v:Int)∧e' 14=.int .u64 (w:Int)∧e' 15=.int .u64 (q1:Int)∧e' 17=.int .u64 (t:Int)∧e' 18=.int .u64 (q:Int)∧e' 16=.int .u64 (r:Int)∧QEst t w y1 y0 q r∧r<4294967296) (t / y1)
   ⟨rfl,t / y1,t % y1,rfl,rfl,rfl,rfl,rfl,rfl,rfl,rfl,rfl,rfl,rfl,rfl,hQ0,by have:=Nat.mod_lt t (show 0<y1 by omega);omega⟩ ?_
  rintro j e T ⟨rfl,q,r,rfl,e8,e2,e9,e10,e11,e13,e14,e15,e17,eq,er,hQ,hr⟩
  refine W.env10 e8 e2 e9 e10 e11 e13 e14 e15 e17 eq ?_
  refine W.env (t:=16) (v:=.int .u64 (r:Int)) (by exact er) ?_
  have hql:=hQ.le
  have hwq:IntKind.u64.wrap ((j:Int)*(y0:Int))=((j*y0:Nat):Int):=umul (Nat.lt_of_le_of_lt (Nat.mul_le_mul hql (show y0≤4294967295 by omega)) (by decide))
  have hwr:IntKind.u64.wrap (IntKind.u64.wrap (4294967296*(r:Int))+(w:Int))=((4294967296*r+w:Nat):Int):=by
   rw[show IntKind.u64.wrap (4294967296*(r:Int))=((4294967296*r:Nat):Int) from umul (a:=4294967296) (b:=r) (by omega),uadd (by omega)]
  refine go ?_
  cases hb:decide ((j:Int)≥4294967296)
  ·have hq32:j<4294967296:=by have:=of_decide_eq_false hb;omega
   clear hb
   refine go ?_
   refine W.ite rfl (fun h=>?_) (fun h=>?_)
   ·have hgt:4294967296*r+w<j*y0:=by rw[hwq,hwr] at h;have:=of_decide_eq_true h;omega
    clear h
    obtain⟨hq1,hQ2,hq2⟩:=hQ.dec (by omega) (by omega) (.inr hgt)
    have hw1:IntKind.u64.wrap ((j:Int) - 1)=((j - 1:Nat):Int):=by rw[wrapU64 (by omega) (by omega)];omega
    have hw2:IntKind.u64.wrap ((r:Int)+(y1:Int))=((r+y1:Nat):Int):=uadd (by omega)
    refine go ?_
    refine W.ite rfl (fun h=>?_) (fun h=>?_)
    ·have hge:4294967296≤r+y1:=by rw[hw2] at h;have:=of_decide_eq_true h;omega
     clear h
     have hf:=hQ2.fin2 hge hq2 (by omega)
     rw[← hY] at hf
     refine go ?_
     exact⟨rfl,rfl,j - 1,rfl,rfl,rfl,rfl,rfl,rfl,rfl,rfl,rfl,(force_eq rfl).trans (congrArg (Value.int .u64) hw1),hf⟩
    ·have hlt:r+y1<4294967296:=by rw[hw2] at h;have:=of_decide_eq_false h;omega
     clear h
     refine go ?_
     exact⟨j - 1,by omega,rfl,j - 1,r+y1,rfl,rfl,rfl,rfl,rfl,rfl,rfl,rfl,rfl,rfl,(force_eq rfl).trans (congrArg (Value.int .u64) hw1),(force_eq rfl).trans (congrArg (Value.int .u64) hw2),hQ2,hlt⟩
   ·have hle:j*y0≤4294967296*r+w:=by rw[hwq,hwr] at h;have:=of_decide_eq_false h;omega
    clear h
    have hf:=hQ.fin hle
    rw[← hY] at hf
    refine go ?_
    exact⟨rfl,rfl,j,rfl,rfl,rfl,rfl,rfl,rfl,rfl,rfl,rfl,rfl,hf⟩
  ·have hq32:4294967296≤j:=by have:=of_decide_eq_true hb;omega
   clear hb
   refine go ?_
   refine W.condT rfl ?_
   obtain⟨hq1,hQ2,hq2⟩:=hQ.dec (by omega) (by omega) (.inl hq32)
   have hw1:IntKind.u64.wrap ((j:Int) - 1)=((j - 1:Nat):Int):=by rw[wrapU64 (by omega) (by omega)];omega
   have hw2:IntKind.u64.wrap ((r:Int)+(y1:Int))=((r+y1:Nat):Int):=uadd (by omega)
   refine go ?_
   refine W.ite rfl (fun h=>?_) (fun h=>?_)
   ·have hge:4294967296≤r+y1:=by rw[hw2] at h;have:=of_decide_eq_true h;omega
    clear h
    have hf:=hQ2.fin2 hge hq2 (by omega)
    rw[← hY] at hf
    refine go ?_
    exact⟨rfl,rfl,j - 1,rfl,rfl,rfl,rfl,rfl,rfl,rfl,rfl,rfl,(force_eq rfl).trans (congrArg (Value.int .u64) hw1),hf⟩
   ·have hlt:r+y1<4294967296:=by rw[hw2] at h;have:=of_decide_eq_false h;omega
    clear h
    refine go ?_
    exact⟨j - 1,by omega,rfl,j - 1,r+y1,rfl,rfl,rfl,rfl,rfl,rfl,rfl,rfl,rfl,rfl,(force_eq rfl).trans (congrArg (Value.int .u64) hw1),(force_eq rfl).trans (congrArg (Value.int .u64) hw2),hQ2,hlt⟩
 clear hQ0
 rintro _ e T ⟨rfl,hT,q0,e8,e2,e9,e10,e11,e13,e14,e15,e17,e18,hq0⟩
 refine W.env10 e8 e2 e9 e10 e11 e13 e14 e15 e17 e18 ?_
 rename Mem=>S
 have hq0l:q0<4294967296:=by
  rw[← hq0]
  exact Nat.div_lt_of_lt_mul (by omega)
 have hh:=div_halves (u:=u) (v:=v) (w:=w) (y:=Y) (by omega) hq1 ht hq0
 have he:(u*4294967296+v)*4294967296+w=(hi*18446744073709551616+lo)*2^s:=by rw[hN,hzv];omega
 have hh1:(hi*18446744073709551616+lo) / y=q1*4294967296+q0:=by
  rw[← hh.1,he,hYd,Nat.mul_div_mul_right _ _ (Nat.two_pow_pos s)]
 have hh2:(t*4294967296+w) % Y=(hi*18446744073709551616+lo) % y*2^s:=by
  rw[← hh.2,he,hYd,Nat.mul_mod_mul_right]
 have wq:IntKind.u64.wrap (IntKind.u64.wrap ((q1:Int)*4294967296)+(q0:Int))=(((hi*18446744073709551616+lo) / y:Nat):Int):=by
  rw[show IntKind.u64.wrap ((q1:Int)*4294967296)=((q1*4294967296:Nat):Int) from umul (a:=q1) (b:=4294967296) (by omega),uadd (by omega),hh1]
 have wm:IntKind.u64.wrap (IntKind.u64.wrap (IntKind.u64.wrap ((t:Int)*4294967296)+(w:Int)) - IntKind.u64.wrap ((q0:Int)*(Y:Int)))=(((t*4294967296+w) % Y:Nat):Int):=by
  rw[show IntKind.u64.wrap ((t:Int)*4294967296)=((t*4294967296 % 18446744073709551616:Nat):Int) from umulw t 4294967296,uaddw,umulw,Nat.mod_add_mod]
  refine usubm ?_ (Nat.lt_trans (Nat.mod_lt _ (by omega)) hYlt)
  have h3:=Nat.div_add_mod (t*4294967296+w) Y
  rw[hq0,Nat.mul_comm Y] at h3
  rw[h3]
 refine go ?_
 refine⟨.inr rfl,_,rfl,(force_eq rfl).trans ?_,?_⟩
 rotate_left
 ·exact hT
 rw[wm,wq,w0',fdivn,hh2,Nat.mul_div_cancel _ (Nat.two_pow_pos s)]
 rfl
end
end Go.Proofs.YtbiigbicgfchiaaGreatDoor
