/- What several proofs share, part 1: a model of memory, contracts of functions. Conditions: none. -/
import Ieee.Arith
import Derived.KernelRfl
/- Doubles: the number that a word stands for; rounding. Conditions: none. -/
set_option linter.unusedSimpArgs false
set_option linter.unusedVariables false
namespace Go.Proofs.YtbiigbicgfchiaaGreatDoor.Ie
section
open Ieee
def numR (s:Bool) (m:Nat) (p:Int):Rat:=(if s then -1 else 1)*((m:Rat)*(2:Rat)^p)
def FV (w:Nat) (x:Rat):Prop:=∃ s m p,double.read w=.number s m p∧x=numR s m p
def Near (x v e:Rat):Prop:=v - e≤x∧x≤v+e
theorem two_pos (p:Int):(0:Rat)<(2:Rat)^p:=Rat.zpow_pos (by decide)
theorem two_add (p q:Int):(2:Rat)^(p+q)=2^p*2^q:=Rat.zpow_add (by decide) p q
theorem two_nat (n:Nat):(2:Rat)^(n:Int)=((2^n:Nat):Rat):=by
 rw[Rat.zpow_natCast,Rat.natCast_pow];rfl
theorem dbl_binade:double.binade=4503599627370496:=rfl
theorem dbl_inf:double.infRung=9218868437227405312:=rfl
theorem dbl_sign:double.signWeight=9223372036854775808:=rfl
theorem dbl_least:double.leastPlace=-1074:=rfl
theorem read_rung (s:Bool) {r:Nat} (h:r<9218868437227405312):double.read (double.word s r)=if r<4503599627370496 then .number s r (-1074) else .number s (4503599627370496+r % 4503599627370496) (-1074+((r / 4503599627370496 - 1:Nat):Int)):=by
 have h1:double.word s r / 9223372036854775808 % 2=if s then 1 else 0:=by
  unfold Format.word;rw[dbl_sign]
  cases s
  ·show r / _ % 2=0;omega
  ·show (9223372036854775808+r) / _ % 2=1;omega
 have h2:double.word s r % 9223372036854775808=r:=by
  unfold Format.word;rw[dbl_sign]
  cases s
  ·show r % _=r;omega
  ·show (9223372036854775808+r) % _=r;omega
 unfold Format.read
 rw[dbl_sign,dbl_binade,dbl_inf,dbl_least,h1,h2]
 have h3:((if s=true then 1 else 0:Nat)==1)=s:=by cases s<;>rfl
 rw[h3]
 by_cases h4:r<4503599627370496
 ·rw[if_pos h4,if_pos h4]
 ·rw[if_neg h4,if_neg h4,if_pos h]
theorem read_word (s:Bool) {e k:Nat} (hk:k≤9007199254740992) (he:e≤2044) (h0:e=0∨4503599627370496≤k) :
  FV (double.word s (min (e*double.binade+k) double.infRung)) (numR s k ((e:Int) - 1074)):=by
 rw[dbl_binade,dbl_inf,Nat.min_eq_left (by omega)]
 have hr:=read_rung s (r:=e*4503599627370496+k) (by omega)
 by_cases h1:e*4503599627370496+k<4503599627370496
 ·rw[if_pos h1] at hr
  have he0:e=0:=by omega
  subst he0
  refine⟨s,_,_,hr,?_⟩
  rw[Nat.zero_mul,Nat.zero_add];rfl
 ·rw[if_neg h1] at hr
  refine⟨s,_,_,hr,?_⟩
  by_cases h2:k<9007199254740992
  ·rcases h0 with rfl | h0
   ·rw[show (4503599627370496+(0*4503599627370496+k) % 4503599627370496)=k by omega,show (((0*4503599627370496+k) / 4503599627370496 - 1:Nat):Int)=0 by omega];rfl
   ·rw[show 4503599627370496+(e*4503599627370496+k) % 4503599627370496=k by omega,show (((e*4503599627370496+k) / 4503599627370496 - 1:Nat):Int)=e by omega,show (-1074+(e:Int))=(e:Int) - 1074 by omega]
  ·have hk2:k=9007199254740992:=by omega
   subst hk2
   rw[show 4503599627370496+(e*4503599627370496+9007199254740992) % 4503599627370496=4503599627370496 by omega,show (((e*4503599627370496+9007199254740992) / 4503599627370496 - 1:Nat):Int)=(e:Int)+1 by omega,show (-1074+((e:Int)+1))=((e:Int) - 1074)+1 by omega]
   unfold numR
   rw[two_add ((e:Int) - 1074) 1]
   have:((9007199254740992:Nat):Rat)=((4503599627370496:Nat):Rat)*2:=by decide +kernel
   rw[this,show (2:Rat)^(1:Int)=2 from Rat.zpow_one 2]
   grind
theorem cut_near (s:Bool) (n d:Nat):2*(Toward.even.cut s n d*2^d)≤2*n+2^d∧2*n≤2*(Toward.even.cut s n d*2^d)+2^d:=by
 unfold Toward.cut
 by_cases h:d≤n.log2+2
 ·rw[Nat.min_eq_left h,Nat.one_shiftLeft]
  have hG:0<2^d:=Nat.two_pow_pos d
  have h1:=Nat.div_add_mod n (2^d)
  have h2:=Nat.mod_lt n hG
  generalize 2^d=G at *
  dsimp only
  generalize n % G=R at *
  generalize n / G=Q at *
  rw[Nat.add_mul,Nat.mul_comm Q G]
  generalize G*Q=A at *
  cases hb:(decide (G<2*R) || (G==2*R && Q % 2==1)) with
  | true=>
   have:G≤2*R:=by
    simp at hb;omega
   show 2*(A+1*G)≤_∧_≤2*(A+1*G)+_
   omega
  | false=>
   have:2*R≤G:=by
    simp at hb;omega
   show 2*(A+0*G)≤_∧_≤2*(A+0*G)+_
   omega
 ·rw[Nat.min_eq_right (by omega),Nat.one_shiftLeft]
  have h1:n<2^(n.log2+1):=Nat.lt_log2_self
  have h2:2^(n.log2+2)=2*2^(n.log2+1):=by rw[Nat.pow_succ];omega
  have h3:2^(n.log2+2)≤2^d:=Nat.pow_le_pow_right (by omega) (by omega)
  dsimp only
  rw[Nat.div_eq_of_lt (by omega),Nat.mod_eq_of_lt (by omega)]
  cases hb:(decide (2^(n.log2+2)<2*n) || (2^(n.log2+2)==2*n && 0 % 2==1)) with
  | true=>simp at hb;omega
  | false=>
   show 2*((0+0)*2^d)≤_∧_≤2*((0+0)*2^d)+_
   omega
def eps:Rat:=1 / 9007199254740992
def tiny:Rat:=1 / 1606938044258990275541962092341162602522202993782792835301376
theorem eps_eq:(2:Rat)^(-53:Int)=eps:=by decide +kernel
theorem tiny_le:(2:Rat)^(-1075:Int)≤tiny:=by decide +kernel
theorem two_mono {p q:Int} (h:p≤q):(2:Rat)^p≤2^q:=by
 obtain⟨n,rfl⟩:∃ n:Nat,q=p+n:=⟨(q - p).toNat,by omega⟩
 rw[two_add,two_nat]
 have h1:(1:Rat)≤((2^n:Nat):Rat):=by
  have:((1:Nat):Rat)≤((2^n:Nat):Rat):=Rat.natCast_le_natCast.2 Nat.one_le_two_pow
  exact this
 have h2:=two_pos p
 have:=Rat.mul_le_mul_of_nonneg_left h1 (Rat.le_of_lt h2)
 rwa [Rat.mul_one] at this
theorem two_lt {p q:Int} (h:(2:Rat)^p<2^q):p<q:=by
 refine Classical.byContradiction fun hc=>?_
 have:=two_mono (p:=q) (q:=p) (by omega)
 exact Rat.not_le.2 h this
theorem numR_near {s:Bool} {x y e:Rat} (h:Near x y e):Near ((if s then -1 else 1)*x) ((if s then -1 else 1)*y) e:=by
 obtain⟨h1,h2⟩:=h
 cases s
 ·simp only [Bool.false_eq_true,if_false];exact⟨by grind,by grind⟩
 ·simp only [if_true];exact⟨by grind,by grind⟩
theorem cast_le {a b:Nat} (h:a≤b):(a:Rat)≤(b:Rat):=Rat.natCast_le_natCast.2 h
theorem nearest_near (s:Bool) (m:Nat) (p:Int) (h:(m:Rat)*2^p<2^(1023:Int)):∃ x,FV (double.nearest s m p) x∧Near x (numR s m p) ((m:Rat)*2^p*eps+tiny):=by
 unfold Format.nearest
 by_cases hm:m=0
 ·subst hm
  rw[if_pos rfl]
  refine⟨0,⟨s,0,-1074,?_,?_⟩,?_⟩
  ·have:=read_rung s (r:=0) (by omega)
   rwa [if_pos (by omega)] at this
  ·unfold numR;cases s<;>decide +kernel
  ·unfold numR Near
   rw[show ((0:Nat):Rat)*(2:Rat)^p=0 from Rat.zero_mul _]
   have:(0:Rat)≤tiny:=by decide +kernel
   exact⟨by grind,by grind⟩
 rw[if_neg hm]
 have hL1:=Nat.log2_self_le hm
 have hL2:m<2^(m.log2+1):=Nat.lt_log2_self
 generalize m.log2=L at *
 have hLp:(L:Int)+p<1023:=by
  apply two_lt
  rw[two_add,two_nat]
  have:=Rat.mul_le_mul_of_nonneg_right (cast_le hL1) (Rat.le_of_lt (two_pos p))
  grind
 rw[show (double.fractionBits:Int)=52 from rfl,dbl_least]
 obtain⟨e,he⟩:∃ e:Nat,max (p+(L:Int) - 52) (-1074)=(e:Int) - 1074:=⟨(max (p+(L:Int) - 52) (-1074)+1074).toNat,by omega⟩
 rw[he]
 dsimp only
 rw[show ((e:Int) - 1074 - -1074).toNat=e by omega]
 have he2:e≤2044:=by omega
 have he3:e=0∨(e:Int) - 1074=p+L - 52:=by omega
 have he4:p+(L:Int) - 52≤(e:Int) - 1074:=by omega
 by_cases hp:(e:Int) - 1074≤p
 ·obtain⟨a,ha⟩:∃ a:Nat,p=(e:Int) - 1074+a:=⟨(p - ((e:Int) - 1074)).toNat,by omega⟩
  rw[show (p - ((e:Int) - 1074)).toNat=a by omega,show ((e:Int) - 1074 - p).toNat=0 by omega]
  obtain⟨c1,c2⟩:=cut_near s (m <<< a) 0
  obtain⟨k,hk⟩:∃ k,k=Toward.even.cut s (m <<< a) 0:=⟨_,rfl⟩
  rw[← hk] at c1 c2 ⊢
  rw[Nat.pow_zero,Nat.mul_one] at c1 c2
  have hkm:k=m*2^a:=by rw[← Nat.shiftLeft_eq];omega
  have hb1:k≤9007199254740992:=by
   have h1:m*2^a<2^(L+1)*2^a:=Nat.mul_lt_mul_of_pos_right hL2 (Nat.two_pow_pos a)
   rw[← Nat.pow_add] at h1
   have h2:2^(L+1+a)≤2^53:=Nat.pow_le_pow_right (by omega) (by omega)
   omega
  have hb2:e=0∨4503599627370496≤k:=by
   rcases he3 with h0 | h0
   ·exact .inl h0
   ·right
    have h1:2^L*2^a≤m*2^a:=Nat.mul_le_mul_right _ hL1
    rw[← Nat.pow_add,show L+a=52 by omega] at h1
    omega
  refine⟨_,read_word s hb1 he2 hb2,?_⟩
  unfold numR
  refine numR_near ?_
  have hv:(k:Rat)*2^((e:Int) - 1074)=(m:Rat)*2^p:=by
   rw[hkm,ha,two_add,two_nat,Rat.natCast_mul]
   grind
  rw[hv]
  have h1:(0:Rat)≤(m:Rat)*2^p:=Rat.mul_nonneg Rat.natCast_nonneg (Rat.le_of_lt (two_pos p))
  have h2:(0:Rat)≤(m:Rat)*2^p*eps:=Rat.mul_nonneg h1 (by decide +kernel)
  have h3:(0:Rat)≤tiny:=by decide +kernel
  exact⟨by grind,by grind⟩
 ·obtain⟨d,hd⟩:∃ d:Nat,(e:Int) - 1074=p+d:=⟨((e:Int) - 1074 - p).toNat,by omega⟩
  rw[show (p - ((e:Int) - 1074)).toNat=0 by omega,show ((e:Int) - 1074 - p).toNat=d by omega,Nat.shiftLeft_zero]
  obtain⟨c1,c2⟩:=cut_near s m d
  obtain⟨k,hk⟩:∃ k,k=Toward.even.cut s m d:=⟨_,rfl⟩
  rw[← hk] at c1 c2 ⊢
  have hG:=Nat.two_pow_pos d
  have hb1:k≤9007199254740992:=by
   have h2:2^(L+1)≤2^(53+d):=Nat.pow_le_pow_right (by omega) (by omega)
   rw[Nat.pow_add 2 53 d] at h2
   refine Classical.byContradiction fun hc=>?_
   have h3:9007199254740993*2^d≤k*2^d:=Nat.mul_le_mul_right _ (by omega)
   generalize k*2^d=A at *
   generalize 2^d=G at *
   omega
  have hb2:e=0∨4503599627370496≤k:=by
   rcases he3 with h0 | h0
   ·exact .inl h0
   ·right
    have h1:2^L=2^(52+d):=by congr 1;omega
    rw[Nat.pow_add 2 52 d] at h1
    refine Classical.byContradiction fun hc=>?_
    have h3:k*2^d≤4503599627370495*2^d:=Nat.mul_le_mul_right _ (by omega)
    generalize k*2^d=A at *
    generalize 2^d=G at *
    omega
  refine⟨_,read_word s hb1 he2 hb2,?_⟩
  unfold numR
  refine numR_near ?_
  have hv:(k:Rat)*2^((e:Int) - 1074)=((k*2^d:Nat):Rat)*2^p:=by
   rw[hd,two_add,two_nat,Rat.natCast_mul]
   grind
  have hu:(2:Rat)^((e:Int) - 1074)=((2^d:Nat):Rat)*2^p:=by
   rw[hd,two_add,two_nat]
   grind
  have hm0:(0:Rat)≤(m:Rat)*2^p:=Rat.mul_nonneg Rat.natCast_nonneg (Rat.le_of_lt (two_pos p))
  have he0:(0:Rat)≤(m:Rat)*2^p*eps:=Rat.mul_nonneg hm0 (by decide +kernel)
  have ht0:(0:Rat)≤tiny:=by decide +kernel
  have herr:(2:Rat)^((e:Int) - 1074)≤2*((m:Rat)*2^p*eps+tiny):=by
   rcases he3 with h0 | h0
   ·subst h0
    have h1:=tiny_le
    have h2:(2:Rat)^(((0:Nat):Int) - 1074)=2^(-1075:Int)*2:=by
     rw[show (((0:Nat):Int) - 1074)=-1075+1 by omega,two_add,show (2:Rat)^(1:Int)=2 from Rat.zpow_one 2]
    rw[h2];grind
   ·rw[h0,show p+(L:Int) - 52=((L:Int)+p)+(-53)+1 by omega,two_add,two_add,two_add,two_nat,show (2:Rat)^(1:Int)=2 from Rat.zpow_one 2,eps_eq]
    have h1:=Rat.mul_le_mul_of_nonneg_right (cast_le hL1) (Rat.le_of_lt (two_pos p))
    have h2:=Rat.mul_le_mul_of_nonneg_right h1 (show (0:Rat)≤eps by decide +kernel)
    grind
  rw[hv]
  have c1':=Rat.mul_le_mul_of_nonneg_right (cast_le c1) (Rat.le_of_lt (two_pos p))
  have c2':=Rat.mul_le_mul_of_nonneg_right (cast_le c2) (Rat.le_of_lt (two_pos p))
  rw[Rat.natCast_add,Rat.natCast_mul 2,Rat.natCast_mul 2] at c1' c2'
  rw[hu] at herr
  generalize ((k*2^d:Nat):Rat)=A at *
  generalize ((2^d:Nat):Rat)=D at *
  generalize (2:Rat)^p=T at *
  generalize (m:Rat)=M at *
  have e2:((2:Nat):Rat)=2:=rfl
  rw[e2] at c1' c2'
  exact⟨by grind,by grind⟩
end
section
open Ieee
theorem signed_val (s:Bool) (m up:Nat):((signed s m up:Int):Rat)=(if s then -1 else 1)*((m:Rat)*((2^up:Nat):Rat)):=by
 unfold signed
 rw[Nat.shiftLeft_eq]
 cases s
 ·simp only [Bool.false_eq_true,if_false]
  rw[Rat.intCast_natCast,Rat.natCast_mul];grind
 ·simp only [if_true]
  rw[Rat.intCast_neg,Rat.intCast_natCast,Rat.natCast_mul];grind
theorem numR_up {s:Bool} {m:Nat} {p b:Int} (h:b≤p):numR s m p=((signed s m (p - b).toNat:Int):Rat)*2^b:=by
 rw[signed_val]
 obtain⟨d,hd⟩:∃ d:Nat,p=b+d:=⟨(p - b).toNat,by omega⟩
 rw[show (p - b).toNat=d by omega,hd]
 unfold numR
 rw[two_add,two_nat];grind
theorem abs_val (x:Int):(if decide (x<0) then -1 else 1:Rat)*(x.natAbs:Rat)=(x:Rat):=by
 by_cases h:x<0
 ·rw[decide_eq_true h,if_pos rfl]
  have:x=-(x.natAbs:Int):=by omega
  conv=>rhs;rw[this]
  rw[Rat.intCast_neg,Rat.intCast_natCast];grind
 ·rw[decide_eq_false h]
  simp only [Bool.false_eq_true,if_false]
  have:x=(x.natAbs:Int):=by omega
  conv=>rhs;rw[this]
  rw[Rat.intCast_natCast];grind
theorem sum_val (s t:Bool) (m n:Nat) (i j:Int):∃ u k b,(Datum.number s m i).sum (.number t n j)=some (.number u k b)∧numR u k b=numR s m i+numR t n j:=by
 refine⟨_,_,_,rfl,?_⟩
 rw[numR_up (s:=s) (m:=m) (p:=i) (b:=min i j) (by omega),numR_up (s:=t) (m:=n) (p:=j) (b:=min i j) (by omega)]
 generalize signed s m (i - min i j).toNat=x
 generalize signed t n (j - min i j).toNat=y
 have h2:=abs_val (x+y)
 rw[Rat.intCast_add] at h2
 unfold numR
 by_cases h0:x+y=0
 ·rw[if_pos h0,h0]
  have h3:(x:Rat)+(y:Rat)=0:=by rw[← Rat.intCast_add,h0];rfl
  show _*(((0:Nat):Rat)*_)=_
  have:((0:Nat):Rat)=0:=rfl
  rw[this];grind
 ·rw[if_neg h0]
  grind
theorem opp_val (s:Bool) (m:Nat) (p:Int):numR (!s) m p=- numR s m p:=by
 unfold numR;cases s
 ·simp only [Bool.not_false,if_true,Bool.false_eq_true,if_false];grind
 ·simp only [Bool.not_true,if_true,Bool.false_eq_true,if_false];grind
theorem mul_val (s t:Bool) (m n:Nat) (i j:Int):numR (s ^^ t) (m*n) (i+j)=numR s m i*numR t n j:=by
 unfold numR
 rw[two_add,Rat.natCast_mul]
 cases s<;>cases t<;>simp<;>grind
theorem mag_val {s:Bool} {m:Nat} {p:Int} {x B:Rat} (h:numR s m p=x) (h1:-B≤x) (h2:x≤B):(m:Rat)*2^p≤B:=by
 unfold numR at h
 cases s
 ·simp only [Bool.false_eq_true,if_false] at h;grind
 ·simp only [if_true] at h;grind
def top:Rat:=1606938044258990275541962092341162602522202993782792835301376
theorem top_lt:top<(2:Rat)^(1023:Int):=by decide +kernel
theorem Near.mono {x v e e':Rat} (h:Near x v e) (he:e≤e'):Near x v e':=by
 obtain⟨h1,h2⟩:=h
 exact⟨by grind,by grind⟩
theorem write_near {s:Bool} {m:Nat} {p:Int} {v B:Rat} (h:numR s m p=v) (h1:-B≤v) (h2:v≤B) (hB:B≤top):∃ x,FV (double.write (.number s m p)) x∧Near x v (B*eps+tiny):=by
 have hm:=mag_val h h1 h2
 have ht:=top_lt
 obtain⟨x,hx,hn⟩:=nearest_near s m p (by grind)
 refine⟨x,hx,?_⟩
 rw[h] at hn
 refine hn.mono ?_
 have:=Rat.mul_le_mul_of_nonneg_right hm (show (0:Rat)≤eps by decide +kernel)
 grind
theorem add_near {a b:Nat} {x y B:Rat} (ha:FV a x) (hb:FV b y) (h1:-B≤x+y) (h2:x+y≤B) (hB:B≤top):∃ r z,double.add a b=some r∧FV r z∧Near z (x+y) (B*eps+tiny):=by
 obtain⟨s,m,p,hr,rfl⟩:=ha
 obtain⟨t,n,q,hq,rfl⟩:=hb
 obtain⟨u,k,c,hs,hv⟩:=sum_val s t m n p q
 obtain⟨z,hz,hn⟩:=write_near hv h1 h2 hB
 refine⟨_,z,?_,hz,hn⟩
 unfold Format.add
 rw[hr,hq,hs];rfl
theorem sub_near {a b:Nat} {x y B:Rat} (ha:FV a x) (hb:FV b y) (h1:-B≤x - y) (h2:x - y≤B) (hB:B≤top):∃ r z,double.sub a b=some r∧FV r z∧Near z (x - y) (B*eps+tiny):=by
 obtain⟨s,m,p,hr,rfl⟩:=ha
 obtain⟨t,n,q,hq,rfl⟩:=hb
 obtain⟨u,k,c,hs,hv⟩:=sum_val s (!t) m n p q
 rw[opp_val] at hv
 obtain⟨z,hz,hn⟩:=write_near (v:=numR s m p - numR t n q) (B:=B) (by rw[hv];grind) h1 h2 hB
 refine⟨_,z,?_,hz,hn⟩
 unfold Format.sub
 rw[hr,hq]
 show ((Datum.number s m p).sum (.number (!t) n q)).map _=_
 rw[hs];rfl
theorem mul_near {a b:Nat} {x y B:Rat} (ha:FV a x) (hb:FV b y) (h1:-B≤x*y) (h2:x*y≤B) (hB:B≤top):∃ r z,double.mul a b=some r∧FV r z∧Near z (x*y) (B*eps+tiny):=by
 obtain⟨s,m,p,hr,rfl⟩:=ha
 obtain⟨t,n,q,hq,rfl⟩:=hb
 obtain⟨z,hz,hn⟩:=write_near (mul_val s t m n p q) h1 h2 hB
 refine⟨_,z,?_,hz,hn⟩
 unfold Format.mul
 rw[hr,hq];rfl
end
section
open Ieee
@[ext] structure Cx where
 re:Rat
 im:Rat
namespace Cx
def add (z w:Cx):Cx:=⟨z.re+w.re,z.im+w.im⟩
def sub (z w:Cx):Cx:=⟨z.re - w.re,z.im - w.im⟩
def mul (z w:Cx):Cx:=⟨z.re*w.re - z.im*w.im,z.re*w.im+z.im*w.re⟩
def neg (z:Cx):Cx:=⟨-z.re,-z.im⟩
def M (z:Cx) (A:Rat):Prop:=0≤A∧z.re*z.re+z.im*z.im≤A*A
theorem sq_nonneg (x:Rat):0≤x*x:=by
 rcases Rat.le_total (a:=0) (b:=x) with h | h
 ·exact Rat.mul_nonneg h h
 ·have:=Rat.mul_nonneg (a:=-x) (b:=-x) (by grind) (by grind)
  grind
theorem le_of_sq {x A:Rat} (hA:0≤A) (h:x*x≤A*A):x≤A:=by
 refine Classical.byContradiction fun hc=>?_
 have hc:A<x:=Rat.not_le.1 hc
 have h1:=Rat.mul_le_mul_of_nonneg_left (Rat.le_of_lt hc) hA
 have h2:=Rat.mul_lt_mul_of_pos_right hc (show 0<x by grind)
 grind
theorem sq_mono {A B:Rat} (hA:0≤A) (h:A≤B):A*A≤B*B:=by
 have h1:=Rat.mul_le_mul_of_nonneg_left h hA
 have h2:=Rat.mul_le_mul_of_nonneg_right h (show 0≤B by grind)
 grind
theorem M.mono {z:Cx} {A B:Rat} (h:z.M A) (hB:A≤B):z.M B:=⟨by have:=h.1;grind,by have:=sq_mono h.1 hB;have:=h.2;grind⟩
theorem M.re_le {z:Cx} {A:Rat} (h:z.M A):-A≤z.re∧z.re≤A:=by
 obtain⟨h1,h2⟩:=h
 have h3:=sq_nonneg z.im
 have h4:=le_of_sq (x:=z.re) h1 (by grind)
 have h5:=le_of_sq (x:=-z.re) h1 (by grind)
 exact⟨by grind,h4⟩
theorem M.im_le {z:Cx} {A:Rat} (h:z.M A):-A≤z.im∧z.im≤A:=by
 obtain⟨h1,h2⟩:=h
 have h3:=sq_nonneg z.re
 have h4:=le_of_sq (x:=z.im) h1 (by grind)
 have h5:=le_of_sq (x:=-z.im) h1 (by grind)
 exact⟨by grind,h4⟩
theorem M.add {z w:Cx} {A B:Rat} (h:z.M A) (k:w.M B):(z.add w).M (A+B):=by
 obtain⟨h1,h2⟩:=h
 obtain⟨k1,k2⟩:=k
 refine⟨by grind,?_⟩
 have hAB:=Rat.mul_nonneg h1 k1
 have hz:0≤z.re*z.re+z.im*z.im:=by have:=sq_nonneg z.re;have:=sq_nonneg z.im;grind
 have hm:(z.re*z.re+z.im*z.im)*(w.re*w.re+w.im*w.im)≤(A*B)*(A*B):=by
  have m1:=Rat.mul_le_mul_of_nonneg_left k2 hz
  have m2:=Rat.mul_le_mul_of_nonneg_right h2 (sq_nonneg B)
  grind
 have hs:=sq_nonneg (z.re*w.im - z.im*w.re)
 have hd:z.re*w.re+z.im*w.im≤A*B:=le_of_sq hAB (by grind)
 show (z.re+w.re)*(z.re+w.re)+(z.im+w.im)*(z.im+w.im)≤_
 grind
theorem M.mul {z w:Cx} {A B:Rat} (h:z.M A) (k:w.M B):(z.mul w).M (A*B):=by
 obtain⟨h1,h2⟩:=h
 obtain⟨k1,k2⟩:=k
 refine⟨Rat.mul_nonneg h1 k1,?_⟩
 have hz:0≤z.re*z.re+z.im*z.im:=by have:=sq_nonneg z.re;have:=sq_nonneg z.im;grind
 have m1:=Rat.mul_le_mul_of_nonneg_left k2 hz
 have m2:=Rat.mul_le_mul_of_nonneg_right h2 (sq_nonneg B)
 show (z.re*w.re - z.im*w.im)*(z.re*w.re - z.im*w.im)+(z.re*w.im+z.im*w.re)*(z.re*w.im+z.im*w.re)≤_
 grind
theorem M.neg {z:Cx} {A:Rat} (h:z.M A):z.neg.M A:=by
 obtain⟨h1,h2⟩:=h
 refine⟨h1,?_⟩
 show -z.re*-z.re+-z.im*-z.im≤_
 grind
theorem sub_eq (z w:Cx):z.sub w=z.add w.neg:=by
 unfold sub add neg
 congr 1<;>grind
theorem M.sub {z w:Cx} {A B:Rat} (h:z.M A) (k:w.M B):(z.sub w).M (A+B):=by rw[sub_eq];exact h.add k.neg
theorem M.of {z:Cx} {e:Rat} (h1:-e≤z.re) (h2:z.re≤e) (h3:-e≤z.im) (h4:z.im≤e):z.M (2*e):=by
 have he:0≤e:=by grind
 have s1:z.re*z.re≤e*e:=by
  have:=Rat.mul_nonneg (show 0≤e - z.re by grind) (show 0≤e+z.re by grind)
  grind
 have s2:z.im*z.im≤e*e:=by
  have:=Rat.mul_nonneg (show 0≤e - z.im by grind) (show 0≤e+z.im by grind)
  grind
 have:=sq_nonneg e
 exact⟨by grind,by grind⟩
end Cx
def CV (w:Nat × Nat) (z:Cx):Prop:=FV w.1 z.re∧FV w.2 z.im
def cadd (z w:Nat × Nat):Option (Nat × Nat):=(double.add z.1 w.1).bind fun a=>(double.add z.2 w.2).map fun b=>(a,b)
def csub (z w:Nat × Nat):Option (Nat × Nat):=(double.sub z.1 w.1).bind fun a=>(double.sub z.2 w.2).map fun b=>(a,b)
def cmul (z w:Nat × Nat):Option (Nat × Nat):=
 (double.mul z.1 w.1).bind fun ac=>(double.mul z.2 w.2).bind fun bd=>(double.sub ac bd).bind fun r=>
 (double.mul z.1 w.2).bind fun ad=>(double.mul z.2 w.1).bind fun bc=>(double.add ad bc).map fun i=>(r,i)
theorem cadd_near {u v:Nat × Nat} {x y:Cx} {B:Rat} (hu:CV u x) (hv:CV v y) (hB:(x.add y).M B) (ht:B≤top):∃ r z,cadd u v=some r∧CV r z∧(z.sub (x.add y)).M (2*(B*eps+tiny)):=by
 obtain⟨r1,z1,a1,b1,c1,d1⟩:=add_near hu.1 hv.1 hB.re_le.1 hB.re_le.2 ht
 obtain⟨r2,z2,a2,b2,c2,d2⟩:=add_near hu.2 hv.2 hB.im_le.1 hB.im_le.2 ht
 refine⟨(r1,r2),⟨z1,z2⟩,?_,⟨b1,b2⟩,Cx.M.of ?_ ?_ ?_ ?_⟩
 ·unfold cadd;rw[a1,a2];rfl
 ·show _≤z1 - (x.re+y.re);grind
 ·show z1 - (x.re+y.re)≤_;grind
 ·show _≤z2 - (x.im+y.im);grind
 ·show z2 - (x.im+y.im)≤_;grind
theorem csub_near {u v:Nat × Nat} {x y:Cx} {B:Rat} (hu:CV u x) (hv:CV v y) (hB:(x.sub y).M B) (ht:B≤top):∃ r z,csub u v=some r∧CV r z∧(z.sub (x.sub y)).M (2*(B*eps+tiny)):=by
 obtain⟨r1,z1,a1,b1,c1,d1⟩:=sub_near hu.1 hv.1 hB.re_le.1 hB.re_le.2 ht
 obtain⟨r2,z2,a2,b2,c2,d2⟩:=sub_near hu.2 hv.2 hB.im_le.1 hB.im_le.2 ht
 refine⟨(r1,r2),⟨z1,z2⟩,?_,⟨b1,b2⟩,Cx.M.of ?_ ?_ ?_ ?_⟩
 ·unfold csub;rw[a1,a2];rfl
 ·show _≤z1 - (x.re - y.re);grind
 ·show z1 - (x.re - y.re)≤_;grind
 ·show _≤z2 - (x.im - y.im);grind
 ·show z2 - (x.im - y.im)≤_;grind
theorem prod_le {x y A B:Rat} (h1:-A≤x) (h2:x≤A) (h3:-B≤y) (h4:y≤B):-(A*B)≤x*y∧x*y≤A*B:=by
 have hA:0≤A:=by grind
 have hB:0≤B:=by grind
 have p1:=Rat.mul_nonneg (show 0≤A - x by grind) (show 0≤B - y by grind)
 have p2:=Rat.mul_nonneg (show 0≤A+x by grind) (show 0≤B+y by grind)
 have p3:=Rat.mul_nonneg (show 0≤A - x by grind) (show 0≤B+y by grind)
 have p4:=Rat.mul_nonneg (show 0≤A+x by grind) (show 0≤B - y by grind)
 exact⟨by grind,by grind⟩
theorem cmul_near {u v:Nat × Nat} {x y:Cx} {A B:Rat} (hu:CV u x) (hv:CV v y) (hA:x.M A) (hB:y.M B) (ht:4*(A*B)+4≤top):∃ r z,cmul u v=some r∧CV r z∧(z.sub (x.mul y)).M (12*(A*B)*eps+12*tiny):=by
 have hAB:=Rat.mul_nonneg hA.1 hB.1
 have he:(0:Rat)≤eps∧eps≤1 / 1000:=by decide +kernel
 have hti:(0:Rat)≤tiny∧tiny≤1 / 1000:=by decide +kernel
 have hk:(A*B)*eps≤A*B*(1 / 1000):=Rat.mul_le_mul_of_nonneg_left he.2 hAB
 have hk0:=Rat.mul_nonneg hAB he.1
 have p1:=prod_le hA.re_le.1 hA.re_le.2 hB.re_le.1 hB.re_le.2
 have p2:=prod_le hA.im_le.1 hA.im_le.2 hB.im_le.1 hB.im_le.2
 have p3:=prod_le hA.re_le.1 hA.re_le.2 hB.im_le.1 hB.im_le.2
 have p4:=prod_le hA.im_le.1 hA.im_le.2 hB.re_le.1 hB.re_le.2
 obtain⟨r1,z1,a1,b1,c1,d1⟩:=mul_near hu.1 hv.1 p1.1 p1.2 (by grind)
 obtain⟨r2,z2,a2,b2,c2,d2⟩:=mul_near hu.2 hv.2 p2.1 p2.2 (by grind)
 obtain⟨r3,z3,a3,b3,c3,d3⟩:=mul_near hu.1 hv.2 p3.1 p3.2 (by grind)
 obtain⟨r4,z4,a4,b4,c4,d4⟩:=mul_near hu.2 hv.1 p4.1 p4.2 (by grind)
 obtain⟨r5,z5,a5,b5,c5,d5⟩:=sub_near (B:=3*(A*B)+3*tiny) b1 b2 (by grind) (by grind) (by grind)
 obtain⟨r6,z6,a6,b6,c6,d6⟩:=add_near (B:=3*(A*B)+3*tiny) b3 b4 (by grind) (by grind) (by grind)
 have ht2:tiny*eps≤tiny*(1 / 1000):=Rat.mul_le_mul_of_nonneg_left he.2 hti.1
 have h6:(3*(A*B)+3*tiny)*eps=3*((A*B)*eps)+3*(tiny*eps):=by grind
 rw[h6] at c5 d5 c6 d6
 refine⟨(r5,r6),⟨z5,z6⟩,?_,⟨b5,b6⟩,Cx.M.mono (A:=2*(6*((A*B)*eps)+6*tiny)) (Cx.M.of ?_ ?_ ?_ ?_) (by grind)⟩
 ·unfold cmul
  rw[a1,a2]
  simp only [Option.bind_some,a5,a3,a4,a6,Option.map_some]
 ·show _≤z5 - (x.re*y.re - x.im*y.im);grind
 ·show z5 - (x.re*y.re - x.im*y.im)≤_;grind
 ·show _≤z6 - (x.re*y.im+x.im*y.re);grind
 ·show z6 - (x.re*y.im+x.im*y.re)≤_;grind
end
section
namespace Cx
def one:Cx:=⟨1,0⟩
def zero:Cx:=⟨0,0⟩
theorem mul_assoc (x y z:Cx):(x.mul y).mul z=x.mul (y.mul z):=by unfold mul;congr 1<;>grind
theorem mul_comm (x y:Cx):x.mul y=y.mul x:=by unfold mul;congr 1<;>grind
theorem mul_add (x y z:Cx):x.mul (y.add z)=(x.mul y).add (x.mul z):=by unfold mul add;congr 1<;>grind
theorem add_mul (x y z:Cx):(x.add y).mul z=(x.mul z).add (y.mul z):=by unfold mul add;congr 1<;>grind
theorem one_mul (x:Cx):one.mul x=x:=by cases x;unfold mul one;congr 1<;>grind
theorem mul_one (x:Cx):x.mul one=x:=by cases x;unfold mul one;congr 1<;>grind
theorem neg_mul (x y:Cx):x.neg.mul y=(x.mul y).neg:=by unfold mul neg;congr 1<;>grind
theorem mul_neg (x y:Cx):x.mul y.neg=(x.mul y).neg:=by unfold mul neg;congr 1<;>grind
theorem neg_neg (x:Cx):x.neg.neg=x:=by cases x;unfold neg;congr 1<;>grind
theorem add_comm (x y:Cx):x.add y=y.add x:=by unfold add;congr 1<;>grind
theorem add_assoc (x y z:Cx):(x.add y).add z=x.add (y.add z):=by unfold add;congr 1<;>grind
theorem add_zero (x:Cx):x.add zero=x:=by cases x;unfold add zero;congr 1<;>grind
theorem zero_add (x:Cx):zero.add x=x:=by cases x;unfold add zero;congr 1<;>grind
theorem mul_zero (x:Cx):x.mul zero=zero:=by unfold mul zero;congr 1<;>grind
theorem zero_mul (x:Cx):zero.mul x=zero:=by unfold mul zero;congr 1<;>grind
theorem sub_self (x:Cx):x.sub x=zero:=by unfold sub zero;congr 1<;>grind
theorem neg_zero:zero.neg=zero:=by unfold neg zero;congr 1
theorem add_neg (x:Cx):x.add x.neg=zero:=by unfold add neg zero;congr 1<;>grind
theorem M.zero {A:Rat} (h:0≤A):zero.M A:=⟨h,by have:=sq_nonneg A;show (0:Rat)*0+0*0≤_;grind⟩
theorem M.one:one.M 1:=⟨by decide +kernel,by decide +kernel⟩
def g:Cx:=⟨1267644634423113846968036898775 / 1267650600228229401496703205376,3889097232048075534265022357 / 1267650600228229401496703205376⟩
theorem g_M:g.M 1:=⟨by decide +kernel,by decide +kernel⟩
def zp:Nat→Cx
 | 0=>one
 | k+1=>(zp k).mul g
theorem zp_add (a b:Nat):zp (a+b)=(zp a).mul (zp b):=by
 induction b with
 | zero=>show zp a=(zp a).mul one;rw[mul_one]
 | succ b ih=>show (zp (a+b)).mul g=(zp a).mul ((zp b).mul g);rw[ih,mul_assoc]
theorem zp_M (k:Nat):(zp k).M 1:=by
 induction k with
 | zero=>exact M.one
 | succ k ih=>have:=ih.mul g_M;rwa [Rat.mul_one] at this
def sqs:Nat→Cx→Cx
 | 0,x=>x
 | n+1,x=>sqs n (x.mul x)
theorem sqs_zp (n k:Nat):sqs n (zp k)=zp (2^n*k):=by
 induction n generalizing k with
 | zero=>show zp k=_;rw[Nat.pow_zero,Nat.one_mul]
 | succ n ih=>show sqs n ((zp k).mul (zp k))=_;rw[← zp_add,ih];congr 1;rw[Nat.pow_succ];rw[Nat.mul_assoc];congr 1;omega
def theta:Rat:=1 / 1208925819614629174706176
theorem half_M:((zp 1024).add one).M theta:=by
 have h:zp 1024=sqs 10 g:=by
  have h1:=sqs_zp 10 1
  have h2:zp 1=g:=by show one.mul g=g;rw[one_mul]
  rw[h2] at h1;exact h1.symm
 rw[h]
 exact⟨by decide +kernel,by decide +kernel⟩
def z (m:Nat):Cx:=if m % 2048<1024 then zp (m % 2048) else (zp (m % 2048 - 1024)).neg
theorem z_zero:z 0=one:=rfl
theorem z_period (m k:Nat):z (m+2048*k)=z m:=by unfold z;rw[Nat.add_mul_mod_self_left]
theorem z_half (m:Nat):z (m+1024)=(z m).neg:=by
 unfold z
 by_cases h:m % 2048<1024
 ·rw[if_pos h,if_neg (by omega),show (m+1024) % 2048 - 1024=m % 2048 by omega]
 ·rw[if_neg h,if_pos (by omega),show (m+1024) % 2048=m % 2048 - 1024 by omega,neg_neg]
theorem z_M (m:Nat):(z m).M 1:=by
 unfold z;split
 ·exact zp_M _
 ·exact(zp_M _).neg
theorem zp_near {a b:Nat} (ha:a<1024) (hb:b<1024):(((zp a).mul (zp b)).sub (z (a+b))).M theta:=by
 rw[← zp_add]
 have ht:(0:Rat)≤theta:=by decide +kernel
 unfold z
 by_cases h:(a+b) % 2048<1024
 ·rw[if_pos h,show (a+b) % 2048=a+b by omega,sub_self];exact M.zero ht
 ·rw[if_neg h]
  obtain⟨c,hc⟩:∃ c,a+b=c+1024:=⟨a+b - 1024,by omega⟩
  rw[hc,show (c+1024) % 2048 - 1024=c by omega,zp_add]
  have h1:=(zp_M c).mul half_M
  rw[Rat.one_mul] at h1
  have h2:((zp c).mul (zp 1024)).sub (zp c).neg=(zp c).mul ((zp 1024).add one):=by
   rw[mul_add,mul_one,sub_eq,neg_neg]
  rw[h2];exact h1
theorem neg_sub_neg (x y:Cx):x.neg.sub y.neg=(x.sub y).neg:=by unfold sub neg;congr 1<;>grind
theorem z_near (a b:Nat):(((z a).mul (z b)).sub (z (a+b))).M theta:=by
 have hs:∀ m,∃ a',a'<1024∧∃ k,(m=a'+2048*k∧z m=zp a')∨(m=a'+1024+2048*k∧z m=(zp a').neg):=by
  intro m
  by_cases h:m % 2048<1024
  ·exact⟨m % 2048,h,m / 2048,.inl ⟨by omega,by unfold z;rw[if_pos h]⟩⟩
  ·exact⟨m % 2048 - 1024,by omega,m / 2048,.inr ⟨by omega,by unfold z;rw[if_neg h]⟩⟩
 obtain⟨a',ha,ka,h1⟩:=hs a
 obtain⟨b',hb,kb,h2⟩:=hs b
 have hn:=zp_near ha hb
 rcases h1 with ⟨ea,za⟩ | ⟨ea,za⟩<;>rcases h2 with ⟨eb,zb⟩ | ⟨eb,zb⟩<;>rw[za,zb]
 ·rw[show a+b=(a'+b')+2048*(ka+kb) by omega,z_period];exact hn
 ·rw[show a+b=(a'+b')+1024+2048*(ka+kb) by omega,z_period,z_half,mul_neg,neg_sub_neg];exact hn.neg
 ·rw[show a+b=(a'+b')+1024+2048*(ka+kb) by omega,z_period,z_half,neg_mul,neg_sub_neg];exact hn.neg
 ·rw[show a+b=(a'+b')+2048*(ka+kb+1) by omega,z_period,neg_mul,mul_neg,neg_neg];exact hn
def Turns (c:Nat→Cx):Prop:=(∀ m,c (m+1024)=(c m).neg)∧(∀ a b,(((c a).mul (c b)).sub (c (a+b))).M theta)∧∀ m,(c m).M 1
theorem z_turns:Turns z:=⟨z_half,z_near,z_M⟩
def zb (m:Nat):Cx:=z (2047*m)
theorem zb_turns:Turns zb:=by
 refine⟨fun m=>?_,fun a b=>?_,fun m=>z_M _⟩
 ·unfold zb
  rw[show 2047*(m+1024)=(2047*m+1024)+2048*1023 by omega,z_period,z_half]
 ·unfold zb
  rw[Nat.mul_add];exact z_near _ _
end Cx
end
section
namespace Cx
def sum:Nat→(Nat→Cx)→Cx
 | 0,_=>zero
 | n+1,f=>(sum n f).add (f n)
theorem sum_congr {n:Nat} {f h:Nat→Cx} (k:∀ i,i<n→f i=h i):sum n f=sum n h:=by
 induction n with
 | zero=>rfl
 | succ n ih=>show (sum n f).add (f n)=(sum n h).add (h n);rw[ih (fun i hi=>k i (by omega)),k n (by omega)]
theorem nat_succ (n:Nat):((n+1:Nat):Rat)=(n:Rat)+1:=by rw[Rat.natCast_add];rfl
theorem sum_M {n:Nat} {f:Nat→Cx} {A:Rat} (hA:0≤A) (h:∀ i,i<n→(f i).M A):(sum n f).M (n*A):=by
 induction n with
 | zero=>exact M.zero (by show (0:Rat)≤0*A;grind)
 | succ n ih=>
  refine((ih fun i hi=>h i (by omega)).add (h n (by omega))).mono ?_
  rw[nat_succ];grind
theorem sum_split (n:Nat) (f:Nat→Cx):sum (2*n) f=(sum n fun t=>f (2*t)).add (sum n fun t=>f (2*t+1)):=by
 induction n with
 | zero=>exact(add_zero zero).symm
 | succ n ih=>
  show ((sum (2*n) f).add (f (2*n))).add (f (2*n+1))=((sum n fun t=>f (2*t)).add (f (2*n))).add ((sum n fun t=>f (2*t+1)).add (f (2*n+1)))
  rw[ih];unfold add;congr 1<;>grind
theorem sum_mul (n:Nat) (c:Cx) (f:Nat→Cx):c.mul (sum n f)=sum n fun t=>c.mul (f t):=by
 induction n with
 | zero=>exact mul_zero c
 | succ n ih=>show c.mul ((sum n f).add (f n))=_;rw[mul_add,ih];rfl
theorem sum_mul' (n:Nat) (c:Cx) (f:Nat→Cx):(sum n f).mul c=sum n fun t=>(f t).mul c:=by
 rw[mul_comm,sum_mul];exact sum_congr fun i _=>mul_comm _ _
theorem sum_sub (n:Nat) (f h:Nat→Cx):(sum n f).sub (sum n h)=sum n fun t=>(f t).sub (h t):=by
 induction n with
 | zero=>exact sub_self zero
 | succ n ih=>
  show ((sum n f).add (f n)).sub ((sum n h).add (h n))=(sum n fun t=>(f t).sub (h t)).add ((f n).sub (h n))
  rw[← ih];unfold add sub;congr 1<;>grind
theorem sum_add (n:Nat) (f h:Nat→Cx):(sum n f).add (sum n h)=sum n fun t=>(f t).add (h t):=by
 induction n with
 | zero=>exact add_zero zero
 | succ n ih=>
  show ((sum n f).add (f n)).add ((sum n h).add (h n))=(sum n fun t=>(f t).add (h t)).add ((f n).add (h n))
  rw[← ih];unfold add;congr 1<;>grind
theorem sum_neg (n:Nat) (f:Nat→Cx):(sum n f).neg=sum n fun t=>(f t).neg:=by
 induction n with
 | zero=>exact neg_zero
 | succ n ih=>
  show ((sum n f).add (f n)).neg=(sum n fun t=>(f t).neg).add (f n).neg
  rw[← ih];unfold add neg;congr 1<;>grind
theorem sum_app (a b:Nat) (f:Nat→Cx):sum (a+b) f=(sum a f).add (sum b fun t=>f (a+t)):=by
 induction b with
 | zero=>exact(add_zero _).symm
 | succ b ih=>show (sum (a+b) f).add (f (a+b))=_;rw[ih,add_assoc];rfl
theorem sum_zero (n:Nat):sum n (fun _=>zero)=zero:=by
 induction n with
 | zero=>rfl
 | succ n ih=>show (sum n fun _=>zero).add zero=zero;rw[ih,add_zero]
theorem sum_swap (n m:Nat) (f:Nat→Nat→Cx):sum n (fun i=>sum m fun j=>f i j)=sum m fun j=>sum n fun i=>f i j:=by
 induction n with
 | zero=>show zero=_;exact(sum_zero m).symm
 | succ n ih=>
  show (sum n fun i=>sum m fun j=>f i j).add (sum m fun j=>f n j)=_
  rw[ih,sum_add];rfl
def dft (c:Nat→Cx) (s:Nat) (f:Nat→Cx) (k:Nat):Cx:=sum (2^s) fun t=>(f t).mul (c (t*k*2^(11 - s)))
theorem dft_M {c:Nat→Cx} (hc:Turns c) {s k:Nat} {f:Nat→Cx} {B:Rat} (h0:0≤B) (hf:∀ t,t<2^s→(f t).M B):(dft c s f k).M ((2^s:Nat)*B):=
 sum_M h0 fun t ht=>by have:=(hf t ht).mul (hc.2.2 (t*k*2^(11 - s)));rwa [Rat.mul_one] at this
theorem turns_period {c:Nat→Cx} (hc:Turns c) (m k:Nat):c (m+2048*k)=c m:=by
 induction k with
 | zero=>rfl
 | succ k ih=>rw[show m+2048*(k+1)=m+2048*k+1024+1024 by omega,hc.1,hc.1,neg_neg,ih]
theorem turns_odd {c:Nat→Cx} (hc:Turns c) (m k:Nat):c (m+1024*(2*k+1))=(c m).neg:=by
 rw[show m+1024*(2*k+1)=m+1024+2048*k by omega,turns_period hc,hc.1]
theorem dft_half {c:Nat→Cx} (hc:Turns c) {s k:Nat} (hs:s<11) {f:Nat→Cx} {B:Rat} (h0:0≤B) (hf:∀ t,t<2^(s+1)→(f t).M B) :
  ((dft c (s+1) f k).sub ((dft c s (fun t=>f (2*t)) k).add ((dft c s (fun t=>f (2*t+1)) k).mul (c (k*2^(10 - s)))))).M ((2^s:Nat)*(B*theta)) ∧
  ((dft c (s+1) f (k+2^s)).sub ((dft c s (fun t=>f (2*t)) k).sub ((dft c s (fun t=>f (2*t+1)) k).mul (c (k*2^(10 - s)))))).M ((2^s:Nat)*(B*theta)):=by
 obtain⟨q,hq⟩:∃ q,q=2^(10 - s):=⟨_,rfl⟩
 have hq1:2^(11 - (s+1))=q:=by rw[hq];congr 1;omega
 have hq2:2^(11 - s)=2*q:=by rw[hq,show 11 - s=(10 - s)+1 by omega,Nat.pow_succ];omega
 have hq3:2^s*q=1024:=by rw[hq,← Nat.pow_add,show s+(10 - s)=10 by omega]
 have h2s:2^(s+1)=2*2^s:=by rw[Nat.pow_succ];omega
 rw[← hq]
 obtain⟨E,hE⟩:∃ E,E=sum (2^s) fun t=>(f (2*t+1)).mul (c ((2*t+1)*k*q)):=⟨_,rfl⟩
 have d1:dft c (s+1) f k=(dft c s (fun t=>f (2*t)) k).add E:=by
  unfold dft
  rw[hq1,hq2,h2s,sum_split,hE]
  congr 1
  refine sum_congr fun t _=>?_
  rw[show 2*t*k*q=t*k*(2*q) by rw[Nat.mul_assoc,Nat.mul_assoc,Nat.mul_assoc,Nat.mul_left_comm,Nat.mul_left_comm k 2 q]]
 have d2:dft c (s+1) f (k+2^s)=(dft c s (fun t=>f (2*t)) k).add E.neg:=by
  unfold dft
  rw[hq1,hq2,h2s,sum_split,hE,sum_neg]
  congr 1
  ·refine sum_congr fun t _=>?_
   have:2*t*(k+2^s)*q=t*k*(2*q)+2048*t:=by
    rw[Nat.mul_add,Nat.add_mul,Nat.mul_assoc (2*t) (2^s) q,hq3]
    have:2*t*k*q=t*k*(2*q):=by rw[Nat.mul_assoc,Nat.mul_assoc,Nat.mul_assoc,Nat.mul_left_comm,Nat.mul_left_comm k 2 q]
    omega
   rw[this,turns_period hc]
  ·refine sum_congr fun t _=>?_
   have:(2*t+1)*(k+2^s)*q=(2*t+1)*k*q+1024*(2*t+1):=by
    rw[Nat.mul_add,Nat.add_mul,Nat.mul_assoc (2*t+1) (2^s) q,hq3];omega
   rw[this,turns_odd hc,mul_neg]
 have hw:(E.sub ((dft c s (fun t=>f (2*t+1)) k).mul (c (k*q)))).M ((2^s:Nat)*(B*theta)):=by
  unfold dft
  rw[hE,hq2,sum_mul',sum_sub]
  refine sum_M (Rat.mul_nonneg h0 (by decide +kernel)) fun t ht=>?_
  have h1:=hc.2.1 (t*k*(2*q)) (k*q)
  have e1:t*k*(2*q)+k*q=(2*t+1)*k*q:=by
   have:t*k*(2*q)=2*t*k*q:=by rw[Nat.mul_assoc,Nat.mul_assoc,Nat.mul_assoc,Nat.mul_left_comm 2 t,Nat.mul_left_comm k 2 q]
   rw[this,Nat.add_mul,Nat.add_mul,Nat.one_mul]
  rw[e1] at h1
  have h2:=(hf (2*t+1) (by omega)).mul h1.neg
  have e2:((f (2*t+1)).mul (c ((2*t+1)*k*q))).sub (((f (2*t+1)).mul (c (t*k*(2*q)))).mul (c (k*q)))=(f (2*t+1)).mul (((c (t*k*(2*q))).mul (c (k*q))).sub (c ((2*t+1)*k*q))).neg:=by
   unfold mul sub neg;congr 1<;>grind
  rw[e2];exact h2
 rw[d1,d2]
 constructor
 ·have:((dft c s (fun t=>f (2*t)) k).add E).sub ((dft c s (fun t=>f (2*t)) k).add ((dft c s (fun t=>f (2*t+1)) k).mul (c (k*q))))=E.sub ((dft c s (fun t=>f (2*t+1)) k).mul (c (k*q))):=by
   unfold add sub;congr 1<;>grind
  rw[this];exact hw
 ·have:((dft c s (fun t=>f (2*t)) k).add E.neg).sub ((dft c s (fun t=>f (2*t)) k).sub ((dft c s (fun t=>f (2*t+1)) k).mul (c (k*q))))=(E.sub ((dft c s (fun t=>f (2*t+1)) k).mul (c (k*q)))).neg:=by
   unfold add sub neg;congr 1<;>grind
  rw[this];exact hw.neg
end Cx
end
section
def eta:Rat:=16*eps
theorem Cx.M.near {x y:Cx} {A e:Rat} (h:(x.sub y).M e) (k:y.M A):x.M (A+e):=by
 have h1:=k.add h
 have:y.add (x.sub y)=x:=by unfold Cx.add Cx.sub;cases x;congr 1<;>grind
 rwa [this] at h1
theorem nums:eps=1 / 9007199254740992∧tiny=1 / 1606938044258990275541962092341162602522202993782792835301376∧eta=16 / 9007199254740992∧Cx.theta=1 / 1208925819614629174706176∧top=1606938044258990275541962092341162602522202993782792835301376:=by decide +kernel
theorem fly_core {u v tw:Nat × Nat} {zu zv wv U V c D1 D2:Cx} {b e:Rat} (h1:1≤b) (h2:b≤75557863725914323419136) (e0:0≤e) (he:e*1048576≤b)
  (hu:CV u zu) (hv:CV v zv) (hw:CV tw wv) (du:(zu.sub U).M e) (dv:(zv.sub V).M e) (dw:(wv.sub c).M eta) (bU:U.M b) (bV:V.M b) (bc:c.M 1)
  (f1:(D1.sub (U.add (V.mul c))).M (b*Cx.theta)) (f2:(D2.sub (U.sub (V.mul c))).M (b*Cx.theta)) :
  ∃ m r1 r2 z1 z2,cmul v tw=some m∧cadd u m=some r1∧csub u m=some r2∧CV r1 z1∧CV r2 z2∧(z1.sub D1).M (2*e+33*eps*b)∧(z2.sub D2).M (2*e+33*eps*b):=by
 obtain⟨n1,n2,n3,n4,n5⟩:=nums
 have mv:=dv.near bV
 have mw:=dw.near bc
 have mu:=du.near bU
 obtain⟨m,zm,q1,q2,q3⟩:=cmul_near hv hw mv mw (by rw[n3,n5];grind)
 have pe:=(dv.mul mw).add (bV.mul dw)
 have dm:(zm.sub (V.mul c)).M (12*((b+e)*(1+eta))*eps+12*tiny+(e*(1+eta)+b*eta)):=by
  have:=q3.add pe
  have e1:(zm.sub (zv.mul wv)).add (((zv.sub V).mul wv).add (V.mul (wv.sub c)))=zm.sub (V.mul c):=by
   unfold Cx.sub Cx.add Cx.mul;congr 1<;>grind
  rwa [e1] at this
 have bVc:=bV.mul bc
 rw[Rat.mul_one] at bVc
 obtain⟨em,hem⟩:∃ em,em=12*((b+e)*(1+eta))*eps+12*tiny+(e*(1+eta)+b*eta):=⟨_,rfl⟩
 rw[← hem] at dm
 have mm:=dm.near bVc
 obtain⟨r1,z1,a1,a2,a3⟩:=cadd_near hu q2 (mu.add mm) (by rw[hem,n1,n2,n3,n5];grind)
 obtain⟨r2,z2,b1,b2,b3⟩:=csub_near hu q2 (mu.sub mm) (by rw[hem,n1,n2,n3,n5];grind)
 have hfin:2*((b+e+(b+em))*eps+tiny)+(e+em)+b*Cx.theta≤2*e+33*eps*b:=by
  rw[hem,n1,n2,n3,n4];grind
 refine⟨m,r1,r2,z1,z2,q1,a1,b1,a2,b2,?_,?_⟩
 ·have:=(a3.add (du.add dm)).add f1.neg
  have e1:(((z1.sub (zu.add zm)).add ((zu.sub U).add (zm.sub (V.mul c)))).add (D1.sub (U.add (V.mul c))).neg)=z1.sub D1:=by
   unfold Cx.sub Cx.add Cx.neg;congr 1<;>grind
  rw[e1] at this
  exact this.mono hfin
 ·have:=(b3.add (du.sub dm)).add f2.neg
  have e1:(((z2.sub (zu.sub zm)).add ((zu.sub U).sub (zm.sub (V.mul c)))).add (D2.sub (U.sub (V.mul c))).neg)=z2.sub D2:=by
   unfold Cx.sub Cx.add Cx.neg;congr 1<;>grind
  rw[e1] at this
  exact this.mono hfin
def sq (a:Nat→Cx):Nat→Nat→Nat→Cx
 | 0,b,_=>a b
 | s+1,b,t=>if t % 2=0 then sq a s (2*b) (t / 2) else sq a s (2*b+1) (t / 2)
theorem sq_even (a:Nat→Cx) (s b:Nat):(fun t=>sq a (s+1) b (2*t))=sq a s (2*b):=by
 funext t
 show (if (2*t) % 2=0 then sq a s (2*b) (2*t / 2) else _)=_
 rw[if_pos (by omega),show 2*t / 2=t by omega]
theorem sq_odd (a:Nat→Cx) (s b:Nat):(fun t=>sq a (s+1) b (2*t+1))=sq a s (2*b+1):=by
 funext t
 show (if (2*t+1) % 2=0 then _ else sq a s (2*b+1) ((2*t+1) / 2))=_
 rw[if_neg (by omega),show (2*t+1) / 2=t by omega]
theorem sq_M {a:Nat→Cx} {B:Rat} (h:∀ p,(a p).M B) (s b t:Nat):(sq a s b t).M B:=by
 induction s generalizing b t with
 | zero=>exact h b
 | succ s ih=>unfold sq;split<;>exact ih _ _
def Stage (c:Nat→Cx) (a:Nat→Cx) (n s:Nat) (w:Nat→Nat × Nat) (e:Rat):Prop:=∀ j,j<n→∃ x,CV (w j) x∧(x.sub (Cx.dft c s (sq a s (j / 2^s)) (j % 2^s))).M e
def err (e B:Rat) (s:Nat):Rat:=(2^s:Nat)*(e+17*s*eps*B)
theorem Stage.zero {c a:Nat→Cx} (hc:c 0=Cx.one) {n:Nat} {w:Nat→Nat × Nat} {e B:Rat} (h:∀ j,j<n→∃ x,CV (w j) x∧(x.sub (a j)).M e):Stage c a n 0 w (err e B 0):=fun j hj=>by
 obtain⟨x,h1,h2⟩:=h j hj
 refine⟨x,h1,?_⟩
 have e1:Cx.dft c 0 (sq a 0 (j / 2^0)) (j % 2^0)=a j:=by
  unfold Cx.dft
  show Cx.zero.add ((a (j / 1)).mul (c (0*(j % 1)*2^11)))=a j
  rw[Nat.zero_mul,Nat.zero_mul,hc,Cx.mul_one,Cx.zero_add,Nat.div_one]
 rw[e1]
 have e2:err e B 0=e:=by
  unfold err
  have h0:((0:Nat):Rat)=0:=rfl
  have h1:((2^0:Nat):Rat)=1:=rfl
  rw[h0,h1];grind
 rw[e2];exact h2
theorem Stage.core {c a:Nat→Cx} (hc:Cx.Turns c) {n s:Nat} (hs:s<11) {w:Nat→Nat × Nat} {tw:Nat→Nat × Nat} {e B:Rat} (hB:1≤B) (hB2:B≤36893488147419103232) (ha:∀ p,(a p).M B) (e0:0≤e) (he:(e+187*eps*B)*1048576≤B)
  (hn:n % 2^(s+1)=0) (h:Stage c a n s w (err e B s)) (htw:∀ k,k<2^s→∃ x,CV (tw k) x∧(x.sub (c (k*2^(10 - s)))).M eta) (q k:Nat) (hq:q*2^(s+1)<n) (hk:k<2^s) :
  ∃ m r1 r2 z1 z2,cmul (w (q*2^(s+1)+k+2^s)) (tw k)=some m∧cadd (w (q*2^(s+1)+k)) m=some r1∧csub (w (q*2^(s+1)+k)) m=some r2∧CV r1 z1∧CV r2 z2 ∧
   (z1.sub (Cx.dft c (s+1) (sq a (s+1) q) k)).M (err e B (s+1))∧(z2.sub (Cx.dft c (s+1) (sq a (s+1) q) (k+2^s))).M (err e B (s+1)):=by
 have h2s:2^(s+1)=2*2^s:=by rw[Nat.pow_succ];omega
 have hP0:1≤2^s:=Nat.one_le_two_pow
 have hP1:2^s≤1024:=Nat.pow_le_pow_right (n:=2) (i:=s) (j:=10) (by omega) (by omega)
 obtain⟨n1,n2,n3,n4,n5⟩:=nums
 have hlt:q*2^(s+1)+2^(s+1)≤n:=by
  obtain⟨d,hd⟩:=Nat.dvd_of_mod_eq_zero hn
  rw[hd,Nat.mul_comm] at hq ⊢
  have:q<d:=Nat.lt_of_mul_lt_mul_left hq
  have:=Nat.mul_le_mul_left (2^(s+1)) this
  rw[Nat.mul_succ] at this;exact this
 obtain⟨zu,hu,du⟩:=h (q*2^(s+1)+k) (by omega)
 obtain⟨zv,hv,dv⟩:=h (q*2^(s+1)+k+2^s) (by omega)
 obtain⟨wv,hwv,dw⟩:=htw k hk
 have i1:(q*2^(s+1)+k) / 2^s=2*q:=by
  rw[h2s,← Nat.mul_assoc,Nat.mul_comm,Nat.mul_add_div (by omega),Nat.div_eq_of_lt hk];omega
 have i2:(q*2^(s+1)+k) % 2^s=k:=by
  rw[h2s,← Nat.mul_assoc,Nat.mul_comm,Nat.mul_add_mod,Nat.mod_eq_of_lt hk]
 have i3:(q*2^(s+1)+k+2^s) / 2^s=2*q+1:=by
  rw[Nat.add_div_right _ (by omega),i1]
 have i4:(q*2^(s+1)+k+2^s) % 2^s=k:=by rw[Nat.add_mod_right,i2]
 rw[i1,i2] at du
 rw[i3,i4] at dv
 have hB0:0≤B:=by grind
 obtain⟨f1,f2⟩:=Cx.dft_half hc (k:=k) hs (f:=sq a (s+1) q) hB0 (fun t _=>sq_M ha _ _ _)
 rw[sq_even,sq_odd] at f1 f2
 have bU:=Cx.dft_M hc (s:=s) (k:=k) (f:=sq a s (2*q)) hB0 (fun t _=>sq_M ha _ _ _)
 have bV:=Cx.dft_M hc (s:=s) (k:=k) (f:=sq a s (2*q+1)) hB0 (fun t _=>sq_M ha _ _ _)
 have eS1:err e B (s+1)=2*((2^s:Nat):Rat)*(e+17*((s:Rat)+1)*eps*B):=by
  unfold err
  rw[h2s,Rat.natCast_mul,Cx.nat_succ s];rfl
 have eS0:err e B s=((2^s:Nat):Rat)*(e+17*(s:Rat)*eps*B):=rfl
 have p1:(1:Rat)≤((2^s:Nat):Rat):=cast_le hP0
 have p2:((2^s:Nat):Rat)≤1024:=cast_le hP1
 have p3:(s:Rat)≤10:=cast_le (b:=10) (by omega)
 have p4:(0:Rat)≤(s:Rat):=Rat.natCast_nonneg
 generalize ((2^s:Nat):Rat)=P at *
 generalize (s:Rat)=sr at *
 have k1:0≤sr*B:=Rat.mul_nonneg p4 hB0
 have k2:sr*B≤10*B:=Rat.mul_le_mul_of_nonneg_right p3 hB0
 have k3:B≤P*B:=by have:=Rat.mul_le_mul_of_nonneg_right p1 hB0;rwa [Rat.one_mul] at this
 have k4:P*B≤1024*B:=Rat.mul_le_mul_of_nonneg_right p2 hB0
 have k5:0≤P:=by grind
 have k6:0≤e+17*sr*eps*B:=by rw[n1];grind
 have k7:(e+17*sr*eps*B)*1048576≤B:=by rw[n1] at he ⊢;grind
 have k8:=Rat.mul_le_mul_of_nonneg_left k7 k5
 have k9:=Rat.mul_nonneg k5 k6
 have k10:=Rat.mul_nonneg k5 hB0
 obtain⟨m,r1,r2,z1,z2,a1,a2,a3,a4,a5,a6,a7⟩:=fly_core (b:=P*B) (e:=err e B s) (by grind) (by grind) (by rw[eS0];exact k9) (by rw[eS0];grind) hu hv hwv du dv dw bU bV (hc.2.2 _) (f1.mono (by grind)) (f2.mono (by grind))
 have hfin:2*err e B s+33*eps*(P*B)≤err e B (s+1):=by
  rw[eS0,eS1,n1];grind
 exact⟨m,r1,r2,z1,z2,a1,a2,a3,a4,a5,a6.mono hfin,a7.mono hfin⟩
theorem Stage.step {c a:Nat→Cx} (hc:Cx.Turns c) {n s:Nat} (hs:s<11) {w w':Nat→Nat × Nat} {tw:Nat→Nat × Nat} {e B:Rat} (hB:1≤B) (hB2:B≤36893488147419103232) (ha:∀ p,(a p).M B) (e0:0≤e) (he:(e+187*eps*B)*1048576≤B)
  (hn:n % 2^(s+1)=0) (h:Stage c a n s w (err e B s)) (htw:∀ k,k<2^s→∃ x,CV (tw k) x∧(x.sub (c (k*2^(10 - s)))).M eta)
  (hw:∀ q k,q*2^(s+1)<n→k<2^s→∀ m r1 r2,cmul (w (q*2^(s+1)+k+2^s)) (tw k)=some m→cadd (w (q*2^(s+1)+k)) m=some r1→csub (w (q*2^(s+1)+k)) m=some r2→w' (q*2^(s+1)+k)=r1∧w' (q*2^(s+1)+k+2^s)=r2) :
  Stage c a n (s+1) w' (err e B (s+1)):=by
 have h2s:2^(s+1)=2*2^s:=by rw[Nat.pow_succ];omega
 have hP0:1≤2^s:=Nat.one_le_two_pow
 have core:∀ q k,q*2^(s+1)<n→k<2^s→(∃ x,CV (w' (q*2^(s+1)+k)) x∧(x.sub (Cx.dft c (s+1) (sq a (s+1) q) k)).M (err e B (s+1)))∧(∃ x,CV (w' (q*2^(s+1)+k+2^s)) x∧(x.sub (Cx.dft c (s+1) (sq a (s+1) q) (k+2^s))).M (err e B (s+1))):=by
  intro q k hq hk
  obtain⟨m,r1,r2,z1,z2,a1,a2,a3,a4,a5,a6,a7⟩:=Stage.core hc hs hB hB2 ha e0 he hn h htw q k hq hk
  obtain⟨w1,w2⟩:=hw q k hq hk m r1 r2 a1 a2 a3
  rw[w1,w2]
  exact⟨⟨z1,a4,a6⟩,⟨z2,a5,a7⟩⟩
 intro j hj
 have hm:=Nat.div_add_mod j (2^(s+1))
 have hr:=Nat.mod_lt j (show 0<2^(s+1) by omega)
 rw[Nat.mul_comm] at hm
 by_cases hk:j % 2^(s+1)<2^s
 ·have:=(core (j / 2^(s+1)) (j % 2^(s+1)) (by omega) hk).1
  rwa [hm] at this
 ·have:=(core (j / 2^(s+1)) (j % 2^(s+1) - 2^s) (by omega) (by omega)).2
  rwa [show j / 2^(s+1)*2^(s+1)+(j % 2^(s+1) - 2^s)+2^s=j by omega,show j % 2^(s+1) - 2^s+2^s=j % 2^(s+1) by omega] at this
end
section
namespace Cx
def ofR (x:Rat):Cx:=⟨x,0⟩
theorem sum_one (n:Nat):sum n (fun _=>one)=ofR (n:Rat):=by
 induction n with
 | zero=>rfl
 | succ n ih=>
  show (sum n fun _=>one).add one=_
  rw[ih];unfold ofR add one
  rw[nat_succ];congr 1;show (0:Rat)+0=0;grind
theorem sum_alt (h d:Nat) (f:Nat→Cx) (hf:∀ k,f (k+h)=(f k).neg):sum (2*h*d) f=zero:=by
 induction d with
 | zero=>rfl
 | succ d ih=>
  rw[Nat.mul_succ,sum_app,ih,zero_add,show 2*h=h+h by omega,sum_app,sum_add]
  rw[sum_congr (h:=fun _=>zero),sum_zero]
  intro i _
  show (f ((h+h)*d+i)).add (f ((h+h)*d+(h+i)))=zero
  rw[show (h+h)*d+(h+i)=((h+h)*d+i)+h by omega,hf,add_neg]
theorem two_odd (L r:Nat) (h:r % 2^L≠0):∃ v u,v<L∧r=2^v*(2*u+1):=by
 induction L generalizing r with
 | zero=>rw[Nat.pow_zero,Nat.mod_one] at h;exact absurd rfl h
 | succ L ih=>
  by_cases h2:r % 2=0
  ·obtain⟨v,u,hv,hr⟩:=ih (r / 2) (fun h0=>h (by
    obtain⟨d,hd⟩:=Nat.dvd_of_mod_eq_zero h0
    have:r=2^(L+1)*d:=by rw[Nat.pow_succ,Nat.mul_comm (2^L) 2,Nat.mul_assoc,← hd];omega
    rw[this];exact Nat.mul_mod_right _ _))
   refine⟨v+1,u,by omega,?_⟩
   rw[Nat.pow_succ,Nat.mul_comm (2^v) 2,Nat.mul_assoc,← hr];omega
  ·exact⟨0,r / 2,by omega,by rw[Nat.pow_zero];omega⟩
theorem roots {L:Nat} (hL:L≤11) (r:Nat):sum (2^L) (fun k=>z (k*2^(11 - L)*r))=if r % 2^L=0 then ofR ((2^L:Nat):Rat) else zero:=by
 split
 ·rename_i h
  rw[← sum_one]
  refine sum_congr fun k _=>?_
  obtain⟨d,hd⟩:=Nat.dvd_of_mod_eq_zero h
  have h1:2^(11 - L)*2^L=2048:=by rw[← Nat.pow_add,show 11 - L+L=11 by omega]
  have:k*2^(11 - L)*r=0+2048*(k*d):=by
   rw[hd,Nat.mul_assoc,← Nat.mul_assoc (2^(11 - L)),h1,Nat.mul_left_comm];omega
  rw[this,z_period,z_zero]
 ·rename_i h
  obtain⟨v,u,hv,hr⟩:=two_odd L r h
  have h1:2^L=2*2^(L - 1 - v)*2^v:=by rw[Nat.mul_assoc,← Nat.pow_add,show L - 1 - v+v=L - 1 by omega,Nat.mul_comm,← Nat.pow_succ];congr 1;omega
  rw[h1]
  refine sum_alt _ _ _ fun k=>?_
  have h2:(k+2^(L - 1 - v))*2^(11 - L)*r=k*2^(11 - L)*r+1024*(2*u+1):=by
   rw[Nat.add_mul,Nat.add_mul]
   congr 1
   have h3:2^(L - 1 - v)*2^(11 - L)*2^v=1024:=by rw[← Nat.pow_add,← Nat.pow_add,show L - 1 - v+(11 - L)+v=10 by omega]
   rw[hr,← Nat.mul_assoc,h3]
  rw[h2,turns_odd z_turns]
def conv (n:Nat) (x y:Nat→Cx) (m:Nat):Cx:=sum n fun i=>sum n fun j=>((x i).mul (y j)).mul (if (i+j) % n=m then ofR (n:Rat) else zero)
theorem conv_near {L:Nat} (hL:L≤11) {x y:Nat→Cx} {B:Rat} (hB:0≤B) (hx:∀ i,(x i).M B) (hy:∀ i,(y i).M B) {m:Nat} (hm:m<2^L) :
  ((dft zb L (fun k=>(dft z L x k).mul (dft z L y k)) m).sub (conv (2^L) x y m)).M ((2^L:Nat)*((2^L:Nat)*(B*B*((2^L:Nat)*(2*theta))))):=by
 have ht:(0:Rat)≤2*theta:=by decide +kernel
 obtain⟨q,hq⟩:∃ q,q=2^(11 - L):=⟨_,rfl⟩
 have hnq:2^L*q=2048:=by rw[hq,← Nat.pow_add,show L+(11 - L)=11 by omega]
 obtain⟨n,hn⟩:∃ n,n=2^L:=⟨_,rfl⟩
 have hD:dft zb L (fun k=>(dft z L x k).mul (dft z L y k)) m=sum n fun i=>sum n fun j=>((x i).mul (y j)).mul (sum n fun k=>((z (i*k*q)).mul (z (j*k*q))).mul (zb (k*m*q))):=by
  unfold dft
  rw[← hq,← hn]
  have e1:∀ k,((sum n fun t=>(x t).mul (z (t*k*q))).mul (sum n fun t=>(y t).mul (z (t*k*q)))).mul (zb (k*m*q))=sum n fun i=>sum n fun j=>((x i).mul (y j)).mul (((z (i*k*q)).mul (z (j*k*q))).mul (zb (k*m*q))):=by
   intro k
   rw[sum_mul',sum_mul']
   refine sum_congr fun i _=>?_
   rw[sum_mul,sum_mul']
   refine sum_congr fun j _=>?_
   unfold mul;congr 1<;>grind
  rw[sum_congr fun k _=>e1 k,sum_swap]
  refine sum_congr fun i _=>?_
  rw[sum_swap]
  refine sum_congr fun j _=>?_
  rw[sum_mul]
 rw[hD]
 unfold conv
 rw[← hn,sum_sub]
 have hn0:(0:Rat)≤(n:Rat):=Rat.natCast_nonneg
 have hBB:=Rat.mul_nonneg hB hB
 have hin:0≤B*B*((n:Rat)*(2*theta)):=Rat.mul_nonneg hBB (Rat.mul_nonneg hn0 ht)
 refine sum_M (Rat.mul_nonneg hn0 hin) fun i _=>?_
 rw[sum_sub]
 refine sum_M hin fun j _=>?_
 have e2:∀ a b c:Cx,(a.mul b).sub (a.mul c)=a.mul (b.sub c):=by intro a b c;unfold mul sub;congr 1<;>grind
 rw[e2]
 refine((hx i).mul (hy j)).mul ?_
 have hT:(if (i+j) % n=m then ofR (n:Rat) else zero)=sum n fun k=>z (k*q*(i+j+2047*m)):=by
  have hr:=roots hL (i+j+2047*m)
  rw[← hq,← hn] at hr
  rw[hr]
  have hiff:(i+j) % n=m↔(i+j+2047*m) % n=0:=by
   rw[← hn] at hm hnq
   constructor
   ·intro h
    have h1:=Nat.div_add_mod (i+j) n
    rw[h] at h1
    rw[show i+j+2047*m=n*((i+j) / n)+n*q*m by rw[hnq];omega,Nat.mul_assoc,← Nat.mul_add]
    exact Nat.mul_mod_right _ _
   ·intro h
    obtain⟨d,hd⟩:=Nat.dvd_of_mod_eq_zero h
    have h1:(i+j)+n*(q*m)=m+n*d:=by rw[← Nat.mul_assoc,hnq];omega
    have h2:=congrArg (· % n) h1
    simp only [Nat.add_mul_mod_self_left] at h2
    rw[h2,Nat.mod_eq_of_lt hm]
  by_cases h:(i+j) % n=m
  ·rw[if_pos h,if_pos (hiff.1 h)]
  ·rw[if_neg h,if_neg (fun hc=>h (hiff.2 hc))]
 rw[hT,sum_sub]
 refine sum_M ht fun k _=>?_
 have h1:=(z_near (i*k*q) (j*k*q)).mul (zb_turns.2.2 (k*m*q))
 have h2:=z_near (i*k*q+j*k*q) (2047*(k*m*q))
 have e3:i*k*q+j*k*q+2047*(k*m*q)=k*q*(i+j+2047*m):=by
  rw[Nat.mul_add,Nat.mul_add]
  have a1:i*k*q=k*q*i:=by rw[Nat.mul_assoc,Nat.mul_comm]
  have a2:j*k*q=k*q*j:=by rw[Nat.mul_assoc,Nat.mul_comm]
  have a3:2047*(k*m*q)=k*q*(2047*m):=by rw[Nat.mul_right_comm k m q,Nat.mul_left_comm]
  rw[a1,a2,a3]
 rw[e3] at h2
 have h3:=h1.add h2
 have e4:((((z (i*k*q)).mul (z (j*k*q))).sub (z (i*k*q+j*k*q))).mul (zb (k*m*q))).add (((z (i*k*q+j*k*q)).mul (z (2047*(k*m*q)))).sub (z (k*q*(i+j+2047*m))))=(((z (i*k*q)).mul (z (j*k*q))).mul (zb (k*m*q))).sub (z (k*q*(i+j+2047*m))):=by
  unfold zb mul sub add;congr 1<;>grind
 rw[e4] at h3
 exact h3.mono (by grind)
end Cx
end
section
open Ieee
def sl {α:Type} (x:Nat) (f:Nat→α):α:=Nat.rec (f 0) (fun k _=>f (Nat.succ k)) x
theorem sl_eq {α:Type} (x:Nat) (f:Nat→α):sl x f=f x:=by cases x<;>rfl
def wordF (neg:Bool) (x:Nat):Nat:=bif Nat.ble x 9218868437227405312 then (bif neg then Nat.add 9223372036854775808 x else x) else double.word neg (min x double.infRung)
theorem wordF_eq (neg:Bool) (x:Nat):wordF neg x=double.word neg (min x double.infRung):=by
 unfold wordF
 cases h:Nat.ble x 9218868437227405312 with
 | false=>rfl
 | true=>
  have:=Nat.le_of_ble_eq_true h
  rw[dbl_inf,Nat.min_eq_left this]
  cases neg<;>rfl
def roundF (neg:Bool) (m L e:Nat):Nat:=
 bif Nat.ble L 52 then wordF neg (Nat.add (Nat.mul e 4503599627370496) (Nat.mul m (Nat.pow 2 (Nat.sub 52 L)))) else
 sl (Nat.pow 2 (Nat.sub L 52)) fun g=>sl (Nat.div m g) fun lo=>sl (Nat.mul 2 (Nat.mod m g)) fun r2=>
 wordF neg (Nat.add (Nat.mul e 4503599627370496) (Nat.add lo (bif Nat.ble r2 g then (bif Nat.beq r2 g then Nat.mod lo 2 else 0) else 1)))
def nearF (neg:Bool) (m E off:Nat):Nat:=
 bif Nat.beq m 0 then double.word neg 0 else
 sl (Nat.log2 m) fun L=>bif Nat.ble off (Nat.add (Nat.add E L) 1022) then sl (Nat.sub (Nat.add (Nat.add E L) 1022) off) fun e=>roundF neg m L e
 else double.nearest neg m ((E:Int) - (off:Int))
theorem cut_zero (s:Bool) (n:Nat):Toward.even.cut s n 0=n:=by
 have:=cut_near s n 0
 rw[Nat.pow_zero,Nat.mul_one] at this;omega
theorem nearF_eq (neg:Bool) (m E off:Nat):nearF neg m E off=double.nearest neg m ((E:Int) - (off:Int)):=by
 unfold nearF
 by_cases hm:m=0
 ·subst hm;rfl
 have hb:Nat.beq m 0=false:=by cases m with
  | zero=>exact absurd rfl hm
  | succ k=>rfl
 rw[hb,cond_false,sl_eq]
 cases h:Nat.ble off (Nat.add (Nat.add E m.log2) 1022) with
 | false=>rfl
 | true=>
  have h:=Nat.le_of_ble_eq_true h
  have h:off≤E+m.log2+1022:=h
  rw[cond_true,sl_eq]
  obtain⟨e,he⟩:∃ e,e=Nat.sub (Nat.add (Nat.add E m.log2) 1022) off:=⟨_,rfl⟩
  have he':(e:Int)=E+m.log2+1022 - off:=by
   have:e=(E+m.log2+1022) - off:=he
   omega
  rw[← he]
  unfold Format.nearest
  rw[if_neg hm,show (double.fractionBits:Int)=52 from rfl,dbl_least]
  rw[show max ((E:Int) - off+(m.log2:Int) - 52) (-1074)=(e:Int) - 1074 by omega]
  dsimp only
  rw[show ((e:Int) - 1074 - -1074).toNat=e by omega]
  unfold roundF
  cases hL:Nat.ble m.log2 52 with
  | true=>
   have hL:=Nat.le_of_ble_eq_true hL
   rw[cond_true,show ((E:Int) - off - ((e:Int) - 1074)).toNat=52 - m.log2 by omega,show ((e:Int) - 1074 - ((E:Int) - off)).toNat=0 by omega,cut_zero,wordF_eq,Nat.shiftLeft_eq]
   rfl
  | false=>
   have hL:52<m.log2:=by
    refine Classical.byContradiction fun hc=>?_
    rw[Nat.ble_eq_true_of_le (by omega)] at hL;cases hL
   rw[cond_false,show ((E:Int) - off - ((e:Int) - 1074)).toNat=0 by omega,show ((e:Int) - 1074 - ((E:Int) - off)).toNat=m.log2 - 52 by omega,Nat.shiftLeft_zero,sl_eq,sl_eq,sl_eq,wordF_eq]
   congr 2
   refine congrArg (fun x=>e*double.binade+x) ?_
   unfold Toward.cut
   rw[Nat.min_eq_left (by omega),Nat.one_shiftLeft]
   dsimp only
   show Nat.add _ _=_
   have hg:Nat.pow 2 (Nat.sub m.log2 52)=2^(m.log2 - 52):=rfl
   rw[hg]
   generalize 2^(m.log2 - 52)=g
   show m / g+_=_
   congr 1
   show (bif Nat.ble (2*(m % g)) g then (bif Nat.beq (2*(m % g)) g then m / g % 2 else 0) else 1)=_
   cases h1:Nat.ble (2*(m % g)) g with
   | false=>
    have h1:g<2*(m % g):=by
     refine Classical.byContradiction fun hc=>?_
     rw[Nat.ble_eq_true_of_le (by omega)] at h1;cases h1
    rw[decide_eq_true h1];rfl
   | true=>
    have h1:=Nat.le_of_ble_eq_true h1
    rw[decide_eq_false (by omega)]
    cases h2:Nat.beq (2*(m % g)) g with
    | true=>
     have h2:=Nat.eq_of_beq_eq_true h2
     rw[show (g==2*(m % g))=true from beq_iff_eq.2 h2.symm]
     show m / g % 2=(m / g % 2==1).toNat
     rcases Nat.mod_two_eq_zero_or_one (m / g) with h3 | h3<;>rw[h3]<;>rfl
    | false=>
     have h2:g≠2*(m % g):=fun hc=>by
      rw[← hc] at h2
      rw[show Nat.beq g g=true from Nat.beq_refl g] at h2;cases h2
     rw[show (g==2*(m % g))=false from beq_eq_false_iff_ne.2 h2];rfl
def negF (w:Nat):Bool:=Nat.ble 1 (Nat.mod (Nat.div w 9223372036854775808) 2)
def mantF (r:Nat):Nat:=bif Nat.ble 4503599627370496 r then Nat.add 4503599627370496 (Nat.mod r 4503599627370496) else r
def expF (r:Nat):Nat:=bif Nat.ble 4503599627370496 r then Nat.div r 4503599627370496 else 1
theorem read_F {w r:Nat} (hr:r=w % 9223372036854775808) (h:r<9218868437227405312):double.read w=.number (negF w) (mantF r) ((expF r:Int) - 1075):=by
 unfold Format.read
 rw[dbl_sign,dbl_binade,dbl_inf,dbl_least,← hr]
 have h1:(w / 9223372036854775808 % 2==1)=negF w:=by
  unfold negF
  show _=Nat.ble 1 (w / 9223372036854775808 % 2)
  rcases Nat.mod_two_eq_zero_or_one (w / 9223372036854775808) with h3 | h3<;>rw[h3]<;>rfl
 rw[h1]
 unfold mantF expF
 dsimp only
 cases h2:Nat.ble 4503599627370496 r with
 | true=>
  have h2:=Nat.le_of_ble_eq_true h2
  rw[if_neg (by omega),if_pos h,cond_true,cond_true]
  show Datum.number _ _ _=.number _ (4503599627370496+r % 4503599627370496) (((r / 4503599627370496:Nat):Int) - 1075)
  congr 1;omega
 | false=>
  have h2:r<4503599627370496:=by
   refine Classical.byContradiction fun hc=>?_
   rw[Nat.ble_eq_true_of_le (by omega)] at h2;cases h2
  rw[if_pos h2,cond_false,cond_false];rfl
def finB (r:Nat):Bool:=Nat.ble r 9218868437227405311
theorem finB_lt {r:Nat} (h:finB r=true):r<9218868437227405312:=by
 have:=Nat.le_of_ble_eq_true h;omega
def mulF (a b:Nat):Option Nat:=
 sl a fun a=>sl b fun b=>sl (Nat.mod a 9223372036854775808) fun ra=>sl (Nat.mod b 9223372036854775808) fun rb=>
 bif finB ra && finB rb then some (nearF (negF a ^^ negF b) (Nat.mul (mantF ra) (mantF rb)) (Nat.add (expF ra) (expF rb)) 2150) else double.mul a b
theorem mulF_eq (a b:Nat):mulF a b=double.mul a b:=by
 unfold mulF
 rw[sl_eq,sl_eq,sl_eq,sl_eq]
 cases h1:finB (Nat.mod a 9223372036854775808) with
 | false=>rfl
 | true=>
  cases h2:finB (Nat.mod b 9223372036854775808) with
  | false=>rfl
  | true=>
   unfold Format.mul
   rw[read_F (w:=a) rfl (finB_lt h1),read_F (w:=b) rfl (finB_lt h2)]
   show some _=some (double.nearest _ _ _)
   rw[nearF_eq]
   congr 2
   show ((expF (Nat.mod a 9223372036854775808)+expF (Nat.mod b 9223372036854775808):Nat):Int) - ((2150:Nat):Int)=(expF (Nat.mod a 9223372036854775808):Int) - 1075+((expF (Nat.mod b 9223372036854775808):Int) - 1075)
   omega
def sumF (s t:Bool) (A B E:Nat):Nat:=
 bif s ^^ t then (bif Nat.ble B A then (bif Nat.ble A B then double.word false 0 else nearF s (Nat.sub A B) E 1075) else nearF t (Nat.sub B A) E 1075) else nearF s (Nat.add A B) E 1075
theorem sumF_eq (s t:Bool) (m n i j E:Nat) (hE:E=min i j):some (sumF s t (m*2^(i - E)) (n*2^(j - E)) E)=((Datum.number s m ((i:Int) - 1075)).sum (.number t n ((j:Int) - 1075))).map double.write:=by
 have hmin:min ((i:Int) - 1075) ((j:Int) - 1075)=(E:Int) - 1075:=by omega
 unfold Datum.sum
 dsimp only
 rw[hmin,show ((i:Int) - 1075 - ((E:Int) - 1075)).toNat=i - E by omega,show ((j:Int) - 1075 - ((E:Int) - 1075)).toNat=j - E by omega]
 unfold signed
 rw[Nat.shiftLeft_eq,Nat.shiftLeft_eq]
 generalize m*2^(i - E)=A
 generalize n*2^(j - E)=B
 show some _=some (double.nearest _ _ _)
 congr 1
 unfold sumF
 have hw:∀ neg,double.word neg 0=double.nearest neg 0 ((E:Int) - 1075):=fun neg=>rfl
 cases s<;>cases t
 ·rw[show (false ^^ false)=false from rfl,cond_false,nearF_eq]
  simp only [Bool.false_eq_true,if_false]
  by_cases h0:(A:Int)+B=0
  ·rw[if_pos h0]
   show double.nearest false (A+B) _=double.nearest false _ _
   rw[show ((A:Int)+B).natAbs=A+B by omega];rfl
  ·rw[if_neg h0,decide_eq_false (by omega)]
   show double.nearest false (A+B) _=double.nearest false _ _
   rw[show ((A:Int)+B).natAbs=A+B by omega];rfl
 ·rw[show (false ^^ true)=true from rfl,cond_true]
  simp only [Bool.false_eq_true,if_false,if_true]
  cases h1:Nat.ble B A with
  | true=>
   have h1:=Nat.le_of_ble_eq_true h1
   rw[cond_true]
   cases h2:Nat.ble A B with
   | true=>
    have h2:=Nat.le_of_ble_eq_true h2
    rw[cond_true,if_pos (by omega),show ((A:Int)+-B).natAbs=0 by omega,hw];rfl
   | false=>
    have h2:¬ A≤B:=fun hc=>by rw[Nat.ble_eq_true_of_le hc] at h2;cases h2
    rw[cond_false,nearF_eq,if_neg (by omega),decide_eq_false (by omega),show ((A:Int)+-B).natAbs=Nat.sub A B by show _=A - B;omega];rfl
  | false=>
   have h1:¬ B≤A:=fun hc=>by rw[Nat.ble_eq_true_of_le hc] at h1;cases h1
   rw[cond_false,nearF_eq,if_neg (by omega),decide_eq_true (by omega),show ((A:Int)+-B).natAbs=Nat.sub B A by show _=B - A;omega];rfl
 ·rw[show (true ^^ false)=true from rfl,cond_true]
  simp only [Bool.false_eq_true,if_false,if_true]
  cases h1:Nat.ble B A with
  | true=>
   have h1:=Nat.le_of_ble_eq_true h1
   rw[cond_true]
   cases h2:Nat.ble A B with
   | true=>
    have h2:=Nat.le_of_ble_eq_true h2
    rw[cond_true,if_pos (by omega),show (-(A:Int)+B).natAbs=0 by omega,hw];rfl
   | false=>
    have h2:¬ A≤B:=fun hc=>by rw[Nat.ble_eq_true_of_le hc] at h2;cases h2
    rw[cond_false,nearF_eq,if_neg (by omega),decide_eq_true (by omega),show (-(A:Int)+B).natAbs=Nat.sub A B by show _=A - B;omega];rfl
  | false=>
   have h1:¬ B≤A:=fun hc=>by rw[Nat.ble_eq_true_of_le hc] at h1;cases h1
   rw[cond_false,nearF_eq,if_neg (by omega),decide_eq_false (by omega),show (-(A:Int)+B).natAbs=Nat.sub B A by show _=B - A;omega];rfl
 ·rw[show (true ^^ true)=false from rfl,cond_false,nearF_eq]
  simp only [if_true]
  by_cases h0:-(A:Int)+-B=0
  ·rw[if_pos h0]
   show double.nearest true (A+B) _=double.nearest true _ _
   rw[show (-(A:Int)+-B).natAbs=A+B by omega];rfl
  ·rw[if_neg h0,decide_eq_true (by omega)]
   show double.nearest true (A+B) _=double.nearest true _ _
   rw[show (-(A:Int)+-B).natAbs=A+B by omega];rfl
def minF (i j:Nat):Nat:=bif Nat.ble i j then i else j
theorem minF_eq (i j:Nat):minF i j=min i j:=by
 unfold minF
 cases h:Nat.ble i j with
 | true=>have:=Nat.le_of_ble_eq_true h;rw[cond_true,Nat.min_eq_left this]
 | false=>
  have:¬ i≤j:=fun hc=>by rw[Nat.ble_eq_true_of_le hc] at h;cases h
  rw[cond_false,Nat.min_eq_right (by omega)]
def asF (flip:Bool) (a b:Nat) (d:Option Nat):Option Nat:=
 sl a fun a=>sl b fun b=>sl (Nat.mod a 9223372036854775808) fun ra=>sl (Nat.mod b 9223372036854775808) fun rb=>
 bif finB ra && finB rb then sl (expF ra) fun i=>sl (expF rb) fun j=>sl (minF i j) fun E=>sl (Nat.mul (mantF ra) (Nat.pow 2 (Nat.sub i E))) fun A=>sl (Nat.mul (mantF rb) (Nat.pow 2 (Nat.sub j E))) fun B=>some (sumF (negF a) (flip ^^ negF b) A B E) else d
def addF (a b:Nat):Option Nat:=asF false a b (double.add a b)
def subF (a b:Nat):Option Nat:=asF true a b (double.sub a b)
theorem addF_eq (a b:Nat):addF a b=double.add a b:=by
 unfold addF asF
 rw[sl_eq,sl_eq,sl_eq,sl_eq]
 cases h1:finB (Nat.mod a 9223372036854775808) with
 | false=>rfl
 | true=>
  cases h2:finB (Nat.mod b 9223372036854775808) with
  | false=>rfl
  | true=>
   rw[show (true && true)=true from rfl,cond_true,sl_eq,sl_eq,sl_eq,sl_eq,sl_eq]
   unfold Format.add
   rw[read_F (w:=a) rfl (finB_lt h1),read_F (w:=b) rfl (finB_lt h2),Bool.false_xor]
   exact sumF_eq _ _ _ _ _ _ _ (minF_eq _ _)
theorem subF_eq (a b:Nat):subF a b=double.sub a b:=by
 unfold subF asF
 rw[sl_eq,sl_eq,sl_eq,sl_eq]
 cases h1:finB (Nat.mod a 9223372036854775808) with
 | false=>rfl
 | true=>
  cases h2:finB (Nat.mod b 9223372036854775808) with
  | false=>rfl
  | true=>
   rw[show (true && true)=true from rfl,cond_true,sl_eq,sl_eq,sl_eq,sl_eq,sl_eq]
   unfold Format.sub
   rw[read_F (w:=a) rfl (finB_lt h1),read_F (w:=b) rfl (finB_lt h2),Bool.true_xor]
   exact sumF_eq _ _ _ _ _ _ _ (minF_eq _ _)
end
section
open Ieee
def fIs (o:Ordering) (x y:Nat):Bool:=double.order x y==some o
def fNat (n:Nat):Nat:=double.write (.number false n 0)
def fNeg (x:Nat):Nat:=x ^^^ 2^63
structure Ops where
 mul:Nat→Nat→Option Nat
 add:Nat→Nat→Option Nat
 sub:Nat→Nat→Option Nat
def dbl:Ops:=⟨double.mul,double.add,double.sub⟩
def fastO:Ops:=⟨mulF,addF,subF⟩
theorem fast_eq:fastO=dbl:=by
 unfold fastO dbl
 rw[show mulF=double.mul from funext fun a=>funext fun b=>mulF_eq a b,show addF=double.add from funext fun a=>funext fun b=>addF_eq a b,show subF=double.sub from funext fun a=>funext fun b=>subF_eq a b]
def poly (o:Ops) (c:List Nat) (zz:Nat):Option Nat:=match c with
 | [c0,c1,c2,c3,c4,c5]=>
  (o.mul c0 zz).bind fun a=>(o.add a c1).bind fun a=>(o.mul a zz).bind fun a=>(o.add a c2).bind fun a=>(o.mul a zz).bind fun a=>(o.add a c3).bind fun a=>
  (o.mul a zz).bind fun a=>(o.add a c4).bind fun a=>(o.mul a zz).bind fun a=>o.add a c5
 | _=>none
def sinT:List Nat:=[4460209587652500685,13716528389658582877,4523617212962785441,13774824197404483331,4575957461383575504,13818544856648471880]
def cosT:List Nat:=[13666448263388469915,4477121864728985349,13732177093698800582,4537941361668146421,13787419979223748497,4586165620538955083]
def restO (o:Ops) (x y:Nat):Option Nat:=
 (o.mul y 4605249456957292544).bind fun a=>(o.sub x a).bind fun b=>(o.mul y 4495793288086814720).bind fun c=>(o.sub b c).bind fun d=>(o.mul y 4388835458085048688).bind fun e=>o.sub d e
def partsO (o:Ops) (w:Nat):Option (Nat × Nat):=
 (o.mul w w).bind fun zz=>
 (o.mul 4602678819172646912 zz).bind fun h=>(o.sub 4607182418800017408 h).bind fun c1=>(o.mul zz zz).bind fun z4=>(poly o cosT zz).bind fun pc=>(o.mul z4 pc).bind fun c2=>(o.add c1 c2).bind fun co=>
 (o.mul w zz).bind fun w3=>(poly o sinT zz).bind fun ps=>(o.mul w3 ps).bind fun s2=>(o.add w s2).bind fun si=>some (si,co)
def octO (o:Ops) (j0:Nat):Option (Nat × Nat):=if j0 % 2=1 then (o.add (fNat j0) 4607182418800017408).map fun y=>((j0+1) % 8,y) else some (j0 % 8,fNat j0)
def signO (j:Nat) (sg:Bool) (p:Nat × Nat):Nat × Nat:=
 let ss:=if j > 3 then !sg else sg
 let j':=if j > 3 then j - 4 else j
 let cs:=(decide (j > 3)) ^^ (decide (j' > 1))
 let q:=if j'=1∨j'=2 then (p.2,p.1) else p
 (if ss then fNeg q.1 else q.1,if cs then fNeg q.2 else q.2)
def sincosO (o:Ops) (x0:Nat):Option (Nat × Nat):=
 if fIs .eq x0 0 then some (x0,4607182418800017408) else
 if fIs .eq x0 x0 && !fIs .gt (x0 % 9223372036854775808) 9218868437227405311 then
  let sg:=fIs .lt x0 0
  let x:=if sg then fNeg x0 else x0
  if fIs .gt x 4737786807993761792 || fIs .eq x 4737786807993761792 then none else
  (o.mul x 4608412980311869571).bind fun p=>
  match (double.read p).toInt .zero with
  | some n=>if 0≤n∧n≤8 then (octO o n.toNat).bind fun q=>(restO o x q.2).bind fun w=>(partsO o w).map (signO q.1 sg) else none
  | none=>none
 else none
def angleO (o:Ops) (sign k size:Nat):Option Nat:=(o.mul sign 4611686018427387904).bind fun a=>(o.mul a 4614256656552045848).bind fun b=>(o.mul b (fNat k)).bind fun c=>double.div c (fNat size)
def twO (o:Ops) (sign k size:Nat):Option (Nat × Nat):=(angleO o sign k size).bind fun a=>(sincosO o a).map fun p=>(p.2,p.1)
def nearL (w:Nat) (P:Int):Bool:=match double.read w with
 | .number s m p=>decide (p≤0) &&
  (let D:Int:=((1267650600228229401496703205376*2^(-p).toNat:Nat):Int)
   let d:Int:=((if s then -(m:Int) else m)*1267650600228229401496703205376 - P*((2^(-p).toNat:Nat):Int))*2251799813685248
   decide (-D≤d) && decide (d≤D))
 | _=>false
def rowL (o:Ops) (k:Nat) (P Q:Int):Bool:=match twO o 4607182418800017408 k 2048,twO o 13830554455654793216 (1024 - k) 2048 with
 | some a,some b=>nearL a.1 P && nearL a.2 Q && nearL b.1 (-P) && nearL b.2 (-Q)
 | _,_=>false
def angB (sign size m:Nat):Nat→Nat→Bool
 | 0,_=>true
 | f+1,k=>(match angleO fastO sign k size,angleO fastO sign (m*k) 2048 with | some a,some b=>Nat.beq a b | _,_=>false) && angB sign size m f (k+1)
def slI {α:Type} (x:Int) (f:Int→α):α:=match x with
 | .ofNat n=>sl n fun n=>f (.ofNat n)
 | .negSucc n=>sl n fun n=>f (.negSucc n)
theorem slI_eq {α:Type} (x:Int) (f:Int→α):slI x f=f x:=by
 cases x with
 | ofNat n=>exact sl_eq n fun n=>f (.ofNat n)
 | negSucc n=>exact sl_eq n fun n=>f (.negSucc n)
def nx (P Q:Int):Int × Int:=((P*1267644634423113846968036898775 - Q*3889097232048075534265022357+633825300114114700748351602688) / 1267650600228229401496703205376,(P*3889097232048075534265022357+Q*1267644634423113846968036898775+633825300114114700748351602688) / 1267650600228229401496703205376)
def it (n:Nat):Int→Int→Int × Int:=match n with
 | 0=>fun P Q=>(P,Q)
 | n+1=>fun P Q=>it n (nx P Q).1 (nx P Q).2
def goA {α:Type} (f:Int→Int→α) (n:Nat):Int→Int→α:=Nat.rec f (fun _ ih P Q=>slI (nx P Q).1 fun P'=>slI (nx P Q).2 fun Q'=>ih P' Q') n
theorem goA_eq {α:Type} (f:Int→Int→α) (n:Nat):∀ P Q,goA f n P Q=f (it n P Q).1 (it n P Q).2:=by
 induction n with
 | zero=>intro P Q;rfl
 | succ n ih=>
  intro P Q
  show slI (nx P Q).1 (fun P'=>slI (nx P Q).2 fun Q'=>goA f n P' Q')=_
  rw[slI_eq,slI_eq,ih]
  rfl
def W (k0:Nat) (s:Int × Int) (j:Nat):Bool:=goA (rowL fastO (k0+j)) j s.1 s.2
def Rws (f:Nat→Bool) (k:Nat) (n:Nat):Type:=match n with
 | 0=>PUnit
 | n+1=>PProd (f k=true) (Rws f (k+1) n)
theorem Rws.all {f:Nat→Bool}:∀ {n k:Nat},Rws f k n→∀ i,i<n→f (k+i)=true
 | 0,_,_,i,hi=>by omega
 | n+1,k,r,i,hi=>by
  cases i with
  | zero=>exact r.1
  | succ i=>have:=Rws.all r.2 i (by omega);rwa [show k+1+i=k+(i+1) by omega] at this
theorem okR {a:Bool} (h:a=true):a=true:=h
end
end Go.Proofs.YtbiigbicgfchiaaGreatDoor.Ie
set_option maxRecDepth 100000
namespace Go.Proofs.YtbiigbicgfchiaaGreatDoor.Ie.Tw
section
def s0:Int × Int:=(1267650600228229401496703205376,0)
def w0:Rws (W 0 s0) 0 64:=by
 iterate 64 refine⟨okR (by kernel_rfl),?_⟩
 exact⟨⟩
def s1:Int × Int:=(1243293049398167358316279903722,247306363802463555846379077651)
def w1:Rws (W 64 s1) 0 64:=by
 iterate 64 refine⟨okR (by kernel_rfl),?_⟩
 exact⟨⟩
theorem e1:goA Prod.mk 64 s0.1 s0.2=s1:=by kernel_rfl
def s2:Int × Int:=(1171156443926508635938050024125,485108882735005078916833875150)
def w2:Rws (W 128 s2) 0 64:=by
 iterate 64 refine⟨okR (by kernel_rfl),?_⟩
 exact⟨⟩
theorem e2:goA Prod.mk 64 s1.1 s1.2=s2:=by kernel_rfl
def s3:Int × Int:=(1054012953106854663288574085890,704268939356236033728032079398)
def w3:Rws (W 192 s3) 0 64:=by
 iterate 64 refine⟨okR (by kernel_rfl),?_⟩
 exact⟨⟩
theorem e3:goA Prod.mk 64 s2.1 s2.2=s3:=by kernel_rfl
def s4:Int × Int:=(896364335596578238699711011546,896364335596578238699711011396)
def w4:Rws (W 256 s4) 0 64:=by
 iterate 64 refine⟨okR (by kernel_rfl),?_⟩
 exact⟨⟩
theorem e4:goA Prod.mk 64 s3.1 s3.2=s4:=by kernel_rfl
def s5:Int × Int:=(704268939356236033728032079511,1054012953106854663288574085678)
def w5:Rws (W 320 s5) 0 64:=by
 iterate 64 refine⟨okR (by kernel_rfl),?_⟩
 exact⟨⟩
theorem e5:goA Prod.mk 64 s4.1 s4.2=s5:=by kernel_rfl
def s6:Int × Int:=(485108882735005078916833875256,1171156443926508635938050023831)
def w6:Rws (W 384 s6) 0 64:=by
 iterate 64 refine⟨okR (by kernel_rfl),?_⟩
 exact⟨⟩
theorem e6:goA Prod.mk 64 s5.1 s5.2=s6:=by kernel_rfl
def s7:Int × Int:=(247306363802463555846379077793,1243293049398167358316279903335)
def w7:Rws (W 448 s7) 0 64:=by
 iterate 64 refine⟨okR (by kernel_rfl),?_⟩
 exact⟨⟩
theorem e7:goA Prod.mk 64 s6.1 s6.2=s7:=by kernel_rfl
def s8:Int × Int:=(214,1267650600228229401496703204908)
def w8:Rws (W 512 s8) 0 64:=by
 iterate 64 refine⟨okR (by kernel_rfl),?_⟩
 exact⟨⟩
theorem e8:goA Prod.mk 64 s7.1 s7.2=s8:=by kernel_rfl
def s9:Int × Int:=(-247306363802463555846379077349,1243293049398167358316279903309)
def w9:Rws (W 576 s9) 0 64:=by
 iterate 64 refine⟨okR (by kernel_rfl),?_⟩
 exact⟨⟩
theorem e9:goA Prod.mk 64 s8.1 s8.2=s9:=by kernel_rfl
def s10:Int × Int:=(-485108882735005078916833874776,1171156443926508635938050023781)
def w10:Rws (W 640 s10) 0 64:=by
 iterate 64 refine⟨okR (by kernel_rfl),?_⟩
 exact⟨⟩
theorem e10:goA Prod.mk 64 s9.1 s9.2=s10:=by kernel_rfl
def s11:Int × Int:=(-704268939356236033728032078966,1054012953106854663288574085622)
def w11:Rws (W 704 s11) 0 64:=by
 iterate 64 refine⟨okR (by kernel_rfl),?_⟩
 exact⟨⟩
theorem e11:goA Prod.mk 64 s10.1 s10.2=s11:=by kernel_rfl
def s12:Int × Int:=(-896364335596578238699711010920,896364335596578238699711011367)
def w12:Rws (W 768 s12) 0 64:=by
 iterate 64 refine⟨okR (by kernel_rfl),?_⟩
 exact⟨⟩
theorem e12:goA Prod.mk 64 s11.1 s11.2=s12:=by kernel_rfl
def s13:Int × Int:=(-1054012953106854663288574085175,704268939356236033728032079426)
def w13:Rws (W 832 s13) 0 64:=by
 iterate 64 refine⟨okR (by kernel_rfl),?_⟩
 exact⟨⟩
theorem e13:goA Prod.mk 64 s12.1 s12.2=s13:=by kernel_rfl
def s14:Int × Int:=(-1171156443926508635938050023320,485108882735005078916833875274)
def w14:Rws (W 896 s14) 0 64:=by
 iterate 64 refine⟨okR (by kernel_rfl),?_⟩
 exact⟨⟩
theorem e14:goA Prod.mk 64 s13.1 s13.2=s14:=by kernel_rfl
def s15:Int × Int:=(-1243293049398167358316279902837,247306363802463555846379077906)
def w15:Rws (W 960 s15) 0 64:=by
 iterate 64 refine⟨okR (by kernel_rfl),?_⟩
 exact⟨⟩
theorem e15:goA Prod.mk 64 s14.1 s14.2=s15:=by kernel_rfl
end
section
open Ieee
def tc (P Q:Int):Cx:=⟨(P:Rat) / 1267650600228229401496703205376,(Q:Rat) / 1267650600228229401496703205376⟩
def st:Rat:=1 / 316912650057057350374175801344
theorem st_nums:(0:Rat)≤st∧1024*st≤1 / 309485009821345068724781056:=by decide +kernel
def MP (k:Nat) (P Q:Int):Prop:=((Cx.zp k).sub (tc P Q)).M (k*st)
theorem step_M {k:Nat} {P Q P' Q':Int} (h:MP k P Q)
  (a1:-1267650600228229401496703205376≤P'*1267650600228229401496703205376 - (P*1267644634423113846968036898775 - Q*3889097232048075534265022357)) (a2:P'*1267650600228229401496703205376 - (P*1267644634423113846968036898775 - Q*3889097232048075534265022357)≤1267650600228229401496703205376)
  (b1:-1267650600228229401496703205376≤Q'*1267650600228229401496703205376 - (P*3889097232048075534265022357+Q*1267644634423113846968036898775)) (b2:Q'*1267650600228229401496703205376 - (P*3889097232048075534265022357+Q*1267644634423113846968036898775)≤1267650600228229401496703205376):MP (k+1) P' Q':=by
 have c1:=Rat.intCast_le_intCast.2 a1
 have c2:=Rat.intCast_le_intCast.2 a2
 have d1:=Rat.intCast_le_intCast.2 b1
 have d2:=Rat.intCast_le_intCast.2 b2
 simp only [Rat.intCast_sub,Rat.intCast_mul,Rat.intCast_add,Rat.intCast_neg] at c1 c2 d1 d2
 have n1:((1267650600228229401496703205376:Int):Rat)=1267650600228229401496703205376:=rfl
 have n2:((1267644634423113846968036898775:Int):Rat)=1267644634423113846968036898775:=rfl
 have n3:((3889097232048075534265022357:Int):Rat)=3889097232048075534265022357:=rfl
 rw[n1,n2,n3] at c1 c2 d1 d2
 unfold MP at h ⊢
 have h1:=h.mul Cx.g_M
 have h2:(((tc P Q).mul Cx.g).sub (tc P' Q')).M (2*(1 / 1267650600228229401496703205376)):=by
  unfold tc Cx.mul Cx.sub Cx.g
  generalize (P:Rat)=p at *
  generalize (Q:Rat)=q at *
  generalize (P':Rat)=p' at *
  generalize (Q':Rat)=q' at *
  refine Cx.M.of ?_ ?_ ?_ ?_<;>dsimp only<;>grind
 have h3:=h1.add h2
 have e1:(((Cx.zp k).sub (tc P Q)).mul Cx.g).add (((tc P Q).mul Cx.g).sub (tc P' Q'))=(Cx.zp (k+1)).sub (tc P' Q'):=by
  show _=((Cx.zp k).mul Cx.g).sub (tc P' Q')
  unfold Cx.mul Cx.sub Cx.add;congr 1<;>grind
 rw[e1] at h3
 refine h3.mono ?_
 rw[Cx.nat_succ]
 have:st=1 / 316912650057057350374175801344:=rfl
 rw[this];grind
def G (k:Nat):Prop:=∃ P Q,rowL fastO k P Q=true∧MP k P Q
theorem div_b {A a:Int} (h:a=A / 1267650600228229401496703205376):0≤A - a*1267650600228229401496703205376∧A - a*1267650600228229401496703205376<1267650600228229401496703205376:=by
 have m:=Int.mul_ediv_add_emod A 1267650600228229401496703205376
 have n1:=Int.emod_nonneg A (b:=1267650600228229401496703205376) (by decide)
 have n2:=Int.emod_lt_of_pos A (b:=1267650600228229401496703205376) (by decide)
 rw[← h] at m
 generalize A % 1267650600228229401496703205376=r at *
 omega
theorem nx_M {k:Nat} {P Q:Int} (h:MP k P Q):MP (k+1) (nx P Q).1 (nx P Q).2:=by
 obtain⟨a,ha⟩:∃ a,a=(nx P Q).1:=⟨_,rfl⟩
 obtain⟨b,hb⟩:∃ b,b=(nx P Q).2:=⟨_,rfl⟩
 unfold nx at ha hb
 dsimp only at ha hb
 have h1:=div_b (A:=(P*1267644634423113846968036898775 - Q*3889097232048075534265022357+633825300114114700748351602688)) ha
 have h2:=div_b (A:=(P*3889097232048075534265022357+Q*1267644634423113846968036898775+633825300114114700748351602688)) hb
 rw[show (nx P Q).1=a from ha.symm,show (nx P Q).2=b from hb.symm]
 clear ha hb
 exact step_M h (by omega) (by omega) (by omega) (by omega)
set_option maxHeartbeats 40000
theorem MP.to {k j:Nat} {P Q:Int} (h:MP k P Q) (e:k=j):MP j P Q:=by subst e;exact h
theorem it_M (n:Nat):∀ {k:Nat} {P Q:Int},MP k P Q→MP (k+n) (it n P Q).1 (it n P Q).2:=by
 induction n with
 | zero=>intro k P Q h;exact h
 | succ n ih=>
  intro k P Q h
  exact MP.to (ih (nx_M h)) (by omega)
theorem blk {k:Nat} {s:Int × Int} (h:MP k s.1 s.2) (r:Rws (W k s) 0 64):∀ i,i<64→G (k+i):=fun i hi=>by
 have h1:=r.all i hi
 rw[Nat.zero_add] at h1
 unfold W at h1
 rw[goA_eq] at h1
 exact⟨_,_,h1,it_M i h⟩
theorem nxt {k:Nat} {s t:Int × Int} (h:MP k s.1 s.2) (e:goA Prod.mk 64 s.1 s.2=t):MP (k+64) t.1 t.2:=by
 rw[goA_eq] at e
 have h1:=it_M 64 h
 generalize it 64 s.1 s.2=x at *
 subst e
 exact h1
theorem m0:MP 0 1267650600228229401496703205376 0:=by
 unfold MP
 have:(Cx.zp 0).sub (tc 1267650600228229401496703205376 0)=Cx.zero:=by
  show Cx.one.sub _=_
  unfold Cx.one Cx.sub tc Cx.zero;congr 1<;>decide +kernel
 rw[this]
 exact Cx.M.zero (by show (0:Rat)≤0*st;grind)
theorem p0:MP 0 s0.1 s0.2:=m0
theorem p1:MP 64 s1.1 s1.2:=nxt p0 e1
theorem p2:MP 128 s2.1 s2.2:=nxt p1 e2
theorem p3:MP 192 s3.1 s3.2:=nxt p2 e3
theorem p4:MP 256 s4.1 s4.2:=nxt p3 e4
theorem p5:MP 320 s5.1 s5.2:=nxt p4 e5
theorem p6:MP 384 s6.1 s6.2:=nxt p5 e6
theorem p7:MP 448 s7.1 s7.2:=nxt p6 e7
theorem p8:MP 512 s8.1 s8.2:=nxt p7 e8
theorem p9:MP 576 s9.1 s9.2:=nxt p8 e9
theorem p10:MP 640 s10.1 s10.2:=nxt p9 e10
theorem p11:MP 704 s11.1 s11.2:=nxt p10 e11
theorem p12:MP 768 s12.1 s12.2:=nxt p11 e12
theorem p13:MP 832 s13.1 s13.2:=nxt p12 e13
theorem p14:MP 896 s14.1 s14.2:=nxt p13 e14
theorem p15:MP 960 s15.1 s15.2:=nxt p14 e15
theorem g_all {k:Nat} (h:k<1024):G k:=by
 have hk:k=64*(k / 64)+k % 64:=by omega
 have hm:k % 64<64:=by omega
 have hd:k / 64<16:=by omega
 generalize k % 64=i at *
 generalize k / 64=b at *
 subst hk
 match b,hd with
 | 0,_=>exact blk p0 w0 i hm
 | 1,_=>exact blk p1 w1 i hm
 | 2,_=>exact blk p2 w2 i hm
 | 3,_=>exact blk p3 w3 i hm
 | 4,_=>exact blk p4 w4 i hm
 | 5,_=>exact blk p5 w5 i hm
 | 6,_=>exact blk p6 w6 i hm
 | 7,_=>exact blk p7 w7 i hm
 | 8,_=>exact blk p8 w8 i hm
 | 9,_=>exact blk p9 w9 i hm
 | 10,_=>exact blk p10 w10 i hm
 | 11,_=>exact blk p11 w11 i hm
 | 12,_=>exact blk p12 w12 i hm
 | 13,_=>exact blk p13 w13 i hm
 | 14,_=>exact blk p14 w14 i hm
 | 15,_=>exact blk p15 w15 i hm
 | b+16,h=>omega
theorem nearL_FV {w:Nat} {P:Int} (h:nearL w P=true):∃ x,FV w x∧Near x ((P:Rat) / 1267650600228229401496703205376) (1 / 2251799813685248):=by
 unfold nearL at h
 split at h
 ·rename_i s m p hr
  simp only [Bool.and_eq_true,decide_eq_true_eq] at h
  obtain⟨hp,h1,h2⟩:=h
  refine⟨_,⟨s,m,p,hr,rfl⟩,?_⟩
  obtain⟨d,hd⟩:∃ d:Nat,p=-(d:Int):=⟨(-p).toNat,by omega⟩
  rw[show (-p).toNat=d by omega] at h1 h2
  have c1:=Rat.intCast_le_intCast.2 h1
  have c2:=Rat.intCast_le_intCast.2 h2
  simp only [Rat.intCast_sub,Rat.intCast_mul,Rat.intCast_add,Rat.intCast_neg,Rat.intCast_natCast,Rat.natCast_mul] at c1 c2
  have n1:((1267650600228229401496703205376:Nat):Rat)=1267650600228229401496703205376:=rfl
  have n2:((2251799813685248:Int):Rat)=2251799813685248:=rfl
  have n3:((1267650600228229401496703205376:Int):Rat)=1267650600228229401496703205376:=rfl
  rw[n1,n2,n3] at c1 c2
  have hsm:(((if s then -(m:Int) else m):Int):Rat)=(if s then -1 else 1)*(m:Rat):=by
   cases s
   ·simp only [Bool.false_eq_true,if_false];rw[Rat.intCast_natCast];grind
   ·simp only [if_true];rw[Rat.intCast_neg,Rat.intCast_natCast];grind
  rw[hsm] at c1 c2
  have hE:(2:Rat)^p*((2^d:Nat):Rat)=1:=by
   rw[hd,← two_nat,← two_add,show -(d:Int)+d=0 by omega];exact Rat.zpow_zero 2
  have hp0:=Rat.le_of_lt (two_pos p)
  have v:numR s m p=((if s then -1 else 1)*(m:Rat))*2^p:=by unfold numR;grind
  rw[v]
  generalize (if s then -1 else 1:Rat)*(m:Rat)=X at *
  have k1:=Rat.mul_le_mul_of_nonneg_right c1 hp0
  have k2:=Rat.mul_le_mul_of_nonneg_right c2 hp0
  generalize ((2^d:Nat):Rat)=E at *
  generalize (2:Rat)^p=T at *
  generalize (P:Rat)=p' at *
  have q1:-(1267650600228229401496703205376*E)*T=-1267650600228229401496703205376:=by grind
  have q2:1267650600228229401496703205376*E*T=1267650600228229401496703205376:=by grind
  have q3:(X*1267650600228229401496703205376 - p'*E)*2251799813685248*T=(X*T*1267650600228229401496703205376 - p')*2251799813685248:=by grind
  rw[q1,q3] at k1
  rw[q2,q3] at k2
  exact⟨by grind,by grind⟩
 ·cases h
theorem near_c {a:Nat × Nat} {k:Nat} {P Q:Int} (h1:nearL a.1 P=true) (h2:nearL a.2 Q=true) {zc:Cx} (hz:(zc.sub (tc P Q)).M (1024*st)):∃ x,CV a x∧(x.sub zc).M eta:=by
 obtain⟨x,a1,a2⟩:=nearL_FV h1
 obtain⟨y,b1,b2⟩:=nearL_FV h2
 refine⟨⟨x,y⟩,⟨a1,b1⟩,?_⟩
 obtain⟨u1,u2⟩:=a2
 obtain⟨v1,v2⟩:=b2
 have h3:(Cx.sub ⟨x,y⟩ (tc P Q)).M (2*(1 / 2251799813685248)):=by
  unfold tc Cx.sub
  refine Cx.M.of ?_ ?_ ?_ ?_<;>dsimp only<;>grind
 have h4:=h3.add hz.neg
 have e1:(Cx.sub ⟨x,y⟩ (tc P Q)).add (zc.sub (tc P Q)).neg=Cx.sub ⟨x,y⟩ zc:=by
  unfold Cx.sub Cx.add Cx.neg;congr 1<;>grind
 rw[e1] at h4
 refine h4.mono ?_
 have:=st_nums.2
 have n:=nums.2.2.1
 rw[n];grind
theorem MP.all {k:Nat} {P Q:Int} (h:MP k P Q) (hk:k<1024):((Cx.zp k).sub (tc P Q)).M (1024*st):=by
 refine Cx.M.mono h ?_
 have:=Rat.mul_le_mul_of_nonneg_right (cast_le (show k≤1024 by omega)) st_nums.1
 exact this
theorem row_two {k:Nat} (hk:k<1024):∃ a b x y,twO fastO 4607182418800017408 k 2048=some a∧twO fastO 13830554455654793216 (1024 - k) 2048=some b∧CV a x∧(x.sub (Cx.zp k)).M eta∧CV b y∧(y.sub (Cx.zp k).neg).M eta:=by
 obtain⟨P,Q,h1,h2⟩:=g_all hk
 have h3:=h2.all hk
 unfold rowL at h1
 split at h1
 ·rename_i a b ha hb
  simp only [Bool.and_eq_true] at h1
  obtain⟨⟨⟨c1,c2⟩,c3⟩,c4⟩:=h1
  obtain⟨x,x1,x2⟩:=near_c (k:=k) c1 c2 h3
  have h4:((Cx.zp k).neg.sub (tc (-P) (-Q))).M (1024*st):=by
   have e1:(Cx.zp k).neg.sub (tc (-P) (-Q))=((Cx.zp k).sub (tc P Q)).neg:=by
    unfold tc Cx.sub Cx.neg
    rw[Rat.intCast_neg,Rat.intCast_neg]
    congr 1<;>grind
   rw[e1];exact h3.neg
  obtain⟨y,y1,y2⟩:=near_c (k:=k) c3 c4 h4
  exact⟨a,b,x,y,ha,hb,x1,x2,y1,y2⟩
 ·cases h1
theorem angB_get {sign size m:Nat}:∀ {f k:Nat},angB sign size m f k=true→∀ i,i<f→∃ a,angleO fastO sign (k+i) size=some a∧angleO fastO sign (m*(k+i)) 2048=some a
 | 0,k,h,i,hi=>by omega
 | f+1,k,h,i,hi=>by
  unfold angB at h
  simp only [Bool.and_eq_true] at h
  obtain⟨h1,h2⟩:=h
  cases i with
  | zero=>
   split at h1
   ·rename_i a b ha hb
    have:=Nat.eq_of_beq_eq_true h1
    subst this
    exact⟨a,ha,hb⟩
   ·cases h1
  | succ i=>
   have:=angB_get h2 i (by omega)
   rwa [show k+1+i=k+(i+1) by omega] at this
theorem ap0:angB 4607182418800017408 2 1024 1 0=true:=by kernel_rfl
theorem ap1:angB 4607182418800017408 4 512 2 0=true:=by kernel_rfl
theorem ap2:angB 4607182418800017408 8 256 4 0=true:=by kernel_rfl
theorem ap3:angB 4607182418800017408 16 128 8 0=true:=by kernel_rfl
theorem ap4:angB 4607182418800017408 32 64 16 0=true:=by kernel_rfl
theorem ap5:angB 4607182418800017408 64 32 32 0=true:=by kernel_rfl
theorem ap6:angB 4607182418800017408 128 16 64 0=true:=by kernel_rfl
theorem ap7:angB 4607182418800017408 256 8 128 0=true:=by kernel_rfl
theorem ap8:angB 4607182418800017408 512 4 256 0=true:=by kernel_rfl
theorem ap9:angB 4607182418800017408 1024 2 512 0=true:=by kernel_rfl
theorem ang_p {s:Nat} (h:s<10):angB 4607182418800017408 (2^(s+1)) (2^(10 - s)) (2^s) 0=true:=by
 match s,h with
 | 0,_=>exact ap0
 | 1,_=>exact ap1
 | 2,_=>exact ap2
 | 3,_=>exact ap3
 | 4,_=>exact ap4
 | 5,_=>exact ap5
 | 6,_=>exact ap6
 | 7,_=>exact ap7
 | 8,_=>exact ap8
 | 9,_=>exact ap9
 | s+10,h=>omega
theorem same_p {s k:Nat} (hs:s≤10) (hk:k<2^s):twO dbl 4607182418800017408 k (2^(s+1))=twO fastO 4607182418800017408 (k*2^(10 - s)) 2048:=by
 rw[← fast_eq]
 by_cases h:s<10
 ·obtain⟨a,h1,h2⟩:=angB_get (ang_p h) k hk
  rw[Nat.zero_add] at h1 h2
  unfold twO
  rw[h1,Nat.mul_comm k,h2]
 ·have:s=10:=by omega
  subst this
  rw[show (10 - 10)=0 from rfl,Nat.pow_zero,Nat.mul_one]
theorem an0:angB 13830554455654793216 2 1024 1 0=true:=by kernel_rfl
theorem an1:angB 13830554455654793216 4 512 2 0=true:=by kernel_rfl
theorem an2:angB 13830554455654793216 8 256 4 0=true:=by kernel_rfl
theorem an3:angB 13830554455654793216 16 128 8 0=true:=by kernel_rfl
theorem an4:angB 13830554455654793216 32 64 16 0=true:=by kernel_rfl
theorem an5:angB 13830554455654793216 64 32 32 0=true:=by kernel_rfl
theorem an6:angB 13830554455654793216 128 16 64 0=true:=by kernel_rfl
theorem an7:angB 13830554455654793216 256 8 128 0=true:=by kernel_rfl
theorem an8:angB 13830554455654793216 512 4 256 0=true:=by kernel_rfl
theorem an9:angB 13830554455654793216 1024 2 512 0=true:=by kernel_rfl
theorem ang_n {s:Nat} (h:s<10):angB 13830554455654793216 (2^(s+1)) (2^(10 - s)) (2^s) 0=true:=by
 match s,h with
 | 0,_=>exact an0
 | 1,_=>exact an1
 | 2,_=>exact an2
 | 3,_=>exact an3
 | 4,_=>exact an4
 | 5,_=>exact an5
 | 6,_=>exact an6
 | 7,_=>exact an7
 | 8,_=>exact an8
 | 9,_=>exact an9
 | s+10,h=>omega
theorem same_n {s k:Nat} (hs:s≤10) (hk:k<2^s):twO dbl 13830554455654793216 k (2^(s+1))=twO fastO 13830554455654793216 (k*2^(10 - s)) 2048:=by
 rw[← fast_eq]
 by_cases h:s<10
 ·obtain⟨a,h1,h2⟩:=angB_get (ang_n h) k hk
  rw[Nat.zero_add] at h1 h2
  unfold twO
  rw[h1,Nat.mul_comm k,h2]
 ·have:s=10:=by omega
  subst this
  rw[show (10 - 10)=0 from rfl,Nat.pow_zero,Nat.mul_one]
theorem idx_lt {s k:Nat} (hs:s≤10) (hk:k<2^s):k*2^(10 - s)<1024:=by
 have h1:2^s*2^(10 - s)=1024:=by rw[← Nat.pow_add,show s+(10 - s)=10 by omega]
 rw[← h1]
 exact Nat.mul_lt_mul_of_pos_right hk (Nat.two_pow_pos _)
theorem forth {s k:Nat} (hs:s≤10) (hk:k<2^s):∃ a x,twO dbl 4607182418800017408 k (2^(s+1))=some a∧CV a x∧(x.sub (Cx.z (k*2^(10 - s)))).M eta:=by
 have hi:=idx_lt hs hk
 obtain⟨a,b,x,y,h1,h2,h3,h4,h5,h6⟩:=row_two hi
 refine⟨a,x,by rw[same_p hs hk,h1],h3,?_⟩
 unfold Cx.z
 rw[Nat.mod_eq_of_lt (by omega),if_pos hi];exact h4
theorem zero_near:∃ a x,twO fastO 13830554455654793216 0 2048=some a∧CV a x∧(x.sub Cx.one).M eta:=by
 refine⟨(4607182418800017408,9223372036854775808),⟨1,0⟩,by kernel_rfl,⟨⟨false,4503599627370496,-52,by kernel_rfl,by decide +kernel⟩,⟨true,0,-1074,by kernel_rfl,by decide +kernel⟩⟩,?_⟩
 show (Cx.one.sub Cx.one).M eta
 rw[Cx.sub_self]
 exact Cx.M.zero (by decide +kernel)
theorem back {s k:Nat} (hs:s≤10) (hk:k<2^s):∃ a x,twO dbl 13830554455654793216 k (2^(s+1))=some a∧CV a x∧(x.sub (Cx.zb (k*2^(10 - s)))).M eta:=by
 have hi:=idx_lt hs hk
 rw[same_n hs hk]
 generalize k*2^(10 - s)=m at *
 by_cases h0:m=0
 ·subst h0
  exact zero_near
 ·obtain⟨a,b,x,y,h1,h2,h3,h4,h5,h6⟩:=row_two (k:=1024 - m) (by omega)
  rw[show 1024 - (1024 - m)=m by omega] at h2
  refine⟨b,y,h2,h5,?_⟩
  have e1:Cx.zb m=(Cx.zp (1024 - m)).neg:=by
   unfold Cx.zb Cx.z
   rw[show 2047*m % 2048=2048 - m by omega,if_neg (by omega),show 2048 - m - 1024=1024 - m by omega]
  rw[e1];exact h6
end
end Go.Proofs.YtbiigbicgfchiaaGreatDoor.Ie.Tw
namespace Go.Proofs.YtbiigbicgfchiaaGreatDoor.Ie
section
open Ieee
def nj:Nat→Nat→Nat→Nat
 | 0,bit,j=>j ^^^ bit
 | f+1,bit,j=>if j &&& bit=0 then j ^^^ bit else nj f (bit / 2) (j ^^^ bit)
def jn (n:Nat):Nat→Nat
 | 0=>0
 | i+1=>nj 12 (n / 2) (jn n i)
def leaf:Nat→Nat→Nat→Nat
 | 0,b,_=>b
 | s+1,b,t=>if t % 2=0 then leaf s (2*b) (t / 2) else leaf s (2*b+1) (t / 2)
theorem sq_leaf (a:Nat→Cx) (s b t:Nat):sq a s b t=a (leaf s b t):=by
 induction s generalizing b t with
 | zero=>rfl
 | succ s ih=>unfold sq leaf;split<;>exact ih _ _
def jChk (L n:Nat):Nat→Nat→Nat→Bool
 | 0,_,_=>true
 | f+1,i,j=>Nat.beq (leaf L 0 i) j && Nat.beq (leaf L 0 j) i && Nat.blt j n && sl (nj 12 (n / 2) j) fun j'=>jChk L n f (i+1) j'
theorem jChk_get {L n:Nat}:∀ {f i j:Nat},jChk L n f i j=true→jn n i=j→∀ d,d<f→leaf L 0 (i+d)=jn n (i+d)∧leaf L 0 (jn n (i+d))=i+d∧jn n (i+d)<n
 | 0,i,j,h,hj,d,hd=>by omega
 | f+1,i,j,h,hj,d,hd=>by
  unfold jChk at h
  simp only [Bool.and_eq_true,sl_eq] at h
  obtain⟨⟨⟨h1,h2⟩,h3⟩,h4⟩:=h
  have h1:=Nat.eq_of_beq_eq_true h1
  have h2:=Nat.eq_of_beq_eq_true h2
  have h3:j<n:=by simpa [Nat.blt_eq] using h3
  cases d with
  | zero=>rw[Nat.add_zero,hj];exact⟨h1,h2,h3⟩
  | succ d=>
   have:=jChk_get (i:=i+1) h4 (by show nj 12 (n / 2) (jn n i)=_;rw[hj]) d (by omega)
   rwa [show i+1+d=i+(d+1) by omega] at this
theorem j9:jChk 9 512 512 0 0=true:=by kernel_rfl
theorem j10:jChk 10 1024 1024 0 0=true:=by kernel_rfl
theorem j11:jChk 11 2048 2048 0 0=true:=by kernel_rfl
def Lok (L:Nat):Prop:=L=9∨L=10∨L=11
theorem jn_all {L:Nat} (hL:Lok L) {t:Nat} (ht:t<2^L):leaf L 0 t=jn (2^L) t∧jn (2^L) (jn (2^L) t)=t∧jn (2^L) t<2^L:=by
 have core:∀ t,t<2^L→leaf L 0 t=jn (2^L) t∧leaf L 0 (jn (2^L) t)=t∧jn (2^L) t<2^L:=by
  intro t ht
  rcases hL with rfl | rfl | rfl
  ·have:=jChk_get j9 rfl t ht;rwa [Nat.zero_add] at this
  ·have:=jChk_get j10 rfl t ht;rwa [Nat.zero_add] at this
  ·have:=jChk_get j11 rfl t ht;rwa [Nat.zero_add] at this
 obtain⟨h1,h2,h3⟩:=core t ht
 exact⟨h1,by rw[← (core _ h3).1,h2],h3⟩
theorem sq_top {L:Nat} (hL:Lok L) (a:Nat→Cx) {t:Nat} (ht:t<2^L):sq (fun p=>a (jn (2^L) p)) L 0 t=a t:=by
 rw[sq_leaf,(jn_all hL ht).1,(jn_all hL ht).2.1]
def flyW (w tw:Nat→Nat × Nat) (s p:Nat):Nat × Nat:=
 if p % 2^(s+1)<2^s then ((cmul (w (p+2^s)) (tw (p % 2^(s+1)))).bind fun m=>cadd (w p) m).getD (0,0)
 else ((cmul (w p) (tw (p % 2^(s+1) - 2^s))).bind fun m=>csub (w (p - 2^s)) m).getD (0,0)
def twW (sg s k:Nat):Nat × Nat:=(twO dbl sg k (2^(s+1))).getD (0,0)
theorem div_lt {x y r:Nat} (h:double.div x y=some r):r<18446744073709551616:=by
 unfold Format.div at h
 rw[Option.map_eq_some_iff] at h
 obtain⟨d,hd,rfl⟩:=h
 have hw:∀ neg k,double.word neg (min k double.infRung)<18446744073709551616:=by
  intro neg k
  unfold Format.word
  rw[dbl_inf,dbl_sign]
  have:=Nat.min_le_right k 9218868437227405312
  split<;>omega
 cases d with
 | number s m p=>
  show double.nearest s m p<_
  unfold Format.nearest
  split
  ·have:=hw s 0;rwa [Nat.zero_min] at this
  ·exact hw s _
 | infinity s=>
  show double.word s double.infRung<_
  have:=hw s double.infRung
  rwa [Nat.min_self] at this
 | nan s f=>
  exfalso
  unfold Datum.quotient at hd
  split at hd
  all_goals first | cases hd | skip
  all_goals (split at hd<;>first | cases hd | (split at hd<;>cases hd))
theorem flyW_at {w tw:Nat→Nat × Nat} {s q k:Nat} (hk:k<2^s) {m r1 r2:Nat × Nat} (h1:cmul (w (q*2^(s+1)+k+2^s)) (tw k)=some m) (h2:cadd (w (q*2^(s+1)+k)) m=some r1) (h3:csub (w (q*2^(s+1)+k)) m=some r2) :
  flyW w tw s (q*2^(s+1)+k)=r1∧flyW w tw s (q*2^(s+1)+k+2^s)=r2:=by
 have h2s:2^(s+1)=2*2^s:=by rw[Nat.pow_succ];omega
 have i1:(q*2^(s+1)+k) % 2^(s+1)=k:=by rw[Nat.mul_comm,Nat.mul_add_mod,Nat.mod_eq_of_lt (by omega)]
 have i2:(q*2^(s+1)+k+2^s) % 2^(s+1)=k+2^s:=by rw[Nat.add_assoc,Nat.mul_comm,Nat.mul_add_mod,Nat.mod_eq_of_lt (by omega)]
 constructor
 ·unfold flyW
  rw[i1,if_pos hk,h1]
  show (cadd _ m).getD _=_
  rw[h2];rfl
 ·unfold flyW
  rw[i2,if_neg (by omega),Nat.add_sub_cancel,Nat.add_sub_cancel,h1]
  show (csub _ m).getD _=_
  rw[h3];rfl
theorem Stage.fly {c a:Nat→Cx} (hc:Cx.Turns c) {n s:Nat} (hs:s<11) {w:Nat→Nat × Nat} {tw:Nat→Nat × Nat} {e B:Rat} (hB:1≤B) (hB2:B≤36893488147419103232) (ha:∀ p,(a p).M B) (e0:0≤e) (he:(e+187*eps*B)*1048576≤B)
  (hn:n % 2^(s+1)=0) (h:Stage c a n s w (err e B s)) (htw:∀ k,k<2^s→∃ x,CV (tw k) x∧(x.sub (c (k*2^(10 - s)))).M eta):Stage c a n (s+1) (flyW w tw s) (err e B (s+1)):=
 h.step hc hs hB hB2 ha e0 he hn htw fun q k _ hk m r1 r2 h1 h2 h3=>flyW_at hk h1 h2 h3
def Way (sg:Nat) (c:Nat→Cx):Prop:=(sg=4607182418800017408∧c=Cx.z)∨(sg=13830554455654793216∧c=Cx.zb)
theorem Way.turns {sg:Nat} {c:Nat→Cx} (h:Way sg c):Cx.Turns c:=by
 rcases h with ⟨_,rfl⟩ | ⟨_,rfl⟩
 ·exact Cx.z_turns
 ·exact Cx.zb_turns
theorem Way.zero {sg:Nat} {c:Nat→Cx} (h:Way sg c):c 0=Cx.one:=by
 rcases h with ⟨_,rfl⟩ | ⟨_,rfl⟩<;>rfl
theorem Way.tw {sg:Nat} {c:Nat→Cx} (h:Way sg c) {s k:Nat} (hs:s≤10) (hk:k<2^s):twO dbl sg k (2^(s+1))=some (twW sg s k)∧∃ x,CV (twW sg s k) x∧(x.sub (c (k*2^(10 - s)))).M eta:=by
 rcases h with ⟨rfl,rfl⟩ | ⟨rfl,rfl⟩
 ·obtain⟨a,x,h1,h2,h3⟩:=Tw.forth hs hk
  have:twW 4607182418800017408 s k=a:=by unfold twW;rw[h1];rfl
  rw[this];exact⟨h1,x,h2,h3⟩
 ·obtain⟨a,x,h1,h2,h3⟩:=Tw.back hs hk
  have:twW 13830554455654793216 s k=a:=by unfold twW;rw[h1];rfl
  rw[this];exact⟨h1,x,h2,h3⟩
end
section
open Ieee
theorem cut_low (way:Toward) (hw:way=.down∨way=.zero) (n d:Nat):way.cut false n d=n / 2^d:=by
 have hm:way.cut false n d=n / (1 <<< min d (n.log2+2)):=by
  unfold Toward.cut
  rcases hw with rfl | rfl<;>simp
 rw[hm,Nat.one_shiftLeft]
 by_cases h:d≤n.log2+2
 ·rw[Nat.min_eq_left h]
 ·have h1:n<2^(n.log2+1):=Nat.lt_log2_self
  have h2:2^(n.log2+1)≤2^(n.log2+2):=Nat.pow_le_pow_right (by omega) (by omega)
  have h3:2^(n.log2+2)≤2^d:=Nat.pow_le_pow_right (by omega) (by omega)
  rw[Nat.min_eq_right (by omega),Nat.div_eq_of_lt (by omega),Nat.div_eq_of_lt (by omega)]
theorem whole {m:Nat} {p:Int} {c:Nat} (h1:(c:Rat)≤numR false m p) (h2:numR false m p<(c:Rat)+1):(m <<< p.toNat) / 2^(-p).toNat=c:=by
 unfold numR at h1 h2
 simp only [Bool.false_eq_true,if_false,Rat.one_mul] at h1 h2
 rw[Nat.shiftLeft_eq]
 by_cases hp:0≤p
 ·obtain⟨d,rfl⟩:∃ d:Nat,p=(d:Int):=⟨p.toNat,by omega⟩
  rw[show (-(d:Int)).toNat=0 by omega,Int.toNat_natCast,Nat.pow_zero,Nat.div_one]
  rw[two_nat,← Rat.natCast_mul] at h1 h2
  have a1:=Rat.natCast_le_natCast.1 h1
  rw[← Cx.nat_succ] at h2
  have a2:=Rat.natCast_lt_natCast.1 h2
  omega
 ·obtain⟨d,rfl⟩:∃ d:Nat,p=-(d:Int):=⟨(-p).toNat,by omega⟩
  rw[show (-(-(d:Int))).toNat=d by omega,show (-(d:Int)).toNat=0 by omega,Nat.pow_zero,Nat.mul_one]
  have hE:(2:Rat)^(-(d:Int))*((2^d:Nat):Rat)=1:=by
   rw[← two_nat,← two_add,show -(d:Int)+d=0 by omega];exact Rat.zpow_zero 2
  have hpos:(0:Rat)<((2^d:Nat):Rat):=Rat.natCast_pos.2 (Nat.two_pow_pos d)
  have k1:=Rat.mul_le_mul_of_nonneg_right h1 (Rat.le_of_lt hpos)
  have k2:=Rat.mul_lt_mul_of_pos_right h2 hpos
  rw[Rat.mul_assoc,hE,Rat.mul_one] at k1 k2
  rw[← Rat.natCast_mul] at k1
  rw[← Cx.nat_succ,← Rat.natCast_mul] at k2
  have a1:=Rat.natCast_le_natCast.1 k1
  have a2:=Rat.natCast_lt_natCast.1 k2
  have h3:=Nat.two_pow_pos d
  refine Nat.div_eq_of_lt_le ?_ ?_
  ·exact a1
  ·exact a2
theorem numR_true (m:Nat) (p:Int):numR true m p=- numR false m p:=opp_val false m p
theorem numR_false_nonneg (m:Nat) (p:Int):0≤numR false m p:=by
 unfold numR
 simp only [Bool.false_eq_true,if_false,Rat.one_mul]
 exact Rat.mul_nonneg Rat.natCast_nonneg (Rat.le_of_lt (two_pos p))
theorem toInt_FV {w c:Nat} (h:FV w (c:Rat)):(double.read w).toInt .zero=some (c:Int):=by
 obtain⟨s,m,p,hr,hv⟩:=h
 rw[hr]
 have hc0:(0:Rat)≤(c:Rat):=Rat.natCast_nonneg
 show some (signed s (Toward.zero.cut s (m <<< p.toNat) (-p).toNat) 0)=_
 have hcut:∀ s,Toward.zero.cut s (m <<< p.toNat) (-p).toNat=Toward.zero.cut false (m <<< p.toNat) (-p).toNat:=fun s=>rfl
 rw[hcut,cut_low .zero (.inr rfl)]
 have h0:=numR_false_nonneg m p
 have hval:numR false m p=(c:Rat):=by
  cases s
  ·exact hv.symm
  ·rw[numR_true] at hv;grind
 rw[whole (c:=c) (by grind) (by grind)]
 unfold signed
 rw[Nat.shiftLeft_zero]
 cases s
 ·rfl
 ·rw[numR_true] at hv
  have:(c:Rat)=0:=by grind
  have:c=0:=by
   have h1:(c:Rat)=((0:Nat):Rat):=this
   exact Rat.natCast_inj.1 h1
  subst this;rfl
theorem floor_FV {w c:Nat} {x:Rat} (h:FV w x) (h0:0<x) (h1:(c:Rat)≤x) (h2:x<(c:Rat)+1):(double.read w).integral .down=.number false c 0:=by
 obtain⟨s,m,p,hr,hv⟩:=h
 rw[hr]
 have hnn:=numR_false_nonneg m p
 cases s
 ·show Datum.number false (Toward.down.cut false (m <<< p.toNat) (-p).toNat) 0=_
  rw[cut_low .down (.inl rfl),whole (c:=c) (by rw[← hv];exact h1) (by rw[← hv];exact h2)]
 ·rw[numR_true] at hv
  exfalso;grind
theorem int_FV {c:Nat} (hc:c<9007199254740992) (s:Bool):FV (double.nearest false c 0) (c:Rat):=by
 unfold Format.nearest
 by_cases h0:c=0
 ·subst h0
  rw[if_pos rfl]
  have:=read_rung false (r:=0) (by omega)
  rw[if_pos (by omega)] at this
  exact⟨false,0,-1074,this,by decide +kernel⟩
 ·rw[if_neg h0,show (double.fractionBits:Int)=52 from rfl,dbl_least]
  have hL1:=Nat.log2_self_le h0
  have hL2:c<2^(c.log2+1):=Nat.lt_log2_self
  have hL:c.log2≤52:=by
   refine Classical.byContradiction fun hcn=>?_
   have:=Nat.pow_le_pow_right (n:=2) (by omega) (show 53≤c.log2 by omega)
   omega
  generalize c.log2=L at *
  rw[show max (0+(L:Int) - 52) (-1074)=((L+1022:Nat):Int) - 1074 by omega]
  dsimp only
  rw[show (((L+1022:Nat):Int) - 1074 - -1074).toNat=L+1022 by omega,show (0 - (((L+1022:Nat):Int) - 1074)).toNat=52 - L by omega,show (((L+1022:Nat):Int) - 1074 - 0).toNat=0 by omega,cut_zero,Nat.shiftLeft_eq]
  have hb:c*2^(52 - L)≤9007199254740992∧4503599627370496≤c*2^(52 - L):=by
   have a1:c*2^(52 - L)<2^(L+1)*2^(52 - L):=Nat.mul_lt_mul_of_pos_right hL2 (Nat.two_pow_pos _)
   have a2:2^L*2^(52 - L)≤c*2^(52 - L):=Nat.mul_le_mul_right _ hL1
   rw[← Nat.pow_add] at a1 a2
   rw[show L+1+(52 - L)=53 by omega] at a1
   rw[show L+(52 - L)=52 by omega] at a2
   omega
  have hw:=read_word false hb.1 (show L+1022≤2044 by omega) (.inr hb.2)
  have e1:numR false (c*2^(52 - L)) (((L+1022:Nat):Int) - 1074)=(c:Rat):=by
   unfold numR
   simp only [Bool.false_eq_true,if_false,Rat.one_mul]
   rw[Rat.natCast_mul,← two_nat,Rat.mul_assoc,← two_add,show (((52 - L:Nat)):Int)+(((L+1022:Nat):Int) - 1074)=0 by omega]
   rw[show (2:Rat)^(0:Int)=1 from Rat.zpow_zero 2,Rat.mul_one]
  rw[e1] at hw
  exact hw
theorem fNat_FV {c:Nat} (hc:c<9007199254740992):FV (fNat c) (c:Rat):=int_FV hc false
end
section
open Ieee
theorem read_lt {w m:Nat} {s:Bool} {p:Int} (h:double.read w=.number s m p):m<9007199254740992:=by
 unfold Format.read at h
 rw[dbl_sign,dbl_binade,dbl_inf,dbl_least] at h
 dsimp only at h
 split at h
 ·cases h;omega
 ·split at h
  ·cases h;omega
  ·split at h<;>cases h
theorem pow_read {L:Nat} (hL:Lok L):double.read (fNat (2^L))=.number false 4503599627370496 ((L:Int) - 52):=by
 rcases hL with rfl | rfl | rfl<;>kernel_rfl
theorem div_near {r L:Nat} {v u B:Rat} (hr:FV r v) (hL:Lok L) (hu:u*((2^L:Nat):Rat)=v) (h1:-B≤u) (h2:u≤B) (hB:B≤top):∃ q x,double.div r (fNat (2^L))=some q∧FV q x∧Near x u (B*eps+tiny):=by
 obtain⟨s,m,i,hrd,rfl⟩:=hr
 have hm:=read_lt hrd
 obtain⟨mo,hmo⟩:∃ mo,mo=54+52 - m.log2:=⟨_,rfl⟩
 have hlog:m.log2≤52:=by
  by_cases h0:m=0
  ·subst h0;exact Nat.zero_le _
  ·have:=Nat.log2_self_le h0
   refine Classical.byContradiction fun hc=>?_
   have:=Nat.pow_le_pow_right (n:=2) (by omega) (show 53≤m.log2 by omega)
   omega
 have hq:(Datum.number s m i).quotient (double.fractionBits+2) (.number false 4503599627370496 ((L:Int) - 52))=some (.number s (2*(m*2^(mo - 52))) (i - ((L:Int) - 52) - mo - 1)):=by
  unfold Datum.quotient
  dsimp only
  rw[if_neg (by decide),show (double.fractionBits+2+Nat.log2 4503599627370496 - m.log2)=mo by rw[hmo];rfl,Nat.shiftLeft_eq]
  have e1:m*2^mo=4503599627370496*(m*2^(mo - 52)):=by
   conv=>lhs;rw[show mo=52+(mo - 52) by omega,Nat.pow_add]
   rw[Nat.mul_left_comm]
  rw[e1,Nat.mul_div_cancel_left _ (by decide),Nat.mul_mod_right]
  have:(s ^^ false)=s:=Bool.xor_false s
  rw[this];rfl
 have hval:numR s (2*(m*2^(mo - 52))) (i - ((L:Int) - 52) - mo - 1)=u:=by
  have hpos:(0:Rat)<((2^L:Nat):Rat):=Rat.natCast_pos.2 (Nat.two_pow_pos L)
  have e2:numR s (2*(m*2^(mo - 52))) (i - ((L:Int) - 52) - mo - 1)*((2^L:Nat):Rat)=numR s m i:=by
   unfold numR
   rw[Rat.natCast_mul,Rat.natCast_mul,← two_nat,← two_nat]
   have t2:((2:Nat):Rat)=(2:Rat)^(1:Int):=(Rat.zpow_one 2).symm
   rw[t2]
   have e3:(2:Rat)^i=(2:Rat)^(1:Int)*2^(((mo - 52:Nat)):Int)*2^(i - ((L:Int) - 52) - mo - 1)*2^(L:Int):=by
    rw[← two_add,← two_add,← two_add];congr 1;omega
   rw[e3];grind
  rw[← hu] at e2
  have h3:(numR s (2*(m*2^(mo - 52))) (i - ((L:Int) - 52) - mo - 1) - u)*((2^L:Nat):Rat)=0:=by grind
  rcases Rat.mul_eq_zero.1 h3 with h4 | h4
  ·grind
  ·grind
 obtain⟨x,hx,hn⟩:=write_near hval h1 h2 hB
 refine⟨_,x,?_,hx,hn⟩
 unfold Format.div
 rw[hrd,pow_read hL,hq];rfl
theorem half_FV:FV 4602678819172646912 (1 / 2):=⟨false,4503599627370496,-53,by kernel_rfl,by decide +kernel⟩
theorem end_law {r L c:Nat} {v:Rat} (hr:FV r v) (hL:Lok L) (hc:c<274877906944) (h1:((2^L:Nat):Rat)*((c:Rat) - 1 / 40)≤v) (h2:v≤((2^L:Nat):Rat)*((c:Rat)+1 / 40)) :
  ∃ q h,double.div r (fNat (2^L))=some q∧double.add q 4602678819172646912=some h∧(double.read h).integral .down=.number false c 0∧(double.read (fNat c)).toInt .zero=some (c:Int):=by
 have hpos:(0:Rat)<((2^L:Nat):Rat):=Rat.natCast_pos.2 (Nat.two_pow_pos L)
 obtain⟨u,hu⟩:∃ u,u=v*((2^L:Nat):Rat)⁻¹:=⟨_,rfl⟩
 have hinv:((2^L:Nat):Rat)*((2^L:Nat):Rat)⁻¹=1:=Rat.mul_inv_cancel _ (fun h=>by rw[h] at hpos;exact Rat.lt_irrefl hpos)
 have hu1:u*((2^L:Nat):Rat)=v:=by rw[hu];grind
 have b1:(c:Rat) - 1 / 40≤u:=by
  refine Rat.le_of_mul_le_mul_left (c:=((2^L:Nat):Rat)) ?_ hpos
  rw[Rat.mul_comm _ u,hu1];exact h1
 have b2:u≤(c:Rat)+1 / 40:=by
  refine Rat.le_of_mul_le_mul_left (c:=((2^L:Nat):Rat)) ?_ hpos
  rw[Rat.mul_comm _ u,hu1];exact h2
 have c0:(0:Rat)≤(c:Rat):=Rat.natCast_nonneg
 have c1:(c:Rat)≤274877906944:=cast_le (b:=274877906944) (by omega)
 obtain⟨n1,n2,n3,n4,n5⟩:=nums
 obtain⟨q,x,q1,q2,q3,q4⟩:=div_near (u:=u) (B:=274877906950) hr hL hu1 (by grind) (by grind) (by rw[n5];decide +kernel)
 rw[n1,n2] at q3 q4
 obtain⟨h,y,y1,y2,y3,y4⟩:=add_near (B:=274877906960) q2 half_FV (by grind) (by grind) (by rw[n5];decide +kernel)
 rw[n1,n2] at y3 y4
 exact⟨q,h,q1,y1,floor_FV y2 (by grind) (by grind) (by grind),toInt_FV (fNat_FV (by omega))⟩
end
section
open Ieee
def ns:Nat→(Nat→Nat)→Nat
 | 0,_=>0
 | n+1,f=>ns n f+f n
theorem ns_congr {n:Nat} {f h:Nat→Nat} (k:∀ i,i<n→f i=h i):ns n f=ns n h:=by
 induction n with
 | zero=>rfl
 | succ n ih=>show ns n f+f n=ns n h+h n;rw[ih (fun i hi=>k i (by omega)),k n (by omega)]
theorem ns_le {n:Nat} {f:Nat→Nat} {A:Nat} (h:∀ i,i<n→f i≤A):ns n f≤n*A:=by
 induction n with
 | zero=>exact Nat.zero_le _
 | succ n ih=>show ns n f+f n≤_;have:=ih (fun i hi=>h i (by omega));have:=h n (by omega);rw[Nat.succ_mul];omega
theorem ns_zero (n:Nat):ns n (fun _=>0)=0:=by
 induction n with
 | zero=>rfl
 | succ n ih=>show ns n (fun _=>0)+0=0;rw[ih]
theorem ns_add (n:Nat) (f h:Nat→Nat):ns n f+ns n h=ns n fun t=>f t+h t:=by
 induction n with
 | zero=>rfl
 | succ n ih=>show ns n f+f n+(ns n h+h n)=ns n (fun t=>f t+h t)+(f n+h n);rw[← ih];omega
theorem ns_mul (n c:Nat) (f:Nat→Nat):c*ns n f=ns n fun t=>c*f t:=by
 induction n with
 | zero=>rfl
 | succ n ih=>show c*(ns n f+f n)=ns n (fun t=>c*f t)+c*f n;rw[Nat.mul_add,ih]
theorem ns_mul' (n c:Nat) (f:Nat→Nat):ns n f*c=ns n fun t=>f t*c:=by
 rw[Nat.mul_comm,ns_mul];exact ns_congr fun i _=>Nat.mul_comm _ _
theorem ns_swap (n m:Nat) (f:Nat→Nat→Nat):ns n (fun i=>ns m fun j=>f i j)=ns m fun j=>ns n fun i=>f i j:=by
 induction n with
 | zero=>show 0=_;exact(ns_zero m).symm
 | succ n ih=>
  show ns n (fun i=>ns m fun j=>f i j)+ns m (fun j=>f n j)=_
  rw[ih,ns_add];rfl
theorem ns_one {n k:Nat} (hk:k<n) (v:Nat):ns n (fun m=>if k=m then v*256^m else 0)=v*256^k:=by
 induction n with
 | zero=>omega
 | succ n ih=>
  show ns n (fun m=>if k=m then v*256^m else 0)+(if k=n then v*256^n else 0)=_
  by_cases h:k=n
  ·subst h
   rw[if_pos rfl,ns_congr (h:=fun _=>0) (fun i hi=>if_neg (by omega)),ns_zero,Nat.zero_add]
  ·rw[if_neg h,ih (by omega)];rfl
def cN (n:Nat) (x y:Nat→Nat) (m:Nat):Nat:=ns n fun i=>ns n fun j=>if (i+j) % n=m then x i*y j else 0
theorem cN_lt {n:Nat} (hn:n≤2048) {x y:Nat→Nat} (hx:∀ i,x i≤255) (hy:∀ i,y i≤255) (m:Nat):cN n x y m<274877906944:=by
 have h1:cN n x y m≤n*(n*65025):=ns_le fun i _=>ns_le fun j _=>by
  split
  ·exact Nat.mul_le_mul (hx i) (hy j)
  ·omega
 have h2:n*(n*65025)≤2048*(2048*65025):=Nat.mul_le_mul hn (Nat.mul_le_mul_right _ hn)
 omega
theorem cN_sum {n la lb:Nat} (hl:la+lb≤n) {x y:Nat→Nat} (hx:∀ i,la≤i→x i=0) (hy:∀ i,lb≤i→y i=0) :
  ns n (fun m=>cN n x y m*256^m)=ns n (fun i=>x i*256^i)*ns n (fun j=>y j*256^j):=by
 unfold cN
 have e1:ns n (fun m=>ns n (fun i=>ns n fun j=>if (i+j) % n=m then x i*y j else 0)*256^m)=ns n fun i=>ns n fun j=>ns n fun m=>if (i+j) % n=m then x i*y j*256^m else 0:=by
  rw[ns_congr (h:=fun m=>ns n fun i=>ns n fun j=>if (i+j) % n=m then x i*y j*256^m else 0),ns_swap]
  ·refine ns_congr fun i _=>?_
   rw[ns_swap]
  ·intro m _
   rw[ns_mul']
   refine ns_congr fun i _=>?_
   rw[ns_mul']
   refine ns_congr fun j _=>?_
   split
   ·rfl
   ·rw[Nat.zero_mul]
 rw[e1,ns_mul']
 refine ns_congr fun i hi=>?_
 rw[ns_mul]
 refine ns_congr fun j hj=>?_
 have h0:0<n:=by omega
 rw[ns_one (Nat.mod_lt _ h0)]
 by_cases h1:la≤i
 ·rw[hx i h1];simp
 ·by_cases h2:lb≤j
  ·rw[hy j h2];simp
  ·rw[Nat.mod_eq_of_lt (by omega),Nat.pow_add,Nat.mul_mul_mul_comm]
def bA (N p:Nat):Nat:=N / 256^p % 256
theorem bA_sum (N n:Nat):ns n (fun i=>bA N i*256^i)=N % 256^n:=by
 induction n with
 | zero=>show 0=N % 1;omega
 | succ n ih=>
  show ns n (fun i=>bA N i*256^i)+bA N n*256^n=_
  rw[ih,Nat.pow_succ,Nat.mod_mul]
  unfold bA;rw[Nat.mul_comm]
theorem bA_zero {N p:Nat} (h:N<256^p):bA N p=0:=by unfold bA;rw[Nat.div_eq_of_lt h]
theorem bA_le (N p:Nat):bA N p≤255:=by unfold bA;omega
def aB (N p:Nat):Cx:=Cx.ofR ((bA N p:Nat):Rat)
theorem aB_M (N p:Nat):(aB N p).M 255:=by
 have h1:((bA N p:Nat):Rat)≤255:=cast_le (b:=255) (bA_le N p)
 have h0:(0:Rat)≤((bA N p:Nat):Rat):=Rat.natCast_nonneg
 refine⟨by decide +kernel,?_⟩
 have:=Cx.sq_mono h0 h1
 show ((bA N p:Nat):Rat)*((bA N p:Nat):Rat)+0*0≤_
 grind
theorem ofR_sum (n:Nat) (f:Nat→Nat):Cx.sum n (fun i=>Cx.ofR ((f i:Nat):Rat))=Cx.ofR ((ns n f:Nat):Rat):=by
 induction n with
 | zero=>rfl
 | succ n ih=>
  show (Cx.sum n fun i=>Cx.ofR ((f i:Nat):Rat)).add (Cx.ofR ((f n:Nat):Rat))=Cx.ofR (((ns n f+f n:Nat)):Rat)
  rw[ih,Rat.natCast_add];unfold Cx.ofR Cx.add;congr 1;show (0:Rat)+0=0;grind
theorem conv_num (n A B m:Nat):Cx.conv n (aB A) (aB B) m=Cx.ofR ((n*cN n (bA A) (bA B) m:Nat):Rat):=by
 unfold Cx.conv cN
 rw[ns_mul]
 rw[← ofR_sum]
 refine Cx.sum_congr fun i _=>?_
 rw[ns_mul,← ofR_sum]
 refine Cx.sum_congr fun j _=>?_
 unfold aB Cx.ofR Cx.mul
 split
 ·rw[Rat.natCast_mul,Rat.natCast_mul];congr 1<;>grind
 ·unfold Cx.zero;rw[Nat.mul_zero]
  have:((0:Nat):Rat)=0:=rfl
  rw[this];congr 1<;>grind
def eF:Rat:=1 / 92000000
def B1:Rat:=272734617600
theorem err_F {L:Nat} (hL:Lok L):err 0 255 L≤eF:=by rcases hL with rfl | rfl | rfl<;>decide +kernel
theorem err_B {L:Nat} (hL:Lok L):err (1 / 80) B1 L+((2^L:Nat):Rat)*(((2^L:Nat):Rat)*(255*255*(((2^L:Nat):Rat)*(2*Cx.theta))))≤((2^L:Nat):Rat)*(1 / 40):=by rcases hL with rfl | rfl | rfl<;>decide +kernel
theorem pow_b {L:Nat} (hL:Lok L):((2^L:Nat):Rat)*255≤522240:=by rcases hL with rfl | rfl | rfl<;>decide +kernel
theorem prod_near {L:Nat} (hL:Lok L) {u v:Nat × Nat} {zu zv U V:Cx} (hu:CV u zu) (hv:CV v zv) (du:(zu.sub U).M (err 0 255 L)) (dv:(zv.sub V).M (err 0 255 L)) (bU:U.M (((2^L:Nat):Rat)*255)) (bV:V.M (((2^L:Nat):Rat)*255)) :
  ∃ r z,cmul u v=some r∧CV r z∧(z.sub (U.mul V)).M (1 / 80)∧(U.mul V).M B1:=by
 obtain⟨n1,n2,n3,n4,n5⟩:=nums
 have du:=du.mono (err_F hL)
 have dv:=dv.mono (err_F hL)
 have bU:=bU.mono (pow_b hL)
 have bV:=bV.mono (pow_b hL)
 have mu:=du.near bU
 have mv:=dv.near bV
 obtain⟨r,z,q1,q2,q3⟩:=cmul_near hu hv mu mv (by rw[n5];decide +kernel)
 refine⟨r,z,q1,q2,?_,(bU.mul bV).mono (by decide +kernel)⟩
 have:=q3.add ((du.mul mv).add (bU.mul dv))
 have e1:(z.sub (zu.mul zv)).add (((zu.sub U).mul zv).add (U.mul (zv.sub V)))=z.sub (U.mul V):=by
  unfold Cx.sub Cx.add Cx.mul;congr 1<;>grind
 rw[e1] at this
 exact this.mono (by rw[n1,n2];decide +kernel)
theorem out_near {L:Nat} (hL:Lok L) {A B m:Nat} (hm:m<2^L) {r:Nat × Nat} {z:Cx} (hr:CV r z) (hz:(z.sub (Cx.dft Cx.zb L (fun k=>(Cx.dft Cx.z L (aB A) k).mul (Cx.dft Cx.z L (aB B) k)) m)).M (err (1 / 80) B1 L)) :
  ∃ q h,double.div r.1 (fNat (2^L))=some q∧double.add q 4602678819172646912=some h∧(double.read h).integral .down=.number false (cN (2^L) (bA A) (bA B) m) 0∧(double.read (fNat (cN (2^L) (bA A) (bA B) m))).toInt .zero=some ((cN (2^L) (bA A) (bA B) m:Nat):Int):=by
 have hL11:L≤11:=by rcases hL with rfl | rfl | rfl<;>decide
 have hn:2^L≤2048:=by rcases hL with rfl | rfl | rfl<;>decide
 have h1:=Cx.conv_near hL11 (B:=255) (by decide +kernel) (aB_M A) (aB_M B) hm
 have h2:=hz.add h1
 rw[conv_num] at h2
 have e1:∀ a b c:Cx,(a.sub b).add (b.sub c)=a.sub c:=by intro a b c;unfold Cx.sub Cx.add;congr 1<;>grind
 rw[e1] at h2
 have h3:=(h2.mono (err_B hL)).re_le
 have h4:(z.sub (Cx.ofR ((2^L*cN (2^L) (bA A) (bA B) m:Nat):Rat))).re=z.re - ((2^L:Nat):Rat)*((cN (2^L) (bA A) (bA B) m:Nat):Rat):=by
  rw[Rat.natCast_mul];rfl
 rw[h4] at h3
 exact end_law hr.1 hL (cN_lt hn (bA_le A) (bA_le B) m) (by grind) (by grind)
end
end Go.Proofs.YtbiigbicgfchiaaGreatDoor.Ie
