import Derived.Test.YtfgkdmbicjdeoaaGreatE2
import Derived.Test.YtfgkdmbicjdeoaaGreatE1
import Derived.RangeFuncIn
import Derived.RangeFuncLeaves
import Derived.RangeFuncRecord
import Derived.RangeFuncSeq
set_option linter.unusedVariables false
set_option linter.unusedSimpArgs false
set_option linter.unusedSectionVars false
namespace aE
open an
variable {n:Nat} {ah:Nat→Nat} {N:eu} {S:Nat→Fn} {ord:List Nat} {K:Kd}
def pl(N:eu)(y r:Nat):Nat:=match N r with|some e=>if e.v=y then e.lo else r|none=>r
def ph(N:eu)(y r:Nat):Nat:=match N r with|some e=>if e.v=y then e.hi else r|none=>r
theorem N9{y r:Nat}{e:Nd}(h:N r=some e)(hv:e.v=y):pl N y r=e.lo∧ph N y r=e.hi:=by simp[pl,ph,h,hv]
theorem Oa{y r:Nat}(h:∀e,N r=some e→e.v≠y):pl N y r=r∧ph N y r=r:=by
 unfold pl ph
 cases hr:N r with
 |none=>exact⟨rfl,rfl⟩
 |some e=>simp[h e hr]
theorem WF.half(h:WF n ah N)(hl:j8 n ah)(hi:Interp N S){y l r:Nat}(hy:y<n∧ah y=l+1)(hr:live N r)(hd:l<dep n ah N r):
  (live N (pl N y r)∧l+1<dep n ah N (pl N y r))∧(live N (ph N y r)∧l+1<dep n ah N (ph N y r))∧∀z,S r z=if z.testBit y then S (ph N y r) z else S (pl N y r) z:=by
 by_cases e:∃e,N r=some e∧e.v=y
 ·obtain⟨e,he,hv⟩:=e
  obtain⟨p1,p2⟩:=N9 he hv
  rw[p1,p2]
  have h1:=h.lo he
  have h2:=h.hi he
  rw[hv,hy.2]at h1 h2
  exact⟨h1,h2,fun z=>by rw[hi.node he,hv]⟩
 ·have ho:∀e',N r=some e'→e'.v≠y:=fun e' h1 h2=>e ⟨e',h1,h2⟩
  obtain⟨p1,p2⟩:=Oa ho
  rw[p1,p2]
  have xy:l+1<dep n ah N r:=by
   rcases hr with hr|⟨e',he⟩
   ·rw[aU (h.const hr)]
    have:=hl.lt y hy.1;omega
   ·rw[ay he]at hd⊢
    have h1:=ho e' he
    refine Nat.lt_of_le_of_ne hd fun e2=>h1 (hl.inj _ _ (h.var he) hy.1 (by omega))
  exact⟨⟨hr,xy⟩,⟨hr,xy⟩,fun z=>by split<;>rfl⟩
theorem WF.OX(h:WF n ah N)(hl:j8 n ah)(hi:Interp N S){y l a b:Nat}(hy:y<n∧ah y=l+1)(ha:live N a)(hb:live N b)(da:l<dep n ah N a)(db:l<dep n ah N b)
 (h1:pl N y a=pl N y b)(h2:ph N y a=ph N y b):a=b:=by
 refine h.same hl hi ha hb fun z=>?_
 rw[(h.half hl hi hy ha da).2.2 z,(h.half hl hi hy hb db).2.2 z,h1,h2]
structure Cx where
 r:Nat
 d:Nd
 uW:Nat
 uV:Nat
 rF:Nat
 rE:Nat
def kW(N:eu)(x y r:Nat)(d:Nd):Prop:=N r=some d∧d.v=x∧((∃e,N d.lo=some e∧e.v=y)∨∃e,N d.hi=some e∧e.v=y)
def mB(N:eu)(y r:Nat)(d:Nd):Cx:=⟨r,d,pl N y d.lo,ph N y d.lo,pl N y d.hi,ph N y d.hi⟩
structure Gn(N:eu)(x y:Nat)(l:List Cx):Prop where
 nd:(l.map Cx.r).Nodup
 mem:∀c,c∈l↔kW N x y c.r c.d∧c=mB N y c.r c.d
def keys(x:Nat)(c:Cx):List Nd:=[⟨x,c.uW,c.rF⟩,⟨x,c.uV,c.rE⟩]
structure Made(K:Kd)(x:Nat)(l:List Cx)(made:List Nd):Prop where
 nd:made.Nodup
 mem:∀k,k∈made↔(∃c∈l,k∈keys x c)∧K.T k=none∧k.lo≠k.hi
structure Nb(n:Nat)(ah:Nat→Nat)(x y l:Nat):Prop where
 xn:x<n
 yn:y<n
 lx:ah x=l
 ly:ah y=l+1
variable {x y l:Nat}
theorem Nb.ne(h:Nb n ah x y l):x≠y:=fun e=>by have h1:=h.lx;have h2:=h.ly;rw[e]at h1;omega
theorem Nb.yy(h:Nb n ah x y l):y<n∧ah y=l+1:=⟨h.yn,h.ly⟩
theorem jX(h:WF n ah N)(hl:j8 n ah)(hi:Interp N S)(hb:Nb n ah x y l){r:Nat}{d:Nd}(hd:N r=some d)(hx:d.v=x){k:Nd}(hk:k∈keys x (mB N y r d)):
  k.v=x∧(live N k.lo∧l+1<dep n ah N k.lo)∧(live N k.hi∧l+1<dep n ah N k.hi):=by
 have h1:=h.lo hd
 have h2:=h.hi hd
 rw[hx,hb.lx]at h1 h2
 have a:=h.half hl hi hb.yy h1.1 h1.2
 have b:=h.half hl hi hb.yy h2.1 h2.2
 simp only[keys,mB,List.mem_cons,List.not_mem_nil,or_false]at hk
 rcases hk with rfl|rfl
 ·exact⟨rfl,a.1,b.1⟩
 ·exact⟨rfl,a.2.1,b.2.1⟩
theorem tv(h:WF n ah N)(hl:j8 n ah)(hi:Interp N S)(hb:Nb n ah x y l){r:Nat}{d:Nd}(hd:N r=some d)(hx:d.v=x)(z:Nat):
  S r z=if z.testBit y then ite S ⟨x,ph N y d.lo,ph N y d.hi⟩ z else ite S ⟨x,pl N y d.lo,pl N y d.hi⟩ z:=by
 have h1:=h.lo hd
 have h2:=h.hi hd
 rw[hx,hb.lx]at h1 h2
 have a:=(h.half hl hi hb.yy h1.1 h1.2).2.2 z
 have b:=(h.half hl hi hb.yy h2.1 h2.2).2.2 z
 rw[hi.node hd,hx,a,b]
 unfold ite
 simp only
 cases z.testBit x<;>cases z.testBit y<;>rfl
theorem iE(h:WF n ah N)(hl:j8 n ah)(hi:Interp N S)(hb:Nb n ah x y l){k:Nd}(hk:k.v=x)(h1:live N k.lo∧l+1<dep n ah N k.lo)(h2:live N k.hi∧l+1<dep n ah N k.hi)(z:Nat)(b:Bool):
  ite S k (az z x b)=S (if b then k.hi else k.lo) z:=by
 unfold ite
 rw[hk,aq,if_pos rfl]
 cases b
 ·simp only[Bool.false_eq_true,if_false];exact h.ca hl hi h1.1 hb.xn (by rw[hb.lx];omega) z false
 ·simp only[if_true];exact h.ca hl hi h2.1 hb.xn (by rw[hb.lx];omega) z true
theorem iM(h:WF n ah N)(hl:j8 n ah)(hi:Interp N S)(hb:Nb n ah x y l){k:Nd}(hk:k.v=x)(h1:live N k.lo∧l+1<dep n ah N k.lo)(h2:live N k.hi∧l+1<dep n ah N k.hi){u:Nat}(hu:u<n)(Hx:ah u≤l+1)(hne:u≠x)(z:Nat)(b:Bool):
  ite S k (az z u b)=ite S k z:=by
 unfold ite
 rw[hk,aq,if_neg (Ne.symm hne),h.ca hl hi h1.1 hu (by omega),h.ca hl hi h2.1 hu (by omega)]
theorem oz(h:WF n ah N)(hl:j8 n ah)(hi:Interp N S){r:Nat}{d:Nd}(hd:N r=some d):∃z,S r (az z d.v false)≠S r (az z d.v true):=by
 refine Classical.byContradiction fun hno=>h.ne hd (h.same hl hi (h.lo hd).1 (h.hi hd).1 fun z=>?_)
 have c1:=h.child hl hi hd z false
 have c2:=h.child hl hi hd z true
 simp only[Bool.false_eq_true,if_false,if_true]at c1 c2
 rw[←c1,←c2]
 exact Classical.byContradiction fun hne=>hno ⟨z,hne⟩
theorem K7(h:WF n ah N)(hl:j8 n ah)(hi:Interp N S)(hb:Nb n ah x y l){k:Nd}(hk:k.v=x)(hne:k.lo≠k.hi)(h1:live N k.lo∧l+1<dep n ah N k.lo)(h2:live N k.hi∧l+1<dep n ah N k.hi)
 {r:Nat}{d:Nd}(hd:N r=some d)(he:ite S k=S r):d=k:=by
 have hv:=h.var hd
 have hvx:d.v=x:=by
  rcases Nat.lt_trichotomy (ah d.v) l with hlt|heq|hgt
  ·obtain⟨z,hz⟩:=oz h hl hi hd
   have VS:d.v≠x:=fun e=>by rw[e,hb.lx]at hlt;omega
   rw[←he,iM h hl hi hb hk h1 h2 hv (by omega) VS,iM h hl hi hb hk h1 h2 hv (by omega) VS]at hz
   exact absurd rfl hz
  ·exact hl.inj _ _ hv hb.xn (by rw[hb.lx];exact heq)
  ·refine absurd (h.same hl hi h1.1 h2.1 fun z=>?_) hne
   have c1:=iE h hl hi hb hk h1 h2 z false
   have c2:=iE h hl hi hb hk h1 h2 z true
   simp only[Bool.false_eq_true,if_false,if_true]at c1 c2
   have hdp:ah x<dep n ah N r:=by rw[ay hd,hb.lx];exact hgt
   rw[←c1,←c2,he,h.ca hl hi (.inr ⟨d,hd⟩) hb.xn hdp,h.ca hl hi (.inr ⟨d,hd⟩) hb.xn hdp]
 have c:∀(b:Bool) z,S (if b then k.hi else k.lo) z=S (if b then d.hi else d.lo) z:=fun(b:Bool) z=>by
  rw[←iE h hl hi hb hk h1 h2 z b,he,←hvx,h.child hl hi hd z b]
 have e1:=h.same hl hi h1.1 (h.lo hd).1 (fun z=>by simpa using c false z)
 have e2:=h.same hl hi h2.1 (h.hi hd).1 (fun z=>by simpa using c true z)
 cases d;cases k;simp_all
theorem OD(h:WF n ah N)(hl:j8 n ah)(hi:Interp N S)(hb:Nb n ah x y l){k k':Nd}(hk:k.v=x)(hk':k'.v=x)(h1:live N k.lo∧l+1<dep n ah N k.lo)(h2:live N k.hi∧l+1<dep n ah N k.hi)
 (zy:live N k'.lo∧l+1<dep n ah N k'.lo)(mq:live N k'.hi∧l+1<dep n ah N k'.hi)(he:ite S k=ite S k'):k=k':=by
 have c:∀(b:Bool) z,S (if b then k.hi else k.lo) z=S (if b then k'.hi else k'.lo) z:=fun(b:Bool) z=>by
  rw[←iE h hl hi hb hk h1 h2 z b,he,iE h hl hi hb hk' zy mq z b]
 have e1:=h.same hl hi h1.1 zy.1 (fun z=>by simpa using c false z)
 have e2:=h.same hl hi h2.1 mq.1 (fun z=>by simpa using c true z)
 cases k;cases k';simp_all
def ik(ord:List Nat)(l:Nat):List Nat:=(ord.set l (ord.getD (l+1) 0)).set (l+1) (ord.getD l 0)
theorem kI(ord:List Nat)(l:Nat):(ik ord l).length=ord.length:=by simp[ik]
theorem ei{i:Nat}(hl:l+1<ord.length):(ik ord l).getD i 0=if i=l then ord.getD (l+1) 0 else if i=l+1 then ord.getD l 0 else ord.getD i 0:=by
 unfold ik
 rw[List.getD_eq_getElem?_getD,List.getElem?_set,List.getElem?_set]
 by_cases e1:l+1=i
 ·subst e1
  rw[if_pos rfl,if_pos (by simp;omega),if_neg (by omega),if_pos rfl];rfl
 ·rw[if_neg e1]
  by_cases e2:l=i
  ·subst e2;rw[if_pos rfl,if_pos (by omega),if_pos rfl];rfl
  ·rw[if_neg e2,if_neg (fun e=>e2 e.symm),if_neg (fun e=>e1 e.symm),←List.getD_eq_getElem?_getD]
def rp(ah:Nat→Nat)(x y l:Nat):Nat→Nat:=fun v=>if v=x then l+1 else if v=y then l else ah v
theorem NT(hl:j8 n ah)(hb:Nb n ah x y l):j8 n (rp ah x y l):=by
 have Se:=hl.lt y hb.yn
 rw[hb.ly]at Se
 have key:∀v,v<n→v≠x→v≠y→ah v≠l∧ah v≠l+1:=fun v hv h1 h2=>⟨fun e=>h1 (hl.inj _ _ hv hb.xn (by rw[hb.lx];exact e)),fun e=>h2 (hl.inj _ _ hv hb.yn (by rw[hb.ly];exact e))⟩
 refine⟨fun v hv=>?_,fun u v hu hv he=>?_⟩
 ·unfold rp
  split
  ·exact Se
  ·split
   ·omega
   ·exact hl.lt v hv
 ·unfold rp at he
  by_cases u1:u=x
  ·by_cases v1:v=x
   ·rw[u1,v1]
   ·rw[if_pos u1,if_neg v1]at he
    by_cases v2:v=y
    ·rw[if_pos v2]at he;omega
    ·rw[if_neg v2]at he;exact absurd he.symm (key v hv v1 v2).2
  ·rw[if_neg u1]at he
   by_cases u2:u=y
   ·rw[if_pos u2]at he
    by_cases v1:v=x
    ·rw[if_pos v1]at he;omega
    ·rw[if_neg v1]at he
     by_cases v2:v=y
     ·rw[u2,v2]
     ·rw[if_neg v2]at he;exact absurd he.symm (key v hv v1 v2).1
   ·rw[if_neg u2]at he
    by_cases v1:v=x
    ·rw[if_pos v1]at he;exact absurd he (key u hu u1 u2).2
    ·rw[if_neg v1]at he
     by_cases v2:v=y
     ·rw[if_pos v2]at he;exact absurd he (key u hu u1 u2).1
     ·rw[if_neg v2]at he;exact hl.inj _ _ hu hv he
theorem Ord.nb(ho:Ord n ah ord)(hl:l+1<n):Nb n ah (ord.getD l 0) (ord.getD (l+1) 0) l:=
 ⟨(ho.kC l (by omega)).1,(ho.kC (l+1) hl).1,(ho.kC l (by omega)).2,(ho.kC (l+1) hl).2⟩
theorem NS(ho:Ord n ah ord)(hl:l+1<n):Ord n (rp ah (ord.getD l 0) (ord.getD (l+1) 0) l) (ik ord l):=by
 have hb:=ho.nb hl
 refine⟨by rw[kI,ho.len],fun i hi=>?_⟩
 rw[ei (by rw[ho.len];exact hl)]
 unfold rp
 by_cases e1:i=l
 ·subst e1;rw[if_pos rfl];refine⟨hb.yn,?_⟩;rw[if_neg (Ne.symm hb.ne),if_pos rfl]
 ·rw[if_neg e1]
  by_cases e2:i=l+1
  ·subst e2;rw[if_pos rfl];refine⟨hb.xn,?_⟩;rw[if_pos rfl]
  ·rw[if_neg e2]
   obtain⟨h1,h2⟩:=ho.kC i hi
   refine⟨h1,?_⟩
   rw[if_neg,if_neg]
   ·exact h2
   ·intro e;rw[e,hb.ly]at h2;omega
   ·intro e;rw[e,hb.lx]at h2;omega
variable {F:Fn→Prop}
theorem BN(hl:l+1<ord.length)(hne:ord.getD l 0≠ord.getD (l+1) 0):∀m,m≠l+1→∀g,fs (ik ord l) F m g↔fs ord F m g
 |0,_,g=>Iff.rfl
 |m+1,hm,g=>by
  by_cases e:m=l+1
  ·subst e
   have g1:(ik ord l).getD (l+1) 0=ord.getD l 0:=by rw[ei hl,if_neg (by omega),if_pos rfl]
   have g2:(ik ord l).getD l 0=ord.getD (l+1) 0:=by rw[ei hl,if_pos rfl]
   have ih:=BN hl hne l (by omega)
   constructor
   ·rintro⟨f,⟨f',h,b,rfl⟩,b',rfl⟩
    refine⟨_,⟨f',(ih f').1 h,b',rfl⟩,b,?_⟩
    funext z
    rw[g1,g2]
    show f' _=f' _
    rw[cF hne]
   ·rintro⟨f,⟨f',h,b,rfl⟩,b',rfl⟩
    refine⟨_,⟨f',(ih f').2 h,b',rfl⟩,b,?_⟩
    funext z
    rw[g1,g2]
    show f' _=f' _
    rw[cF (Ne.symm hne)]
  ·have ih:=BN hl hne m e
   have hg:(ik ord l).getD m 0=ord.getD m 0:=by rw[ei hl,if_neg (by omega),if_neg e]
   constructor
   ·rintro⟨f,h,b,rfl⟩;exact⟨f,(ih f).1 h,b,by rw[hg]⟩
   ·rintro⟨f,h,b,rfl⟩;exact⟨f,(ih f).2 h,b,by rw[hg]⟩
theorem JY(h:Ok K S ah)(ho:Ord K.n ah ord)(Lo:l+1<K.n){all:List Cx}(hc:Gn K.N (ord.getD l 0) (ord.getD (l+1) 0) all){made:List Nd}(hm:Made K (ord.getD l 0) all made):
  qF (fun g=>aO K.n ord (K.held S) g∨aO K.n (ik ord l) (K.held S) g) (K.used-2+made.length):=by
 have hb:=ho.nb Lo
 have hlen:l+1<ord.length:=by rw[ho.len];exact Lo
 have hw:=h.wf
 have hlv:=h.lv
 have hi:=h.mid.int
 have hR:∀r,K.hold r≠0→live K.N r:=fun r hr=>.inr (h.mid.held r hr)
 generalize hx:ord.getD l 0=x at*
 generalize hy:ord.getD (l+1) 0=y at*
 have kU:∀k∈made,k.v=x∧(live K.N k.lo∧l+1<dep K.n ah K.N k.lo)∧(live K.N k.hi∧l+1<dep K.n ah K.N k.hi):=fun k hk=>by
  obtain⟨⟨c,HH,hkc⟩,_⟩:=(hm.mem k).1 hk
  obtain⟨⟨hd,LD,_⟩,e⟩:=(hc.mem c).1 HH
  rw[e]at hkc
  exact jX hw hlv hi hb hd LD hkc
 obtain⟨dom,d1,d2,d3⟩:=h.dom
 have c1:=vZ hw hlv hi d1 d3
 rw[show dom.length=K.used-2 by omega]at c1
 have c2:qF (fun g=>∃k∈made,g=ite S k) made.length:=by
  refine⟨made.map (ite S),?_,by simp,fun g=>?_⟩
  ·refine List.pairwise_map.2 (hm.nd.imp_of_mem fun{a b} ha hb' hne heq=>hne ?_)
   obtain⟨a1,a2,a3⟩:=kU a ha
   obtain⟨b1,b2,b3⟩:=kU b hb'
   exact OD hw hlv hi hb a1 b1 a2 a3 b2 b3 heq
  ·rw[List.mem_map]
   constructor
   ·rintro⟨k,hk,rfl⟩;exact⟨k,hk,rfl⟩
   ·rintro⟨k,hk,rfl⟩;exact⟨k,hk,rfl⟩
 refine(c1.or c2 ?_).congr fun g=>?_
 ·rintro g ⟨r,d,hd,rfl⟩ ⟨k,hk,he⟩
  obtain⟨a1,a2,a3⟩:=kU k hk
  obtain⟨_,hT,hne⟩:=(hm.mem k).1 hk
  have:=K7 hw hlv hi hb a1 hne a2 a3 hd he.symm
  subst this
  rw[(h.mid.iJ d r).2 ⟨hd,fun x=>x⟩]at hT;cases hT
 ·have hns:=l8 hw hlv ho hi hR h.reach
  have nS:=fun m (hmn:m≤K.n) g=>Pk hw hlv ho hi hR m hmn g
  have hne:ord.getD l 0≠ord.getD (l+1) 0:=by rw[hx,hy];exact hb.ne
  have Uh:=BN (F:=K.held S) hlen hne
  have gl:(ik ord l).getD l 0=y:=by rw[ei hlen,if_pos rfl,hy]
  have gl1:(ik ord l).getD (l+1) 0=x:=by rw[ei hlen,if_neg (by omega),if_pos rfl,hx]
  have go:∀m,m≠l→m≠l+1→(ik ord l).getD m 0=ord.getD m 0:=fun m h1 h2=>by rw[ei hlen,if_neg h1,if_neg h2]
  constructor
  ·rintro(⟨r,d,hd,rfl⟩|⟨k,hk,rfl⟩)
   ·exact .inl ((hns _).2 ⟨r,d,hd,rfl⟩)
   ·obtain⟨a1,a2,a3⟩:=kU k hk
    obtain⟨⟨c,HH,hkc⟩,hT,Sy⟩:=(hm.mem k).1 hk
    obtain⟨⟨hd,LD,_⟩,e⟩:=(hc.mem c).1 HH
    refine .inr ⟨l+1,Lo,?_,?_⟩
    ·have hA:=Rc hw h.reach _ c.r c.d hd (Nat.le_refl _)
     rw[LD,hb.lx]at hA
     refine⟨S c.r,(Uh l (by omega) _).2 ((nS l (by omega) _).2 ⟨c.r,hA,rfl⟩),?_⟩
     have OU:=tv hw hlv hi hb hd LD
     rw[e]at hkc
     simp only[keys,mB,List.mem_cons,List.not_mem_nil,or_false]at hkc
     rw[gl]
     rcases hkc with rfl|rfl
     ·refine⟨false,?_⟩
      funext z
      rw[OU,aq,if_pos rfl,if_neg (by simp),iM hw hlv hi hb rfl a2 a3 hb.yn (by rw[hb.ly];exact Nat.le_refl _) (Ne.symm hb.ne)]
     ·refine⟨true,?_⟩
      funext z
      rw[OU,aq,if_pos rfl,if_pos rfl,iM hw hlv hi hb rfl a2 a3 hb.yn (by rw[hb.ly];exact Nat.le_refl _) (Ne.symm hb.ne)]
    ·rw[gl1]
     refine Classical.byContradiction fun hno=>Sy (hw.same hlv hi a2.1 a3.1 fun z=>?_)
     have c1:=iE hw hlv hi hb a1 a2 a3 z false
     have c2:=iE hw hlv hi hb a1 a2 a3 z true
     simp only[Bool.false_eq_true,if_false,if_true]at c1 c2
     rw[←c1,←c2]
     exact Classical.byContradiction fun hne=>hno ⟨z,hne⟩
  ·rintro(hg|⟨m,hmn,hf,hh⟩)
   ·exact .inl ((hns g).1 hg)
   ·by_cases e1:m=l+1
    ·subst e1
     rw[gl1]at hh
     obtain⟨f,hf,b,rfl⟩:=hf
     rw[gl]at hh⊢
     obtain⟨r,hA,rfl⟩:=(nS l (by omega) f).1 ((Uh l (by omega) f).1 hf)
     obtain⟨hlr,hle⟩:=qG hw hR l r hA
     have hgt:dep K.n ah K.N r=l:=by
      refine Nat.le_antisymm (Nat.le_of_not_lt fun hlt=>?_) hle
      obtain⟨z,hz⟩:=hh
      refine hz ?_
      show S r (az (az z x false) y b)=S r (az (az z x true) y b)
      rw[cF hb.ne,cF hb.ne,hw.ca hlv hi hlr hb.xn (by rw[hb.lx];exact hlt),hw.ca hlv hi hlr hb.xn (by rw[hb.lx];exact hlt)]
     rcases hlr with HF|⟨d,hd⟩
     ·rw[aU (hw.const HF)]at hgt;omega
     ·rw[ay hd]at hgt
      have LD:d.v=x:=hlv.inj _ _ (hw.var hd) hb.xn (by rw[hb.lx];exact hgt)
      have OU:=tv hw hlv hi hb hd LD
      have hkk:∃k∈keys x (mB K.N y r d),(fun z=>S r (az z y b))=ite S k:=by
       cases b
       ·refine⟨_,List.mem_cons_self,?_⟩
        obtain⟨a1,a2,a3⟩:=jX hw hlv hi hb hd LD (k:=⟨x,pl K.N y d.lo,pl K.N y d.hi⟩) List.mem_cons_self
        funext z
        rw[OU,aq,if_pos rfl,if_neg (by simp),iM hw hlv hi hb rfl a2 a3 hb.yn (by rw[hb.ly];exact Nat.le_refl _) (Ne.symm hb.ne)];rfl
       ·refine⟨_,List.mem_cons_of_mem _ List.mem_cons_self,?_⟩
        obtain⟨a1,a2,a3⟩:=jX hw hlv hi hb hd LD (k:=⟨x,ph K.N y d.lo,ph K.N y d.hi⟩) (List.mem_cons_of_mem _ List.mem_cons_self)
        funext z
        rw[OU,aq,if_pos rfl,if_pos rfl,iM hw hlv hi hb rfl a2 a3 hb.yn (by rw[hb.ly];exact Nat.le_refl _) (Ne.symm hb.ne)];rfl
      obtain⟨k,hkm,hke⟩:=hkk
      obtain⟨a1,a2,a3⟩:=jX hw hlv hi hb hd LD hkm
      rw[hke]at hh⊢
      have Sy:k.lo≠k.hi:=fun e=>by
       obtain⟨z,hz⟩:=hh
       have c1:=iE hw hlv hi hb a1 a2 a3 z false
       have c2:=iE hw hlv hi hb a1 a2 a3 z true
       simp only[Bool.false_eq_true,if_false,if_true]at c1 c2
       rw[c1,c2,e]at hz;exact hz rfl
      cases hT:K.T k with
      |some s=>
       have hs:=((h.mid.iJ k s).1 hT).1
       refine .inl ⟨s,k,hs,?_⟩
       funext z
       exact(hi.node hs z).symm
      |none=>
       by_cases SN:kW K.N x y r d
       ·exact .inr ⟨k,(hm.mem k).2 ⟨⟨mB K.N y r d,(hc.mem _).2 ⟨SN,rfl⟩,hkm⟩,hT,Sy⟩,rfl⟩
       ·have hno:∀t,t=d.lo∨t=d.hi→pl K.N y t=t∧ph K.N y t=t:=fun t ht=>Oa fun e he hv=>SN ⟨hd,LD,by
         rcases ht with rfl|rfl
         ·exact .inl ⟨e,he,hv⟩
         ·exact .inr ⟨e,he,hv⟩⟩
        have e1:=hno d.lo (.inl rfl)
        have e2:=hno d.hi (.inr rfl)
        have:k=d:=by
         simp only[keys,mB,e1.1,e1.2,e2.1,e2.2,List.mem_cons,List.not_mem_nil,or_false,or_self]at hkm
         rw[hkm,←LD]
        rw[this,(h.mid.iJ d r).2 ⟨hd,fun x=>x⟩]at hT;cases hT
    ·by_cases e2:m=l
     ·subst e2
      rw[gl]at hh
      obtain⟨r,hA,rfl⟩:=(nS m (by omega) g).1 ((Uh m e1 g).1 hf)
      obtain⟨hlr,hle⟩:=qG hw hR m r hA
      rcases hlr with HF|⟨d,hd⟩
      ·obtain⟨z,hz⟩:=hh
       have:∀z,S r z=S r 0:=fun z=>by
        have:r=0∨r=1:=by omega
        rcases this with rfl|rfl
        ·rw[hi.zero,hi.zero]
        ·rw[hi.one,hi.one]
       rw[this (az z y false),this (az z y true)]at hz
       exact absurd rfl hz
      ·exact .inl ⟨r,d,hd,rfl⟩
     ·refine .inl ((hns g).1 ⟨m,hmn,(Uh m e1 g).1 hf,?_⟩)
      rw[go m e2 e1]at hh;exact hh
end aE
namespace aE
open an
def qY(K:Kd)(ah:Nat→Nat)(l t:Nat):Prop:=live K.N t∧l+1<dep K.n ah K.N t
def u3(K0 K:Kd)(ah:Nat→Nat)(x l t:Nat):Prop:=qY K0 ah l t∨∃e,K.N t=some e∧e.v=x∧qY K0 ah l e.lo∧qY K0 ah l e.hi
structure TI(K0:Kd)(S0:Nat→Fn)(ah:Nat→Nat)(x y l:Nat)(made:List Nd)(K:Kd)(S:Nat→Fn)(done rest:List Cx)(P:Nat→Nat):Prop where
 mid:iP K S (fun s=>∃c∈rest,s=c.r) P
 n:K.n=K0.n
 cap:K.cap=K0.cap
 hold:∀r,K.hold r=K0.hold r
 ext:∀r,live K0.N r→S r=S0 r
 old:∀{r d},K0.N r=some d→r∉done.map Cx.r→K.N r=some d
 kept:∀{r d},K0.N r=some d→∃d',K.N r=some d'
 new:∀{r d},K.N r=some d→(K0.N r=some d∧r∉done.map Cx.r)∨(r∈done.map Cx.r∧d.v=y∧u3 K0 K ah x l d.lo∧u3 K0 K ah x l d.hi)∨(K0.N r=none∧d.v=x∧qY K0 ah l d.lo∧qY K0 ah l d.hi)
 used:K.used=K0.used+(made.filter fun k=>(K.T k).isSome).length
structure TB(K0:Kd)(S0:Nat→Fn)(ah:Nat→Nat)(x y l:Nat)(all:List Cx)(made:List Nd):Prop where
 ok:Ok K0 S0 ah
 nb:Nb K0.n ah x y l
 cx:Gn K0.N x y all
 Vh:Made K0 x all made
 room:K0.used+made.length≤K0.cap
section
variable {K0 K:Kd} {S0 S:Nat→Fn} {ah:Nat→Nat} {x y l:Nat} {made:List Nd} {done rest all:List Cx} {P:Nat→Nat}
theorem TB.mC(b:TB K0 S0 ah x y l all made){c:Cx}(hc:c∈all):K0.N c.r=some c.d∧c.d.v=x∧c=mB K0.N y c.r c.d:=by
 obtain⟨⟨h1,h2,_⟩,h3⟩:=(b.cx.mem c).1 hc
 exact⟨h1,h2,h3⟩
theorem TB.Om(b:TB K0 S0 ah x y l all made){c:Cx}(hc:c∈all):(qY K0 ah l c.uW∧qY K0 ah l c.rF)∧(qY K0 ah l c.uV∧qY K0 ah l c.rE):=by
 obtain⟨h1,h2,h3⟩:=b.mC hc
 have k1:=jX b.ok.wf b.ok.lv b.ok.mid.int b.nb h1 h2 (k:=⟨x,pl K0.N y c.d.lo,pl K0.N y c.d.hi⟩) List.mem_cons_self
 have k2:=jX b.ok.wf b.ok.lv b.ok.mid.int b.nb h1 h2 (k:=⟨x,ph K0.N y c.d.lo,ph K0.N y c.d.hi⟩) (List.mem_cons_of_mem _ List.mem_cons_self)
 rw[h3]
 exact⟨⟨k1.2.1,k1.2.2⟩,⟨k2.2.1,k2.2.2⟩⟩
theorem TB.level(b:TB K0 S0 ah x y l all made){c:Cx}(hc:c∈all):dep K0.n ah K0.N c.r=l:=by
 obtain⟨h1,h2,_⟩:=b.mC hc
 rw[ay h1,h2,b.nb.lx]
theorem TB.start(b:TB K0 S0 ah x y l all made){T:Nd→Option Nat}(hm:iP {K0 with T:=T} S0 (fun s=>∃c∈all,s=c.r) zero')(hT:∀d,T d=none∨T d=K0.T d):
  TI K0 S0 ah x y l made {K0 with T:=T} S0 [] all zero' where
 mid:=hm
 n:=rfl
 cap:=rfl
 hold:=fun _=>rfl
 ext:=fun _ _=>rfl
 old:=fun h _=>h
 kept:=fun h=>⟨_,h⟩
 new:=fun h=>.inl ⟨h,by simp⟩
 used:=by
  have:made.filter (fun k=>(T k).isSome)=[]:=by
   rw[List.filter_eq_nil_iff]
   intro k hk
   have h1:=((b.Vh.mem k).1 hk).2.1
   rcases hT k with h2|h2
   ·rw[h2];simp
   ·rw[h2,h1];simp
  show K0.used=K0.used+(made.filter (fun k=>(T k).isSome)).length
  rw[this];simp
theorem TI.Oo(b:TB K0 S0 ah x y l all made)(h:TI K0 S0 ah x y l made K S done rest P)(hd:∀c∈done,c∈all){t:Nat}(ht:qY K0 ah l t):K.N t=K0.N t:=by
 rcases ht with⟨ht|⟨d,cV⟩,hlt⟩
 ·cases e:K.N t with
  |none=>rw[b.ok.wf.const ht]
  |some d=>have:=(h.mid.two e).1;omega
 ·rw[cV]
  refine h.old cV fun hm=>?_
  obtain⟨c,hc,e⟩:=List.mem_map.1 hm
  have:=b.level (hd c hc)
  rw[e]at this;omega
theorem TI.po(b:TB K0 S0 ah x y l all made)(h:TI K0 S0 ah x y l made K S done rest P)(hd:∀c∈done,c∈all){t:Nat}(ht:qY K0 ah l t):live K.N t:=by
 have e:=h.Oo b hd ht
 rcases ht.1 with ht|⟨d,cV⟩
 ·exact .inl ht
 ·exact .inr ⟨d,by rw[e];exact cV⟩
theorem TI.py(b:TB K0 S0 ah x y l all made)(h:TI K0 S0 ah x y l made K S done rest P)(hd:∀c∈done,c∈all){t:Nat}(ht:u3 K0 K ah x l t):live K.N t:=by
 rcases ht with ht|⟨e,he,_⟩
 ·exact h.po b hd ht
 ·exact .inr ⟨e,he⟩
theorem TI.use(h:TI K0 S0 ah x y l made K S done rest P){r:Nat}{cZ:List Nat}(hl:cZ.length=K.us.length)(h1:cZ.getD r 0=K.use r+1)(h2:∀s,s≠r→cZ.getD s 0=K.use s):
  TI K0 S0 ah x y l made {K with us:=cZ} S done rest (up P r (P r+1)) where
 mid:=h.mid.more hl h1 h2
 n:=h.n
 cap:=h.cap
 hold:=h.hold
 ext:=h.ext
 old:=h.old
 kept:=h.kept
 new:=h.new
 used:=h.used
theorem TI.congr(h:TI K0 S0 ah x y l made K S done rest P){P':Nat→Nat}(hP:∀s,2≤s→P s=P' s):TI K0 S0 ah x y l made K S done rest P' where
 mid:=h.mid.congr (fun _=>Iff.rfl) hP
 n:=h.n
 cap:=h.cap
 hold:=h.hold
 ext:=h.ext
 old:=h.old
 kept:=h.kept
 new:=h.new
 used:=h.used
theorem filter_lt{α:Type}{p:α→Bool}{k:α}:∀{m:List α},k∈m→p k=false→(m.filter p).length<m.length
 | [],h,_=>by simp at h
 |z::m,h,hp=>by
  rcases List.mem_cons.1 h with rfl|h
  ·rw[List.filter_cons,if_neg (by simp[hp])]
   have:=List.length_filter_le p m
   simp;omega
  ·have:=filter_lt h hp
   rw[List.filter_cons]
   split
   ·rw[List.length_cons,List.length_cons];omega
   ·rw[List.length_cons];omega
theorem TI.fits(b:TB K0 S0 ah x y l all made)(h:TI K0 S0 ah x y l made K S done rest P){k:Nd}(hk:k∈made)(hT:K.T k=none):K.used<K.cap:=by
 have h1:=filter_lt (p:=fun k=>(K.T k).isSome) hk (by rw[hT];rfl)
 have h2:=h.used
 have h3:=b.room
 have h4:=h.cap
 omega
theorem mw{T:Nd→Option Nat}{k:Nd}{r:Nat}:∀{m:List Nd},m.Nodup→T k=none→(m.filter fun d=>(oQ T k (some r) d).isSome).length=(m.filter fun d=>(T d).isSome).length+(if k∈m then 1 else 0)
 | [],_,_=>rfl
 |z::m,hn,hT=>by
  obtain⟨h1,h2⟩:=List.nodup_cons.1 hn
  have ih:=mw (r:=r) h2 hT
  rw[List.filter_cons,List.filter_cons]
  by_cases e:z=k
  ·subst e
   rw[iQ,hT]
   simp only[Option.isSome_some,if_true,Option.isSome_none,Bool.false_eq_true,if_false,List.length_cons,ih,if_neg h1,List.mem_cons,true_or]
  ·rw[n9 e]
   have e2:(k∈z::m)↔k∈m:=by rw[List.mem_cons];exact⟨fun h=>h.resolve_left (fun h=>e h.symm),.inr⟩
   simp only[e2]
   split
   ·simp only[List.length_cons,ih];omega
   ·exact ih
theorem TB.xh(b:TB K0 S0 ah x y l all made){t:Nat}(ht:qY K0 ah l t){e:Nd}(he:K0.N t=some e):l+1<ah e.v:=by
 have:=ht.2
 rwa [ay he]at this
theorem TB.yO(b:TB K0 S0 ah x y l all made){c:Cx}(hc:c∈all)(h1:qY K0 ah l c.d.lo)(h2:qY K0 ah l c.d.hi):False:=by
 obtain⟨⟨_,_,h3⟩,_⟩:=(b.cx.mem c).1 hc
 have hy:=b.nb.ly
 rcases h3 with⟨e,he,hv⟩|⟨e,he,hv⟩
 ·have:=b.xh h1 he;rw[hv]at this;omega
 ·have:=b.xh h2 he;rw[hv]at this;omega
theorem TI.Lf(b:TB K0 S0 ah x y l all made)(h:TI K0 S0 ah x y l made K S done rest P)(hd:∀c∈done,c∈all)(hr:∀c∈rest,c∈all){c:Cx}(hc:c∈all){k:Nd}(hk:k∈keys x c)(hne:k.lo≠k.hi)(h1:qY K0 ah l k.lo)(h2:qY K0 ah l k.hi)(hT:K.T k=none):k∈made:=by
 refine(b.Vh.mem k).2 ⟨⟨c,hc,hk⟩,?_,hne⟩
 cases e:K0.T k with
 |none=>rfl
 |some s=>
  have hs:=((b.ok.mid.iJ k s).1 e).1
  have hno:∀c'∈all,s≠c'.r:=fun c' lB e'=>by
   have h3:=(b.mC lB).1
   rw[←e',hs]at h3
   cases h3
   exact b.yO lB h1 h2
  have BB:K.N s=some k:=by
   refine h.old hs fun hm=>?_
   obtain⟨c',lB,e'⟩:=List.mem_map.1 hm
   exact hno c' (hd c' lB) e'.symm
  have:=(h.mid.iJ k s).2 ⟨BB,by rintro⟨c',lB,e'⟩;exact hno c' (hr c' lB) e'⟩
  rw[hT]at this;cases this
theorem TI.lay(b:TB K0 S0 ah x y l all made)(h:TI K0 S0 ah x y l made K S done rest P)(hd:∀c∈done,c∈all)(hr:∀c∈rest,c∈all){c:Cx}(hc:c∈all){k:Nd}(hk:k∈keys x c)(hne:k.lo≠k.hi)(hT:K.T k=none)
 {r:Nat}{cZ cI:List Nat}(hN:K.N r=none)(h2:2≤r∧r<K.cap)(hl:cZ.length=cI.length)(hf:r<cZ.length∧K.us.length≤cZ.length)(u0:cZ.getD r 0=0)(u1:∀s,2≤s→s≠r→cZ.getD s 0=K.use s+e1 (some k) s)(o0:cI.getD r 0=0)(o1:∀s,s≠r→cI.getD s 0=K.hold s)(hP:P r=0):
  TI K0 S0 ah x y l made {K with N:=up K.N r (some k),T:=oQ K.T k (some r),used:=K.used+1,us:=cZ,ho:=cI} (up S r (ite S k)) done rest P∧u3 K0 {K with N:=up K.N r (some k),T:=oQ K.T k (some r),used:=K.used+1,us:=cZ,ho:=cI} ah x l r:=by
 have kU:=b.Om hc
 have hkv:k.v=x∧qY K0 ah l k.lo∧qY K0 ah l k.hi:=by
  simp only[keys,List.mem_cons,List.not_mem_nil,or_false]at hk
  rcases hk with rfl|rfl
  ·exact⟨rfl,kU.1.1,kU.1.2⟩
  ·exact⟨rfl,kU.2.1,kU.2.2⟩
 have VZ:K0.N r=none:=by
  cases e:K0.N r with
  |none=>rfl
  |some d=>obtain⟨d',cV⟩:=h.kept e;rw[hN]at cV;cases cV
 have hkm:=h.Lf b hd hr hc hk hne hkv.2.1 hkv.2.2 hT
 have hE:¬∃c∈rest,r=c.r:=by
  rintro⟨c',lB,rfl⟩
  have:=(b.mC (hr c' lB)).1
  rw[VZ]at this;cases this
 have BF:∀{t},u3 K0 K ah x l t→u3 K0 {K with N:=up K.N r (some k),T:=oQ K.T k (some r),used:=K.used+1,us:=cZ,ho:=cI} ah x l t:=fun ht=>by
  rcases ht with ht|⟨e,he,h3⟩
  ·exact .inl ht
  ·refine .inr ⟨e,?_,h3⟩
   show up K.N r (some k) _=_
   rw[aJ (fun e2=>by rw[e2,hN]at he;cases he)];exact he
 refine⟨⟨h.mid.lay hN h2 (by rw[hkv.1,h.n];exact b.nb.xn) hne (h.po b hd hkv.2.1) (h.po b hd hkv.2.2) hT hE hP (h.fits b hkm hT) hl hf u0 u1 o0 o1,h.n,h.cap,fun s=>?_,fun s hs=>?_,fun{s d} hs hm=>?_,fun{s d} hs=>?_,fun{s d} hs=>?_,?_⟩,?_⟩
 ·show cI.getD s 0=_
  rw[←h.hold]
  by_cases e:s=r
  ·subst e
   rw[o0]
   refine(Classical.byContradiction fun hno=>?_)
   obtain⟨d,cV⟩:=h.mid.held s (fun e=>hno e.symm)
   rw[hN]at cV;cases cV
  ·exact o1 s e
 ·rw[aJ (fo hs h2.1 VZ)];exact h.ext s hs
 ·show up K.N r (some k) s=_
  rw[aJ (fun e=>by rw[e,VZ]at hs;cases hs)];exact h.old hs hm
 ·obtain⟨d',cV⟩:=h.kept hs
  exact⟨d',by show up K.N r (some k) s=_;rw[aJ (fun e=>by rw[e,VZ]at hs;cases hs)];exact cV⟩
 ·have hs':up K.N r (some k) s=some d:=hs
  by_cases e:s=r
  ·subst e
   rw[aI]at hs';cases hs'
   exact .inr (.inr ⟨VZ,hkv⟩)
  ·rw[aJ e]at hs'
   rcases h.new hs' with h1|⟨h1,mq,h3,h4⟩|h1
   ·exact .inl h1
   ·exact .inr (.inl ⟨h1,mq,BF h3,BF h4⟩)
   ·exact .inr (.inr h1)
 ·show K.used+1=K0.used+(made.filter fun d=>(oQ K.T k (some r) d).isSome).length
  rw[mw b.Vh.nd hT,if_pos hkm,h.used];omega
 ·exact .inr ⟨k,aI,hkv⟩
theorem TI.found(b:TB K0 S0 ah x y l all made)(h:TI K0 S0 ah x y l made K S done rest P){c:Cx}(hc:c∈all){k:Nd}(hk:k∈keys x c){r:Nat}(hT:K.T k=some r):K.N r=some k∧u3 K0 K ah x l r:=by
 have kU:=b.Om hc
 have hN:=((h.mid.iJ k r).1 hT).1
 simp only[keys,List.mem_cons,List.not_mem_nil,or_false]at hk
 rcases hk with rfl|rfl
 ·exact⟨hN,.inr ⟨_,hN,rfl,kU.1.1,kU.1.2⟩⟩
 ·exact⟨hN,.inr ⟨_,hN,rfl,kU.2.1,kU.2.2⟩⟩
theorem TI.Qk(b:TB K0 S0 ah x y l all made)(h:TI K0 S0 ah x y l made K S done rest P){a a' t:Nat}(la:qY K0 ah l a)(KT:qY K0 ah l a')(g:(a=a'∧t=a)∨K.N t=some ⟨x,a,a'⟩)(z:Nat):S t z=ite S0 ⟨x,a,a'⟩ z:=by
 rcases g with⟨rfl,rfl⟩|g
 ·rw[h.ext t la.1];unfold ite;simp
 ·rw[h.mid.int.node g]
  unfold ite
  simp only
  rw[h.ext a la.1,h.ext a' KT.1]
theorem TI.On(b:TB K0 S0 ah x y l all made)(h:TI K0 S0 ah x y l made K S done rest P)(hd:∀c∈done,c∈all){a a' t:Nat}(ht:qY K0 ah l t)(g:K.N t=some ⟨x,a,a'⟩):False:=by
 rw[h.Oo b hd ht]at g
 have:=b.xh ht g
 have hx:=b.nb.lx
 simp only at this;omega
theorem TI.wE(b:TB K0 S0 ah x y l all made){c:Cx}(h:TI K0 S0 ah x y l made K S done (c::rest) P)(hd:∀c∈done,c∈all)(hr:∀c'∈c::rest,c'∈all)(hn:((done++c::rest).map Cx.r).Nodup){t0 t1:Nat}
 (k0:u3 K0 K ah x l t0)(k1:u3 K0 K ah x l t1)(g0:(c.uW=c.rF∧t0=c.uW)∨K.N t0=some ⟨x,c.uW,c.rF⟩)(g1:(c.uV=c.rE∧t1=c.uV)∨K.N t1=some ⟨x,c.uV,c.rE⟩){P':Nat→Nat}(hP:∀s,2≤s→P' s+e1 (some ⟨y,t0,t1⟩) s=P s+e1 (some c.d) s):
  K.T ⟨y,t0,t1⟩=none∧TI K0 S0 ah x y l made {K with N:=up K.N c.r (some ⟨y,t0,t1⟩),T:=oQ K.T ⟨y,t0,t1⟩ (some c.r)} S (done++[c]) rest P':=by
 have hc:=hr c (by simp)
 obtain⟨xz,FE,hce⟩:=b.mC hc
 obtain⟨⟨l00,l10⟩,⟨l01,ZG⟩⟩:=b.Om hc
 have w:=b.ok.wf
 have hi:=b.ok.mid.int
 have hlo:=w.lo xz
 have hhi:=w.hi xz
 rw[FE,b.nb.lx]at hlo hhi
 have ep:c.uW=pl K0.N y c.d.lo∧c.uV=ph K0.N y c.d.lo∧c.rF=pl K0.N y c.d.hi∧c.rE=ph K0.N y c.d.hi:=by rw[hce];exact⟨rfl,rfl,rfl,rfl⟩
 have both:c.uW=c.rF→c.uV=c.rE→False:=fun e1 e2=>by
  rw[ep.1,ep.2.2.1]at e1
  rw[ep.2.1,ep.2.2.2]at e2
  exact w.ne xz (w.OX b.ok.lv hi b.nb.yy hlo.1 hhi.1 hlo.2 hhi.2 e1 e2)
 have Yg:c.r∉done.map Cx.r:=by
  rw[List.map_append,List.nodup_append]at hn
  intro hm
  exact hn.2.2 _ hm _ (by simp) rfl
 have FG:=h.old xz Yg
 have fn0:=fun z=>h.Qk b l00 l10 g0 z
 have fn1:=fun z=>h.Qk b l01 ZG g1 z
 have hS:∀z,S c.r z=ite S ⟨y,t0,t1⟩ z:=fun z=>by
  rw[h.ext c.r (.inr ⟨_,xz⟩),tv w b.ok.lv hi b.nb xz FE z]
  unfold ite
  simp only
  have a0:=fn0 z
  have a1:=fn1 z
  unfold ite at a0 a1
  simp only at a0 a1
  rw[a0,a1,ep.1,ep.2.1,ep.2.2.1,ep.2.2.2]
 have hne:t0≠t1:=fun e=>by
  subst e
  rcases g0 with⟨e1,e2⟩|g0
  ·rcases g1 with⟨e3,e4⟩|g1
   ·exact both e1 e3
   ·rw[e2]at g1;exact h.On b hd l00 g1
  ·rcases g1 with⟨e3,e4⟩|g1
   ·rw[e4]at g0;exact h.On b hd l01 g0
   ·rw[g0]at g1
    simp only[Option.some.injEq,Nd.mk.injEq,true_and]at g1
    obtain⟨q1,q2⟩:=g1
    obtain⟨⟨_,_,SN⟩,_⟩:=(b.cx.mem c).1 hc
    rw[ep.1,ep.2.1]at q1
    rw[ep.2.2.1,ep.2.2.2]at q2
    rcases SN with⟨e,he,hv⟩|⟨e,he,hv⟩
    ·have:=N9 he hv
     rw[this.1,this.2]at q1
     exact w.ne he q1
    ·have:=N9 he hv
     rw[this.1,this.2]at q2
     exact w.ne he q2
 have hT:K.T ⟨y,t0,t1⟩=none:=by
  cases e:K.T ⟨y,t0,t1⟩with
  |none=>rfl
  |some s=>
   obtain⟨hs,Si⟩:=(h.mid.iJ _ s).1 e
   rcases h.new hs with⟨h1,_⟩|⟨h1,_⟩|⟨_,h1,_⟩
   ·have q1:=w.lo h1
    have q2:=w.hi h1
    simp only at q1 q2
    rw[b.nb.ly]at q1 q2
    have p1:c.uW=c.rF:=by
     rcases g0 with⟨e1,_⟩|g0
     ·exact e1
     ·exact(h.On b hd q1 g0).elim
    have p2:c.uV=c.rE:=by
     rcases g1 with⟨e1,_⟩|g1
     ·exact e1
     ·exact(h.On b hd q2 g1).elim
    exact(both p1 p2).elim
   ·obtain⟨c',lB,e'⟩:=List.mem_map.1 h1
    have LK:=(b.mC (hd c' lB)).1
    have:c'.r=c.r:=w.same b.ok.lv hi (.inr ⟨_,LK⟩) (.inr ⟨_,xz⟩) fun z=>by
     rw[←h.ext c'.r (.inr ⟨_,LK⟩),←h.ext c.r (.inr ⟨_,xz⟩),hS z,e',h.mid.int.node hs z];rfl
    exact absurd (List.mem_map.2 ⟨c',lB,this⟩) Yg
   ·exact absurd h1 (Ne.symm b.nb.ne)
 have BF:∀{t},u3 K0 K ah x l t→u3 K0 {K with N:=up K.N c.r (some ⟨y,t0,t1⟩),T:=oQ K.T ⟨y,t0,t1⟩ (some c.r)} ah x l t:=fun ht=>by
  rcases ht with ht|⟨e,he,h3⟩
  ·exact .inl ht
  ·refine .inr ⟨e,?_,h3⟩
   show up K.N c.r (some ⟨y,t0,t1⟩) _=_
   refine(aJ fun e2=>?_).trans he
   rw[e2,FG]at he
   cases he
   exact b.yO hc h3.2.1 h3.2.2
 have hml:∀s,s∈(done++[c]).map Cx.r↔s∈done.map Cx.r∨s=c.r:=fun s=>by simp[List.mem_append]
 refine⟨hT,⟨(h.mid.wE FG ⟨c,by simp,rfl⟩ (by rw[h.n];exact b.nb.yn) hne (h.py b hd k0) (h.py b hd k1) hT hS hP).congr (fun s=>?_) (fun _ _=>rfl),h.n,h.cap,h.hold,h.ext,fun{s d} hs hm=>?_,fun{s d} hs=>?_,fun{s d} hs=>?_,?_⟩⟩
 ·constructor
  ·rintro⟨⟨c',lB,rfl⟩,h2⟩
   rcases List.mem_cons.1 lB with rfl|lB
   ·exact absurd rfl h2
   ·exact⟨c',lB,rfl⟩
  ·rintro⟨c',lB,rfl⟩
   refine⟨⟨c',List.mem_cons_of_mem _ lB,rfl⟩,fun e=>?_⟩
   rw[List.map_append,List.nodup_append]at hn
   have:=hn.2.1
   rw[List.map_cons,List.nodup_cons]at this
   exact this.1 (List.mem_map.2 ⟨c',lB,e⟩)
 ·have hm':=fun x=>hm ((hml s).2 x)
  show up K.N c.r _ s=_
  rw[aJ (fun e=>hm' (.inr e))];exact h.old hs (fun x=>hm' (.inl x))
 ·by_cases e:s=c.r
  ·exact⟨⟨y,t0,t1⟩,by show up K.N c.r (some _) s=_;rw[e,aI]⟩
  ·obtain⟨d',cV⟩:=h.kept hs
   exact⟨d',by show up K.N c.r (some _) s=_;rw[aJ e];exact cV⟩
 ·have hs':up K.N c.r (some ⟨y,t0,t1⟩) s=some d:=hs
  by_cases e:s=c.r
  ·rw[e,aI]at hs';cases hs'
   exact .inr (.inl ⟨(hml s).2 (.inr e),rfl,BF k0,BF k1⟩)
  ·rw[aJ e]at hs'
   rcases h.new hs' with⟨h1,h2⟩|⟨h1,h2,h3,h4⟩|h1
   ·exact .inl ⟨h1,fun hm=>((hml s).1 hm).elim h2 e⟩
   ·exact .inr (.inl ⟨(hml s).2 (.inl h1),h2,BF h3,BF h4⟩)
   ·exact .inr (.inr h1)
 ·show K.used=K0.used+(made.filter fun d=>(oQ K.T ⟨y,t0,t1⟩ (some c.r) d).isSome).length
  have hnm:(⟨y,t0,t1⟩:Nd)∉made:=fun hm=>by
   obtain⟨⟨c',lB,hk⟩,_⟩:=(b.Vh.mem _).1 hm
   simp only[keys,List.mem_cons,List.not_mem_nil,or_false,Nd.mk.injEq]at hk
   rcases hk with⟨e,_⟩|⟨e,_⟩
   ·exact b.nb.ne e.symm
   ·exact b.nb.ne e.symm
  rw[mw b.Vh.nd hT,if_neg hnm,h.used];rfl
theorem TI.levels(b:TB K0 S0 ah x y l all made)(h:TI K0 S0 ah x y l made K S all [] P){s:Nat}{d:Nd}(hs:K.N s=some d):
  rp ah x y l d.v<dep K0.n (rp ah x y l) K.N d.lo∧rp ah x y l d.v<dep K0.n (rp ah x y l) K.N d.hi:=by
 have w:=b.ok.wf
 have hd:∀c∈all,c∈all:=fun _ h=>h
 have Se:l+1<K0.n:=by have:=b.ok.lv.lt y b.nb.yn;rw[b.nb.ly]at this;exact this
 have sx:rp ah x y l x=l+1:=by simp[rp]
 have sy:rp ah x y l y=l:=by unfold rp;rw[if_neg (Ne.symm b.nb.ne),if_pos rfl]
 have so:∀v,v<K0.n→ah v≠l→ah v≠l+1→rp ah x y l v=ah v:=fun v hv h1 h2=>by
  unfold rp
  rw[if_neg (fun e=>h1 (by rw[e];exact b.nb.lx)),if_neg (fun e=>h2 (by rw[e];exact b.nb.ly))]
 have low:∀{t},qY K0 ah l t→l+1<dep K0.n (rp ah x y l) K.N t:=fun{t} ht=>by
  have e:=h.Oo b hd ht
  cases e2:K0.N t with
  |none=>rw[aU (by rw[e,e2])];exact Se
  |some e'=>
   have:=b.xh ht e2
   rw[ay (by rw[e,e2]),so _ (w.var e2) (by omega) (by omega)];exact this
 have ZH:∀{t},u3 K0 K ah x l t→l<dep K0.n (rp ah x y l) K.N t:=fun{t} ht=>by
  rcases ht with ht|⟨e,he,hx,_⟩
  ·have:=low ht;omega
  ·rw[ay he,hx,sx];omega
 rcases h.new hs with⟨h1,h2⟩|⟨_,h2,h3,h4⟩|⟨_,h2,h3,h4⟩
 ·have hv:=w.var h1
  have q1:=w.lo h1
  have q2:=w.hi h1
  rcases Nat.lt_trichotomy (ah d.v) l with hlt|heq|hgt
  ·rw[so _ hv (by omega) (by omega)]
   have up':∀{t},live K0.N t→ah d.v<dep K0.n ah K0.N t→ah d.v<dep K0.n (rp ah x y l) K.N t:=fun{t} ht ic=>by
    cases e:K.N t with
    |none=>rw[aU e];exact Nat.lt_of_lt_of_le ic (w.jG b.ok.lv t)
    |some e'=>
     rw[ay e]
     rcases h.new e with⟨g1,_⟩|⟨_,g2,_⟩|⟨g1,_⟩
     ·rw[ay g1]at ic
      have ZR:=w.var g1
      by_cases e1:ah e'.v=l
      ·have:e'.v=x:=b.ok.lv.inj _ _ ZR b.nb.xn (by rw[b.nb.lx];exact e1)
       rw[this,sx];omega
      ·by_cases e2:ah e'.v=l+1
       ·have:e'.v=y:=b.ok.lv.inj _ _ ZR b.nb.yn (by rw[b.nb.ly];exact e2)
        rw[this,sy];exact hlt
       ·rw[so _ ZR e1 e2];exact ic
     ·rw[g2,sy];exact hlt
     ·rcases ht with ht|⟨f,hf⟩
      ·have:=(h.mid.two e).1;omega
      ·rw[g1]at hf;cases hf
   exact⟨up' q1.1 q1.2,up' q2.1 q2.2⟩
  ·have hx:d.v=x:=b.ok.lv.inj _ _ hv b.nb.xn (by rw[b.nb.lx];exact heq)
   rw[hx,sx]
   have nc:∀t,t=d.lo∨t=d.hi→∀e,K0.N t=some e→e.v≠y:=fun t ht e he hv=>h2 (List.mem_map.2 ⟨mB K0.N y s d,(b.cx.mem _).2 ⟨⟨h1,hx,by
    rcases ht with rfl|rfl
    ·exact .inl ⟨e,he,hv⟩
    ·exact .inr ⟨e,he,hv⟩⟩,rfl⟩,rfl⟩)
   have lw:∀t,t=d.lo∨t=d.hi→live K0.N t→ah d.v<dep K0.n ah K0.N t→qY K0 ah l t:=fun t ht hlv hlt=>by
    refine⟨hlv,?_⟩
    have:=(w.half b.ok.lv b.ok.mid.int b.nb.yy hlv (by omega:l<dep K0.n ah K0.N t)).1.2
    rwa [(Oa (nc t ht)).1]at this
   exact⟨low (lw _ (.inl rfl) q1.1 q1.2),low (lw _ (.inr rfl) q2.1 q2.2)⟩
  ·by_cases e:ah d.v=l+1
   ·have hy:d.v=y:=b.ok.lv.inj _ _ hv b.nb.yn (by rw[b.nb.ly];exact e)
    rw[hy,sy]
    have a1:=low ⟨q1.1,by omega⟩
    have a2:=low ⟨q2.1,by omega⟩
    exact⟨by omega,by omega⟩
   ·rw[so _ hv (by omega) e]
    have deep:∀{t},live K0.N t→ah d.v<dep K0.n ah K0.N t→ah d.v<dep K0.n (rp ah x y l) K.N t:=fun{t} ht ic=>by
     have hl:qY K0 ah l t:=⟨ht,by omega⟩
     have e':=h.Oo b hd hl
     cases e2:K0.N t with
     |none=>rw[aU (by rw[e',e2])];exact b.ok.lv.lt _ hv
     |some f=>
      rw[ay e2]at ic
      rw[ay (by rw[e',e2]),so _ (w.var e2) (by omega) (by omega)];exact ic
    exact⟨deep q1.1 q1.2,deep q2.1 q2.2⟩
 ·rw[h2,sy];exact⟨ZH h3,ZH h4⟩
 ·rw[h2,sx];exact⟨low h3,low h4⟩
theorem TI.fin(b:TB K0 S0 ah x y l all made)(h:TI K0 S0 ah x y l made K S all [] P){K':Kd}(hm:iP K' S gS zero')(hp:Pos K')(hN:∀{s d},K'.N s=some d→K.N s=some d)(hn:K'.n=K.n)(hh:∀r,K'.hold r=K.hold r):
  Ok K' S (rp ah x y l)∧(∀g,K'.held S g↔K0.held S0 g)∧∀r,K0.hold r≠0→S r=S0 r:=by
 have Wx:∀r,K0.hold r≠0→S r=S0 r:=fun r hr=>h.ext r (.inr (b.ok.mid.held r hr))
 refine⟨⟨hm,hp,by rw[hn,h.n];exact NT b.ok.lv b.nb,hm.wf fun{s d} hs=>?_⟩,fun g=>?_,Wx⟩
 ·have hl:=h.levels b (hN hs)
  have same:∀{t},live K'.N t→dep K'.n (rp ah x y l) K'.N t=dep K0.n (rp ah x y l) K.N t:=fun{t} ht=>by
   cases e:K'.N t with
   |some f=>rw[ay e,ay (hN e)]
   |none=>
    have Nl:t<2:=by
     rcases ht with ht|⟨f,hf⟩
     ·exact ht
     ·rw[e]at hf;cases hf
    have:K.N t=none:=by
     cases e2:K.N t with
     |none=>rfl
     |some f=>have:=(h.mid.two e2).1;omega
    rw[aU e,aU this,hn,h.n]
  rw[same (hm.lo hs),same (hm.hi hs)];exact hl
 ·constructor
  ·rintro⟨r,hr,rfl⟩
   have hr':K0.hold r≠0:=by rw[←h.hold,←hh];exact hr
   exact⟨r,hr',Wx r hr'⟩
  ·rintro⟨r,hr,rfl⟩
   exact⟨r,by show K'.hold r≠0;rw[hh,h.hold];exact hr,(Wx r hr).symm⟩
end
end aE
namespace aE
open an
variable {n cap l:Nat} {ord:List Nat} {F G:Fn→Prop}
open Classical in
noncomputable def sz(n:Nat)(ord:List Nat)(F:Fn→Prop):Nat:=if h:∃k,qF (aO n ord F) k then Classical.choose h else 0
theorem Qa{k:Nat}(h:qF (aO n ord F) k):sz n ord F=k:=by
 unfold sz
 rw[dif_pos ⟨k,h⟩]
 exact(Classical.choose_spec (⟨k,h⟩:∃k,qF (aO n ord F) k)).uniq h
def EP(n:Nat)(ord:List Nat)(l:Nat)(F:Fn→Prop):Fn→Prop:=fun g=>aO n ord F g∨aO n (ik ord l) F g
open Classical in
noncomputable def yu(n:Nat)(ord:List Nat)(l:Nat)(F:Fn→Prop):Nat:=if h:∃k,qF (EP n ord l F) k then Classical.choose h else 0
theorem JR{k:Nat}(h:qF (EP n ord l F) k):yu n ord l F=k:=by
 unfold yu
 rw[dif_pos ⟨k,h⟩]
 exact(Classical.choose_spec (⟨k,h⟩:∃k,qF (EP n ord l F) k)).uniq h
theorem Kf(e:∀g,F g↔G g):sz n ord F=sz n ord G:=by
 have:F=G:=funext fun g=>propext (e g)
 rw[this]
theorem GH(e:∀g,F g↔G g):yu n ord l F=yu n ord l G:=by
 have:F=G:=funext fun g=>propext (e g)
 rw[this]
theorem zN{a b:List Nat}(hl:a.length=b.length)(h:∀i,i<a.length→a.getD i 0=b.getD i 0):a=b:=by
 refine List.ext_getElem hl fun i h1 h2=>?_
 have:=h i h1
 simpa[List.getD,List.getElem?_eq_getElem h1,List.getElem?_eq_getElem h2]using this
theorem wK(hl:l+1<ord.length):ik (ik ord l) l=ord:=by
 refine zN (by rw[kI,kI]) fun i _=>?_
 have h2:l+1<(ik ord l).length:=by rw[kI];exact hl
 rw[ei h2,ei hl,ei hl,ei hl]
 by_cases e:i=l
 ·subst e;simp
 ·by_cases e2:i=l+1
  ·subst e2;simp
  ·simp[e,e2]
theorem NL(hl:l+1<ord.length):yu n (ik ord l) l F=yu n ord l F:=by
 have:EP n (ik ord l) l F=EP n ord l F:=by
  funext g
  unfold EP
  rw[wK hl]
  exact propext or_comm
 unfold yu
 rw[this]
def uX(n cap:Nat)(F:Fn→Prop):List Nat→List Nat→Prop
 |_,[]=>True
 |ord,l::r=>l+1<n∧yu n ord l F+2≤cap∧uX n cap F (ik ord l) r
theorem uX.congr(e:∀g,F g↔G g):∀{tr ord:List Nat},uX n cap F ord tr→uX n cap G ord tr:=by
 have:F=G:=funext fun g=>propext (e g)
 subst this
 exact fun{tr ord} h=>h
theorem uX.abE(hlen:ord.length=n)(hl:l+1<n)(hfit:yu n ord l F+2≤cap){tr:List Nat}(h:uX n cap F ord tr.reverse):uX n cap F (ik ord l) (tr++[l]).reverse:=by
 rw[List.reverse_append]
 exact⟨hl,by rw[NL (by omega)];exact hfit,by rw[wK (by omega)];exact h⟩
end aE
namespace aE
open an
variable {n l:Nat} {ord:List Nat} {L:an.Fs} {F:Fn→Prop}
def eX(n:Nat)(ws:List Nat):Fn:=fun x=>bit ws (x%2^n)
theorem lZ{x v n:Nat}{b:Bool}(hv:v<n):az x v b%2^n=az (x%2^n) v b:=by
 apply Nat.eq_of_testBit_eq;intro k
 rw[Nat.testBit_mod_two_pow,aq,aq,Nat.testBit_mod_two_pow]
 by_cases e:k=v
 ·subst e;simp[hv]
 ·simp[e]
theorem nq{v:Nat}{ws:List Nat}(hf:dj n ws)(hv:v<n)(b:Bool):eX n (fu n ws v b)=fun x=>eX n ws (az x v b):=by
 funext x
 unfold eX
 rw[er hf hv (Nat.mod_lt _ (Nat.two_pow_pos n)),lZ hv]
theorem Mc{ws:List Nat}{x:Nat}(h:x<2^n):eX n ws x=bit ws x:=by unfold eX;rw[Nat.mod_eq_of_lt h]
theorem xH{a b:List Nat}(ha:dj n a)(hb:dj n b)(h:eX n a=eX n b):a=b:=ha.ext hb fun x hx=>by rw[←Mc hx,←Mc hx,h]
theorem qt{v:Nat}{ws:List Nat}(hf:dj n ws)(hv:v<n):dk (eX n ws) v↔an.dep n ws v=true:=by
 rw[rX hf hv]
 constructor
 ·rintro⟨x,hx⟩
  refine⟨x%2^n,Nat.mod_lt _ (Nat.two_pow_pos n),?_⟩
  unfold eX at hx
  rwa [lZ hv,lZ hv]at hx
 ·rintro⟨x,hx,hne⟩
  refine⟨x,?_⟩
  unfold eX
  rwa [lZ hv,lZ hv,Nat.mod_eq_of_lt hx]
def cur(n:Nat)(ord:List Nat)(L:an.Fs):Nat→an.Fs
 |0=>g9 L
 |k+1=>given n (cur n ord L k) (ord.getD k 0)
def FT(n:Nat)(L:an.Fs):Fn→Prop:=fun g=>∃t∈L,g=eX n t
theorem j4:∀k,(cur n ord L k).Nodup
 |0=>fM L
 |k+1=>mu _ _ _
theorem nt(hL:∀t∈L,dj n t)(hn:n≤16):∀k,∀t∈cur n ord L k,dj n t
 |0,t,h=>hL t (cv.1 h)
 |k+1,t,h=>by obtain⟨u,_,b,rfl⟩:=bL.1 h;exact cW hn
theorem xG(hL:∀t∈L,dj n t)(hn:n≤16)(ho:∀i,i<n→ord.getD i 0<n):∀k,k≤n→∀g,fs ord (FT n L) k g↔∃t∈cur n ord L k,g=eX n t
 |0,_,g=>by
  show(∃t∈L,g=eX n t)↔_
  constructor
  ·rintro⟨t,h,e⟩;exact⟨t,cv.2 h,e⟩
  ·rintro⟨t,h,e⟩;exact⟨t,cv.1 h,e⟩
 |k+1,hk,g=>by
  have ih:=xG hL hn ho k (by omega)
  constructor
  ·rintro⟨f,hf,b,rfl⟩
   obtain⟨t,ht,rfl⟩:=(ih f).1 hf
   exact⟨fu n t (ord.getD k 0) b,bL.2 ⟨t,ht,b,rfl⟩,(nq (nt hL hn k t ht) (ho k (by omega)) b).symm⟩
  ·rintro⟨t,ht,rfl⟩
   obtain⟨u,hu,b,rfl⟩:=bL.1 ht
   exact⟨eX n u,(ih _).2 ⟨u,hu,rfl⟩,b,nq (nt hL hn k u hu) (ho k (by omega)) b⟩
theorem pG:∀k g,fs ord F k g→∀j,j<k→¬dk g (ord.getD j 0)
 |0,_,_,_,h=>absurd h (Nat.not_lt_zero _)
 |k+1,g,h,j,hj=>by
  obtain⟨f,hf,b,rfl⟩:=h
  rintro⟨x,hx⟩
  apply hx
  by_cases e:ord.getD j 0=ord.getD k 0
  ·show f (az (az x _ false) _ b)=f (az (az x _ true) _ b)
   congr 1
   apply Nat.eq_of_testBit_eq;intro i
   simp only[aq,e]
   split<;>rfl
  ·have hlt:j<k:=by
    rcases Nat.lt_succ_iff_lt_or_eq.1 hj with h|h
    ·exact h
    ·subst h;exact(e rfl).elim
   have:=pG k f hf j hlt
   show f (az (az x _ false) _ b)=f (az (az x _ true) _ b)
   rw[cF e,cF e]
   exact Classical.byContradiction fun hne=>this ⟨_,hne⟩
def jl(n:Nat)(ord:List Nat)(L:an.Fs)(k:Nat):an.Fs:=nodes n (cur n ord L k) (ord.getD k 0)
def dA(n:Nat)(ord:List Nat)(L:an.Fs):Nat→Nat
 |0=>0
 |k+1=>dA n ord L k+(jl n ord L k).length
def tH(n:Nat)(ord:List Nat)(L:an.Fs):Nat→an.Fs
 |0=>[]
 |k+1=>tH n ord L k++jl n ord L k
theorem jy:∀k,(tH n ord L k).length=dA n ord L k
 |0=>rfl
 |k+1=>by rw[tH,dA,List.length_append,jy k]
theorem l9{k:Nat}{t:List Nat}:t∈jl n ord L k↔t∈cur n ord L k∧an.dep n t (ord.getD k 0)=true:=by
 unfold jl nodes;rw[List.mem_filter]
theorem pP(hL:∀t∈L,dj n t)(hn:n≤16):∀k,∀t∈tH n ord L k,dj n t
 |0,t,h=>by cases h
 |k+1,t,h=>by
  rcases List.mem_append.1 h with h|h
  ·exact pP hL hn k t h
  ·exact nt hL hn k t (l9.1 h).1
theorem mI(hL:∀t∈L,dj n t)(hn:n≤16)(ho:∀i,i<n→ord.getD i 0<n):∀m,m≤n→∀g,(∃k,k<m∧fs ord (FT n L) k g∧dk g (ord.getD k 0))↔∃t∈tH n ord L m,g=eX n t
 |0,_,g=>by simp[tH]
 |m+1,hm,g=>by
  have ih:=mI hL hn ho m (by omega) g
  have ah:(fs ord (FT n L) m g∧dk g (ord.getD m 0))↔∃t∈jl n ord L m,g=eX n t:=by
   rw[xG hL hn ho m (by omega)]
   constructor
   ·rintro⟨⟨t,ht,rfl⟩,hh⟩
    exact⟨t,l9.2 ⟨ht,(qt (nt hL hn m t ht) (ho m (by omega))).1 hh⟩,rfl⟩
   ·rintro⟨t,ht,rfl⟩
    obtain⟨h1,h2⟩:=l9.1 ht
    exact⟨⟨t,h1,rfl⟩,(qt (nt hL hn m t h1) (ho m (by omega))).2 h2⟩
  constructor
  ·rintro⟨k,hk,h1,h2⟩
   by_cases e:k=m
   ·subst e
    obtain⟨t,ht,rfl⟩:=ah.1 ⟨h1,h2⟩
    exact⟨t,List.mem_append_right _ ht,rfl⟩
   ·obtain⟨t,ht,rfl⟩:=ih.1 ⟨k,by omega,h1,h2⟩
    exact⟨t,List.mem_append_left _ ht,rfl⟩
  ·rintro⟨t,ht,rfl⟩
   rcases List.mem_append.1 ht with ht|ht
   ·obtain⟨k,hk,h⟩:=ih.2 ⟨t,ht,rfl⟩
    exact⟨k,by omega,h⟩
   ·exact⟨m,by omega,ah.2 ⟨t,ht,rfl⟩⟩
theorem tG(hL:∀t∈L,dj n t)(hn:n≤16)(ho:∀i,i<n→ord.getD i 0<n):∀m,m≤n→(tH n ord L m).Nodup
 |0,_=>List.nodup_nil
 |m+1,hm=>by
  refine List.nodup_append.2 ⟨tG hL hn ho m (by omega),(j4 m).filter _,fun a ha b hb e=>?_⟩
  subst e
  obtain⟨k,hk,h1,h2⟩:=(mI hL hn ho m (by omega) (eX n a)).2 ⟨a,ha,rfl⟩
  have h3:=(xG hL hn ho m (by omega) (eX n a)).2 ⟨a,(l9.1 hb).1,rfl⟩
  exact pG m _ h3 k hk h2
theorem zY{P:Fn→Prop}{l:an.Fs}(hf:∀t∈l,dj n t)(hn:l.Nodup)(h:∀g,P g↔∃t∈l,g=eX n t):qF P l.length:=by
 refine⟨l.map (eX n),?_,by simp,fun g=>?_⟩
 ·refine List.pairwise_map.2 (hn.imp_of_mem fun{a b} ha hb hne heq=>hne (xH (hf a ha) (hf b hb) heq))
 ·rw[h,List.mem_map]
  constructor
  ·rintro⟨t,ht,rfl⟩;exact⟨t,ht,rfl⟩
  ·rintro⟨t,ht,rfl⟩;exact⟨t,ht,rfl⟩
theorem BU(hL:∀t∈L,dj n t)(hn:n≤16)(ho:∀i,i<n→ord.getD i 0<n):qF (aO n ord (FT n L)) (dA n ord L n):=by
 rw[←jy]
 exact zY (pP hL hn n) (tG hL hn ho n (Nat.le_refl _)) (mI hL hn ho n (Nat.le_refl _))
theorem Kg(hL:∀t∈L,dj n t)(hn:n≤16)(ho:∀i,i<n→ord.getD i 0<n):sz n ord (FT n L)=dA n ord L n:=Qa (BU hL hn ho)
def Mv(n:Nat)(ord:List Nat)(l:Nat)(L:an.Fs):an.Fs:=g9 (tH n ord L n++tH n (ik ord l) L n)
theorem RA(hl:l+1<n)(hlen:ord.length=n)(ho:∀i,i<n→ord.getD i 0<n):∀i,i<n→(ik ord l).getD i 0<n:=fun i hi=>by
 rw[ei (by omega)]
 split
 ·exact ho _ hl
 ·split
  ·exact ho _ (by omega)
  ·exact ho i hi
theorem Rw(hL:∀t∈L,dj n t)(hn:n≤16)(ho:∀i,i<n→ord.getD i 0<n)(hl:l+1<n)(hlen:ord.length=n):yu n ord l (FT n L)=(Mv n ord l L).length:=by
 have cI:=RA hl hlen ho
 refine JR (zY (n:=n) (fun t ht=>?_) (fM _) fun g=>?_)
 ·rcases List.mem_append.1 (cv.1 ht)with h|h
  ·exact pP hL hn n t h
  ·exact pP hL hn n t h
 ·unfold EP Mv
  rw[show aO n ord (FT n L) g↔_ from mI hL hn ho n (Nat.le_refl _) g,show aO n (ik ord l) (FT n L) g↔_ from mI hL hn cI n (Nat.le_refl _) g]
  constructor
  ·rintro(⟨t,h,rfl⟩|⟨t,h,rfl⟩)
   ·exact⟨t,cv.2 (List.mem_append_left _ h),rfl⟩
   ·exact⟨t,cv.2 (List.mem_append_right _ h),rfl⟩
  ·rintro⟨t,h,rfl⟩
   rcases List.mem_append.1 (cv.1 h)with h|h
   ·exact .inl ⟨t,h,rfl⟩
   ·exact .inr ⟨t,h,rfl⟩
end aE
set_option maxRecDepth 100000
namespace Go.Proofs
open Go Go.Sx
open aE
def u32(r:Nat):Value:=.int .u32 (r:Int)
def aP(d:Nd):List Value:=[.int .i64 (d.v:Int),u32 d.lo,u32 d.hi]
structure nM where
 v:Int
 lo:Nat
 hi:Nat
 tk:Bool
 c:Nat
def nM.row(p:nM):List Value:=[.int .i64 p.v,u32 p.lo,u32 p.hi,.bool p.tk,.int .u8 (p.c:Int)]
def fH(N:eu)(r:Nat):Bool:=decide (r<2)||(N r).isSome
theorem bM{N:eu}{r:Nat}:fH N r=true↔live N r:=by
 unfold fH live
 rw[Bool.or_eq_true,decide_eq_true_eq,Option.isSome_iff_exists]
def got(N:eu)(r:Nat):List Value:=
 if r<2 then [.int .i64 (-1),u32 r,u32 r]else match N r with|some d=>aP d|none=>[.int .i64 0,u32 0,u32 0]
theorem df{N:eu}{r:Nat}{d:Nd}(h:N r=some d)(h2:2≤r):got N r=aP d:=by unfold got;rw[if_neg (by omega),h]
theorem dY{N:eu}{r:Nat}(h2:r<2):got N r=[.int .i64 (-1),u32 r,u32 r]:=by unfold got;rw[if_pos h2]
theorem zA{N:eu}{r:Nat}(h:fH N r=false):got N r=[.int .i64 0,u32 0,u32 0]:=by
 unfold fH at h
 rw[Bool.or_eq_false_iff,decide_eq_false_iff_not]at h
 unfold got;rw[if_neg h.1]
 cases hN:N r with
 |none=>rfl
 |some d=>rw[hN]at h;simp at h
def G9(p:nM):Option Nd:=if p.tk then some ⟨p.v.toNat,p.lo,p.hi⟩else none
structure x5(l:List nM)(fr:List Nat)(cap used:Nat)(N:eu):Prop where
 cap:l.length≤cap∧cap≤1048576
 two:2≤l.length
 const:∀r,r<2→∃p,l[r]? =some p∧p.v= -1∧p.lo=r∧p.hi=r∧p.tk=true
 nd:∀r,2≤r→N r=(l[r]?).bind G9
 n0:∀r,r<2→N r=none
 nn:∀(r:Nat) p,2≤r→l[r]? =some p→p.tk=true→0≤p.v
 Nu:fr.Nodup
 nI:∀r,r∈fr↔∃p,l[r]? =some p∧p.tk=false
 used:used+fr.length=l.length
theorem x5.yX{l:List nM}{fr:List Nat}{cap used:Nat}{N:eu}(h:x5 l fr cap used N)(r:Nat):fH N r=(match l[r]? with|some p=>p.tk|none=>false):=by
 unfold fH
 by_cases h2:r<2
 ·obtain⟨p,hp,_,_,_,ht⟩:=h.const r h2
  simp[h2,hp,ht]
 ·rw[h.nd r (by omega)]
  cases hl:l[r]? with
  |none=>simp[h2]
  |some p=>cases ht:p.tk<;>simp[h2,G9,ht]
theorem x5.abA{l:List nM}{fr:List Nat}{cap used:Nat}{N:eu}(h:x5 l fr cap used N){r:Nat}{p:nM}(hp:l[r]? =some p)(ht:p.tk=true):got N r=p.row.take 3:=by
 by_cases h2:r<2
 ·obtain⟨p',VM,h1,mq,h3,_⟩:=h.const r h2
  rw[hp]at VM;cases VM
  rw[dY h2];simp[nM.row,h1,mq,h3]
 ·have hn:=h.nn r p (by omega) hp ht
  rw[df (d:=⟨p.v.toNat,p.lo,p.hi⟩) (by rw[h.nd r (by omega),hp];simp[G9,ht]) (by omega)]
  simp[aP,nM.row,Int.toNat_of_nonneg hn]
theorem x5.lt{l:List nM}{fr:List Nat}{cap used:Nat}{N:eu}(h:x5 l fr cap used N){r:Nat}(hr:live N r):r<l.length:=by
 have:=bM.2 hr
 rw[h.yX]at this
 cases hl:l[r]? with
 |none=>rw[hl]at this;simp at this
 |some p=>exact(List.getElem?_eq_some_iff.1 hl).1
def gY(pa cap used:Nat)(N:eu)(C:Hp):Prop:=
 ∃vl vf l fr Cl Cf,C=(pa,.cells #[.int .i64 (cap:Int),vl,vf,.int .i64 (used:Int)] 198 (0,0))::(Cl++Cf)∧
  aR 291 5 vl (l.map nM.row) Cl∧aN 77 .u32 vf (fr.map (Nat.cast:Nat→Int)) Cf∧x5 l fr cap used N
abbrev ptr(b:Nat):Value:=.pointer (some ⟨b,0,none⟩)
theorem row_one(p:nM):∀x∈p.row,x.oneCell'=true:=by intro x hx;simp[nM.row,u32]at hx;rcases hx with rfl|rfl|rfl|rfl|rfl<;>rfl
theorem oX{pa cap used r:Nat}{N:eu}{C:Hp}(h:gY pa cap used N C)(hr:r<4294967296):
  Rd Tryz.prog 253 #[ptr pa,u32 r] C (· =.bool (fH N r)):=by
 obtain⟨vl,vf,l,fr,Cl,Cf,rfl,hl,hf,ho⟩:=h
 intro g
 refine Dc (R:=aA _) ?_
 unfold L253
 refine aW.nat (by simp[aB];omega) ?_
 refine Nil.ptr ?_
 refine aa.mk (Ld.mk zM rfl ?_)
 refine hl.bC ?_
 refine ae.eA ?_
 rw[List.length_map]
 rw[ho.yX r]
 refine bT.and (match l[r]? with|some p=>p.tk|none=>false) (fun hlt=>?_) rfl fun _=>cz.mk (.refl _) ?_
 ·have ic:=of_decide_eq_true hlt
  refine Nil.ptr ?_
  refine aa.mk (Ld.mk zM rfl ?_)
  have hg:l[r]? =some l[r]:=List.getElem?_eq_getElem ic
  refine hl.RV (r:=l[r].row) (x:=.bool l[r].tk) (by rw[List.getElem?_map,hg];rfl) rfl (fun _ h=>by exact .tail _ (List.mem_append_left _ h)) ?_
  exact⟨rfl,by rw[hg]⟩
 ·congr 1
  by_cases hlt:r<l.length
  ·simp[hlt]
  ·rw[List.getElem?_eq_none (by omega)];simp
theorem L6{pa cap used r:Nat}{N:eu}{C:Hp}(h:gY pa cap used N C)(hr:r<4294967296):
  Rd Tryz.prog 231 #[ptr pa,u32 r] C (· =.tuple #[.agg (got N r).toArray,.int .i64 (if fH N r then 0 else 3)]):=by
 have h0:=h
 obtain⟨vl,vf,l,fr,Cl,Cf,rfl,hl,hf,ho⟩:=h
 intro g
 refine Dw (R:=aA _) ?_
 unfold L231
 intro b1 _
 refine ae.bJ (Br.no ?_)
 refine af.rd (.cons .here) (oX h0 hr) ?_
 rintro v rfl
 refine Un.not ?_
 refine Br.mk (fun hb=>?_) (fun hb=>?_)
 ·have hb':fH N r=false:=by simpa using hb
  refine Build.mk (cs:=[.int .i64 0,.int .u32 0,.int .u32 0]) (by kernel_rfl) ?_
  refine St.whole (r:=[.int .i64 0,.int .u32 0,.int .u32 0]) (by exact .head _) rfl rfl (by simp[Value.oneCell']) ?_
  refine aC.whole (r:=[.int .i64 0,.int .u32 0,.int .u32 0]) (by exact .head _) rfl ?_
  exact cz.mk .tail (by rw[zA hb',hb'];rfl)
 ·have hb':fH N r=true:=by simpa using hb
  have hx:=hb'
  rw[ho.yX]at hx
  cases hg:l[r]? with
  |none=>rw[hg]at hx;simp at hx
  |some p=>
  rw[hg]at hx
  simp only at hx
  refine Nil.ptr ?_
  refine aa.mk (Ld.mk zM rfl ?_)
  refine hl.RU (r:=p.row) (by rw[List.getElem?_map,hg];rfl) (by decide) (fun _ h=>by exact .tail _ (.tail _ (List.mem_append_left _ h))) ?_
  refine St.whole (r:=p.row.take 3) (by exact .head _) rfl rfl (fun x hx=>row_one p x (List.mem_of_mem_take hx)) ?_
  refine aC.whole (r:=p.row.take 3) (by exact .head _) rfl ?_
  exact cz.mk .tail (by rw[ho.abA hg hx,hb'];rfl)
structure Xz(N:eu)(d:Nd):Prop where
 v:d.v<64
 lo:live N d.lo
 hi:live N d.hi
theorem gY.lt{pa cap used r:Nat}{N:eu}{C:Hp}(h:gY pa cap used N C)(hr:live N r):r<cap∧cap≤1048576:=by
 obtain⟨vl,vf,l,fr,Cl,Cf,rfl,hl,hf,ho⟩:=h
 exact⟨Nat.lt_of_lt_of_le (ho.lt hr) ho.cap.1,ho.cap.2⟩
theorem wh{pa cap used:Nat}{N:eu}{C:Hp}{d:Nd}(h:gY pa cap used N C)(hd:Xz N d):
  Rd Tryz.prog 208 #[ptr pa,.agg (aP d).toArray] C (· =.int .i64 0):=by
 have hlo:=h.lt hd.lo
 have hhi:=h.lt hd.hi
 intro g
 refine DM (R:=aA _) ?_
 unfold L208
 intro b1 _
 refine aa.mk (Ld.mk (v:=.int .i64 (d.v:Int)) (by exact .head _) rfl ?_)
 refine ae.lss ?_
 refine bT.or (decide (64≤d.v)) (fun _=>?_) rfl fun _=>?_
 ·refine aa.mk (Ld.mk (v:=.int .i64 (d.v:Int)) (by exact .head _) rfl ?_)
  exact ae.rD (b:=64) ⟨rfl,rfl⟩
 have hv:=hd.v
 refine Br.RL (by simp;omega) ?_
 intro J hJ
 refine aa.mk (Ld.mk (v:=u32 d.lo) (by exact .head _) rfl ?_)
 refine af.rd (.cons .here) (oX h (by omega)) ?_
 rintro v rfl
 rw[bM.2 hd.lo]
 refine Un.not (Split.go rfl ?_)
 refine aa.mk (Ld.mk (v:=u32 d.hi) (by exact .head _) rfl ?_)
 refine af.rd (.cons .here) (oX h (by omega)) ?_
 rintro v rfl
 rw[bM.2 hd.hi]
 refine Un.not (aF.mk (JE.mk (hJ _ _ fun gs=>Br.no (cz.mk .tail rfl))))
theorem KA{pa cap used r:Nat}{N:eu}{C:Hp}(h:gY pa cap used N C)(hr:∃d,N r=some d)(h2:2≤r):
  Rd Tryz.prog 209 #[ptr pa,u32 r] C (· =.int .i64 0):=by
 have hl:=h.lt (.inr hr)
 intro g
 refine DL (R:=aA _) ?_
 unfold L209
 intro J hJ
 refine ae.Bp (b:=1) ?_
 refine Split.go (by simp;omega) ?_
 refine af.rd .here (oX h (by omega)) ?_
 rintro v rfl
 rw[bM.2 (.inr hr)]
 refine Un.not (aF.mk (JE.mk (hJ _ _ fun gs=>Br.no (cz.mk (.refl _) rfl))))
theorem Ac{pa cap used:Nat}{N:eu}{C:Hp}(h:gY pa cap used N C):Rd Tryz.prog 58 #[ptr pa] C (· =.int .i64 (used:Int)):=by
 obtain⟨vl,vf,l,fr,Cl,Cf,rfl,hl,hf,ho⟩:=h
 intro g
 refine Iz (R:=aA _) ?_
 unfold L58
 refine ae.bJ (Br.no (Nil.ptr ?_))
 refine aa.mk (Ld.mk zM rfl ?_)
 exact cz.mk (.refl _) rfl
theorem tE{pa cap used:Nat}{N:eu}{C:Hp}(h:gY pa cap used N C):Rd Tryz.prog 146 #[ptr pa] C (· =.int .i64 (cap:Int)):=by
 obtain⟨vl,vf,l,fr,Cl,Cf,rfl,hl,hf,ho⟩:=h
 intro g
 refine Ep (R:=aA _) ?_
 unfold L146
 refine ae.bJ (Br.no (Nil.ptr ?_))
 refine aa.mk (Ld.mk zM rfl ?_)
 exact cz.mk (.refl _) rfl
section
variable {l:List nM} {fr:List Nat} {cap used:Nat} {N:eu}
theorem Bk(d:Nd){c:Nat}:G9 ⟨(d.v:Int),d.lo,d.hi,true,c⟩=some d:=by simp[G9]
theorem x5.reuse(h:x5 l fr cap used N){r:Nat}(hr:r∈fr){fr':List Nat}(hf:fr.Perm (r::fr'))(d:Nd):
  2≤r∧r<cap∧N r=none∧x5 (l.set r ⟨(d.v:Int),d.lo,d.hi,true,0⟩) fr' cap (used+1) (up N r (some d)):=by
 obtain⟨p,hp,ht⟩:=(h.nI r).1 hr
 have hlt:=(List.getElem?_eq_some_iff.1 hp).1
 have h2:2≤r:=by
  apply Decidable.byContradiction
  intro hn
  obtain⟨p',VM,_,_,_,ht'⟩:=h.const r (by omega)
  rw[hp]at VM;cases VM;rw[ht]at ht';cases ht'
 have g7:=hf.nodup_iff.1 h.Nu
 rw[List.nodup_cons]at g7
 refine⟨h2,Nat.lt_of_lt_of_le hlt h.cap.1,by rw[h.nd r h2,hp];simp[G9,ht],?_⟩
 have gD:∀s,s≠r→(l.set r ⟨(d.v:Int),d.lo,d.hi,true,0⟩)[s]? =l[s]? :=fun s hs=>List.getElem?_set_ne (Ne.symm hs)
 have jj:(l.set r ⟨(d.v:Int),d.lo,d.hi,true,0⟩)[r]? =some ⟨(d.v:Int),d.lo,d.hi,true,0⟩:=List.getElem?_set_self hlt
 exact {
  cap:=by simpa using h.cap
  two:=by simpa using h.two
  const:=fun s hs=>by rw[gD s (by omega)];exact h.const s hs
  nd:=fun s hs=>by
   by_cases e:s=r
   ·subst e;rw[aI,jj];exact(Bk d).symm
   ·rw[aJ e,gD s e];exact h.nd s hs
  n0:=fun s hs=>by rw[aJ (by omega)];exact h.n0 s hs
  nn:=fun s q hs hq Ll=>by
   by_cases e:s=r
   ·subst e;rw[jj]at hq;cases hq;exact Int.natCast_nonneg _
   ·rw[gD s e]at hq;exact h.nn s q hs hq Ll
  Nu:=g7.2
  nI:=fun s=>by
   by_cases e:s=r
   ·subst e
    rw[jj]
    simp[g7.1]
   ·rw[gD s e,←h.nI s,hf.mem_iff]
    simp[e]
  used:=by have:=h.used;have:=hf.length_eq;simp only[List.length_cons,List.length_set]at*;omega}
theorem x5.grow(h:x5 l [] cap used N)(hlt:l.length<cap)(d:Nd):
  2≤l.length∧N l.length=none∧x5 (l++[⟨(d.v:Int),d.lo,d.hi,true,0⟩]) [] cap (used+1) (up N l.length (some d)):=by
 have h2:=h.two
 refine⟨h2,by rw[h.nd _ h2,List.getElem?_eq_none (Nat.le_refl _)];rfl,?_⟩
 have gD:∀s,s≠l.length→(l++[(⟨(d.v:Int),d.lo,d.hi,true,0⟩:nM)])[s]? =l[s]? :=fun s hs=>by
  rw[List.getElem?_append]
  split
  ·rfl
  ·rw[List.getElem?_eq_none (by simp;omega),List.getElem?_eq_none (by omega)]
 have jj:(l++[(⟨(d.v:Int),d.lo,d.hi,true,0⟩:nM)])[l.length]? =some ⟨(d.v:Int),d.lo,d.hi,true,0⟩:=by simp
 exact {
  cap:=by simp;exact⟨hlt,h.cap.2⟩
  two:=by simp;omega
  const:=fun s hs=>by rw[gD s (by omega)];exact h.const s hs
  nd:=fun s hs=>by
   by_cases e:s=l.length
   ·subst e;rw[aI,jj];exact(Bk d).symm
   ·rw[aJ e,gD s e];exact h.nd s hs
  n0:=fun s hs=>by rw[aJ (by omega)];exact h.n0 s hs
  nn:=fun s q hs hq Ll=>by
   by_cases e:s=l.length
   ·subst e;rw[jj]at hq;cases hq;exact Int.natCast_nonneg _
   ·rw[gD s e]at hq;exact h.nn s q hs hq Ll
  Nu:=h.Nu
  nI:=fun s=>by
   by_cases e:s=l.length
   ·subst e
    rw[jj]
    simp
   ·rw[gD s e];exact h.nI s
  used:=by have:=h.used;simp at*;omega}
theorem x5.wE(h:x5 l fr cap used N){r:Nat}{p:nM}(h2:2≤r)(hp:l[r]? =some p)(ht:p.tk=true)(d:Nd):
  x5 (l.set r ⟨(d.v:Int),d.lo,d.hi,true,p.c⟩) fr cap used (up N r (some d)):=by
 have hlt:=(List.getElem?_eq_some_iff.1 hp).1
 have gD:∀s,s≠r→(l.set r ⟨(d.v:Int),d.lo,d.hi,true,p.c⟩)[s]? =l[s]? :=fun s hs=>List.getElem?_set_ne (Ne.symm hs)
 have jj:(l.set r ⟨(d.v:Int),d.lo,d.hi,true,p.c⟩)[r]? =some ⟨(d.v:Int),d.lo,d.hi,true,p.c⟩:=List.getElem?_set_self hlt
 exact {
  cap:=by simpa using h.cap
  two:=by simpa using h.two
  const:=fun s hs=>by rw[gD s (by omega)];exact h.const s hs
  nd:=fun s hs=>by
   by_cases e:s=r
   ·subst e;rw[aI,jj];exact(Bk d).symm
   ·rw[aJ e,gD s e];exact h.nd s hs
  n0:=fun s hs=>by rw[aJ (by omega)];exact h.n0 s hs
  nn:=fun s q hs hq Ll=>by
   by_cases e:s=r
   ·subst e;rw[jj]at hq;cases hq;exact Int.natCast_nonneg _
   ·rw[gD s e]at hq;exact h.nn s q hs hq Ll
  Nu:=h.Nu
  nI:=fun s=>by
   by_cases e:s=r
   ·subst e
    rw[h.nI,jj,hp]
    simp[ht]
   ·rw[gD s e];exact h.nI s
  used:=by simpa using h.used}
theorem x5.free(h:x5 l fr cap used N){r:Nat}{p:nM}(h2:2≤r)(hp:l[r]? =some p)(ht:p.tk=true):
  x5 (l.set r ⟨0,0,0,false,0⟩) (fr++[r]) cap (used-1) (up N r none)∧0<used:=by
 have hlt:=(List.getElem?_eq_some_iff.1 hp).1
 have gD:∀s,s≠r→(l.set r ⟨0,0,0,false,0⟩)[s]? =l[s]? :=fun s hs=>List.getElem?_set_ne (Ne.symm hs)
 have jj:(l.set r ⟨0,0,0,false,0⟩)[r]? =some ⟨0,0,0,false,0⟩:=List.getElem?_set_self hlt
 have Yk:r∉fr:=fun hm=>by obtain⟨q,hq,Ll⟩:=(h.nI r).1 hm;rw[hp]at hq;cases hq;rw[ht]at Ll;cases Ll
 have hu:fr.length<l.length:=by
  have hn:(r::fr).Nodup:=List.nodup_cons.2 ⟨Yk,h.Nu⟩
  have:=bN (l:=r::fr) (l':=List.range l.length) hn fun s hs=>by
   rw[List.mem_range]
   rcases List.mem_cons.1 hs with rfl|hs
   ·exact hlt
   ·obtain⟨q,hq,_⟩:=(h.nI s).1 hs;exact(List.getElem?_eq_some_iff.1 hq).1
  rw[List.length_range]at this;exact this
 have hu2:=h.used
 refine⟨?_,by omega⟩
 exact {
  cap:=by simpa using h.cap
  two:=by simpa using h.two
  const:=fun s hs=>by rw[gD s (by omega)];exact h.const s hs
  nd:=fun s hs=>by
   by_cases e:s=r
   ·subst e;rw[aI,jj];rfl
   ·rw[aJ e,gD s e];exact h.nd s hs
  n0:=fun s hs=>by rw[aJ (by omega)];exact h.n0 s hs
  nn:=fun s q hs hq Ll=>by
   by_cases e:s=r
   ·subst e;rw[jj]at hq;cases hq;cases Ll
   ·rw[gD s e]at hq;exact h.nn s q hs hq Ll
  Nu:=by rw[List.nodup_append];exact⟨h.Nu,by simp,fun a ha c hc=>by simp at hc;subst hc;intro e;subst e;exact Yk ha⟩
  nI:=fun s=>by
   rw[List.mem_append,List.mem_singleton]
   by_cases e:s=r
   ·subst e
    rw[jj]
    simp
   ·rw[gD s e,←h.nI];simp[e]
  used:=by simp;omega}
end
theorem mc(l:List nM)(r:Nat)(p:nM):(l.map nM.row).set r p.row=(l.set r p).map nM.row:=by rw[List.map_set]
theorem MJ{pa cap used:Nat}{N:eu}{C:Hp}{d:Nd}(h:gY pa cap used N C)(hd:Xz N d)(hroom:used<cap):
  Fc Tryz.prog 252 #[ptr pa,.agg (aP d).toArray] C (fun v C'=>∃r,v=.tuple #[u32 r,.int .i64 0]∧2≤r∧r<cap∧N r=none∧gY pa cap (used+1) (up N r (some d)) C'):=by
 have h0:=h
 obtain⟨vl,vf,l,fr,Cl,Cf,rfl,hl,hf,ho⟩:=h
 have hcap:=ho.cap
 have Fy:=ho.used
 intro g
 refine Dd (R:=aA _) ?_
 unfold L252
 intro b1 _
 refine ae.bJ (Br.no ?_)
 refine aC.whole (r:=aP d) (by exact .head _) rfl ?_
 refine af.rd (.cons .here) (wh h0 hd) ?_
 rintro v rfl
 refine ae.dO (Br.bt (by simp) ?_)
 refine Nil.ptr ?_
 refine aa.mk (Ld.mk zM rfl ?_)
 refine hf.bC ?_
 rw[List.length_map]
 refine ae.kB (b:=0) (Br.dec (fun hp=>?_) (fun hp=>?_))
 ·obtain⟨fr',r,rfl⟩:∃fr' r,fr=fr'++[r]:=⟨fr.dropLast,fr.getLast (by intro e;simp[e]at hp),(List.dropLast_concat_getLast _).symm⟩
  simp only[List.length_append,List.length_cons,List.length_nil]at hp Fy⊢
  obtain⟨g1,g2,g3,hok⟩:=ho.reuse (r:=r) (by simp) (fr':=fr') (by exact List.perm_append_singleton _ _) d
  refine Nil.ptr ?_
  refine aa.mk (Ld.mk zM rfl ?_)
  refine ae.bH (a:=fr'.length+1) (b:=1) (by simp[aB];omega) (by omega) ?_
  rw[Nat.add_sub_cancel]
  refine hf.ld (i:=fr'.length) (x:=(r:Int)) (by simp) (fun _ h=>by exact .tail _ (.tail _ (List.mem_append_right _ h))) ?_
  refine Nil.ptr ?_
  refine aa.mk (Ld.mk zM rfl ?_)
  refine ae.bH (a:=fr'.length+1) (b:=1) (by simp[aB];omega) (by omega) ?_
  rw[Nat.add_sub_cancel]
  refine hf.cut (i:=fr'.length) (by simp) fun v' zo=>?_
  have HD:aN 77 .u32 v' (fr'.map (Nat.cast:Nat→Int)) Cf:=by
   rw[List.map_append,List.take_left' (by simp)]at zo;exact zo
  have hone:v'.oneCell'=true:=by obtain⟨a,c,e⟩:=aR.len HD;rw[e];rfl
  refine Nil.ptr (aa.mk ?_)
  refine St.one (by exact .tail (.head _)) hone (by simp) rfl ?_
  refine DR.self ?_
  refine Nil.ptr ?_
  refine aa.mk (Ld.mk (by exact .tail _ (.head _)) rfl ?_)
  refine aC.whole (r:=aP d) (by exact .head _) rfl ?_
  refine Build.mk (cs:=(nM.mk (d.v:Int) d.lo d.hi true 0).row) (by kernel_rfl) ?_
  refine hl.Ku (A:=[_,_]) (B:=Cf) (i:=r) (by rw[List.length_map];have:=(ho.nI r).1 (by simp);obtain⟨p,hp,_⟩:=this;exact(List.getElem?_eq_some_iff.1 hp).1) rfl (row_one _) fun C' hl'=>?_
  rw[mc]at hl'
  simp only[List.cons_append,List.nil_append]
  refine Nil.ptr ?_
  refine aa.mk (Ld.mk (by exact .tail _ (.head _)) rfl ?_)
  refine ae.aL (b:=1) (by simp[aB];omega) ?_
  refine Nil.ptr (aa.mk ?_)
  refine St.one (by exact .tail (.head _)) rfl (by simp) rfl ?_
  exact aA.mk .tail ⟨r,rfl,g1,g2,g3,vl,v',_,fr',C',Cf,rfl,hl',HD,hok⟩
 ·obtain rfl:fr=[]:=List.eq_nil_of_length_eq_zero (by omega)
  simp only[List.length_nil]at Fy
  obtain⟨g1,g3,hok⟩:=ho.grow (by omega) d
  refine Nil.ptr ?_
  refine aa.mk (Ld.mk zM rfl ?_)
  refine hl.bC ?_
  rw[List.length_map]
  refine Nil.ptr ?_
  refine aa.mk (Ld.mk zM rfl ?_)
  refine ae.rD (Br.bt (by omega) ?_)
  refine DR.of (R:=(b1,.cells (List.toArray (aP d)) 161 (0,0))::(pa,.cells #[.int .i64 (cap:Int),vl,vf,.int .i64 (used:Int)] 198 (0,0))::[]) (.cons (.cons .nil)) ?_
  refine Nil.ptr ?_
  refine aa.mk (Ld.mk zM rfl ?_)
  refine aC.whole (r:=aP d) (by exact .head _) rfl ?_
  refine Build.mk (cs:=(nM.mk (d.v:Int) d.lo d.hi true 0).row) (by kernel_rfl) ?_
  refine av.one (z:=.agg #[.int .i64 0,.int .u32 0,.int .u32 0,.bool false,.int .u8 0]) (e:=291) (k:=5) (by kernel_rfl) (by kernel_rfl) (by kernel_rfl) (by decide) rfl fun bx=>?_
  refine⟨.skip (.cons (.cons .nil)),?_⟩
  refine hl.Ih (A:=[_,_,_]) (B:=Cf) (r:=(nM.mk (d.v:Int) d.lo d.hi true 0).row) (by exact .head _) rfl (row_one _) (by exact⟨[.int .i64 0,.int .u32 0,.int .u32 0,.bool false,.int .u8 0],rfl,rfl⟩) (by simp;omega) (by simp;omega) fun v' C' hl'=>?_
  have xw:aR 291 5 v' ((l++[(⟨(d.v:Int),d.lo,d.hi,true,0⟩:nM)]).map nM.row) C':=by rw[List.map_append];exact hl'
  simp only[List.cons_append,List.nil_append]
  refine⟨.skip (.cons (.cons .nil)),?_⟩
  have hone:v'.oneCell'=true:=by obtain⟨a,c,e⟩:=xw.len;rw[e];rfl
  refine Nil.ptr (aa.mk ?_)
  refine St.one (by exact .tail (.tail (.head _))) hone (by simp) rfl ?_
  refine Nil.ptr ?_
  refine aa.mk (Ld.mk (by exact .tail _ (.tail _ (.head _))) rfl ?_)
  refine ae.aL (b:=1) (by simp[aB];omega) ?_
  refine Nil.ptr (aa.mk ?_)
  refine St.one (by exact .tail (.tail (.head _))) rfl (by simp) rfl ?_
  refine Nil.ptr ?_
  refine aa.mk (Ld.mk (by exact .tail _ (.tail _ (.head _))) rfl ?_)
  refine xw.bC ?_
  refine ae.bH (b:=1) (by simp[aB];omega) (by simp) ?_
  refine aW.nat (by simp[aB];omega) ?_
  refine aA.mk (.skip .tail) ⟨l.length,by simp[u32],g1,by omega,g3,v',vf,_,[],C',Cf,rfl,xw,hf,hok⟩
theorem PM{pa cap used r:Nat}{N:eu}{C:Hp}{d:Nd}(h:gY pa cap used N C)(hd:Xz N d)(hr:∃e,N r=some e)(h2:2≤r):
  Fc Tryz.prog 140 #[ptr pa,u32 r,.agg (aP d).toArray] C (fun v C'=>v=.int .i64 0∧gY pa cap used (up N r (some d)) C'):=by
 have h0:=h
 obtain⟨vl,vf,l,fr,Cl,Cf,rfl,hl,hf,ho⟩:=h
 have hx:=bM.2 (.inr hr:live N r)
 rw[ho.yX]at hx
 obtain⟨p,hg,hx⟩:∃p,l[r]? =some p∧p.tk=true:=by
  cases hg:l[r]? with
  |none=>rw[hg]at hx;simp at hx
  |some p=>rw[hg]at hx;exact⟨p,rfl,hx⟩
 intro g
 refine Eu (R:=aA _) ?_
 unfold L140
 intro b1 _
 refine ae.bJ (Br.no ?_)
 refine aC.whole (r:=aP d) (by exact .head _) rfl ?_
 refine af.rd (.cons .here) (wh h0 hd) ?_
 rintro v rfl
 refine ae.dO (Br.bt (by simp) ?_)
 refine af.rd (.cons .here) (KA h0 hr h2) ?_
 rintro v rfl
 refine ae.dO (Br.bt (by simp) ?_)
 refine DR.self ?_
 refine Nil.ptr ?_
 refine aa.mk (Ld.mk zM rfl ?_)
 refine aC.whole (r:=aP d) (by exact .head _) rfl ?_
 refine hl.N8 (A:=[_,_]) (B:=Cf) (r:=p.row) (xs:=aP d) (n:=3) (by rw[List.getElem?_map,hg];rfl) ⟨rfl,by omega⟩ (by intro x hx;simp[aP,u32]at hx;rcases hx with rfl|rfl|rfl<;>rfl) fun C' hl'=>?_
 have e:(aP d++p.row.drop 3)=(nM.mk (d.v:Int) d.lo d.hi true p.c).row:=by simp[aP,nM.row,hx]
 rw[e,mc]at hl'
 exact aA.mk .tail ⟨rfl,vl,vf,_,fr,C',Cf,rfl,hl',hf,ho.wE h2 hg hx d⟩
theorem MN{pa cap used r:Nat}{N:eu}{C:Hp}(h:gY pa cap used N C)(hr:∃e,N r=some e)(h2:2≤r):
  Fc Tryz.prog 210 #[ptr pa,u32 r] C (fun v C'=>v=.int .i64 0∧gY pa cap (used-1) (up N r none) C'):=by
 have h0:=h
 obtain⟨vl,vf,l,fr,Cl,Cf,rfl,hl,hf,ho⟩:=h
 have hx:=bM.2 (.inr hr:live N r)
 rw[ho.yX]at hx
 obtain⟨p,hg,hx⟩:∃p,l[r]? =some p∧p.tk=true:=by
  cases hg:l[r]? with
  |none=>rw[hg]at hx;simp at hx
  |some p=>rw[hg]at hx;exact⟨p,rfl,hx⟩
 obtain⟨hok,hu0⟩:=ho.free h2 hg hx
 have hcap:=ho.cap
 have Fy:=ho.used
 intro g
 refine DK (R:=aA _) ?_
 unfold L210
 refine ae.bJ (Br.no ?_)
 refine af.rd .here (KA h0 hr h2) ?_
 rintro v rfl
 refine ae.dO (Br.bt (by simp) ?_)
 refine Nil.ptr ?_
 refine aa.mk (Ld.mk zM rfl ?_)
 refine Build.mk (cs:=(nM.mk 0 0 0 false 0).row) (by kernel_rfl) ?_
 refine hl.Ku (A:=[_]) (B:=Cf) (i:=r) (by rw[List.length_map];exact(List.getElem?_eq_some_iff.1 hg).1) rfl (row_one _) fun C' hl'=>?_
 rw[mc]at hl'
 simp only[List.cons_append,List.nil_append]
 refine Nil.ptr ?_
 refine aa.mk (Ld.mk (by exact .head _) rfl ?_)
 refine av.int (e:=77) (by kernel_rfl) (by kernel_rfl) (by kernel_rfl) fun bx=>?_
 have e1:(bx,Obj.cells (ax .u32 [(r:Int)]) 77 (0,0))::(pa,Obj.cells #[.int .i64 (cap:Int),vl,vf,.int .i64 (used:Int)] 198 (0,0))::(C'++Cf)=(bx,Obj.cells (ax .u32 [(r:Int)]) 77 (0,0))::(pa,Obj.cells #[.int .i64 (cap:Int),vl,vf,.int .i64 (used:Int)] 198 (0,0))::C'++(Cf++[]):=by simp
 rw[e1]
 refine hf.app (x:=(r:Int)) (B:=[]) (by exact .head _) (by simp;omega) (by simp;omega) fun v' Cf' zo=>?_
 have HD:aN 77 .u32 v' ((fr++[r]).map (Nat.cast:Nat→Int)) Cf':=by rw[List.map_append];exact zo
 have hone:v'.oneCell'=true:=by obtain⟨a,c,e⟩:=aR.len HD;rw[e];rfl
 simp only[List.cons_append,List.append_nil]
 refine Nil.ptr (aa.mk ?_)
 refine St.one (by exact .tail (.head _)) hone (by simp) rfl ?_
 refine Nil.ptr ?_
 refine aa.mk (Ld.mk (by exact .tail _ (.head _)) rfl ?_)
 refine ae.bH (b:=1) (by simp[aB];omega) (by omega) ?_
 refine Nil.ptr (aa.mk ?_)
 refine St.one (by exact .tail (.head _)) rfl (by simp) rfl ?_
 exact aA.mk .tail ⟨rfl,vl,v',_,_,C',Cf',rfl,hl',HD,hok⟩
def nK(d:Nd):Value:=.agg (aP d).toArray
abbrev JG(v:Value)(r:Nat):Prop:=v=u32 r
theorem Fm:Tryz.prog.underlying 161=some (.struct (Tryz.prog.fieldsOf 161)):=by kernel_rfl
theorem o9(a b:Nd):xZ Tryz.prog 161 (nK a) (nK b) (decide (a=b)):=by
 refine xZ.flat (fs:=#[⟨"Var",3,0,false, "", "",0⟩,⟨"Lo",77,1,false, "", "",8⟩,⟨"Hi",77,2,false, "", "",12⟩]) (by kernel_rfl) (by kernel_rfl) ?_ ?_
 ·intro f hf
  simp only[List.mem_cons,List.not_mem_nil,or_false]at hf
  rcases hf with rfl|rfl|rfl
  ·exact⟨by decide,_,_,rfl,rfl,.inl ⟨.i64,_,_,by kernel_rfl,rfl,rfl⟩⟩
  ·exact⟨by decide,_,_,rfl,rfl,.inl ⟨.u32,_,_,by kernel_rfl,rfl,rfl⟩⟩
  ·exact⟨by decide,_,_,rfl,rfl,.inl ⟨.u32,_,_,by kernel_rfl,rfl,rfl⟩⟩
 ·obtain⟨a1,a2,a3⟩:=a
  obtain⟨b1,b2,b3⟩:=b
  simp[aP,u32]
  omega
theorem kO(a:Nd):kA Tryz.prog 161 (nK a):=by
 refine kA.flat (fs:=#[⟨"Var",3,0,false, "", "",0⟩,⟨"Lo",77,1,false, "", "",8⟩,⟨"Hi",77,2,false, "", "",12⟩]) (by kernel_rfl) ?_
 intro f hf
 simp only[List.mem_cons,List.not_mem_nil,or_false]at hf
 rcases hf with rfl|rfl|rfl
 ·exact⟨by decide,_,rfl,.inl ⟨.i64,_,_,by kernel_rfl,rfl,rfl⟩⟩
 ·exact⟨by decide,_,rfl,.inl ⟨.u32,_,_,by kernel_rfl,rfl,rfl⟩⟩
 ·exact⟨by decide,_,rfl,.inl ⟨.u32,_,_,by kernel_rfl,rfl,rfl⟩⟩
theorem Fp(a:Nd):Instr.sameBits 10000 (nK a) (nK a)=true:=jB 9998 (by intro x hx;simp[aP,u32]at hx;rcases hx with rfl|rfl|rfl<;>exact .inl ⟨_,_,rfl⟩)
structure UM where
 b:Nat
 es:Array MapEntry
 ck:Nat
 l:List (Nd×Nat)
def Hh(ms:List UM):Hp:=ms.map fun m=>(m.b,.map m.es m.ck)
structure Nw(ms:List UM)(n:Nat)(T:Nd→Option Nat):Prop where
 len:ms.length=n
 jb:∀(v:Nat) m,ms[v]? =some m→aM nK JG m.es m.ck m.l
 var:∀(v:Nat) m,ms[v]? =some m→∀x∈m.l,x.1.v=v
 T:∀d,T d=(ms[d.v]?).bind fun m=>c9 m.l d
def nY(pt n:Nat)(T:Nd→Option Nat)(C:Hp):Prop:=
 ∃vs Cs ms,C=(pt,.cells #[vs] 265 (0,0))::(Cs++Hh ms)∧aR 266 1 vs (ms.map fun m=>[.map (some m.b)]) Cs∧Nw ms n T
theorem rQ{ms:List UM}{v:Nat}{m:UM}(h:ms[v]? =some m):(m.b,Obj.map m.es m.ck)∈Hh ms:=List.mem_map.2 ⟨m,List.mem_of_getElem? h,rfl⟩
theorem xf{es':Array MapEntry}{ct:Nat}{l':List (Nd×Nat)}:∀{ms:List UM} {v:Nat} {m:UM},ms[v]? =some m→dR m.b (.map m.es m.ck) (.map es' ct) (Hh ms) (Hh (ms.set v ⟨m.b,es',ct,l'⟩))
 | [],v,m,h=>by simp at h
 |x::ms,0,m,h=>by simp at h;subst h;exact .head _
 |x::ms,v+1,m,h=>by simp at h;exact .tail (xf h)
theorem vC{ms:List UM}{v:Nat}{m m':UM}(h:ms[v]? =some m)(hb:m'.b=m.b):(ms.set v m').map (fun m=>[Value.map (some m.b)])=ms.map fun m=>[Value.map (some m.b)]:=by
 rw[List.map_set]
 apply List.ext_getElem?
 intro j
 rw[List.getElem?_set]
 split
 ·rename_i e;subst e
  have hlt:=(List.getElem?_eq_some_iff.1 h).1
  have e2:ms[v]=m:=by rw[List.getElem?_eq_getElem hlt]at h;exact Option.some.inj h
  simp[hb,hlt,e2]
 ·rfl
theorem Nw.add{ms:List UM}{n:Nat}{T:Nd→Option Nat}(h:Nw ms n T){d:Nd}{m:UM}(hm:ms[d.v]? =some m){es':Array MapEntry}{ct r:Nat}(he:aM nK JG es' ct (fA m.l d r)):Nw (ms.set d.v ⟨m.b,es',ct,fA m.l d r⟩) n (oQ T d (some r)) where
 len:=by rw[List.length_set];exact h.len
 jb:=fun v m' hm'=>by
  rw[List.getElem?_set]at hm'
  split at hm'
  ·split at hm'
   ·cases hm';exact he
   ·cases hm'
  ·exact h.jb v m' hm'
 var:=fun v m' hm' x hx=>by
  rw[List.getElem?_set]at hm'
  split at hm'
  ·rename_i e
   split at hm'
   ·cases hm'
    subst e
    simp only[fA]at hx
    split at hx
    ·obtain⟨y,hy,rfl⟩:=List.mem_map.1 hx
     split
     ·rfl
     ·exact h.var _ m hm y hy
    ·rcases List.mem_append.1 hx with hx|hx
     ·exact h.var _ m hm x hx
     ·simp at hx;subst hx;rfl
   ·cases hm'
  ·exact h.var v m' hm' x hx
 T:=fun e=>by
  have hlt:=(List.getElem?_eq_some_iff.1 hm).1
  by_cases ee:e=d
  ·subst ee;rw[iQ,List.getElem?_set_self hlt];simp[fG]
  ·rw[n9 ee,h.T e]
   by_cases ev:d.v=e.v
   ·rw[←ev,List.getElem?_set_self hlt,hm];simp[fG,ee]
   ·rw[List.getElem?_set_ne ev]
theorem Nw.del{ms:List UM}{n:Nat}{T:Nd→Option Nat}(h:Nw ms n T){d:Nd}{m:UM}(hm:ms[d.v]? =some m){es':Array MapEntry}{ct:Nat}(he:aM nK JG es' ct (oA m.l d)):Nw (ms.set d.v ⟨m.b,es',ct,oA m.l d⟩) n (oQ T d none) where
 len:=by rw[List.length_set];exact h.len
 jb:=fun v m' hm'=>by
  rw[List.getElem?_set]at hm'
  split at hm'
  ·split at hm'
   ·cases hm';exact he
   ·cases hm'
  ·exact h.jb v m' hm'
 var:=fun v m' hm' x hx=>by
  rw[List.getElem?_set]at hm'
  split at hm'
  ·rename_i e
   split at hm'
   ·cases hm'
    subst e
    exact h.var _ m hm x (List.mem_filter.1 hx|>.1)
   ·cases hm'
  ·exact h.var v m' hm' x hx
 T:=fun e=>by
  have hlt:=(List.getElem?_eq_some_iff.1 hm).1
  by_cases ee:e=d
  ·subst ee;rw[iQ,List.getElem?_set_self hlt];simp[vA]
  ·rw[n9 ee,h.T e]
   by_cases ev:d.v=e.v
   ·rw[←ev,List.getElem?_set_self hlt,hm];simp[vA,ee]
   ·rw[List.getElem?_set_ne ev]
theorem mR{pt n v:Nat}{T:Nd→Option Nat}{C:Hp}(h:nY pt n T C)(hv:v<n):Rd Tryz.prog 206 #[ptr pt,.int .i64 (v:Int)] C (· =.int .i64 0):=by
 obtain⟨vs,Cs,ms,rfl,hs,ho⟩:=h
 intro g
 refine DO (R:=aA _) ?_
 unfold L206
 refine ae.bJ (Br.no ?_)
 refine ae.lss ?_
 rw[decide_eq_false (by omega:¬((v:Int)<0))]
 refine bT.or false (fun _=>?_) rfl fun _=>Br.no (cz.mk (.refl _) rfl)
 refine Nil.ptr ?_
 refine aa.mk (Ld.mk zM rfl ?_)
 refine hs.bC ?_
 rw[List.length_map,ho.len]
 exact ae.rD ⟨rfl,by rw[decide_eq_false (by omega)]⟩
theorem rU{pt n:Nat}{T:Nd→Option Nat}{C:Hp}{d:Nd}(h:nY pt n T C)(hv:d.v<n):
  Rd Tryz.prog 205 #[ptr pt,nK d] C (· =.tuple #[u32 ((T d).getD 0),.bool (T d).isSome]):=by
 have h0:=h
 obtain⟨vs,Cs,ms,rfl,hs,ho⟩:=h
 obtain⟨m,hm⟩:∃m,ms[d.v]? =some m:=⟨_,List.getElem?_eq_getElem (by rw[ho.len];exact hv)⟩
 intro g
 refine DP (R:=aA _) ?_
 unfold L205
 intro b1 _
 refine aa.mk (Ld.mk (v:=.int .i64 (d.v:Int)) (by exact .head _) rfl ?_)
 refine af.rd (.cons .here) (mR h0 hv) ?_
 rintro v rfl
 refine ae.dO (Br.bt (by simp) ?_)
 refine Nil.ptr ?_
 refine aa.mk (Ld.mk zM rfl ?_)
 refine aa.mk (Ld.mk (v:=.int .i64 (d.v:Int)) (by exact .head _) rfl ?_)
 refine hs.RY (x:=.map (some m.b)) (by rw[List.getElem?_map,hm];rfl) (fun _ h=>by exact .tail _ (.tail _ (List.mem_append_left _ h))) ?_
 refine aC.whole (r:=aP d) (by exact .head _) rfl ?_
 have hmem:(m.b,Obj.map m.es m.ck)∈(b1,Obj.cells (Value.cells (nK d)) 161 (0,0))::(pt,.cells #[vs] 265 (0,0))::(Cs++Hh ms):=.tail _ (.tail _ (List.mem_append_right _ (rQ hm)))
 have hT:T d=c9 m.l d:=by rw[ho.T,hm];rfl
 rw[hT]
 cases hg:c9 m.l d with
 |some r=>
  refine aM.BG (ke:=nK) (k:=d) o9 kO (ho.jb _ m hm) hmem hg ?_
  rintro v rfl
  exact Ext.mk rfl (Ext.mk rfl (cz.mk .tail rfl))
 |none=>
  refine aM.sP (ke:=nK) (k:=d) o9 kO (ho.jb _ m hm) hmem hg ?_
  exact Ext.mk rfl (Ext.mk rfl (cz.mk .tail rfl))
theorem E4{pt n r:Nat}{T:Nd→Option Nat}{C:Hp}{d:Nd}(h:nY pt n T C)(hv:d.v<n)(hT:T d=none):
  Fc Tryz.prog 141 #[ptr pt,nK d,u32 r] C (fun v C'=>v=.int .i64 0∧nY pt n (oQ T d (some r)) C'):=by
 have h0:=h
 obtain⟨vs,Cs,ms,rfl,hs,ho⟩:=h
 obtain⟨m,hm⟩:∃m,ms[d.v]? =some m:=⟨_,List.getElem?_eq_getElem (by rw[ho.len];exact hv)⟩
 have hTm:c9 m.l d=none:=by rw[ho.T,hm]at hT;exact hT
 intro g
 refine Et (R:=aA _) ?_
 unfold L141
 intro b1 _
 refine aa.mk (Ld.mk (v:=.int .i64 (d.v:Int)) (by exact .head _) rfl ?_)
 refine af.rd (.cons .here) (mR h0 hv) ?_
 rintro v rfl
 refine ae.dO (Br.bt (by simp) ?_)
 refine Nil.ptr ?_
 refine aa.mk (Ld.mk zM rfl ?_)
 refine aa.mk (Ld.mk (v:=.int .i64 (d.v:Int)) (by exact .head _) rfl ?_)
 refine hs.RY (x:=.map (some m.b)) (by rw[List.getElem?_map,hm];rfl) (fun _ h=>by exact .tail _ (.tail _ (List.mem_append_left _ h))) ?_
 refine aC.whole (r:=aP d) (by exact .head _) rfl ?_
 have hmem:(m.b,Obj.map m.es m.ck)∈(b1,Obj.cells (Value.cells (nK d)) 161 (0,0))::(pt,.cells #[vs] 265 (0,0))::(Cs++Hh ms):=.tail _ (.tail _ (List.mem_append_right _ (rQ hm)))
 refine aM.sP (ke:=nK) (k:=d) o9 kO (ho.jb _ m hm) hmem hTm ?_
 refine Ext.mk rfl (Ext.mk rfl (Br.no ?_))
 refine DR.self ?_
 refine Nil.ptr ?_
 refine aa.mk (Ld.mk zM rfl ?_)
 refine aa.mk (Ld.mk (v:=.int .i64 (d.v:Int)) (by exact .head _) rfl ?_)
 refine hs.RY (x:=.map (some m.b)) (by rw[List.getElem?_map,hm];rfl) (fun _ h=>by exact .tail _ (.tail _ (List.mem_append_left _ h))) ?_
 refine aC.whole (r:=aP d) (by exact .head _) rfl ?_
 refine aM.JU (ke:=nK) (k:=d) (vr:=JG) (x:=r) o9 kO Fp (ho.jb _ m hm) rfl fun es' ct he=>⟨_,.tail (.tail ((xf (l':=fA m.l d r) hm).dK Cs)),?_⟩
 exact aA.mk .tail ⟨rfl,vs,Cs,_,rfl,by rw[vC hm];exact hs;rfl,ho.add hm he⟩
theorem vp{pt n r:Nat}{T:Nd→Option Nat}{C:Hp}{d:Nd}(h:nY pt n T C)(hv:d.v<n)(hT:T d=some r):
  Fc Tryz.prog 137 #[ptr pt,nK d] C (fun v C'=>v=.int .i64 0∧nY pt n (oQ T d none) C'):=by
 have h0:=h
 obtain⟨vs,Cs,ms,rfl,hs,ho⟩:=h
 obtain⟨m,hm⟩:∃m,ms[d.v]? =some m:=⟨_,List.getElem?_eq_getElem (by rw[ho.len];exact hv)⟩
 have hTm:c9 m.l d=some r:=by rw[ho.T,hm]at hT;exact hT
 intro g
 refine Ew (R:=aA _) ?_
 unfold L137
 intro b1 _
 refine aa.mk (Ld.mk (v:=.int .i64 (d.v:Int)) (by exact .head _) rfl ?_)
 refine af.rd (.cons .here) (mR h0 hv) ?_
 rintro v rfl
 refine ae.dO (Br.bt (by simp) ?_)
 refine Nil.ptr ?_
 refine aa.mk (Ld.mk zM rfl ?_)
 refine aa.mk (Ld.mk (v:=.int .i64 (d.v:Int)) (by exact .head _) rfl ?_)
 refine hs.RY (x:=.map (some m.b)) (by rw[List.getElem?_map,hm];rfl) (fun _ h=>by exact .tail _ (.tail _ (List.mem_append_left _ h))) ?_
 refine aC.whole (r:=aP d) (by exact .head _) rfl ?_
 have hmem:(m.b,Obj.map m.es m.ck)∈(b1,Obj.cells (Value.cells (nK d)) 161 (0,0))::(pt,.cells #[vs] 265 (0,0))::(Cs++Hh ms):=.tail _ (.tail _ (List.mem_append_right _ (rQ hm)))
 refine aM.BG (ke:=nK) (k:=d) o9 kO (ho.jb _ m hm) hmem hTm ?_
 rintro v rfl
 refine Ext.mk rfl (Ext.mk rfl (Un.not (Br.no ?_)))
 refine DR.of (R:=(b1,Obj.cells (Value.cells (nK d)) 161 (0,0))::(pt,.cells #[vs] 265 (0,0))::Cs) (.cons (.cons .left)) ?_
 refine Nil.ptr ?_
 refine aa.mk (Ld.mk zM rfl ?_)
 refine aa.mk (Ld.mk (v:=.int .i64 (d.v:Int)) (by exact .head _) rfl ?_)
 refine hs.RY (x:=.map (some m.b)) (by rw[List.getElem?_map,hm];rfl) (fun _ h=>by exact .tail _ (.tail _ h)) ?_
 refine aC.whole (r:=aP d) (by exact .head _) rfl ?_
 refine aM.abJ (ke:=nK) (k:=d) o9 kO (ho.jb _ m hm) hmem fun es' he=>⟨_,.tail (.tail ((xf (l':=oA m.l d) hm).dK Cs)),?_⟩
 exact⟨.cons (.cons .left),aA.mk .tail ⟨rfl,vs,Cs,_,rfl,by rw[vC hm];exact hs;rfl,ho.del hm he⟩⟩
theorem Nw.start(n:Nat)(bs:List Nat)(h:bs.length=n):Nw (bs.map fun b=>⟨b,#[],0,[]⟩) n (fun _=>none) where
 len:=by simpa using h
 jb:=fun v m hm=>by
  rw[List.getElem?_map]at hm
  obtain⟨b,_,rfl⟩:=Option.map_eq_some_iff.1 hm
  exact aM.empty
 var:=fun v m hm x hx=>by
  rw[List.getElem?_map]at hm
  obtain⟨b,_,rfl⟩:=Option.map_eq_some_iff.1 hm
  simp at hx
 T:=fun d=>by
  rw[List.getElem?_map]
  cases bs[d.v]? <;>simp[c9]
theorem zJ(x:Value):∀n:Nat,(List.replicate n [x]).flatten=List.replicate n x
 |0=>rfl
 |n+1=>by rw[List.replicate_succ,List.flatten_cons,List.replicate_succ,zJ x n];rfl
theorem NM{n:Nat}(hn:1≤n∧n≤64):Fc Tryz.prog 117 #[.int .i64 (n:Int)] [] (fun v H=>∃pt,v=.tuple #[ptr pt,.int .i64 0]∧nY pt n (fun _=>none) H):=by
 intro g
 refine EE (R:=aA _) ?_
 unfold L117
 refine ae.lss ?_
 rw[decide_eq_false (by omega)]
 refine bT.or false (fun _=>ae.gtr ⟨rfl,by rw[decide_eq_false (by omega)]⟩) rfl fun _=>Br.no ?_
 refine⟨.i64,.i64,n,n,rfl,rfl,Nat.le_refl _,by omega,by omega,?_⟩
 intro bs _
 refine Build.mk (cs:=[.slice (some ⟨bs,0,none⟩) n n]) (by kernel_rfl) ?_
 intro pt _
 have hz:madeCells (Value.cells (.map none)) (n*1)=rows ((List.replicate n [Value.map none])++[]):=by
  apply Array.ext'
  apply List.ext_getElem?
  intro i
  have:=zJ (.map none) n
  simp only[madeCells,rows,Value.cells,Array.toList_map,Array.toList_range,List.getElem?_map,List.toList_toArray,Nat.mul_one,List.append_nil]
  rw[this,List.getElem?_replicate]
  by_cases hi:i<n
  ·simp[hi,Nat.mod_one]
  ·simp[hi]
 rw[hz]
 have hs0:aR 266 1 (.slice (some ⟨bs,0,none⟩) n n) (List.replicate n [Value.map none]) [(bs,.cells (rows ((List.replicate n [Value.map none])++[])) 266 (0,0))]:=
  aR.mk' (fun r hr=>by rw[List.append_nil]at hr;rw[List.eq_of_mem_replicate hr];rfl) (by simp) (by simp)
 refine⟨fun vs H=>∃(j:Nat) (bl:List Nat) (Cs:Hp),vs=[.int .i64 (j:Int)]∧bl.length=j∧j≤n∧H=(pt,.cells #[.slice (some ⟨bs,0,none⟩) n n] 265 (0,0))::(Cs++Hh (bl.map fun b=>⟨b,#[],0,[]⟩))∧
  aR 266 1 (.slice (some ⟨bs,0,none⟩) n n) ((bl.map fun b=>[Value.map (some b)])++List.replicate (n-j) [Value.map none]) Cs,fun vs _=>n-bG vs 0,JE.mk ⟨0,[],_,rfl,rfl,by omega,by simp only[Hh,List.map_nil,List.append_nil];rfl,by simpa using hs0⟩,?_⟩
 rintro w H ⟨j,bl,Cs,hw,SP,hj,rfl,hs⟩ gs
 simp only[List.cons.injEq,and_true]at hw
 subst hw
 refine ae.eA (Br.dec (fun hlt=>?_) (fun hlt=>?_))
 ·refine Nil.ptr ?_
  refine aa.mk (Ld.mk (by exact .head _) rfl ?_)
  intro b _
  have hlen:((bl.map fun b=>[Value.map (some b)])++List.replicate (n-j) [Value.map none]).length=n:=by simp;omega
  refine aR.Zk (A:=[_,_]) (B:=Hh (bl.map fun b=>⟨b,#[],0,[]⟩)) hs (i:=j) (y:=.map none) (by omega) ?_ rfl fun C' hs'=>?_
  ·rw[List.getElem?_append_right (by simp[SP])]
   simp only[List.length_map,SP,Nat.sub_self]
   rw[List.getElem?_replicate,if_pos (by omega)]
  refine ae.aL (b:=1) (by simp[aB];omega) ?_
  have e:((bl.map fun b=>[Value.map (some b)])++List.replicate (n-j) [Value.map none]).set j [Value.map (some b)]=((bl++[b]).map fun b=>[Value.map (some b)])++List.replicate (n-(j+1)) [Value.map none]:=by
   rw[List.set_append_right _ _ (by simp[SP])]
   simp only[List.length_map,SP,Nat.sub_self]
   rw[show n-j=(n-(j+1))+1 by omega,List.replicate_succ,List.set_cons_zero,List.map_append]
   simp
  rw[e]at hs'
  refine aD.of ?_ ⟨j+1,bl++[b],C',rfl,by simp[SP],by omega,rfl,hs'⟩ (by show n-(((j+1:Nat):Int).toNat)<n-(((j:Nat):Int).toNat);omega)
  refine aQ.perm ?_
  simp only[List.cons_append,List.nil_append,Hh,List.map_append,List.map_map]
  refine(List.Perm.swap _ _ _).trans (.cons _ ?_)
  rw[←List.append_assoc]
  exact(List.perm_append_singleton _ _).symm
 ·obtain rfl:j=n:=by omega
  refine aA.here ⟨pt,rfl,_,Cs,_,rfl,?_,Nw.start _ bl SP⟩
  rw[Nat.sub_self]at hs
  simpa[List.map_map,Function.comp_def]using hs
theorem PR{n:Nat}(hn:2≤n∧n≤1048576):Fc Tryz.prog 186 #[.int .i64 (n:Int)] [] (fun v H=>∃pa,v=.tuple #[ptr pa,.int .i64 0]∧gY pa n 2 (fun _=>none) H):=by
 intro g
 refine D4 (R:=aA _) ?_
 unfold L186
 refine ae.lss ?_
 rw[decide_eq_false (by omega)]
 refine bT.or false (fun _=>ae.gtr ⟨rfl,by rw[decide_eq_false (by omega)]⟩) rfl fun _=>Br.no ?_
 refine Build.mk (cs:=[.int .i64 (n:Int),.slice none 0 0,.slice none 0 0,.int .i64 2]) (by kernel_rfl) ?_
 intro pa _
 refine⟨fun vs H=>∃(j:Nat) (vl:Value) (Cl:Hp),vs=[u32 j]∧j≤2∧H=(pa,.cells #[.int .i64 (n:Int),vl,.slice none 0 0,.int .i64 2] 198 (0,0))::Cl∧
  aR 291 5 vl ((List.range j).map fun r=>(nM.mk (-1) r r true 255).row) Cl,fun vs _=>2-bG vs 0,JE.mk ⟨0,_,[],rfl,by omega,rfl,aR.nil _ _⟩,?_⟩
 rintro w H ⟨j,vl,Cl,hw,hj,rfl,hs⟩ gs
 simp only[List.cons.injEq,and_true]at hw
 subst hw
 refine ae.eA (b:=2) (Br.dec (fun hlt=>?_) (fun hlt=>?_))
 ·refine Nil.ptr ?_
  refine aa.mk (Ld.mk (by exact .head _) rfl ?_)
  refine Build.mk (cs:=[.int .i64 (-1),u32 j,u32 j]) (by kernel_rfl) ?_
  refine Build.mk (cs:=(nM.mk (-1) j j true 255).row) (by kernel_rfl) ?_
  refine av.one (z:=.agg #[.int .i64 0,.int .u32 0,.int .u32 0,.bool false,.int .u8 0]) (e:=291) (k:=5) (by kernel_rfl) (by kernel_rfl) (by kernel_rfl) (by decide) rfl fun bx=>?_
  have e1:∀x y:Nat×Obj,x::y::Cl=[x,y]++(Cl++[]):=fun x y=>by simp
  rw[e1]
  refine hs.Ih (A:=[_,_]) (B:=[]) (r:=(nM.mk (-1) j j true 255).row) (by exact .head _) rfl (row_one _) (by exact⟨[.int .i64 0,.int .u32 0,.int .u32 0,.bool false,.int .u8 0],rfl,rfl⟩) (by simp;omega) (by simp;omega) fun v' C' hs'=>?_
  simp only[List.cons_append,List.nil_append,List.append_nil]
  have hone:v'.oneCell'=true:=by obtain⟨a,c,e⟩:=hs'.len;rw[e];rfl
  refine Nil.ptr (aa.mk ?_)
  refine St.one (by exact .tail (.head _)) hone (by simp) rfl ?_
  refine ae.aL (b:=1) (by simp[aB];omega) ?_
  refine aD.of .tail ⟨j+1,v',C',rfl,by omega,rfl,?_⟩ (by show 2-(((j+1:Nat):Int).toNat)<2-(((j:Nat):Int).toNat);omega)
  rw[List.range_succ,List.map_append];exact hs'
 ·obtain rfl:j=2:=by omega
  refine aA.here ⟨pa,rfl,vl,_,[⟨-1,0,0,true,255⟩,⟨-1,1,1,true,255⟩],[],Cl,[],by rw[List.append_nil];rfl,hs,aN.nil,?_⟩
  exact {
   cap:=by simp;omega
   two:=by simp
   const:=fun r hr=>by
    have:r=0∨r=1:=by omega
    rcases this with rfl|rfl
    ·exact⟨_,rfl,rfl,rfl,rfl,rfl⟩
    ·exact⟨_,rfl,rfl,rfl,rfl,rfl⟩
   nd:=fun r hr=>by rw[List.getElem?_eq_none (by simp;omega)];rfl
   n0:=fun _ _=>rfl
   nn:=fun r p hr hp _=>by rw[List.getElem?_eq_none (by simp;omega)]at hp;cases hp
   Nu:=by simp
   nI:=fun r=>by
    simp only[List.not_mem_nil,false_iff,not_exists,not_and]
    intro p hp
    have hlt:=(List.getElem?_eq_some_iff.1 hp).1
    simp at hlt
    have:r=0∨r=1:=by omega
    rcases this with rfl|rfl<;>(simp at hp;subst hp;simp)
   used:=rfl}
structure rH where
 pa:Nat
 pt:Nat
 vu:Value
 vh:Value
 vo:Value
 vl:Value
 vt:Value
 CA:Hp
 CT:Hp
 CU:Hp
 CH:Hp
 CO:Hp
 CL:Hp
 CR:Hp
def rH.cells(b:rH)(n:Nat):Array Value:=#[ptr b.pa,ptr b.pt,b.vu,b.vh,.int .i64 (n:Int),b.vo,b.vl,b.vt]
def rH.hp(b:rH)(kp n:Nat):Hp:=(kp,.cells (b.cells n) 117 (0,0))::(b.CA++(b.CT++(b.CU++(b.CH++(b.CO++(b.CL++b.CR))))))
structure TN(b:rH)(K:Kd)(ord ah tr:List Nat):Prop where
 ar:gY b.pa K.cap K.used K.N b.CA
 ut:nY b.pt K.n K.T b.CT
 us:aN 21 .i32 b.vu (iw K.us) b.CU
 ho:aN 21 .i32 b.vh (iw K.ho) b.CH
 od:aN 3 .i64 b.vo (iw ord) b.CO
 lv:aN 3 .i64 b.vl (iw ah) b.CL
 tr:aN 3 .i64 b.vt (iw tr) b.CR
 ul:K.us.length=K.ho.length∧K.us.length≤1048576
 Ax:K.n≤64
 ol:ord.length=K.n∧ah.length=K.n
def cC(kp:Nat)(K:Kd)(ord ah tr:List Nat)(C:Hp):Prop:=∃b:rH,C=b.hp kp K.n∧TN b K ord ah tr
section
variable {kp:Nat} {K:Kd} {ord ah tr:List Nat} {C:Hp}
theorem cC.cap(h:cC kp K ord ah tr C):K.cap≤1048576:=by
 obtain⟨b,rfl,hb⟩:=h
 exact(hb.ar.lt (r:=0) (.inl (by decide))).2
theorem cC.lt(h:cC kp K ord ah tr C){r:Nat}(hr:live K.N r):r<1048576:=by
 obtain⟨b,rfl,hb⟩:=h
 have:=hb.ar.lt hr
 omega
theorem aG(N:eu)(r:Nat):(got N r).length=3∧∀x∈got N r,x.oneCell'=true:=by
 unfold got
 split
 ·exact⟨rfl,by intro x hx;simp[u32]at hx;rcases hx with rfl|rfl|rfl<;>rfl⟩
 ·split
  ·exact⟨rfl,by intro x hx;simp[aP,u32]at hx;rcases hx with rfl|rfl|rfl<;>rfl⟩
  ·exact⟨rfl,by intro x hx;simp[u32]at hx;rcases hx with rfl|rfl|rfl<;>rfl⟩
theorem mj(h:cC kp K ord ah tr C){r:Nat}(hr:r<4294967296):Rd Tryz.prog 173 #[ptr kp,u32 r] C (· =.bool (fH K.N r)):=by
 obtain⟨b,rfl,hb⟩:=h
 intro g
 refine Ec (R:=aA _) ?_
 unfold L173
 refine Nil.ptr ?_
 refine aa.mk (Ld.mk (v:=ptr b.pa) (by exact .head _) rfl ?_)
 refine af.rd (.cons .left) (L6 hb.ar hr) ?_
 rintro v rfl
 refine Ext.mk rfl (Ext.mk rfl ?_)
 intro b8 _
 refine St.whole (r:=got K.N r) (by exact .head _) rfl (aG _ _).1 (aG _ _).2 ?_
 refine ae.jF ?_
 refine cz.mk .tail ?_
 cases fH K.N r<;>rfl
theorem mh(h:cC kp K ord ah tr C){r:Nat}(hr:r<4294967296):Rd Tryz.prog 174 #[ptr kp,u32 r] C (· =.agg (got K.N r).toArray):=by
 obtain⟨b,rfl,hb⟩:=h
 intro g
 refine Eb (R:=aA _) ?_
 unfold L174
 intro b1 _
 refine Nil.ptr ?_
 refine aa.mk (Ld.mk (v:=ptr b.pa) (by exact .tail _ (.head _)) rfl ?_)
 refine af.rd (.cons (.cons .left)) (L6 hb.ar hr) ?_
 rintro v rfl
 refine Ext.mk rfl (Ext.mk rfl ?_)
 intro xQ _
 refine St.whole (r:=got K.N r) (by exact .head _) rfl (aG _ _).1 (aG _ _).2 ?_
 refine aC.whole (r:=got K.N r) (by exact .head _) (aG _ _).1 ?_
 refine St.whole (r:=got K.N r) (by exact .tail (.head _)) rfl (aG _ _).1 (aG _ _).2 ?_
 refine aC.whole (r:=got K.N r) (by exact .tail _ (.head _)) (aG _ _).1 ?_
 exact cz.mk (.skip .tail) rfl
theorem y3(h:cC kp K ord ah tr C){m:Nat}(hm:m≤1099511627776)(hu:K.used≤1048576):Rd Tryz.prog 135 #[ptr kp,.int .i64 (m:Int)] C (· =.bool (decide (K.used+m≤K.cap))):=by
 obtain⟨b,rfl,hb⟩:=h
 intro g
 refine Ey (R:=aA _) ?_
 unfold L135
 refine DR.self ?_
 refine Nil.ptr ?_
 refine aa.mk (Ld.mk (v:=ptr b.pa) (by exact .head _) rfl ?_)
 refine Nil.ptr ?_
 refine aa.mk (Ld.mk (v:=ptr b.pa) (by exact .head _) rfl ?_)
 refine af.rd (.cons .left) (Ac hb.ar) ?_
 rintro v rfl
 refine⟨.refl _,?_⟩
 refine ae.aL (by simp[aB];omega) ?_
 refine af.rd (.cons .left) (tE hb.ar) ?_
 rintro v rfl
 refine⟨.refl _,?_⟩
 refine ae.Bp ?_
 exact cz.mk (.refl _) rfl
def qJ(K:Kd)(r:Nat):List Nat:=if r<2 then K.us else K.us.set r (K.use r+1)
theorem iA(r:Nat):(qJ K r).length=K.us.length:=by unfold qJ;split<;>simp
theorem lU{r:Nat}(h2:2≤r)(hr:r<K.us.length):(qJ K r).getD r 0=K.use r+1:=by
 unfold qJ;rw[if_neg (by omega)];simp[List.getD,hr]
theorem sq{r s:Nat}(h:s≠r):(qJ K r).getD s 0=K.use s:=by
 unfold qJ Kd.use
 split
 ·rfl
 ·simp[List.getD,List.getElem?_set_ne (Ne.symm h)]
theorem A1(h:cC kp K ord ah tr C){r:Nat}(hr:r<2∨r<K.us.length)(hb:K.use r+1<2147483648):
  Fc Tryz.prog 139 #[ptr kp,u32 r] C (fun v C'=>v=.tuple #[]∧cC kp {K with us:=qJ K r} ord ah tr C'):=by
 obtain⟨b,rfl,hO⟩:=h
 intro g
 refine Ev (R:=aA _) ?_
 unfold L139
 refine ae.kB (b:=1) (Br.dec (fun h1=>?_) (fun h1=>?_))
 ·have hr':r<K.us.length:=by omega
  refine Nil.ptr ?_
  refine aa.mk (Ld.mk (v:=b.vu) (by exact .head _) rfl ?_)
  refine hO.us.ld (x:=((K.use r:Nat):Int)) (bc hr') (bS.sub (.cons (.app (.app .left)))) ?_
  refine ae.aL (b:=1) (by simp[aB];omega) ?_
  refine hO.us.jC (.cons (.app (.app .left))) (by simpa using hr') fun C' ho=>?_
  refine aA.here ⟨rfl,{b with CU:=C'},rfl,?_⟩
  have e:qJ K r=K.us.set r (K.use r+1):=by unfold qJ;rw[if_neg (by omega)]
  exact {hO with us:=by rw[e7]at ho;rw[e];exact ho,ul:=by simp only[e,List.length_set];exact hO.ul}
 ·refine aA.here ⟨rfl,b,rfl,?_⟩
  have e:qJ K r=K.us:=by unfold qJ;rw[if_pos (by omega)]
  rw[e];exact hO
end
section
variable {kp:Nat} {K:Kd} {ord ah tr:List Nat} {C:Hp}
theorem fX{l:List Nat}{r s x:Nat}(hr:r<l.length):(l.set r x).getD s 0=if s=r then x else l.getD s 0:=by
 simp only[List.getD,List.getElem?_set]
 by_cases e:r=s
 ·subst e;simp[hr]
 ·rw[if_neg e,if_neg (Ne.symm e)]
theorem th(l:List Nat)(s:Nat):(l++[0]).getD s 0=l.getD s 0:=by
 simp only[List.getD,List.getElem?_append]
 split
 ·rfl
 ·rename_i h
  rw[List.getElem?_eq_none (by omega:l.length≤s)]
  cases hs:s-l.length<;>simp[hs]
def JT:Hp→Nat
 |_::(_,Obj.cells c _ _)::_=>(match c[2]? with|some (Value.slice _ n _)=>n|_=>0)
 |_=>0
theorem yw{b:rH}{x:Nat×Obj}{n m:Nat}{a:Option Addr}{cp:Nat}(h:b.vu=.slice a m cp):JT (x::b.hp kp n)=m:=by simp[JT,rH.hp,rH.cells,h]
theorem E7(h:cC kp K ord ah tr C){d:Nd}(hd:Xz K.N d)(hv:d.v<K.n)(hT:K.T d=none)(hroom:K.used<K.cap)(hlo:d.lo<2∨d.lo<K.us.length)(hhi:d.hi<2∨d.hi<K.us.length)
 (hb:∀s,K.use s+2<2147483648):
  Fc Tryz.prog 207 #[ptr kp,nK d] C (fun v C'=>∃r cZ cI,v=u32 r∧K.N r=none∧2≤r∧r<K.cap∧cZ.length=cI.length∧r<cZ.length∧K.us.length≤cZ.length∧cZ.getD r 0=0∧
   (∀s,2≤s→s≠r→cZ.getD s 0=K.use s+e1 (some d) s)∧(∀s,s<2→cZ.getD s 0=K.use s)∧cI.getD r 0=0∧(∀s,s≠r→cI.getD s 0=K.hold s)∧
   cC kp {K with N:=up K.N r (some d),T:=oQ K.T d (some r),used:=K.used+1,us:=cZ,ho:=cI} ord ah tr C'):=by
 have hcap:=h.cap
 obtain⟨b,rfl,hO⟩:=h
 have Hx:=hO.ul
 intro g
 refine DN (R:=aA _) ?_
 unfold L207
 intro b1 _
 refine DR.of (R:=(b1,.cells (Value.cells (nK d)) 161 (0,0))::(kp,.cells (b.cells K.n) 117 (0,0))::[]) (.cons (.cons .nil)) ?_
 refine Nil.ptr ?_
 refine aa.mk (Ld.mk (v:=ptr b.pa) (by exact .tail _ (.head _)) rfl ?_)
 refine aC.whole (r:=aP d) (by exact .head _) rfl ?_
 refine af.fn (.cons (.cons .left)) (MJ hO.ar hd hroom) ?_
 rintro v XV ⟨r,rfl,h2,hrc,hN,Wo⟩
 refine⟨.cons (.cons .nil),Ext.mk rfl (Ext.mk rfl ?_)⟩
 refine⟨fun _ H=>∃(b':rH) (cZ cI:List Nat),H=(b1,.cells (Value.cells (nK d)) 161 (0,0))::b'.hp kp K.n∧TN b' {K with N:=up K.N r (some d),used:=K.used+1,us:=cZ,ho:=cI} ord ah tr∧
   K.us.length≤cZ.length∧(∀s,cZ.getD s 0=K.use s)∧∀s,cI.getD s 0=K.hold s,
  fun _ H=>r+1-JT H,JE.mk ⟨{b with CA:=XV},K.us,K.ho,rfl,{hO with ar:=Wo,ul:=Hx},Nat.le_refl _,fun _=>rfl,fun _=>rfl⟩,?_⟩
 rintro H ⟨b',cZ,cI,rfl,uT,hle,hu,hh⟩ gs
 have Vx:=uT.ul
 simp only at Vx
 refine aW.nat (by simp[aB];omega) (Nil.ptr ?_)
 refine aa.mk (Ld.mk (v:=b'.vu) (by exact .tail _ (.head _)) rfl ?_)
 refine uT.us.bC ?_
 rw[ak]
 refine ae.rD (Br.dec (fun hge=>?_) (fun hge=>?_))
 ·have hge:cZ.length≤r:=hge
  refine Nil.ptr ?_
  refine aa.mk (Ld.mk (v:=b'.vu) (by exact .tail _ (.head _)) rfl ?_)
  refine av.int (e:=21) (by kernel_rfl) (by kernel_rfl) (by kernel_rfl) fun bx=>?_
  refine uT.us.oK (.cons (.cons (.cons (.app (.app .left))))) (by exact .head _) (by simp;omega) (by simp;omega) fun vu' NG xp=>?_
  refine Nil.ptr (aa.mk ?_)
  refine St.one (by exact .tail (.tail (.head _))) xp.one (by simp[rH.cells]) rfl ?_
  refine Nil.ptr ?_
  refine aa.mk (Ld.mk (v:=b'.vh) (by exact .tail _ (.tail _ (.head _))) rfl ?_)
  refine av.int (e:=21) (by kernel_rfl) (by kernel_rfl) (by kernel_rfl) fun by'=>?_
  refine uT.ho.oK (.cons (.cons (.cons (.cons (.app (.app (.app .left))))))) (by exact .head _) (by simp;omega) (by simp;omega) fun vh' M6 oS=>?_
  refine Nil.ptr (aa.mk ?_)
  refine St.one (by exact .tail (.tail (.tail (.head _)))) oS.one (by simp[rH.cells]) rfl ?_
  have e0:∀l:List Nat,iw l++[0]=iw (l++[0]):=fun l=>by rw[cm];rfl
  rw[e0]at xp oS
  refine aD.of (.skip (.skip (.refl _))) ⟨{b' with vu:=vu',vh:=vh',CU:=NG,CH:=M6},cZ++[0],cI++[0],rfl,{uT with us:=xp,ho:=oS,ul:=by simp at Vx⊢;omega},by simp;omega,fun s=>by rw[th,hu],fun s=>by rw[th,hh]⟩ ?_
  obtain⟨a1,c1,e1⟩:=aR.len uT.us
  obtain⟨a2,c2,e2⟩:=aR.len xp
  have f1:=yw (b:=b') (x:=(b1,.cells (Value.cells (nK d)) 161 (0,0))) (kp:=kp) (n:=K.n) e1
  have f2:=yw (b:={b' with vu:=vu',vh:=vh',CU:=NG,CH:=M6}) (x:=(b1,.cells (Value.cells (nK d)) 161 (0,0))) (kp:=kp) (n:=K.n) e2
  rw[f1]
  refine Nat.lt_of_le_of_lt (Nat.le_of_eq (congrArg (fun z=>r+1-z) f2)) ?_
  simp
  omega
 ·have hge:¬cZ.length≤r:=hge
  have Fz:r<cZ.length:=by omega
  have uk:r<cI.length:=by omega
  refine DR.of (R:=(kp,.cells (b'.cells K.n) 117 (0,0))::[]) (.skip (.cons .nil)) ?_
  refine Nil.ptr ?_
  refine aa.mk (Ld.mk (v:=b'.vu) (by exact .head _) rfl ?_)
  refine Nil.ptr ?_
  refine aa.mk (Ld.mk (v:=b'.vh) (by exact .head _) rfl ?_)
  refine uT.us.jC (x:=0) (.cons (.cons (.app (.app .left)))) (by simpa using Fz) fun NG xp=>?_
  refine uT.ho.jC (x:=0) (.cons (.cons (.app (.app (.app .left))))) (by simpa using uk) fun M6 oS=>?_
  have e0:∀l:List Nat,(iw l).set r 0=iw (l.set r 0):=fun l=>e7 l r 0
  rw[e0]at xp oS
  have lor:d.lo≠r:=fo hd.lo h2 hN
  have hir:d.hi≠r:=fo hd.hi h2 hN
  refine aa.mk (Ld.mk (v:=u32 d.lo) (by exact .head _) rfl ?_)
  have u0:∀s,(cZ.set r 0).getD s 0=if s=r then 0 else K.use s:=fun s=>by rw[fX Fz];split;rfl;exact hu s
  have h0:∀s,(cI.set r 0).getD s 0=if s=r then 0 else K.hold s:=fun s=>by rw[fX uk];split;rfl;exact hh s
  have fp:cC kp {K with N:=up K.N r (some d),used:=K.used+1,us:=cZ.set r 0,ho:=cI.set r 0} ord ah tr (({b' with CU:=NG,CH:=M6}:rH).hp kp K.n):=⟨_,rfl,{uT with us:=xp,ho:=oS,ul:=by simp;omega}⟩
  refine af.fn (.cons .here) (A1 fp (by simp;omega) (by have:=hb d.lo;show(cZ.set r 0).getD d.lo 0+1<_;rw[u0,if_neg lor];omega)) ?_
  rintro v C1 ⟨rfl,dM⟩
  refine aa.mk (Ld.mk (v:=u32 d.hi) (by exact .head _) rfl ?_)
  have u1:∀s,(qJ {K with N:=up K.N r (some d),used:=K.used+1,us:=cZ.set r 0,ho:=cI.set r 0} d.lo).getD s 0=(if s=r then 0 else K.use s)+(if 2≤s∧s=d.lo then 1 else 0):=fun s=>by
   by_cases e:s=d.lo
   ·by_cases h2:2≤s
    ·rw[if_pos (show 2≤s∧s=d.lo from⟨h2,e⟩),e,lU (by omega) (by simp;omega)]
     show(cZ.set r 0).getD d.lo 0+1=_
     rw[u0]
    ·rw[if_neg (show¬(2≤s∧s=d.lo)by omega)]
     unfold qJ
     rw[if_pos (by omega)]
     show(cZ.set r 0).getD s 0=_
     rw[u0];rfl
   ·rw[if_neg (show¬(2≤s∧s=d.lo)by omega),sq e]
    show(cZ.set r 0).getD s 0=_
    rw[u0];rfl
  refine af.fn (.cons .here) (A1 dM (by rw[iA];simp;omega) (by
   have:=hb d.hi
   show(qJ _ d.lo).getD d.hi 0+1<_
   rw[u1,if_neg hir];split<;>omega)) ?_
  rintro v C2 ⟨rfl,nG⟩
  have agD:=nG
  obtain⟨b3,rfl,hO3⟩:=nG
  refine DR.self ?_
  refine Nil.ptr ?_
  refine aa.mk (Ld.mk (v:=ptr b3.pt) (by exact .tail _ (.head _)) rfl ?_)
  refine aC.whole (r:=aP d) (by exact .head _) rfl ?_
  refine af.fn (.cons (.cons (.app .left))) (E4 hO3.ut hv hT) ?_
  rintro v T7 ⟨rfl,Sf⟩
  have u2:∀s,(qJ {K with N:=up K.N r (some d),used:=K.used+1,us:=qJ {K with N:=up K.N r (some d),used:=K.used+1,us:=cZ.set r 0,ho:=cI.set r 0} d.lo,ho:=cI.set r 0} d.hi).getD s 0=(if s=r then 0 else K.use s)+(if 2≤s∧s=d.lo then 1 else 0)+(if 2≤s∧s=d.hi then 1 else 0):=fun s=>by
   by_cases e:s=d.hi
   ·by_cases h2:2≤s
    ·rw[if_pos (show 2≤s∧s=d.hi from⟨h2,e⟩),e,lU (by omega) (by rw[iA];simp;omega)]
     show(qJ _ d.lo).getD d.hi 0+1=_
     rw[u1]
    ·rw[if_neg (show¬(2≤s∧s=d.hi)by omega)]
     unfold qJ
     rw[if_pos (by omega)]
     show(qJ _ d.lo).getD s 0=_
     rw[u1];rfl
   ·rw[if_neg (show¬(2≤s∧s=d.hi)by omega),sq e]
    show(qJ _ d.lo).getD s 0=_
    rw[u1];rfl
  refine aA.mk .tail ⟨r,_,_,rfl,hN,h2,hrc,?_,?_,?_,?_,?_,?_,?_,?_,{b3 with CT:=T7},rfl,{hO3 with ut:=Sf}⟩
  ·rw[iA,iA];simp;omega
  ·rw[iA,iA];simp;omega
  ·rw[iA,iA];simp;omega
  ·rw[u2,if_pos rfl,if_neg (show¬(2≤r∧r=d.lo)by omega),if_neg (show¬(2≤r∧r=d.hi)by omega)]
  ·intro s Uy hne
   rw[u2,if_neg hne,dN]
   have c1:(2≤s∧s=d.lo)↔d.lo=s:=⟨fun h=>h.2.symm,fun h=>⟨Uy,h.symm⟩⟩
   have c2:(2≤s∧s=d.hi)↔d.hi=s:=⟨fun h=>h.2.symm,fun h=>⟨Uy,h.symm⟩⟩
   simp only[c1,c2]
   omega
  ·intro s hs
   rw[u2,if_neg (show¬s=r by omega),if_neg (show¬(2≤s∧s=d.lo)by omega),if_neg (show¬(2≤s∧s=d.hi)by omega)]
   try simp
  ·rw[h0,if_pos rfl]
  ·intro s hne;rw[h0,if_neg hne]
end
section
variable {kp:Nat} {K:Kd} {ord ah tr:List Nat} {C:Hp} {S:Nat→aE.Fn}
theorem Pd(B:Hp)(v:Int)(r:Nat)(kv:Value):Rd Tryz.prog 138 #[kv,.int .i64 v,u32 r,u32 r] B (· =u32 r):=by
 intro g
 refine oL (R:=aA _) ?_
 unfold L138
 exact ae.eB (Br.fc rfl (cz.mk (.refl _) rfl))
theorem Pf(h:cC kp K ord ah tr C){v lo hi r:Nat}(hne:lo≠hi)(hv:v<K.n)(hT:K.T ⟨v,lo,hi⟩=some r):
  Rd Tryz.prog 138 #[ptr kp,.int .i64 (v:Int),u32 lo,u32 hi] C (· =u32 r):=by
 obtain⟨b,rfl,hO⟩:=h
 intro g
 refine oL (R:=aA _) ?_
 unfold L138
 refine ae.eB (Br.bt hne ?_)
 refine Build.mk (cs:=aP ⟨v,lo,hi⟩) (by kernel_rfl) ?_
 intro b3 _
 refine St.whole (r:=aP ⟨v,lo,hi⟩) (by exact .head _) rfl rfl (fun x hx=>by simp[aP,u32]at hx;rcases hx with rfl|rfl|rfl<;>rfl) ?_
 refine DR.self ?_
 refine Nil.ptr ?_
 refine aa.mk (Ld.mk (v:=ptr b.pt) (by exact .tail _ (.head _)) rfl ?_)
 refine aC.whole (r:=aP ⟨v,lo,hi⟩) (by exact .head _) rfl ?_
 refine af.rd (.cons (.cons (.app .left))) (rU (d:=⟨v,lo,hi⟩) hO.ut hv) ?_
 rintro w rfl
 rw[hT]
 exact⟨.refl _,Ext.mk rfl (Ext.mk rfl (Br.yes (cz.mk .tail rfl)))⟩
theorem Pe(h:cC kp K ord ah tr C){d:Nd}(hne:d.lo≠d.hi)(hd:Xz K.N d)(hv:d.v<K.n)(hT:K.T d=none)(hroom:K.used<K.cap)(hlo:d.lo<2∨d.lo<K.us.length)(hhi:d.hi<2∨d.hi<K.us.length)
 (hb:∀s,K.use s+2<2147483648):
  Fc Tryz.prog 138 #[ptr kp,.int .i64 (d.v:Int),u32 d.lo,u32 d.hi] C (fun v C'=>∃r cZ cI,v=u32 r∧K.N r=none∧2≤r∧r<K.cap∧cZ.length=cI.length∧r<cZ.length∧K.us.length≤cZ.length∧cZ.getD r 0=0∧
   (∀s,2≤s→s≠r→cZ.getD s 0=K.use s+e1 (some d) s)∧(∀s,s<2→cZ.getD s 0=K.use s)∧cI.getD r 0=0∧(∀s,s≠r→cI.getD s 0=K.hold s)∧
   cC kp {K with N:=up K.N r (some d),T:=oQ K.T d (some r),used:=K.used+1,us:=cZ,ho:=cI} ord ah tr C'):=by
 have h0:=h
 obtain⟨b,rfl,hO⟩:=h
 intro g
 refine oL (R:=aA _) ?_
 unfold L138
 refine ae.eB (Br.bt hne ?_)
 refine Build.mk (cs:=aP d) (by kernel_rfl) ?_
 intro b3 _
 refine St.whole (r:=aP d) (by exact .head _) rfl rfl (fun x hx=>by simp[aP,u32]at hx;rcases hx with rfl|rfl|rfl<;>rfl) ?_
 refine DR.self ?_
 refine Nil.ptr ?_
 refine aa.mk (Ld.mk (v:=ptr b.pt) (by exact .tail _ (.head _)) rfl ?_)
 refine aC.whole (r:=aP d) (by exact .head _) rfl ?_
 refine af.rd (.cons (.cons (.app .left))) (rU (d:=d) hO.ut hv) ?_
 rintro w rfl
 rw[hT]
 refine⟨.refl _,Ext.mk rfl (Ext.mk rfl (Br.no ?_))⟩
 refine aC.whole (r:=aP d) (by exact .head _) rfl ?_
 refine af.fn (.cons .here) (E7 h0 hd hv hT hroom hlo hhi hb) ?_
 rintro v C' ⟨r,cZ,cI,rfl,hh⟩
 exact aA.mk .tail ⟨r,cZ,cI,rfl,hh⟩
structure uZ(K' K:Kd):Prop where
 N:∀{s d},K'.N s=some d→K.N s=some d
 n:K'.n=K.n
 cap:K'.cap=K.cap
 ho:K'.ho=K.ho
 us:∀s,K'.use s≤K.use s
 idle:(∀s,K.N s=none→K.use s=0)→∀s,K'.N s=none→K'.use s=0
theorem uZ.refl(K:Kd):uZ K K:=⟨fun h=>h,rfl,rfl,rfl,fun _=>Nat.le_refl _,fun h=>h⟩
theorem uZ.trans{A B C:Kd}(h:uZ A B)(h':uZ B C):uZ A C:=⟨fun x=>h'.N (h.N x),h.n.trans h'.n,h.cap.trans h'.cap,h.ho.trans h'.ho,fun s=>Nat.le_trans (h.us s) (h'.us s),fun hi=>h.idle (h'.idle hi)⟩
def PL(P:Nat→Nat)(N:eu):Prop:=∀t,2≤t→0<P t→∃d,N t=some d
def fY(P0:Nat→Nat)(l:List Nat):Nat→Nat:=fun s=>P0 s+l.count s
theorem HY{P0:Nat→Nat}{l:List Nat}{t:Nat}:up (fY P0 (l++[t])) t (fY P0 (l++[t]) t-1)=fY P0 l:=by
 funext s
 unfold up fY
 split
 ·rename_i e;subst e;simp
 ·rename_i e;simp[List.count_append,List.count_singleton,Ne.symm e]
theorem kL{P0:Nat→Nat}(h:cC kp K ord ah tr C){r:Nat}(hm:iP K S gS (fY P0 [r]))(hp:Pos K)(hl:PL (fY P0 [r]) K.N)(hr:r<1048576)(hbu:∀s,K.use s<2147483648):
  Fc Tryz.prog 142 #[ptr kp,u32 r] C (fun v C'=>v=.tuple #[]∧∃K',cC kp K' ord ah tr C'∧iP K' S gS P0∧Pos K'∧PL P0 K'.N∧uZ K' K):=by
 intro g
 refine Es (R:=aA _) ?_
 unfold L142
 refine av.int (e:=77) (by kernel_rfl) (by kernel_rfl) (by kernel_rfl) fun bx=>?_
 refine Vk (fun k vs H=>∃(w:Value) (Ct C':Hp) (todo:List Nat) (K':Kd),vs=[w]∧H=Ct++C'∧aN 77 .u32 w (iw todo) Ct∧cC kp K' ord ah tr C'∧iP K' S gS (fY P0 todo)∧Pos K'∧PL (fY P0 todo) K'.N∧uZ K' K∧(∀t∈todo,t<1048576)∧k=3*K'.used+todo.length∧k≤3*K.used+1)
  _ ⟨_,[_],C,[r],K,rfl,rfl,aN.made [(r:Int)],h,hm,hp,hl,.refl K,by simpa using hr,rfl,by simp⟩ ?_
 rintro w H hJ gs
 obtain⟨k,⟨w',Ct,C',todo,K',hw,rfl,ht,hK,hM,LS,Jh,nV,hT,hk,hkb⟩,hkm⟩:=hJ.open
 simp only[List.cons.injEq,and_true]at hw
 subst hw
 refine ht.bC ?_
 rw[ak]
 refine ae.kB (b:=0) (Br.dec (fun hpos=>?_) (fun hpos=>?_))
 ·have hc1:=hm.cap
  obtain⟨pre,t,rfl⟩:∃pre t,todo=pre++[t]:=⟨todo.dropLast,todo.getLast (by intro e;simp[e]at hpos),(List.dropLast_concat_getLast _).symm⟩
  have ZX:(pre++[t]).length=pre.length+1:=by simp
  have Qt:=hT t (by simp)
  refine ht.bC ?_
  rw[ak,ZX]
  refine ae.bH (b:=1) ?_ (by omega) ?_
  ·simp[aB];omega
  rw[Nat.add_sub_cancel]
  refine ht.ld (i:=pre.length) (x:=(t:Int)) (by rw[cm];simp[iw]) (bS.sub .left) ?_
  refine ht.cut (i:=pre.length) (by simp) fun w' ht'=>?_
  have Nl:aN 77 .u32 w' (iw pre) Ct:=by
   rw[cm,List.take_left' (by simp)]at ht';exact ht'
  have hTp:∀s∈pre,s<1048576:=fun s hs=>hT s (List.mem_append_left _ hs)
  refine ae.Bp (b:=1) (Br.dec (fun h1=>?_) (fun h1=>?_))
  ·have hc:∀s,2≤s→fY P0 (pre++[t]) s=fY P0 pre s:=fun s hs=>by
    unfold fY;rw[List.count_append,List.count_singleton];simp;omega
   exact mM.back (.refl _) hkm (3*K'.used+pre.length) ⟨w',Ct,C',pre,K',rfl,rfl,Nl,hK,hM.congr (fun _=>Iff.rfl) hc,LS,fun s hs h0=>Jh s hs (by rw[hc s hs];exact h0),nV,hTp,rfl,by simp at hk;omega⟩ (by rw[hk];simp)
  ·have hPt:0<fY P0 (pre++[t]) t:=by unfold fY;simp;omega
   obtain⟨d,hd⟩:=Jh t (by omega) hPt
   have hfit:=hM.fit hd
   have So:=LS t d hd
   obtain⟨b,rfl,hO⟩:=hK
   refine Nil.ptr ?_
   refine aa.mk (Ld.mk (v:=b.vu) (List.mem_append_right _ (by exact .head _)) rfl ?_)
   refine hO.us.ld (x:=((K'.use t:Nat):Int)) (bc hfit) (bS.sub (.app (.cons (.app (.app .left))))) ?_
   refine ae.bH (b:=1) ?_ (by omega) ?_
   ·have:=nV.us t
    have:=hbu t
    simp[aB];omega
   refine hO.us.jC (x:=((K'.use t-1:Nat):Int)) (.app (.cons (.app (.app .left)))) (by simpa using hfit) fun NG xp=>?_
   rw[e7]at xp
   have g1:∀s,(K'.us.set t (K'.use t-1)).getD s 0=if s=t then K'.use t-1 else K'.use s:=fun s=>fX hfit
   have HK:=hM.less (r:=t) (cZ:=K'.us.set t (K'.use t-1)) hPt (by simp) (by rw[g1,if_pos rfl];omega) (fun s hs=>by rw[g1,if_neg hs])
   rw[HY]at HK
   have QR:TN {b with CU:=NG} {K' with us:=K'.us.set t (K'.use t-1)} ord ah tr:={hO with us:=xp,ul:=by simp;exact hO.ul}
   have LU:uZ {K' with us:=K'.us.set t (K'.use t-1)} K:=⟨nV.N,nV.n,nV.cap,nV.ho,fun s=>by
    show(K'.us.set t (K'.use t-1)).getD s 0≤_
    rw[g1]
    have:=nV.us s
    split
    ·rename_i e;subst e;omega
    ·exact this,fun hi s hs=>by
    show(K'.us.set t (K'.use t-1)).getD s 0=0
    have hs':K'.N s=none:=hs
    rw[g1,if_neg (fun e=>by subst e;rw[hd]at hs';cases hs')]
    exact nV.idle hi s hs'⟩
   have WC:PL (fY P0 pre) K'.N:=fun s hs h0=>Jh s hs (by unfold fY at h0⊢;rw[List.count_append];omega)
   refine Nil.ptr ?_
   refine aa.mk (Ld.mk (v:=b.vu) (List.mem_append_right _ (by exact .head _)) rfl ?_)
   refine xp.ld (x:=((K'.use t-1:Nat):Int)) (by rw[←e7];simp[hfit]) (bS.sub (.app (.cons (.app (.app .left))))) ?_
   refine ae.kB (b:=0) (Br.dec (fun h3=>?_) (fun h3=>?_))
   ·refine mM.back (.refl _) hkm (3*K'.used+pre.length) ⟨w',Ct,_,pre,_,rfl,rfl,Nl,⟨_,rfl,QR⟩,HK,fun s e hs=>?_,WC,LU,hTp,rfl,by simp at hk;omega⟩ (by rw[hk];simp)
    show 0<(K'.us.set t (K'.use t-1)).getD s 0
    rw[g1]
    split
    ·exact h3
    ·exact LS s e hs
   ·have hu0:K'.use t=1:=by omega
    have fp:cC kp {K' with us:=K'.us.set t (K'.use t-1)} ord ah tr (({b with CU:=NG}:rH).hp kp K'.n):=⟨_,rfl,QR⟩
    refine af.rd (.app .here) (mh fp (by omega)) ?_
    rintro v rfl
    have LY:2≤t:=by omega
    have aaw:got K'.N t=aP d:=df hd LY
    show aX _ _ _
    intro Xe _
    rw[aaw]
    refine St.whole (r:=aP d) (by exact .head _) rfl rfl (fun x hx=>by simp[aP,u32]at hx;rcases hx with rfl|rfl|rfl<;>rfl) ?_
    refine DR.self ?_
    refine Nil.ptr ?_
    refine aa.mk (Ld.mk (v:=ptr b.pt) (.tail _ (List.mem_append_right _ (by exact .head _))) rfl ?_)
    refine aC.whole (r:=aP d) (by exact .head _) rfl ?_
    have hTd:K'.T d=some t:=(hM.iJ d t).2 ⟨hd,fun h=>h⟩
    refine af.fn (.cons (.app (.cons (.app .left)))) (vp QR.ut (hM.var hd) hTd) ?_
    rintro v T7 ⟨rfl,Sf⟩
    refine Nil.ptr ?_
    refine aa.mk (Ld.mk (v:=ptr b.pa) (.tail _ (List.mem_append_right _ (by exact .head _))) rfl ?_)
    refine af.fn (.cons (.app (.cons .left))) (MN QR.ar ⟨d,hd⟩ LY) ?_
    rintro v XV ⟨rfl,Wo⟩
    refine aa.mk (Ld.mk (v:=u32 d.lo) (by exact .head _) rfl ?_)
    refine aa.mk (Ld.mk (v:=u32 d.hi) (by exact .head _) rfl ?_)
    refine av.La (e:=77) (by kernel_rfl) (by kernel_rfl) (by kernel_rfl) fun bz=>?_
    refine Nl.Af (.cons (.cons .left)) (cT.block (l:=[(d.lo:Int),(d.hi:Int)]) (by exact .head _) (by simp)) (by simp at hk⊢;omega) (by simp at hk⊢;omega) fun w2 Ct2 OI=>?_
    have e0:iw pre++[(d.lo:Int),(d.hi:Int)]=iw (pre++[d.lo,d.hi]):=by rw[cm];rfl
    rw[e0]at OI
    have Ye:({K' with us:=K'.us.set t (K'.use t-1)}:Kd).use t=0:=by show(K'.us.set t (K'.use t-1)).getD t 0=0;rw[g1,if_pos rfl];omega
    have FJ:=HK.free (r:=t) (d:=d) hd (fun h=>h) Ye
    have hed:cR K'.N t K'.cap=0:=by have:=HK.use hd;rw[Ye]at this;exact(by have h5:cR K'.N t K'.cap+_+_=0:=this.symm;omega)
    have gK:=jc hed t (hM.two hd).2 d hd
    have aa0:fY P0 pre t=0:=by have:=HK.use hd;rw[Ye]at this;omega
    have hroom:0<K'.used:=by have:=hM.room;omega
    have hlt:∀x,live K'.N x→x<1048576:=fun x hx=>fp.lt hx
    have lJ:∀s,2≤s→fY P0 pre s+e1 (some d) s=fY P0 (pre++[d.lo,d.hi]) s:=fun s _=>by
     unfold fY
     rw[dN,List.count_append,List.count_cons,List.count_cons,List.count_nil]
     simp only[beq_iff_eq]
     omega
    refine mM.back (.skip (.skip (.refl _))) hkm (3*(K'.used-1)+(pre++[d.lo,d.hi]).length) ⟨w2,Ct2,_,pre++[d.lo,d.hi],{K' with us:=K'.us.set t (K'.use t-1),N:=up K'.N t none,T:=oQ K'.T d none,used:=K'.used-1},rfl,rfl,OI,
     ⟨{b with CU:=NG,CT:=T7,CA:=XV},rfl,{QR with ar:=Wo,ut:=Sf}⟩,FJ.congr (fun _=>Iff.rfl) lJ,fun s e hs=>?_,fun s hs h0=>?_,⟨fun{s e} hs=>?_,LU.n,LU.cap,LU.ho,LU.us,fun hi s hs=>?_⟩,fun s hs=>?_,rfl,by simp at hk⊢;omega⟩ (by simp at hk⊢;omega)
    ·have hne:s≠t:=fun e2=>by subst e2;have zf:up K'.N s none s=some e:=hs;rw[aI]at zf;cases zf
     show 0<(K'.us.set t (K'.use t-1)).getD s 0
     rw[g1,if_neg hne]
     have zf:up K'.N t none s=some e:=hs
     rw[aJ hne]at zf
     exact LS s e zf
    ·have hne:s≠t:=fun e2=>by
      subst e2
      rw[←lJ s hs,aa0]at h0
      rw[dN,if_neg gK.1,if_neg gK.2]at h0
      omega
     show∃e,up K'.N t none s=some e
     rw[aJ hne]
     rw[←lJ s hs]at h0
     by_cases h5:0<fY P0 pre s
     ·exact WC s hs h5
     ·rw[dN]at h0
      have:d.lo=s∨d.hi=s:=by
       by_cases h6:d.lo=s
       ·exact .inl h6
       ·by_cases h7:d.hi=s
        ·exact .inr h7
        ·rw[if_neg h6,if_neg h7]at h0;omega
      rcases this with rfl|rfl
      ·rcases hM.lo hd with h8|h8
       ·omega
       ·exact h8
      ·rcases hM.hi hd with h8|h8
       ·omega
       ·exact h8
    ·have zf:up K'.N t none s=some e:=hs
     by_cases e2:s=t
     ·subst e2;rw[aI]at zf;cases zf
     ·rw[aJ e2]at zf;exact nV.N zf
    ·have zf:up K'.N t none s=none:=hs
     show(K'.us.set t (K'.use t-1)).getD s 0=0
     by_cases e2:s=t
     ·subst e2;rw[g1,if_pos rfl];omega
     ·rw[aJ e2]at zf
      exact LU.idle hi s zf
    ·rcases List.mem_append.1 hs with hs|hs
     ·exact hTp s hs
     ·simp at hs
      rcases hs with rfl|rfl
      ·exact hlt _ (hM.lo hd)
      ·exact hlt _ (hM.hi hd)
 ·obtain rfl:todo=[]:=List.eq_nil_of_length_eq_zero (by omega)
  exact aA.mk .right ⟨rfl,K',hK,hM.congr (fun _=>Iff.rfl) (fun s _=>by simp[fY]),LS,fun s hs h0=>Jh s hs (by simpa[fY]using h0),nV⟩
end
abbrev lv(ah:List Nat):Nat→Nat:=fun v=>ah.getD v 0
section
variable {kp:Nat} {K:Kd} {ord ah tr:List Nat} {C:Hp} {S:Nat→aE.Fn}
theorem Fu(h:cC kp K ord ah tr C)(v:Int):Rd Tryz.prog 113 #[ptr kp,.int .i64 v] C (· =.bool (decide (0≤v∧v<K.n))):=by
 obtain⟨b,rfl,hO⟩:=h
 intro g
 refine EG (R:=aA _) ?_
 unfold L113
 refine ae.geq ?_
 refine bT.and (decide (v<K.n)) (fun _=>?_) rfl fun _=>cz.mk (.refl _) (by rw[Bool.decide_and])
 refine Nil.ptr ?_
 refine aa.mk (Ld.mk (v:=.int .i64 (K.n:Int)) (by exact .head _) rfl ?_)
 exact ae.lss ⟨rfl,rfl⟩
theorem vK(h:cC kp K ord ah tr C){r:Nat}(hl:live K.N r)(hv:∀d,K.N r=some d→d.v<K.n)(UA:r<2→K.N r=none):Rd Tryz.prog 257 #[ptr kp,u32 r] C (· =.int .i64 ((dep K.n (lv ah) K.N r:Nat):Int)):=by
 have h0:=h
 have hr:=h.lt hl
 obtain⟨b,rfl,hO⟩:=h
 intro g
 refine C7 (R:=aA _) ?_
 unfold L257
 refine Nil.ptr (aa.mk ?_)
 refine af.rd .here (mh h0 (by omega)) ?_
 rintro v rfl
 intro b5 _
 refine St.whole (r:=got K.N r) (by exact .head _) rfl (aG _ _).1 (aG _ _).2 ?_
 by_cases h2:r<2
 ·rw[dY h2,aU (UA h2)]
  refine aa.mk (Ld.mk (v:=.int .i64 (-1)) (by exact .head _) rfl ?_)
  refine ae.geq (Br.RL (by decide) ?_)
  refine Nil.ptr ?_
  refine aa.mk (Ld.mk (v:=.int .i64 (K.n:Int)) (by exact .tail _ (.head _)) rfl ?_)
  exact cz.mk .tail rfl
 ·obtain⟨d,hd⟩:∃d,K.N r=some d:=by rcases hl with hl|hl;omega;exact hl
  rw[df hd (by omega),ay hd]
  have nT:=hv d hd
  have hlen:=hO.ol.2
  refine aa.mk (Ld.mk (v:=.int .i64 (d.v:Int)) (by exact .head _) rfl ?_)
  refine ae.geq (Br.YR (by simp) ?_)
  refine Nil.ptr ?_
  refine aa.mk (Ld.mk (v:=b.vl) (by exact .tail _ (.head _)) rfl ?_)
  refine aa.mk (Ld.mk (v:=.int .i64 (d.v:Int)) (by exact .head _) rfl ?_)
  refine hO.lv.ld (x:=((ah.getD d.v 0:Nat):Int)) (bc (by omega)) (bS.sub (.cons (.cons (.app (.app (.app (.app (.app .left)))))))) ?_
  exact cz.mk .tail rfl
def qX(K:Kd)(ah:List Nat)(v:Int)(lo hi:Nat):Int:=
 if¬(0≤v∧v<K.n)then 2 else if fH K.N lo=false∨fH K.N hi=false then 3 else if lo≠hi∧min (dep K.n (lv ah) K.N lo) (dep K.n (lv ah) K.N hi)≤ah.getD v.toNat 0 then 4 else 0
theorem Pp(h:cC kp K ord ah tr C)(v:Int){lo hi:Nat}(hlo:lo<4294967296)(hhi:hi<4294967296)(hv:∀r d,K.N r=some d→d.v<K.n∧2≤r):
  Rd Tryz.prog 225 #[ptr kp,.int .i64 v,u32 lo,u32 hi] C (· =.int .i64 (qX K ah v lo hi)):=by
 have h0:=h
 have UA:∀r,r<2→K.N r=none:=fun r hr=>by
  cases e:K.N r with
  |none=>rfl
  |some d=>have:=(hv r d e).2;omega
 obtain⟨b,rfl,hO⟩:=h
 intro g
 refine Dy (R:=aA _) ?_
 unfold L225
 refine af.rd .here (Fu h0 v) ?_
 rintro x rfl
 refine Un.not ?_
 by_cases BA:0≤v∧v<K.n
 rotate_left
 ·rw[decide_eq_false BA]
  exact Br.yes (cz.mk (.refl _) (by unfold qX;rw[if_pos BA]))
 rw[decide_eq_true BA]
 refine Br.no ?_
 obtain⟨n,rfl⟩:∃n:Nat,v=n:=⟨v.toNat,by omega⟩
 have hnv:n<K.n:=by omega
 intro J hJ
 refine Nil.ptr (aa.mk ?_)
 refine af.rd .here (mj h0 hlo) ?_
 rintro x rfl
 refine Un.not ?_
 by_cases uQ:fH K.N lo=true
 rotate_left
 ·have VW:fH K.N lo=false:=by simpa using uQ
  rw[VW]
  exact Split.Vd rfl (aF.mk (JE.mk (hJ _ _ fun gs=>Br.yes (cz.mk (.refl _) (by unfold qX;rw[if_neg (by simpa using BA),if_pos (.inl VW)])))))
 rw[uQ]
 refine Split.go rfl ?_
 refine Nil.ptr (aa.mk ?_)
 refine af.rd .here (mj h0 hhi) ?_
 rintro x rfl
 refine Un.not ?_
 by_cases Ym:fH K.N hi=true
 rotate_left
 ·have V5:fH K.N hi=false:=by simpa using Ym
  rw[V5]
  exact aF.mk (JE.mk (hJ _ _ fun gs=>Br.yes (cz.mk (.refl _) (by unfold qX;rw[if_neg (by simpa using BA),if_pos (.inr V5)]))))
 rw[Ym]
 refine aF.mk (JE.mk (hJ _ _ fun gs=>Br.no ?_))
 intro J2 zw
 have hE:qX K ah n lo hi=if lo≠hi∧min (dep K.n (lv ah) K.N lo) (dep K.n (lv ah) K.N hi)≤ah.getD n 0 then 4 else 0:=by
  unfold qX
  rw[if_neg (by simpa using BA),if_neg (by rw[uQ,Ym];simp)]
  rfl
 refine DR.self ?_
 refine ae.wZ ?_
 by_cases hne:lo≠hi
 rotate_left
 ·rw[decide_eq_false hne]
  exact Br.no (JE.mk (zw _ _ fun gs=>Br.no (cz.mk (.refl _) (by rw[hE,if_neg (fun h=>hne h.1)]))))
 rw[decide_eq_true hne]
 refine Br.yes ?_
 refine Nil.ptr ?_
 refine aa.mk (Ld.mk (v:=b.vl) (by exact .head _) rfl ?_)
 have hlen:=hO.ol.2
 refine hO.lv.ld (x:=((ah.getD n 0:Nat):Int)) (bc (by omega)) (bS.sub (.cons (.app (.app (.app (.app (.app .left))))))) ?_
 intro F
 refine af.rd .here (vK h0 (bM.1 uQ) (fun d hd=>(hv _ _ hd).1) (UA _)) ?_
 rintro x rfl
 refine⟨.refl _,?_⟩
 intro F2
 refine af.rd .here (vK h0 (bM.1 Ym) (fun d hd=>(hv _ _ hd).1) (UA _)) ?_
 rintro x rfl
 refine⟨.refl _,?_⟩
 refine⟨_,_,_,rfl,rfl,?_⟩
 have hmin:(if((dep K.n (lv ah) K.N hi:Nat):Int)<((dep K.n (lv ah) K.N lo:Nat):Int)then((dep K.n (lv ah) K.N hi:Nat):Int)else((dep K.n (lv ah) K.N lo:Nat):Int))=((min (dep K.n (lv ah) K.N lo) (dep K.n (lv ah) K.N hi):Nat):Int):=by
  split<;>omega
 rw[hmin]
 refine ae.rD ?_
 refine aF.mk ?_
 by_cases hm:min (dep K.n (lv ah) K.N lo) (dep K.n (lv ah) K.N hi)≤ah.getD n 0
 ·rw[decide_eq_true hm]
  exact JE.mk (zw _ _ fun gs=>Br.yes (cz.mk (.refl _) (by rw[hE,if_pos ⟨hne,hm⟩])))
 ·rw[decide_eq_false hm]
  exact JE.mk (zw _ _ fun gs=>Br.no (cz.mk (.refl _) (by rw[hE,if_neg (fun h=>hm h.2)])))
theorem NY(h:cC kp K ord ah tr C){v lo hi:Nat}(hv:v<K.n):
  Rd Tryz.prog 226 #[ptr kp,.int .i64 (v:Int),u32 lo,u32 hi] C (· =if lo=hi then .tuple #[u32 lo,.bool true]else .tuple #[u32 ((K.T ⟨v,lo,hi⟩).getD 0),.bool (K.T ⟨v,lo,hi⟩).isSome]):=by
 obtain⟨b,rfl,hO⟩:=h
 intro g
 refine Dx (R:=aA _) ?_
 unfold L226
 refine ae.eB (Br.dec (fun he=>cz.mk (.refl _) (by rw[if_pos he])) (fun he=>?_))
 refine Nil.ptr (aa.mk ?_)
 refine aa.mk (Ld.mk (v:=ptr b.pt) (by exact .head _) rfl ?_)
 refine Build.mk (cs:=aP ⟨v,lo,hi⟩) (by kernel_rfl) ?_
 refine af.rd (.cons (.app .left)) (rU (d:=⟨v,lo,hi⟩) hO.ut hv) ?_
 rintro x rfl
 exact Ext.mk rfl (Ext.mk rfl (cz.mk (.refl _) (by rw[if_neg he];rfl)))
theorem sU(h:cC kp K ord ah tr C){r:Nat}(hr:r<4294967296)(hb:∀s,K.hold s<2147483648):Rd Tryz.prog 95 #[ptr kp,u32 r] C (· =.int .i64 ((K.hold r:Nat):Int)):=by
 obtain⟨b,rfl,hO⟩:=h
 intro g
 refine Im (R:=aA _) ?_
 unfold L95
 refine ae.bJ ?_
 refine bT.or (decide (K.ho.length≤r)) (fun _=>?_) (by simp) fun _=>?_
 ·refine aW.nat (by simp[aB];omega) (Nil.ptr (aa.mk ?_))
  refine aa.mk (Ld.mk (v:=b.vh) (by exact .head _) rfl ?_)
  refine hO.ho.bC ?_
  rw[ak]
  exact ae.rD ⟨rfl,rfl⟩
 ·rw[Bool.false_or]
  refine Br.dec (fun hge=>?_) (fun hlt=>?_)
  ·refine cz.mk (.refl _) ?_
   unfold Kd.hold;rw[List.getD,List.getElem?_eq_none hge];rfl
  ·refine Nil.ptr (aa.mk ?_)
   refine aa.mk (Ld.mk (v:=b.vh) (by exact .head _) rfl ?_)
   refine hO.ho.ld (x:=((K.hold r:Nat):Int)) (bc (by omega)) (bS.sub (.cons (.app (.app (.app .left))))) ?_
   refine aW.nat (by have:=hb r;simp[aB];omega) ?_
   exact cz.mk (.refl _) rfl
theorem rR(h:cC kp K ord ah tr C)(h2:2≤K.used)(hu:K.used≤1048576):Rd Tryz.prog 15 #[ptr kp] C (· =.int .i64 ((K.used-2:Nat):Int)):=by
 obtain⟨b,rfl,hO⟩:=h
 intro g
 refine IS (R:=aA _) ?_
 unfold L15
 refine ae.bJ (Br.no (Nil.ptr (aa.mk ?_)))
 refine aa.mk (Ld.mk (v:=ptr b.pa) (by exact .head _) rfl ?_)
 refine af.rd (.cons .left) (Ac hO.ar) ?_
 rintro v rfl
 refine ae.bH (b:=2) (by simp[aB];omega) h2 ?_
 exact cz.mk (.refl _) rfl
theorem Hs(h:cC kp K ord ah tr C):Rd Tryz.prog 34 #[ptr kp] C (· =.int .i64 ((tr.length:Nat):Int)):=by
 obtain⟨b,rfl,hO⟩:=h
 intro g
 refine IK (R:=aA _) ?_
 unfold L34
 refine ae.bJ (Br.no (Nil.ptr ?_))
 refine aa.mk (Ld.mk (v:=b.vt) (by exact .head _) rfl ?_)
 refine hO.tr.bC ?_
 rw[ak]
 exact cz.mk (.refl _) rfl
theorem gU(h:cC kp K ord ah tr C):Rd Tryz.prog 61 #[ptr kp] C (· =.int .i64 ((K.n:Nat):Int)):=by
 obtain⟨b,rfl,hO⟩:=h
 intro g
 refine Ix (R:=aA _) ?_
 unfold L61
 refine ae.bJ (Br.no (Nil.ptr ?_))
 refine aa.mk (Ld.mk (v:=.int .i64 (K.n:Int)) (by exact .head _) rfl ?_)
 exact cz.mk (.refl _) rfl
theorem fV(h:cC kp K ord ah tr C){r:Nat}(hr:r<4294967296):Rd Tryz.prog 97 #[ptr kp,u32 r] C (· =.tuple #[.agg (got K.N r).toArray,.int .i64 (if fH K.N r then 0 else 3)]):=by
 have h0:=h
 obtain⟨b,rfl,hO⟩:=h
 intro g
 refine Il (R:=aA _) ?_
 unfold L97
 intro b1 _
 refine ae.bJ (Br.no (Nil.ptr (aa.mk ?_)))
 refine af.rd (.cons .here) (mj h0 hr) ?_
 rintro v rfl
 refine Un.not ?_
 cases hb:fH K.N r with
 |false=>
  refine Br.yes ?_
  refine Build.mk (cs:=[.int .i64 0,.int .u32 0,.int .u32 0]) (by kernel_rfl) ?_
  refine St.whole (r:=[.int .i64 0,.int .u32 0,.int .u32 0]) (by exact .head _) rfl rfl (by simp[Value.oneCell']) ?_
  refine aC.whole (r:=[.int .i64 0,.int .u32 0,.int .u32 0]) (by exact .head _) rfl ?_
  exact cz.mk .tail (by rw[zA hb];rfl)
 |true=>
  refine Br.no (Nil.ptr (aa.mk ?_))
  refine af.rd (.cons .here) (mh h0 hr) ?_
  rintro v rfl
  refine St.whole (r:=got K.N r) (by exact .head _) rfl (aG _ _).1 (aG _ _).2 ?_
  refine aC.whole (r:=got K.N r) (by exact .head _) (aG _ _).1 ?_
  exact cz.mk .tail rfl
end
theorem tw{B:Hp}{v:Value}{l:List Int}(h:cT .i64 B v l)(hl:l.length≤1099511627776):Fc Tryz.prog 57 #[v] B (fun r H=>∃C,H=C++B∧aN 3 .i64 r l C):=by
 intro g
 refine IA (R:=aA _) ?_
 unfold L57
 obtain⟨a,c,rfl,hc⟩:=h.shape
 refine⟨.bool a.isNone,by simp[gp],?_⟩
 refine Br.mk (fun ha=>?_) (fun ha=>?_)
 ·have:l=[]:=by
   rcases h.2 with⟨_,_,h1,h2⟩|⟨b,o,cap,cs,T,fz,h1,_⟩
   ·simpa using h2
   ·simp at h1;rw[h1.1]at ha;simp at ha
  subst this
  exact aA.here ⟨[],rfl,aN.nil⟩
 ·refine av.none (z:=.int .i64 0) (e:=3) (k:=1) (by kernel_rfl) (by kernel_rfl) (by kernel_rfl) fun b=>?_
  refine(aN.made (T:=3) (kd:=.i64) (b:=b) []).Af (l2:=l) .left ((show cT .i64 B _ l from h).mono fun _ h=>.tail _ h) (by simp;omega) (by simp;omega) fun v' C' ho=>?_
  exact aA.here ⟨C',rfl,by simpa using ho⟩
theorem qi{kp:Nat}{K:Kd}{ord ah tr:List Nat}{C:Hp}(h:cC kp K ord ah tr C):Fc Tryz.prog 13 #[ptr kp] C (fun r H=>∃N,H=N++C∧aN 3 .i64 r (iw ord) N):=by
 obtain⟨b,rfl,hO⟩:=h
 intro g
 refine IT (R:=aA _) ?_
 unfold L13
 refine ae.bJ (Br.no (Nil.ptr ?_))
 refine aa.mk (Ld.mk (v:=b.vo) (by exact .head _) rfl ?_)
 refine af.fn .here (tw (hO.od.ints.mono (bS.sub (.cons (.app (.app (.app (.app .left))))))) (by have:=hO.ol.1;have:=hO.Ax;simp;omega)) ?_
 rintro v C' ⟨N,rfl,ho⟩
 exact aA.here ⟨N,rfl,ho⟩
end Go.Proofs
set_option maxRecDepth 100000
namespace Go.Proofs
open Go Go.Sx
def wq(x r:Nat):Prop:=x<2^r∧(r=0∨2^(r-1)≤x)
theorem wq.up{x s t:Nat}(h:wq (x>>>s) t)(h0:s=0∨x>>>s≠0):wq x (s+t):=by
 rw[Nat.shiftRight_eq_div_pow]at h h0
 have hp:=Nat.two_pow_pos s
 refine⟨?_,?_⟩
 ·have:=h.1
  rw[Nat.div_lt_iff_lt_mul hp]at this
  rw[Nat.pow_add,Nat.mul_comm];exact this
 ·rcases h.2 with h2|h2
  ·subst h2
   have:=h.1
   rcases h0 with h0|h0
   ·exact .inl (by omega)
   ·rw[Nat.pow_zero]at this;exact absurd (Nat.lt_one_iff.1 this) h0
  ·by_cases ht:t=0
   ·subst ht
    rcases h0 with h0|h0
    ·exact .inl (by omega)
    ·have:=h.1;rw[Nat.pow_zero]at this;exact absurd (Nat.lt_one_iff.1 this) h0
   ·right
    have:=(Nat.le_div_iff_mul_le hp).1 h2
    rw[show s+t-1=(t-1)+s by omega,Nat.pow_add];exact this
theorem Ou:∀y:Fin 256,∃b:UInt8,(ByteArray.mk #[0,1,2,2,3,3,3,3,4,4,4,4,4,4,4,4,5,5,5,5,5,5,5,5,5,5,5,5,5,5,5,5,6,6,6,6,6,6,6,6,6,6,6,6,6,6,6,6,6,6,6,6,6,6,6,6,6,6,6,6,6,6,6,6,7,7,7,7,7,7,7,7,7,7,7,7,7,7,7,7,7,7,7,7,7,7,7,7,7,7,7,7,7,7,7,7,7,7,7,7,7,7,7,7,7,7,7,7,7,7,7,7,7,7,7,7,7,7,7,7,7,7,7,7,7,7,7,7,8,8,8,8,8,8,8,8,8,8,8,8,8,8,8,8,8,8,8,8,8,8,8,8,8,8,8,8,8,8,8,8,8,8,8,8,8,8,8,8,8,8,8,8,8,8,8,8,8,8,8,8,8,8,8,8,8,8,8,8,8,8,8,8,8,8,8,8,8,8,8,8,8,8,8,8,8,8,8,8,8,8,8,8,8,8,8,8,8,8,8,8,8,8,8,8,8,8,8,8,8,8,8,8,8,8,8,8,8,8,8,8,8,8,8,8,8,8,8,8,8,8,8,8,8,8,8,8])[y.1]? =some b∧(y.1<2^b.toNat∧(b.toNat=0∨2^(b.toNat-1)≤y.1)):=by
 have h:∀y:Fin 256,(match(ByteArray.mk #[0,1,2,2,3,3,3,3,4,4,4,4,4,4,4,4,5,5,5,5,5,5,5,5,5,5,5,5,5,5,5,5,6,6,6,6,6,6,6,6,6,6,6,6,6,6,6,6,6,6,6,6,6,6,6,6,6,6,6,6,6,6,6,6,7,7,7,7,7,7,7,7,7,7,7,7,7,7,7,7,7,7,7,7,7,7,7,7,7,7,7,7,7,7,7,7,7,7,7,7,7,7,7,7,7,7,7,7,7,7,7,7,7,7,7,7,7,7,7,7,7,7,7,7,7,7,7,7,8,8,8,8,8,8,8,8,8,8,8,8,8,8,8,8,8,8,8,8,8,8,8,8,8,8,8,8,8,8,8,8,8,8,8,8,8,8,8,8,8,8,8,8,8,8,8,8,8,8,8,8,8,8,8,8,8,8,8,8,8,8,8,8,8,8,8,8,8,8,8,8,8,8,8,8,8,8,8,8,8,8,8,8,8,8,8,8,8,8,8,8,8,8,8,8,8,8,8,8,8,8,8,8,8,8,8,8,8,8,8,8,8,8,8,8,8,8,8,8,8,8,8,8,8,8,8,8])[y.1]? with|some b=>decide (y.1<2^b.toNat∧(b.toNat=0∨2^(b.toNat-1)≤y.1))|none=>false)=true:=by decide+kernel
 intro y
 have:=h y
 split at this
 ·rename_i b hb
  exact⟨b,hb,by simpa using this⟩
 ·cases this
theorem KR{x:Nat}(hx:x<18446744073709551616)(B:Hp):Rd Tryz.prog 75 #[.int .u64 (x:Int)] B (fun v=>∃r:Nat,wq x r∧v=.int .i64 (r:Int)):=by
 intro g
 refine Io (R:=aA _) ?_
 unfold L75
 intro J1 Tc
 have h1:∀s,s≤32→x>>>s<4294967296→(s=0∨x>>>s≠0)→J1 [.int .u64 ((x>>>s:Nat):Int),.int .i64 (s:Int)] B:=by
  intro s hs hlt h0
  refine Tc _ _ _ fun gs=>?_
  intro J2 zw
  have h2:∀s,s≤48→x>>>s<65536→(s=0∨x>>>s≠0)→J2 [.int .u64 ((x>>>s:Nat):Int),.int .i64 (s:Int)] B:=by
   intro s hs hlt h0
   refine zw _ _ _ fun gs=>?_
   intro J3 hJ3
   have h3:∀s,s≤56→x>>>s<256→(s=0∨x>>>s≠0)→J3 [.int .u64 ((x>>>s:Nat):Int),.int .i64 (s:Int)] B:=by
    intro s hs hlt h0
    refine hJ3 _ _ _ fun gs=>?_
    refine aW.nat (show x>>>s<256 from hlt) ?_
    obtain⟨b,hb,hl⟩:=Ou ⟨x>>>s,hlt⟩
    refine⟨_,_,_,b,rfl,rfl,Int.natCast_nonneg _,by rw[Int.toNat_natCast];exact hb,?_⟩
    have SP:b.toNat<256:=b.toNat_lt
    refine aW.nat (by simp[aB];omega) ?_
    refine ae.aL (by simp[aB];omega) ?_
    exact cz.mk (.refl _) ⟨s+b.toNat,wq.up (t:=b.toNat) hl h0,rfl⟩
   refine ae.rD (b:=256) (Br.dec (fun hge=>?_) (fun hge=>JE.mk (h3 s (by omega) (by omega) h0)))
   refine ae.kJ (b:=8) (by simp only[aB];omega) ?_
   refine ae.aL (b:=8) (by simp[aB];omega) ?_
   rw[←Nat.shiftRight_add]
   have e:x>>>(s+8)=x>>>s/256:=by rw[Nat.shiftRight_add,Nat.shiftRight_eq_div_pow (x>>>s) 8]
   exact JE.mk (h3 (s+8) (by omega) (by omega) (.inr (by omega)))
  refine ae.rD (b:=65536) (Br.dec (fun hge=>?_) (fun hge=>JE.mk (h2 s (by omega) (by omega) h0)))
  refine ae.kJ (b:=16) (by simp only[aB];omega) ?_
  refine ae.aL (b:=16) (by simp[aB];omega) ?_
  rw[←Nat.shiftRight_add]
  have e:x>>>(s+16)=x>>>s/65536:=by rw[Nat.shiftRight_add,Nat.shiftRight_eq_div_pow (x>>>s) 16]
  exact JE.mk (h2 (s+16) (by omega) (by omega) (.inr (by omega)))
 refine ae.rD (b:=4294967296) (Br.dec (fun hge=>?_) (fun hge=>JE.mk (h1 0 (by omega) (by simp;omega) (.inl rfl))))
 refine ae.kJ (b:=32) (by simp only[aB];exact hx) ?_
 have e:x>>>32=x/4294967296:=by rw[Nat.shiftRight_eq_div_pow]
 exact JE.mk (h1 32 (by omega) (by omega) (.inr (by omega)))
end Go.Proofs
namespace Go.Sx
open Go
section
variable {P:Program} {H C:Hp} {c:Hp→Hp}
theorem bS.re(h:bS C H c)(X:Hp):bS X (c X) c:=by
 induction h with
 |here=>exact .here
 |left=>exact .left
 |cons _ ih=>exact .cons ih
 |app _ ih=>exact .app ih
def Dt(T:TypeId)(kd:IntKind)(v:Value)(l0:List Int)(C:Hp):Prop:=∃l:List Int,l.Perm l0∧aN T kd v l C
theorem swap_perm{l:List Int}{i j:Nat}{x y:Int}(hi:l[i]? =some x)(hj:l[j]? =some y):((l.set i y).set j x).Perm l:=by
 have h1:=(List.getElem?_eq_some_iff.1 hi).1
 have h2:=(List.getElem?_eq_some_iff.1 hj).1
 rw[List.perm_iff_count]
 intro a
 by_cases e:i=j
 ·subst e
  rw[hi]at hj;cases hj
  rw[List.set_set]
  have:l.set i x=l:=by
   have hx:l[i]=x:=by rw[List.getElem?_eq_getElem h1]at hi;exact Option.some.inj hi
   rw[←hx];exact List.set_getElem_self h1
  rw[this]
 ·have hx:l[i]=x:=by rw[List.getElem?_eq_getElem h1]at hi;exact Option.some.inj hi
  have hy:l[j]=y:=by rw[List.getElem?_eq_getElem h2]at hj;exact Option.some.inj hj
  rw[List.count_set (by simpa using h2),List.count_set h1]
  have:(l.set i y)[j]'(by simpa using h2)=y:=by rw[List.getElem_set_ne e];exact hy
  rw[this,hx]
  have c1:l.count x≥1:=List.one_le_count_iff.2 (hx▸List.getElem_mem h1)
  have c2:l.count y≥1:=List.one_le_count_iff.2 (hy▸List.getElem_mem h2)
  by_cases e1:x=a
  ·subst e1
   by_cases e2:y=x
   ·subst e2;simp<;>omega
   ·simp[e2,Ne.symm e2]<;>omega
  ·by_cases e2:y=a
   ·subst e2;simp[e1]<;>omega
   ·simp[e1,e2]<;>omega
theorem Dt.ld{T:TypeId}{kd xl:IntKind}{v:Value}{l0:List Int}(h:Dt T kd v l0 C)(hC:∀y∈C,y∈H){i:Nat}(hi:i<l0.length){K:Value→Prop}(hk:∀x,K (.int kd x)):ai 1 v (.int xl (i:Int)) fun p=>Ld H p K:=by
 obtain⟨l,hp,ho⟩:=h
 have:i<l.length:=by rw[hp.length_eq];exact hi
 exact ho.ld (List.getElem?_eq_getElem this) hC (hk _)
theorem Dt.swap{T:TypeId}{kd k1 k2 k3 k4:IntKind}{v:Value}{l0:List Int}(h:Dt T kd v l0 C)(hh:bS C H c){i j:Nat}(hi:i<l0.length)(hj:j<l0.length){K:Hp→Prop}(hk:∀C',Dt T kd v l0 C'→K (c C')):
  ai 1 v (.int k1 (j:Int)) fun p1=>Ld H p1 fun x=>ai 1 v (.int k2 (i:Int)) fun p2=>Ld H p2 fun y=>ai 1 v (.int k3 (i:Int)) fun p3=>St 1 H p3 x fun H1=>ai 1 v (.int k4 (j:Int)) fun p4=>St 1 H1 p4 y K:=by
 obtain⟨l,hp,ho⟩:=h
 have hl:=hp.length_eq
 have hi':l[i]? =some l[i]:=List.getElem?_eq_getElem (by omega)
 have hj':l[j]? =some l[j]:=List.getElem?_eq_getElem (by omega)
 refine ho.ld hj' hh.sub ?_
 refine ho.ld hi' hh.sub ?_
 refine ho.jC hh (by omega) fun C1 h1=>?_
 refine h1.jC (hh.re C1) (by simp;omega) fun C2 h2=>?_
 exact hk C2 ⟨_,(swap_perm hi' hj').trans hp,h2⟩
theorem Dt.U2{T:TypeId}{kd k1 k2 k3 k4:IntKind}{v:Value}{l0:List Int}(h:Dt T kd v l0 C)(hh:bS C H c){i j:Nat}(hi:i<l0.length)(hj:j<l0.length){B:(Value→Prop)→Prop}
 (hB:∀k:Value→Prop,k (.int k2 (i:Int))→B k){K:Hp→Prop}(hk:∀C',Dt T kd v l0 C'→K (c C')):
  ai 1 v (.int k1 (j:Int)) fun p1=>Ld H p1 fun x=>B fun u=>ai 1 v u fun p2=>Ld H p2 fun y=>ai 1 v (.int k3 (i:Int)) fun p3=>St 1 H p3 x fun H1=>ai 1 v (.int k4 (j:Int)) fun p4=>St 1 H1 p4 y K:=by
 obtain⟨l,hp,ho⟩:=h
 have hl:=hp.length_eq
 have hi':l[i]? =some l[i]:=List.getElem?_eq_getElem (by omega)
 have hj':l[j]? =some l[j]:=List.getElem?_eq_getElem (by omega)
 refine ho.ld hj' hh.sub (hB _ ?_)
 refine ho.ld hi' hh.sub ?_
 refine ho.jC hh (by omega) fun C1 h1=>?_
 refine h1.jC (hh.re C1) (by simp;omega) fun C2 h2=>?_
 exact hk C2 ⟨_,(swap_perm hi' hj').trans hp,h2⟩
theorem aN.dt{T:TypeId}{kd:IntKind}{v:Value}{l:List Int}(h:aN T kd v l C):Dt T kd v l C:=⟨l,.refl _,h⟩
def Zg(vs:List Value):Nat:=match vs with
 | .int _ q::_=>(q+1).toNat
 |_=>0
theorem wD{k:IntKind}{q:Int}{r:List Value}:Zg (.int k q::r)=(q+1).toNat:=rfl
end
end Go.Sx
set_option maxRecDepth 100000
namespace Go.Proofs
open Go Go.Sx
abbrev DT(v:Value)(l0:List Int)(C:Hp):Prop:=Dt 77 .u32 v l0 C
def SQ(v:Value)(l0:List Int):Value→Hp→Prop:=fun r C'=>r=.tuple #[]∧DT v l0 C'
section
variable {v:Value} {l0:List Int} {C:Hp}
theorem RN(x:Int)(B:Hp):Rd Tryz.prog 304 #[.int .u32 x] B (· =.bool false):=by
 intro g
 refine Cc (R:=aA _) ?_
 unfold L304
 refine ae.dO ?_
 exact cz.mk (.refl _) (by simp)
theorem ej(x y:Int)(B:Hp):Rd Tryz.prog 295 #[.int .u32 x,.int .u32 y] B (· =.bool (decide (x<y))):=by
 intro g
 refine Cn (R:=aA _) ?_
 unfold L295
 intro J1 Tc
 refine af.rd .here (RN x B) ?_
 rintro w rfl
 refine Split.Vd rfl ?_
 refine aF.mk ?_
 refine ae.lss ?_
 refine aF.mk ?_
 exact JE.mk (Tc _ _ fun gs=>cz.mk (.refl _) rfl)
theorem y8(h:DT v l0 C){a b:Nat}(hab:a≤b)(hb:b≤l0.length)(bQ:l0.length<1152921504606846976):Fc Tryz.prog 289 #[v,.int .i64 (a:Int),.int .i64 (b:Int)] C (SQ v l0):=by
 intro g
 refine Cv (R:=aA _) ?_
 unfold L289
 refine ae.aL (b:=1) (by simp[aB];omega) ?_
 refine⟨fun vs H=>∃i:Nat,vs=[.int .i64 (i:Int)]∧a<i∧DT v l0 H,fun vs _=>l0.length-bG vs 0,JE.mk ⟨a+1,rfl,by omega,h⟩,?_⟩
 rintro w H ⟨i,hw,hi,hd⟩ gs
 simp only[List.cons.injEq,and_true]at hw
 subst hw
 refine ae.eA (Br.dec (fun hlt=>?_) (fun _=>aA.here ⟨rfl,hd⟩))
 refine⟨fun vs H=>∃j:Nat,vs=[.int .i64 (j:Int)]∧a≤j∧j≤i∧DT v l0 H,fun vs _=>bG vs 0,JE.mk ⟨i,rfl,by omega,Nat.le_refl _,hd⟩,?_⟩
 rintro w H ⟨j,hw,QM,SC,hd⟩ gs
 simp only[List.cons.injEq,and_true]at hw
 subst hw
 intro J hJ
 have no:J [.bool false] H:=hJ _ _ fun gs=>Br.no (ae.aL (b:=1) (by simp[aB];omega) (aD.mk ⟨i+1,rfl,by omega,hd⟩ (by simp[bG];omega)))
 have yes:a<j→J [.bool true] H:=fun QM=>hJ _ _ fun gs=>Br.yes (DR.self (ae.bH (b:=1) (by simp[aB];omega) (by omega) (ae.bH (b:=1) (by simp[aB];omega) (by omega)
  (hd.swap .here (by omega) (by omega) fun C' cV=>ae.bH (b:=1) (by simp[aB];omega) (by omega) (aD.mk ⟨j-1,rfl,by omega,by omega,cV⟩ (by simp[bG];omega))))))
 refine DR.self (ae.kB (Br.dec (fun hgt=>?_) fun _=>JE.mk no))
 refine hd.ld (fun _ h=>h) (by omega) fun x=>?_
 refine ae.bH (b:=1) (by simp[aB];omega) (by omega) ?_
 refine hd.ld (fun _ h=>h) (by omega) fun y=>?_
 intro F
 refine af.rd .here (ej x y _) ?_
 rintro w rfl
 refine aF.mk ?_
 by_cases e:x<y
 ·rw[decide_eq_true e];exact JE.mk (yes hgt)
 ·rw[decide_eq_false e];exact JE.mk no
theorem RC(h:DT v l0 C){a b:Nat}(hab:a<b)(hb:b≤l0.length)(bQ:l0.length<1152921504606846976):Fc Tryz.prog 293 #[v,.int .i64 (a:Int),.int .i64 (b:Int)] C (SQ v l0):=by
 intro g
 refine Cp (R:=aA _) ?_
 unfold L293
 refine ae.bH (b:=1) (by simp[aB];omega) (by omega) ?_
 refine⟨fun vs H=>∃i j:Nat,vs=[.int .i64 (i:Int),.int .i64 (j:Int)]∧j<l0.length∧DT v l0 H,fun vs _=>bG vs 1-bG vs 0,JE.mk ⟨a,b-1,rfl,by omega,h⟩,?_⟩
 rintro w w' H ⟨i,j,hw,hj,hd⟩ gs
 simp only[List.cons.injEq,and_true]at hw
 obtain⟨rfl,rfl⟩:=hw
 refine ae.eA (Br.dec (fun hlt=>?_) (fun _=>aA.here ⟨rfl,hd⟩))
 refine DR.self (hd.swap .here (by omega) (by omega) fun C' cV=>?_)
 refine ae.aL (b:=1) (by simp[aB];omega) ?_
 refine ae.bH (b:=1) (by simp[aB];omega) (by omega) ?_
 exact aD.mk ⟨i+1,j-1,rfl,by omega,cV⟩ (by simp[bG];omega)
theorem Oc(h:DT v l0 C){a b:Nat}(hab:a<b)(hb:b≤l0.length)(bQ:l0.length<1152921504606846976):Fc Tryz.prog 294 #[v,.int .i64 (a:Int),.int .i64 (b:Int)] C (fun r C'=>(∃t,r=.bool t)∧DT v l0 C'):=by
 intro g
 refine Co (R:=aA _) ?_
 unfold L294
 refine ae.aL (b:=1) (by simp[aB];omega) ?_
 refine⟨fun vs H=>∃i k:Nat,vs=[.int .i64 (i:Int),.int .i64 (k:Int)]∧a<i∧i≤b∧DT v l0 H,fun vs _=>5-bG vs 1,JE.mk ⟨a+1,0,rfl,by omega,by omega,h⟩,?_⟩
 rintro w w' H ⟨i,k,hw,Np,s9,hd⟩ gs
 simp only[List.cons.injEq,and_true]at hw
 obtain⟨rfl,rfl⟩:=hw
 refine ae.eA (b:=5) (Br.dec (fun hk=>?_) (fun _=>aA.here ⟨⟨_,rfl⟩,hd⟩))
 intro J9 LX
 have next:∀(i':Nat) H',a<i'→i'≤b→DT v l0 H'→J9 [.int .i64 (i':Int)] H':=fun i' H' h1 h2 cV=>LX _ _ fun gs=>ae.aL (b:=1) (by simp[aB];omega) (aD.mk ⟨i',k+1,rfl,h1,h2,cV⟩ (by simp[bG];omega))
 refine⟨fun vs H=>∃i:Nat,vs=[.int .i64 (i:Int)]∧a<i∧i≤b∧DT v l0 H,fun vs _=>b-bG vs 0,JE.mk ⟨i,rfl,Np,s9,hd⟩,?_⟩
 clear hd Np s9
 rintro w H ⟨i,hw,Np,s9,hd⟩ gs
 simp only[List.cons.injEq,and_true]at hw
 subst hw
 intro UO WR
 have yes:i<b→UO [.bool true] H:=fun hlt=>WR _ _ fun gs=>Br.yes (ae.aL (b:=1) (by simp[aB];omega) (aD.mk ⟨i+1,rfl,by omega,by omega,hd⟩ (by simp[bG];omega)))
 have no:UO [.bool false] H:=by
  refine WR _ _ fun gs=>Br.no ?_
  refine ae.eB (Br.dec (fun he=>aA.here ⟨⟨_,rfl⟩,hd⟩) (fun hne=>?_))
  refine ae.bH (by simp[aB];omega) (by omega) ?_
  refine ae.eA (b:=50) (Br.dec (fun he=>aA.here ⟨⟨_,rfl⟩,hd⟩) (fun _=>?_))
  refine DR.self ?_
  refine ae.bH (b:=1) (by simp[aB];omega) (by omega) ?_
  refine ae.bH (b:=1) (by simp[aB];omega) (by omega) ?_
  refine hd.swap .here (by omega) (by omega) fun C1 No=>?_
  intro ye aa4
  have tail:∀H',DT v l0 H'→ye [] H':=fun H' cV=>by
   refine aa4 _ fun gs=>?_
   refine ae.bH (by simp[aB];omega) (by omega) ?_
   refine ae.rD (b:=2) (Br.dec (fun h2=>?_) (fun _=>JE.mk (next i _ Np s9 cV)))
   refine ae.aL (b:=1) (by simp[aB];omega) ?_
   refine⟨fun vs H=>∃j:Nat,vs=[.int .i64 (j:Int)]∧0<j∧DT v l0 H,fun vs _=>b-bG vs 0,JE.mk ⟨i+1,rfl,by omega,cV⟩,?_⟩
   rintro w H ⟨j,hw,hj0,FD⟩ gs
   simp only[List.cons.injEq,and_true]at hw
   subst hw
   refine ae.eA (Br.dec (fun hlt=>?_) (fun _=>JE.mk (next i _ Np s9 FD)))
   refine DR.self ?_
   refine FD.ld (fun _ h=>h) (by omega) fun x=>?_
   refine ae.bH (b:=1) (by simp[aB];omega) (by omega) ?_
   refine FD.ld (fun _ h=>h) (by omega) fun y=>?_
   refine af.rd .here (ej x y _) ?_
   rintro w rfl
   refine Un.not ?_
   refine Br.mk (fun _=>JE.mk (next i _ Np s9 FD)) (fun _=>?_)
   refine DR.self ?_
   refine ae.bH (b:=1) (by simp[aB];omega) (by omega) ?_
   refine ae.bH (b:=1) (by simp[aB];omega) (by omega) ?_
   refine FD.swap .here (by omega) (by omega) fun C2 xy=>?_
   refine ae.aL (b:=1) (by simp[aB];omega) ?_
   exact aD.mk ⟨j+1,rfl,by omega,xy⟩ (by simp[bG];omega)
  refine ae.bH (by simp[aB];omega) (by omega) ?_
  refine ae.rD (b:=2) (Br.dec (fun h2=>?_) (fun _=>JE.mk (tail _ No)))
  refine ae.bH (b:=1) (by simp[aB];omega) (by omega) ?_
  refine⟨fun vs H=>∃j:Nat,vs=[.int .i64 (j:Int)]∧j<l0.length∧DT v l0 H,fun vs _=>bG vs 0,JE.mk ⟨i-1,rfl,by omega,No⟩,?_⟩
  rintro w H ⟨j,hw,hj0,FD⟩ gs
  simp only[List.cons.injEq,and_true]at hw
  subst hw
  refine ae.rD (b:=1) (Br.dec (fun hlt=>?_) (fun _=>JE.mk (tail _ FD)))
  refine DR.self ?_
  refine FD.ld (fun _ h=>h) (by omega) fun x=>?_
  refine ae.bH (b:=1) (by simp[aB];omega) (by omega) ?_
  refine FD.ld (fun _ h=>h) (by omega) fun y=>?_
  refine af.rd .here (ej x y _) ?_
  rintro w rfl
  refine Un.not ?_
  refine Br.mk (fun _=>JE.mk (tail _ FD)) (fun _=>?_)
  refine DR.self ?_
  refine ae.bH (b:=1) (by simp[aB];omega) (by omega) ?_
  refine ae.bH (b:=1) (by simp[aB];omega) (by omega) ?_
  refine FD.swap .here (by omega) (by omega) fun C2 xy=>?_
  refine ae.bH (b:=1) (by simp[aB];omega) (by omega) ?_
  exact aD.mk ⟨j-1,rfl,by omega,xy⟩ (by simp[bG];omega)
 refine DR.self (ae.eA (Br.dec (fun hlt=>?_) fun _=>JE.mk no))
 refine hd.ld (fun _ h=>h) (by omega) fun x=>?_
 refine ae.bH (b:=1) (by simp[aB];omega) (by omega) ?_
 refine hd.ld (fun _ h=>h) (by omega) fun y=>?_
 intro F
 refine af.rd .here (ej x y _) ?_
 rintro w rfl
 refine Un.not ?_
 refine aF.mk ?_
 by_cases e:x<y
 ·rw[decide_eq_true e];exact JE.mk no
 ·rw[decide_eq_false e];exact JE.mk (yes hlt)
theorem G5(h:DT v l0 C){a b p:Nat}(hp:a≤p∧p<b)(hb:b≤l0.length)(bQ:l0.length<1152921504606846976):Fc Tryz.prog 296 #[v,.int .i64 (a:Int),.int .i64 (b:Int),.int .i64 (p:Int)] C
  (fun r C'=>(∃m:Nat,r=.int .i64 (m:Int)∧a<m∧m≤b)∧DT v l0 C'):=by
 intro g
 refine Cm (R:=aA _) ?_
 unfold L296
 refine DR.self (h.swap .here (by omega) (by omega) fun C1 hd=>?_)
 refine ae.aL (b:=1) (by simp[aB];omega) ?_
 refine ae.bH (b:=1) (by simp[aB];omega) (by omega) ?_
 refine⟨fun vs H=>∃i j:Nat,vs=[.int .i64 (i:Int),.int .i64 (j:Int)]∧a<i∧i≤b∧a≤j∧j<b∧DT v l0 H,fun vs _=>b-bG vs 0,JE.mk ⟨a+1,b-1,rfl,by omega,by omega,by omega,by omega,hd⟩,?_⟩
 clear hd
 rintro w w' H0 ⟨i0,j0,hw,Np,s9,QM,Uo,hd⟩ gs
 simp only[List.cons.injEq,and_true]at hw
 obtain⟨rfl,rfl⟩:=hw
 refine⟨fun vs H=>∃i:Nat,vs=[.int .i64 (i:Int)]∧i0≤i∧i≤b∧DT v l0 H,fun vs _=>b-bG vs 0,JE.mk ⟨i0,rfl,Nat.le_refl _,s9,hd⟩,?_⟩
 clear hd s9
 rintro w H ⟨i,hw,OS,s9,hd⟩ gs
 simp only[List.cons.injEq,and_true]at hw
 subst hw
 intro Nz WQ
 have yes:i≤j0→Nz [.bool true] H:=fun hle=>WQ _ _ fun gs=>Br.yes (ae.aL (b:=1) (by simp[aB];omega) (aD.mk ⟨i+1,rfl,by omega,by omega,hd⟩ (by simp[bG];omega)))
 have no:Nz [.bool false] H:=by
  refine WQ _ _ fun gs=>Br.no ?_
  refine⟨fun vs H=>∃j:Nat,vs=[.int .i64 (j:Int)]∧a≤j∧j<b∧DT v l0 H,fun vs _=>bG vs 0,JE.mk ⟨j0,rfl,QM,Uo,hd⟩,?_⟩
  rintro w H' ⟨j,hw,Wr,V1,cV⟩ gs
  simp only[List.cons.injEq,and_true]at hw
  subst hw
  intro Jo O6
  have Gs:i≤j→Jo [.bool true] H':=fun hle=>O6 _ _ fun gs=>Br.yes (ae.bH (b:=1) (by simp[aB];omega) (by omega) (aD.mk ⟨j-1,rfl,by omega,by omega,cV⟩ (by simp[bG];omega)))
  have Qe:Jo [.bool false] H':=by
   refine O6 _ _ fun gs=>Br.no ?_
   refine ae.kB (Br.dec (fun _=>aA.here ⟨⟨i,rfl,by omega,s9⟩,cV⟩) (fun hle=>?_))
   refine DR.self (cV.swap .here (by omega) (by omega) fun C2 xy=>?_)
   refine ae.aL (b:=1) (by simp[aB];omega) ?_
   refine ae.bH (b:=1) (by simp[aB];omega) (by omega) ?_
   exact aD.mk ⟨i+1,j-1,rfl,by omega,by omega,by omega,by omega,xy⟩ (by simp[bG];omega)
  refine DR.self (ae.Bp (Br.dec (fun hle=>?_) fun _=>JE.mk Qe))
  refine cV.ld (fun _ h=>h) (by omega) fun x=>?_
  refine cV.ld (fun _ h=>h) (by omega) fun y=>?_
  intro F
  refine af.rd .here (ej x y _) ?_
  rintro w rfl
  refine aF.mk ?_
  by_cases e:x<y
  ·rw[decide_eq_true e];exact JE.mk (Gs hle)
  ·rw[decide_eq_false e];exact JE.mk Qe
 refine DR.self (ae.Bp (Br.dec (fun hle=>?_) fun _=>JE.mk no))
 refine hd.ld (fun _ h=>h) (by omega) fun x=>?_
 refine hd.ld (fun _ h=>h) (by omega) fun y=>?_
 intro F
 refine af.rd .here (ej x y _) ?_
 rintro w rfl
 refine Un.not ?_
 refine aF.mk ?_
 by_cases e:x<y
 ·rw[decide_eq_true e];exact JE.mk no
 ·rw[decide_eq_false e];exact JE.mk (yes hle)
end
end Go.Proofs
set_option maxRecDepth 100000
namespace Go.Proofs
open Go Go.Sx
section
variable {v:Value} {l0:List Int} {C:Hp}
def PQ(v:Value)(l0:List Int)(a b:Nat):Value→Hp→Prop:=fun r C'=>(∃(m:Nat) (t:Bool),r=.tuple #[.int .i64 (m:Int),.bool t]∧a≤m∧m<b)∧DT v l0 C'
theorem Oe(h:DT v l0 C){a b p:Nat}(hp:a≤p∧p<b)(hb:b≤l0.length)(bQ:l0.length<1152921504606846976):Fc Tryz.prog 297 #[v,.int .i64 (a:Int),.int .i64 (b:Int),.int .i64 (p:Int)] C (PQ v l0 a b):=by
 intro g
 refine Ck (R:=aA _) ?_
 unfold L297
 refine DR.self (h.swap .here (by omega) (by omega) fun C1 hd=>?_)
 refine ae.aL (b:=1) (by simp[aB];omega) ?_
 refine ae.bH (b:=1) (by simp[aB];omega) (by omega) ?_
 refine⟨fun vs H=>∃i:Nat,vs=[.int .i64 (i:Int)]∧a<i∧i≤b∧DT v l0 H,fun vs _=>b-bG vs 0,JE.mk ⟨a+1,rfl,by omega,by omega,hd⟩,?_⟩
 clear hd
 rintro w H ⟨i,hw,Np,s9,hd⟩ gs
 simp only[List.cons.injEq,and_true]at hw
 subst hw
 intro xW BJ
 have yes:i<b→xW [.bool true] H:=fun hle=>BJ _ _ fun gs=>Br.yes (ae.aL (b:=1) (by simp[aB];omega) (aD.mk ⟨i+1,rfl,by omega,by omega,hd⟩ (by simp[bG];omega)))
 have no:xW [.bool false] H:=by
  refine BJ _ _ fun gs=>Br.no ?_
  refine⟨fun vs H=>∃j:Nat,vs=[.int .i64 (j:Int)]∧a≤j∧j<b∧DT v l0 H,fun vs _=>bG vs 0,JE.mk ⟨b-1,rfl,by omega,by omega,hd⟩,?_⟩
  clear hd
  rintro w H ⟨j,hw,QM,Uo,hd⟩ gs
  simp only[List.cons.injEq,and_true]at hw
  subst hw
  intro AK Ta
  have Gs:i≤j→AK [.bool true] H:=fun hle=>Ta _ _ fun gs=>Br.yes (ae.bH (b:=1) (by simp[aB];omega) (by omega) (aD.mk ⟨j-1,rfl,by omega,by omega,hd⟩ (by simp[bG];omega)))
  have Qe:AK [.bool false] H:=by
   refine Ta _ _ fun gs=>Br.no ?_
   refine ae.kB (Br.dec (fun _=>?_) (fun hle=>?_))
   ·refine DR.self (hd.swap .here (by omega) (by omega) fun C2 xy=>?_)
    exact aA.here ⟨⟨j,true,rfl,QM,Uo⟩,xy⟩
   ·refine DR.self (hd.swap .here (by omega) (by omega) fun C2 xy=>?_)
    refine ae.aL (b:=1) (by simp[aB];omega) ?_
    refine ae.bH (b:=1) (by simp[aB];omega) (by omega) ?_
    refine⟨fun vs H=>∃i j:Nat,vs=[.int .i64 (i:Int),.int .i64 (j:Int)]∧a<i∧i≤b∧a≤j∧j<b∧DT v l0 H,fun vs _=>b-bG vs 0,JE.mk ⟨i+1,j-1,rfl,by omega,by omega,by omega,by omega,xy⟩,?_⟩
    clear xy hd Np s9 QM Uo hle Gs Ta AK BJ xW yes
    rintro w w' H0 ⟨i0,j0,hw,Np,s9,QM,Uo,hd⟩ gs
    simp only[List.cons.injEq,and_true]at hw
    obtain⟨rfl,rfl⟩:=hw
    refine⟨fun vs H=>∃i:Nat,vs=[.int .i64 (i:Int)]∧i0≤i∧i≤b∧DT v l0 H,fun vs _=>b-bG vs 0,JE.mk ⟨i0,rfl,Nat.le_refl _,s9,hd⟩,?_⟩
    clear hd s9
    rintro w H ⟨i,hw,OS,s9,hd⟩ gs
    simp only[List.cons.injEq,and_true]at hw
    subst hw
    intro UN WM
    have yes:i≤j0→UN [.bool true] H:=fun hle=>WM _ _ fun gs=>Br.yes (ae.aL (b:=1) (by simp[aB];omega) (aD.mk ⟨i+1,rfl,by omega,by omega,hd⟩ (by simp[bG];omega)))
    have no:UN [.bool false] H:=by
     refine WM _ _ fun gs=>Br.no ?_
     refine⟨fun vs H=>∃j:Nat,vs=[.int .i64 (j:Int)]∧a≤j∧j<b∧DT v l0 H,fun vs _=>bG vs 0,JE.mk ⟨j0,rfl,QM,Uo,hd⟩,?_⟩
     rintro w H' ⟨j,hw,Wr,V1,cV⟩ gs
     simp only[List.cons.injEq,and_true]at hw
     subst hw
     intro Gg WL
     have Gs:i≤j→Gg [.bool true] H':=fun hle=>WL _ _ fun gs=>Br.yes (ae.bH (b:=1) (by simp[aB];omega) (by omega) (aD.mk ⟨j-1,rfl,by omega,by omega,cV⟩ (by simp[bG];omega)))
     have Qe:Gg [.bool false] H':=by
      refine WL _ _ fun gs=>Br.no ?_
      refine ae.kB (Br.dec (fun _=>?_) (fun hle=>?_))
      ·refine DR.self (cV.swap .here (by omega) (by omega) fun C2 xy=>?_)
       exact aA.here ⟨⟨j,false,rfl,Wr,V1⟩,xy⟩
      ·refine DR.self (cV.swap .here (by omega) (by omega) fun C2 xy=>?_)
       refine ae.aL (b:=1) (by simp[aB];omega) ?_
       refine ae.bH (b:=1) (by simp[aB];omega) (by omega) ?_
       exact aD.mk ⟨i+1,j-1,rfl,by omega,by omega,by omega,by omega,xy⟩ (by simp[bG];omega)
     refine DR.self (ae.Bp (Br.dec (fun hle=>?_) fun _=>JE.mk Qe))
     refine cV.ld (fun _ h=>h) (by omega) fun x=>?_
     refine cV.ld (fun _ h=>h) (by omega) fun y=>?_
     intro F
     refine af.rd .here (ej x y _) ?_
     rintro w rfl
     refine Un.not ?_
     refine aF.mk ?_
     by_cases e:x<y
     ·rw[decide_eq_true e];exact JE.mk Qe
     ·rw[decide_eq_false e];exact JE.mk (Gs hle)
    refine DR.self (ae.Bp (Br.dec (fun hle=>?_) fun _=>JE.mk no))
    refine hd.ld (fun _ h=>h) (by omega) fun x=>?_
    refine hd.ld (fun _ h=>h) (by omega) fun y=>?_
    intro F
    refine af.rd .here (ej x y _) ?_
    rintro w rfl
    refine aF.mk ?_
    by_cases e:x<y
    ·rw[decide_eq_true e];exact JE.mk (yes hle)
    ·rw[decide_eq_false e];exact JE.mk no
  refine DR.self (ae.Bp (Br.dec (fun hle=>?_) fun _=>JE.mk Qe))
  refine hd.ld (fun _ h=>h) (by omega) fun x=>?_
  refine hd.ld (fun _ h=>h) (by omega) fun y=>?_
  intro F
  refine af.rd .here (ej x y _) ?_
  rintro w rfl
  refine Un.not ?_
  refine aF.mk ?_
  by_cases e:x<y
  ·rw[decide_eq_true e];exact JE.mk Qe
  ·rw[decide_eq_false e];exact JE.mk (Gs hle)
 refine DR.self (ae.Bp (Br.dec (fun hle=>?_) fun _=>JE.mk no))
 refine hd.ld (fun _ h=>h) (by omega) fun x=>?_
 refine hd.ld (fun _ h=>h) (by omega) fun y=>?_
 intro F
 refine af.rd .here (ej x y _) ?_
 rintro w rfl
 refine aF.mk ?_
 by_cases e:x<y
 ·rw[decide_eq_true e];exact JE.mk (yes (by omega))
 ·rw[decide_eq_false e];exact JE.mk no
theorem Fb(h:DT v l0 C){lo hi f:Nat}(hlo:lo≤l0.length)(hb:f+hi≤l0.length)(bQ:l0.length<1152921504606846976):Fc Tryz.prog 299 #[v,.int .i64 (lo:Int),.int .i64 (hi:Int),.int .i64 (f:Int)] C (SQ v l0):=by
 intro g
 refine Cj (R:=aA _) ?_
 unfold L299
 refine⟨fun vs H=>∃i:Nat,vs=[.int .i64 (i:Int)]∧i≤l0.length∧DT v l0 H,fun vs _=>l0.length-bG vs 0,JE.mk ⟨lo,rfl,hlo,h⟩,?_⟩
 rintro w H ⟨r,hw,hr,hd⟩ gs
 simp only[List.cons.injEq,and_true]at hw
 subst hw
 refine ae.uN (a:=2) (by simp[aB];omega) ?_
 refine ae.aL (b:=1) (by simp[aB];omega) ?_
 refine ae.rD (Br.dec (fun _=>aA.here ⟨rfl,hd⟩) (fun hlt=>?_))
 intro J9 LX
 have go:∀c:Nat,r<c→c<hi→J9 [.int .i64 (c:Int)] H:=fun c hrc agi=>by
  refine LX _ _ fun gs=>?_
  refine DR.self ?_
  refine ae.aL (by simp[aB];omega) ?_
  refine hd.ld (fun _ h=>h) (by omega) fun x=>?_
  refine ae.aL (by simp[aB];omega) ?_
  refine hd.ld (fun _ h=>h) (by omega) fun y=>?_
  refine af.rd .here (ej x y _) ?_
  rintro w rfl
  refine Un.not ?_
  refine Br.mk (fun _=>aA.here ⟨rfl,hd⟩) (fun _=>?_)
  refine DR.self ?_
  refine ae.aL (by simp[aB];omega) ?_
  refine ae.aL (by simp[aB];omega) ?_
  refine ae.aL (by simp[aB];omega) ?_
  refine hd.U2 .here (i:=f+r) (j:=f+c) (B:=fun k=>ae .num .add (.int .i64 (f:Int)) (.int .i64 (r:Int)) k) (by omega) (by omega) (fun k hk=>ae.aL (by simp[aB];omega) hk) fun C1 No=>?_
  exact aD.mk ⟨c,rfl,by omega,No⟩ (by simp[bG];omega)
 intro XH WN
 have stay:XH [.bool false] H:=WN _ _ fun gs=>Br.no (JE.mk (go _ (by omega) (by omega)))
 refine DR.self ?_
 refine ae.aL (b:=1) (by simp[aB];omega) ?_
 refine ae.eA (Br.dec (fun hc=>?_) fun _=>JE.mk stay)
 refine ae.aL (by simp[aB];omega) ?_
 refine hd.ld (fun _ h=>h) (by omega) fun x=>?_
 refine ae.aL (by simp[aB];omega) ?_
 refine ae.aL (b:=1) (by simp[aB];omega) ?_
 refine hd.ld (fun _ h=>h) (by omega) fun y=>?_
 intro F
 refine af.rd .here (ej x y _) ?_
 rintro w rfl
 refine aF.mk ?_
 by_cases e:x<y
 ·rw[decide_eq_true e]
  exact JE.mk (WN _ _ fun gs=>Br.yes (ae.aL (b:=1) (by simp[aB];omega) (JE.mk (go _ (by omega) hc))))
 ·rw[decide_eq_false e];exact JE.mk stay
theorem Lj(h:DT v l0 C){a b:Nat}(hab:a<b)(hb:b≤l0.length)(bQ:l0.length<1152921504606846976):Fc Tryz.prog 290 #[v,.int .i64 (a:Int),.int .i64 (b:Int)] C (SQ v l0):=by
 intro g
 refine Cu (R:=aA _) ?_
 unfold L290
 refine ae.bH (by simp[aB];omega) (by omega) ?_
 refine ae.bH (b:=1) (by simp[aB];omega) (by omega) ?_
 refine ae.BP (b:=2) (by simp[aB];omega) (by omega) ?_
 refine⟨fun vs H=>∃q:Int,vs=[.int .i64 q]∧ -1≤q∧q<(b:Int) -a∧DT v l0 H,fun vs _=>Zg vs,JE.mk ⟨(((b-a-1) /2:Nat):Int),rfl,by omega,by omega,h⟩,?_⟩
 rintro w H ⟨q,hw,Z8,Z7,hd⟩ gs
 simp only[List.cons.injEq,and_true]at hw
 subst hw
 refine ae.geq (Br.dec (fun h0=>?_) (fun _=>?_))
 ·obtain⟨i,rfl⟩:∃i:Nat,q=i:=⟨q.toNat,by omega⟩
  refine af.fn .here (Fb hd (by omega) (by omega) bQ) ?_
  rintro w C1 ⟨rfl,No⟩
  refine ae.Kk (c:=(i:Int) -1) rfl (by omega) ?_
  exact aD.mk ⟨(i:Int) -1,rfl,by omega,by omega,No⟩ (by rw[wD,wD];omega)
 ·refine ae.bH (b:=1) (by simp[aB];omega) (by omega) ?_
  refine⟨fun vs H=>∃q:Int,vs=[.int .i64 q]∧ -1≤q∧q<(b:Int) -a∧DT v l0 H,fun vs _=>Zg vs,JE.mk ⟨((b-a-1:Nat):Int),rfl,by omega,by omega,hd⟩,?_⟩
  clear hd
  rintro w H ⟨q,hw,Z8,Z7,hd⟩ gs
  simp only[List.cons.injEq,and_true]at hw
  subst hw
  refine ae.geq (Br.dec (fun h0=>?_) (fun _=>aA.here ⟨rfl,hd⟩))
  obtain⟨i,rfl⟩:∃i:Nat,q=i:=⟨q.toNat,by omega⟩
  refine DR.self ?_
  refine ae.aL (by simp[aB];omega) ?_
  refine ae.aL (by simp[aB];omega) ?_
  refine hd.swap .here (by omega) (by omega) fun C1 No=>?_
  refine af.fn .here (Fb No (lo:=0) (by omega) (by omega) bQ) ?_
  rintro w C2 ⟨rfl,xy⟩
  refine ae.Kk (c:=(i:Int) -1) rfl (by omega) ?_
  exact aD.mk ⟨(i:Int) -1,rfl,by omega,by omega,xy⟩ (by rw[wD,wD];omega)
end
section
variable {v:Value} {l0:List Int} {C:Hp}
theorem YS{a b:Nat}(ha:a<18446744073709551616)(hb:b<18446744073709551616):a^^^b<18446744073709551616:=Nat.xor_lt_two_pow (n:=64) ha hb
theorem Jy(b x:Nat)(hx:x<18446744073709551616):Fc Tryz.prog 301 #[ptr b] [(b,.cells #[.int .u64 (x:Int)] 373 (0,0))]
  (fun r H=>∃y:Nat,y<18446744073709551616∧r=.int .u64 (y:Int)∧H=[(b,.cells #[.int .u64 (y:Int)] 373 (0,0))]):=by
 intro g
 refine Cg (R:=aA _) ?_
 unfold L301
 refine DR.self ?_
 refine Nil.ptr (Ld.mk (by exact .head _) rfl ?_)
 refine Nil.ptr (Ld.mk (by exact .head _) rfl ?_)
 refine ae.wQ (b:=13) ?_
 refine ae.Re hx (Nat.mod_lt _ (by decide)) ?_
 have h1:=YS hx (Nat.mod_lt (x<<<13) (show 0<18446744073709551616 by decide))
 generalize x^^^x<<<13%18446744073709551616=x1 at h1
 refine Nil.ptr (St.one (by exact .head _) rfl (by simp) rfl ?_)
 refine DR.self ?_
 refine Nil.ptr (Ld.mk (by exact .head _) rfl ?_)
 refine Nil.ptr (Ld.mk (by exact .head _) rfl ?_)
 refine ae.kJ (b:=7) h1 ?_
 have h2:x1>>>7<18446744073709551616:=by rw[Nat.shiftRight_eq_div_pow];omega
 refine ae.Re h1 h2 ?_
 have h3:=YS h1 h2
 generalize x1^^^x1>>>7=x2 at h3
 refine Nil.ptr (St.one (by exact .head _) rfl (by simp) rfl ?_)
 refine DR.self ?_
 refine Nil.ptr (Ld.mk (by exact .head _) rfl ?_)
 refine Nil.ptr (Ld.mk (by exact .head _) rfl ?_)
 refine ae.wQ (b:=17) ?_
 refine ae.Re h3 (Nat.mod_lt _ (by decide)) ?_
 have h4:=YS h3 (Nat.mod_lt (x2<<<17) (show 0<18446744073709551616 by decide))
 generalize x2^^^x2<<<17%18446744073709551616=x3 at h4
 refine Nil.ptr (St.one (by exact .head _) rfl (by simp) rfl ?_)
 refine Nil.ptr (Ld.mk (by exact .head _) rfl ?_)
 exact aA.here ⟨x3,h4,rfl,rfl⟩
theorem FY{x:Nat}(hx:x<18446744073709551616)(B:Hp):Rd Tryz.prog 286 #[.int .u64 (x:Int)] B (fun v=>∃r:Nat,wq x r∧v=.int .i64 (r:Int)):=by
 intro g
 refine Cz (R:=aA _) ?_
 unfold L286
 refine Br.no ?_
 refine af.rd .here (KR hx B) ?_
 rintro w hw
 exact cz.mk (.refl _) hw
theorem Of{x:Nat}(h0:0<x)(hx:x<1152921504606846976)(B:Hp):Rd Tryz.prog 300 #[.int .i64 (x:Int)] B (fun v=>∃r:Nat,0<r∧r≤2*x∧v=.int .u64 (r:Int)):=by
 intro g
 refine Ch (R:=aA _) ?_
 unfold L300
 refine aW.nat (by simp[aB];omega) ?_
 refine af.rd .here (FY (by omega) B) ?_
 rintro w ⟨r,hr,rfl⟩
 have Fz:0<r:=by
  rcases Nat.eq_zero_or_pos r with e|e
  ·subst e;have:=hr.1;omega
  ·exact e
 have h2:2^(r-1)≤x:=by
  rcases hr.2 with e|e
  ·omega
  ·exact e
 have h3:2^r=2*2^(r-1):=by
  obtain⟨k,rfl⟩:∃k,r=k+1:=⟨r-1,by omega⟩
  rw[Nat.add_sub_cancel,Nat.pow_succ];omega
 refine ae.wQ (a:=1) ?_
 have e:1<<<r%18446744073709551616=2^r:=by
  rw[Nat.shiftLeft_eq,Nat.one_mul]
  exact Nat.mod_eq_of_lt (by omega)
 rw[e]
 exact cz.mk (.refl _) ⟨2^r,Nat.two_pow_pos r,by omega,rfl⟩
theorem Tx(h:DT v l0 C){a b:Nat}(hab:a<b)(hb:b≤l0.length)(bQ:l0.length<1152921504606846976):Fc Tryz.prog 291 #[v,.int .i64 (a:Int),.int .i64 (b:Int)] C (SQ v l0):=by
 intro g
 refine Cr (R:=aA _) ?_
 unfold L291
 refine ae.bH (by simp[aB];omega) (by omega) ?_
 refine ae.rD (b:=8) (Br.dec (fun h8=>?_) (fun _=>aA.here ⟨rfl,h⟩))
 refine aW.nat (by simp[aB];omega) ?_
 intro b4 _
 refine St.one (by exact .head _) rfl (by simp) rfl ?_
 refine af.rd (.cons .here) (Of (by omega) (by omega) C) ?_
 rintro w ⟨m,hm0,hm,rfl⟩
 refine ae.BP (b:=4) (by simp[aB];omega) (by omega) ?_
 refine ae.uN (b:=2) (by simp[aB];omega) ?_
 refine ae.aL (by simp[aB];omega) ?_
 refine ae.bH (b:=1) (by simp[aB];omega) (by omega) ?_
 refine⟨fun vs H=>∃(i x:Nat) (C':Hp),vs=[.int .i64 (i:Int)]∧x<18446744073709551616∧H=(b4,.cells #[.int .u64 (x:Int)] 373 (0,0))::C'∧DT v l0 C',fun vs _=>b-bG vs 0,
  JE.mk ⟨_,b-a,C,rfl,by omega,rfl,h⟩,?_⟩
 rintro w H ⟨i,x,C',hw,hx,rfl,hd⟩ gs
 simp only[List.cons.injEq,and_true]at hw
 subst hw
 refine ae.BP (b:=4) (by simp[aB];omega) (by omega) ?_
 refine ae.uN (b:=2) (by simp[aB];omega) ?_
 refine ae.aL (by simp[aB];omega) ?_
 refine ae.aL (b:=1) (by simp[aB];omega) ?_
 refine ae.Bp (Br.dec (fun hle=>?_) (fun _=>aA.mk .tail ⟨rfl,hd⟩))
 refine af.fn (.left (A:=C')) (Jy b4 x hx) ?_
 rintro w H' ⟨y,hy,rfl,rfl⟩
 refine ae.bH (b:=1) (by simp[aB];omega) (by omega) ?_
 refine ae.jm (by simp[aB];omega) (by simp[aB];omega) ?_
 have hand:y&&& (m-1)<m:=by have:=Nat.and_le_right (n:=y) (m:=m-1);omega
 generalize y&&& (m-1)=z at hand
 refine aW.nat (by simp[aB];omega) ?_
 intro P1 aa7
 have go:∀o:Nat,o<b-a→P1 [.int .i64 (o:Int)] ([(b4,Obj.cells #[.int .u64 (y:Int)] 373 (0,0))]++C'):=fun o ho=>by
  refine aa7 _ _ fun gs=>?_
  refine DR.self ?_
  refine ae.aL (by simp[aB];omega) ?_
  refine ae.aL (by simp[aB];omega) ?_
  refine hd.swap (.cons .here) (by omega) (by omega) fun C1 No=>?_
  refine ae.aL (b:=1) (by simp[aB];omega) ?_
  exact aD.mk ⟨i+1,y,C1,rfl,hy,rfl,No⟩ (by simp[bG];omega)
 refine ae.rD (Br.dec (fun hge=>?_) (fun hlt=>JE.mk (go z (by omega))))
 refine ae.bH (by simp[aB];omega) (by omega) ?_
 exact JE.mk (go _ (by omega))
def OQ(b:Nat)(C:Hp)(i j:Nat):Value→Hp→Prop:=fun r H=>(r=.tuple #[.int .i64 (i:Int),.int .i64 (j:Int)]∨r=.tuple #[.int .i64 (j:Int),.int .i64 (i:Int)])∧∃z:Int,H=(b,.cells #[.int .i64 z] 3 (0,0))::C
theorem wX(h:DT v l0 C){b:Nat}{z:Int}{i j:Nat}(hi:i<l0.length)(hj:j<l0.length):
  Fc Tryz.prog 305 #[v,.int .i64 (i:Int),.int .i64 (j:Int),ptr b] ((b,.cells #[.int .i64 z] 3 (0,0))::C) (OQ b C i j):=by
 intro g
 refine Cb (R:=aA _) ?_
 unfold L305
 refine DR.self ?_
 refine h.ld (fun _ h=>.tail _ h) hj fun x=>?_
 refine h.ld (fun _ h=>.tail _ h) hi fun y=>?_
 refine af.rd .here (ej x y _) ?_
 rintro w rfl
 refine Br.mk (fun _=>?_) (fun _=>aA.here ⟨.inl rfl,z,rfl⟩)
 refine Nil.ptr (Ld.mk (by exact .head _) rfl ?_)
 refine ae.add ?_
 refine Nil.ptr (St.one (by exact .head _) rfl (by simp) rfl ?_)
 exact aA.here ⟨.inr rfl,_,rfl⟩
def MQ(b:Nat)(C:Hp)(p:Nat→Prop):Value→Hp→Prop:=fun r H=>(∃m:Nat,r=.int .i64 (m:Int)∧p m)∧∃z:Int,H=(b,.cells #[.int .i64 z] 3 (0,0))::C
theorem KL(h:DT v l0 C){b:Nat}{z:Int}{i j k:Nat}(hi:i<l0.length)(hj:j<l0.length)(hk:k<l0.length):
  Fc Tryz.prog 303 #[v,.int .i64 (i:Int),.int .i64 (j:Int),.int .i64 (k:Int),ptr b] ((b,.cells #[.int .i64 z] 3 (0,0))::C) (MQ b C fun m=>m=i∨m=j∨m=k):=by
 intro g
 refine Cd (R:=aA _) ?_
 unfold L303
 refine af.fn .here (wX h hi hj) ?_
 rintro w H ⟨hw,z1,rfl⟩
 obtain⟨i1,j1,rfl,hij⟩:∃i1 j1:Nat,w=.tuple #[.int .i64 (i1:Int),.int .i64 (j1:Int)]∧((i1=i∧j1=j)∨(i1=j∧j1=i)):=by
  rcases hw with rfl|rfl
  ·exact⟨i,j,rfl,.inl ⟨rfl,rfl⟩⟩
  ·exact⟨j,i,rfl,.inr ⟨rfl,rfl⟩⟩
 refine Ext.mk rfl (Ext.mk rfl ?_)
 refine af.fn .here (wX h (i:=j1) (j:=k) (by omega) hk) ?_
 rintro w H ⟨hw,z2,rfl⟩
 obtain⟨j2,k2,rfl,OP⟩:∃j2 k2:Nat,w=.tuple #[.int .i64 (j2:Int),.int .i64 (k2:Int)]∧((j2=j1∧k2=k)∨(j2=k∧k2=j1)):=by
  rcases hw with rfl|rfl
  ·exact⟨_,_,rfl,.inl ⟨rfl,rfl⟩⟩
  ·exact⟨_,_,rfl,.inr ⟨rfl,rfl⟩⟩
 refine Ext.mk rfl (Ext.mk rfl ?_)
 refine af.fn .here (wX h (i:=i1) (j:=j2) (by omega) (by omega)) ?_
 rintro w H ⟨hw,z3,rfl⟩
 rcases hw with rfl|rfl
 ·exact Ext.mk rfl (Ext.mk rfl (aA.here ⟨⟨_,rfl,by omega⟩,_,rfl⟩))
 ·exact Ext.mk rfl (Ext.mk rfl (aA.here ⟨⟨_,rfl,by omega⟩,_,rfl⟩))
theorem xe(h:DT v l0 C){b:Nat}{z:Int}{i:Nat}(h0:0<i)(hi:i+1<l0.length)(bQ:l0.length<1152921504606846976):
  Fc Tryz.prog 302 #[v,.int .i64 (i:Int),ptr b] ((b,.cells #[.int .i64 z] 3 (0,0))::C) (MQ b C fun m=>i≤m+1∧m≤i+1):=by
 intro g
 refine Ce (R:=aA _) ?_
 unfold L302
 refine ae.bH (b:=1) (by simp[aB];omega) (by omega) ?_
 refine ae.aL (b:=1) (by simp[aB];omega) ?_
 refine af.fn .here (KL h (by omega) (by omega) hi) ?_
 rintro w H ⟨⟨m,rfl,hm⟩,z',rfl⟩
 exact aA.here ⟨⟨m,rfl,by omega⟩,z',rfl⟩
theorem RD(h:DT v l0 C){a b:Nat}(hab:a<b)(hb:b≤l0.length)(bQ:l0.length<1152921504606846976):
  Rd Tryz.prog 292 #[v,.int .i64 (a:Int),.int .i64 (b:Int)] C (fun r=>∃(p:Nat) (q:Int),r=.tuple #[.int .i64 (p:Int),.int .i64 q]∧a≤p∧p<b):=by
 intro g
 refine Cq (R:=aA _) ?_
 unfold L292
 refine ae.bH (by simp[aB];omega) (by omega) ?_
 intro b2 _
 refine ae.BP (b:=4) (by simp[aB];omega) (by omega) ?_
 refine ae.uN (b:=1) (by simp[aB];omega) ?_
 refine ae.aL (by simp[aB];omega) ?_
 refine ae.BP (b:=4) (by simp[aB];omega) (by omega) ?_
 refine ae.uN (b:=2) (by simp[aB];omega) ?_
 refine ae.aL (by simp[aB];omega) ?_
 refine ae.BP (b:=4) (by simp[aB];omega) (by omega) ?_
 refine ae.uN (b:=3) (by simp[aB];omega) ?_
 refine ae.aL (by simp[aB];omega) ?_
 intro An aba
 have fin:∀(p:Nat) (z:Int),a≤p→p<b→An [.int .i64 (p:Int)] ((b2,.cells #[.int .i64 z] 3 (0,0))::C):=fun p z rA nj=>by
  refine aba _ _ fun gs=>?_
  refine Ld.mk (by exact .head _) rfl ?_
  refine ae.jF (Br.dec (fun _=>cz.mk .tail ⟨p,_,rfl,rA,nj⟩) (fun _=>?_))
  exact ae.jF (Br.dec (fun _=>cz.mk .tail ⟨p,_,rfl,rA,nj⟩) (fun _=>cz.mk .tail ⟨p,_,rfl,rA,nj⟩))
 refine ae.rD (b:=8) (Br.dec (fun h8=>?_) (fun _=>JE.mk (fin _ _ (by omega) (by omega))))
 intro XL aa9
 have three:∀(x y u:Nat) (z:Int),a≤x∧x<b→a≤y∧y<b→a≤u∧u<b→XL [.int .i64 (x:Int),.int .i64 (y:Int),.int .i64 (u:Int)] ((b2,.cells #[.int .i64 z] 3 (0,0))::C):=fun x y u z hx hy hu=>by
  refine aa9 _ _ _ _ fun gs=>?_
  refine af.fn .here (KL h (by omega) (by omega) (by omega)) ?_
  rintro w H ⟨⟨m,rfl,hm⟩,z',rfl⟩
  exact JE.mk (fin _ _ (by omega) (by omega))
 refine ae.rD (b:=50) (Br.dec (fun h50=>?_) (fun _=>JE.mk (three _ _ _ _ (by omega) (by omega) (by omega))))
 refine af.fn .here (xe h (by omega) (by omega) bQ) ?_
 rintro w H ⟨⟨m1,rfl,yb⟩,z1,rfl⟩
 refine af.fn .here (xe h (by omega) (by omega) bQ) ?_
 rintro w H ⟨⟨m2,rfl,uo⟩,z2,rfl⟩
 refine af.fn .here (xe h (by omega) (by omega) bQ) ?_
 rintro w H ⟨⟨m3,rfl,hm3⟩,z3,rfl⟩
 exact JE.mk (three _ _ _ _ (by omega) (by omega) (by omega))
theorem RE:∀(N:Nat) {C:Hp} (h:DT v l0 C) {a b:Nat} (hN:b-a≤N) (hab:a≤b) (hb:b≤l0.length) (bQ:l0.length<1152921504606846976) (z:Int),Fc Tryz.prog 285 #[v,.int .i64 (a:Int),.int .i64 (b:Int),.int .i64 z] C (SQ v l0):=by
 intro N
 induction N with
 |zero=>
  intro C h a b hN hab hb bQ z g
  refine tR (R:=aA _) ?_
  unfold L285
  refine⟨fun vs H=>vs=[.int .i64 (a:Int),.int .i64 (b:Int),.int .i64 z,.bool true,.bool true]∧H=C,fun _ _=>0,JE.mk ⟨rfl,rfl⟩,?_⟩
  rintro w1 w2 w3 w4 w5 H ⟨hw,rfl⟩ gs
  simp only[List.cons.injEq,and_true]at hw
  obtain⟨rfl,rfl,rfl,rfl,rfl⟩:=hw
  refine ae.bH (by simp[aB];omega) (by omega) ?_
  refine ae.Bp (b:=12) (Br.fc (by omega) ?_)
  refine af.fn .here (y8 h hab hb bQ) ?_
  rintro w C' ⟨rfl,hd⟩
  exact aA.here ⟨rfl,hd⟩
 |succ N ih=>
  intro C h a b hN hab hb bQ z g
  refine tR (R:=aA _) ?_
  unfold L285
  refine⟨fun vs H=>∃(a b:Nat) (z:Int) (t1 t2:Bool),vs=[.int .i64 (a:Int),.int .i64 (b:Int),.int .i64 z,.bool t1,.bool t2]∧b-a≤N+1∧a≤b∧b≤l0.length∧DT v l0 H,fun vs _=>bG vs 1-bG vs 0,JE.mk ⟨a,b,z,true,true,rfl,hN,hab,hb,h⟩,?_⟩
  clear h hN hab hb
  rintro w1 w2 w3 w4 w5 H ⟨a,b,z,t1,t2,hw,hN,hab,hb,h⟩ gs
  simp only[List.cons.injEq,and_true]at hw
  obtain⟨rfl,rfl,rfl,rfl,rfl⟩:=hw
  refine ae.bH (by simp[aB];omega) (by omega) ?_
  refine ae.Bp (b:=12) (Br.dec (fun Uz=>?_) (fun Uz=>?_))
  ·refine af.fn .here (y8 h hab hb bQ) ?_
   rintro w C' ⟨rfl,hd⟩
   exact aA.here ⟨rfl,hd⟩
  refine ae.jF (Br.dec (fun _=>?_) (fun _=>?_))
  ·refine af.fn .here (Lj h (by omega) hb bQ) ?_
   rintro w C' ⟨rfl,hd⟩
   exact aA.here ⟨rfl,hd⟩
  intro xW BJ
  have k17:∀(z1:Int) H1,DT v l0 H1→xW [.int .i64 z1] H1:=fun z1 H1 h1=>by
   refine BJ _ _ fun gs=>?_
   refine af.rd .here (RD h1 (a:=a) (b:=b) (by omega) hb bQ) ?_
   rintro w ⟨p,q,rfl,rA,nj⟩
   refine Ext.mk rfl (Ext.mk rfl ?_)
   intro Ny aa8
   have k25:∀(p:Nat) (q:Int) H2,a≤p→p<b→DT v l0 H2→Ny [.int .i64 (p:Int),.int .i64 q] H2:=fun p q H2 rA nj h2=>by
    refine aa8 _ _ _ fun gs=>?_
    intro XJ aa6
    have k30:∀H3,DT v l0 H3→XJ [] H3:=fun H3 h3=>by
     refine aa6 _ fun gs=>?_
     intro Jo O6
     have k33:∀(t:Bool),Jo [.bool t] H3:=fun t=>by
      refine O6 _ _ fun gs=>?_
      refine Br.mk (fun _=>?_) (fun _=>?_)
      ·refine af.fn .here (G5 h3 ⟨rA,nj⟩ hb bQ) ?_
       rintro w C' ⟨⟨m,rfl,yb,uo⟩,hd⟩
       exact aD.mk ⟨m,b,z1,t1,t2,rfl,by omega,by omega,hb,hd⟩ (by simp[bG];omega)
      ·refine af.fn .here (Oe h3 ⟨rA,nj⟩ hb bQ) ?_
       rintro w C' ⟨⟨m,t,rfl,yb,uo⟩,hd⟩
       refine Ext.mk rfl (Ext.mk rfl ?_)
       refine ae.bH (by simp[aB];omega) (by omega) ?_
       refine ae.bH (by simp[aB];omega) (by omega) ?_
       refine ae.BP (b:=8) (by simp[aB];omega) (by omega) ?_
       refine ae.eA (Br.dec (fun _=>?_) (fun _=>?_))
       ·refine ae.rD ?_
        refine af.fn .here (ih hd (a:=a) (b:=m) (by omega) (by omega) (by omega) bQ z1) ?_
        rintro w C' ⟨rfl,cV⟩
        refine ae.aL (b:=1) (by simp[aB];omega) ?_
        exact aD.mk ⟨m+1,b,z1,_,t,rfl,by omega,by omega,hb,cV⟩ (by simp[bG];omega)
       ·refine ae.rD ?_
        refine ae.aL (b:=1) (by simp[aB];omega) ?_
        refine af.fn .here (ih hd (a:=m+1) (b:=b) (by omega) (by omega) (by omega) bQ z1) ?_
        rintro w C' ⟨rfl,cV⟩
        exact aD.mk ⟨a,m,z1,_,t,rfl,by omega,by omega,by omega,cV⟩ (by simp[bG];omega)
     refine DR.self ?_
     refine ae.kB (b:=0) (Br.dec (fun h0=>?_) (fun _=>JE.mk (k33 false)))
     refine ae.bH (b:=1) (by simp[aB];omega) (by omega) ?_
     refine h3.ld (fun _ h=>h) (by omega) fun x=>?_
     refine h3.ld (fun _ h=>h) (by omega) fun y=>?_
     intro F
     refine af.rd .here (ej x y _) ?_
     rintro w rfl
     exact Un.not (aF.mk (JE.mk (k33 _)))
    refine bT.and t2 (fun _=>⟨rfl,rfl⟩) rfl fun gs=>?_
    refine bT.and (decide (q=1)) (fun _=>ae.jF ⟨rfl,rfl⟩) rfl fun gs=>?_
    refine Br.mk (fun _=>?_) (fun _=>JE.mk (k30 _ h2))
    refine af.fn .here (Oc h2 (by omega) hb bQ) ?_
    rintro w C' ⟨⟨t,rfl⟩,hd⟩
    exact Br.mk (fun _=>aA.here ⟨rfl,hd⟩) (fun _=>JE.mk (k30 _ hd))
   refine ae.jF (Br.dec (fun _=>?_) (fun _=>JE.mk (k25 p q _ rA nj h1)))
   refine af.fn .here (RC h1 (a:=a) (b:=b) (by omega) hb bQ) ?_
   rintro w C' ⟨rfl,hd⟩
   refine ae.bH (b:=1) (by simp[aB];omega) (by omega) ?_
   refine ae.bH (by simp[aB];omega) (by omega) ?_
   refine ae.bH (by simp[aB];omega) (by omega) ?_
   exact JE.mk (k25 _ _ _ (by omega) (by omega) hd)
  refine Un.not ?_
  refine Br.mk (fun _=>?_) (fun _=>JE.mk (k17 _ _ h))
  refine af.fn .here (Tx h (a:=a) (b:=b) (by omega) hb bQ) ?_
  rintro w C' ⟨rfl,hd⟩
  exact ae.sub (JE.mk (k17 _ _ hd))
theorem NX{l:List Int}(h:aN 77 .u32 v l C)(bQ:l.length<1152921504606846976):Fc Tryz.prog 274 #[v] C (fun r C'=>r=.tuple #[]∧∃l',l'.Perm l∧aN 77 .u32 v l' C'):=by
 intro g
 refine CI (R:=aA _) ?_
 unfold L274
 refine h.bC ?_
 refine aW.nat (by simp[aB];omega) ?_
 refine af.rd .here (FY (by omega) C) ?_
 rintro w ⟨r,_,rfl⟩
 refine af.fn .here (RE l.length h.dt (a:=0) (b:=l.length) (by omega) (by omega) (Nat.le_refl _) bQ _) ?_
 rintro w C' ⟨rfl,hd⟩
 exact aA.here ⟨rfl,hd⟩
end
end Go.Proofs
namespace Go.Sx
open Go
section
variable {P:Program} {g:Gh} {F:Fence} {n:Nat} {ops:Array Oper} {Q:Exit→Act→World→Prop} {rest:List Oper} {o:Oper} {a:Act} {fr:Fr} {w:World} {H:Hp}
abbrev Aq(ds:List Deferred)(n:Nat)(a:Act)(fr:Fr):Prop:=cg ds n a fr
variable {ds:List Deferred}
theorem Aq.put(h:Aq ds n a fr){d:Option Nat}(hd:dQ n d=true)(v:Value):Aq ds n (a.put d v) (bY fr d v):=cg.put h hd v
theorem iR{v0:Value}(hF:∀f,F.fn f)(hg:o.guard=none)(g7:∀c,o.op≠.defer c)(hd:dQ n o.dst=true)(ha:Aq ds n a fr)(hw:Own g H w)(h:Av P g o (ev fr) H (· =v0))
 (k:∀a',Aq ds n a' (bY fr o.dst v0)→wpListIn F 0 P ops Q rest a' w):wpListIn F 0 P ops Q (o::rest) a w:=by
 refine wpListIn_plain hg fun K hK=>⟨fun f _=>hF f,?_⟩
 rw[Oper.semAt_eq _ _ _ g7,ha.eval]
 obtain⟨v,hv,hr,_⟩:=mY h
 rw[hr w hw]
 subst hv
 exact hK _ _ (k _ (ha.put hd _))
theorem E8{s:Sem Value}{K:Value→Hp→Prop}(hF:∀f,F.fn f)(hg:o.guard=none)(g7:∀c,o.op≠.defer c)(hd:dQ n o.dst=true)(ha:Aq ds n a fr)(he:execOp (ev fr) o=(do pure (.value (←s))))
 (h:∃v w' H',s.run P w=.ok v w'∧Own g H' w'∧K v H')
 (k:∀v H' w' a',K v H'→Own g H' w'→Aq ds n a' (bY fr o.dst v)→wpListIn F 0 P ops Q rest a' w'):wpListIn F 0 P ops Q (o::rest) a w:=by
 refine wpListIn_plain hg fun K hK=>⟨fun f _=>hF f,?_⟩
 rw[Oper.semAt_eq _ _ _ g7,ha.eval,he]
 obtain⟨v,w',H',hr,ho,hk⟩:=h
 simp only[Sem.run_bind,hr,Result.andThen_ok,Sem.run_pure]
 exact hK _ _ (k v H' w' _ hk ho (ha.put hd _))
theorem Kq{s:Sem Value}{K:Value→Hp→Prop}(hF:∀f,F.fn f)(hg:o.guard=none)(g7:∀c,o.op≠.defer c)(hd:dQ n o.dst=true)(ha:Aq ds n a fr)(hw:Own g H w)(he:execOp (ev fr) o=(do pure (.value (←s))))
 (h:Nj P g o (ev fr) H K (fun _ _=>False))
 (k:∀v H' w' a',K v H'→Own g H' w'→Aq ds n a' (bY fr o.dst v)→wpListIn F 0 P ops Q rest a' w'):wpListIn F 0 P ops Q (o::rest) a w:=by
 have h1:=sJ (nr fr) h w hw
 rw[he]at h1
 refine E8 (g:=g) (K:=K) hF hg g7 hd ha he ?_ k
 cases hs:s.run P w with
 |ok v w'=>
  simp only[Sem.run_bind,hs,Result.andThen_ok,Sem.run_pure,mQ]at h1
  obtain⟨H',ho,hk⟩:=h1
  exact⟨v,w',H',rfl,ho,hk⟩
 |halt x w'=>
  simp only[Sem.run_bind,hs,Result.andThen]at h1
  cases x<;>simp only[mQ]at h1
  obtain⟨_,_,hk⟩:=h1;exact hk.elim
theorem U4{s:Sem Unit}{K:Value→Hp→Prop}(hF:∀f,F.fn f)(hg:o.guard=none)(g7:∀c,o.op≠.defer c)(hd:dQ n o.dst=true)(ha:Aq ds n a fr)(hw:Own g H w)(he:execOp (ev fr) o=(do s;pure .skip))
 (h:Nj P g o (ev fr) H K (fun _ _=>False))
 (k:∀H' w' a',K undef H'→Own g H' w'→Aq ds n a' (bY fr o.dst undef)→wpListIn F 0 P ops Q rest a' w'):wpListIn F 0 P ops Q (o::rest) a w:=by
 have h1:=sJ (nr fr) h w hw
 rw[he]at h1
 refine wpListIn_plain hg fun K hK=>⟨fun f _=>hF f,?_⟩
 rw[Oper.semAt_eq _ _ _ g7,ha.eval,he]
 cases hs:s.run P w with
 |ok v w'=>
  simp only[Sem.run_bind,hs,Result.andThen_ok,Sem.run_pure,mQ]at h1⊢
  obtain⟨H',ho,hk⟩:=h1
  exact hK _ _ (k H' w' _ hk ho (ha.put hd _))
 |halt x w'=>
  simp only[Sem.run_bind,hs,Result.andThen]at h1
  cases x<;>simp only[mQ]at h1
  obtain⟨_,_,hk⟩:=h1;exact hk.elim
theorem tK{m:Nat}{args:List Value}(hl:args.length≤m):Aq [] m {tmps:=args.toArray++Array.replicate (m-args.toArray.size) undef,defers:=[]} (iX args 0):=by
 refine⟨rfl,by simp;omega,fun s=>?_⟩
 rw[kS,Array.getD_eq_getD_getElem?,Array.getElem?_append]
 simp only[List.size_toArray,Nat.not_lt_zero,if_false,Nat.sub_zero]
 by_cases hs:s<args.length
 ·simp[hs,List.getD]
 ·rw[if_neg hs,Array.getElem?_replicate]
  have:args.getD s undef=undef:=by simp[List.getD,List.getElem?_eq_none (Nat.le_of_not_lt hs)]
  rw[this]
  split<;>rfl
theorem Own.putObj{g:Gh}{H H':Hp}{w:World}{b:Nat}{o o':Obj}(h:Own g H w)(u:dR b o o' H H'):Own g H' (w.putObj b o'):=by
 have hb:=h.lt u.mem
 exact h.bY u rfl rfl rfl (World.putObj_heap_same hb) fun c hc=>World.putObj_heap_other hc
def Gk{α:Type}(P:Program)(f:FuncId)(cap:Array Value)(B:Hp)(enc:α→Value)(N:Nat)(S:List α→Prop):Prop:=
 ∀(g:Gh) (l:Nat) (G:List α→Hp→Prop),
  (∀ss x A X W,G ss A→ss.length<N→Own g (A++X) W→YieldAt Fence.wide 0 P l #[enc x] W (fun e W'=>e=.returned (.bool true)∧∃A',G (ss++[x]) A'∧Own g (A'++X) W'))→
  ∀A W,G [] A→Own g (A++B) W→CallsIn Fence.wide 0 P f (#[.func (.yield l) #[] #[]]++cap) W (fun e W'=>(∃v,e=.returned v)∧∃ss A',S ss∧G ss A'∧Own g (A'++B) W')
open Classical in
noncomputable def pq(p:Nat→Prop):Nat:=if h:∃k,p k then Classical.choose (jT h)else 0
theorem Bo{p:Nat→Prop}{k:Nat}(h:p k):pq p≤k:=by
 unfold pq
 rw[dif_pos ⟨k,h⟩]
 exact(Classical.choose_spec (jT ⟨k,h⟩)).2 k h
theorem xj{p:Nat→Prop}(h:∃k,p k):p (pq p):=by
 unfold pq
 rw[dif_pos h]
 exact(Classical.choose_spec (jT h)).1
theorem AO{c:Code}(J:Nat→Act→World→Prop){k:Nat}(h0:J k a w)
 (round:∀k a w,J k a w→c.wpIn F 0 P (Exit.then (fun a' w'=>∃k',k'<k∧J k' a' w') Q) a w):(Code.loop c).wpIn F 0 P Q a w:=by
 refine wpIn_loop (fun a w=>∃k,J k a w) (fun a w=>pq fun k=>J k a w) ⟨k,h0⟩ fun a w h=>?_
 refine Code.wpIn_mono (fun e a' w' hq=>?_) (round _ a w (xj h))
 cases e with
 |normal=>
  obtain⟨k',hlt,hj⟩:=hq
  exact⟨⟨k',hj⟩,Nat.lt_of_le_of_lt (Bo hj) hlt⟩
 |_=>exact hq
end
end Go.Sx
set_option maxRecDepth 100000
namespace Go.Proofs
open Go Go.Sx
open aE
section
variable {es:Array MapEntry} {ck b:Nat} {m:List (Nd×Nat)}
theorem Gz(B:Hp):Fc Tryz.prog 251 #[.map (some b)] B
  (fun v H=>∃bm,v=.func (.func 275) #[] #[ptr bm]∧H=(bm,.cells #[.map (some b)] 266 (0,0))::B):=by
 intro g
 refine De (R:=aA _) ?_
 unfold L251
 intro b1 _
 exact aA.here ⟨b1,rfl,rfl⟩
noncomputable abbrev VF:Func:=Tryz.f275
def VAt(g:Gh)(bi b:Nat)(l:Nat)(es:Array MapEntry)(ck:Nat)(m:List (Nd×Nat))(G:List Nat→Hp→Prop)(B:Hp)(k:Nat)(a:Act)(w:World):Prop:=
 ∃(fr:Fr) (ss:List Nat) (A:Hp) (seen:Array Nat),Aq [] 15 a fr∧fr 0=.func (.yield l) #[] #[]∧fr 6=ptr bi∧G ss A∧Own g (A++((bi,.mapIter (some b) ck seen ck)::B)) w∧
  (ss++(cG es m seen).map Prod.snd).Perm (m.map Prod.snd)∧k=(cG es m seen).length
theorem AP{bm:Nat}{fz:Nat×Nat}(h:aM nK JG es ck m):Gk Tryz.prog 275 #[ptr bm] [(bm,.cells #[.map (some b)] 266 fz),(b,.map es ck)] u32 m.length
  (fun ss=>ss.Perm (m.map Prod.snd)):=by
 intro g l G hY A W h0 hW
 have hF:∀f,Fence.wide.fn f:=fun _=>trivial
 refine callsIn_of_wp Tryz.func275 rfl trivial ?_
 have ha:=tK (m:=15) (args:=[.func (.yield l) #[] #[],ptr bm]) (by simp)
 refine wpIn_seq ?_
 refine wpIn_region_lit ?_
 obtain⟨B,hB⟩:∃B,B=[(bm,Obj.cells #[.map (some b)] 266 fz),(b,.map es ck)]:=⟨_,rfl⟩
 rw[←hB]at hW
 have yb:(bm,Obj.cells #[.map (some b)] 266 fz)∈A++B:=by rw[hB];exact List.mem_append_right _ (.head _)
 have uo:(b,Obj.map es ck)∈A++B:=by rw[hB];exact List.mem_append_right _ (.tail _ (.head _))
 have hmB:∀{X:Hp},(b,Obj.map es ck)∈X++B:=by intro X;rw[hB];exact List.mem_append_right _ (.tail _ (.head _))
 rw[←hB]
 have e0:Av Tryz.prog g (fR VF 0 0) (ev (iX [.func (.yield l) #[] #[],ptr bm] 0)) (A++B) (fun x=>x=.map (some b))=Ld (A++B) (ptr bm) (fun x=>x=.map (some b)):=by kernel_rfl
 refine iR (g:=g) (n:=15) (v0:=.map (some b)) hF rfl (by intro c h;cases h) rfl ha hW (e0.mpr (Ld.mk yb rfl rfl)) fun a1 FI=>?_
 refine E8 (g:=g) (n:=15) (s:=Instr.range 266 (.map (some b))) (K:=fun v H=>∃bi,v=ptr bi∧H=(bi,.mapIter (some b) ck #[] ck)::(A++B)) hF rfl (by intro c h;cases h) rfl FI rfl
  (UF.run (.inr ⟨b,es,ck,rfl,uo,fun bi _=>⟨bi,rfl,rfl⟩⟩) hW (t:=266) (kt:=161) (e:=77) (by kernel_rfl)) fun v H' w1 a2 hv jJ AA=>?_
 obtain⟨bi,rfl,rfl⟩:=hv
 refine wpListIn_nil ?_
 have pA:Own g (A++((bi,.mapIter (some b) ck #[] ck)::B)) w1:=jJ.perm (List.perm_middle).symm
 clear jJ FI ha hW yb uo
 refine wpIn_block ?_
 refine AO (VAt g bi b l es ck m G B) (k:=(cG es m #[]).length) ⟨_,[],A,#[],AA,rfl,rfl,h0,pA,by rw[oa h];exact .refl _,rfl⟩ ?_
 clear AA pA h0 e0 A
 rintro k a w ⟨fr,ss,A,seen,ha,f0,f6,hG,hw,fW,hk⟩
 refine wpIn_seq ?_
 refine wpIn_region_lit ?_
 have e6:ev fr (.tmp 6)=ptr bi:=f6
 refine E8 (g:=g) (n:=15) (s:=Instr.next (ptr bi) false 0)
  (K:=fun v H=>(cG es m seen=[]∧v=.tuple #[.bool false]∧H=A++((bi,.mapIter (some b) ck seen ck)::B))∨
   ∃(e:MapEntry) (x:Nd×Nat) (seen':Array Nat),v=.tuple #[.bool true,e.key,e.val]∧e.val=u32 x.2∧(cG es m seen).Perm (x::cG es m seen')∧seen'.back?=some e.born∧es.find? (·.born==e.born)=some e∧
    H=A++((bi,.mapIter (some b) ck seen' ck)::B)) hF rfl (by intro c h;cases h) rfl ha ?_
  (TK.run (h.next (bi:=bi) (bm:=b) (seen:=seen) (H:=A++((bi,.mapIter (some b) ck seen ck)::B)) (List.mem_append_right _ (.tail _ (by rw[hB];exact .tail _ (.head _)))) (List.mem_append_right _ (.head _))
   (fun e x seen' he hk hv hp hb hf=>⟨_,(dR.head _).dK A,.inr ⟨e,x,seen',rfl,hv,hp,hb,hf,rfl⟩⟩) (fun hu=>.inl ⟨hu,rfl,rfl⟩)) hw) fun v H' w1 a1 hv jJ FI=>?_
 ·rw[e6.symm];rfl
 rcases hv with⟨hu,rfl,rfl⟩|⟨e,x,seen',rfl,Uq,hp,Yr,hfi,rfl⟩
 ·refine iR (g:=g) (n:=15) (v0:=.bool false) hF rfl (by intro c h;cases h) rfl FI jJ ⟨_,_,rfl,rfl,rfl⟩ fun a2 AA=>?_
  refine wpListIn_nil ?_
  refine wpIn_seq ?_
  refine wpIn_cond_false (by rw[AA.eval];rfl) ?_
  refine wpIn_exit ?_
  simp only[Exit.then,Exit.inBlock,if_true,bodyPost]
  refine⟨AA.defers,_,results_none rfl _ _ _,⟨_,rfl⟩,ss,A,?_,hG,(jJ.perm List.perm_middle).tail⟩
  rw[hu,List.map_nil,List.append_nil]at fW
  exact fW
 ·refine iR (g:=g) (n:=15) (v0:=.bool true) hF rfl (by intro c h;cases h) rfl FI jJ ⟨_,_,rfl,rfl,rfl⟩ fun a2 AA=>?_
  refine wpListIn_nil ?_
  refine wpIn_seq ?_
  refine wpIn_cond_true (by rw[AA.eval];rfl) ?_
  refine wpIn_skip ?_
  refine wpIn_block ?_
  refine wpIn_seq ?_
  refine wpIn_region_lit ?_
  refine E8 (g:=g) (n:=15) (s:=Instr.entry (ptr bi)) (K:=fun v H=>v=.tuple #[e.key,e.val]∧H=A++((bi,.mapIter (some b) ck seen' ck)::B)) hF rfl (by intro c h;cases h) rfl AA ?_ ?_ fun v H' w2 a3 hv pA HI=>?_
  ·rw[e6.symm];rfl
  ·obtain⟨v,hr,hv⟩:=I0.run (P:=Tryz.prog) (k:=fun v=>v=.tuple #[e.key,e.val]) ⟨bi,b,ck,seen',e.born,ck,es,e,rfl,List.mem_append_right _ (.head _),Yr,List.mem_append_right _ (.tail _ (by rw[hB];exact .tail _ (.head _))),hfi,rfl⟩ jJ
   exact⟨v,w1,_,hr,jJ,hv,rfl⟩
  obtain⟨rfl,rfl⟩:=hv
  refine iR (g:=g) (n:=15) (v0:=u32 x.2) hF rfl (by intro c h;cases h) rfl HI pA ⟨_,_,rfl,rfl,Uq⟩ fun a4 O0=>?_
  refine iR (g:=g) (n:=15) (v0:=u32 x.2) hF rfl (by intro c h;cases h) rfl O0 pA (show u32 x.2=u32 x.2 from rfl) fun a5 OZ=>?_
  refine wpListIn_nil ?_
  refine wpIn_seq ?_
  refine wpIn_region_lit ?_
  refine iR (g:=g) (n:=15) (v0:=.func (.yield l) #[] #[]) hF rfl (by intro c h;cases h) rfl OZ pA f0 fun a6 OY=>?_
  refine iR (g:=g) (n:=15) (v0:=u32 x.2) hF rfl (by intro c h;cases h) rfl OY pA (show u32 x.2=u32 x.2 from rfl) fun a7 Uv=>?_
  have hlen:(cG es m seen).length=(cG es m seen').length+1:=by rw[hp.length_eq];rfl
  have hlt:ss.length<m.length:=by
   have:=fW.length_eq
   simp only[List.length_append,List.length_map]at this⊢
   omega
  obtain⟨fn,tmps,assign,body,hy,hR⟩:=hY _ x.2 A _ w2 hG hlt pA
  refine wpListIn_plain rfl fun K hK=>⟨fun _ _=>trivial,?_⟩
  rw[Oper.semAt_eq _ _ _ (by intro c h;cases h),Uv.eval]
  have hex:∀F7:Fr,F7=bY (bY (bY (bY (bY (bY (bY fr (some 7) (.tuple #[.bool true,e.key,e.val])) (some 8) (.bool true)) (some 9) (.tuple #[e.key,e.val])) (some 10) (u32 x.2)) (some 4) (u32 x.2)) (some 11) (.func (.yield l) #[] #[])) (some 12) (u32 x.2)→(execOp (ev F7) (fR VF 3 2)).run Tryz.prog w2=.ok (.round l fn tmps assign body) w2:=fun F7 hF7=>by
   have v11:ev F7 (.tmp 11)=.func (.yield l) #[] #[]:=by rw[hF7];rfl
   have bf:ev F7 (.tmp 12)=u32 x.2:=by rw[hF7];rfl
   have e11:execOp (ev F7) (fR VF 3 2)=(do let d ←resolve (ev F7) {callee:=.value (.tmp 11),args:=#[.tmp 12],argTypes:=#[77]} 4;invoke d.target d.args):=rfl
   rw[e11]
   simp[resolve,Deferred.ofValue,v11,bf,invoke,go_sem,hy]
  refine(congrArg (Oper.uponIn Fence.wide 0 Tryz.prog (fR VF 3 2) a7 K _) (hex _ rfl)).mpr ⟨fun h=>(by cases h),hR.mono ?_⟩
  rintro e' w3 ⟨rfl,A',Td,OF⟩
  refine hK _ _ ?_
  have ha8:=Uv.put (d:=some 13) rfl (.bool true)
  refine iR (g:=g) (n:=15) (v0:=.bool false) hF rfl (by intro c h;cases h) rfl ha8 OF ⟨_,rfl,rfl⟩ fun a9 ha9=>?_
  refine wpListIn_nil ?_
  refine wpIn_cond_false (by rw[ha9.eval];rfl) ?_
  refine wpIn_skip ?_
  refine⟨(cG es m seen').length,by omega,_,ss++[x.2],A',seen',ha9,f0,f6,Td,OF,?_,rfl⟩
  rw[List.append_assoc]
  exact((hp.map Prod.snd).append_left ss).symm.trans fW
end
end Go.Proofs
set_option maxRecDepth 100000
namespace Go.Proofs
open Go Go.Sx
open aE
section
noncomputable abbrev AF:Func:=Tryz.f284
variable {f:FuncId} {cap:Array Value} {B:Hp} {N:Nat} {S:List Nat→Prop}
noncomputable def cS:Code:=match AF.body with|some (.seq _ (.seq (.seq _ (.block _ (.rangeFunc _ _ c _))) _))=>c|_=>.skip
noncomputable def fe:Code:=match AF.body with|some (.seq _ (.seq (.seq _ (.block _ (.rangeFunc _ _ _ c))) _))=>c|_=>.skip
noncomputable def PN(i:Nat):Oper:=match fe with| .block _ (.region _ ops _)=>(match ops[i]? with|some o=>o|none=>default)|_=>default
def j7(fn:FuncId)(tmps:Array Value)(assign body:Code)(D:Nat):Loop:={state:=.ready,pending:=none,fn,tmps,params:=#[7],assign,body,defers:=D}
def APG(l D bs:Nat)(fn:FuncId)(tmps:Array Value)(assign body:Code)(ss:List Nat)(A:Hp):Prop:=
 ∃v C',A=(l,.loop (j7 fn tmps assign body D))::(D,.deferred (some []))::(bs,.cells #[v] 27 (0,0))::C'∧aN 77 .u32 v (iw ss) C'
theorem MH{g:Gh}{l D bs:Nat}{fn:FuncId}{tmps:Array Value}{fr:Fr}(hsz:tmps.size=13)(gD:∀s,tmps.getD s undef=fr s)(f2:fr 2=ptr bs){ss:List Nat}{x:Nat}{A X:Hp}{W:World}
 (hG:APG l D bs fn tmps cS fe ss A)(hl:ss.length<1099511627776)(hW:Own g (A++X) W):
  YieldAt Fence.wide 0 Tryz.prog l #[u32 x] W (fun e W'=>e=.returned (.bool true)∧∃A',APG l D bs fn tmps cS fe (ss++[x]) A'∧Own g (A'++X) W'):=by
 obtain⟨v,C',rfl,ho⟩:=hG
 have hF:∀f,(Fence.wide.inRound l).fn f:=fun _=>trivial
 have hL:W.heap[l]? =some (.loop (j7 fn tmps cS fe D)):=hW.has _ (.head _)
 refine⟨fn,_,cS,fe,run_yield hL rfl,roundIn_of_wpIn trivial ?_⟩
 have ha:Aq [] 13 {tmps:=tmps.setIfInBounds 7 (u32 x),defers:=[]} (bY fr (some 7) (u32 x)):=(Aq.put (a:={tmps:=tmps,defers:=[]}) (d:=some 7) ⟨rfl,hsz,gD⟩ rfl (u32 x))
 have ha:Aq [] 13 {tmps:=(#[7].zip #[u32 x]).foldl (fun tmps (t,a)=>tmps.setIfInBounds t a) tmps,defers:=[]} (bY fr (some 7) (u32 x)):=by simpa using ha
 change Code.wpIn _ 0 Tryz.prog (.region _ #[_] false) _ _ _
 refine wpIn_region_lit ?_
 refine iR (g:=g) (n:=13) (v0:=u32 x) hF rfl (by intro c h;cases h) rfl ha hW rfl fun a1 FI=>?_
 refine wpListIn_nil ?_
 have hbr:=run_beginRound (P:=Tryz.prog) hL rfl
 refine⟨_,hbr,?_⟩
 have QO:=hW.putObj (o':=.loop {j7 fn tmps cS fe D with state:=.busy}) (.head _)
 change Code.wpIn _ 0 Tryz.prog (.block _ (.region _ #[_,_,_,_,_] false)) _ _ _
 refine wpIn_block ?_
 refine wpIn_region_lit ?_
 obtain⟨H1,hH1⟩:∃H1,H1=(l,Obj.loop {j7 fn tmps cS fe D with state:=.busy})::(((D,.deferred (some []))::(bs,.cells #[v] 27 (0,0))::C')++X):=⟨_,rfl⟩
 replace QO:Own g H1 (W.putObj l (.loop {j7 fn tmps cS fe D with state:=.busy})):=by rw[hH1];exact QO
 have e0:Av Tryz.prog g (PN 0) (ev (bY (bY fr (some 7) (u32 x)) (some 5) (u32 x))) H1 (fun z=>z=v)=Ld H1 (fr 2) (fun z=>z=v):=by kernel_rfl
 refine iR (g:=g) (n:=13) (v0:=v) hF rfl (by intro c h;cases h) rfl FI QO (e0.mpr (by rw[f2];exact Ld.mk (by rw[hH1];exact .tail _ (.tail _ (.head _))) rfl rfl)) fun a2 AA=>?_
 refine iR (g:=g) (n:=13) (v0:=u32 x) hF rfl (by intro c h;cases h) rfl AA QO rfl fun a3 HI=>?_
 have eb:∀K:Value→Hp→Prop,av Tryz.prog 27 1 [(0,.int .u32 (x:Int))] H1 K=Nj Tryz.prog g (PN 2) (ev (bY (bY (bY (bY fr (some 7) (u32 x)) (some 5) (u32 x)) (some 8) v) (some 9) (u32 x))) H1 K (fun _ _=>False):=fun K=>by kernel_rfl
 refine Kq (g:=g) (n:=13) (s:=_) (K:=fun v H=>∃b,v=.slice (some ⟨b,0,none⟩) 1 1∧H=(b,.cells (ax .u32 [(x:Int)]) 77 (0,0))::H1) hF rfl (by intro c h;cases h) rfl HI QO rfl
  ((eb _).mp (av.int (by kernel_rfl) (by kernel_rfl) (by kernel_rfl) fun b=>⟨b,rfl,rfl⟩)) fun v1 H2 w2 a4 hv Wv O0=>?_
 obtain⟨b,rfl,rfl⟩:=hv
 have hn:(iw ss).length=ss.length:=ak ss
 obtain⟨H2,hH2⟩:∃H2,H2=(b,Obj.cells (ax .u32 [(x:Int)]) 77 (0,0))::H1:=⟨_,rfl⟩
 rw[←hH2]at Wv
 refine Kq (g:=g) (n:=13) (s:=_) (K:=fun v' H=>∃C2,aN 77 .u32 v' (iw (ss++[x])) C2∧H=(b,Obj.cells (ax .u32 [(x:Int)]) 77 (0,0))::(l,Obj.loop {j7 fn tmps cS fe D with state:=.busy})::(D,.deferred (some []))::(bs,.cells #[v] 27 (0,0))::(C2++X))
  hF rfl (by intro c h;cases h) rfl O0 Wv (by simp only[execOp,resolve,invoke,builtin];simp[bind,Sem.bind];rfl) ?_ fun v2 H3 w3 a5 hv O1 OZ=>?_
 ·have e1:∀K:Value→Hp→Prop,App Tryz.prog 77 1 4 (.int .u32 0) H2 v (.slice (some ⟨b,0,none⟩) 1 1) K=
   Nj Tryz.prog g (PN 3) (ev (bY (bY (bY (bY (bY fr (some 7) (u32 x)) (some 5) (u32 x)) (some 8) v) (some 9) (u32 x)) (some 10) (.slice (some ⟨b,0,none⟩) 1 1))) H2 K (fun _ _=>False):=fun K=>by kernel_rfl
  refine(e1 _).mp ?_
  rw[hH2,hH1]
  refine ho.oK (.cons (.cons (.cons (.cons .left)))) (by exact .head _) (by omega) (by omega) fun v' C2 zh=>⟨C2,?_,rfl⟩
  rw[cm];exact zh
 obtain⟨C2,zh,rfl⟩:=hv
 have es:∀(H:Hp) (K:Value→Hp→Prop),St 1 H (fr 2) v2 (fun H'=>K undef H')=Nj Tryz.prog g (PN 4) (ev (bY (bY (bY (bY (bY (bY fr (some 7) (u32 x)) (some 5) (u32 x)) (some 8) v) (some 9) (u32 x)) (some 10) (.slice (some ⟨b,0,none⟩) 1 1)) (some 11) v2)) H K (fun _ _=>False):=fun H K=>by kernel_rfl
 refine U4 (g:=g) (n:=13) (s:=_) (K:=fun _ H=>H=(b,Obj.cells (ax .u32 [(x:Int)]) 77 (0,0))::(l,Obj.loop {j7 fn tmps cS fe D with state:=.busy})::(D,.deferred (some []))::(bs,.cells #[v2] 27 (0,0))::(C2++X))
  hF rfl (by intro c h;cases h) rfl OZ O1 rfl ((es _ _).mp ?_) fun H4 w4 a6 hv Yt OY=>?_
 ·rw[f2]
  exact St.one (.tail (.tail (.tail (.head _)))) zh.one (by simp) rfl rfl
 subst hv
 refine wpListIn_nil ?_
 simp only[Exit.inBlock,roundPost]
 refine⟨_,_,run_endRound none (Yt.has _ (.tail _ (.head _))),rfl,_,⟨v2,C2,rfl,zh⟩,?_⟩
 exact(Yt.putObj (.tail (.head _))).tail
theorem Ig(hg:Gk Tryz.prog f cap B u32 N S)(hc:bB Tryz.prog f=true)(hN:N≤1099511627776):
  Fc Tryz.prog 284 #[.slice none 0 0,.func (.func f) #[] cap] B (fun v H=>∃ss C',S ss∧H=C'++B∧aN 77 .u32 v (iw ss) C'):=by
 intro g w hw
 rw[←callsIn_wide (n:=0)]
 have hF:∀f,Fence.wide.fn f:=fun _=>trivial
 refine callsIn_of_wp_marks Tryz.func284 rfl trivial ?_
 have ha:=tK (m:=13) (args:=[.slice none 0 0,.func (.func f) #[] cap]) (by simp)
 refine wpIn_seq ?_
 refine wpIn_region_lit ?_
 refine Kq (g:=g) (n:=13) (s:=_) (K:=fun v H=>∃bs,v=ptr bs∧H=(bs,.cells #[.slice none 0 0] 27 (0,0))::B) hF rfl (by intro c h;cases h) rfl ha hw rfl (fun bs _=>⟨bs,rfl,rfl⟩) fun v H1 w1 a1 hv jJ FI=>?_
 obtain⟨bs,rfl,rfl⟩:=hv
 refine iR (g:=g) (n:=13) (v0:=.slice none 0 0) hF rfl (by intro c h;cases h) rfl FI jJ rfl fun a2 AA=>?_
 refine wpListIn_nil ?_
 refine wpIn_seq ?_
 refine wpIn_seq ?_
 refine wpIn_region_lit ?_
 refine iR (g:=g) (n:=13) (v0:=.func (.func f) #[] cap) hF rfl (by intro c h;cases h) rfl AA jJ rfl fun a3 HI=>?_
 refine wpListIn_nil ?_
 refine wpIn_block ?_
 refine wpIn_rangeFunc fun fn hfn=>?_
 have FA:=(jJ.alloc (.deferred (some []))).alloc (.loop (j7 fn a3.tmps cS fe w1.heap.size))
 have f6:a3.tmps[6]?.getD undef=.func (.func f) #[] cap:=by have:=HI.get 6;rw[Array.getD_eq_getD_getElem?]at this;exact this
 obtain⟨W1,QO⟩:∃W1,W1=(w1.alloc (.deferred (some []))).alloc (.loop (j7 fn a3.tmps cS fe w1.heap.size)):=⟨_,rfl⟩
 rw[←QO]at FA
 refine⟨w1.heap.size+1,[{target:=.collected w1.heap.size,args:=#[]}],W1,{target:=.fn (.func f) cap,args:=#[.func (.yield (w1.heap.size+1)) #[] #[]]},W1,f,#[.func (.yield (w1.heap.size+1)) #[] #[]]++cap,W1,?_,?_,fun _ _=>trivial,?_,fun h=>(by cases h),?_⟩
 ·rw[QO];exact run_enterLoop_outer fn a3.tmps #[7] _ _
 ·simp[resolve,Deferred.ofValue,f6,go_sem]
 ·simp[invoke,go_sem]
  exact eV hc _ _
 have hsz:(w1.alloc (.deferred (some []))).heap.size=w1.heap.size+1:=by simp
 rw[hsz]at FA
 refine CallsIn.mono (hg g (w1.heap.size+1) (APG (w1.heap.size+1) w1.heap.size bs fn a3.tmps cS fe) (fun ss x A X W hG hl hW=>MH HI.size HI.get rfl hG (by omega) hW) [_,_,_] W1 ⟨_,[],rfl,aN.nil⟩ FA) ?_
 rintro e W2 ⟨⟨v0,rfl⟩,ss,A',hS,⟨v,C',rfl,ho⟩,Wv⟩
 refine⟨none,_,run_endLoop (Wv.has _ (.head _)) (by simp[j7]),?_⟩
 have O1:=Wv.putObj (o':=.loop {j7 fn a3.tmps cS fe w1.heap.size with state:=.exhausted}) (.head _)
 simp only[Exit.then,Exit.inBlock]
 have O0:Aq [{target:=.collected w1.heap.size,args:=#[]}] 13 {a3 with defers:=[{target:=.collected w1.heap.size,args:=#[]}]++a3.defers} (bY (bY (bY (iX [.slice none 0 0,.func (.func f) #[] cap] 0) (some 2) (ptr bs)) (some 4) (.slice none 0 0)) (some 6) (.func (.func f) #[] cap)):=
  ⟨by rw[HI.defers];rfl,HI.size,HI.get⟩
 refine wpIn_seq ?_
 refine wpIn_region_lit ?_
 obtain⟨H3,hH3⟩:∃H3,H3=(w1.heap.size+1,Obj.loop {j7 fn a3.tmps cS fe w1.heap.size with state:=.exhausted})::(((w1.heap.size,.deferred (some []))::(bs,.cells #[v] 27 (0,0))::C')++B):=⟨_,rfl⟩
 replace O1:Own g H3 (W2.putObj (w1.heap.size+1) (.loop {j7 fn a3.tmps cS fe w1.heap.size with state:=.exhausted})):=by rw[hH3];exact O1
 have e0:Av Tryz.prog g (fR AF 4 0) (ev (bY (bY (bY (iX [.slice none 0 0,.func (.func f) #[] cap] 0) (some 2) (ptr bs)) (some 4) (.slice none 0 0)) (some 6) (.func (.func f) #[] cap))) H3 (fun z=>z=v)=Ld H3 (ptr bs) (fun z=>z=v):=by kernel_rfl
 refine iR (g:=g) (n:=13) (v0:=v) hF rfl (by intro c h;cases h) rfl O0 O1 (e0.mpr (Ld.mk (by rw[hH3];exact .tail _ (.tail _ (.head _))) rfl rfl)) fun a5 OZ=>?_
 refine iR (g:=g) (n:=13) (v0:=v) hF rfl (by intro c h;cases h) rfl OZ O1 rfl fun a6 OY=>?_
 refine wpListIn_nil ?_
 refine wpIn_ret ?_
 simp only[Exit.then,bodyPostM]
 rw[OY.defers]
 rw[hH3]at O1
 refine⟨by simp,.inl ⟨w1.heap.size,_,rfl,run_takeDeferred (O1.has _ (.tail _ (.head _))),?_⟩⟩
 have Yt:=O1.putObj (o':=.deferred none) (.tail (.head _))
 refine⟨_,results_tmp rfl _ _ _,C'++B,Yt.tail.tail.tail,v,C'++B,?_,.refl _,ss,C',hS,rfl,ho⟩
 have:=OY.get 4
 rw[this]
 rfl
end
section
variable {f:FuncId} {cap:Array Value} {B:Hp} {N:Nat} {S:List Nat→Prop}
theorem BT(hg:Gk Tryz.prog f cap B u32 N S)(hc:bB Tryz.prog f=true)(hN:N≤1099511627776):
  Fc Tryz.prog 273 #[.func (.func f) #[] cap] B (fun v H=>∃ss C',S ss∧H=C'++B∧aN 77 .u32 v (iw ss) C'):=by
 intro g
 refine CJ (R:=aA _) ?_
 unfold L273
 refine af.fn .here (Ig hg hc hN) ?_
 rintro v H h
 exact aA.here h
theorem Od{l':List Int}{ss:List Nat}(h:l'.Perm (iw ss)):∃l:List Nat,l.Perm ss∧l'=iw l:=by
 refine⟨l'.map Int.toNat,?_,?_⟩
 ·have:=h.map Int.toNat
  rw[iw,List.map_map]at this
  have e:(Int.toNat∘(Nat.cast:Nat→Int))=id:=by funext x;simp
  rw[e,List.map_id]at this
  exact this
 ·unfold iw
  rw[List.map_map]
  have:∀x∈l',((Nat.cast:Nat→Int)∘Int.toNat) x=x:=fun x hx=>by
   obtain⟨n,_,rfl⟩:=List.mem_map.1 (h.mem_iff.1 hx)
   simp
  rw[List.map_congr_left this,List.map_id']
theorem GP(hg:Gk Tryz.prog f cap B u32 N S)(hS:∀ss,S ss→ss.length≤N)(hc:bB Tryz.prog f=true)(hN:N≤1099511627776):
  Fc Tryz.prog 250 #[.func (.func f) #[] cap] B (fun v H=>∃ss l C',S ss∧l.Perm ss∧H=C'++B∧aN 77 .u32 v (iw l) C'):=by
 intro g
 refine Df (R:=aA _) ?_
 unfold L250
 refine af.fn .here (BT hg hc hN) ?_
 rintro v H ⟨ss,C',hs,rfl,ho⟩
 have hlen:=hS ss hs
 refine af.fn (.left (A:=B)) (NX ho (by rw[ak];omega)) ?_
 rintro w C2 ⟨rfl,l',hp,cI⟩
 obtain⟨l,hl,rfl⟩:=Od hp
 exact aA.here ⟨ss,l,C2,hs,hl,rfl,cI⟩
end
theorem N6{pt n v:Nat}{T:Nd→Option Nat}{C:Hp}(h:nY pt n T C)(hv:v<n)(hinj:∀d d' r,T d=some r→T d'=some r→d=d')(hb:∀d r,T d=some r→r<1048576):
  Fc Tryz.prog 203 #[ptr pt,.int .i64 (v:Int)] C (fun r H=>∃w l N,r=.tuple #[w,.int .i64 0]∧H=N++C∧aN 77 .u32 w (iw l) N∧l.Nodup∧∀r,r∈l↔∃d,T d=some r∧d.v=v):=by
 have h0:=h
 obtain⟨vs,Cs,ms,rfl,hs,ho⟩:=h
 obtain⟨m,hm⟩:∃m,ms[v]? =some m:=⟨_,List.getElem?_eq_getElem (by rw[ho.len];exact hv)⟩
 have he:=ho.jb v m hm
 have hT:∀d:Nd,d.v=v→T d=c9 m.l d:=fun d hd=>by rw[ho.T,hd,hm];rfl
 have hmem:∀d r,(d,r)∈m.l↔T d=some r∧d.v=v:=fun d r=>by
  constructor
  ·intro hx
   have hd:=ho.var v m hm _ hx
   exact⟨by rw[hT d hd];exact(fT he.nd).2 hx,hd⟩
  ·rintro⟨h1,h2⟩
   rw[hT d h2]at h1
   exact(fT he.nd).1 h1
 have g7:(m.l.map Prod.snd).Nodup:=by
  refine List.pairwise_map.2 ((List.pairwise_map.1 he.nd).imp_of_mem fun{a b} ha hb' hne e=>hne ?_)
  have h1:=((hmem a.1 a.2).1 ha).1
  have h2:=((hmem b.1 b.2).1 hb').1
  rw[←e]at h2
  exact hinj _ _ _ h1 h2
 have hlen:m.l.length≤1048576:=by
  have:=bN (l':=List.range 1048576) g7 fun x hx=>by
   obtain⟨y,hy,rfl⟩:=List.mem_map.1 hx
   exact List.mem_range.2 (hb _ _ ((hmem y.1 y.2).1 hy).1)
  simpa using this
 intro g
 refine DS (R:=aA _) ?_
 unfold L203
 refine af.rd .here (mR h0 hv) ?_
 rintro w rfl
 refine ae.dO (Br.bt (by simp) ?_)
 refine Nil.ptr ?_
 refine aa.mk (Ld.mk zM rfl ?_)
 refine hs.RY (x:=.map (some m.b)) (by rw[List.getElem?_map,hm];rfl) (fun _ h=>by exact .tail _ (List.mem_append_left _ h)) ?_
 refine af.fn .here (Gz (b:=m.b) _) ?_
 rintro w H ⟨bm,rfl,rfl⟩
 obtain⟨X,Y,hXY⟩:=List.append_of_mem (rQ hm)
 have fW:((bm,Obj.cells #[.map (some m.b)] 266 (0,0))::(pt,.cells #[vs] 265 (0,0))::(Cs++Hh ms)).Perm
   ([(bm,.cells #[.map (some m.b)] 266 (0,0)),(m.b,.map m.es m.ck)]++((pt,.cells #[vs] 265 (0,0))::(Cs++(X++Y)))):=by
  rw[hXY]
  refine .cons _ ?_
  show((pt,_)::(Cs++(X++(m.b,_)::Y))).Perm ((m.b,_)::(pt,_)::(Cs++(X++Y)))
  refine .trans (.cons _ ?_) (.swap _ _ _)
  rw[←List.append_assoc,←List.append_assoc]
  exact List.perm_middle
 refine af.pre (.perm fW) ?_
 refine af.fn .left (GP (AP he) (fun ss ZZ=>by rw[ZZ.length_eq,List.length_map];exact Nat.le_refl _) (by kernel_rfl) (by omega)) ?_
 rintro w H ⟨ss,l,C',ZZ,hl,rfl,hown⟩
 have xw:l.Perm (m.l.map Prod.snd):=hl.trans ZZ
 refine aA.mk (lR:=C'++((pt,.cells #[vs] 265 (0,0))::(Cs++Hh ms))) ?_ ⟨w,l,C',rfl,rfl,hown,xw.nodup_iff.2 g7,fun r=>?_⟩
 ·rw[List.append_assoc]
  refine aQ.dr ?_ C'
  exact(aQ.perm fW.symm).trans .tail
 ·rw[xw.mem_iff,List.mem_map]
  constructor
  ·rintro⟨y,hy,rfl⟩;exact⟨y.1,(hmem y.1 y.2).1 hy⟩
  ·rintro⟨d,hd⟩;exact⟨(d,r),(hmem d r).2 hd,rfl⟩
end Go.Proofs
namespace Go.Sx
open Go
section
variable {P:Program} {g:Gh} {H:Hp} {κ β:Type} [DecidableEq κ] {ke:κ→Value} {vr:Value→β→Prop} {es:Array MapEntry} {ck b:Nat} {m:List (κ×β)} {K:Value→Hp→Prop} {KP:List PanicEntry→Hp→Prop}
omit [DecidableEq κ] in
theorem aM.sameKey(h:aM ke vr es ck m){i:Nat}{k:κ}{x:β}(hi:m[i]? =some (k,x)):es.modify i (fun e=>{e with key:=ke k})=es:=by
 apply Array.ext_getElem?
 intro j
 rw[Array.getElem?_modify]
 split
 ·rename_i e;subst e
  cases he:es[i]? with
  |none=>rfl
  |some e0=>rw[Option.map_some,←(h.key i e0 _ he hi).1]
 ·rfl
theorem aM.Pu{o:Oper}{ρ:Operand→Value}{t kt e:TypeId}{kd:TypeDesc}{mo ko:Operand}{z:Value}{k:κ}{y0:β}(hk:∀a b,xZ P kt (ke a) (ke b) (decide (a=b)))(hc:∀a,kA P kt (ke a))(hb:∀a,Instr.sameBits 10000 (ke a) (ke a)=true)
 (ho:o.op=.mapEntry t mo ko)(hm':ρ mo=.map (some b))(hk':ρ ko=ke k)(ht:P.underlying t=some (.map kt e))(zm:P.underlying kt=some kd)(Ws:cB kd=true)(hzd:ew P e=some z)(hvz:vr z y0)
 (h:aM ke vr es ck m){c:Obj→Hp}(LH:∀o o',dR b o o' (c o) (c o'))
 (h1:∀es' ct v st,aM ke vr es' ct (if k∈m.map Prod.fst then m else m++[(k,y0)])→(∃e∈es'.toList,e.born=st)→K (.tuple #[v,.int .i64 (st:Int)]) (c (.map es' ct))):mN P g o ρ (c (.map es ck)) K KP:=by
 have uP:(b,Obj.map es ck)∈c (.map es ck):=(LH _ (.map es ck)).mem
 obtain⟨i,hi,uR⟩:=cu hzd
 refine mN.ofValue (s:=Instr.mapEntry t (.map (some b)) (ke k)) (by simp only[execOp,ho,hm',hk']) fun w hw=>?_
 have eU:=fun b=>hc k b w
 rcases h.zK hk k with⟨j,x,e0,g1,g2,g3,g4⟩|⟨g1,g2⟩
 ·have nE:=fQ (P:=P) zm Ws g4 w
  have hj:=(Array.getElem?_eq_some_iff.1 g1).1
  have hkey:es[j].key=ke k:=(h.key j _ _ (Array.getElem?_eq_getElem hj) g2).1
  have hmem:k∈m.map Prod.fst:=List.mem_map.2 ⟨_,List.mem_of_getElem? g2,rfl⟩
  obtain⟨w',hs,hown⟩:=bI (P:=P) hw (es.modify j fun e=>{e with key:=ke k}) ck (by rw[h.sameKey g2];exact LH _ (.map es ck))
  refine⟨.tuple #[e0.val,.int .i64 (es[j].born:Int)],w',_,?_,hown,h1 es ck e0.val es[j].born (by rw[if_pos hmem];exact h) ⟨es[j],by simp,rfl⟩⟩
  simp[Instr.mapEntry,run_underlying ht,aT hw uP,eU,nE,hj,Instr.keyThatStays,hkey,hb k,hs,goInt]
 ·have nE:=fQ (P:=P) zm Ws g2 w
  obtain⟨w',hs,hown⟩:=bI (P:=P) hw (es.push {key:=ke k,val:=z,born:=ck}) (ck+1) (LH _ _)
  have uo:=h.more (k:=k) g1 hvz
  have e2:fA m k y0=m++[(k,y0)]:=by unfold fA;rw[if_neg g1]
  rw[e2]at uo
  refine⟨.tuple #[z,.int .i64 (ck:Int)],w',_,?_,hown,h1 _ _ z ck (by rw[if_neg g1];exact uo) ⟨_,by rw[Array.toList_push];exact List.mem_append_right _ (.head _),rfl⟩⟩
  simp[Instr.mapEntry,run_underlying ht,aT hw uP,eU,nE,dB hi uR,hs,goInt]
omit [DecidableEq κ] in
theorem aM.NV{o:Oper}{ρ:Operand→Value}{t:TypeId}{mo so xo:Operand}{st:Nat}(ho:o.op=.entryStore t mo so xo)(hm':ρ mo=.map (some b))(hs':ρ so=.int .i64 (st:Int))
 (h:aM ke vr es ck m)(hst:∃e∈es.toList,e.born=st)(hv:∀x,vr (ρ xo) x){c:Obj→Hp}(LH:∀o o',dR b o o' (c o) (c o'))
 (h1:∀es',aM ke vr es' ck m→K undef (c (.map es' ck))):mN P g o ρ (c (.map es ck)) K KP:=by
 have uP:(b,Obj.map es ck)∈c (.map es ck):=(LH _ (.map es ck)).mem
 refine mN.qd (s:=Instr.entryStore t (.map (some b)) (.int .i64 (st:Int)) (ρ xo)) (by simp only[execOp,ho,hm',hs']) fun w hw=>?_
 obtain⟨i,hi⟩:∃i,es.findIdx? (fun e=>(e.born:Int)==(st:Int))=some i:=by
  obtain⟨e,he,rfl⟩:=hst
  rw[←Option.isSome_iff_exists,Array.findIdx?_isSome]
  rw[Array.any_eq_true']
  exact⟨e,by simpa using he,by simp⟩
 obtain⟨w',hs,hown⟩:=bI (P:=P) hw (es.modify i fun e=>{e with val:=ρ xo}) ck (LH _ _)
 have Us:((es.modify i fun e=>{e with val:=ρ xo}).toList.map MapEntry.born)=es.toList.map MapEntry.born:=by
  apply List.ext_getElem?;intro j
  simp only[List.getElem?_map,Array.getElem?_toList,Array.getElem?_modify]
  split
  ·cases es[j]? <;>rfl
  ·rfl
 refine⟨w',_,?_,hown,h1 _ ⟨by simp[h.len],fun j e x he hx=>?_,h.nd,by rw[Us];exact h.born,fun e he=>?_⟩⟩
 ·simp only[Instr.entryStore,Sem.run_bind,aT hw uP,Result.andThen_ok,asInt,asIntOf,Sem.run_pure]
  simp only[hi,hs]
 ·rw[Array.getElem?_modify]at he
  split at he
  ·cases h0:es[j]? with
   |none=>rw[h0]at he;simp at he
   |some e0=>
    rw[h0]at he
    simp only[Option.map_some,Option.some.injEq]at he
    subst he
    exact⟨(h.key j _ _ h0 hx).1,hv _⟩
  ·exact h.key j _ _ he hx
 ·have:e.born∈(es.modify i fun e=>{e with val:=ρ xo}).toList.map MapEntry.born:=List.mem_map_of_mem he
  rw[Us]at this
  obtain⟨e0,h1,h2⟩:=List.mem_map.1 this
  rw[←h2];exact h.lt e0 h1
end
theorem bS.out{C H:Hp}{c:Hp→Hp}(h:bS C H c)(N:Hp):aQ (c (N++C)) (N++H):=by
 obtain⟨e,F,hp⟩:=h.spec
 refine .perm ((hp (N++C)).trans ?_)
 rw[List.append_assoc]
 refine List.Perm.append_left N ?_
 have:=hp C
 rw[←e]at this
 exact this.symm
end Go.Sx
set_option maxRecDepth 100000
namespace Go.Proofs
open Go Go.Sx
open aE
section
variable {kp:Nat} {K:Kd} {ord ah tr:List Nat} {C:Hp} {S:Nat→aE.Fn}
def x8(N:eu)(r:Nat):Int:=match N r with|some d=>(d.v:Int)|none=> -1
theorem zB{N:eu}{r:Nat}(hl:live N r)(h2:∀d,N r=some d→2≤r):∃lo hi,got N r=[.int .i64 (x8 N r),u32 lo,u32 hi]∧∀e,N r=some e→lo=e.lo∧hi=e.hi:=by
 cases h:N r with
 |some d=>
  refine⟨d.lo,d.hi,?_,fun e he=>by cases he;exact⟨rfl,rfl⟩⟩
  rw[df h (h2 d h)];simp[aP,x8,h]
 |none=>
  have hr:r<2:=by
   rcases hl with hl|⟨d,hd⟩
   ·exact hl
   ·rw[h]at hd;cases hd
  refine⟨r,r,?_,fun e he=>by cases he⟩
  rw[dY hr];simp[x8,h]
theorem yJ(h:cC kp K ord ah tr C){r:Nat}(hr:r<4294967296)(hl:live K.N r)(h2:∀d,K.N r=some d→2≤r)(y:Nat):
  Rd Tryz.prog 204 #[ptr kp,u32 r,.int .i64 (y:Int)] C (· =.tuple #[u32 (pl K.N y r),u32 (ph K.N y r)]):=by
 have h0:=h
 obtain⟨b,rfl,hO⟩:=h
 obtain⟨lo,hi,hg,he⟩:=zB hl h2
 intro g
 refine DQ (R:=aA _) ?_
 unfold L204
 refine Nil.ptr (aa.mk ?_)
 refine af.rd .here (mh h0 hr) ?_
 rintro v rfl
 intro b5 _
 refine St.whole (r:=got K.N r) (by exact .head _) rfl (aG _ _).1 (aG _ _).2 ?_
 rw[hg]
 refine aa.mk (Ld.mk (by exact .head _) rfl ?_)
 refine ae.jF (Br.dec (fun e=>?_) (fun e=>?_))
 ·refine aa.mk (Ld.mk (by exact .head _) rfl ?_)
  refine aa.mk (Ld.mk (by exact .head _) rfl ?_)
  cases hN:K.N r with
  |none=>simp[x8,hN]at e<;>omega
  |some d=>
   obtain⟨rfl,rfl⟩:=he d hN
   have hv:d.v=y:=by simp[x8,hN]at e;omega
   obtain⟨e1,e2⟩:=N9 hN hv
   exact cz.mk .tail (by rw[e1,e2];rfl)
 ·obtain⟨e1,e2⟩:=Oa (N:=K.N) (y:=y) (r:=r) fun d hd=>by simp[x8,hd]at e<;>omega
  exact cz.mk .tail (by rw[e1,e2])
def ij(c:Cx):List Value:=[u32 c.r,.int .i64 (c.d.v:Int),u32 c.d.lo,u32 c.d.hi,u32 c.uW,u32 c.uV,u32 c.rF,u32 c.rE]
theorem j5(c:Cx):∀x∈ij c,x.oneCell'=true:=by intro x hx;simp[ij,u32]at hx;rcases hx with rfl|rfl|rfl|rfl|rfl|rfl|rfl|rfl<;>rfl
structure u6(N:eu)(x y:Nat)(l:List Nat)(all:List Cx):Prop where
 nd:(all.map Cx.r).Nodup
 mem:∀c,c∈all↔c.r∈l∧kW N x y c.r c.d∧c=mB N y c.r c.d
theorem u6.skip{N:eu}{x y r:Nat}{l:List Nat}{all:List Cx}{d:Nd}(h:u6 N x y l all)(hd:N r=some d)(hn:¬kW N x y r d):u6 N x y (l++[r]) all where
 nd:=h.nd
 mem:=fun c=>by
  rw[h.mem,List.mem_append]
  constructor
  ·rintro⟨h1,h2⟩;exact⟨.inl h1,h2⟩
  ·rintro⟨h1|h1,h2,h3⟩
   ·exact⟨h1,h2,h3⟩
   ·simp at h1
    have:=h2.1
    rw[h1,hd]at this;cases this
    rw[h1]at h2;exact absurd h2 hn
theorem u6.more{N:eu}{x y r:Nat}{l:List Nat}{all:List Cx}{d:Nd}(h:u6 N x y l all)(hr:r∉l)(hn:kW N x y r d):u6 N x y (l++[r]) (all++[mB N y r d]) where
 nd:=by
  rw[List.map_append]
  refine List.nodup_append.2 ⟨h.nd,by simp,fun a ha b hb e=>?_⟩
  simp[mB]at hb
  subst e
  obtain⟨c,hc,rfl⟩:=List.mem_map.1 ha
  exact hr (hb▸((h.mem c).1 hc).1)
 mem:=fun c=>by
  rw[List.mem_append,h.mem,List.mem_append,List.mem_singleton,List.mem_singleton]
  constructor
  ·rintro(⟨h1,h2⟩|rfl)
   ·exact⟨.inl h1,h2⟩
   ·exact⟨.inr rfl,hn,rfl⟩
  ·rintro⟨h1|h1,h2,h3⟩
   ·exact .inl ⟨h1,h2,h3⟩
   ·right
    have h4:=h2.1
    rw[h1,hn.1]at h4;cases h4
    exact h3.trans (by rw[h1])
theorem u6.all{N:eu}{x y:Nat}{l:List Nat}{all:List Cx}(h:u6 N x y l all)(hl:∀r d,N r=some d→d.v=x→r∈l):Gn N x y all where
 nd:=h.nd
 mem:=fun c=>by
  rw[h.mem]
  exact⟨fun h=>h.2,fun h=>⟨hl _ _ h.1.1 h.1.2.1,h⟩⟩
theorem wY(h:cC kp K ord ah tr C){r:Nat}(hl:live K.N r)(h2:∀d,K.N r=some d→2≤r){H:Hp}{c:Hp→Hp}(hh:bS C H c){g:Gh}{Q:Value→Hp→Prop}{KP:List PanicEntry→Hp→Prop}
 (hk:∀lo hi,got K.N r=[.int .i64 (x8 K.N r),u32 lo,u32 hi]→(∀e,K.N r=some e→lo=e.lo∧hi=e.hi)→Q (.agg #[.int .i64 (x8 K.N r),u32 lo,u32 hi]) H):af Tryz.prog g 174 #[ptr kp,u32 r] H Q KP:=by
 have hr:=h.lt hl
 obtain⟨lo,hi,hg,he⟩:=zB hl h2
 refine af.rd hh (mh h (by omega)) ?_
 rintro v rfl
 have:=hk lo hi hg he
 rw[hg]
 exact this
theorem xJ(h:cC kp K ord ah tr C)(hok:Ok K S (lv ah)){x y:Nat}(hx:x<K.n):
  Fc Tryz.prog 134 #[ptr kp,.int .i64 (x:Int),.int .i64 (y:Int)] C (fun r H=>∃all Na,H=Na++C∧aR 203 8 r (all.map ij) Na∧Gn K.N x y all∧all.length≤1048576):=by
 have hcap:=h.cap
 have h0:=h
 obtain⟨b,hC,hO⟩:=h
 have OH:∀d r,K.T d=some r↔K.N r=some d:=fun d r=>by rw[hok.mid.iJ];exact⟨fun h=>h.1,fun h=>⟨h,fun x=>x⟩⟩
 have two:∀{r d},K.N r=some d→2≤r:=fun hd=>(hok.mid.two hd).1
 intro g
 refine Ez (R:=aA _) ?_
 unfold L134
 rw[hC]
 refine Nil.ptr (aa.mk (aa.mk ?_))
 refine Ld.mk (v:=ptr b.pt) (by exact .head _) rfl ?_
 refine af.fn (.cons (.app .left)) (N6 hO.ut hx (fun d d' r h1 h2=>by rw[OH]at h1 h2;rw[h1]at h2;cases h2;rfl) (fun d r h1=>by have:=(hok.mid.two ((OH d r).1 h1)).2;omega)) ?_
 rintro w H ⟨sl,l,Nr,rfl,rfl,Lk,g7,hmem⟩
 refine Ext.mk rfl (Ext.mk rfl ?_)
 refine Lk.bC ?_
 rw[ak]
 have hl:∀r∈l,∃d,K.N r=some d∧d.v=x:=fun r hr=>by obtain⟨d,h1,h2⟩:=(hmem r).1 hr;exact⟨d,(OH d r).1 h1,h2⟩
 have hlen:l.length≤1048576:=by
  have:=bN (l':=List.range 1048576) g7 fun r hr=>by
   obtain⟨d,hd,_⟩:=hl r hr
   have:=(hok.mid.two hd).2
   exact List.mem_range.2 (by omega)
  simpa using this
 refine⟨fun vs H=>∃(v:Value) (i:Nat) (all:List Cx) (Na:Hp),vs=[v,.int .i64 (i:Int)]∧H=Na++(Nr++C)∧i≤l.length∧aR 203 8 v (all.map ij) Na∧u6 K.N x y (l.take i) all∧all.length≤i,
  fun vs _=>l.length-bG vs 1,JE.of (bS.out (C:=b.CT) (.cons (.app .left)) Nr) ⟨_,0,[],[],rfl,by rw[hC];rfl,Nat.zero_le _,aR.nil _ _,⟨by simp,by simp⟩,Nat.le_refl _⟩,?_⟩
 rintro w w' H ⟨v,i,all,Na,hw,rfl,hi,ho,FE,QL⟩ gs
 simp only[List.cons.injEq,and_true]at hw
 obtain⟨rfl,rfl⟩:=hw
 refine ae.eA (Br.dec (fun hlt=>?_) (fun hge=>?_))
 rotate_left
 ·have:i=l.length:=by omega
  subst this
  rw[List.take_length]at FE
  refine aA.mk (lR:=Na++C) ?_ ⟨all,Na,by rw[hC],ho,FE.all fun r d hd hv=>(hmem r).2 ⟨d,(OH d r).2 hd,hv⟩,by omega⟩
  exact aQ.dr .right Na
 obtain⟨r,Az⟩:∃r,l[i]? =some r:=⟨_,List.getElem?_eq_getElem hlt⟩
 have lO:l.take (i+1)=l.take i++[r]:=by rw[List.take_add_one,Az];rfl
 have Yg:r∉l.take i:=fun hm=>by
  have:(l.take (i+1)).Nodup:=g7.sublist (List.take_sublist _ _)
  rw[lO]at this
  exact(List.nodup_append.1 this).2.2 r hm r (by simp) rfl
 obtain⟨d,hd,nT⟩:=hl r (List.mem_of_getElem? Az)
 have SL:=hok.mid.lo hd
 have SM:=hok.mid.hi hd
 intro xW BJ
 have next:∀v' MM UK,aR 203 8 v' (MM.map ij) UK→u6 K.N x y (l.take (i+1)) MM→MM.length≤i+1→xW [v'] (UK++(Nr++C)):=fun v' MM UK h1 h2 h3=>
  BJ _ _ fun gs=>ae.aL (b:=1) (by simp[aB];omega) (aD.mk ⟨v',i+1,MM,UK,rfl,rfl,by omega,h1,h2,h3⟩ (by simp[bG];omega))
 refine Lk.ld (x:=(r:Int)) (cr Az) (fun y hy=>List.mem_append_right _ (List.mem_append_left _ hy)) ?_
 refine Nil.ptr (aa.mk ?_)
 refine wY h0 (.inr ⟨d,hd⟩) (fun _ h=>two h) (.app (.app .here)) fun lo hi hg he=>?_
 obtain⟨rfl,rfl⟩:=he d hd
 have hvr:x8 K.N r=(x:Int):=by simp[x8,hd,nT]
 rw[hvr]
 intro ME _
 refine St.whole (r:=[.int .i64 (x:Int),u32 d.lo,u32 d.hi]) (by exact .head _) rfl rfl (by intro z hz;simp[u32]at hz;rcases hz with rfl|rfl|rfl<;>rfl) ?_
 obtain⟨H0,O7⟩:∃H0,H0=(ME,Obj.cells #[.int .i64 (x:Int),u32 d.lo,u32 d.hi] 161 (0,0))::(Na++(Nr++C)):=⟨_,rfl⟩
 have hEq:((ME,Obj.cells [Value.int .i64 (x:Int),u32 d.lo,u32 d.hi].toArray 161 (0,0))::(Na++(Nr++C)))=H0:=O7.symm
 rw[hEq]
 intro yf WO
 have skip:¬kW K.N x y r d→yf [.bool true] H0:=fun hn=>WO _ _ fun gs=>Br.yes (JE.of (by rw[O7];exact .tail) (next w all Na ho (by rw[lO];exact FE.skip hd hn) (by omega)))
 have take:kW K.N x y r d→yf [.bool false] H0:=fun hn=>by
  refine WO _ _ fun gs=>Br.no ?_
  rw[O7]
  refine aC.whole (r:=[.int .i64 (x:Int),u32 d.lo,u32 d.hi]) (by exact .head _) rfl ?_
  refine Build.mk (cs:=ij ⟨r,⟨x,d.lo,d.hi⟩,0,0,0,0⟩) (by kernel_rfl) ?_
  intro MD _
  refine St.whole (r:=ij ⟨r,⟨x,d.lo,d.hi⟩,0,0,0,0⟩) (by exact .head _) rfl rfl (j5 _) ?_
  refine aa.mk (Ld.mk (by exact .tail _ (.head _)) rfl ?_)
  refine af.rd (.cons (.cons (.app (.app .here)))) (yJ h0 (by have:=h0.lt SL;omega) SL (fun _ h=>two h) y) ?_
  rintro w rfl
  refine Ext.mk rfl (Ext.mk rfl ?_)
  refine aa.mk (St.one (by exact .head _) rfl (by simp[ij]) rfl ?_)
  refine aa.mk (St.one (by exact .head _) rfl (by simp[ij]) rfl ?_)
  refine aa.mk (Ld.mk (by exact .tail _ (.head _)) rfl ?_)
  refine af.rd (.cons (.cons (.app (.app .here)))) (yJ h0 (by have:=h0.lt SM;omega) SM (fun _ h=>two h) y) ?_
  rintro w rfl
  refine Ext.mk rfl (Ext.mk rfl ?_)
  refine aa.mk (St.one (by exact .head _) rfl (by simp[ij]) rfl ?_)
  refine aa.mk (St.one (by exact .head _) rfl (by simp[ij]) rfl ?_)
  have cV:d=⟨x,d.lo,d.hi⟩:=by cases d;simp at nT;subst nT;rfl
  have hcell:ij (mB K.N y r d)=[u32 r,.int .i64 (x:Int),u32 d.lo,u32 d.hi,u32 (pl K.N y d.lo),u32 (ph K.N y d.lo),u32 (pl K.N y d.hi),u32 (ph K.N y d.hi)]:=by
   simp[ij,mB,nT]
  refine aC.whole (r:=ij (mB K.N y r d)) (by rw[hcell];exact .head _) rfl ?_
  refine av.one (e:=203) (z:=.agg #[.int .u32 0,.int .i64 0,.int .u32 0,.int .u32 0,.int .u32 0,.int .u32 0,.int .u32 0,.int .u32 0]) (k:=8) (r:=ij (mB K.N y r d)) (by kernel_rfl) (by kernel_rfl) (by kernel_rfl) (by decide) rfl fun xb=>?_
  refine ho.oK (.cons (.cons (.cons .left))) (by exact .head _) rfl (j5 _) ⟨_,rfl,rfl⟩ (by simp;omega) (by simp;omega) fun v' UK cI=>?_
  refine JE.of (.skip (.skip .tail)) (next v' (all++[mB K.N y r d]) UK (by rw[List.map_append];exact cI) (by rw[lO];exact FE.more Yg hn) (by simp;omega))
 refine DR.of (R:=[(ME,Obj.cells #[.int .i64 (x:Int),u32 d.lo,u32 d.hi] 161 (0,0))]) (by rw[O7];exact .left (A:=[_])) ?_
 refine Nil.ptr (aa.mk (aa.mk (Ld.mk (by exact .head _) rfl ?_)))
 have heR:aQ H0 [(ME,Obj.cells #[.int .i64 (x:Int),u32 d.lo,u32 d.hi] 161 (0,0))]:=by rw[O7];exact .left (A:=[_])
 intro F
 rw[O7]
 refine wY h0 SL (fun _ h=>two h) (.cons (.app (.app .here))) fun lo1 V3 hg1 Jg=>?_
 rw[←O7]
 refine⟨heR,Gl.mk rfl (ae.dO (Br.dec (fun hne=>?_) (fun he=>?_)))⟩
 ·refine Nil.ptr (aa.mk (aa.mk (Ld.mk (by exact .head _) rfl ?_)))
  intro F2
  rw[O7]
  refine wY h0 SM (fun _ h=>two h) (.cons (.app (.app .here))) fun lo2 FC QB QC=>?_
  rw[←O7]
  refine⟨heR,Gl.mk rfl (ae.dO (aF.mk ?_))⟩
  by_cases e2:x8 K.N d.hi=(y:Int)
  ·rw[decide_eq_false (by simpa using e2)]
   refine JE.mk (take ⟨hd,nT,.inr ?_⟩)
   cases hN:K.N d.hi with
   |none=>simp[x8,hN]at e2<;>omega
   |some f=>exact⟨f,rfl,by simp[x8,hN]at e2;omega⟩
  ·rw[decide_eq_true (by simpa using e2)]
   refine JE.mk (skip ?_)
   rintro⟨_,_,⟨f,hf,LA⟩|⟨f,hf,LA⟩⟩
   ·exact hne (by simp[x8,hf,LA])
   ·exact e2 (by simp[x8,hf,LA])
 ·have e1:x8 K.N d.lo=(y:Int):=by simpa using he
  refine JE.mk (take ⟨hd,nT,.inl ?_⟩)
  cases hN:K.N d.lo with
  |none=>simp[x8,hN]at e1<;>omega
  |some f=>exact⟨f,rfl,by simp[x8,hN]at e1;omega⟩
end
end Go.Proofs
set_option maxRecDepth 100000
namespace Go.Proofs
open Go Go.Sx
open aE
section
def YQ:Value→Int
 | .int _ z=>z
 |_=>0
abbrev YU(v:Value)(z:Int):Prop:=v=.int .i64 z
def tP(es:Array MapEntry)(ck:Nat)(ks:List Nd):Prop:=∃m:List (Nd×Int),aM nK YU es ck m∧m.map Prod.fst=ks
theorem tP.empty:tP #[] 0 []:=⟨[],aM.empty,rfl⟩
theorem tP.of{es:Array MapEntry}{ck:Nat}{m:List (Nd×Int)}(h:aM nK (fun v _=>∃z,v=.int .i64 z) es ck m):tP es ck (m.map Prod.fst):=by
 have hlen:es.toList.length=m.length:=by simpa using h.len
 have hz:((es.toList.zip m).map fun p=>((p.2.1,YQ p.1.val):Nd×Int)).map Prod.fst=m.map Prod.fst:=by
  rw[List.map_map]
  have:(Prod.fst∘fun(p:MapEntry×(Nd×Int))=>((p.2.1,YQ p.1.val):Nd×Int))=Prod.fst∘Prod.snd:=rfl
  rw[this,←List.map_map,List.map_snd_zip (by omega)]
 refine⟨_,⟨?_,fun i e x he hx=>?_,by rw[hz];exact h.nd,h.born,h.lt⟩,hz⟩
 ·simp[h.len]
 ·have hi:=(Array.getElem?_eq_some_iff.1 he).1
  have FC:i<m.length:=by rw[←h.len];exact hi
  have hm:m[i]? =some m[i]:=List.getElem?_eq_getElem FC
  obtain⟨h1,z,h2⟩:=h.key i e _ he hm
  have hx':x=(m[i].1,YQ e.val):=by
   have e1:es.toList[i]? =some e:=by rw[Array.getElem?_toList];exact he
   rw[List.getElem?_map,(List.getElem?_zip_eq_some (z:=(e,m[i]))).2 ⟨e1,hm⟩]at hx
   simpa using hx.symm
  subst hx'
  exact⟨h1,by rw[h2];rfl⟩
theorem Own.sub{g:Gh}{H:Hp}{w:World}(h:Own g H w){y:Nat×Obj}(hy:y∈H):Own g [y] w:=by
 obtain⟨X,Y,rfl⟩:=List.append_of_mem hy
 exact(h.perm List.perm_middle).left (A:=[y])
noncomputable abbrev FF:Func:=Tryz.f136
theorem six{i:Nat}(hi:i<6):¬KF .any (nC FF 10) i 6:=fun h=>by
 have e6:(nC FF 10)[6]? =some (fR FF 10 6):=by kernel_rfl
 have:=h _ e6
 have hm:(⟨i,.phase⟩:Edge)∈(fR FF 10 6).after:=by
  have ea:(fR FF 10 6).after=#[⟨0,.data⟩,⟨5,.data⟩,⟨3,.data⟩,⟨4,.chain⟩,⟨0,.phase⟩,⟨1,.phase⟩,⟨2,.phase⟩,⟨3,.phase⟩,⟨4,.phase⟩,⟨5,.phase⟩]:=by kernel_rfl
  rw[ea]
  rcases i with _|_|_|_|_|_|i
  all_goals first|omega|simp
 exact this _ hm rfl rfl
end
section
def FU(ops:Array Oper)(listed:Array Bool):Bool:=(List.range ops.size).all fun j=>match ops[j]? with
 |some oj=> !listed.getD j true||oj.after.toList.all fun e=> !Region.binds .any e||listed.getD e.on true
 |none=>true
theorem fZ{ops:Array Oper}{listed:Array Bool}(h:FU ops listed=true):eM .any ops listed:=by
 intro j oj hj hl e he hb
 unfold FU at h
 have h1:=List.all_eq_true.1 h j (List.mem_range.2 (Array.getElem?_eq_some_iff.1 hj).1)
 simp only[hj,hl,Bool.not_true,Bool.false_or]at h1
 have h2:=List.all_eq_true.1 h1 e (Array.mem_toList_iff.2 he)
 rw[hb]at h2
 simpa using h2
theorem OE{g:Gh}{mb nb:Nat}{es:Array MapEntry}{ck:Nat}{ks:List Nd}{d:Nd}(hmk:tP es ck ks){c:Obj→Hp}(LH:∀o o',dR mb o o' (c o) (c o'))(Wj:∀o,(nb,Obj.cells (aP d).toArray 161 (0,0))∈c o){K:Hp→Prop}
 (hk:∀es' ct,tP es' ct (if d∈ks then ks else ks++[d])→K (c (.map es' ct))):
  TD Tryz.prog g 10 (nC FF 10) [7,11] [.map (some mb),ptr nb] (c (.map es ck)) K:=by
 have hm:(mb,Obj.map es ck)∈c (.map es ck):=(LH _ (.map es ck)).mem
 have hn:=Wj (.map es ck)
 obtain⟨m,hE,rfl⟩:=hmk
 intro a w hok hvs hw
 simp only[List.map_cons,List.map_nil,List.cons.injEq,and_true]at hvs
 obtain⟨h7,h11⟩:=hvs
 obtain⟨n,Yj⟩:∃n,n=a.tmps.size:=⟨_,rfl⟩
 obtain⟨fr,hfr⟩:∃fr:Fr,fr=fun s=>a.tmps.getD s undef:=⟨_,rfl⟩
 have ha:cg a.defers n a fr:=⟨rfl,Yj.symm,fun s=>by rw[hfr]⟩
 have f7:fr 7=.map (some mb):=by rw[hfr];exact h7
 have f11:fr 11=ptr nb:=by rw[hfr];exact h11
 rw[←Yj]at hok
 have eok:ia n (nC FF 10).toList=(Nat.blt 58 n&& (Nat.blt 59 n&& (Nat.blt 60 n&& (Nat.blt 61 n&& (Nat.blt 62 n&& (Nat.blt 63 n&& (true&&true))))))):=by kernel_rfl
 rw[eok]at hok
 simp only[Bool.and_eq_true,Bool.and_true]at hok
 obtain⟨k58,k59,k60,k61,k62,k63⟩:=hok
 refine wp_region_any (by kernel_rfl) ?_
 obtain⟨z0,Hv⟩:∃z0:Int,z0=(c9 m d).getD 0:=⟨_,rfl⟩
 obtain⟨S0,Nq⟩:∃S0:World→Prop,S0=fun w=>Own g [(nb,Obj.cells (aP d).toArray 161 (0,0))] w∧(Instr.lookup 285 (.map (some mb)) (nK d) false).run Tryz.prog w=.ok (.int .i64 z0) w:=⟨_,rfl⟩
 have look:∀{es':Array MapEntry} {ct:Nat} {m':List (Nd×Int)} {H':Hp} {w':World},aM nK YU es' ct m'→(mb,Obj.map es' ct)∈H'→Own g H' w'→(c9 m' d).getD 0=z0→(Instr.lookup 285 (.map (some mb)) (nK d) false).run Tryz.prog w'=.ok (.int .i64 z0) w':=by
  intro es' ct m' H' w' h1 h2 h3 h4
  have hL:je Tryz.prog 161 (.int .i64 0) false H' (.map (some mb)) (nK d) (· =.int .i64 z0):=by
   cases hg:c9 m' d with
   |some z=>exact aM.BG (ke:=nK) (k:=d) o9 kO h1 h2 hg (by rintro v rfl;rw[hg]at h4;simp at h4;rw[h4];rfl)
   |none=>exact aM.sP (ke:=nK) (k:=d) o9 kO h1 h2 hg (by rw[hg]at h4;simp at h4;rw[←h4];rfl)
  obtain⟨v,hr,rfl⟩:=hL.run (P:=Tryz.prog) h3 (t:=285) (kt:=161) (e:=3) (kd:=.struct (Tryz.prog.fieldsOf 161)) (i:=(Tryz.prog.info? 3).get (by kernel_rfl)) (by kernel_rfl) Fm rfl (by kernel_rfl) (by kernel_rfl)
  exact hr
 have Bz:=hw.vW
 have s0:S0 {w with drawn:=w.drawn+1}:=by rw[Nq];exact⟨Own.sub Bz hn,look hE hm Bz Hv.symm⟩
 have Wz:∀{o:Oper} {v:Value} (c:List PanicEntry) (a':Act) (w':World),(fun(e:Exit) (a':Act) (w':World)=>e=.normal∧a'.defers=a.defers∧a'.tmps.size=a.tmps.size∧(∀s,bD (nC FF 10).toList s=false→a'.tmps.getD s undef=a.tmps.getD s undef)∧∃H',Own g H' w'∧K H') (.panic c) (a'.put o.dst v) w'→
   (fun(e:Exit) (a':Act) (w':World)=>e=.normal∧a'.defers=a.defers∧a'.tmps.size=a.tmps.size∧(∀s,bD (nC FF 10).toList s=false→a'.tmps.getD s undef=a.tmps.getD s undef)∧∃H',Own g H' w'∧K H') (.panic c) a' w':=by
  rintro _ _ _ _ _ ⟨h,_⟩;cases h
 have hsel:Region.noSelect (nC FF 10)=true:=by kernel_rfl
 have hkeep:∀i,i<6→∀(j:Nat) (oj:Oper) (w w':World),(nC FF 10)[j]? =some oj→j≠i→¬mL .any (nC FF 10) i j→S0 w→(j≠6→S0 w→S0 w')→S0 w':=fun i hi j oj w w' _ _ hno h0 hs=>by
  by_cases e:j=6
  ·subst e;exact absurd (fun oj ir e he hb heq=>hno (.one ir he hb heq)) (six hi)
  ·exact hs e h0
 refine cU.any (S:=fun j w w'=>j≠6→S0 w→S0 w') ?_
 have hsz:(nC FF 10).size=7:=by kernel_rfl
 rw[hsz]
 refine cU.take (fZ (by kernel_rfl)) (S0:=S0) (i:=0) (oi:=fR FF 10 0) (v:=.map (some mb)) (by kernel_rfl) hsel (by kernel_rfl) (by kernel_rfl) Wz (fun _ h _ _=>h) (hkeep 0 (by decide)) (.inl ⟨rfl,fun w hw=>?_⟩) s0 ?_
 ·rw[ha.eval];have:(execOp (ev fr) (fR FF 10 0))=pure (.value (fr 7)):=rfl
  rw[this,f7];rfl
 have FI:=ha.put (d:=some 58) k58 (.map (some mb))
 change cU _ _ _ _ _ 6 _ (a.put (some 58) (.map (some mb))) _
 refine cU.take (fZ (by kernel_rfl)) (S0:=S0) (i:=1) (oi:=fR FF 10 1) (v:=nK d) (by kernel_rfl) hsel (by kernel_rfl) (by kernel_rfl) Wz (fun _ h _ _=>h) (hkeep 1 (by decide)) (.inl ⟨rfl,fun w hw=>?_⟩) s0 ?_
 ·rw[FI.eval]
  have e:Av Tryz.prog g (fR FF 10 1) (ev (bY fr (some 58) (.map (some mb)))) [(nb,Obj.cells (aP d).toArray 161 (0,0))] (fun v=>v=nK d)=aC 3 [(nb,Obj.cells (aP d).toArray 161 (0,0))] (fr 11) (fun v=>v=nK d):=by kernel_rfl
  obtain⟨v,rfl,hr,_⟩:=mY (e.mpr (by rw[f11];exact aC.whole (r:=aP d) (.head _) rfl rfl))
  rw[Nq]at hw
  exact hr _ hw.1
 have AA:=FI.put (d:=some 59) k59 (nK d)
 change cU _ _ _ _ _ 5 _ ((a.put (some 58) (.map (some mb))).put (some 59) (nK d)) _
 refine cU.take (fZ (by kernel_rfl)) (S0:=S0) (i:=2) (oi:=fR FF 10 2) (v:=.int .i64 z0) (by kernel_rfl) hsel (by kernel_rfl) (by kernel_rfl) Wz (fun _ h _ _=>h) (hkeep 2 (by decide)) (.inl ⟨rfl,fun w hw=>?_⟩) s0 ?_
 ·rw[AA.eval]
  have e:execOp (ev (bY (bY fr (some 58) (.map (some mb))) (some 59) (nK d))) (fR FF 10 2)=(do pure (.value (←Instr.lookup 285 (.map (some mb)) (nK d) false))):=rfl
  rw[Nq]at hw
  rw[e]
  simp only[Sem.run_bind,hw.2,Result.andThen_ok,Sem.run_pure]
 have HI:=AA.put (d:=some 60) k60 (.int .i64 z0)
 change cU _ _ _ _ _ 4 _ (((a.put (some 58) (.map (some mb))).put (some 59) (nK d)).put (some 60) (.int .i64 z0)) _
 refine cU.take (fZ (by kernel_rfl)) (S0:=S0) (i:=3) (oi:=fR FF 10 3) (v:=.int .i64 (IntKind.i64.wrap (z0+1))) (by kernel_rfl) hsel (by kernel_rfl) (by kernel_rfl) Wz (fun _ h _ _=>h) (hkeep 3 (by decide)) (.inl ⟨rfl,fun w hw=>?_⟩) s0 ?_
 ·rw[HI.eval]
  have e:Av Tryz.prog g (fR FF 10 3) (ev (bY (bY (bY fr (some 58) (.map (some mb))) (some 59) (nK d)) (some 60) (.int .i64 z0))) [(nb,Obj.cells (aP d).toArray 161 (0,0))] (fun v=>v=.int .i64 (IntKind.i64.wrap (z0+1)))=ae .num .add (.int .i64 z0) (.int .i64 1) (fun v=>v=.int .i64 (IntKind.i64.wrap (z0+1))):=by kernel_rfl
  obtain⟨v,rfl,hr,_⟩:=mY (e.mpr (ae.add rfl))
  rw[Nq]at hw
  exact hr _ hw.1
 have O0:=HI.put (d:=some 61) k61 (.int .i64 (IntKind.i64.wrap (z0+1)))
 change cU _ _ _ _ _ 3 _ ((((a.put (some 58) (.map (some mb))).put (some 59) (nK d)).put (some 60) (.int .i64 z0)).put (some 61) (.int .i64 (IntKind.i64.wrap (z0+1)))) _
 generalize (((a.put (some 58) (.map (some mb))).put (some 59) (nK d)).put (some 60) (.int .i64 z0)).put (some 61) (.int .i64 (IntKind.i64.wrap (z0+1)))=a4 at O0
 refine cU.all (rs:=[4]) (by kernel_rfl) (by simp) fun i hi=>?_
 simp only[List.mem_singleton]at hi
 subst hi
 have e4:(nC FF 10)[4]? =some (fR FF 10 4):=by kernel_rfl
 unfold wpOp
 rw[e4]
 simp only
 rw[if_pos (show Region.wanted (fR FF 10 4) (yielded (nC FF 10) a4.tmps)=true from rfl)]
 refine .inl ?_
 show(fR FF 10 4).upon Tryz.prog a4 _ _ ((execOp a4.eval (fR FF 10 4)).run Tryz.prog _)
 rw[O0.eval]
 refine mQ.upon (g:=g) (KP:=fun _ _=>False) (aM.Pu (K:=fun v H'=>∃es' ct v0 st,aM nK YU es' ct (if d∈m.map Prod.fst then m else m++[(d,0)])∧(∃e∈es'.toList,e.born=st)∧H'=c (.map es' ct)∧v=.tuple #[v0,.int .i64 (st:Int)])
  (t:=285) (kt:=161) (e:=3) (z:=.int .i64 0) (k:=d) (y0:=(0:Int)) o9 kO Fp (o:=fR FF 10 4) (mo:=.tmp 58) (ko:=.tmp 59) rfl rfl rfl (by kernel_rfl) Fm rfl (by kernel_rfl) rfl hE LH
  (fun es' ct v st h1 h2=>⟨es',ct,v,st,h1,h2,rfl,rfl⟩) _ Bz) ?_ (fun _ _ _ _ h=>h.elim)
 rintro v H1 w1 jJ ⟨nJ,lP,v0,st,QW,hst,rfl,rfl⟩
 have um:(nb,Obj.cells (aP d).toArray 161 (0,0))∈c (.map nJ lP):=Wj _
 have yb:(mb,Obj.map nJ lP)∈c (.map nJ lP):=(LH _ (.map nJ lP)).mem
 have s1:S0 w1:=by
  rw[Nq]
  refine⟨Own.sub jJ um,look QW yb jJ ?_⟩
  rw[Hv]
  split
  ·rfl
  ·rename_i cV
   have e1:=gB.2 cV
   have e2:c9 (m++[(d,0)]) d=some 0:=(fT (by
    have:=QW.nd;rw[if_neg cV]at this;exact this)).2 (by simp)
   rw[e1,e2];rfl
 refine⟨fun _ _=>s1,?_⟩
 have OZ:=O0.put (d:=some 62) k62 (.tuple #[v0,.int .i64 (st:Int)])
 change cU _ _ _ _ _ 2 _ (a4.put (some 62) (.tuple #[v0,.int .i64 (st:Int)])) _
 generalize a4.put (some 62) (.tuple #[v0,.int .i64 (st:Int)])=a5 at OZ
 refine cU.take (fZ (by kernel_rfl)) (S0:=S0) (i:=5) (oi:=fR FF 10 5) (v:=.int .i64 (st:Int)) (by kernel_rfl) hsel (by kernel_rfl) (by kernel_rfl) Wz (fun _ h _ _=>h) (hkeep 5 (by decide)) (.inl ⟨rfl,fun w hw=>?_⟩) s1 ?_
 ·rw[OZ.eval]
  obtain⟨v,rfl,hr,_⟩:=mY (P:=Tryz.prog) (g:=g) (o:=fR FF 10 5) (H:=[(nb,Obj.cells (aP d).toArray 161 (0,0))]) (k:=fun v=>v=.int .i64 (st:Int))
   (ρ:=ev (bY (bY (bY (bY (bY fr (some 58) (.map (some mb))) (some 59) (nK d)) (some 60) (.int .i64 z0)) (some 61) (.int .i64 (IntKind.i64.wrap (z0+1)))) (some 62) (.tuple #[v0,.int .i64 (st:Int)]))) ⟨_,_,rfl,rfl,rfl⟩
  rw[Nq]at hw
  exact hr _ hw.1
 have OY:=OZ.put (d:=some 63) k63 (.int .i64 (st:Int))
 change cU _ _ _ _ _ 1 _ (a5.put (some 63) (.int .i64 (st:Int))) _
 generalize a5.put (some 63) (.int .i64 (st:Int))=a6 at OY
 refine cU.all (rs:=[6]) (by kernel_rfl) (by simp) fun i hi=>?_
 simp only[List.mem_singleton]at hi
 subst hi
 have e6:(nC FF 10)[6]? =some (fR FF 10 6):=by kernel_rfl
 unfold wpOp
 rw[e6]
 simp only
 rw[if_pos (show Region.wanted (fR FF 10 6) (yielded (nC FF 10) a6.tmps)=true from rfl)]
 refine .inl ?_
 show(fR FF 10 6).upon Tryz.prog a6 _ _ ((execOp a6.eval (fR FF 10 6)).run Tryz.prog _)
 rw[OY.eval]
 refine mQ.upon (g:=g) (KP:=fun _ _=>False) (aM.NV (vr:=fun v _=>∃z:Int,v=.int .i64 z) (K:=fun _ H'=>∃es',aM nK (fun v _=>∃z:Int,v=.int .i64 z) es' lP (if d∈m.map Prod.fst then m else m++[(d,0)])∧H'=c (.map es' lP))
  (o:=fR FF 10 6) (t:=285) (mo:=.tmp 58) (so:=.tmp 63) (xo:=.tmp 61) rfl rfl rfl (QW.mono fun v z h=>⟨z,h⟩) hst (fun _=>⟨_,rfl⟩) LH
  (fun es' h1=>⟨es',h1,rfl⟩) _ jJ) ?_ (fun _ _ _ _ h=>h.elim)
 rintro v H2 w2 pA ⟨mz,vQ,rfl⟩
 refine⟨fun h=>absurd rfl h,?_⟩
 have Uv:cg a.defers n a6 _:=OY
 change cU _ _ _ _ _ 0 _ a6 _
 refine cU.done (by kernel_rfl) ⟨rfl,Uv.defers,by rw[Uv.size,Yj],fun s hs=>?_,_,pA,hk mz lP ?_⟩ 0
 ·have eD:bD (nC FF 10).toList s=(Nat.beq s 58||(Nat.beq s 59||(Nat.beq s 60||(Nat.beq s 61||(Nat.beq s 62||(Nat.beq s 63||(false||false))))))):=by kernel_rfl
  rw[eD]at hs
  simp only[Bool.or_eq_false_iff]at hs
  rw[Uv.get]
  simp only[bY,hs,cond_false]
  rw[hfr]
 ·have:=tP.of vQ
  have e:(if d∈m.map Prod.fst then m else m++[(d,(0:Int))]).map Prod.fst=if d∈m.map Prod.fst then m.map Prod.fst else m.map Prod.fst++[d]:=by
   split<;>simp
  rw[e]at this
  exact this
end
section
variable {kp:Nat} {K:Kd} {ord ah tr:List Nat} {C:Hp} {S:Nat→aE.Fn}
theorem Ms{H:Hp}(a b:Nd){K:Value→Hp→Prop}(h:∀x,K (.slice (some ⟨x,0,none⟩) 2 2) ((x,.cells (rows [aP a,aP b]) 161 (0,0))::H)):
  av Tryz.prog 286 2 [(0,nK a),(1,nK b)] H K:=by
 refine⟨rows [aP a,aP b],161,3,.agg #[.int .i64 0,.int .u32 0,.int .u32 0],by kernel_rfl,by kernel_rfl,by kernel_rfl,by decide,?_,fun x _=>h x⟩
 have e1:Array.range (2*3)=#[0,1,2,3,4,5]:=rfl
 simp[Instr.fill,Value.cells,nK,aP,e1,rows,u32]
def gH(K:Kd)(x:Nat)(l:List Cx)(ks:List Nd)(m:List Nd):Prop:=m.Nodup∧∀k,k∈m↔((∃c∈l,k∈keys x c)∨k∈ks)∧K.T k=none∧k.lo≠k.hi
theorem gH.step{x:Nat}{l:List Cx}{ks m:List Nd}{d:Nd}(h:gH K x l ks m)(hd:K.T d=none∧d.lo≠d.hi):gH K x l (ks++[d]) (if d∈m then m else m++[d]):=by
 obtain⟨h1,h2⟩:=h
 constructor
 ·split
  ·exact h1
  ·rename_i hn
   exact List.nodup_append.2 ⟨h1,by simp,fun a ha b hb e=>by simp at hb;subst hb;subst e;exact hn ha⟩
 ·intro k
  by_cases hm:d∈m
  ·rw[if_pos hm,h2,List.mem_append,List.mem_singleton]
   constructor
   ·rintro⟨h3|h3,h4⟩
    ·exact⟨.inl h3,h4⟩
    ·exact⟨.inr (.inl h3),h4⟩
   ·rintro⟨h3|h3|rfl,h4⟩
    ·exact⟨.inl h3,h4⟩
    ·exact⟨.inr h3,h4⟩
    ·exact(h2 _).1 hm
  ·rw[if_neg hm,List.mem_append,List.mem_singleton,h2,List.mem_append,List.mem_singleton]
   constructor
   ·rintro(⟨h3|h3,h4⟩|rfl)
    ·exact⟨.inl h3,h4⟩
    ·exact⟨.inr (.inl h3),h4⟩
    ·exact⟨.inr (.inr rfl),hd⟩
   ·rintro⟨h3|h3|rfl,h4⟩
    ·exact .inl ⟨.inl h3,h4⟩
    ·exact .inl ⟨.inr h3,h4⟩
    ·exact .inr rfl
theorem gH.skip{x:Nat}{l:List Cx}{ks m:List Nd}{d:Nd}(h:gH K x l ks m)(hd:¬(K.T d=none∧d.lo≠d.hi)):gH K x l (ks++[d]) m:=by
 obtain⟨h1,h2⟩:=h
 refine⟨h1,fun k=>?_⟩
 rw[h2,List.mem_append,List.mem_singleton]
 constructor
 ·rintro⟨h3|h3,h4⟩
  ·exact⟨.inl h3,h4⟩
  ·exact⟨.inr (.inl h3),h4⟩
 ·rintro⟨h3|h3|rfl,h4⟩
  ·exact⟨.inl h3,h4⟩
  ·exact⟨.inr h3,h4⟩
  ·exact absurd h4 hd
theorem gH.wE{x:Nat}{l:List Cx}{c:Cx}{m:List Nd}(h:gH K x l (keys x c) m):gH K x (l++[c]) [] m:=by
 obtain⟨h1,h2⟩:=h
 refine⟨h1,fun k=>?_⟩
 rw[h2]
 constructor
 ·rintro⟨⟨c',hc,hk⟩|h3,h4⟩
  ·exact⟨.inl ⟨c',List.mem_append_left _ hc,hk⟩,h4⟩
  ·exact⟨.inl ⟨c,by simp,h3⟩,h4⟩
 ·rintro⟨⟨c',hc,hk⟩|h3,h4⟩
  ·rcases List.mem_append.1 hc with hc|hc
   ·exact⟨.inl ⟨c',hc,hk⟩,h4⟩
   ·simp at hc;subst hc;exact⟨.inr hk,h4⟩
  ·cases h3
theorem L9(h:cC kp K ord ah tr C){x:Nat}(hx:x<K.n){v:Value}{all:List Cx}{Na:Hp}(ha:aR 203 8 v (all.map ij) Na)(hlen:all.length≤1048576):
  Rd Tryz.prog 136 #[ptr kp,.int .i64 (x:Int),v] (Na++C) (fun r=>∃made,r=.int .i64 ((made.length:Nat):Int)∧Made K x all made):=by
 have h0:=h
 obtain⟨b,hC,hO⟩:=h
 intro g
 refine Ex (R:=aA _) ?_
 unfold L136
 intro mb _
 refine ha.bC ?_
 rw[List.length_map]
 refine⟨fun vs H=>∃(i:Nat) (es:Array MapEntry) (ck:Nat) (m:List Nd),vs=[.int .i64 (i:Int)]∧H=(mb,.map es ck)::(Na++C)∧i≤all.length∧tP es ck m∧gH K x (all.take i) [] m,
  fun vs _=>all.length-bG vs 0,JE.mk ⟨0,_,_,[],rfl,rfl,Nat.zero_le _,tP.empty,by simp,by simp⟩,?_⟩
 rintro w H ⟨i,es,ck,m,hw,rfl,hi,hmk,ON⟩ gs
 simp only[List.cons.injEq,and_true]at hw
 subst hw
 refine ae.eA (Br.dec (fun hlt=>?_) (fun hge=>?_))
 rotate_left
 ·have:i=all.length:=by omega
  subst this
  rw[List.take_length]at ON
  obtain⟨m',he,rfl⟩:=hmk
  refine aM.RR he (.head _) ?_
  refine cz.mk .tail ⟨m'.map Prod.fst,by rw[List.length_map],ON.1,fun k=>?_⟩
  rw[ON.2]
  constructor
  ·rintro⟨h3|h3,h4⟩
   ·exact⟨h3,h4⟩
   ·cases h3
  ·rintro⟨h3,h4⟩;exact⟨.inl h3,h4⟩
 obtain⟨c,qS⟩:∃c,all[i]? =some c:=⟨_,List.getElem?_eq_getElem hlt⟩
 have lO:all.take (i+1)=all.take i++[c]:=by rw[List.take_add_one,qS];rfl
 refine ha.Ft (r:=ij c) (by rw[List.getElem?_map,qS];rfl) (fun y hy=>.tail _ (List.mem_append_left _ hy)) ?_
 intro Ab _
 refine St.whole (r:=ij c) (by exact .head _) rfl rfl (j5 _) ?_
 refine aa.mk (Ld.mk (by exact .head _) rfl ?_)
 refine aa.mk (Ld.mk (by exact .head _) rfl ?_)
 refine Build.mk (cs:=aP ⟨x,c.uW,c.rF⟩) (by kernel_rfl) ?_
 refine aa.mk (Ld.mk (by exact .head _) rfl ?_)
 refine aa.mk (Ld.mk (by exact .head _) rfl ?_)
 refine Build.mk (cs:=aP ⟨x,c.uV,c.rE⟩) (by kernel_rfl) ?_
 refine Ms _ _ fun xb=>?_
 refine aY.mk ?_
 refine⟨fun vs H=>∃(j:Nat) (es:Array MapEntry) (ck:Nat) (m:List Nd),vs=[.int .i64 (j:Int)]∧H=(xb,.cells (rows [aP ⟨x,c.uW,c.rF⟩,aP ⟨x,c.uV,c.rE⟩]) 161 (0,0))::(mb,.map es ck)::(Na++C)∧j≤2∧tP es ck m∧gH K x (all.take i) ((keys x c).take j) m,
  fun vs _=>2-bG vs 0,JE.of (.cons .tail) ⟨0,es,ck,m,rfl,rfl,Nat.zero_le _,hmk,ON⟩,?_⟩
 clear hmk ON
 rintro w H ⟨j,es,ck,m,hw,rfl,hj,hmk,ON⟩ gs
 simp only[List.cons.injEq,and_true]at hw
 subst hw
 refine ae.eA (b:=2) (Br.dec (fun oC=>?_) (fun hge=>?_))
 rotate_left
 ·have:j=2:=by omega
  subst this
  refine ae.aL (b:=1) (by simp[aB];omega) ?_
  refine aD.of .tail ⟨i+1,es,ck,m,rfl,rfl,by omega,hmk,?_⟩ (by simp[bG];omega)
  rw[lO]
  exact gH.wE ON
 obtain⟨d,FD,nT⟩:∃d,(keys x c)[j]? =some d∧d.v=x:=by
  rcases j with _|_|j
  ·exact⟨_,rfl,rfl⟩
  ·exact⟨_,rfl,rfl⟩
  ·omega
 have htj:(keys x c).take (j+1)=(keys x c).take j++[d]:=by rw[List.take_add_one,FD];rfl
 have hrow:[aP ⟨x,c.uW,c.rF⟩,aP ⟨x,c.uV,c.rE⟩][j]? =some (aP d):=by
  have:[aP ⟨x,c.uW,c.rF⟩,aP ⟨x,c.uV,c.rE⟩]=(keys x c).map aP:=rfl
  rw[this,List.getElem?_map,FD];rfl
 intro XI aa5
 have next:∀es' ct m' H',tP es' ct m'→gH K x (all.take i) ((keys x c).take (j+1)) m'→aQ H' ((xb,.cells (rows [aP ⟨x,c.uW,c.rF⟩,aP ⟨x,c.uV,c.rE⟩]) 161 (0,0))::(mb,.map es' ct)::(Na++C))→JE XI [] H':=fun es' ct m' H' h1 h2 h3=>
  JE.mk (aa5 _ fun gs=>ae.aL (b:=1) (by simp[aB];omega) (aD.of h3 ⟨j+1,es',ct,m',rfl,rfl,by omega,h1,h2⟩ (by simp[bG];omega)))
 refine ai.nat oC ?_
 have hmem:(xb,Obj.cells (rows [aP ⟨x,c.uW,c.rF⟩,aP ⟨x,c.uV,c.rE⟩]) 161 (0,0))∈(xb,Obj.cells (rows [aP ⟨x,c.uW,c.rF⟩,aP ⟨x,c.uV,c.rE⟩]) 161 (0,0))::(mb,.map es ck)::(Na++C):=.head _
 refine aC.row (k:=3) hmem (by simp[aP]) hrow ?_
 intro Ty _
 refine St.whole (r:=aP d) (by exact .head _) rfl rfl (fun z hz=>by simp[aP,u32]at hz;rcases hz with rfl|rfl|rfl<;>rfl) ?_
 refine DR.self ?_
 rw[hC]
 refine Nil.ptr (aa.mk (aa.mk (Ld.mk (v:=ptr b.pt) (.tail _ (.tail _ (.tail _ (List.mem_append_right _ (.head _))))) rfl ?_)))
 refine aC.whole (r:=aP d) (by exact .head _) rfl ?_
 refine af.rd (.cons (.cons (.cons (.app (.cons (.app .left)))))) (rU (d:=d) hO.ut (by rw[nT];exact hx)) ?_
 rintro w rfl
 refine⟨.refl _,Ext.mk rfl (Ext.mk rfl (Un.not ?_))⟩
 have Qv:(!(K.T d).isSome)=decide (K.T d=none):=by cases K.T d<;>simp
 rw[Qv]
 refine bT.and (decide (d.lo≠d.hi)) (fun _=>?_) rfl fun gs=>?_
 ·refine aa.mk (Ld.mk (by exact .head _) rfl ?_)
  refine aa.mk (Ld.mk (by exact .head _) rfl ?_)
  exact ae.wZ ⟨rfl,rfl⟩
 rw[←Bool.decide_and]
 rw[←hC]
 refine Br.dec (fun hd=>?_) (fun hd=>?_)
 ·refine OE hmk (c:=fun o=>(Ty,.cells (aP d).toArray 161 (0,0))::(xb,.cells (rows [aP ⟨x,c.uW,c.rF⟩,aP ⟨x,c.uV,c.rE⟩]) 161 (0,0))::(mb,o)::(Na++C)) (fun o o'=>.tail (.tail (.head _))) (fun o=>.head _) fun es' ct h1 gs=>?_
  exact next es' ct _ _ h1 (by rw[htj];exact ON.step hd) .tail
 ·exact next es ck m _ hmk (by rw[htj];exact ON.skip hd) .tail
end
def jk(l:List Cx):Nat→Nat:=fun s=>(l.map fun c=>e1 (some c.d) s).sum
theorem mW(c:Cx)(l:List Cx)(s:Nat):jk (c::l) s=e1 (some c.d) s+jk l s:=by simp[jk]
theorem G4(c:Cx)(l:List Cx)(s:Nat):jk (l++[c]) s=jk l s+e1 (some c.d) s:=by simp[jk]
theorem W4(d:Nd)(s:Nat):e1 (some d) s≤2:=by rw[dN];split<;>split<;>omega
theorem wV(s:Nat):∀l:List Cx,jk l s≤2*l.length
 | []=>Nat.le_refl _
 |c::l=>by rw[mW,List.length_cons];have:=wV s l;have:=W4 c.d s;omega
theorem yI{s:Nat}:∀{l:List Cx},0<jk l s→∃c∈l,c.d.lo=s∨c.d.hi=s
 | [],h=>by simp[jk]at h
 |c::l,h=>by
  rw[mW]at h
  by_cases h0:0<e1 (some c.d) s
  ·refine⟨c,by simp,?_⟩
   rw[dN]at h0
   by_cases h1:c.d.lo=s
   ·exact .inl h1
   ·by_cases h2:c.d.hi=s
    ·exact .inr h2
    ·simp[h1,h2]at h0
  ·obtain⟨c',hc,h1⟩:=yI (s:=s) (l:=l) (by omega)
   exact⟨c',by simp[hc],h1⟩
theorem Fi{s:Nat}{c:Cx}(hs:c.d.lo=s∨c.d.hi=s):∀{l:List Cx},c∈l→0<jk l s
 |c'::l,h=>by
  rw[mW]
  rcases List.mem_cons.1 h with rfl|h
  ·rw[dN]
   rcases hs with hs|hs
   ·rw[if_pos hs];omega
   ·rw[if_pos hs];omega
  ·have:=Fi hs h;omega
def Idle(K:Kd):Prop:=∀s,K.N s=none→K.use s=0
theorem sn{K:Kd}{S:Nat→aE.Fn}{E:Nat→Prop}{P:Nat→Nat}(hm:iP K S E P)(hi:Idle K){M:Nat}(hP:∀s,P s≤M)(s:Nat):K.use s≤2097153+M:=by
 cases h:K.N s with
 |none=>rw[hi s h];omega
 |some d=>
  rw[hm.use h]
  have:=zO (N:=K.N) (r:=s) K.cap
  have:=hm.cap.2
  have:=hP s
  split<;>omega
section
variable {kp:Nat} {K K0:Kd} {ord ah tr:List Nat} {C:Hp} {S S0:Nat→aE.Fn} {oB:Nat→Nat} {x y l:Nat} {all done rest:List Cx} {made:List Nd} {P:Nat→Nat}
theorem L5(b:TB K0 S0 oB x y l all made)(h:cC kp K ord ah tr C)(ht:TI K0 S0 oB x y l made K S done rest P)(hd:∀c∈done,c∈all)(hr:∀c∈rest,c∈all){c:Cx}(hc:c∈all){k:Nd}(hk:k∈keys x c)
 (Jh:PL P K.N)(Lx:Idle K)(hP:∀s,P s≤4194304):
  Fc Tryz.prog 138 #[ptr kp,.int .i64 (k.v:Int),u32 k.lo,u32 k.hi] C (fun v C'=>∃r K' S',v=u32 r∧cC kp K' ord ah tr C'∧TI K0 S0 oB x y l made K' S' done rest P∧u3 K0 K' oB x l r∧
   ((k.lo=k.hi∧r=k.lo)∨K'.N r=some k)∧PL P K'.N∧Idle K'∧(∀s d,K.N s=some d→K'.N s=some d)∧(∀s d,K'.N s=some d→s=r∨(K.N s=some d∧K.use s≤K'.use s))):=by
 have zk:K.n≤64:=by obtain⟨_,_,hO⟩:=h;exact hO.Ax
 have kU:=b.Om hc
 have hkv:k.v=x∧qY K0 oB l k.lo∧qY K0 oB l k.hi:=by
  simp only[keys,List.mem_cons,List.not_mem_nil,or_false]at hk
  rcases hk with rfl|rfl
  ·exact⟨rfl,kU.1.1,kU.1.2⟩
  ·exact⟨rfl,kU.2.1,kU.2.2⟩
 have HA:=ht.po b hd hkv.2.1
 have xw:=ht.po b hd hkv.2.2
 have ZO:k.v<K.n:=by rw[hkv.1,ht.n];exact b.nb.xn
 by_cases he:k.lo=k.hi
 ·refine Fc.mono (by rw[←he];exact Pd C _ k.lo _) ?_
  rintro v C' ⟨rfl,rfl⟩
  exact⟨k.lo,K,S,rfl,h,ht,.inl hkv.2.1,.inl ⟨he,rfl⟩,Jh,Lx,fun _ _ h=>h,fun s d h=>.inr ⟨h,Nat.le_refl _⟩⟩
 cases hT:K.T k with
 |some r=>
  obtain⟨h1,h2⟩:=ht.found b hc hk hT
  refine Fc.mono (Pf h he ZO hT) ?_
  rintro v C' ⟨rfl,rfl⟩
  exact⟨r,K,S,rfl,h,ht,h2,.inr h1,Jh,Lx,fun _ _ h=>h,fun s d h=>.inr ⟨h,Nat.le_refl _⟩⟩
 |none=>
  have hfit:∀{t:Nat},live K.N t→t<2∨t<K.us.length:=fun ht'=>by
   rcases ht' with ht'|⟨d,cV⟩
   ·exact .inl ht'
   ·exact .inr (ht.mid.fit cV)
  have hkm:=ht.Lf b hd hr hc hk he hkv.2.1 hkv.2.2 hT
  refine Fc.mono (Pe h (d:=k) he ⟨by omega,HA,xw⟩ ZO hT (ht.fits b hkm hT) (hfit HA) (hfit xw) (fun s=>by have:=sn ht.mid Lx hP s;omega)) ?_
  rintro v C' ⟨r,cZ,cI,rfl,hN,h2,hrc,hlen,Z5,Hx,u0,u1,u2,o0,o1,iO⟩
  have hPr:P r=0:=by
   apply Decidable.byContradiction
   intro hne
   obtain⟨d,cV⟩:=Jh r h2 (by omega)
   rw[hN]at cV;cases cV
  obtain⟨g1,g2⟩:=ht.lay b hd hr hc hk he hT hN ⟨h2,hrc⟩ hlen ⟨Z5,Hx⟩ u0 u1 o0 o1 hPr
  have hup:∀s d,K.N s=some d→up K.N r (some k) s=some d:=fun s d hs=>by
   rw[aJ (fun e=>by rw[e,hN]at hs;cases hs)];exact hs
  refine⟨r,_,_,rfl,iO,g1,g2,.inr aI,fun t LY h0=>?_,fun s hs=>?_,hup,fun s d hs=>?_⟩
  ·obtain⟨d,cV⟩:=Jh t LY h0
   exact⟨d,hup t d cV⟩
  ·have hs':up K.N r (some k) s=none:=hs
   have hne:s≠r:=fun e=>by subst e;rw[aI]at hs';cases hs'
   rw[aJ hne]at hs'
   show cZ.getD s 0=0
   by_cases Uy:2≤s
   ·rw[u1 s Uy hne,Lx s hs',dN]
    have a1:k.lo≠s:=fun e=>by
     rcases HA with h5|⟨d,h5⟩
     ·omega
     ·rw[e,hs']at h5;cases h5
    have a2:k.hi≠s:=fun e=>by
     rcases xw with h5|⟨d,h5⟩
     ·omega
     ·rw[e,hs']at h5;cases h5
    simp[a1,a2]
   ·rw[u2 s (by omega),Lx s hs']
  ·have hs':up K.N r (some k) s=some d:=hs
   by_cases e:s=r
   ·exact .inl e
   ·rw[aJ e]at hs'
    refine .inr ⟨hs',?_⟩
    show K.use s≤cZ.getD s 0
    rw[u1 s (ht.mid.two hs').1 e];omega
theorem JS(h:cC kp K ord ah tr C)(ht:TI K0 S0 oB x y l made K S done rest P)(Jh:PL P K.N)(Lx:Idle K)(hP:∀s,P s≤4194304){r:Nat}(hr:live K.N r):
  Fc Tryz.prog 139 #[ptr kp,u32 r] C (fun v C'=>∃K',v=.tuple #[]∧cC kp K' ord ah tr C'∧TI K0 S0 oB x y l made K' S done rest (fun s=>P s+if s=r then 1 else 0)∧PL (fun s=>P s+if s=r then 1 else 0) K'.N∧Idle K'∧
   K'.N=K.N∧(∀s,K.use s≤K'.use s)∧(2≤r→0<K'.use r)):=by
 have hfit:r<2∨r<K.us.length:=by
  rcases hr with hr|⟨d,hd⟩
  ·exact .inl hr
  ·exact .inr (ht.mid.fit hd)
 refine Fc.mono (A1 h hfit (by have:=sn ht.mid Lx hP r;omega)) ?_
 rintro v C' ⟨rfl,iO⟩
 by_cases h2:2≤r
 ·have hrd:∃d,K.N r=some d:=by
   rcases hr with hr|hr
   ·omega
   ·exact hr
  have hlt:r<K.us.length:=by omega
  refine⟨_,rfl,iO,(ht.use (iA r) (lU h2 hlt) (fun s hs=>sq hs)).congr (fun s _=>?_),fun t LY h0=>?_,fun s hs=>?_,rfl,fun s=>?_,fun _=>?_⟩
  ·unfold up
   split
   ·rename_i e;subst e;rfl
   ·rfl
  ·by_cases e:t=r
   ·subst e;exact hrd
   ·simp[e]at h0;exact Jh t LY h0
  ·show(qJ K r).getD s 0=0
   have hne:s≠r:=fun e=>by
    obtain⟨d,hd⟩:=hrd
    have hs':K.N s=none:=hs
    rw[e,hd]at hs';cases hs'
   rw[sq hne];exact Lx s hs
  ·show K.use s≤(qJ K r).getD s 0
   by_cases e:s=r
   ·subst e;rw[lU h2 hlt];omega
   ·rw[sq e];exact Nat.le_refl _
  ·show 0<(qJ K r).getD r 0
   rw[lU h2 hlt];omega
 ·have e:qJ K r=K.us:=by unfold qJ;rw[if_pos (by omega)]
  have eK:({K with us:=qJ K r}:Kd)=K:=by rw[e]
  rw[eK]at iO
  refine⟨K,rfl,iO,ht.congr (fun s hs=>?_),fun t LY h0=>?_,Lx,rfl,fun _=>Nat.le_refl _,fun h=>absurd h h2⟩
  ·rw[if_neg (by omega)];rfl
  ·have UB:0<P t+if t=r then 1 else 0:=h0
   rw[if_neg (by omega)]at UB;exact Jh t LY UB
theorem u3.mono{K K':Kd}(h:u3 K0 K oB x l y)(hm:∀s d,K.N s=some d→K'.N s=some d):u3 K0 K' oB x l y:=by
 rcases h with h|⟨e,h1,h2⟩
 ·exact .inl h
 ·exact .inr ⟨e,hm _ _ h1,h2⟩
end
section
variable {kp:Nat} {K:Kd} {ord ah tr:List Nat} {C:Hp} {S:Nat→aE.Fn}
structure Kept(K:Kd)(S:Nat→aE.Fn)(K':Kd)(S':Nat→aE.Fn):Prop where
 n:K'.n=K.n
 cap:K'.cap=K.cap
 hold:∀r,K'.hold r=K.hold r
 held:∀g,K'.held S' g↔K.held S g
 fn:∀r,K.hold r≠0→S' r=S r
theorem RP{x y l:Nat}(hne:x≠y)(hx:x<ah.length)(hy:y<ah.length):lv ((ah.set x (l+1)).set y l)=rp (lv ah) x y l:=by
 funext v
 show((ah.set x (l+1)).set y l).getD v 0=_
 rw[fX (by simpa using hy),fX hx]
 unfold rp
 by_cases e:v=y
 ·rw[if_pos e,if_neg (by rw[e];exact Ne.symm hne),if_pos e]
 ·rw[if_neg e,if_neg e]
theorem Ky(c:Cx)(rest:List Cx):jk (c::rest)=fY (fY (jk rest) [c.d.hi]) [c.d.lo]:=by
 funext s
 rw[mW,dN]
 unfold fY
 simp only[List.count_cons,List.count_nil,beq_iff_eq]
 omega
theorem KM{x:Nat}{all:List Cx}{made:List Nd}(h:Made K x all made):made.length≤2*all.length:=by
 have h1:=bN (l':=all.flatMap (keys x)) h.nd fun k hk=>by
  obtain⟨⟨c,hc,hk'⟩,_⟩:=(h.mem k).1 hk
  exact List.mem_flatMap.2 ⟨c,hc,hk'⟩
 have h2:(all.flatMap (keys x)).length=2*all.length:=by
  clear h1 h
  induction all with
  |nil=>rfl
  |cons c all ih=>rw[List.flatMap_cons,List.length_append,ih,List.length_cons];simp[keys];omega
 omega
theorem JX{x y l:Nat}{K1:Kd}{S1:Nat→aE.Fn}{all:List Cx}{made:List Nd}(b:TB K S (lv ah) x y l all made)(h:TI K S (lv ah) x y l made K1 S1 all [] (jk all))(hnew:∀r d,K.N r=none→K1.N r=some d→0<K1.use r):Pos K1:=by
 intro r d hd
 cases hN:K.N r with
 |none=>exact hnew r d hN hd
 |some d0=>
  rw[h.mid.use hd]
  rcases b.ok.reach r d0 hN with hh|⟨p,e,hp,Uj⟩
  ·have oS:K1.hold r≠0:=by rw[h.hold];exact hh
   rw[if_neg oS];omega
  ·by_cases hm:p∈all.map Cx.r
   ·obtain⟨c,hc,rfl⟩:=List.mem_map.1 hm
    have hcd:=(b.mC hc).1
    rw[hp]at hcd;cases hcd
    have:=Fi (s:=r) Uj hc
    omega
   ·have rA:=h.old hp hm
    have:cR K1.N r K1.cap≠0:=fun he=>by
     have:=jc he p (h.mid.two rA).2 e rA
     rcases Uj with Uj|Uj
     ·exact this.1 Uj
     ·exact this.2 Uj
    omega
theorem E6(h:cC kp K ord ah tr C)(hok:Ok K S (lv ah))(ho:Ord K.n (lv ah) ord)(Lx:Idle K){l:Nat}(hl:l+1<K.n):
  Fc Tryz.prog 59 #[ptr kp,.int .i64 (l:Int)] C (fun r C'=>
   (yu K.n ord l (K.held S)+2≤K.cap∧r=.bool true∧∃K' S' dL,cC kp K' (ik ord l) dL tr C'∧Ok K' S' (lv dL)∧Ord K'.n (lv dL) (ik ord l)∧Idle K'∧Kept K S K' S')∨
   (K.cap<yu K.n ord l (K.held S)+2∧r=.bool false∧C'=C)):=by
 have h0:=h
 have hcap:=h.cap
 obtain⟨b,hC,hO⟩:=h
 have vL:=hO.ol
 have zk:=hO.Ax
 have nb:=ho.nb hl
 obtain⟨x,hx⟩:∃x,x=ord.getD l 0:=⟨_,rfl⟩
 obtain⟨y,hy⟩:∃y,y=ord.getD (l+1) 0:=⟨_,rfl⟩
 rw[←hx,←hy]at nb
 intro g
 refine Iy (R:=aA _) ?_
 unfold L59
 have hmk:(kp,Obj.cells (b.cells K.n) 117 (0,0))∈C:=by rw[hC];exact .head _
 have Qu:∀z∈b.CO,z∈C:=by rw[hC];exact bS.sub (.cons (.app (.app (.app (.app .left)))))
 refine Nil.ptr (aa.mk (Ld.mk (v:=b.vo) hmk rfl ?_))
 refine hO.od.ld (x:=(x:Int)) (by rw[hx];exact bc (by omega)) Qu ?_
 refine Nil.ptr (aa.mk (Ld.mk (v:=b.vo) hmk rfl ?_))
 refine ae.aL (b:=1) (by simp[aB];omega) ?_
 refine hO.od.ld (x:=(y:Int)) (by rw[hy];exact bc (by omega)) Qu ?_
 refine af.fn .here (xJ h0 hok nb.xn) ?_
 rintro w H ⟨all,Na,rfl,aK,FE,hlen⟩
 refine DR.self (Nil.ptr (aa.mk ?_))
 refine af.rd .here (L9 h0 nb.xn aK hlen) ?_
 rintro w ⟨made,rfl,Ln⟩
 have hml:=KM Ln
 have Fy:=hok.mid.cap
 have ZS:=hok.mid.room
 refine af.rd (.app .here) (y3 h0 (m:=made.length) (by omega) (by omega)) ?_
 rintro w rfl
 have afu:yu K.n ord l (K.held S)=K.used-2+made.length:=JR (JY hok ho hl (by rw[←hx,←hy];exact FE) (by rw[←hx];exact Ln))
 refine Un.not ?_
 by_cases hroom:K.used+made.length≤K.cap
 rotate_left
 ·rw[decide_eq_false hroom]
  exact Br.yes (aA.mk .right (.inr ⟨by omega,rfl,rfl⟩))
 rw[decide_eq_true hroom]
 refine Br.no ?_
 have tb:TB K S (lv ah) x y l all made:=⟨hok,nb,FE,Ln,hroom⟩
 have g7:=FE.nd
 have hge:∀{i:Nat} {c:Cx},all[i]? =some c→c.r∉(all.take i).map Cx.r:=fun{i c} qS hm=>by
  have h1:(all.take (i+1)).map Cx.r=(all.take i).map Cx.r++[c.r]:=by rw[List.take_add_one,qS,List.map_append];rfl
  have h2:((all.take (i+1)).map Cx.r).Nodup:=g7.sublist ((List.take_sublist _ _).map _)
  rw[h1]at h2
  exact(List.nodup_append.1 h2).2.2 _ hm _ (by simp) rfl
 have lO:∀{i:Nat} {c:Cx},all[i]? =some c→all.take (i+1)=all.take i++[c]:=fun qS=>by rw[List.take_add_one,qS];rfl
 have Yp:∀{i:Nat} {c:Cx},all[i]? =some c→all.drop i=c::all.drop (i+1):=fun{i c} qS=>by
  obtain⟨hi,e⟩:=List.getElem?_eq_some_iff.1 qS
  rw[List.drop_eq_getElem_cons hi,e]
 have Su:∀{i:Nat},∀c∈all.take i,c∈all:=fun c hc=>List.mem_of_mem_take hc
 have hmD:∀{i:Nat},∀c∈all.drop i,c∈all:=fun c hc=>List.mem_of_mem_drop hc
 refine aK.bC ?_
 rw[List.length_map]
 refine⟨fun vs H=>∃(i:Nat) (T':Nd→Option Nat) (C1:Hp),vs=[.int .i64 (i:Int)]∧H=Na++C1∧i≤all.length∧cC kp {K with T:=T'} ord ah tr C1∧iP {K with T:=T'} S (fun s=>∃c∈all.take i,s=c.r) zero'∧(∀d,T' d=none∨T' d=K.T d),
  fun vs _=>all.length-bG vs 0,JE.mk ⟨0,K.T,C,rfl,rfl,Nat.zero_le _,h0,hok.mid.congr (fun s=>by simp[gS]) (fun _ _=>rfl),fun _=>.inr rfl⟩,?_⟩
 rintro w H ⟨i,T',C1,hw,rfl,hi,fp,HK,HJ⟩ gs
 simp only[List.cons.injEq,and_true]at hw
 subst hw
 refine ae.eA (Br.dec (fun hlt=>?_) (fun OT=>?_))
 ·obtain⟨c,qS⟩:∃c,all[i]? =some c:=⟨_,List.getElem?_eq_getElem hlt⟩
  have HH:c∈all:=List.mem_of_getElem? qS
  obtain⟨xz,Wh,hce⟩:=tb.mC HH
  refine aK.Ft (r:=ij c) (by rw[List.getElem?_map,qS];rfl) (fun z hz=>List.mem_append_left _ hz) ?_
  intro B4 _
  refine St.whole (r:=ij c) (by exact .head _) rfl rfl (j5 _) ?_
  obtain⟨b1,rfl,QR⟩:=fp
  refine DR.self (Nil.ptr (aa.mk (aa.mk (Ld.mk (v:=ptr b1.pt) (.tail _ (List.mem_append_right _ (.head _))) rfl ?_))))
  refine aa.mk (aC.mk (vs:=(aP c.d).toArray) (.head _) (by simp[ij]) rfl ?_)
  have hTc:T' c.d=some c.r:=(HK.iJ c.d c.r).2 ⟨xz,by rintro⟨c',lB,e⟩;exact hge qS (e▸List.mem_map_of_mem lB)⟩
  refine af.fn (.cons (.app (.cons (.app .left)))) (vp (d:=c.d) QR.ut (hok.mid.var xz) hTc) ?_
  rintro v T7 ⟨rfl,Sf⟩
  refine ae.aL (b:=1) (by simp[aB];omega) ?_
  refine aD.of .tail ⟨i+1,oQ T' c.d none,_,rfl,rfl,by omega,⟨{b1 with CT:=T7},rfl,{QR with ut:=Sf}⟩,(HK.aar (r:=c.r) (d:=c.d) xz ?_).congr (fun s=>?_) (fun _ _=>rfl),fun d=>?_⟩ (by simp[bG];omega)
  ·rintro⟨c',lB,e⟩;exact hge qS (e▸List.mem_map_of_mem lB)
  ·rw[lO qS]
   constructor
   ·rintro(⟨c',lB,e⟩|e)
    ·exact⟨c',List.mem_append_left _ lB,e⟩
    ·exact⟨c,by simp,e⟩
   ·rintro⟨c',lB,e⟩
    rcases List.mem_append.1 lB with lB|lB
    ·exact .inl ⟨c',lB,e⟩
    ·simp at lB;subst lB;exact .inr e
  ·unfold oQ
   split
   ·exact .inl rfl
   ·exact HJ d
 have hi':i=all.length:=by omega
 subst hi'
 rw[List.take_length]at HK
 have hTI:=tb.start HK HJ
 refine aK.bC ?_
 rw[List.length_map]
 refine⟨fun vs H=>∃(i:Nat) (K1:Kd) (S1:Nat→aE.Fn) (C1:Hp),vs=[.int .i64 (i:Int)]∧H=Na++C1∧i≤all.length∧cC kp K1 ord ah tr C1∧TI K S (lv ah) x y l made K1 S1 (all.take i) (all.drop i) (jk (all.take i))∧
   PL (jk (all.take i)) K1.N∧Idle K1∧(∀r d,K.N r=none→K1.N r=some d→0<K1.use r),
  fun vs _=>all.length-bG vs 0,JE.mk ⟨0,_,S,C1,rfl,rfl,Nat.zero_le _,fp,hTI,fun t _ h=>by simp[jk]at h,Lx,fun r d h1 h2=>by rw[h1]at h2;cases h2⟩,?_⟩
 clear hTI HK HJ fp T' C1 OT hi
 rintro w H ⟨i,K1,S1,C1,hw,rfl,hi,fp,HJ,O4,Lw,Qw⟩ gs
 simp only[List.cons.injEq,and_true]at hw
 subst hw
 refine ae.eA (Br.dec (fun hlt=>?_) (fun OT=>?_))
 ·obtain⟨c,qS⟩:∃c,all[i]? =some c:=⟨_,List.getElem?_eq_getElem hlt⟩
  have HH:c∈all:=List.mem_of_getElem? qS
  obtain⟨xz,Wh,hce⟩:=tb.mC HH
  rw[Yp qS]at HJ
  have zg:∀c'∈c::all.drop (i+1),c'∈all:=by rw[←Yp qS];exact hmD
  have WB:∀s,jk (all.take i) s≤2097152:=fun s=>by have:=wV s (all.take i);rw[List.length_take]at this;omega
  refine aK.Ft (r:=ij c) (by rw[List.getElem?_map,qS];rfl) (fun z hz=>List.mem_append_left _ hz) ?_
  intro Q4 _
  refine St.whole (r:=ij c) (by exact .head _) rfl rfl (j5 _) ?_
  refine DR.self (Nil.ptr (aa.mk ?_))
  refine aa.mk (Ld.mk (by exact .head _) rfl ?_)
  refine aa.mk (Ld.mk (by exact .head _) rfl ?_)
  refine af.fn (.cons (.app .here)) (L5 tb fp HJ Su zg HH (k:=⟨x,c.uW,c.rF⟩) (by simp[keys]) O4 Lw (fun s=>by have:=WB s;omega)) ?_
  rintro w C2 ⟨t0,K2,S2,rfl,dM,Ww,Vn,g0,O3,BH,ada,Zp⟩
  refine Nil.ptr (aa.mk ?_)
  refine af.fn (.cons (.app .here)) (JS dM Ww O3 BH (fun s=>by have:=WB s;omega) (Ww.py tb Su Vn)) ?_
  rintro w C3 ⟨K3,rfl,nG,hT3,S6,aau,WG,ZU,VL⟩
  have WA:∀s,(jk (all.take i) s+if s=t0 then 1 else 0)≤2097153:=fun s=>by have:=WB s;split<;>omega
  refine DR.self (Nil.ptr (aa.mk ?_))
  refine aa.mk (Ld.mk (by exact .head _) rfl ?_)
  refine aa.mk (Ld.mk (by exact .head _) rfl ?_)
  refine af.fn (.cons (.app .here)) (L5 tb nG hT3 Su zg HH (k:=⟨x,c.uV,c.rE⟩) (by simp[keys]) S6 aau (fun s=>by have:=WA s;omega)) ?_
  rintro w C4 ⟨t1,K4,S4,rfl,LW,hT4,Vm,g1,SZ,aat,Qf,Zo⟩
  refine Nil.ptr (aa.mk ?_)
  refine af.fn (.cons (.app .here)) (JS LW hT4 SZ aat (fun s=>by have:=WA s;omega) (hT4.py tb Su Vm)) ?_
  rintro w C5 ⟨K5,rfl,Ji,Yv,agz,aas,WE,ZT,VK⟩
  have Qm:u3 K K5 (lv ah) x l t0:=u3.mono Vn (fun s d hs=>by rw[WE];exact Qf s d (by rw[WG];exact hs))
  have Ql:u3 K K5 (lv ah) x l t1:=u3.mono Vm (fun s d hs=>by rw[WE];exact hs)
  have g0':(c.uW=c.rF∧t0=c.uW)∨K5.N t0=some ⟨x,c.uW,c.rF⟩:=by
   rcases g0 with g0|g0
   ·exact .inl g0
   ·exact .inr (by rw[WE];exact Qf _ _ (by rw[WG];exact g0))
  have g1':(c.uV=c.rE∧t1=c.uV)∨K5.N t1=some ⟨x,c.uV,c.rE⟩:=by
   rcases g1 with g1|g1
   ·exact .inl g1
   ·exact .inr (by rw[WE];exact g1)
  have aaf:((all.take i++c::all.drop (i+1)).map Cx.r).Nodup:=by rw[←Yp qS,List.take_append_drop];exact g7
  obtain⟨hTn,hT6⟩:=Yv.wE tb Su zg aaf Qm Ql g0' g1' (P':=jk (all.take (i+1))) (fun s _=>by
   rw[lO qS,G4,dN ⟨y,t0,t1⟩]
   have Pv:(if t0=s then 1 else 0)=(if s=t0 then 1 else 0:Nat):=by split<;>split<;>first|rfl|(exfalso;omega)
   have e2':(if t1=s then 1 else 0)=(if s=t1 then 1 else 0:Nat):=by split<;>split<;>first|rfl|(exfalso;omega)
   simp only[Pv,e2']
   omega)
  have Lp:∀{t:Nat},u3 K K5 (lv ah) x l t→live K5.N t:=fun hk=>Yv.py tb Su hk
  have SN:∃e,K5.N c.r=some e:=Yv.kept xz
  refine Build.mk (cs:=aP ⟨y,t0,t1⟩) (by kernel_rfl) ?_
  intro YE _
  refine St.whole (r:=aP ⟨y,t0,t1⟩) (by exact .head _) rfl rfl (fun z hz=>by simp[aP,u32]at hz;rcases hz with rfl|rfl|rfl<;>rfl) ?_
  obtain⟨b5,rfl,Yx⟩:=Ji
  refine DR.self (Nil.ptr (aa.mk (aa.mk (Ld.mk (v:=ptr b5.pa) (.tail _ (.tail _ (List.mem_append_right _ (.head _)))) rfl ?_))))
  refine aa.mk (Ld.mk (by exact .tail _ (.head _)) rfl ?_)
  refine aC.whole (r:=aP ⟨y,t0,t1⟩) (by exact .head _) rfl ?_
  have Se:y<K5.n:=by rw[Yv.n];exact nb.yn
  refine af.fn (.cons (.cons (.app (.cons .left)))) (PM (d:=⟨y,t0,t1⟩) Yx.ar ⟨by show y<64;have:=Yx.Ax;omega,Lp Qm,Lp Ql⟩ SN (tb.ok.mid.two xz).1) ?_
  rintro w XV ⟨rfl,Wo⟩
  refine DR.self (Nil.ptr (aa.mk (aa.mk (Ld.mk (v:=ptr b5.pt) (.tail _ (.tail _ (List.mem_append_right _ (.head _)))) rfl ?_))))
  refine aC.whole (r:=aP ⟨y,t0,t1⟩) (by exact .head _) rfl ?_
  refine aa.mk (Ld.mk (by exact .tail _ (.head _)) rfl ?_)
  refine af.fn (.cons (.cons (.app (.cons (.app .left))))) (E4 (d:=⟨y,t0,t1⟩) (r:=c.r) Yx.ut Se hTn) ?_
  rintro w T7 ⟨rfl,Sf⟩
  refine ae.aL (b:=1) (by simp[aB];omega) ?_
  refine aD.of (.skip .tail) ⟨i+1,{K5 with N:=up K5.N c.r (some ⟨y,t0,t1⟩),T:=oQ K5.T ⟨y,t0,t1⟩ (some c.r)},S4,_,rfl,rfl,by omega,⟨{b5 with CA:=XV,CT:=T7},rfl,{Yx with ar:=Wo,ut:=Sf}⟩,by rw[lO qS]at hT6⊢;exact hT6,fun t LY hp=>?_,fun s hs=>?_,fun r d Sn hrd=>?_⟩ (by simp[bG];omega)
  ·obtain⟨c',lB,lA⟩:=yI hp
   have aaL:=Su c' lB
   have LK:=(tb.mC aaL).1
   have hlv:live K.N t:=by
    rcases lA with rfl|rfl
    ·exact tb.ok.mid.lo LK
    ·exact tb.ok.mid.hi LK
   rcases hlv with hlv|⟨d,hd⟩
   ·omega
   ·exact hT6.kept hd
  ·have hs':up K5.N c.r (some ⟨y,t0,t1⟩) s=none:=hs
   have hne:s≠c.r:=fun e=>by subst e;rw[aI]at hs';cases hs'
   rw[aJ hne]at hs'
   exact aas s hs'
  ·have Sj:up K5.N c.r (some ⟨y,t0,t1⟩) r=some d:=hrd
   have hne:r≠c.r:=fun e=>by rw[e,xz]at Sn;cases Sn
   rw[aJ hne,WE]at Sj
   have YB:2≤r:=(hT4.mid.two Sj).1
   show 0<K5.use r
   rcases Zo r d Sj with e|⟨h3,hu3⟩
   ·rw[e]at YB⊢;exact VK YB
   ·rw[WG]at h3
    have h5:=ZT r
    rcases Zp r d h3 with e|⟨h1,Ye⟩
    ·rw[e]at YB⊢h5 hu3;have:=VL YB;omega
    ·have:=Qw r d Sn h1
     have:=ZU r
     omega
 have hi':i=all.length:=by omega
 subst hi'
 rw[List.take_length,List.drop_length]at HJ
 rw[List.take_length]at O4
 have rA:=JX tb HJ Qw
 refine aK.bC ?_
 rw[List.length_map]
 refine⟨fun vs H=>∃(i:Nat) (K2:Kd) (C2:Hp),vs=[.int .i64 (i:Int)]∧H=Na++C2∧i≤all.length∧cC kp K2 ord ah tr C2∧iP K2 S1 gS (jk (all.drop i))∧Pos K2∧PL (jk (all.drop i)) K2.N∧uZ K2 K1,
  fun vs _=>all.length-bG vs 0,JE.mk ⟨0,K1,C1,rfl,rfl,Nat.zero_le _,fp,HJ.mid.congr (fun s=>by simp[gS]) (fun _ _=>rfl),rA,O4,.refl K1⟩,?_⟩
 clear fp O4 hi OT C1
 rintro w H ⟨i,K2,C2,hw,rfl,hi,dM,FJ,nj,O3,dD⟩ gs
 simp only[List.cons.injEq,and_true]at hw
 subst hw
 refine ae.eA (Br.dec (fun hlt=>?_) (fun OT=>?_))
 ·obtain⟨c,qS⟩:∃c,all[i]? =some c:=⟨_,List.getElem?_eq_getElem hlt⟩
  have HH:c∈all:=List.mem_of_getElem? qS
  obtain⟨xz,Wh,hce⟩:=tb.mC HH
  have WB:∀s,jk (all.drop i) s≤2097152:=fun s=>by have:=wV s (all.drop i);rw[List.length_drop]at this;omega
  have hlo:=h0.lt (hok.mid.lo xz)
  have hhi:=h0.lt (hok.mid.hi xz)
  refine aK.Ft (r:=ij c) (by rw[List.getElem?_map,qS];rfl) (fun z hz=>List.mem_append_left _ hz) ?_
  intro PG _
  refine St.whole (r:=ij c) (by exact .head _) rfl rfl (j5 _) ?_
  refine DR.self (Nil.ptr (aa.mk ?_))
  refine aa.mk (aa.mk (Ld.mk (by exact .head _) rfl ?_))
  have BH:Idle K2:=dD.idle Lw
  have ZV:∀s,K2.use s<2147483648:=fun s=>by have:=sn FJ BH WB s;omega
  rw[Yp qS,Ky]at FJ O3
  refine af.fn (.cons (.app .here)) (kL dM FJ nj O3 hlo ZV) ?_
  rintro w C3 ⟨rfl,K3,nG,O5,Sp,S6,Lr⟩
  refine DR.self (Nil.ptr (aa.mk ?_))
  refine aa.mk (aa.mk (Ld.mk (by exact .head _) rfl ?_))
  refine af.fn (.cons (.app .here)) (kL nG O5 Sp S6 hhi (fun s=>Nat.lt_of_le_of_lt (Lr.us s) (ZV s))) ?_
  rintro w C4 ⟨rfl,K4,LW,hM4,Yi,SZ,Sv⟩
  refine ae.aL (b:=1) (by simp[aB];omega) ?_
  exact aD.of .tail ⟨i+1,K4,C4,rfl,rfl,by omega,LW,hM4,Yi,SZ,Sv.trans (Lr.trans dD)⟩ (by simp[bG];omega)
 have hi':i=all.length:=by omega
 subst hi'
 rw[List.drop_length]at FJ
 have BH:Idle K2:=dD.idle Lw
 obtain⟨f1,f2,f3⟩:=HJ.fin tb (K':=K2) (FJ.congr (fun _=>Iff.rfl) (fun _ _=>rfl)) nj (fun h=>dD.N h) dD.n (fun r=>by show K2.ho.getD r 0=K1.ho.getD r 0;rw[dD.ho])
 have OM:K2.n=K.n:=by rw[dD.n,HJ.n]
 obtain⟨b2,rfl,WD⟩:=dM
 refine DR.self (Nil.ptr (aa.mk (Ld.mk (v:=b2.vo) (List.mem_append_right _ (.head _)) rfl ?_)))
 refine Nil.ptr (aa.mk (Ld.mk (v:=b2.vo) (List.mem_append_right _ (.head _)) rfl ?_))
 refine ae.aL (b:=1) (by simp[aB];omega) ?_
 refine WD.od.jC (x:=(y:Int)) (.app (.cons (.app (.app (.app (.app .left)))))) (by rw[ak];omega) fun CO1 FA=>?_
 refine FA.jC (x:=(x:Int)) (.app (.cons (.app (.app (.app (.app .left)))))) (by rw[List.length_set,ak];omega) fun CO2 zh=>?_
 refine DR.self (Nil.ptr (aa.mk (Ld.mk (v:=b2.vl) (List.mem_append_right _ (.head _)) rfl ?_)))
 refine Nil.ptr (aa.mk (Ld.mk (v:=b2.vl) (List.mem_append_right _ (.head _)) rfl ?_))
 refine ae.aL (b:=1) (by simp[aB];omega) ?_
 have uQ:=WD.ol.2
 have ZO:=nb.xn
 have Se:=nb.yn
 refine WD.lv.jC (x:=((l+1:Nat):Int)) (.app (.cons (.app (.app (.app (.app (.app .left))))))) (by rw[ak];omega) fun CL1 HA=>?_
 refine HA.jC (x:=(l:Int)) (.app (.cons (.app (.app (.app (.app (.app .left))))))) (by rw[List.length_set,ak];omega) fun CL2 xw=>?_
 rw[e7,e7]at zh xw
 have Uh:(ord.set l y).set (l+1) x=ik ord l:=by rw[hx,hy];rfl
 rw[Uh]at zh
 have hlv:lv ((ah.set x (l+1)).set y l)=rp (lv ah) x y l:=RP nb.ne (by omega) (by omega)
 refine aA.mk .right (.inl ⟨by omega,rfl,K2,S1,_,⟨{b2 with CO:=CO2,CL:=CL2},rfl,{WD with od:=zh,lv:=xw,ol:=?_}⟩,by rw[hlv];exact f1,by rw[hlv,OM,hx,hy];exact NS ho hl,BH,OM,by rw[dD.cap,HJ.cap],fun r=>?_,f2,f3⟩)
 ·rw[kI];simp;exact WD.ol
 ·show K2.ho.getD r 0=K.hold r
  rw[dD.ho];exact HJ.hold r
end
structure cK(kp:Nat)(K:Kd)(S:Nat→aE.Fn)(ord ah tr:List Nat)(C:Hp):Prop where
 rep:cC kp K ord ah tr C
 ok:Ok K S (lv ah)
 od:Ord K.n (lv ah) ord
 idle:Idle K
 tr:uX K.n K.cap (K.held S) ord tr.reverse
theorem Kept.refl(K:Kd)(S:Nat→aE.Fn):Kept K S K S:=⟨rfl,rfl,fun _=>rfl,fun _=>Iff.rfl,fun _ _=>rfl⟩
theorem Kept.trans{K K' K2:Kd}{S S' S2:Nat→aE.Fn}(h:Kept K S K' S')(h':Kept K' S' K2 S2):Kept K S K2 S2:=
 ⟨h'.n.trans h.n,h'.cap.trans h.cap,fun r=>(h'.hold r).trans (h.hold r),fun g=>(h'.held g).trans (h.held g),fun r hr=>(h'.fn r (by rw[h.hold];exact hr)).trans (h.fn r hr)⟩
section
variable {kp:Nat} {K:Kd} {ord ah tr:List Nat} {C:Hp} {S:Nat→aE.Fn}
theorem FN(h:cK kp K S ord ah tr C){l:Nat}(hl:l+1<K.n)(qR:tr.length<1099511627776):Fc Tryz.prog 17 #[ptr kp,.int .i64 (l:Int)] C (fun r C'=>
   (yu K.n ord l (K.held S)+2≤K.cap∧r=.int .i64 0∧∃K' S' dL,cK kp K' S' (ik ord l) dL (tr++[l]) C'∧Kept K S K' S')∨
   (K.cap<yu K.n ord l (K.held S)+2∧r=.int .i64 9∧C'=C)):=by
 have h0:=h
 obtain⟨b,hC,hO⟩:=h.rep
 have hn:=hO.Ax
 intro g
 refine IQ (R:=aA _) ?_
 unfold L17
 refine ae.bJ (Br.no (ae.lss ?_))
 refine bT.or (decide ((K.n:Int) -2<l)) (fun _=>?_) (by simp) fun gs=>?_
 ·refine Nil.ptr (aa.mk (Ld.mk (v:=.int .i64 (K.n:Int)) (by rw[hC];exact .head _) rfl ?_))
  refine ae.Kk (c:=(K.n:Int) -2) rfl (by omega) ?_
  exact ae.gtr ⟨rfl,rfl⟩
 ·rw[←Bool.decide_or]
  refine Br.bt (by omega) ?_
  refine af.fn .here (E6 h.rep h.ok h.od h.idle hl) ?_
  rintro w C' (⟨hfit,rfl,K',S',dL,iO,xu,Sr,s8,pD⟩|⟨hno,rfl,rfl⟩)
  ·refine Un.not (Br.no ?_)
   obtain⟨b',rfl,uT⟩:=iO
   refine Nil.ptr (aa.mk (Ld.mk (v:=b'.vt) (by exact .head _) rfl ?_))
   refine av.int (e:=3) (by kernel_rfl) (by kernel_rfl) (by kernel_rfl) fun bx=>?_
   refine uT.tr.oK (.cons (.cons (.app (.app (.app (.app (.app (.app .here)))))))) (by exact .head _) (by rw[ak];omega) (by rw[ak];omega) fun v' Jx cI=>?_
   refine Nil.ptr (aa.mk (St.one (by exact .tail (.head _)) cI.one (by simp[rH.cells]) rfl ?_))
   refine aA.mk .tail (.inl ⟨hfit,rfl,K',S',dL,⟨⟨{b' with vt:=v',CR:=Jx},rfl,{uT with tr:=by rw[cm];exact cI}⟩,xu,Sr,s8,?_⟩,pD⟩)
   rw[pD.n,pD.cap]
   exact(uX.abE hO.ol.1 hl hfit h.tr).congr fun g=>(pD.held g).symm
  ·exact Un.not (Br.yes (aA.here (.inr ⟨hno,rfl,rfl⟩)))
theorem NN{l:Nat}(h:cK kp K S ord ah (tr++[l]) C)(qR:tr.length<1099511627776):Fc Tryz.prog 18 #[ptr kp] C (fun r C'=>
   r=.tuple #[.int .i64 (l:Int),.int .i64 0]∧l+1<K.n∧∃K' S' dL,cK kp K' S' (ik ord l) dL tr C'∧Kept K S K' S'):=by
 have h0:=h
 obtain⟨b,hC,hO⟩:=h.rep
 have hn:=hO.Ax
 have Vy:=h.tr
 rw[List.reverse_append]at Vy
 obtain⟨hl,hfit,zc⟩:l+1<K.n∧yu K.n ord l (K.held S)+2≤K.cap∧uX K.n K.cap (K.held S) (ik ord l) tr.reverse:=Vy
 have hmk:(kp,Obj.cells (b.cells K.n) 117 (0,0))∈C:=by rw[hC];exact .head _
 intro g
 refine IP (R:=aA _) ?_
 unfold L18
 refine ae.bJ ?_
 refine bT.or false (fun _=>?_) rfl fun gs=>Br.no ?_
 ·refine Nil.ptr (aa.mk (Ld.mk (v:=b.vt) hmk rfl ?_))
  refine hO.tr.bC ?_
  refine ae.jF ⟨rfl,?_⟩
  rw[decide_eq_false]
  rw[ak,List.length_append];simp;omega
 refine Nil.ptr (aa.mk (Ld.mk (v:=b.vt) hmk rfl ?_))
 refine hO.tr.bC ?_
 rw[ak,List.length_append]
 refine ae.bH (a:=tr.length+1) (b:=1) (by simp[aB];omega) (by omega) ?_
 rw[Nat.add_sub_cancel]
 refine Nil.ptr (aa.mk (Ld.mk (v:=b.vt) hmk rfl ?_))
 refine hO.tr.ld (i:=tr.length) (x:=(l:Int)) (by rw[cm];simp[iw]) (by rw[hC];exact bS.sub (.cons (.app (.app (.app (.app (.app (.app .here)))))))) ?_
 refine af.fn .here (E6 h.rep h.ok h.od h.idle hl) ?_
 rintro w C' (⟨_,rfl,K',S',dL,iO,xu,Sr,s8,pD⟩|⟨hno,rfl,rfl⟩)
 rotate_left
 ·omega
 obtain⟨b',rfl,uT⟩:=iO
 refine Nil.ptr (aa.mk (Ld.mk (v:=b'.vt) (by exact .head _) rfl ?_))
 refine uT.tr.cut (i:=tr.length) (by rw[ak];simp) fun v' Ay=>?_
 refine Nil.ptr (aa.mk (St.one (by exact .head _) Ay.one (by simp[rH.cells]) rfl ?_))
 refine aA.here ⟨rfl,hl,K',S',dL,⟨⟨{b' with vt:=v'},rfl,{uT with tr:=by rw[cm,List.take_left' (by simp)]at Ay;exact Ay}⟩,xu,Sr,s8,?_⟩,pD⟩
 rw[pD.n,pD.cap]
 exact zc.congr fun g=>(pD.held g).symm
theorem cK.bZ(h:cK kp K S ord ah tr C){r:Nat}(hl:live K.N r):r<1048576:=h.rep.lt hl
theorem cK.ju(h:cK kp K S ord ah tr C)(r:Nat):K.hold r≤65535:=h.ok.mid.mx r
theorem cK.A2(h:cK kp K S ord ah tr C)(r:Nat):K.use r≤2097153:=by have:=sn h.ok.mid h.idle (M:=0) (fun _=>Nat.le_refl _) r;omega
structure PZ(K K':Kd)(r:Nat):Prop where
 n:K'.n=K.n
 cap:K'.cap=K.cap
 used:K'.used=K.used
 N:K'.N=K.N
 hold:∀s,K'.hold s=if s=r∧2≤r then K.hold s+1 else K.hold s
theorem Ht(h:cK kp K S ord ah tr C){r:Nat}(hl:live K.N r)(h2:2≤r)(hf:K.hold r=65535):Rd Tryz.prog 121 #[ptr kp,u32 r] C (· =.int .i64 8):=by
 have hr:=h.bZ hl
 obtain⟨b,hC,hO⟩:=h.rep
 have hfit:r<K.ho.length:=by
  rcases hl with hl|⟨d,hd⟩
  ·omega
  ·rw[←hO.ul.1];exact h.ok.mid.fit hd
 intro g
 refine tZ (R:=aA _) ?_
 unfold L121
 refine ae.bJ (Br.no (Nil.ptr (aa.mk ?_)))
 refine af.rd .here (mj h.rep (by omega)) ?_
 rintro w rfl
 rw[bM.2 hl]
 refine Un.not (Br.no ?_)
 intro J7 _
 refine ae.kB (b:=1) (Br.fc (by omega) ?_)
 refine Nil.ptr (aa.mk (aa.mk (Ld.mk (v:=b.vh) (by rw[hC];exact .head _) rfl ?_)))
 refine hO.ho.ld (x:=((K.hold r:Nat):Int)) (bc hfit) (by rw[hC];exact bS.sub (.cons (.app (.app (.app .left))))) ?_
 rw[hf]
 exact ae.jF (Br.fc rfl (cz.mk (.refl _) rfl))
theorem y6(h:cC kp K ord ah tr C)(Uw:iP K S gS zero')(OR:Idle K){r:Nat}(hl:live K.N r)(hf:2≤r→K.hold r<65535):Fc Tryz.prog 121 #[ptr kp,u32 r] C (fun v C'=>v=.int .i64 0∧∃K',cC kp K' ord ah [] C'∧
  iP K' S gS zero'∧Idle K'∧PZ K K' r∧(∀s,K.use s≤K'.use s)∧(2≤r→0<K'.use r)):=by
 have hr:=h.lt hl
 have h0:=h
 obtain⟨b,hC,hO⟩:=h
 intro g
 refine tZ (R:=aA _) ?_
 unfold L121
 refine ae.bJ (Br.no (Nil.ptr (aa.mk ?_)))
 refine af.rd .here (mj h0 (by omega)) ?_
 rintro w rfl
 rw[bM.2 hl]
 refine Un.not (Br.no ?_)
 intro J7 hJ7
 have fin:∀(K':Kd) C1,cC kp K' ord ah tr C1→iP K' S gS zero'→Idle K'→PZ K K' r→(∀s,K.use s≤K'.use s)→(2≤r→0<K'.use r)→J7 [] C1:=fun K' C1 iO xu s8 hm hu hp=>by
  refine hJ7 _ fun gs=>?_
  obtain⟨b',rfl,uT⟩:=iO
  refine Nil.ptr (aa.mk (St.one (by exact .head _) rfl (by simp[rH.cells]) rfl ?_))
  refine aA.mk (lR:=({b' with vt:=.slice none 0 0,CR:=[]}:rH).hp kp K'.n) ?_ ⟨rfl,K',⟨{b' with vt:=.slice none 0 0,CR:=[]},rfl,{uT with tr:=aN.nil}⟩,xu,s8,hm,hu,hp⟩
  refine .cons (.dr (.dr (.dr (.dr (.dr (.dr .nil _) _) _) _) _) _)
 refine ae.kB (b:=1) (Br.dec (fun h2=>?_) (fun h2=>?_))
 rotate_left
 ·refine JE.mk (fin K C h0 Uw OR ⟨rfl,rfl,rfl,rfl,fun s=>?_⟩ (fun _=>Nat.le_refl _) (fun h=>by omega))
  rw[if_neg (by omega)]
 have mq:2≤r:=by omega
 have zo:=hf mq
 obtain⟨d,hd⟩:∃d,K.N r=some d:=by
  rcases hl with hl|hl
  ·omega
  ·exact hl
 have V8:=Uw.fit hd
 have Hx:=hO.ul
 have hfit:r<K.ho.length:=by omega
 subst hC
 refine Nil.ptr (aa.mk (aa.mk (Ld.mk (v:=b.vh) (by exact .head _) rfl ?_)))
 refine hO.ho.ld (x:=((K.hold r:Nat):Int)) (bc hfit) (bS.sub (.cons (.app (.app (.app .left))))) ?_
 refine ae.jF (Br.bt (by omega) ?_)
 refine Nil.ptr (aa.mk (aa.mk (Ld.mk (v:=b.vh) (by exact .head _) rfl ?_)))
 refine hO.ho.ld (x:=((K.hold r:Nat):Int)) (bc hfit) (bS.sub (.cons (.app (.app (.app .left))))) ?_
 refine ae.aL (b:=1) (by simp[aB];omega) ?_
 refine hO.ho.jC (x:=((K.hold r+1:Nat):Int)) (.cons (.app (.app (.app .left)))) (by rw[ak];exact hfit) fun M6 oS=>?_
 rw[e7]at oS
 have g1:∀s,(K.ho.set r (K.hold r+1)).getD s 0=if s=r then K.hold r+1 else K.hold s:=fun s=>fX hfit
 refine Nil.ptr (aa.mk (aa.mk (Ld.mk (v:=b.vh) (by exact .head _) rfl ?_)))
 refine oS.ld (x:=((K.hold r+1:Nat):Int)) (by rw[bc (by simpa using hfit),g1,if_pos rfl]) (bS.sub (.cons (.app (.app (.app .left))))) ?_
 refine ae.eB (b:=1) (Br.dec (fun h3=>?_) (fun h3=>?_))
 ·refine Nil.ptr (aa.mk (aa.mk (Ld.mk (v:=b.vu) (by exact .head _) rfl ?_)))
  refine hO.us.ld (x:=((K.use r:Nat):Int)) (bc V8) (bS.sub (.cons (.app (.app .left)))) ?_
  have ZV:=sn Uw OR (M:=0) (fun _=>Nat.le_refl _) r
  refine ae.aL (b:=1) (by simp[aB];omega) ?_
  refine hO.us.jC (x:=((K.use r+1:Nat):Int)) (.cons (.app (.app .left))) (by rw[ak];exact V8) fun NG xp=>?_
  rw[e7]at xp
  have g2:∀s,(K.us.set r (K.use r+1)).getD s 0=if s=r then K.use r+1 else K.use s:=fun s=>fX V8
  have hM:=Uw.keep (r:=r) (cZ:=K.us.set r (K.use r+1)) (cI:=K.ho.set r (K.hold r+1)) ⟨d,hd⟩ zo (by simp) (by rw[g1,if_pos rfl]) (fun s hs=>by rw[g1,if_neg hs]) (by rw[g2,if_pos rfl,if_pos (by omega)]) (fun s hs=>by rw[g2,if_neg hs])
  refine JE.mk (fin {K with us:=K.us.set r (K.use r+1),ho:=K.ho.set r (K.hold r+1)} _ ⟨{b with CU:=NG,CH:=M6},rfl,{hO with us:=xp,ho:=oS,ul:=by simp;exact Hx}⟩ hM (fun s hs=>?_) ⟨rfl,rfl,rfl,rfl,fun s=>?_⟩ (fun s=>?_) (fun _=>?_))
  ·show(K.us.set r (K.use r+1)).getD s 0=0
   have hs':K.N s=none:=hs
   rw[g2,if_neg (fun e=>by rw[e,hd]at hs';cases hs')];exact OR s hs'
  ·show(K.ho.set r (K.hold r+1)).getD s 0=_
   rw[g1]
   by_cases e:s=r
   ·subst e;rw[if_pos rfl,if_pos ⟨rfl,mq⟩]
   ·rw[if_neg e,if_neg (fun h=>e h.1)]
  ·show K.use s≤(K.us.set r (K.use r+1)).getD s 0
   rw[g2];split
   ·rename_i e;subst e;omega
   ·exact Nat.le_refl _
  ·show 0<(K.us.set r (K.use r+1)).getD r 0
   rw[g2,if_pos rfl];omega
 ·have hM:=Uw.keep (r:=r) (cZ:=K.us) (cI:=K.ho.set r (K.hold r+1)) ⟨d,hd⟩ zo (by simp) (by rw[g1,if_pos rfl]) (fun s hs=>by rw[g1,if_neg hs]) (by show K.use r=_;rw[if_neg (by omega)];rfl) (fun s hs=>rfl)
  refine JE.mk (fin {K with ho:=K.ho.set r (K.hold r+1)} _ ⟨{b with CH:=M6},rfl,{hO with ho:=oS,ul:=by simp;exact Hx}⟩ hM OR ⟨rfl,rfl,rfl,rfl,fun s=>?_⟩ (fun _=>Nat.le_refl _) (fun _=>?_))
  rotate_left
  ·show 0<K.use r
   rw[Uw.use hd,if_neg (by omega)];omega
  show(K.ho.set r (K.hold r+1)).getD s 0=_
  rw[g1]
  by_cases e:s=r
  ·subst e;rw[if_pos rfl,if_pos ⟨rfl,mq⟩]
  ·rw[if_neg e,if_neg (fun h=>e h.1)]
theorem pz(h:cK kp K S ord ah tr C){r:Nat}(hl:live K.N r)(hf:2≤r→K.hold r<65535):Fc Tryz.prog 121 #[ptr kp,u32 r] C (fun v C'=>v=.int .i64 0∧∃K',cK kp K' S ord ah [] C'∧PZ K K' r):=by
 refine(y6 h.rep h.ok.mid h.idle hl hf).mono ?_
 rintro v C' ⟨rfl,K',iO,S9,s8,hm,hu,hp⟩
 refine⟨rfl,K',⟨iO,⟨S9,fun s d hs=>?_,by rw[hm.n];exact h.ok.lv,by rw[hm.n,hm.N];exact h.ok.wf⟩,by rw[hm.n];exact h.od,s8,trivial⟩,hm⟩
 rw[hm.N]at hs
 exact Nat.lt_of_lt_of_le (h.ok.pos s d hs) (hu s)
end
section
variable {kp:Nat} {K:Kd} {ord ah tr:List Nat} {C:Hp} {S:Nat→aE.Fn}
theorem Fq{K':Kd}{P:Nat→Nat}(hw:WF K.n (lv ah) K.N)(hM:iP K' S gS P)(hN:∀{s d},K'.N s=some d→K.N s=some d)(hn:K'.n=K.n):WF K'.n (lv ah) K'.N:=by
 have same:∀{t},live K'.N t→dep K'.n (lv ah) K'.N t=dep K.n (lv ah) K.N t:=fun{t} ht=>by
  cases e:K'.N t with
  |some f=>rw[ay e,ay (hN e)]
  |none=>
   have Nl:t<2:=by
    rcases ht with ht|⟨f,hf⟩
    ·exact ht
    ·rw[e]at hf;cases hf
   rw[aU e,aU (hw.const Nl),hn]
 refine hM.wf fun{s d} hs=>?_
 rw[same (hM.lo hs),same (hM.hi hs)]
 exact⟨(hw.lo (hN hs)).2,(hw.hi (hN hs)).2⟩
structure wv(K K':Kd)(r:Nat):Prop where
 n:K'.n=K.n
 cap:K'.cap=K.cap
 N:∀s d,K'.N s=some d→K.N s=some d
 hold:∀s,K'.hold s=if s=r∧2≤r then K.hold s-1 else K.hold s
theorem W5(h:cK kp K S ord ah tr C){r:Nat}(hr:r<4294967296)(h2:2≤r)(h0:K.hold r=0):Rd Tryz.prog 131 #[ptr kp,u32 r] C (· =.int .i64 3):=by
 intro g
 refine tX (R:=aA _) ?_
 unfold L131
 refine ae.bJ (Br.no ?_)
 intro J2 _
 refine ae.kB (b:=1) (Br.fc (by omega) ?_)
 refine af.rd .here (sU h.rep hr (fun s=>by have:=h.ju s;omega)) ?_
 rintro w rfl
 rw[h0]
 exact ae.jF (Br.fc rfl (cz.mk (.refl _) rfl))
theorem pJ(h:cK kp K S ord ah tr C){r:Nat}(hr:r<4294967296)(hh:2≤r→K.hold r≠0):Fc Tryz.prog 131 #[ptr kp,u32 r] C (fun v C'=>v=.int .i64 0∧∃K',cK kp K' S ord ah [] C'∧wv K K' r):=by
 have h0:=h
 obtain⟨b,hC,hO⟩:=h.rep
 intro g
 refine tX (R:=aA _) ?_
 unfold L131
 refine ae.bJ (Br.no ?_)
 intro J2 zw
 have fin:∀(K':Kd) C1,cC kp K' ord ah tr C1→Ok K' S (lv ah)→Idle K'→wv K K' r→J2 [] C1:=fun K' C1 iO xu s8 hm=>by
  refine zw _ fun gs=>?_
  obtain⟨b',rfl,uT⟩:=iO
  refine Nil.ptr (aa.mk (St.one (by exact .head _) rfl (by simp[rH.cells]) rfl ?_))
  have jD:Ord K'.n (lv ah) ord:=by rw[hm.n];exact h.od
  refine aA.mk (lR:=({b' with vt:=.slice none 0 0,CR:=[]}:rH).hp kp K'.n) ?_ ⟨rfl,K',⟨⟨{b' with vt:=.slice none 0 0,CR:=[]},rfl,{uT with tr:=aN.nil}⟩,xu,jD,s8,trivial⟩,hm⟩
  refine .cons (.dr (.dr (.dr (.dr (.dr (.dr .nil _) _) _) _) _) _)
 refine ae.kB (b:=1) (Br.dec (fun h2=>?_) (fun h2=>?_))
 rotate_left
 ·exact JE.mk (fin K C h.rep h.ok h.idle ⟨rfl,rfl,fun _ _ h=>h,fun s=>by rw[if_neg (by omega)]⟩)
 have mq:2≤r:=by omega
 have oS:=hh mq
 obtain⟨d,hd⟩:=h.ok.mid.held r oS
 have V8:=h.ok.mid.fit hd
 have Hx:=hO.ul
 have hfit:r<K.ho.length:=by omega
 have hle:=h.ju r
 refine af.rd .here (sU h.rep hr (fun s=>by have:=h.ju s;omega)) ?_
 rintro w rfl
 refine ae.jF (Br.bt (by omega) ?_)
 subst hC
 refine Nil.ptr (aa.mk (aa.mk (Ld.mk (v:=b.vh) (by exact .head _) rfl ?_)))
 refine hO.ho.ld (x:=((K.hold r:Nat):Int)) (bc hfit) (bS.sub (.cons (.app (.app (.app .left))))) ?_
 refine ae.bH (b:=1) (by simp[aB];omega) (by omega) ?_
 refine hO.ho.jC (x:=((K.hold r-1:Nat):Int)) (.cons (.app (.app (.app .left)))) (by rw[ak];exact hfit) fun M6 SE=>?_
 rw[e7]at SE
 have g1:∀s,(K.ho.set r (K.hold r-1)).getD s 0=if s=r then K.hold r-1 else K.hold s:=fun s=>fX hfit
 have hM:=h.ok.mid.drop (r:=r) (cI:=K.ho.set r (K.hold r-1)) (by omega) (by simp) (by rw[g1,if_pos rfl];omega) (fun s hs=>by rw[g1,if_neg hs])
 have fp:cC kp {K with ho:=K.ho.set r (K.hold r-1)} ord ah tr (({b with CH:=M6}:rH).hp kp K.n):=⟨_,rfl,{hO with ho:=SE,ul:=by simp;exact Hx}⟩
 have V4:∀s,(K.ho.set r (K.hold r-1)).getD s 0=if s=r∧2≤r then K.hold s-1 else K.hold s:=fun s=>by
  rw[g1]
  by_cases e:s=r
  ·subst e;rw[if_pos rfl,if_pos ⟨rfl,mq⟩]
  ·rw[if_neg e,if_neg (fun h=>e h.1)]
 refine Nil.ptr (aa.mk (aa.mk (Ld.mk (v:=b.vh) (by exact .head _) rfl ?_)))
 refine SE.ld (x:=((K.hold r-1:Nat):Int)) (by rw[bc (by simpa using hfit),g1,if_pos rfl]) (bS.sub (.cons (.app (.app (.app .left))))) ?_
 refine ae.eB (b:=0) (Br.dec (fun h3=>?_) (fun h3=>?_))
 rotate_left
 ·rw[if_neg (by omega)]at hM
  exact JE.mk (fin {K with ho:=K.ho.set r (K.hold r-1)} _ fp ⟨hM,h.ok.pos,h.ok.lv,h.ok.wf⟩ h.idle ⟨rfl,rfl,fun _ _ h=>h,V4⟩)
 rw[if_pos (by omega)]at hM
 refine Nil.ptr (aa.mk ?_)
 have FJ:iP {K with ho:=K.ho.set r (K.hold r-1)} S gS (fY zero' [r]):=hM.congr (fun _=>Iff.rfl) fun s _=>by
  unfold up fY zero'
  by_cases e:s=r
  ·subst e;simp
  ·simp[e,Ne.symm e]
 refine af.fn .here (kL (P0:=zero') fp FJ h.ok.pos (fun t LY h0=>?_) (h.bZ (.inr ⟨d,hd⟩)) (fun s=>by have:=h.A2 s;show K.use s<_;omega)) ?_
 ·by_cases e:t=r
  ·subst e;exact⟨d,hd⟩
  ·have UB:0<zero' t+[r].count t:=h0
   simp[zero',Ne.symm e]at UB
 rintro w C2 ⟨rfl,K2,dM,O5,Sp,_,dD⟩
 refine JE.mk (fin K2 _ dM ⟨O5,Sp,by rw[dD.n];exact h.ok.lv,Fq h.ok.wf O5 (fun h=>dD.N h) dD.n⟩ (dD.idle h.idle) ⟨dD.n,dD.cap,fun s e hs=>dD.N hs,fun s=>?_⟩)
 show K2.ho.getD s 0=_
 rw[dD.ho]
 exact V4 s
structure nZ(K:Kd)(S:Nat→aE.Fn)(K':Kd)(S':Nat→aE.Fn)(f:aE.Fn)(r:Nat):Prop where
 n:K'.n=K.n
 cap:K'.cap=K.cap
 used:K'.used≤K.used+1
 N:∀s d,K.N s=some d→K'.N s=some d
 fn:∀s,live K.N s→S' s=S s
 live:live K'.N r
 is:S' r=f
 hold:∀s,K'.hold s=if s=r∧2≤r then K.hold s+1 else K.hold s
theorem xg(h:cK kp K S ord ah tr C){v lo hi:Nat}(hv:v<K.n)(hlo:live K.N lo)(hhi:live K.N hi)(hlt:lo=hi∨(lv ah v<dep K.n (lv ah) K.N lo∧lv ah v<dep K.n (lv ah) K.N hi)):
  Fc Tryz.prog 164 #[ptr kp,.int .i64 (v:Int),u32 lo,u32 hi] C (fun w C'=>
   (∃r K' S',w=.tuple #[u32 r,.int .i64 0]∧cK kp K' S' ord ah [] C'∧nZ K S K' S' (ite S ⟨v,lo,hi⟩) r)∨
   (∃r,w=.tuple #[u32 0,.int .i64 8]∧C'=C∧live K.N r∧2≤r∧K.hold r=65535∧S r=ite S ⟨v,lo,hi⟩)∨
   (w=.tuple #[u32 0,.int .i64 9]∧C'=C∧K.cap≤K.used∧lo≠hi∧K.T ⟨v,lo,hi⟩=none)):=by
 have h0:=h
 have afN:=h.bZ hlo
 have af0:=h.bZ hhi
 have HA:=bM.2 hlo
 have xw:=bM.2 hhi
 have hfe:qX K ah (v:Int) lo hi=0:=by
  unfold qX
  rw[if_neg (by omega),if_neg (by rw[HA,xw];simp),if_neg]
  rintro⟨hne,hmin⟩
  rcases hlt with e|⟨a,b⟩
  ·exact hne e
  ·simp only[Int.toNat_natCast,lv]at hmin a b;omega
 intro g
 refine Ed (R:=aA _) ?_
 unfold L164
 refine ae.bJ (Br.no ?_)
 refine af.rd .here (Pp h.rep (v:Int) (by omega) (by omega) (fun r d hd=>⟨h.ok.mid.var hd,(h.ok.mid.two hd).1⟩)) ?_
 rintro w rfl
 rw[hfe]
 refine ae.dO (Br.bt (by simp) ?_)
 refine af.rd .here (NY h.rep (lo:=lo) (hi:=hi) hv) ?_
 rintro w hw
 have there:∀(J9:List Value→Hp→Prop),(∀fL:Value,∀dy:Hp,(∀tf:Fr,af Tryz.prog g 121 #[ptr kp,fL] dy (fun aZ gg=>ae .num .neq aZ (Value.int .i64 0) fun bA=>Br bA
   (aA (fun w C'=>(∃r K' S',w=.tuple #[u32 r,.int .i64 0]∧cK kp K' S' ord ah [] C'∧nZ K S K' S' (ite S ⟨v,lo,hi⟩) r)∨
   (∃r,w=.tuple #[u32 0,.int .i64 8]∧C'=C∧live K.N r∧2≤r∧K.hold r=65535∧S r=ite S ⟨v,lo,hi⟩)∨
   (w=.tuple #[u32 0,.int .i64 9]∧C'=C∧K.cap≤K.used∧lo≠hi∧K.T ⟨v,lo,hi⟩=none)) (.returned (.tuple #[(Value.int .u32 0),aZ])) gg) (aA (fun w C'=>(∃r K' S',w=.tuple #[u32 r,.int .i64 0]∧cK kp K' S' ord ah [] C'∧nZ K S K' S' (ite S ⟨v,lo,hi⟩) r)∨
   (∃r,w=.tuple #[u32 0,.int .i64 8]∧C'=C∧live K.N r∧2≤r∧K.hold r=65535∧S r=ite S ⟨v,lo,hi⟩)∨
   (w=.tuple #[u32 0,.int .i64 9]∧C'=C∧K.cap≤K.used∧lo≠hi∧K.T ⟨v,lo,hi⟩=none)) (.returned (.tuple #[fL,(Value.int .i64 0)])) gg)) (au (aA (fun w C'=>(∃r K' S',w=.tuple #[u32 r,.int .i64 0]∧cK kp K' S' ord ah [] C'∧nZ K S K' S' (ite S ⟨v,lo,hi⟩) r)∨
   (∃r,w=.tuple #[u32 0,.int .i64 8]∧C'=C∧live K.N r∧2≤r∧K.hold r=65535∧S r=ite S ⟨v,lo,hi⟩)∨
   (w=.tuple #[u32 0,.int .i64 9]∧C'=C∧K.cap≤K.used∧lo≠hi∧K.T ⟨v,lo,hi⟩=none)))))→J9 [fL] dy)→
   ∀r,live K.N r→S r=ite S ⟨v,lo,hi⟩→J9 [u32 r] C:=fun J9 LX r hr hS=>by
  refine LX _ _ fun gs=>?_
  by_cases hf:2≤r∧K.hold r=65535
  ·refine af.rd .here (Ht h hr hf.1 hf.2) ?_
   rintro w rfl
   exact ae.dO (Br.fc (by simp) (aA.here (.inr (.inl ⟨r,rfl,rfl,hr,hf.1,hf.2,hS⟩))))
  ·refine af.fn .here (pz h hr (fun h2=>by have:=h.ju r;omega)) ?_
   rintro w C' ⟨rfl,K',iO,hm⟩
   refine ae.dO (Br.bt (by simp) (aA.here (.inl ⟨r,K',S,rfl,iO,⟨hm.n,hm.cap,by rw[hm.used];omega,fun s d hs=>by rw[hm.N];exact hs,fun _ _=>rfl,by rw[hm.N];exact hr,hS,hm.hold⟩⟩)))
 by_cases he:lo=hi
 ·rw[if_pos he]at hw
  subst hw
  refine Ext.mk rfl (Ext.mk rfl ?_)
  intro J9 LX
  refine Un.not (Br.no (JE.mk (there J9 LX lo hlo ?_)))
  funext z
  unfold aE.ite
  simp[he]
 rw[if_neg he]at hw
 have ic:lv ah v<dep K.n (lv ah) K.N lo∧lv ah v<dep K.n (lv ah) K.N hi:=by
  rcases hlt with e|e
  ·exact absurd e he
  ·exact e
 obtain⟨o,ho⟩:∃o,o=K.T ⟨v,lo,hi⟩:=⟨_,rfl⟩
 cases o with
 |some r=>
  have hT:K.T ⟨v,lo,hi⟩=some r:=ho.symm
  rw[hT]at hw
  subst hw
  refine Ext.mk rfl (Ext.mk rfl ?_)
  intro J9 LX
  have hN:=((h.ok.mid.iJ _ r).1 hT).1
  refine Un.not (Br.no (JE.mk (there J9 LX r (.inr ⟨_,hN⟩) ?_)))
  funext z
  rw[h.ok.mid.int.node hN]
  rfl
 |none=>
  have hT:K.T ⟨v,lo,hi⟩=none:=ho.symm
  rw[hT]at hw
  subst hw
  refine Ext.mk rfl (Ext.mk rfl ?_)
  intro J9 LX
  refine Un.not (Br.yes (Nil.ptr (aa.mk ?_)))
  have hcap:=h.ok.mid.cap
  refine af.rd .here (y3 h.rep (m:=1) (by omega) (by omega)) ?_
  rintro w rfl
  refine Un.not ?_
  by_cases hroom:K.used+1≤K.cap
  rotate_left
  ·rw[decide_eq_false hroom]
   exact Br.yes (aA.here (.inr (.inr ⟨rfl,rfl,by omega,he,hT⟩)))
  rw[decide_eq_true hroom]
  refine Br.no (Nil.ptr (aa.mk ?_))
  refine Build.mk (cs:=aP ⟨v,lo,hi⟩) (by kernel_rfl) ?_
  have hfit:∀{t:Nat},live K.N t→t<2∨t<K.us.length:=fun ht'=>by
   rcases ht' with ht'|⟨d,cV⟩
   ·exact .inl ht'
   ·exact .inr (h.ok.mid.fit cV)
  have zk:K.n≤64:=by obtain⟨_,_,hO⟩:=h.rep;exact hO.Ax
  refine af.fn .here (E7 h.rep (d:=⟨v,lo,hi⟩) ⟨by show v<64;omega,hlo,hhi⟩ hv hT (by omega) (hfit hlo) (hfit hhi) (fun s=>by have:=h.A2 s;omega)) ?_
  rintro w C1 ⟨r,cZ,cI,rfl,hN,h2,hrc,hlen,Z5,Hx,u0,u1,u2,o0,o1,fp⟩
  have HK:=h.ok.mid.lay (r:=r) (d:=⟨v,lo,hi⟩) hN ⟨h2,hrc⟩ hv he hlo hhi hT (fun h=>h) rfl (by omega) hlen ⟨Z5,Hx⟩ u0 u1 o0 o1
  have aa1:∀s d,K.N s=some d→up K.N r (some ⟨v,lo,hi⟩) s=some d:=fun s d hs=>by rw[aJ (fun e=>by rw[e,hN]at hs;cases hs)];exact hs
  have hne:∀{t:Nat},live K.N t→t≠r:=fun ht=>fo ht h2 hN
  have Lw:Idle {K with N:=up K.N r (some ⟨v,lo,hi⟩),T:=oQ K.T ⟨v,lo,hi⟩ (some r),used:=K.used+1,us:=cZ,ho:=cI}:=fun s hs=>by
   have hs':up K.N r (some ⟨v,lo,hi⟩) s=none:=hs
   have Si:s≠r:=fun e=>by subst e;rw[aI]at hs';cases hs'
   rw[aJ Si]at hs'
   show cZ.getD s 0=0
   by_cases Uy:2≤s
   ·rw[u1 s Uy Si,h.idle s hs',dN]
    have a1:lo≠s:=fun e=>by
     rcases hlo with h5|⟨d,h5⟩
     ·omega
     ·rw[e,hs']at h5;cases h5
    have a2:hi≠s:=fun e=>by
     rcases hhi with h5|⟨d,h5⟩
     ·omega
     ·rw[e,hs']at h5;cases h5
    simp[a1,a2]
   ·rw[u2 s (by omega),h.idle s hs']
  refine JE.mk (LX _ _ fun gs=>?_)
  refine af.fn .here (y6 fp HK Lw (r:=r) (.inr ⟨_,aI⟩) (fun _=>by show cI.getD r 0<65535;rw[o0];omega)) ?_
  rintro w C2 ⟨rfl,K2,dM,FJ,BH,hm,hu,hp⟩
  refine ae.dO (Br.bt (by simp) ?_)
  have OM:K2.n=K.n:=hm.n
  have S8:K2.N=up K.N r (some ⟨v,lo,hi⟩):=hm.N
  have hpos:Pos K2:=fun s d hs=>by
   by_cases e:s=r
   ·rw[e];exact hp h2
   ·rw[S8,aJ e]at hs
    have h3:=hu s
    have h4:({K with N:=up K.N r (some ⟨v,lo,hi⟩),T:=oQ K.T ⟨v,lo,hi⟩ (some r),used:=K.used+1,us:=cZ,ho:=cI}:Kd).use s=cZ.getD s 0:=rfl
    rw[h4,u1 s (h.ok.mid.two hs).1 e]at h3
    have:=h.ok.pos s d hs
    omega
  have xx:∀{t:Nat},live K.N t→dep K2.n (lv ah) K2.N t=dep K.n (lv ah) K.N t:=fun{t} ht=>by
   rw[S8,OM]
   unfold dep
   rw[aJ (hne ht)]
  have ZP:WF K2.n (lv ah) K2.N:=FJ.wf fun{s d} hs=>by
   rw[S8]at hs
   by_cases e:s=r
   ·rw[e,aI]at hs;cases hs
    rw[xx hlo,xx hhi];exact ic
   ·rw[aJ e]at hs
    rw[xx (h.ok.wf.lo hs).1,xx (h.ok.wf.hi hs).1]
    exact⟨(h.ok.wf.lo hs).2,(h.ok.wf.hi hs).2⟩
  have hS:∀s,live K.N s→up S r (ite S ⟨v,lo,hi⟩) s=S s:=fun s hs=>aJ (hne hs)
  refine aA.here (.inl ⟨r,K2,up S r (ite S ⟨v,lo,hi⟩),rfl,⟨dM,⟨FJ,hpos,by rw[OM];exact h.ok.lv,ZP⟩,by rw[OM];exact h.od,BH,trivial⟩,⟨OM,hm.cap,by rw[hm.used];exact Nat.le_refl _,fun s d hs=>by rw[S8];exact aa1 s d hs,hS,.inr ⟨_,by rw[S8];exact aI⟩,aI,fun s=>?_⟩⟩)
  rw[hm.hold]
  show(if s=r∧2≤r then cI.getD s 0+1 else cI.getD s 0)=_
  by_cases e:s=r
  ·subst e
   rw[if_pos ⟨rfl,h2⟩,if_pos ⟨rfl,h2⟩,o0]
   have:K.hold s=0:=by
    apply Decidable.byContradiction
    intro hne
    obtain⟨d,hd⟩:=h.ok.mid.held s hne
    rw[hN]at hd;cases hd
   omega
  ·rw[if_neg (fun h=>e h.1),if_neg (fun h=>e h.1),o1 s e]
end
theorem hnew{H:Hp}:bS [] H (fun X=>X++H):=bS.left
theorem Lh{n:Nat}(hn:n≤64):Fc Tryz.prog 185 #[.int .i64 (n:Int)] [] (fun v H=>aN 3 .i64 v (iw (List.range n)) H):=by
 intro g
 refine D5 (R:=aA _) ?_
 unfold L185
 refine cX.ints (by omega) (by omega) fun b=>?_
 have h0:aN 3 .i64 (.slice (some ⟨b,0,none⟩) n n) (List.replicate n 0) [(b,.cells (ax .i64 (List.replicate n 0)) 3 (0,0))]:=by
  have:=aN.made (T:=3) (kd:=.i64) (b:=b) (List.replicate n (0:Int))
  rw[List.length_replicate]at this;exact this
 refine⟨fun vs H=>∃j:Nat,vs=[.int .i64 (j:Int)]∧j≤n∧aN 3 .i64 (.slice (some ⟨b,0,none⟩) n n) (iw (List.range j)++List.replicate (n-j) 0) H,fun vs _=>n-bG vs 0,JE.mk ⟨0,rfl,by omega,by simpa[iw]using h0⟩,?_⟩
 rintro w H ⟨j,hw,hj,hs⟩ gs
 simp only[List.cons.injEq,and_true]at hw
 subst hw
 refine ae.eA (Br.dec (fun hlt=>?_) (fun hlt=>?_))
 ·refine hs.jC (x:=(j:Int)) .here (by simp;omega) fun C' hs'=>?_
  refine ae.aL (b:=1) (by simp[aB];omega) ?_
  have e:(iw (List.range j)++List.replicate (n-j) 0).set j (j:Int)=iw (List.range (j+1))++List.replicate (n-(j+1)) 0:=by
   rw[List.set_append_right _ _ (by simp)]
   rw[show n-j=(n-(j+1))+1 by omega,List.replicate_succ,List.range_succ,cm]
   simp[iw]
  rw[e]at hs'
  exact aD.of (.refl _) ⟨j+1,rfl,by omega,hs'⟩ (by show n-(((j+1:Nat):Int).toNat)<n-(((j:Nat):Int).toNat);omega)
 ·obtain rfl:j=n:=by omega
  exact aA.here (by simpa using hs)
theorem y9{n:Nat}(hn:n≤64):Fc Tryz.prog 116 #[.int .i64 (n:Int)] [] (fun v H=>∃s,v=.tuple #[s,.int .i64 0]∧aN 3 .i64 s (iw (List.range n)) H):=by
 intro g
 refine EF (R:=aA _) ?_
 unfold L116
 refine ae.lss ?_
 rw[decide_eq_false (by omega)]
 refine bT.or false (fun _=>ae.gtr ⟨rfl,by rw[decide_eq_false (by omega)]⟩) rfl fun _=>Br.no ?_
 refine af.fn .here (Lh hn) ?_
 intro s H hs
 exact aA.here ⟨s,rfl,hs⟩
def K0(n cap:Nat):Kd:=⟨n,cap,2,fun _=>none,fun _=>none,[],[]⟩
def S0:Nat→aE.Fn:=fun r _=>decide (r=1)
theorem me{n v:Nat}(hv:v<n):lv (List.range n) v=v:=by
 show(List.range n).getD v 0=v
 simp[List.getD,hv]
theorem XC{n cap:Nat}(hc:2≤cap∧cap≤1048576):Ok (K0 n cap) S0 (lv (List.range n)):=by
 have c0:∀k,lK (fun _=>none) k=0:=fun k=>by induction k with|zero=>rfl|succ k ih=>rw[lK,ih];rfl
 have hm:iP (K0 n cap) S0 gS zero':={
  two:=fun h=>nomatch h
  var:=fun h=>nomatch h
  ne:=fun h=>nomatch h
  lo:=fun h=>nomatch h
  hi:=fun h=>nomatch h
  int:=⟨fun _=>rfl,fun _=>rfl,fun h=>nomatch h⟩
  iJ:=fun d r=>⟨fun h=>(nomatch h),fun h=>nomatch h.1⟩
  use:=fun h=>nomatch h
  len:=rfl
  fit:=fun h=>nomatch h
  held:=fun r h=>absurd (by simp[Kd.hold,K0]) h
  mx:=fun r=>by simp[Kd.hold,K0]
  room:=by show 2=2+lK (fun _=>none) _;rw[c0]
  cap:=hc}
 refine⟨hm,fun r d h=>(nomatch h),⟨fun v hv=>?_,fun u v hu hv h=>?_⟩,⟨fun h=>(nomatch h),fun h=>(nomatch h),fun h=>(nomatch h),fun h=>(nomatch h),fun h=>(nomatch h),fun h=>(nomatch h)⟩⟩
 ·have Ay:v<n:=hv
  rw[me Ay];exact hv
 ·have xp:u<n:=hu
  have Ay:v<n:=hv
  rwa [me xp,me Ay]at h
theorem yQ{pt n cap:Nat}{CT:Hp}(hu:nY pt n (fun _=>none) CT)(hc:2≤cap∧cap≤1048576):Fc Tryz.prog 118 #[.int .i64 (cap:Int),ptr pt] CT (fun v H=>∃pa CA,v=.tuple #[.agg #[ptr pa,ptr pt,.slice none 0 0,.slice none 0 0],.int .i64 0]∧gY pa cap 2 (fun _=>none) CA∧H=CA++CT):=by
 intro g
 refine ED (R:=aA _) ?_
 unfold L118
 intro b1 _
 refine af.fn hnew (PR hc) ?_
 rintro v C ⟨pa,rfl,hA⟩
 refine Ext.mk rfl (Ext.mk rfl ?_)
 refine Build.mk (cs:=[ptr pa,ptr pt,.slice none 0 0,.slice none 0 0]) (by kernel_rfl) ?_
 refine St.whole (r:=[ptr pa,ptr pt,.slice none 0 0,.slice none 0 0]) (dR.dK (.head _) _) rfl rfl (by simp[Value.oneCell']) ?_
 refine aC.whole (r:=[ptr pa,ptr pt,.slice none 0 0,.slice none 0 0]) (by exact List.mem_append_right _ (.head _)) rfl ?_
 exact aA.mk (.dr .tail _) ⟨pa,C,rfl,hA,rfl⟩
theorem RM{n cap:Nat}(hn:1≤n∧n≤64)(hc:2≤cap∧cap≤1048576):Fc Tryz.prog 51 #[.int .i64 (n:Int),.int .i64 (cap:Int)] [] (fun v C=>∃kp,v=.tuple #[ptr kp,.int .i64 0]∧cK kp (K0 n cap) S0 (List.range n) (List.range n) [] C):=by
 intro g
 refine ID (R:=aA _) ?_
 unfold L51
 refine af.fn .here (y9 hn.2) ?_
 rintro v CO ⟨s,rfl,hO⟩
 obtain⟨sa,sl,sc,hse⟩:∃a l c,s=Value.slice a l c:=by obtain⟨a,c,h⟩:=aR.len hO;exact⟨a,_,c,h⟩
 refine Ext.mk rfl (Ext.mk rfl ?_)
 refine ae.dO ?_
 refine bT.or false (fun _=>ae.lss ⟨rfl,by rw[decide_eq_false (by omega)]⟩) rfl fun gs=>?_
 refine bT.or false (fun _=>ae.lss ⟨rfl,by rw[decide_eq_false (by omega)]⟩) rfl fun gs=>?_
 refine bT.or false (fun _=>ae.gtr ⟨rfl,by rw[decide_eq_false (by omega)]⟩) rfl fun gs=>Br.no ?_
 refine af.fn hnew (NM hn) ?_
 rintro v CT ⟨pt,rfl,hT⟩
 refine Ext.mk rfl (Ext.mk rfl ?_)
 refine ae.dO (Br.no ?_)
 refine af.fn .left (yQ hT hc) ?_
 rintro v H ⟨pa,CA,rfl,hA,rfl⟩
 refine Ext.mk rfl (Ext.mk rfl ?_)
 intro TA _
 refine St.whole (r:=[ptr pa,ptr pt,.slice none 0 0,.slice none 0 0]) (by exact .head _) rfl rfl (by simp[Value.oneCell']) ?_
 refine ae.dO (Br.no (DR.self ?_))
 refine aC.whole (r:=[ptr pa,ptr pt,.slice none 0 0,.slice none 0 0]) (by exact .head _) rfl ?_
 refine af.fn (.cons (.app .here)) (tw (hO.ints.mono fun _ h=>h) (by simp;omega)) ?_
 rintro v H ⟨CL,rfl,hL⟩
 obtain⟨la,ll,lc,hle⟩:∃a l c,v=Value.slice a l c:=by obtain⟨a,c,h⟩:=aR.len hL;exact⟨a,_,c,h⟩
 refine⟨(.cons (.dr .right _)),?_⟩
 subst hse hle
 refine Build.mk (cs:=[ptr pa,ptr pt,.slice none 0 0,.slice none 0 0,.int .i64 (n:Int),.slice sa sl sc,.slice la ll lc,.slice none 0 0]) (by kernel_rfl) ?_
 intro pN _
 refine⟨(.skip (.cons (.dr .right _))),?_⟩
 let kb:rH:=⟨pa,pt,.slice none 0 0,.slice none 0 0,.slice sa sl sc,.slice la ll lc,.slice none 0 0,CA,CT,[],[],CO,CL,[]⟩
 refine aA.mk (lR:=kb.hp pN n) ?_ ⟨pN,rfl,⟨kb,rfl,⟨hA,hT,aN.nil,aN.nil,hO,hL,aN.nil,⟨rfl,by simp[K0]⟩,hn.2,by simp[K0]⟩⟩,XC hc,⟨by simp[K0],fun l hl=>?_⟩,fun s _=>by simp[Kd.use,K0],trivial⟩
 ·refine .cons (.skip ((aQ.assoc).trans ?_))
  show aQ (CA++(CT++(CL++CO))) (CA++(CT++([]++([]++(CO++(CL++[]))))))
  simp only[List.nil_append,List.append_nil]
  exact .dr (.dr (.perm List.perm_append_comm) _) _
 ·have hl':l<n:=hl
  have e:(List.range n).getD l 0=l:=me hl'
  rw[e];exact⟨hl,me hl'⟩
end Go.Proofs
namespace aE
def cE(ord path:List Nat):List Nat:=path.foldl ik ord
theorem p6{ord path:List Nat}{l:Nat}:cE ord (path++[l])=ik (cE ord path) l:=by simp[cE]
theorem Kh{ord path q:List Nat}:cE ord (path++q)=cE (cE ord path) q:=by simp[cE]
theorem gO{ord:List Nat}:∀{path:List Nat},(cE ord path).length=ord.length:=by
 intro path
 unfold cE
 induction path generalizing ord with
 |nil=>rfl
 |cons l r ih=>rw[List.foldl_cons,ih];simp[ik]
structure Rm where
 n:Nat
 size:List Nat→Nat
 fit:List Nat→Nat→Bool
def Rm.dH(m:Rm)(p:Nat):List Nat→List Nat→List Nat
 | [],_=>[]
 |c::cs,ord=>if m.fit ord (p+c)then(p+c)::m.dH p cs (ik ord (p+c))else []
theorem Rm.zD(m:Rm)(p:Nat):∀cs ord,(m.dH p cs ord).length≤cs.length
 | [],_=>by simp[dH]
 |c::cs,ord=>by
  rw[dH]
  split
  ·have:=m.zD p cs (ik ord (p+c));simp only[List.length_cons];omega
  ·simp
theorem Rm.zE(m:Rm)(p:Nat):∀cs ord i,i<(m.dH p cs ord).length→(m.dH p cs ord)[i]? =(cs[i]?).map (p+ ·)∧∃c,cs[i]? =some c∧m.fit (cE ord ((m.dH p cs ord).take i)) (p+c)=true
 | [],_,i,h=>by simp[dH]at h
 |c::cs,ord,i,h=>by
  by_cases hf:m.fit ord (p+c)=true
  ·rw[dH,if_pos hf]at h⊢
   cases i with
   |zero=>exact⟨by simp,c,rfl,hf⟩
   |succ i=>
    obtain⟨h1,c',h2,h3⟩:=m.zE p cs (ik ord (p+c)) i (by simpa using h)
    exact⟨by simpa using h1,c',by simpa using h2,by simpa[cE]using h3⟩
  ·rw[dH,if_neg hf]at h;simp at h
theorem Rm.zF(m:Rm)(p:Nat):∀cs ord c,cs[(m.dH p cs ord).length]? =some c→m.fit (cE ord (m.dH p cs ord)) (p+c)=false
 | [],_,c,h=>by simp at h
 |c'::cs,ord,c,h=>by
  by_cases hf:m.fit ord (p+c')=true
  ·rw[dH,if_pos hf]at h⊢
   have:=m.zF p cs (ik ord (p+c')) c (by simpa using h)
   simpa[cE]using this
  ·rw[dH,if_neg hf]at h⊢
   simp only[List.length_nil,List.getElem?_cons_zero,Option.some.injEq]at h
   subst h
   simpa[cE]using hf
end aE
set_option maxRecDepth 100000
namespace Go.Proofs
open Go Go.Sx
open aE
def At(kp:Nat)(K:Kd)(S:Nat→aE.Fn)(ord tr:List Nat)(C:Hp):Prop:=∃K' S' dL,cK kp K' S' ord dL tr C∧Kept K S K' S'
noncomputable def gm(K:Kd)(S:Nat→aE.Fn)(ord:List Nat):Nat:=sz K.n ord (K.held S)
def nD(K:Kd)(S:Nat→aE.Fn)(ord:List Nat)(l:Nat):Prop:=yu K.n ord l (K.held S)+2≤K.cap
section
variable {kp:Nat} {K:Kd} {S:Nat→aE.Fn} {ord tr:List Nat} {C:Hp}
theorem cK.kC{ah:List Nat}(h:cK kp K S ord ah tr C):At kp K S ord tr C:=⟨K,S,ah,h,.refl _ _⟩
theorem y2{ah:List Nat}(h:cK kp K S ord ah tr C):K.used=gm K S ord+2:=by
 have h1:=Qa (h.ok.size h.od)
 have h2:=h.ok.mid.room
 unfold gm
 omega
theorem y5{K':Kd}{S':Nat→aE.Fn}(h:Kept K S K' S')(ord:List Nat):gm K' S' ord=gm K S ord:=by
 unfold gm;rw[h.n];exact Kf h.held
theorem vJ{K':Kd}{S':Nat→aE.Fn}(h:Kept K S K' S')(ord:List Nat)(l:Nat):nD K' S' ord l↔nD K S ord l:=by
 unfold nD;rw[h.n,h.cap,GH h.held]
theorem At.len(h:At kp K S ord tr C):ord.length=K.n:=by
 obtain⟨K',S',dL,h,hk⟩:=h
 rw[←hk.n];exact h.od.len
theorem B6(h:At kp K S ord tr C):gm K S ord≤1048574:=by
 obtain⟨K',S',dL,h,hk⟩:=h
 rw[←y5 hk];have:=y2 h;have:=h.ok.mid.cap;omega
theorem At.Ax(h:At kp K S ord tr C):K.n≤64:=by
 obtain⟨K',S',dL,h,hk⟩:=h
 obtain⟨b,_,hO⟩:=h.rep
 rw[←hk.n];exact hO.Ax
theorem pO(h:At kp K S ord tr C):Rd Tryz.prog 15 #[ptr kp] C (· =.int .i64 ((gm K S ord:Nat):Int)):=by
 obtain⟨K',S',dL,h,hk⟩:=h
 have hs:=y2 h
 have hc:=h.ok.mid.cap
 refine(rR h.rep (by omega) (by omega)).mono ?_
 rintro v H ⟨rfl,rfl⟩
 exact⟨rfl,by rw[hs,y5 hk];rfl⟩
theorem tD(h:At kp K S ord tr C):Rd Tryz.prog 34 #[ptr kp] C (· =.int .i64 ((tr.length:Nat):Int)):=by
 obtain⟨K',S',dL,h,hk⟩:=h
 exact Hs h.rep
theorem F5(h:At kp K S ord tr C):Rd Tryz.prog 61 #[ptr kp] C (· =.int .i64 ((K.n:Nat):Int)):=by
 obtain⟨K',S',dL,h,hk⟩:=h
 rw[←hk.n];exact gU h.rep
theorem MF(h:At kp K S ord tr C):Fc Tryz.prog 13 #[ptr kp] C (fun r H=>∃N,H=N++C∧aN 3 .i64 r (iw ord) N):=by
 obtain⟨K',S',dL,h,hk⟩:=h
 exact qi h.rep
theorem PK(h:At kp K S ord tr C){l:Nat}(hl:l+1<K.n)(qR:tr.length<1099511627776)(hf:nD K S ord l):Fc Tryz.prog 17 #[ptr kp,.int .i64 (l:Int)] C (fun r C'=>r=.int .i64 0∧At kp K S (ik ord l) (tr++[l]) C'):=by
 obtain⟨K',S',dL,h,hk⟩:=h
 refine(FN h (by rw[hk.n];exact hl) qR).mono ?_
 rintro v C' (⟨_,rfl,K2,S2,RQ,h2,sZ⟩|⟨hno,_,_⟩)
 ·exact⟨rfl,K2,S2,RQ,h2,hk.trans sZ⟩
 ·have:=(vJ hk ord l).2 hf
  unfold nD at this;omega
theorem B7(h:At kp K S ord tr C){l:Nat}(hl:l+1<K.n)(qR:tr.length<1099511627776)(hf:¬nD K S ord l):Rd Tryz.prog 17 #[ptr kp,.int .i64 (l:Int)] C (· =.int .i64 9):=by
 obtain⟨K',S',dL,h,hk⟩:=h
 refine(FN h (by rw[hk.n];exact hl) qR).mono ?_
 rintro v C' (⟨ZN,_⟩|⟨hno,rfl,rfl⟩)
 ·exact absurd ((vJ hk ord l).1 ZN) hf
 ·exact⟨rfl,rfl⟩
theorem PJ{l:Nat}(h:At kp K S ord (tr++[l]) C)(qR:tr.length<1099511627776):Fc Tryz.prog 18 #[ptr kp] C (fun r C'=>r=.tuple #[.int .i64 (l:Int),.int .i64 0]∧At kp K S (ik ord l) tr C'):=by
 obtain⟨K',S',dL,h,hk⟩:=h
 refine(NN h qR).mono ?_
 rintro v C' ⟨rfl,_,K2,S2,RQ,h2,sZ⟩
 exact⟨rfl,K2,S2,RQ,h2,hk.trans sZ⟩
theorem PF{path:List Nat}(h:At kp K S (cE ord path) (tr++path) C)(hp:∀l∈path,l+1<K.n){k:Nat}(hk:k≤path.length)(qR:(tr++path).length<1099511627776):Fc Tryz.prog 145 #[ptr kp,.int .i64 ((tr.length+k:Nat):Int)] C (fun r C'=>
   r=.tuple #[.int .i64 ((path.length-k:Nat):Int),.int .i64 0]∧At kp K S (cE ord (path.take k)) (tr++path.take k) C'):=by
 have hlen:=h.len
 rw[gO]at hlen
 rw[List.length_append]at qR
 intro g
 refine Er (R:=aA _) ?_
 unfold L145
 refine ae.bJ (Br.no ?_)
 intro J2 zw
 refine ae.lss ?_
 rw[decide_eq_false (by omega)]
 refine Split.go rfl ?_
 refine af.rd .here (tD h) ?_
 rintro v rfl
 refine ae.gtr ?_
 rw[decide_eq_false (by rw[List.length_append];omega)]
 refine aF.mk ?_
 refine JE.mk (zw _ _ fun gs=>Br.no ?_)
 refine⟨fun vs H=>∃m,m≤path.length∧k≤m∧vs=[.int .i64 ((path.length-m:Nat):Int)]∧At kp K S (cE ord (path.take m)) (tr++path.take m) H,fun vs _=>path.length-bG vs 0,JE.mk ⟨path.length,Nat.le_refl _,hk,by simp,by simpa using h⟩,?_⟩
 rintro w H ⟨m,hm,hkm,hw,Ut⟩ gs
 simp only[List.cons.injEq,and_true]at hw
 subst hw
 refine af.rd .here (tD Ut) ?_
 rintro v rfl
 refine ae.kB (Br.dec (fun hlt=>?_) (fun hlt=>?_))
 ·rw[List.length_append,List.length_take]at hlt
  obtain⟨m,rfl⟩:∃m',m=m'+1:=⟨m-1,by omega⟩
  have e:path.take (m+1)=path.take m++[path[m]]:=by rw[List.take_add_one,List.getElem?_eq_getElem (by omega)];rfl
  rw[e,←List.append_assoc,p6]at Ut
  refine af.fn .here (PJ Ut (by simp;omega)) ?_
  rintro v C' ⟨rfl,h'⟩
  rw[wK (by rw[gO,hlen];exact hp _ (List.getElem_mem _))]at h'
  refine ae.aL (b:=1) (by simp[aB];omega) ?_
  refine aD.of (.refl _) ⟨m,by omega,by omega,by rw[show path.length-(m+1)+1=path.length-m by omega],h'⟩ ?_
  show path.length-(((path.length-(m+1)+1:Nat):Int).toNat)<path.length-(((path.length-(m+1):Nat):Int).toNat)
  omega
 ·rw[List.length_append,List.length_take]at hlt
  obtain rfl:m=k:=by omega
  exact aA.here ⟨rfl,Ut⟩
end
end Go.Proofs
namespace Go.Sx
open Go
section
variable {P:Program} {g:Gh} {H:Hp}
theorem gZ.nat{len size b o j:Nat}{kd:IntKind}{k:Value→Prop}(h1:j<len)(h:k (.pointer (some ⟨b,o+j*size,none⟩))):gZ len size (.pointer (some ⟨b,o,none⟩)) (.int kd (j:Int)) k:=
 ⟨b,o,kd,(j:Int),rfl,rfl,by omega,by omega,by simpa using h⟩
theorem kY.Xg{o:Oper}{ρ:Operand→Value}{k:Value→Prop}{t e:TypeId}{q kd:IntKind}{n j:Nat}{x i:Operand}{l:List Int}{z:Int}(ho:o.op=.index t x i)(hx:ρ x=.agg (ax q l))(hi:ρ i=.int kd (j:Int))
 (ht:P.underlying t=some (.array n e))(hu:P.underlying e=some (.int q))(hz:c6 P e=some 1)(hj:j<n)(hl:l[j]? =some z)(hk:k (.int q z)):kY P g o ρ H k:=by
 obtain⟨inf,aap,hs⟩:=bg hz
 refine⟨_,fun w _=>?_,hk⟩
 have hp:=o7 (P:=P) hu hl w
 have LI:(0:Int)≤(j:Int)∧(j:Int)<(n:Int):=by omega
 simp only[execOp,ho,Instr.index,hx,hi,asIntOf,Sem.run_bind,Sem.run_pure,Result.andThen_ok,run_underlying ht,run_sizeOf aap,hs,if_pos LI,Int.toNat_natCast,Nat.mul_one,hp]
end
end Go.Sx
namespace aE
open an
def clr(m v:Nat):Nat:=if m.testBit v then m^^^2^v else m
def rest(m:Nat)(ord:List Nat):Nat→Nat
 |0=>m
 |k+1=>clr (rest m ord k) (ord.getD k 0)
section
variable {n m o:Nat} {ord:List Nat} {F:Fn→Prop}
theorem getD_inj(hn:ord.Nodup){i j:Nat}(hi:i<ord.length)(hj:j<ord.length)(e:ord.getD i 0=ord.getD j 0):i=j:=by
 rw[List.getD_eq_getElem?_getD,List.getD_eq_getElem?_getD,List.getElem?_eq_getElem hi,List.getElem?_eq_getElem hj]at e
 exact(List.getElem_inj hn).1 e
theorem Kj{l:Nat}(hl:l+1<ord.length):(ik ord l).Perm ord:=by
 unfold ik
 have e1:ord=ord.take l++ord.getD l 0::ord.getD (l+1) 0::ord.drop (l+2):=by
  conv=>lhs;rw[←List.take_append_drop l ord]
  congr 1
  rw[List.drop_eq_getElem_cons (by omega),List.drop_eq_getElem_cons (by omega)]
  simp[List.getD,List.getElem?_eq_getElem (show l<ord.length by omega),List.getElem?_eq_getElem hl]
 have ht:(ord.take l).length=l:=by simp;omega
 have e2:(ord.set l (ord.getD (l+1) 0)).set (l+1) (ord.getD l 0)=ord.take l++ord.getD (l+1) 0::ord.getD l 0::ord.drop (l+2):=by
  generalize hx:ord.getD l 0=x at*
  generalize hy:ord.getD (l+1) 0=y at*
  conv=>lhs;rw[e1]
  rw[List.set_append_right _ _ (by omega),ht,Nat.sub_self,List.set_cons_zero,List.set_append_right _ _ (by omega),ht,Nat.add_sub_cancel_left,List.set_cons_succ,List.set_cons_zero]
 rw[e2]
 conv=>rhs;rw[e1]
 exact List.Perm.append_left _ (List.Perm.swap _ _ _)
theorem jO:∀{path:List Nat} {ord:List Nat},(∀l∈path,l+1<ord.length)→(cE ord path).Perm ord
 | [],_,_=>.refl _
 |l::r,ord,h=>by
  show(cE (ik ord l) r).Perm ord
  have h1:=h l (by simp)
  exact(jO fun x hx=>by rw[kI];exact h x (by simp[hx])).trans (Kj h1)
end
def flat(n s:Nat):Rm:=⟨n,fun _=>s,fun _ _=>true⟩
end aE
