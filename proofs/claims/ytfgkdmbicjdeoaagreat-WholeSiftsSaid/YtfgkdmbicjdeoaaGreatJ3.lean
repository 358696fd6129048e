import Derived.Test.YtfgkdmbicjdeoaaGreatJ2
import Derived.RangeFuncIn
import Derived.RangeFuncLeaves
import Derived.RangeFuncRecord
import Derived.RangeFuncSeq
set_option linter.unusedVariables false
set_option linter.unusedSimpArgs false
set_option linter.unusedSectionVars false
namespace aF
open aG
variable {n:Nat} {aj:Nat→Nat} {N:eB} {S:Nat→Fn} {ord:List Nat} {K:Kd}
def pl(N:eB)(y r:Nat):Nat:=match N r with|some e=>if e.v=y then e.lo else r|none=>r
def ph(N:eB)(y r:Nat):Nat:=match N r with|some e=>if e.v=y then e.hi else r|none=>r
theorem OT{y r:Nat}{e:Nd}(h:N r=some e)(hv:e.v=y):pl N y r=e.lo∧ph N y r=e.hi:=by simp[pl,ph,h,hv]
theorem OU{y r:Nat}(h:∀e,N r=some e→e.v≠y):pl N y r=r∧ph N y r=r:=by
 unfold pl ph
 cases hr:N r with
 |none=>exact⟨rfl,rfl⟩
 |some e=>simp[h e hr]
theorem WF.half(h:WF n aj N)(hl:kB n aj)(hi:Interp N S){y l r:Nat}(hy:y<n∧aj y=l+1)(hr:live N r)(hd:l<dep n aj N r):
  (live N (pl N y r)∧l+1<dep n aj N (pl N y r))∧(live N (ph N y r)∧l+1<dep n aj N (ph N y r))∧∀z,S r z=if z.testBit y then S (ph N y r) z else S (pl N y r) z:=by
 by_cases e:∃e,N r=some e∧e.v=y
 ·obtain⟨e,he,hv⟩:=e
  obtain⟨p1,p2⟩:=OT he hv
  rw[p1,p2]
  have h1:=h.lo he
  have h2:=h.hi he
  rw[hv,hy.2]at h1 h2
  exact⟨h1,h2,fun z=>by rw[hi.node he,hv]⟩
 ·have ho:∀e',N r=some e'→e'.v≠y:=fun e' h1 h2=>e ⟨e',h1,h2⟩
  obtain⟨p1,p2⟩:=OU ho
  rw[p1,p2]
  have wx:l+1<dep n aj N r:=by
   rcases hr with hr|⟨e',he⟩
   ·rw[aX (h.const hr)]
    have:=hl.lt y hy.1;omega
   ·rw[ax he]at hd⊢
    have h1:=ho e' he
    refine Nat.lt_of_le_of_ne hd fun e2=>h1 (hl.inj _ _ (h.var he) hy.1 (by omega))
  exact⟨⟨hr,wx⟩,⟨hr,wx⟩,fun z=>by split<;>rfl⟩
theorem WF.PC(h:WF n aj N)(hl:kB n aj)(hi:Interp N S){y l a b:Nat}(hy:y<n∧aj y=l+1)(ha:live N a)(hb:live N b)(da:l<dep n aj N a)(db:l<dep n aj N b)
 (h1:pl N y a=pl N y b)(h2:ph N y a=ph N y b):a=b:=by
 refine h.same hl hi ha hb fun z=>?_
 rw[(h.half hl hi hy ha da).2.2 z,(h.half hl hi hy hb db).2.2 z,h1,h2]
structure Cx where
 r:Nat
 d:Nd
 vq:Nat
 vp:Nat
 sb:Nat
 r9:Nat
def k7(N:eB)(x y r:Nat)(d:Nd):Prop:=N r=some d∧d.v=x∧((∃e,N d.lo=some e∧e.v=y)∨∃e,N d.hi=some e∧e.v=y)
def mH(N:eB)(y r:Nat)(d:Nd):Cx:=⟨r,d,pl N y d.lo,ph N y d.lo,pl N y d.hi,ph N y d.hi⟩
structure GK(N:eB)(x y:Nat)(l:List Cx):Prop where
 nd:(l.map Cx.r).Nodup
 mem:∀c,c∈l↔k7 N x y c.r c.d∧c=mH N y c.r c.d
def keys(x:Nat)(c:Cx):List Nd:=[⟨x,c.vq,c.sb⟩,⟨x,c.vp,c.r9⟩]
structure Made(K:Kd)(x:Nat)(l:List Cx)(made:List Nd):Prop where
 nd:made.Nodup
 mem:∀k,k∈made↔(∃c∈l,k∈keys x c)∧K.T k=none∧k.lo≠k.hi
structure Nb(n:Nat)(aj:Nat→Nat)(x y l:Nat):Prop where
 xn:x<n
 yn:y<n
 lx:aj x=l
 ly:aj y=l+1
variable {x y l:Nat}
theorem Nb.ne(h:Nb n aj x y l):x≠y:=fun e=>by have h1:=h.lx;have h2:=h.ly;rw[e]at h1;omega
theorem Nb.yy(h:Nb n aj x y l):y<n∧aj y=l+1:=⟨h.yn,h.ly⟩
theorem j9(h:WF n aj N)(hl:kB n aj)(hi:Interp N S)(hb:Nb n aj x y l){r:Nat}{d:Nd}(hd:N r=some d)(hx:d.v=x){k:Nd}(hk:k∈keys x (mH N y r d)):
  k.v=x∧(live N k.lo∧l+1<dep n aj N k.lo)∧(live N k.hi∧l+1<dep n aj N k.hi):=by
 have h1:=h.lo hd
 have h2:=h.hi hd
 rw[hx,hb.lx]at h1 h2
 have a:=h.half hl hi hb.yy h1.1 h1.2
 have b:=h.half hl hi hb.yy h2.1 h2.2
 simp only[keys,mH,List.mem_cons,List.not_mem_nil,or_false]at hk
 rcases hk with rfl|rfl
 ·exact⟨rfl,a.1,b.1⟩
 ·exact⟨rfl,a.2.1,b.2.1⟩
theorem tP(h:WF n aj N)(hl:kB n aj)(hi:Interp N S)(hb:Nb n aj x y l){r:Nat}{d:Nd}(hd:N r=some d)(hx:d.v=x)(z:Nat):
  S r z=if z.testBit y then ite S ⟨x,ph N y d.lo,ph N y d.hi⟩ z else ite S ⟨x,pl N y d.lo,pl N y d.hi⟩ z:=by
 have h1:=h.lo hd
 have h2:=h.hi hd
 rw[hx,hb.lx]at h1 h2
 have a:=(h.half hl hi hb.yy h1.1 h1.2).2.2 z
 have b:=(h.half hl hi hb.yy h2.1 h2.2).2.2 z
 rw[hi.node hd,hx,a,b]
 unfold ite
 simp only
 cases z.testBit x<;>cases z.testBit y<;>rfl
theorem iz(h:WF n aj N)(hl:kB n aj)(hi:Interp N S)(hb:Nb n aj x y l){k:Nd}(hk:k.v=x)(h1:live N k.lo∧l+1<dep n aj N k.lo)(h2:live N k.hi∧l+1<dep n aj N k.hi)(z:Nat)(b:Bool):
  ite S k (aI z x b)=S (if b then k.hi else k.lo) z:=by
 unfold ite
 rw[hk,ay,if_pos rfl]
 cases b
 ·simp only[Bool.false_eq_true,if_false];exact h.bZ hl hi h1.1 hb.xn (by rw[hb.lx];omega) z false
 ·simp only[if_true];exact h.bZ hl hi h2.1 hb.xn (by rw[hb.lx];omega) z true
theorem iI(h:WF n aj N)(hl:kB n aj)(hi:Interp N S)(hb:Nb n aj x y l){k:Nd}(hk:k.v=x)(h1:live N k.lo∧l+1<dep n aj N k.lo)(h2:live N k.hi∧l+1<dep n aj N k.hi){u:Nat}(hu:u<n)(HU:aj u≤l+1)(hne:u≠x)(z:Nat)(b:Bool):
  ite S k (aI z u b)=ite S k z:=by
 unfold ite
 rw[hk,ay,if_neg (Ne.symm hne),h.bZ hl hi h1.1 hu (by omega),h.bZ hl hi h2.1 hu (by omega)]
theorem oE(h:WF n aj N)(hl:kB n aj)(hi:Interp N S){r:Nat}{d:Nd}(hd:N r=some d):∃z,S r (aI z d.v false)≠S r (aI z d.v true):=by
 refine Classical.byContradiction fun hno=>h.ne hd (h.same hl hi (h.lo hd).1 (h.hi hd).1 fun z=>?_)
 have c1:=h.child hl hi hd z false
 have c2:=h.child hl hi hd z true
 simp only[Bool.false_eq_true,if_false,if_true]at c1 c2
 rw[←c1,←c2]
 exact Classical.byContradiction fun hne=>hno ⟨z,hne⟩
theorem LC(h:WF n aj N)(hl:kB n aj)(hi:Interp N S)(hb:Nb n aj x y l){k:Nd}(hk:k.v=x)(hne:k.lo≠k.hi)(h1:live N k.lo∧l+1<dep n aj N k.lo)(h2:live N k.hi∧l+1<dep n aj N k.hi)
 {r:Nat}{d:Nd}(hd:N r=some d)(he:ite S k=S r):d=k:=by
 have hv:=h.var hd
 have hvx:d.v=x:=by
  rcases Nat.lt_trichotomy (aj d.v) l with hlt|heq|hgt
  ·obtain⟨z,hz⟩:=oE h hl hi hd
   have WI:d.v≠x:=fun e=>by rw[e,hb.lx]at hlt;omega
   rw[←he,iI h hl hi hb hk h1 h2 hv (by omega) WI,iI h hl hi hb hk h1 h2 hv (by omega) WI]at hz
   exact absurd rfl hz
  ·exact hl.inj _ _ hv hb.xn (by rw[hb.lx];exact heq)
  ·refine absurd (h.same hl hi h1.1 h2.1 fun z=>?_) hne
   have c1:=iz h hl hi hb hk h1 h2 z false
   have c2:=iz h hl hi hb hk h1 h2 z true
   simp only[Bool.false_eq_true,if_false,if_true]at c1 c2
   have hdp:aj x<dep n aj N r:=by rw[ax hd,hb.lx];exact hgt
   rw[←c1,←c2,he,h.bZ hl hi (.inr ⟨d,hd⟩) hb.xn hdp,h.bZ hl hi (.inr ⟨d,hd⟩) hb.xn hdp]
 have c:∀(b:Bool) z,S (if b then k.hi else k.lo) z=S (if b then d.hi else d.lo) z:=fun(b:Bool) z=>by
  rw[←iz h hl hi hb hk h1 h2 z b,he,←hvx,h.child hl hi hd z b]
 have e1:=h.same hl hi h1.1 (h.lo hd).1 (fun z=>by simpa using c false z)
 have e2:=h.same hl hi h2.1 (h.hi hd).1 (fun z=>by simpa using c true z)
 cases d;cases k;simp_all
theorem Pe(h:WF n aj N)(hl:kB n aj)(hi:Interp N S)(hb:Nb n aj x y l){k k':Nd}(hk:k.v=x)(hk':k'.v=x)(h1:live N k.lo∧l+1<dep n aj N k.lo)(h2:live N k.hi∧l+1<dep n aj N k.hi)
 (zX:live N k'.lo∧l+1<dep n aj N k'.lo)(mB:live N k'.hi∧l+1<dep n aj N k'.hi)(he:ite S k=ite S k'):k=k':=by
 have c:∀(b:Bool) z,S (if b then k.hi else k.lo) z=S (if b then k'.hi else k'.lo) z:=fun(b:Bool) z=>by
  rw[←iz h hl hi hb hk h1 h2 z b,he,iz h hl hi hb hk' zX mB z b]
 have e1:=h.same hl hi h1.1 zX.1 (fun z=>by simpa using c false z)
 have e2:=h.same hl hi h2.1 mB.1 (fun z=>by simpa using c true z)
 cases k;cases k';simp_all
def gI(ord:List Nat)(l:Nat):List Nat:=(ord.set l (ord.getD (l+1) 0)).set (l+1) (ord.getD l 0)
theorem kM(ord:List Nat)(l:Nat):(gI ord l).length=ord.length:=by simp[gI]
theorem dz{i:Nat}(hl:l+1<ord.length):(gI ord l).getD i 0=if i=l then ord.getD (l+1) 0 else if i=l+1 then ord.getD l 0 else ord.getD i 0:=by
 unfold gI
 rw[List.getD_eq_getElem?_getD,List.getElem?_set,List.getElem?_set]
 by_cases e1:l+1=i
 ·subst e1
  rw[if_pos rfl,if_pos (by simp;omega),if_neg (by omega),if_pos rfl];rfl
 ·rw[if_neg e1]
  by_cases e2:l=i
  ·subst e2;rw[if_pos rfl,if_pos (by omega),if_pos rfl];rfl
  ·rw[if_neg e2,if_neg (fun e=>e2 e.symm),if_neg (fun e=>e1 e.symm),←List.getD_eq_getElem?_getD]
def rV(aj:Nat→Nat)(x y l:Nat):Nat→Nat:=fun v=>if v=x then l+1 else if v=y then l else aj v
theorem OG(hl:kB n aj)(hb:Nb n aj x y l):kB n (rV aj x y l):=by
 have SV:=hl.lt y hb.yn
 rw[hb.ly]at SV
 have key:∀v,v<n→v≠x→v≠y→aj v≠l∧aj v≠l+1:=fun v hv h1 h2=>⟨fun e=>h1 (hl.inj _ _ hv hb.xn (by rw[hb.lx];exact e)),fun e=>h2 (hl.inj _ _ hv hb.yn (by rw[hb.ly];exact e))⟩
 refine⟨fun v hv=>?_,fun u v hu hv he=>?_⟩
 ·unfold rV
  split
  ·exact SV
  ·split
   ·omega
   ·exact hl.lt v hv
 ·unfold rV at he
  by_cases u1:u=x
  ·by_cases v1:v=x
   ·rw[u1,v1]
   ·rw[if_pos u1,if_neg v1]at he
    by_cases v2:v=y
    ·rw[if_pos v2]at he;omega
    ·rw[if_neg v2]at he;exact absurd he.symm (key v hv v1 v2).2
  ·rw[if_neg u1]at he
   by_cases u2:u=y
   ·rw[if_pos u2]at he
    by_cases v1:v=x
    ·rw[if_pos v1]at he;omega
    ·rw[if_neg v1]at he
     by_cases v2:v=y
     ·rw[u2,v2]
     ·rw[if_neg v2]at he;exact absurd he.symm (key v hv v1 v2).1
   ·rw[if_neg u2]at he
    by_cases v1:v=x
    ·rw[if_pos v1]at he;exact absurd he (key u hu u1 u2).2
    ·rw[if_neg v1]at he
     by_cases v2:v=y
     ·rw[if_pos v2]at he;exact absurd he (key u hu u1 u2).1
     ·rw[if_neg v2]at he;exact hl.inj _ _ hu hv he
theorem Ord.nb(ho:Ord n aj ord)(hl:l+1<n):Nb n aj (ord.getD l 0) (ord.getD (l+1) 0) l:=
 ⟨(ho.bc l (by omega)).1,(ho.bc (l+1) hl).1,(ho.bc l (by omega)).2,(ho.bc (l+1) hl).2⟩
theorem OF(ho:Ord n aj ord)(hl:l+1<n):Ord n (rV aj (ord.getD l 0) (ord.getD (l+1) 0) l) (gI ord l):=by
 have hb:=ho.nb hl
 refine⟨by rw[kM,ho.len],fun i hi=>?_⟩
 rw[dz (by rw[ho.len];exact hl)]
 unfold rV
 by_cases e1:i=l
 ·subst e1;rw[if_pos rfl];refine⟨hb.yn,?_⟩;rw[if_neg (Ne.symm hb.ne),if_pos rfl]
 ·rw[if_neg e1]
  by_cases e2:i=l+1
  ·subst e2;rw[if_pos rfl];refine⟨hb.xn,?_⟩;rw[if_pos rfl]
  ·rw[if_neg e2]
   obtain⟨h1,h2⟩:=ho.bc i hi
   refine⟨h1,?_⟩
   rw[if_neg,if_neg]
   ·exact h2
   ·intro e;rw[e,hb.ly]at h2;omega
   ·intro e;rw[e,hb.lx]at h2;omega
variable {F:Fn→Prop}
theorem BY(hl:l+1<ord.length)(hne:ord.getD l 0≠ord.getD (l+1) 0):∀m,m≠l+1→∀g,fs (gI ord l) F m g↔fs ord F m g
 |0,_,g=>Iff.rfl
 |m+1,hm,g=>by
  by_cases e:m=l+1
  ·subst e
   have g1:(gI ord l).getD (l+1) 0=ord.getD l 0:=by rw[dz hl,if_neg (by omega),if_pos rfl]
   have g2:(gI ord l).getD l 0=ord.getD (l+1) 0:=by rw[dz hl,if_pos rfl]
   have ih:=BY hl hne l (by omega)
   constructor
   ·rintro⟨f,⟨f',h,b,rfl⟩,b',rfl⟩
    refine⟨_,⟨f',(ih f').1 h,b',rfl⟩,b,?_⟩
    funext z
    rw[g1,g2]
    show f' _=f' _
    rw[dA hne]
   ·rintro⟨f,⟨f',h,b,rfl⟩,b',rfl⟩
    refine⟨_,⟨f',(ih f').2 h,b',rfl⟩,b,?_⟩
    funext z
    rw[g1,g2]
    show f' _=f' _
    rw[dA (Ne.symm hne)]
  ·have ih:=BY hl hne m e
   have hg:(gI ord l).getD m 0=ord.getD m 0:=by rw[dz hl,if_neg (by omega),if_neg e]
   constructor
   ·rintro⟨f,h,b,rfl⟩;exact⟨f,(ih f).1 h,b,by rw[hg]⟩
   ·rintro⟨f,h,b,rfl⟩;exact⟨f,(ih f).2 h,b,by rw[hg]⟩
theorem KC(h:Ok K S aj)(ho:Ord K.n aj ord)(L0:l+1<K.n){all:List Cx}(hc:GK K.N (ord.getD l 0) (ord.getD (l+1) 0) all){made:List Nd}(hm:Made K (ord.getD l 0) all made):
  q8 (fun g=>aR K.n ord (K.held S) g∨aR K.n (gI ord l) (K.held S) g) (K.used-2+made.length):=by
 have hb:=ho.nb L0
 have hlen:l+1<ord.length:=by rw[ho.len];exact L0
 have hw:=h.wf
 have hlv:=h.lv
 have hi:=h.mid.int
 have hR:∀r,K.hold r≠0→live K.N r:=fun r hr=>.inr (h.mid.held r hr)
 generalize hx:ord.getD l 0=x at*
 generalize hy:ord.getD (l+1) 0=y at*
 have kZ:∀k∈made,k.v=x∧(live K.N k.lo∧l+1<dep K.n aj K.N k.lo)∧(live K.N k.hi∧l+1<dep K.n aj K.N k.hi):=fun k hk=>by
  obtain⟨⟨c,Ie,hkc⟩,_⟩:=(hm.mem k).1 hk
  obtain⟨⟨hd,Md,_⟩,e⟩:=(hc.mem c).1 Ie
  rw[e]at hkc
  exact j9 hw hlv hi hb hd Md hkc
 obtain⟨dom,d1,d2,d3⟩:=h.dom
 have c1:=wJ hw hlv hi d1 d3
 rw[show dom.length=K.used-2 by omega]at c1
 have c2:q8 (fun g=>∃k∈made,g=ite S k) made.length:=by
  refine⟨made.map (ite S),?_,by simp,fun g=>?_⟩
  ·refine List.pairwise_map.2 (hm.nd.imp_of_mem fun{a b} ha hb' hne heq=>hne ?_)
   obtain⟨a1,a2,a3⟩:=kZ a ha
   obtain⟨b1,b2,b3⟩:=kZ b hb'
   exact Pe hw hlv hi hb a1 b1 a2 a3 b2 b3 heq
  ·rw[List.mem_map]
   constructor
   ·rintro⟨k,hk,rfl⟩;exact⟨k,hk,rfl⟩
   ·rintro⟨k,hk,rfl⟩;exact⟨k,hk,rfl⟩
 refine(c1.or c2 ?_).congr fun g=>?_
 ·rintro g ⟨r,d,hd,rfl⟩ ⟨k,hk,he⟩
  obtain⟨a1,a2,a3⟩:=kZ k hk
  obtain⟨_,hT,hne⟩:=(hm.mem k).1 hk
  have:=LC hw hlv hi hb a1 hne a2 a3 hd he.symm
  subst this
  rw[(h.mid.jF d r).2 ⟨hd,fun x=>x⟩]at hT;cases hT
 ·have WE:=mh hw hlv ho hi hR h.reach
  have nX:=fun m (hmn:m≤K.n) g=>P3 hw hlv ho hi hR m hmn g
  have hne:ord.getD l 0≠ord.getD (l+1) 0:=by rw[hx,hy];exact hb.ne
  have AW:=BY (F:=K.held S) hlen hne
  have gl:(gI ord l).getD l 0=y:=by rw[dz hlen,if_pos rfl,hy]
  have gl1:(gI ord l).getD (l+1) 0=x:=by rw[dz hlen,if_neg (by omega),if_pos rfl,hx]
  have go:∀m,m≠l→m≠l+1→(gI ord l).getD m 0=ord.getD m 0:=fun m h1 h2=>by rw[dz hlen,if_neg h1,if_neg h2]
  constructor
  ·rintro(⟨r,d,hd,rfl⟩|⟨k,hk,rfl⟩)
   ·exact .inl ((WE _).2 ⟨r,d,hd,rfl⟩)
   ·obtain⟨a1,a2,a3⟩:=kZ k hk
    obtain⟨⟨c,Ie,hkc⟩,hT,Tq⟩:=(hm.mem k).1 hk
    obtain⟨⟨hd,Md,_⟩,e⟩:=(hc.mem c).1 Ie
    refine .inr ⟨l+1,L0,?_,?_⟩
    ·have hA:=RL hw h.reach _ c.r c.d hd (Nat.le_refl _)
     rw[Md,hb.lx]at hA
     refine⟨S c.r,(AW l (by omega) _).2 ((nX l (by omega) _).2 ⟨c.r,hA,rfl⟩),?_⟩
     have Pw:=tP hw hlv hi hb hd Md
     rw[e]at hkc
     simp only[keys,mH,List.mem_cons,List.not_mem_nil,or_false]at hkc
     rw[gl]
     rcases hkc with rfl|rfl
     ·refine⟨false,?_⟩
      funext z
      rw[Pw,ay,if_pos rfl,if_neg (by simp),iI hw hlv hi hb rfl a2 a3 hb.yn (by rw[hb.ly];exact Nat.le_refl _) (Ne.symm hb.ne)]
     ·refine⟨true,?_⟩
      funext z
      rw[Pw,ay,if_pos rfl,if_pos rfl,iI hw hlv hi hb rfl a2 a3 hb.yn (by rw[hb.ly];exact Nat.le_refl _) (Ne.symm hb.ne)]
    ·rw[gl1]
     refine Classical.byContradiction fun hno=>Tq (hw.same hlv hi a2.1 a3.1 fun z=>?_)
     have c1:=iz hw hlv hi hb a1 a2 a3 z false
     have c2:=iz hw hlv hi hb a1 a2 a3 z true
     simp only[Bool.false_eq_true,if_false,if_true]at c1 c2
     rw[←c1,←c2]
     exact Classical.byContradiction fun hne=>hno ⟨z,hne⟩
  ·rintro(hg|⟨m,hmn,hf,hh⟩)
   ·exact .inl ((WE g).1 hg)
   ·by_cases e1:m=l+1
    ·subst e1
     rw[gl1]at hh
     obtain⟨f,hf,b,rfl⟩:=hf
     rw[gl]at hh⊢
     obtain⟨r,hA,rfl⟩:=(nX l (by omega) f).1 ((AW l (by omega) f).1 hf)
     obtain⟨hlr,hle⟩:=q9 hw hR l r hA
     have hgt:dep K.n aj K.N r=l:=by
      refine Nat.le_antisymm (Nat.le_of_not_lt fun hlt=>?_) hle
      obtain⟨z,hz⟩:=hh
      refine hz ?_
      show S r (aI (aI z x false) y b)=S r (aI (aI z x true) y b)
      rw[dA hb.ne,dA hb.ne,hw.bZ hlv hi hlr hb.xn (by rw[hb.lx];exact hlt),hw.bZ hlv hi hlr hb.xn (by rw[hb.lx];exact hlt)]
     rcases hlr with Ib|⟨d,hd⟩
     ·rw[aX (hw.const Ib)]at hgt;omega
     ·rw[ax hd]at hgt
      have Md:d.v=x:=hlv.inj _ _ (hw.var hd) hb.xn (by rw[hb.lx];exact hgt)
      have Pw:=tP hw hlv hi hb hd Md
      have hkk:∃k∈keys x (mH K.N y r d),(fun z=>S r (aI z y b))=ite S k:=by
       cases b
       ·refine⟨_,List.mem_cons_self,?_⟩
        obtain⟨a1,a2,a3⟩:=j9 hw hlv hi hb hd Md (k:=⟨x,pl K.N y d.lo,pl K.N y d.hi⟩) List.mem_cons_self
        funext z
        rw[Pw,ay,if_pos rfl,if_neg (by simp),iI hw hlv hi hb rfl a2 a3 hb.yn (by rw[hb.ly];exact Nat.le_refl _) (Ne.symm hb.ne)];rfl
       ·refine⟨_,List.mem_cons_of_mem _ List.mem_cons_self,?_⟩
        obtain⟨a1,a2,a3⟩:=j9 hw hlv hi hb hd Md (k:=⟨x,ph K.N y d.lo,ph K.N y d.hi⟩) (List.mem_cons_of_mem _ List.mem_cons_self)
        funext z
        rw[Pw,ay,if_pos rfl,if_pos rfl,iI hw hlv hi hb rfl a2 a3 hb.yn (by rw[hb.ly];exact Nat.le_refl _) (Ne.symm hb.ne)];rfl
      obtain⟨k,hkm,hke⟩:=hkk
      obtain⟨a1,a2,a3⟩:=j9 hw hlv hi hb hd Md hkm
      rw[hke]at hh⊢
      have Tq:k.lo≠k.hi:=fun e=>by
       obtain⟨z,hz⟩:=hh
       have c1:=iz hw hlv hi hb a1 a2 a3 z false
       have c2:=iz hw hlv hi hb a1 a2 a3 z true
       simp only[Bool.false_eq_true,if_false,if_true]at c1 c2
       rw[c1,c2,e]at hz;exact hz rfl
      cases hT:K.T k with
      |some s=>
       have hs:=((h.mid.jF k s).1 hT).1
       refine .inl ⟨s,k,hs,?_⟩
       funext z
       exact(hi.node hs z).symm
      |none=>
       by_cases TG:k7 K.N x y r d
       ·exact .inr ⟨k,(hm.mem k).2 ⟨⟨mH K.N y r d,(hc.mem _).2 ⟨TG,rfl⟩,hkm⟩,hT,Tq⟩,rfl⟩
       ·have hno:∀t,t=d.lo∨t=d.hi→pl K.N y t=t∧ph K.N y t=t:=fun t ht=>OU fun e he hv=>TG ⟨hd,Md,by
         rcases ht with rfl|rfl
         ·exact .inl ⟨e,he,hv⟩
         ·exact .inr ⟨e,he,hv⟩⟩
        have e1:=hno d.lo (.inl rfl)
        have e2:=hno d.hi (.inr rfl)
        have:k=d:=by
         simp only[keys,mH,e1.1,e1.2,e2.1,e2.2,List.mem_cons,List.not_mem_nil,or_false,or_self]at hkm
         rw[hkm,←Md]
        rw[this,(h.mid.jF d r).2 ⟨hd,fun x=>x⟩]at hT;cases hT
    ·by_cases e2:m=l
     ·subst e2
      rw[gl]at hh
      obtain⟨r,hA,rfl⟩:=(nX m (by omega) g).1 ((AW m e1 g).1 hf)
      obtain⟨hlr,hle⟩:=q9 hw hR m r hA
      rcases hlr with Ib|⟨d,hd⟩
      ·obtain⟨z,hz⟩:=hh
       have:∀z,S r z=S r 0:=fun z=>by
        have:r=0∨r=1:=by omega
        rcases this with rfl|rfl
        ·rw[hi.zero,hi.zero]
        ·rw[hi.one,hi.one]
       rw[this (aI z y false),this (aI z y true)]at hz
       exact absurd rfl hz
      ·exact .inl ⟨r,d,hd,rfl⟩
     ·refine .inl ((WE g).1 ⟨m,hmn,(AW m e1 g).1 hf,?_⟩)
      rw[go m e2 e1]at hh;exact hh
end aF
namespace aF
open aG
def rL(K:Kd)(aj:Nat→Nat)(l t:Nat):Prop:=live K.N t∧l+1<dep K.n aj K.N t
def vy(K0 K:Kd)(aj:Nat→Nat)(x l t:Nat):Prop:=rL K0 aj l t∨∃e,K.N t=some e∧e.v=x∧rL K0 aj l e.lo∧rL K0 aj l e.hi
structure TI(K0:Kd)(S0:Nat→Fn)(aj:Nat→Nat)(x y l:Nat)(made:List Nd)(K:Kd)(S:Nat→Fn)(done rest:List Cx)(P:Nat→Nat):Prop where
 mid:iK K S (fun s=>∃c∈rest,s=c.r) P
 n:K.n=K0.n
 cap:K.cap=K0.cap
 hold:∀r,K.hold r=K0.hold r
 ext:∀r,live K0.N r→S r=S0 r
 old:∀{r d},K0.N r=some d→r∉done.map Cx.r→K.N r=some d
 kept:∀{r d},K0.N r=some d→∃d',K.N r=some d'
 new:∀{r d},K.N r=some d→(K0.N r=some d∧r∉done.map Cx.r)∨(r∈done.map Cx.r∧d.v=y∧vy K0 K aj x l d.lo∧vy K0 K aj x l d.hi)∨(K0.N r=none∧d.v=x∧rL K0 aj l d.lo∧rL K0 aj l d.hi)
 used:K.used=K0.used+(made.filter fun k=>(K.T k).isSome).length
structure TB(K0:Kd)(S0:Nat→Fn)(aj:Nat→Nat)(x y l:Nat)(all:List Cx)(made:List Nd):Prop where
 ok:Ok K0 S0 aj
 nb:Nb K0.n aj x y l
 cx:GK K0.N x y all
 V8:Made K0 x all made
 room:K0.used+made.length≤K0.cap
section
variable {K0 K:Kd} {S0 S:Nat→Fn} {aj:Nat→Nat} {x y l:Nat} {made:List Nd} {done rest all:List Cx} {P:Nat→Nat}
theorem TB.mI(b:TB K0 S0 aj x y l all made){c:Cx}(hc:c∈all):K0.N c.r=some c.d∧c.d.v=x∧c=mH K0.N y c.r c.d:=by
 obtain⟨⟨h1,h2,_⟩,h3⟩:=(b.cx.mem c).1 hc
 exact⟨h1,h2,h3⟩
theorem TB.O4(b:TB K0 S0 aj x y l all made){c:Cx}(hc:c∈all):(rL K0 aj l c.vq∧rL K0 aj l c.sb)∧(rL K0 aj l c.vp∧rL K0 aj l c.r9):=by
 obtain⟨h1,h2,h3⟩:=b.mI hc
 have k1:=j9 b.ok.wf b.ok.lv b.ok.mid.int b.nb h1 h2 (k:=⟨x,pl K0.N y c.d.lo,pl K0.N y c.d.hi⟩) List.mem_cons_self
 have k2:=j9 b.ok.wf b.ok.lv b.ok.mid.int b.nb h1 h2 (k:=⟨x,ph K0.N y c.d.lo,ph K0.N y c.d.hi⟩) (List.mem_cons_of_mem _ List.mem_cons_self)
 rw[h3]
 exact⟨⟨k1.2.1,k1.2.2⟩,⟨k2.2.1,k2.2.2⟩⟩
theorem TB.level(b:TB K0 S0 aj x y l all made){c:Cx}(hc:c∈all):dep K0.n aj K0.N c.r=l:=by
 obtain⟨h1,h2,_⟩:=b.mI hc
 rw[ax h1,h2,b.nb.lx]
theorem TB.start(b:TB K0 S0 aj x y l all made){T:Nd→Option Nat}(hm:iK {K0 with T:=T} S0 (fun s=>∃c∈all,s=c.r) zero')(hT:∀d,T d=none∨T d=K0.T d):
  TI K0 S0 aj x y l made {K0 with T:=T} S0 [] all zero' where
 mid:=hm
 n:=rfl
 cap:=rfl
 hold:=fun _=>rfl
 ext:=fun _ _=>rfl
 old:=fun h _=>h
 kept:=fun h=>⟨_,h⟩
 new:=fun h=>.inl ⟨h,by simp⟩
 used:=by
  have:made.filter (fun k=>(T k).isSome)=[]:=by
   rw[List.filter_eq_nil_iff]
   intro k hk
   have h1:=((b.V8.mem k).1 hk).2.1
   rcases hT k with h2|h2
   ·rw[h2];simp
   ·rw[h2,h1];simp
  show K0.used=K0.used+(made.filter (fun k=>(T k).isSome)).length
  rw[this];simp
theorem TI.O6(b:TB K0 S0 aj x y l all made)(h:TI K0 S0 aj x y l made K S done rest P)(hd:∀c∈done,c∈all){t:Nat}(ht:rL K0 aj l t):K.N t=K0.N t:=by
 rcases ht with⟨ht|⟨d,c9⟩,hlt⟩
 ·cases e:K.N t with
  |none=>rw[b.ok.wf.const ht]
  |some d=>have:=(h.mid.two e).1;omega
 ·rw[c9]
  refine h.old c9 fun hm=>?_
  obtain⟨c,hc,e⟩:=List.mem_map.1 hm
  have:=b.level (hd c hc)
  rw[e]at this;omega
theorem TI.pG(b:TB K0 S0 aj x y l all made)(h:TI K0 S0 aj x y l made K S done rest P)(hd:∀c∈done,c∈all){t:Nat}(ht:rL K0 aj l t):live K.N t:=by
 have e:=h.O6 b hd ht
 rcases ht.1 with ht|⟨d,c9⟩
 ·exact .inl ht
 ·exact .inr ⟨d,by rw[e];exact c9⟩
theorem TI.pJ(b:TB K0 S0 aj x y l all made)(h:TI K0 S0 aj x y l made K S done rest P)(hd:∀c∈done,c∈all){t:Nat}(ht:vy K0 K aj x l t):live K.N t:=by
 rcases ht with ht|⟨e,he,_⟩
 ·exact h.pG b hd ht
 ·exact .inr ⟨e,he⟩
theorem TI.use(h:TI K0 S0 aj x y l made K S done rest P){r:Nat}{de:List Nat}(hl:de.length=K.us.length)(h1:de.getD r 0=K.use r+1)(h2:∀s,s≠r→de.getD s 0=K.use s):
  TI K0 S0 aj x y l made {K with us:=de} S done rest (up P r (P r+1)) where
 mid:=h.mid.more hl h1 h2
 n:=h.n
 cap:=h.cap
 hold:=h.hold
 ext:=h.ext
 old:=h.old
 kept:=h.kept
 new:=h.new
 used:=h.used
theorem TI.congr(h:TI K0 S0 aj x y l made K S done rest P){P':Nat→Nat}(hP:∀s,2≤s→P s=P' s):TI K0 S0 aj x y l made K S done rest P' where
 mid:=h.mid.congr (fun _=>Iff.rfl) hP
 n:=h.n
 cap:=h.cap
 hold:=h.hold
 ext:=h.ext
 old:=h.old
 kept:=h.kept
 new:=h.new
 used:=h.used
theorem filter_lt{α:Type}{p:α→Bool}{k:α}:∀{m:List α},k∈m→p k=false→(m.filter p).length<m.length
 | [],h,_=>by simp at h
 |z::m,h,hp=>by
  rcases List.mem_cons.1 h with rfl|h
  ·rw[List.filter_cons,if_neg (by simp[hp])]
   have:=List.length_filter_le p m
   simp;omega
  ·have:=filter_lt h hp
   rw[List.filter_cons]
   split
   ·rw[List.length_cons,List.length_cons];omega
   ·rw[List.length_cons];omega
theorem TI.fits(b:TB K0 S0 aj x y l all made)(h:TI K0 S0 aj x y l made K S done rest P){k:Nd}(hk:k∈made)(hT:K.T k=none):K.used<K.cap:=by
 have h1:=filter_lt (p:=fun k=>(K.T k).isSome) hk (by rw[hT];rfl)
 have h2:=h.used
 have h3:=b.room
 have h4:=h.cap
 omega
theorem mE{T:Nd→Option Nat}{k:Nd}{r:Nat}:∀{m:List Nd},m.Nodup→T k=none→(m.filter fun d=>(o5 T k (some r) d).isSome).length=(m.filter fun d=>(T d).isSome).length+(if k∈m then 1 else 0)
 | [],_,_=>rfl
 |z::m,hn,hT=>by
  obtain⟨h1,h2⟩:=List.nodup_cons.1 hn
  have ih:=mE (r:=r) h2 hT
  rw[List.filter_cons,List.filter_cons]
  by_cases e:z=k
  ·subst e
   rw[iN,hT]
   simp only[Option.isSome_some,if_true,Option.isSome_none,Bool.false_eq_true,if_false,List.length_cons,ih,if_neg h1,List.mem_cons,true_or]
  ·rw[oe e]
   have e2:(k∈z::m)↔k∈m:=by rw[List.mem_cons];exact⟨fun h=>h.resolve_left (fun h=>e h.symm),.inr⟩
   simp only[e2]
   split
   ·simp only[List.length_cons,ih];omega
   ·exact ih
theorem TB.xL(b:TB K0 S0 aj x y l all made){t:Nat}(ht:rL K0 aj l t){e:Nd}(he:K0.N t=some e):l+1<aj e.v:=by
 have:=ht.2
 rwa [ax he]at this
theorem TB.zm(b:TB K0 S0 aj x y l all made){c:Cx}(hc:c∈all)(h1:rL K0 aj l c.d.lo)(h2:rL K0 aj l c.d.hi):False:=by
 obtain⟨⟨_,_,h3⟩,_⟩:=(b.cx.mem c).1 hc
 have hy:=b.nb.ly
 rcases h3 with⟨e,he,hv⟩|⟨e,he,hv⟩
 ·have:=b.xL h1 he;rw[hv]at this;omega
 ·have:=b.xL h2 he;rw[hv]at this;omega
theorem TI.LJ(b:TB K0 S0 aj x y l all made)(h:TI K0 S0 aj x y l made K S done rest P)(hd:∀c∈done,c∈all)(hr:∀c∈rest,c∈all){c:Cx}(hc:c∈all){k:Nd}(hk:k∈keys x c)(hne:k.lo≠k.hi)(h1:rL K0 aj l k.lo)(h2:rL K0 aj l k.hi)(hT:K.T k=none):k∈made:=by
 refine(b.V8.mem k).2 ⟨⟨c,hc,hk⟩,?_,hne⟩
 cases e:K0.T k with
 |none=>rfl
 |some s=>
  have hs:=((b.ok.mid.jF k s).1 e).1
  have hno:∀c'∈all,s≠c'.r:=fun c' lC e'=>by
   have h3:=(b.mI lC).1
   rw[←e',hs]at h3
   cases h3
   exact b.zm lC h1 h2
  have xQ:K.N s=some k:=by
   refine h.old hs fun hm=>?_
   obtain⟨c',lC,e'⟩:=List.mem_map.1 hm
   exact hno c' (hd c' lC) e'.symm
  have:=(h.mid.jF k s).2 ⟨xQ,by rintro⟨c',lC,e'⟩;exact hno c' (hr c' lC) e'⟩
  rw[hT]at this;cases this
theorem TI.lay(b:TB K0 S0 aj x y l all made)(h:TI K0 S0 aj x y l made K S done rest P)(hd:∀c∈done,c∈all)(hr:∀c∈rest,c∈all){c:Cx}(hc:c∈all){k:Nd}(hk:k∈keys x c)(hne:k.lo≠k.hi)(hT:K.T k=none)
 {r:Nat}{de cz:List Nat}(hN:K.N r=none)(h2:2≤r∧r<K.cap)(hl:de.length=cz.length)(hf:r<de.length∧K.us.length≤de.length)(u0:de.getD r 0=0)(u1:∀s,2≤s→s≠r→de.getD s 0=K.use s+e1 (some k) s)(o0:cz.getD r 0=0)(o1:∀s,s≠r→cz.getD s 0=K.hold s)(hP:P r=0):
  TI K0 S0 aj x y l made {K with N:=up K.N r (some k),T:=o5 K.T k (some r),used:=K.used+1,us:=de,ho:=cz} (up S r (ite S k)) done rest P∧vy K0 {K with N:=up K.N r (some k),T:=o5 K.T k (some r),used:=K.used+1,us:=de,ho:=cz} aj x l r:=by
 have kZ:=b.O4 hc
 have hkv:k.v=x∧rL K0 aj l k.lo∧rL K0 aj l k.hi:=by
  simp only[keys,List.mem_cons,List.not_mem_nil,or_false]at hk
  rcases hk with rfl|rfl
  ·exact⟨rfl,kZ.1.1,kZ.1.2⟩
  ·exact⟨rfl,kZ.2.1,kZ.2.2⟩
 have WO:K0.N r=none:=by
  cases e:K0.N r with
  |none=>rfl
  |some d=>obtain⟨d',c9⟩:=h.kept e;rw[hN]at c9;cases c9
 have hkm:=h.LJ b hd hr hc hk hne hkv.2.1 hkv.2.2 hT
 have hE:¬∃c∈rest,r=c.r:=by
  rintro⟨c',lC,rfl⟩
  have:=(b.mI (hr c' lC)).1
  rw[WO]at this;cases this
 have BP:∀{t},vy K0 K aj x l t→vy K0 {K with N:=up K.N r (some k),T:=o5 K.T k (some r),used:=K.used+1,us:=de,ho:=cz} aj x l t:=fun ht=>by
  rcases ht with ht|⟨e,he,h3⟩
  ·exact .inl ht
  ·refine .inr ⟨e,?_,h3⟩
   show up K.N r (some k) _=_
   rw[aQ (fun e2=>by rw[e2,hN]at he;cases he)];exact he
 refine⟨⟨h.mid.lay hN h2 (by rw[hkv.1,h.n];exact b.nb.xn) hne (h.pG b hd hkv.2.1) (h.pG b hd hkv.2.2) hT hE hP (h.fits b hkm hT) hl hf u0 u1 o0 o1,h.n,h.cap,fun s=>?_,fun s hs=>?_,fun{s d} hs hm=>?_,fun{s d} hs=>?_,fun{s d} hs=>?_,?_⟩,?_⟩
 ·show cz.getD s 0=_
  rw[←h.hold]
  by_cases e:s=r
  ·subst e
   rw[o0]
   refine(Classical.byContradiction fun hno=>?_)
   obtain⟨d,c9⟩:=h.mid.held s (fun e=>hno e.symm)
   rw[hN]at c9;cases c9
  ·exact o1 s e
 ·rw[aQ (fw hs h2.1 WO)];exact h.ext s hs
 ·show up K.N r (some k) s=_
  rw[aQ (fun e=>by rw[e,WO]at hs;cases hs)];exact h.old hs hm
 ·obtain⟨d',c9⟩:=h.kept hs
  exact⟨d',by show up K.N r (some k) s=_;rw[aQ (fun e=>by rw[e,WO]at hs;cases hs)];exact c9⟩
 ·have hs':up K.N r (some k) s=some d:=hs
  by_cases e:s=r
  ·subst e
   rw[aK]at hs';cases hs'
   exact .inr (.inr ⟨WO,hkv⟩)
  ·rw[aQ e]at hs'
   rcases h.new hs' with h1|⟨h1,mB,h3,h4⟩|h1
   ·exact .inl h1
   ·exact .inr (.inl ⟨h1,mB,BP h3,BP h4⟩)
   ·exact .inr (.inr h1)
 ·show K.used+1=K0.used+(made.filter fun d=>(o5 K.T k (some r) d).isSome).length
  rw[mE b.V8.nd hT,if_pos hkm,h.used];omega
 ·exact .inr ⟨k,aK,hkv⟩
theorem TI.found(b:TB K0 S0 aj x y l all made)(h:TI K0 S0 aj x y l made K S done rest P){c:Cx}(hc:c∈all){k:Nd}(hk:k∈keys x c){r:Nat}(hT:K.T k=some r):K.N r=some k∧vy K0 K aj x l r:=by
 have kZ:=b.O4 hc
 have hN:=((h.mid.jF k r).1 hT).1
 simp only[keys,List.mem_cons,List.not_mem_nil,or_false]at hk
 rcases hk with rfl|rfl
 ·exact⟨hN,.inr ⟨_,hN,rfl,kZ.1.1,kZ.1.2⟩⟩
 ·exact⟨hN,.inr ⟨_,hN,rfl,kZ.2.1,kZ.2.2⟩⟩
theorem TI.QW(b:TB K0 S0 aj x y l all made)(h:TI K0 S0 aj x y l made K S done rest P){a a' t:Nat}(la:rL K0 aj l a)(BG:rL K0 aj l a')(g:(a=a'∧t=a)∨K.N t=some ⟨x,a,a'⟩)(z:Nat):S t z=ite S0 ⟨x,a,a'⟩ z:=by
 rcases g with⟨rfl,rfl⟩|g
 ·rw[h.ext t la.1];unfold ite;simp
 ·rw[h.mid.int.node g]
  unfold ite
  simp only
  rw[h.ext a la.1,h.ext a' BG.1]
theorem TI.O5(b:TB K0 S0 aj x y l all made)(h:TI K0 S0 aj x y l made K S done rest P)(hd:∀c∈done,c∈all){a a' t:Nat}(ht:rL K0 aj l t)(g:K.N t=some ⟨x,a,a'⟩):False:=by
 rw[h.O6 b hd ht]at g
 have:=b.xL ht g
 have hx:=b.nb.lx
 simp only at this;omega
theorem TI.xq(b:TB K0 S0 aj x y l all made){c:Cx}(h:TI K0 S0 aj x y l made K S done (c::rest) P)(hd:∀c∈done,c∈all)(hr:∀c'∈c::rest,c'∈all)(hn:((done++c::rest).map Cx.r).Nodup){t0 t1:Nat}
 (k0:vy K0 K aj x l t0)(k1:vy K0 K aj x l t1)(g0:(c.vq=c.sb∧t0=c.vq)∨K.N t0=some ⟨x,c.vq,c.sb⟩)(g1:(c.vp=c.r9∧t1=c.vp)∨K.N t1=some ⟨x,c.vp,c.r9⟩){P':Nat→Nat}(hP:∀s,2≤s→P' s+e1 (some ⟨y,t0,t1⟩) s=P s+e1 (some c.d) s):
  K.T ⟨y,t0,t1⟩=none∧TI K0 S0 aj x y l made {K with N:=up K.N c.r (some ⟨y,t0,t1⟩),T:=o5 K.T ⟨y,t0,t1⟩ (some c.r)} S (done++[c]) rest P':=by
 have hc:=hr c (by simp)
 obtain⟨xV,AY,hce⟩:=b.mI hc
 obtain⟨⟨l00,l10⟩,⟨l01,l11⟩⟩:=b.O4 hc
 have w:=b.ok.wf
 have hi:=b.ok.mid.int
 have hlo:=w.lo xV
 have hhi:=w.hi xV
 rw[AY,b.nb.lx]at hlo hhi
 have ep:c.vq=pl K0.N y c.d.lo∧c.vp=ph K0.N y c.d.lo∧c.sb=pl K0.N y c.d.hi∧c.r9=ph K0.N y c.d.hi:=by rw[hce];exact⟨rfl,rfl,rfl,rfl⟩
 have both:c.vq=c.sb→c.vp=c.r9→False:=fun e1 e2=>by
  rw[ep.1,ep.2.2.1]at e1
  rw[ep.2.1,ep.2.2.2]at e2
  exact w.ne xV (w.PC b.ok.lv hi b.nb.yy hlo.1 hhi.1 hlo.2 hhi.2 e1 e2)
 have Y6:c.r∉done.map Cx.r:=by
  rw[List.map_append,List.nodup_append]at hn
  intro hm
  exact hn.2.2 _ hm _ (by simp) rfl
 have F0:=h.old xV Y6
 have fn0:=fun z=>h.QW b l00 l10 g0 z
 have fn1:=fun z=>h.QW b l01 l11 g1 z
 have hS:∀z,S c.r z=ite S ⟨y,t0,t1⟩ z:=fun z=>by
  rw[h.ext c.r (.inr ⟨_,xV⟩),tP w b.ok.lv hi b.nb xV AY z]
  unfold ite
  simp only
  have a0:=fn0 z
  have a1:=fn1 z
  unfold ite at a0 a1
  simp only at a0 a1
  rw[a0,a1,ep.1,ep.2.1,ep.2.2.1,ep.2.2.2]
 have hne:t0≠t1:=fun e=>by
  subst e
  rcases g0 with⟨e1,e2⟩|g0
  ·rcases g1 with⟨e3,e4⟩|g1
   ·exact both e1 e3
   ·rw[e2]at g1;exact h.O5 b hd l00 g1
  ·rcases g1 with⟨e3,e4⟩|g1
   ·rw[e4]at g0;exact h.O5 b hd l01 g0
   ·rw[g0]at g1
    simp only[Option.some.injEq,Nd.mk.injEq,true_and]at g1
    obtain⟨q1,q2⟩:=g1
    obtain⟨⟨_,_,TG⟩,_⟩:=(b.cx.mem c).1 hc
    rw[ep.1,ep.2.1]at q1
    rw[ep.2.2.1,ep.2.2.2]at q2
    rcases TG with⟨e,he,hv⟩|⟨e,he,hv⟩
    ·have:=OT he hv
     rw[this.1,this.2]at q1
     exact w.ne he q1
    ·have:=OT he hv
     rw[this.1,this.2]at q2
     exact w.ne he q2
 have hT:K.T ⟨y,t0,t1⟩=none:=by
  cases e:K.T ⟨y,t0,t1⟩with
  |none=>rfl
  |some s=>
   obtain⟨hs,S8⟩:=(h.mid.jF _ s).1 e
   rcases h.new hs with⟨h1,_⟩|⟨h1,_⟩|⟨_,h1,_⟩
   ·have q1:=w.lo h1
    have q2:=w.hi h1
    simp only at q1 q2
    rw[b.nb.ly]at q1 q2
    have p1:c.vq=c.sb:=by
     rcases g0 with⟨e1,_⟩|g0
     ·exact e1
     ·exact(h.O5 b hd q1 g0).elim
    have p2:c.vp=c.r9:=by
     rcases g1 with⟨e1,_⟩|g1
     ·exact e1
     ·exact(h.O5 b hd q2 g1).elim
    exact(both p1 p2).elim
   ·obtain⟨c',lC,e'⟩:=List.mem_map.1 h1
    have Mm:=(b.mI (hd c' lC)).1
    have:c'.r=c.r:=w.same b.ok.lv hi (.inr ⟨_,Mm⟩) (.inr ⟨_,xV⟩) fun z=>by
     rw[←h.ext c'.r (.inr ⟨_,Mm⟩),←h.ext c.r (.inr ⟨_,xV⟩),hS z,e',h.mid.int.node hs z];rfl
    exact absurd (List.mem_map.2 ⟨c',lC,this⟩) Y6
   ·exact absurd h1 (Ne.symm b.nb.ne)
 have BP:∀{t},vy K0 K aj x l t→vy K0 {K with N:=up K.N c.r (some ⟨y,t0,t1⟩),T:=o5 K.T ⟨y,t0,t1⟩ (some c.r)} aj x l t:=fun ht=>by
  rcases ht with ht|⟨e,he,h3⟩
  ·exact .inl ht
  ·refine .inr ⟨e,?_,h3⟩
   show up K.N c.r (some ⟨y,t0,t1⟩) _=_
   refine(aQ fun e2=>?_).trans he
   rw[e2,F0]at he
   cases he
   exact b.zm hc h3.2.1 h3.2.2
 have hml:∀s,s∈(done++[c]).map Cx.r↔s∈done.map Cx.r∨s=c.r:=fun s=>by simp[List.mem_append]
 refine⟨hT,⟨(h.mid.xq F0 ⟨c,by simp,rfl⟩ (by rw[h.n];exact b.nb.yn) hne (h.pJ b hd k0) (h.pJ b hd k1) hT hS hP).congr (fun s=>?_) (fun _ _=>rfl),h.n,h.cap,h.hold,h.ext,fun{s d} hs hm=>?_,fun{s d} hs=>?_,fun{s d} hs=>?_,?_⟩⟩
 ·constructor
  ·rintro⟨⟨c',lC,rfl⟩,h2⟩
   rcases List.mem_cons.1 lC with rfl|lC
   ·exact absurd rfl h2
   ·exact⟨c',lC,rfl⟩
  ·rintro⟨c',lC,rfl⟩
   refine⟨⟨c',List.mem_cons_of_mem _ lC,rfl⟩,fun e=>?_⟩
   rw[List.map_append,List.nodup_append]at hn
   have:=hn.2.1
   rw[List.map_cons,List.nodup_cons]at this
   exact this.1 (List.mem_map.2 ⟨c',lC,e⟩)
 ·have hm':=fun x=>hm ((hml s).2 x)
  show up K.N c.r _ s=_
  rw[aQ (fun e=>hm' (.inr e))];exact h.old hs (fun x=>hm' (.inl x))
 ·by_cases e:s=c.r
  ·exact⟨⟨y,t0,t1⟩,by show up K.N c.r (some _) s=_;rw[e,aK]⟩
  ·obtain⟨d',c9⟩:=h.kept hs
   exact⟨d',by show up K.N c.r (some _) s=_;rw[aQ e];exact c9⟩
 ·have hs':up K.N c.r (some ⟨y,t0,t1⟩) s=some d:=hs
  by_cases e:s=c.r
  ·rw[e,aK]at hs';cases hs'
   exact .inr (.inl ⟨(hml s).2 (.inr e),rfl,BP k0,BP k1⟩)
  ·rw[aQ e]at hs'
   rcases h.new hs' with⟨h1,h2⟩|⟨h1,h2,h3,h4⟩|h1
   ·exact .inl ⟨h1,fun hm=>((hml s).1 hm).elim h2 e⟩
   ·exact .inr (.inl ⟨(hml s).2 (.inl h1),h2,BP h3,BP h4⟩)
   ·exact .inr (.inr h1)
 ·show K.used=K0.used+(made.filter fun d=>(o5 K.T ⟨y,t0,t1⟩ (some c.r) d).isSome).length
  have hnm:(⟨y,t0,t1⟩:Nd)∉made:=fun hm=>by
   obtain⟨⟨c',lC,hk⟩,_⟩:=(b.V8.mem _).1 hm
   simp only[keys,List.mem_cons,List.not_mem_nil,or_false,Nd.mk.injEq]at hk
   rcases hk with⟨e,_⟩|⟨e,_⟩
   ·exact b.nb.ne e.symm
   ·exact b.nb.ne e.symm
  rw[mE b.V8.nd hT,if_neg hnm,h.used];rfl
theorem TI.levels(b:TB K0 S0 aj x y l all made)(h:TI K0 S0 aj x y l made K S all [] P){s:Nat}{d:Nd}(hs:K.N s=some d):
  rV aj x y l d.v<dep K0.n (rV aj x y l) K.N d.lo∧rV aj x y l d.v<dep K0.n (rV aj x y l) K.N d.hi:=by
 have w:=b.ok.wf
 have hd:∀c∈all,c∈all:=fun _ h=>h
 have SV:l+1<K0.n:=by have:=b.ok.lv.lt y b.nb.yn;rw[b.nb.ly]at this;exact this
 have sx:rV aj x y l x=l+1:=by simp[rV]
 have sy:rV aj x y l y=l:=by unfold rV;rw[if_neg (Ne.symm b.nb.ne),if_pos rfl]
 have so:∀v,v<K0.n→aj v≠l→aj v≠l+1→rV aj x y l v=aj v:=fun v hv h1 h2=>by
  unfold rV
  rw[if_neg (fun e=>h1 (by rw[e];exact b.nb.lx)),if_neg (fun e=>h2 (by rw[e];exact b.nb.ly))]
 have low:∀{t},rL K0 aj l t→l+1<dep K0.n (rV aj x y l) K.N t:=fun{t} ht=>by
  have e:=h.O6 b hd ht
  cases e2:K0.N t with
  |none=>rw[aX (by rw[e,e2])];exact SV
  |some e'=>
   have:=b.xL ht e2
   rw[ax (by rw[e,e2]),so _ (w.var e2) (by omega) (by omega)];exact this
 have wj:∀{t},vy K0 K aj x l t→l<dep K0.n (rV aj x y l) K.N t:=fun{t} ht=>by
  rcases ht with ht|⟨e,he,hx,_⟩
  ·have:=low ht;omega
  ·rw[ax he,hx,sx];omega
 rcases h.new hs with⟨h1,h2⟩|⟨_,h2,h3,h4⟩|⟨_,h2,h3,h4⟩
 ·have hv:=w.var h1
  have q1:=w.lo h1
  have q2:=w.hi h1
  rcases Nat.lt_trichotomy (aj d.v) l with hlt|heq|hgt
  ·rw[so _ hv (by omega) (by omega)]
   have up':∀{t},live K0.N t→aj d.v<dep K0.n aj K0.N t→aj d.v<dep K0.n (rV aj x y l) K.N t:=fun{t} ht gZ=>by
    cases e:K.N t with
    |none=>rw[aX e];exact Nat.lt_of_lt_of_le gZ (w.mG b.ok.lv t)
    |some e'=>
     rw[ax e]
     rcases h.new e with⟨g1,_⟩|⟨_,g2,_⟩|⟨g1,_⟩
     ·rw[ax g1]at gZ
      have hve:=w.var g1
      by_cases e1:aj e'.v=l
      ·have:e'.v=x:=b.ok.lv.inj _ _ hve b.nb.xn (by rw[b.nb.lx];exact e1)
       rw[this,sx];omega
      ·by_cases e2:aj e'.v=l+1
       ·have:e'.v=y:=b.ok.lv.inj _ _ hve b.nb.yn (by rw[b.nb.ly];exact e2)
        rw[this,sy];exact hlt
       ·rw[so _ hve e1 e2];exact gZ
     ·rw[g2,sy];exact hlt
     ·rcases ht with ht|⟨f,hf⟩
      ·have:=(h.mid.two e).1;omega
      ·rw[g1]at hf;cases hf
   exact⟨up' q1.1 q1.2,up' q2.1 q2.2⟩
  ·have hx:d.v=x:=b.ok.lv.inj _ _ hv b.nb.xn (by rw[b.nb.lx];exact heq)
   rw[hx,sx]
   have nc:∀t,t=d.lo∨t=d.hi→∀e,K0.N t=some e→e.v≠y:=fun t ht e he hv=>h2 (List.mem_map.2 ⟨mH K0.N y s d,(b.cx.mem _).2 ⟨⟨h1,hx,by
    rcases ht with rfl|rfl
    ·exact .inl ⟨e,he,hv⟩
    ·exact .inr ⟨e,he,hv⟩⟩,rfl⟩,rfl⟩)
   have lw:∀t,t=d.lo∨t=d.hi→live K0.N t→aj d.v<dep K0.n aj K0.N t→rL K0 aj l t:=fun t ht hlv hlt=>by
    refine⟨hlv,?_⟩
    have:=(w.half b.ok.lv b.ok.mid.int b.nb.yy hlv (by omega:l<dep K0.n aj K0.N t)).1.2
    rwa [(OU (nc t ht)).1]at this
   exact⟨low (lw _ (.inl rfl) q1.1 q1.2),low (lw _ (.inr rfl) q2.1 q2.2)⟩
  ·by_cases e:aj d.v=l+1
   ·have hy:d.v=y:=b.ok.lv.inj _ _ hv b.nb.yn (by rw[b.nb.ly];exact e)
    rw[hy,sy]
    have a1:=low ⟨q1.1,by omega⟩
    have a2:=low ⟨q2.1,by omega⟩
    exact⟨by omega,by omega⟩
   ·rw[so _ hv (by omega) e]
    have deep:∀{t},live K0.N t→aj d.v<dep K0.n aj K0.N t→aj d.v<dep K0.n (rV aj x y l) K.N t:=fun{t} ht gZ=>by
     have hl:rL K0 aj l t:=⟨ht,by omega⟩
     have e':=h.O6 b hd hl
     cases e2:K0.N t with
     |none=>rw[aX (by rw[e',e2])];exact b.ok.lv.lt _ hv
     |some f=>
      rw[ax e2]at gZ
      rw[ax (by rw[e',e2]),so _ (w.var e2) (by omega) (by omega)];exact gZ
    exact⟨deep q1.1 q1.2,deep q2.1 q2.2⟩
 ·rw[h2,sy];exact⟨wj h3,wj h4⟩
 ·rw[h2,sx];exact⟨low h3,low h4⟩
theorem TI.fin(b:TB K0 S0 aj x y l all made)(h:TI K0 S0 aj x y l made K S all [] P){K':Kd}(hm:iK K' S gP zero')(hp:Pos K')(hN:∀{s d},K'.N s=some d→K.N s=some d)(hn:K'.n=K.n)(hh:∀r,K'.hold r=K.hold r):
  Ok K' S (rV aj x y l)∧(∀g,K'.held S g↔K0.held S0 g)∧∀r,K0.hold r≠0→S r=S0 r:=by
 have hSr:∀r,K0.hold r≠0→S r=S0 r:=fun r hr=>h.ext r (.inr (b.ok.mid.held r hr))
 refine⟨⟨hm,hp,by rw[hn,h.n];exact OG b.ok.lv b.nb,hm.wf fun{s d} hs=>?_⟩,fun g=>?_,hSr⟩
 ·have hl:=h.levels b (hN hs)
  have same:∀{t},live K'.N t→dep K'.n (rV aj x y l) K'.N t=dep K0.n (rV aj x y l) K.N t:=fun{t} ht=>by
   cases e:K'.N t with
   |some f=>rw[ax e,ax (hN e)]
   |none=>
    have Q6:t<2:=by
     rcases ht with ht|⟨f,hf⟩
     ·exact ht
     ·rw[e]at hf;cases hf
    have:K.N t=none:=by
     cases e2:K.N t with
     |none=>rfl
     |some f=>have:=(h.mid.two e2).1;omega
    rw[aX e,aX this,hn,h.n]
  rw[same (hm.lo hs),same (hm.hi hs)];exact hl
 ·constructor
  ·rintro⟨r,hr,rfl⟩
   have hr':K0.hold r≠0:=by rw[←h.hold,←hh];exact hr
   exact⟨r,hr',hSr r hr'⟩
  ·rintro⟨r,hr,rfl⟩
   exact⟨r,by show K'.hold r≠0;rw[hh,h.hold];exact hr,(hSr r hr).symm⟩
end
end aF
namespace aF
open aG
variable {n cap l:Nat} {ord:List Nat} {F G:Fn→Prop}
open Classical in
noncomputable def sz(n:Nat)(ord:List Nat)(F:Fn→Prop):Nat:=if h:∃k,q8 (aR n ord F) k then Classical.choose h else 0
theorem VS{k:Nat}(h:q8 (aR n ord F) k):sz n ord F=k:=by
 unfold sz
 rw[dif_pos ⟨k,h⟩]
 exact(Classical.choose_spec (⟨k,h⟩:∃k,q8 (aR n ord F) k)).uniq h
def Fg(n:Nat)(ord:List Nat)(l:Nat)(F:Fn→Prop):Fn→Prop:=fun g=>aR n ord F g∨aR n (gI ord l) F g
open Classical in
noncomputable def yS(n:Nat)(ord:List Nat)(l:Nat)(F:Fn→Prop):Nat:=if h:∃k,q8 (Fg n ord l F) k then Classical.choose h else 0
theorem Kw{k:Nat}(h:q8 (Fg n ord l F) k):yS n ord l F=k:=by
 unfold yS
 rw[dif_pos ⟨k,h⟩]
 exact(Classical.choose_spec (⟨k,h⟩:∃k,q8 (Fg n ord l F) k)).uniq h
theorem KI(e:∀g,F g↔G g):sz n ord F=sz n ord G:=by
 have:F=G:=funext fun g=>propext (e g)
 rw[this]
theorem GY(e:∀g,F g↔G g):yS n ord l F=yS n ord l G:=by
 have:F=G:=funext fun g=>propext (e g)
 rw[this]
theorem Aj{a b:List Nat}(hl:a.length=b.length)(h:∀i,i<a.length→a.getD i 0=b.getD i 0):a=b:=by
 refine List.ext_getElem hl fun i h1 h2=>?_
 have:=h i h1
 simpa[List.getD,List.getElem?_eq_getElem h1,List.getElem?_eq_getElem h2]using this
theorem po(hl:l+1<ord.length):gI (gI ord l) l=ord:=by
 refine Aj (by rw[kM,kM]) fun i _=>?_
 have h2:l+1<(gI ord l).length:=by rw[kM];exact hl
 rw[dz h2,dz hl,dz hl,dz hl]
 by_cases e:i=l
 ·subst e;simp
 ·by_cases e2:i=l+1
  ·subst e2;simp
  ·simp[e,e2]
theorem Oq(hl:l+1<ord.length):yS n (gI ord l) l F=yS n ord l F:=by
 have:Fg n (gI ord l) l F=Fg n ord l F:=by
  funext g
  unfold Fg
  rw[po hl]
  exact propext or_comm
 unfold yS
 rw[this]
def vv(n cap:Nat)(F:Fn→Prop):List Nat→List Nat→Prop
 |_,[]=>True
 |ord,l::r=>l+1<n∧yS n ord l F+2≤cap∧vv n cap F (gI ord l) r
theorem vv.congr(e:∀g,F g↔G g):∀{tr ord:List Nat},vv n cap F ord tr→vv n cap G ord tr:=by
 have:F=G:=funext fun g=>propext (e g)
 subst this
 exact fun{tr ord} h=>h
theorem vv.ade(hlen:ord.length=n)(hl:l+1<n)(hfit:yS n ord l F+2≤cap){tr:List Nat}(h:vv n cap F ord tr.reverse):vv n cap F (gI ord l) (tr++[l]).reverse:=by
 rw[List.reverse_append]
 exact⟨hl,by rw[Oq (by omega)];exact hfit,by rw[po (by omega)];exact h⟩
end aF
namespace aF
open aG
variable {n l:Nat} {ord:List Nat} {L:aG.Fs} {F:Fn→Prop}
def fg(n:Nat)(ws:List Nat):Fn:=fun x=>bit ws (x%2^n)
theorem lZ{x v n:Nat}{b:Bool}(hv:v<n):aI x v b%2^n=aI (x%2^n) v b:=by
 apply Nat.eq_of_testBit_eq;intro k
 rw[Nat.testBit_mod_two_pow,ay,ay,Nat.testBit_mod_two_pow]
 by_cases e:k=v
 ·subst e;simp[hv]
 ·simp[e]
theorem nB{v:Nat}{ws:List Nat}(hf:fA n ws)(hv:v<n)(b:Bool):fg n (kz n ws v b)=fun x=>fg n ws (aI x v b):=by
 funext x
 unfold fg
 rw[pZ hf hv (Nat.mod_lt _ (Nat.two_pow_pos n)),lZ hv]
theorem MI{ws:List Nat}{x:Nat}(h:x<2^n):fg n ws x=bit ws x:=by unfold fg;rw[Nat.mod_eq_of_lt h]
theorem x8{a b:List Nat}(ha:fA n a)(hb:fA n b)(h:fg n a=fg n b):a=b:=ha.ext hb fun x hx=>by rw[←MI hx,←MI hx,h]
theorem qQ{v:Nat}{ws:List Nat}(hf:fA n ws)(hv:v<n):dr (fg n ws) v↔aG.dep n ws v=true:=by
 rw[Qc hf hv]
 constructor
 ·rintro⟨x,hx⟩
  refine⟨x%2^n,Nat.mod_lt _ (Nat.two_pow_pos n),?_⟩
  unfold fg at hx
  rwa [lZ hv,lZ hv]at hx
 ·rintro⟨x,hx,hne⟩
  refine⟨x,?_⟩
  unfold fg
  rwa [lZ hv,lZ hv,Nat.mod_eq_of_lt hx]
def cur(n:Nat)(ord:List Nat)(L:aG.Fs):Nat→aG.Fs
 |0=>lV L
 |k+1=>given n (cur n ord L k) (ord.getD k 0)
def FT(n:Nat)(L:aG.Fs):Fn→Prop:=fun g=>∃t∈L,g=fg n t
theorem nE:∀k,(cur n ord L k).Nodup
 |0=>kK L
 |k+1=>Ac _ _ _
theorem nF(hL:∀t∈L,fA n t)(hn:n≤16):∀k,∀t∈cur n ord L k,fA n t
 |0,t,h=>hL t (dK.1 h)
 |k+1,t,h=>by obtain⟨u,_,b,rfl⟩:=nr.1 h;exact jx hn
theorem x6(hL:∀t∈L,fA n t)(hn:n≤16)(ho:∀i,i<n→ord.getD i 0<n):∀k,k≤n→∀g,fs ord (FT n L) k g↔∃t∈cur n ord L k,g=fg n t
 |0,_,g=>by
  show(∃t∈L,g=fg n t)↔_
  constructor
  ·rintro⟨t,h,e⟩;exact⟨t,dK.2 h,e⟩
  ·rintro⟨t,h,e⟩;exact⟨t,dK.1 h,e⟩
 |k+1,hk,g=>by
  have ih:=x6 hL hn ho k (by omega)
  constructor
  ·rintro⟨f,hf,b,rfl⟩
   obtain⟨t,ht,rfl⟩:=(ih f).1 hf
   exact⟨kz n t (ord.getD k 0) b,nr.2 ⟨t,ht,b,rfl⟩,(nB (nF hL hn k t ht) (ho k (by omega)) b).symm⟩
  ·rintro⟨t,ht,rfl⟩
   obtain⟨u,hu,b,rfl⟩:=nr.1 ht
   exact⟨fg n u,(ih _).2 ⟨u,hu,rfl⟩,b,nB (nF hL hn k u hu) (ho k (by omega)) b⟩
theorem pS:∀k g,fs ord F k g→∀j,j<k→¬dr g (ord.getD j 0)
 |0,_,_,_,h=>absurd h (Nat.not_lt_zero _)
 |k+1,g,h,j,hj=>by
  obtain⟨f,hf,b,rfl⟩:=h
  rintro⟨x,hx⟩
  apply hx
  by_cases e:ord.getD j 0=ord.getD k 0
  ·show f (aI (aI x _ false) _ b)=f (aI (aI x _ true) _ b)
   congr 1
   apply Nat.eq_of_testBit_eq;intro i
   simp only[ay,e]
   split<;>rfl
  ·have hlt:j<k:=by
    rcases Nat.lt_succ_iff_lt_or_eq.1 hj with h|h
    ·exact h
    ·subst h;exact(e rfl).elim
   have:=pS k f hf j hlt
   show f (aI (aI x _ false) _ b)=f (aI (aI x _ true) _ b)
   rw[dA e,dA e]
   exact Classical.byContradiction fun hne=>this ⟨_,hne⟩
def j4(n:Nat)(ord:List Nat)(L:aG.Fs)(k:Nat):aG.Fs:=nodes n (cur n ord L k) (ord.getD k 0)
def g9(n:Nat)(ord:List Nat)(L:aG.Fs):Nat→Nat
 |0=>0
 |k+1=>g9 n ord L k+(j4 n ord L k).length
def ua(n:Nat)(ord:List Nat)(L:aG.Fs):Nat→aG.Fs
 |0=>[]
 |k+1=>ua n ord L k++j4 n ord L k
theorem jA:∀k,(ua n ord L k).length=g9 n ord L k
 |0=>rfl
 |k+1=>by rw[ua,g9,List.length_append,jA k]
theorem mj{k:Nat}{t:List Nat}:t∈j4 n ord L k↔t∈cur n ord L k∧aG.dep n t (ord.getD k 0)=true:=by
 unfold j4 nodes;rw[List.mem_filter]
theorem p7(hL:∀t∈L,fA n t)(hn:n≤16):∀k,∀t∈ua n ord L k,fA n t
 |0,t,h=>by cases h
 |k+1,t,h=>by
  rcases List.mem_append.1 h with h|h
  ·exact p7 hL hn k t h
  ·exact nF hL hn k t (mj.1 h).1
theorem mM(hL:∀t∈L,fA n t)(hn:n≤16)(ho:∀i,i<n→ord.getD i 0<n):∀m,m≤n→∀g,(∃k,k<m∧fs ord (FT n L) k g∧dr g (ord.getD k 0))↔∃t∈ua n ord L m,g=fg n t
 |0,_,g=>by simp[ua]
 |m+1,hm,g=>by
  have ih:=mM hL hn ho m (by omega) g
  have aj:(fs ord (FT n L) m g∧dr g (ord.getD m 0))↔∃t∈j4 n ord L m,g=fg n t:=by
   rw[x6 hL hn ho m (by omega)]
   constructor
   ·rintro⟨⟨t,ht,rfl⟩,hh⟩
    exact⟨t,mj.2 ⟨ht,(qQ (nF hL hn m t ht) (ho m (by omega))).1 hh⟩,rfl⟩
   ·rintro⟨t,ht,rfl⟩
    obtain⟨h1,h2⟩:=mj.1 ht
    exact⟨⟨t,h1,rfl⟩,(qQ (nF hL hn m t h1) (ho m (by omega))).2 h2⟩
  constructor
  ·rintro⟨k,hk,h1,h2⟩
   by_cases e:k=m
   ·subst e
    obtain⟨t,ht,rfl⟩:=aj.1 ⟨h1,h2⟩
    exact⟨t,List.mem_append_right _ ht,rfl⟩
   ·obtain⟨t,ht,rfl⟩:=ih.1 ⟨k,by omega,h1,h2⟩
    exact⟨t,List.mem_append_left _ ht,rfl⟩
  ·rintro⟨t,ht,rfl⟩
   rcases List.mem_append.1 ht with ht|ht
   ·obtain⟨k,hk,h⟩:=ih.2 ⟨t,ht,rfl⟩
    exact⟨k,by omega,h⟩
   ·exact⟨m,by omega,aj.2 ⟨t,ht,rfl⟩⟩
theorem tZ(hL:∀t∈L,fA n t)(hn:n≤16)(ho:∀i,i<n→ord.getD i 0<n):∀m,m≤n→(ua n ord L m).Nodup
 |0,_=>List.nodup_nil
 |m+1,hm=>by
  refine List.nodup_append.2 ⟨tZ hL hn ho m (by omega),(nE m).filter _,fun a ha b hb e=>?_⟩
  subst e
  obtain⟨k,hk,h1,h2⟩:=(mM hL hn ho m (by omega) (fg n a)).2 ⟨a,ha,rfl⟩
  have h3:=(x6 hL hn ho m (by omega) (fg n a)).2 ⟨a,(mj.1 hb).1,rfl⟩
  exact pS m _ h3 k hk h2
theorem Ap{P:Fn→Prop}{l:aG.Fs}(hf:∀t∈l,fA n t)(hn:l.Nodup)(h:∀g,P g↔∃t∈l,g=fg n t):q8 P l.length:=by
 refine⟨l.map (fg n),?_,by simp,fun g=>?_⟩
 ·refine List.pairwise_map.2 (hn.imp_of_mem fun{a b} ha hb hne heq=>hne (x8 (hf a ha) (hf b hb) heq))
 ·rw[h,List.mem_map]
  constructor
  ·rintro⟨t,ht,rfl⟩;exact⟨t,ht,rfl⟩
  ·rintro⟨t,ht,rfl⟩;exact⟨t,ht,rfl⟩
theorem MV(hL:∀t∈L,fA n t)(hn:n≤16)(ho:∀i,i<n→ord.getD i 0<n):q8 (aR n ord (FT n L)) (g9 n ord L n):=by
 rw[←jA]
 exact Ap (p7 hL hn n) (tZ hL hn ho n (Nat.le_refl _)) (mM hL hn ho n (Nat.le_refl _))
def M6(n:Nat)(ord:List Nat)(l:Nat)(L:aG.Fs):aG.Fs:=lV (ua n ord L n++ua n (gI ord l) L n)
theorem Sf(hl:l+1<n)(hlen:ord.length=n)(ho:∀i,i<n→ord.getD i 0<n):∀i,i<n→(gI ord l).getD i 0<n:=fun i hi=>by
 rw[dz (by omega)]
 split
 ·exact ho _ hl
 ·split
  ·exact ho _ (by omega)
  ·exact ho i hi
theorem Sc(hL:∀t∈L,fA n t)(hn:n≤16)(ho:∀i,i<n→ord.getD i 0<n)(hl:l+1<n)(hlen:ord.length=n):yS n ord l (FT n L)=(M6 n ord l L).length:=by
 have cz:=Sf hl hlen ho
 refine Kw (Ap (n:=n) (fun t ht=>?_) (kK _) fun g=>?_)
 ·rcases List.mem_append.1 (dK.1 ht)with h|h
  ·exact p7 hL hn n t h
  ·exact p7 hL hn n t h
 ·unfold Fg M6
  rw[show aR n ord (FT n L) g↔_ from mM hL hn ho n (Nat.le_refl _) g,show aR n (gI ord l) (FT n L) g↔_ from mM hL hn cz n (Nat.le_refl _) g]
  constructor
  ·rintro(⟨t,h,rfl⟩|⟨t,h,rfl⟩)
   ·exact⟨t,dK.2 (List.mem_append_left _ h),rfl⟩
   ·exact⟨t,dK.2 (List.mem_append_right _ h),rfl⟩
  ·rintro⟨t,h,rfl⟩
   rcases List.mem_append.1 (dK.1 h)with h|h
   ·exact .inl ⟨t,h,rfl⟩
   ·exact .inr ⟨t,h,rfl⟩
end aF
set_option maxRecDepth 100000
namespace Go.Proofs
open Go Go.Sx
open aF
def u32(r:Nat):Value:=.int .u32 (r:Int)
def aZ(d:Nd):List Value:=[.int .i64 (d.v:Int),u32 d.lo,u32 d.hi]
structure nQ where
 v:Int
 lo:Nat
 hi:Nat
 tk:Bool
 c:Nat
def nQ.row(p:nQ):List Value:=[.int .i64 p.v,u32 p.lo,u32 p.hi,.bool p.tk,.int .u8 (p.c:Int)]
def fG(N:eB)(r:Nat):Bool:=decide (r<2)||(N r).isSome
theorem bT{N:eB}{r:Nat}:fG N r=true↔live N r:=by
 unfold fG live
 rw[Bool.or_eq_true,decide_eq_true_eq,Option.isSome_iff_exists]
def got(N:eB)(r:Nat):List Value:=
 if r<2 then [.int .i64 (-1),u32 r,u32 r]else match N r with|some d=>aZ d|none=>[.int .i64 0,u32 0,u32 0]
theorem dD{N:eB}{r:Nat}{d:Nd}(h:N r=some d)(h2:2≤r):got N r=aZ d:=by unfold got;rw[if_neg (by omega),h]
theorem dV{N:eB}{r:Nat}(h2:r<2):got N r=[.int .i64 (-1),u32 r,u32 r]:=by unfold got;rw[if_pos h2]
theorem zZ{N:eB}{r:Nat}(h:fG N r=false):got N r=[.int .i64 0,u32 0,u32 0]:=by
 unfold fG at h
 rw[Bool.or_eq_false_iff,decide_eq_false_iff_not]at h
 unfold got;rw[if_neg h.1]
 cases hN:N r with
 |none=>rfl
 |some d=>rw[hN]at h;simp at h
def Hy(p:nQ):Option Nd:=if p.tk then some ⟨p.v.toNat,p.lo,p.hi⟩else none
structure yu(l:List nQ)(fr:List Nat)(cap used:Nat)(N:eB):Prop where
 cap:l.length≤cap∧cap≤1048576
 two:2≤l.length
 const:∀r,r<2→∃p,l[r]? =some p∧p.v= -1∧p.lo=r∧p.hi=r∧p.tk=true
 nd:∀r,2≤r→N r=(l[r]?).bind Hy
 n0:∀r,r<2→N r=none
 nn:∀(r:Nat) p,2≤r→l[r]? =some p→p.tk=true→0≤p.v
 Ob:fr.Nodup
 qO:∀r,r∈fr↔∃p,l[r]? =some p∧p.tk=false
 used:used+fr.length=l.length
theorem yu.zu{l:List nQ}{fr:List Nat}{cap used:Nat}{N:eB}(h:yu l fr cap used N)(r:Nat):fG N r=(match l[r]? with|some p=>p.tk|none=>false):=by
 unfold fG
 by_cases h2:r<2
 ·obtain⟨p,hp,_,_,_,ht⟩:=h.const r h2
  simp[h2,hp,ht]
 ·rw[h.nd r (by omega)]
  cases hl:l[r]? with
  |none=>simp[h2]
  |some p=>cases ht:p.tk<;>simp[h2,Hy,ht]
theorem yu.ac8{l:List nQ}{fr:List Nat}{cap used:Nat}{N:eB}(h:yu l fr cap used N){r:Nat}{p:nQ}(hp:l[r]? =some p)(ht:p.tk=true):got N r=p.row.take 3:=by
 by_cases h2:r<2
 ·obtain⟨p',Tf,h1,mB,h3,_⟩:=h.const r h2
  rw[hp]at Tf;cases Tf
  rw[dV h2];simp[nQ.row,h1,mB,h3]
 ·have hn:=h.nn r p (by omega) hp ht
  rw[dD (d:=⟨p.v.toNat,p.lo,p.hi⟩) (by rw[h.nd r (by omega),hp];simp[Hy,ht]) (by omega)]
  simp[aZ,nQ.row,Int.toNat_of_nonneg hn]
theorem yu.lt{l:List nQ}{fr:List Nat}{cap used:Nat}{N:eB}(h:yu l fr cap used N){r:Nat}(hr:live N r):r<l.length:=by
 have:=bT.2 hr
 rw[h.zu]at this
 cases hl:l[r]? with
 |none=>rw[hl]at this;simp at this
 |some p=>exact(List.getElem?_eq_some_iff.1 hl).1
def gT(pa cap used:Nat)(N:eB)(C:Hp):Prop:=
 ∃vl vf l fr Cl Cf,C=(pa,.cells #[.int .i64 (cap:Int),vl,vf,.int .i64 (used:Int)] 198 (0,0))::(Cl++Cf)∧
  aS 291 5 vl (l.map nQ.row) Cl∧aP 77 .u32 vf (fr.map (Nat.cast:Nat→Int)) Cf∧yu l fr cap used N
abbrev ptr(b:Nat):Value:=.pointer (some ⟨b,0,none⟩)
theorem row_one(p:nQ):∀x∈p.row,x.oneCell'=true:=by intro x hx;simp[nQ.row,u32]at hx;rcases hx with rfl|rfl|rfl|rfl|rfl<;>rfl
theorem pn{pa cap used r:Nat}{N:eB}{C:Hp}(h:gT pa cap used N C)(hr:r<4294967296):
  Rd Tryz.prog 253 #[ptr pa,u32 r] C (· =.bool (fG N r)):=by
 obtain⟨vl,vf,l,fr,Cl,Cf,rfl,hl,hf,ho⟩:=h
 intro g
 refine Dr (R:=aB _) ?_
 unfold L253
 refine aY.nat (by simp[aE];omega) ?_
 refine Nil.ptr ?_
 refine aa.mk (Ld.mk zM rfl ?_)
 refine hl.bQ ?_
 refine ae.fu ?_
 rw[List.length_map]
 rw[ho.zu r]
 refine bX.and (match l[r]? with|some p=>p.tk|none=>false) (fun hlt=>?_) rfl fun _=>cw.mk (.refl _) ?_
 ·have gZ:=of_decide_eq_true hlt
  refine Nil.ptr ?_
  refine aa.mk (Ld.mk zM rfl ?_)
  have hg:l[r]? =some l[r]:=List.getElem?_eq_getElem gZ
  refine hl.SG (r:=l[r].row) (x:=.bool l[r].tk) (by rw[List.getElem?_map,hg];rfl) rfl (fun _ h=>by exact .tail _ (List.mem_append_left _ h)) ?_
  exact⟨rfl,by rw[hg]⟩
 ·congr 1
  by_cases hlt:r<l.length
  ·simp[hlt]
  ·rw[List.getElem?_eq_none (by omega)];simp
theorem MD{pa cap used r:Nat}{N:eB}{C:Hp}(h:gT pa cap used N C)(hr:r<4294967296):
  Rd Tryz.prog 231 #[ptr pa,u32 r] C (· =.tuple #[.agg (got N r).toArray,.int .i64 (if fG N r then 0 else 3)]):=by
 have h0:=h
 obtain⟨vl,vf,l,fr,Cl,Cf,rfl,hl,hf,ho⟩:=h
 intro g
 refine DK (R:=aB _) ?_
 unfold L231
 intro b1 _
 refine ae.aH (Br.no ?_)
 refine ag.rd (.cons .here) (pn h0 hr) ?_
 rintro v rfl
 refine Un.not ?_
 refine Br.mk (fun hb=>?_) (fun hb=>?_)
 ·have hb':fG N r=false:=by simpa using hb
  refine Build.mk (cs:=[.int .i64 0,.int .u32 0,.int .u32 0]) (by kernel_rfl) ?_
  refine St.whole (r:=[.int .i64 0,.int .u32 0,.int .u32 0]) (by exact .head _) rfl rfl (by simp[Value.oneCell']) ?_
  refine aD.whole (r:=[.int .i64 0,.int .u32 0,.int .u32 0]) (by exact .head _) rfl ?_
  exact cw.mk .tail (by rw[zZ hb',hb'];rfl)
 ·have hb':fG N r=true:=by simpa using hb
  have hx:=hb'
  rw[ho.zu]at hx
  cases hg:l[r]? with
  |none=>rw[hg]at hx;simp at hx
  |some p=>
  rw[hg]at hx
  simp only at hx
  refine Nil.ptr ?_
  refine aa.mk (Ld.mk zM rfl ?_)
  refine hl.SF (r:=p.row) (by rw[List.getElem?_map,hg];rfl) (by decide) (fun _ h=>by exact .tail _ (.tail _ (List.mem_append_left _ h))) ?_
  refine St.whole (r:=p.row.take 3) (by exact .head _) rfl rfl (fun x hx=>row_one p x (List.mem_of_mem_take hx)) ?_
  refine aD.whole (r:=p.row.take 3) (by exact .head _) rfl ?_
  exact cw.mk .tail (by rw[ho.ac8 hg hx,hb'];rfl)
structure Yr(N:eB)(d:Nd):Prop where
 v:d.v<64
 lo:live N d.lo
 hi:live N d.hi
theorem gT.lt{pa cap used r:Nat}{N:eB}{C:Hp}(h:gT pa cap used N C)(hr:live N r):r<cap∧cap≤1048576:=by
 obtain⟨vl,vf,l,fr,Cl,Cf,rfl,hl,hf,ho⟩:=h
 exact⟨Nat.lt_of_lt_of_le (ho.lt hr) ho.cap.1,ho.cap.2⟩
theorem wM{pa cap used:Nat}{N:eB}{C:Hp}{d:Nd}(h:gT pa cap used N C)(hd:Yr N d):
  Rd Tryz.prog 208 #[ptr pa,.agg (aZ d).toArray] C (· =.int .i64 0):=by
 have hlo:=h.lt hd.lo
 have hhi:=h.lt hd.hi
 intro g
 refine D1 (R:=aB _) ?_
 unfold L208
 intro b1 _
 refine aa.mk (Ld.mk (v:=.int .i64 (d.v:Int)) (by exact .head _) rfl ?_)
 refine ae.lss ?_
 refine bX.or (decide (64≤d.v)) (fun _=>?_) rfl fun _=>?_
 ·refine aa.mk (Ld.mk (v:=.int .i64 (d.v:Int)) (by exact .head _) rfl ?_)
  exact ae.rG (b:=64) ⟨rfl,rfl⟩
 have hv:=hd.v
 refine Br.U5 (by simp;omega) ?_
 intro J hJ
 refine aa.mk (Ld.mk (v:=u32 d.lo) (by exact .head _) rfl ?_)
 refine ag.rd (.cons .here) (pn h (by omega)) ?_
 rintro v rfl
 rw[bT.2 hd.lo]
 refine Un.not (Split.go rfl ?_)
 refine aa.mk (Ld.mk (v:=u32 d.hi) (by exact .head _) rfl ?_)
 refine ag.rd (.cons .here) (pn h (by omega)) ?_
 rintro v rfl
 rw[bT.2 hd.hi]
 refine Un.not (az.mk (JE.mk (hJ _ _ fun gs=>Br.no (cw.mk .tail rfl))))
theorem Lb{pa cap used r:Nat}{N:eB}{C:Hp}(h:gT pa cap used N C)(hr:∃d,N r=some d)(h2:2≤r):
  Rd Tryz.prog 209 #[ptr pa,u32 r] C (· =.int .i64 0):=by
 have hl:=h.lt (.inr hr)
 intro g
 refine D0 (R:=aB _) ?_
 unfold L209
 intro J hJ
 refine ae.AU (b:=1) ?_
 refine Split.go (by simp;omega) ?_
 refine ag.rd .here (pn h (by omega)) ?_
 rintro v rfl
 rw[bT.2 (.inr hr)]
 refine Un.not (az.mk (JE.mk (hJ _ _ fun gs=>Br.no (cw.mk (.refl _) rfl))))
theorem Aw{pa cap used:Nat}{N:eB}{C:Hp}(h:gT pa cap used N C):Rd Tryz.prog 58 #[ptr pa] C (· =.int .i64 (used:Int)):=by
 obtain⟨vl,vf,l,fr,Cl,Cf,rfl,hl,hf,ho⟩:=h
 intro g
 refine Ja (R:=aB _) ?_
 unfold L58
 refine ae.aH (Br.no (Nil.ptr ?_))
 refine aa.mk (Ld.mk zM rfl ?_)
 exact cw.mk (.refl _) rfl
theorem tX{pa cap used:Nat}{N:eB}{C:Hp}(h:gT pa cap used N C):Rd Tryz.prog 146 #[ptr pa] C (· =.int .i64 (cap:Int)):=by
 obtain⟨vl,vf,l,fr,Cl,Cf,rfl,hl,hf,ho⟩:=h
 intro g
 refine EC (R:=aB _) ?_
 unfold L146
 refine ae.aH (Br.no (Nil.ptr ?_))
 refine aa.mk (Ld.mk zM rfl ?_)
 exact cw.mk (.refl _) rfl
section
variable {l:List nQ} {fr:List Nat} {cap used:Nat} {N:eB}
theorem BA(d:Nd){c:Nat}:Hy ⟨(d.v:Int),d.lo,d.hi,true,c⟩=some d:=by simp[Hy]
theorem yu.reuse(h:yu l fr cap used N){r:Nat}(hr:r∈fr){fr':List Nat}(hf:fr.Perm (r::fr'))(d:Nd):
  2≤r∧r<cap∧N r=none∧yu (l.set r ⟨(d.v:Int),d.lo,d.hi,true,0⟩) fr' cap (used+1) (up N r (some d)):=by
 obtain⟨p,hp,ht⟩:=(h.qO r).1 hr
 have hlt:=(List.getElem?_eq_some_iff.1 hp).1
 have h2:2≤r:=by
  apply Decidable.byContradiction
  intro hn
  obtain⟨p',Tf,_,_,_,ht'⟩:=h.const r (by omega)
  rw[hp]at Tf;cases Tf;rw[ht]at ht';cases ht'
 have ig:=hf.nodup_iff.1 h.Ob
 rw[List.nodup_cons]at ig
 refine⟨h2,Nat.lt_of_lt_of_le hlt h.cap.1,by rw[h.nd r h2,hp];simp[Hy,ht],?_⟩
 have gB:∀s,s≠r→(l.set r ⟨(d.v:Int),d.lo,d.hi,true,0⟩)[s]? =l[s]? :=fun s hs=>List.getElem?_set_ne (Ne.symm hs)
 have gA:(l.set r ⟨(d.v:Int),d.lo,d.hi,true,0⟩)[r]? =some ⟨(d.v:Int),d.lo,d.hi,true,0⟩:=List.getElem?_set_self hlt
 exact {
  cap:=by simpa using h.cap
  two:=by simpa using h.two
  const:=fun s hs=>by rw[gB s (by omega)];exact h.const s hs
  nd:=fun s hs=>by
   by_cases e:s=r
   ·subst e;rw[aK,gA];exact(BA d).symm
   ·rw[aQ e,gB s e];exact h.nd s hs
  n0:=fun s hs=>by rw[aQ (by omega)];exact h.n0 s hs
  nn:=fun s q hs hq LS=>by
   by_cases e:s=r
   ·subst e;rw[gA]at hq;cases hq;exact Int.natCast_nonneg _
   ·rw[gB s e]at hq;exact h.nn s q hs hq LS
  Ob:=ig.2
  qO:=fun s=>by
   by_cases e:s=r
   ·subst e
    rw[gA]
    simp[ig.1]
   ·rw[gB s e,←h.qO s,hf.mem_iff]
    simp[e]
  used:=by have:=h.used;have:=hf.length_eq;simp only[List.length_cons,List.length_set]at*;omega}
theorem yu.grow(h:yu l [] cap used N)(hlt:l.length<cap)(d:Nd):
  2≤l.length∧N l.length=none∧yu (l++[⟨(d.v:Int),d.lo,d.hi,true,0⟩]) [] cap (used+1) (up N l.length (some d)):=by
 have h2:=h.two
 refine⟨h2,by rw[h.nd _ h2,List.getElem?_eq_none (Nat.le_refl _)];rfl,?_⟩
 have gB:∀s,s≠l.length→(l++[(⟨(d.v:Int),d.lo,d.hi,true,0⟩:nQ)])[s]? =l[s]? :=fun s hs=>by
  rw[List.getElem?_append]
  split
  ·rfl
  ·rw[List.getElem?_eq_none (by simp;omega),List.getElem?_eq_none (by omega)]
 have gA:(l++[(⟨(d.v:Int),d.lo,d.hi,true,0⟩:nQ)])[l.length]? =some ⟨(d.v:Int),d.lo,d.hi,true,0⟩:=by simp
 exact {
  cap:=by simp;exact⟨hlt,h.cap.2⟩
  two:=by simp;omega
  const:=fun s hs=>by rw[gB s (by omega)];exact h.const s hs
  nd:=fun s hs=>by
   by_cases e:s=l.length
   ·subst e;rw[aK,gA];exact(BA d).symm
   ·rw[aQ e,gB s e];exact h.nd s hs
  n0:=fun s hs=>by rw[aQ (by omega)];exact h.n0 s hs
  nn:=fun s q hs hq LS=>by
   by_cases e:s=l.length
   ·subst e;rw[gA]at hq;cases hq;exact Int.natCast_nonneg _
   ·rw[gB s e]at hq;exact h.nn s q hs hq LS
  Ob:=h.Ob
  qO:=fun s=>by
   by_cases e:s=l.length
   ·subst e
    rw[gA]
    simp
   ·rw[gB s e];exact h.qO s
  used:=by have:=h.used;simp at*;omega}
theorem yu.xq(h:yu l fr cap used N){r:Nat}{p:nQ}(h2:2≤r)(hp:l[r]? =some p)(ht:p.tk=true)(d:Nd):
  yu (l.set r ⟨(d.v:Int),d.lo,d.hi,true,p.c⟩) fr cap used (up N r (some d)):=by
 have hlt:=(List.getElem?_eq_some_iff.1 hp).1
 have gB:∀s,s≠r→(l.set r ⟨(d.v:Int),d.lo,d.hi,true,p.c⟩)[s]? =l[s]? :=fun s hs=>List.getElem?_set_ne (Ne.symm hs)
 have gA:(l.set r ⟨(d.v:Int),d.lo,d.hi,true,p.c⟩)[r]? =some ⟨(d.v:Int),d.lo,d.hi,true,p.c⟩:=List.getElem?_set_self hlt
 exact {
  cap:=by simpa using h.cap
  two:=by simpa using h.two
  const:=fun s hs=>by rw[gB s (by omega)];exact h.const s hs
  nd:=fun s hs=>by
   by_cases e:s=r
   ·subst e;rw[aK,gA];exact(BA d).symm
   ·rw[aQ e,gB s e];exact h.nd s hs
  n0:=fun s hs=>by rw[aQ (by omega)];exact h.n0 s hs
  nn:=fun s q hs hq LS=>by
   by_cases e:s=r
   ·subst e;rw[gA]at hq;cases hq;exact Int.natCast_nonneg _
   ·rw[gB s e]at hq;exact h.nn s q hs hq LS
  Ob:=h.Ob
  qO:=fun s=>by
   by_cases e:s=r
   ·subst e
    rw[h.qO,gA,hp]
    simp[ht]
   ·rw[gB s e];exact h.qO s
  used:=by simpa using h.used}
theorem yu.free(h:yu l fr cap used N){r:Nat}{p:nQ}(h2:2≤r)(hp:l[r]? =some p)(ht:p.tk=true):
  yu (l.set r ⟨0,0,0,false,0⟩) (fr++[r]) cap (used-1) (up N r none)∧0<used:=by
 have hlt:=(List.getElem?_eq_some_iff.1 hp).1
 have gB:∀s,s≠r→(l.set r ⟨0,0,0,false,0⟩)[s]? =l[s]? :=fun s hs=>List.getElem?_set_ne (Ne.symm hs)
 have gA:(l.set r ⟨0,0,0,false,0⟩)[r]? =some ⟨0,0,0,false,0⟩:=List.getElem?_set_self hlt
 have hnf:r∉fr:=fun hm=>by obtain⟨q,hq,LS⟩:=(h.qO r).1 hm;rw[hp]at hq;cases hq;rw[ht]at LS;cases LS
 have hu:fr.length<l.length:=by
  have hn:(r::fr).Nodup:=List.nodup_cons.2 ⟨hnf,h.Ob⟩
  have:=bP (l:=r::fr) (l':=List.range l.length) hn fun s hs=>by
   rw[List.mem_range]
   rcases List.mem_cons.1 hs with rfl|hs
   ·exact hlt
   ·obtain⟨q,hq,_⟩:=(h.qO s).1 hs;exact(List.getElem?_eq_some_iff.1 hq).1
  rw[List.length_range]at this;exact this
 have hu2:=h.used
 refine⟨?_,by omega⟩
 exact {
  cap:=by simpa using h.cap
  two:=by simpa using h.two
  const:=fun s hs=>by rw[gB s (by omega)];exact h.const s hs
  nd:=fun s hs=>by
   by_cases e:s=r
   ·subst e;rw[aK,gA];rfl
   ·rw[aQ e,gB s e];exact h.nd s hs
  n0:=fun s hs=>by rw[aQ (by omega)];exact h.n0 s hs
  nn:=fun s q hs hq LS=>by
   by_cases e:s=r
   ·subst e;rw[gA]at hq;cases hq;cases LS
   ·rw[gB s e]at hq;exact h.nn s q hs hq LS
  Ob:=by rw[List.nodup_append];exact⟨h.Ob,by simp,fun a ha c hc=>by simp at hc;subst hc;intro e;subst e;exact hnf ha⟩
  qO:=fun s=>by
   rw[List.mem_append,List.mem_singleton]
   by_cases e:s=r
   ·subst e
    rw[gA]
    simp
   ·rw[gB s e,←h.qO];simp[e]
  used:=by simp;omega}
end
theorem mm(l:List nQ)(r:Nat)(p:nQ):(l.map nQ.row).set r p.row=(l.set r p).map nQ.row:=by rw[List.map_set]
theorem Nn{pa cap used:Nat}{N:eB}{C:Hp}{d:Nd}(h:gT pa cap used N C)(hd:Yr N d)(hroom:used<cap):
  Fc Tryz.prog 252 #[ptr pa,.agg (aZ d).toArray] C (fun v C'=>∃r,v=.tuple #[u32 r,.int .i64 0]∧2≤r∧r<cap∧N r=none∧gT pa cap (used+1) (up N r (some d)) C'):=by
 have h0:=h
 obtain⟨vl,vf,l,fr,Cl,Cf,rfl,hl,hf,ho⟩:=h
 have hcap:=ho.cap
 have FV:=ho.used
 intro g
 refine Ds (R:=aB _) ?_
 unfold L252
 intro b1 _
 refine ae.aH (Br.no ?_)
 refine aD.whole (r:=aZ d) (by exact .head _) rfl ?_
 refine ag.rd (.cons .here) (wM h0 hd) ?_
 rintro v rfl
 refine ae.dh (Br.bt (by simp) ?_)
 refine Nil.ptr ?_
 refine aa.mk (Ld.mk zM rfl ?_)
 refine hf.bQ ?_
 rw[List.length_map]
 refine ae.lP (b:=0) (Br.dec (fun hp=>?_) (fun hp=>?_))
 ·obtain⟨fr',r,rfl⟩:∃fr' r,fr=fr'++[r]:=⟨fr.dropLast,fr.getLast (by intro e;simp[e]at hp),(List.dropLast_concat_getLast _).symm⟩
  simp only[List.length_append,List.length_cons,List.length_nil]at hp FV⊢
  obtain⟨g1,g2,g3,hok⟩:=ho.reuse (r:=r) (by simp) (fr':=fr') (by exact List.perm_append_singleton _ _) d
  refine Nil.ptr ?_
  refine aa.mk (Ld.mk zM rfl ?_)
  refine ae.bF (a:=fr'.length+1) (b:=1) (by simp[aE];omega) (by omega) ?_
  rw[Nat.add_sub_cancel]
  refine hf.ld (i:=fr'.length) (x:=(r:Int)) (by simp) (fun _ h=>by exact .tail _ (.tail _ (List.mem_append_right _ h))) ?_
  refine Nil.ptr ?_
  refine aa.mk (Ld.mk zM rfl ?_)
  refine ae.bF (a:=fr'.length+1) (b:=1) (by simp[aE];omega) (by omega) ?_
  rw[Nat.add_sub_cancel]
  refine hf.cut (i:=fr'.length) (by simp) fun v' zV=>?_
  have JJ:aP 77 .u32 v' (fr'.map (Nat.cast:Nat→Int)) Cf:=by
   rw[List.map_append,List.take_left' (by simp)]at zV;exact zV
  have hone:v'.oneCell'=true:=by obtain⟨a,c,e⟩:=aS.len JJ;rw[e];rfl
  refine Nil.ptr (aa.mk ?_)
  refine St.one (by exact .tail (.head _)) hone (by simp) rfl ?_
  refine DR.self ?_
  refine Nil.ptr ?_
  refine aa.mk (Ld.mk (by exact .tail _ (.head _)) rfl ?_)
  refine aD.whole (r:=aZ d) (by exact .head _) rfl ?_
  refine Build.mk (cs:=(nQ.mk (d.v:Int) d.lo d.hi true 0).row) (by kernel_rfl) ?_
  refine hl.KY (A:=[_,_]) (B:=Cf) (i:=r) (by rw[List.length_map];have:=(ho.qO r).1 (by simp);obtain⟨p,hp,_⟩:=this;exact(List.getElem?_eq_some_iff.1 hp).1) rfl (row_one _) fun C' hl'=>?_
  rw[mm]at hl'
  simp only[List.cons_append,List.nil_append]
  refine Nil.ptr ?_
  refine aa.mk (Ld.mk (by exact .tail _ (.head _)) rfl ?_)
  refine ae.aN (b:=1) (by simp[aE];omega) ?_
  refine Nil.ptr (aa.mk ?_)
  refine St.one (by exact .tail (.head _)) rfl (by simp) rfl ?_
  exact aB.mk .tail ⟨r,rfl,g1,g2,g3,vl,v',_,fr',C',Cf,rfl,hl',JJ,hok⟩
 ·obtain rfl:fr=[]:=List.eq_nil_of_length_eq_zero (by omega)
  simp only[List.length_nil]at FV
  obtain⟨g1,g3,hok⟩:=ho.grow (by omega) d
  refine Nil.ptr ?_
  refine aa.mk (Ld.mk zM rfl ?_)
  refine hl.bQ ?_
  rw[List.length_map]
  refine Nil.ptr ?_
  refine aa.mk (Ld.mk zM rfl ?_)
  refine ae.rG (Br.bt (by omega) ?_)
  refine DR.of (R:=(b1,.cells (List.toArray (aZ d)) 161 (0,0))::(pa,.cells #[.int .i64 (cap:Int),vl,vf,.int .i64 (used:Int)] 198 (0,0))::[]) (.cons (.cons .nil)) ?_
  refine Nil.ptr ?_
  refine aa.mk (Ld.mk zM rfl ?_)
  refine aD.whole (r:=aZ d) (by exact .head _) rfl ?_
  refine Build.mk (cs:=(nQ.mk (d.v:Int) d.lo d.hi true 0).row) (by kernel_rfl) ?_
  refine au.one (z:=.agg #[.int .i64 0,.int .u32 0,.int .u32 0,.bool false,.int .u8 0]) (e:=291) (k:=5) (by kernel_rfl) (by kernel_rfl) (by kernel_rfl) (by decide) rfl fun bx=>?_
  refine⟨.skip (.cons (.cons .nil)),?_⟩
  refine hl.IJ (A:=[_,_,_]) (B:=Cf) (r:=(nQ.mk (d.v:Int) d.lo d.hi true 0).row) (by exact .head _) rfl (row_one _) (by exact⟨[.int .i64 0,.int .u32 0,.int .u32 0,.bool false,.int .u8 0],rfl,rfl⟩) (by simp;omega) (by simp;omega) fun v' C' hl'=>?_
  have qh:aS 291 5 v' ((l++[(⟨(d.v:Int),d.lo,d.hi,true,0⟩:nQ)]).map nQ.row) C':=by rw[List.map_append];exact hl'
  simp only[List.cons_append,List.nil_append]
  refine⟨.skip (.cons (.cons .nil)),?_⟩
  have hone:v'.oneCell'=true:=by obtain⟨a,c,e⟩:=qh.len;rw[e];rfl
  refine Nil.ptr (aa.mk ?_)
  refine St.one (by exact .tail (.tail (.head _))) hone (by simp) rfl ?_
  refine Nil.ptr ?_
  refine aa.mk (Ld.mk (by exact .tail _ (.tail _ (.head _))) rfl ?_)
  refine ae.aN (b:=1) (by simp[aE];omega) ?_
  refine Nil.ptr (aa.mk ?_)
  refine St.one (by exact .tail (.tail (.head _))) rfl (by simp) rfl ?_
  refine Nil.ptr ?_
  refine aa.mk (Ld.mk (by exact .tail _ (.tail _ (.head _))) rfl ?_)
  refine qh.bQ ?_
  refine ae.bF (b:=1) (by simp[aE];omega) (by simp) ?_
  refine aY.nat (by simp[aE];omega) ?_
  refine aB.mk (.skip .tail) ⟨l.length,by simp[u32],g1,by omega,g3,v',vf,_,[],C',Cf,rfl,qh,hf,hok⟩
theorem Qk{pa cap used r:Nat}{N:eB}{C:Hp}{d:Nd}(h:gT pa cap used N C)(hd:Yr N d)(hr:∃e,N r=some e)(h2:2≤r):
  Fc Tryz.prog 140 #[ptr pa,u32 r,.agg (aZ d).toArray] C (fun v C'=>v=.int .i64 0∧gT pa cap used (up N r (some d)) C'):=by
 have h0:=h
 obtain⟨vl,vf,l,fr,Cl,Cf,rfl,hl,hf,ho⟩:=h
 have hx:=bT.2 (.inr hr:live N r)
 rw[ho.zu]at hx
 obtain⟨p,hg,hx⟩:∃p,l[r]? =some p∧p.tk=true:=by
  cases hg:l[r]? with
  |none=>rw[hg]at hx;simp at hx
  |some p=>rw[hg]at hx;exact⟨p,rfl,hx⟩
 intro g
 refine EG (R:=aB _) ?_
 unfold L140
 intro b1 _
 refine ae.aH (Br.no ?_)
 refine aD.whole (r:=aZ d) (by exact .head _) rfl ?_
 refine ag.rd (.cons .here) (wM h0 hd) ?_
 rintro v rfl
 refine ae.dh (Br.bt (by simp) ?_)
 refine ag.rd (.cons .here) (Lb h0 hr h2) ?_
 rintro v rfl
 refine ae.dh (Br.bt (by simp) ?_)
 refine DR.self ?_
 refine Nil.ptr ?_
 refine aa.mk (Ld.mk zM rfl ?_)
 refine aD.whole (r:=aZ d) (by exact .head _) rfl ?_
 refine hl.OR (A:=[_,_]) (B:=Cf) (r:=p.row) (xs:=aZ d) (n:=3) (by rw[List.getElem?_map,hg];rfl) ⟨rfl,by omega⟩ (by intro x hx;simp[aZ,u32]at hx;rcases hx with rfl|rfl|rfl<;>rfl) fun C' hl'=>?_
 have e:(aZ d++p.row.drop 3)=(nQ.mk (d.v:Int) d.lo d.hi true p.c).row:=by simp[aZ,nQ.row,hx]
 rw[e,mm]at hl'
 exact aB.mk .tail ⟨rfl,vl,vf,_,fr,C',Cf,rfl,hl',hf,ho.xq h2 hg hx d⟩
theorem Ns{pa cap used r:Nat}{N:eB}{C:Hp}(h:gT pa cap used N C)(hr:∃e,N r=some e)(h2:2≤r):
  Fc Tryz.prog 210 #[ptr pa,u32 r] C (fun v C'=>v=.int .i64 0∧gT pa cap (used-1) (up N r none) C'):=by
 have h0:=h
 obtain⟨vl,vf,l,fr,Cl,Cf,rfl,hl,hf,ho⟩:=h
 have hx:=bT.2 (.inr hr:live N r)
 rw[ho.zu]at hx
 obtain⟨p,hg,hx⟩:∃p,l[r]? =some p∧p.tk=true:=by
  cases hg:l[r]? with
  |none=>rw[hg]at hx;simp at hx
  |some p=>rw[hg]at hx;exact⟨p,rfl,hx⟩
 obtain⟨hok,hu0⟩:=ho.free h2 hg hx
 have hcap:=ho.cap
 have FV:=ho.used
 intro g
 refine DZ (R:=aB _) ?_
 unfold L210
 refine ae.aH (Br.no ?_)
 refine ag.rd .here (Lb h0 hr h2) ?_
 rintro v rfl
 refine ae.dh (Br.bt (by simp) ?_)
 refine Nil.ptr ?_
 refine aa.mk (Ld.mk zM rfl ?_)
 refine Build.mk (cs:=(nQ.mk 0 0 0 false 0).row) (by kernel_rfl) ?_
 refine hl.KY (A:=[_]) (B:=Cf) (i:=r) (by rw[List.length_map];exact(List.getElem?_eq_some_iff.1 hg).1) rfl (row_one _) fun C' hl'=>?_
 rw[mm]at hl'
 simp only[List.cons_append,List.nil_append]
 refine Nil.ptr ?_
 refine aa.mk (Ld.mk (by exact .head _) rfl ?_)
 refine au.int (e:=77) (by kernel_rfl) (by kernel_rfl) (by kernel_rfl) fun bx=>?_
 have e1:(bx,Obj.cells (aA .u32 [(r:Int)]) 77 (0,0))::(pa,Obj.cells #[.int .i64 (cap:Int),vl,vf,.int .i64 (used:Int)] 198 (0,0))::(C'++Cf)=(bx,Obj.cells (aA .u32 [(r:Int)]) 77 (0,0))::(pa,Obj.cells #[.int .i64 (cap:Int),vl,vf,.int .i64 (used:Int)] 198 (0,0))::C'++(Cf++[]):=by simp
 rw[e1]
 refine hf.app (x:=(r:Int)) (B:=[]) (by exact .head _) (by simp;omega) (by simp;omega) fun v' Cf' zV=>?_
 have JJ:aP 77 .u32 v' ((fr++[r]).map (Nat.cast:Nat→Int)) Cf':=by rw[List.map_append];exact zV
 have hone:v'.oneCell'=true:=by obtain⟨a,c,e⟩:=aS.len JJ;rw[e];rfl
 simp only[List.cons_append,List.append_nil]
 refine Nil.ptr (aa.mk ?_)
 refine St.one (by exact .tail (.head _)) hone (by simp) rfl ?_
 refine Nil.ptr ?_
 refine aa.mk (Ld.mk (by exact .tail _ (.head _)) rfl ?_)
 refine ae.bF (b:=1) (by simp[aE];omega) (by omega) ?_
 refine Nil.ptr (aa.mk ?_)
 refine St.one (by exact .tail (.head _)) rfl (by simp) rfl ?_
 exact aB.mk .tail ⟨rfl,vl,v',_,_,C',Cf',rfl,hl',JJ,hok⟩
def nK(d:Nd):Value:=.agg (aZ d).toArray
abbrev Kg(v:Value)(r:Nat):Prop:=v=u32 r
theorem FL:Tryz.prog.underlying 161=some (.struct (Tryz.prog.fieldsOf 161)):=by kernel_rfl
theorem pC(a b:Nd):AL Tryz.prog 161 (nK a) (nK b) (decide (a=b)):=by
 refine AL.flat (fs:=#[⟨"Var",3,0,false, "", "",0⟩,⟨"Lo",77,1,false, "", "",8⟩,⟨"Hi",77,2,false, "", "",12⟩]) (by kernel_rfl) (by kernel_rfl) ?_ ?_
 ·intro f hf
  simp only[List.mem_cons,List.not_mem_nil,or_false]at hf
  rcases hf with rfl|rfl|rfl
  ·exact⟨by decide,_,_,rfl,rfl,.inl ⟨.i64,_,_,by kernel_rfl,rfl,rfl⟩⟩
  ·exact⟨by decide,_,_,rfl,rfl,.inl ⟨.u32,_,_,by kernel_rfl,rfl,rfl⟩⟩
  ·exact⟨by decide,_,_,rfl,rfl,.inl ⟨.u32,_,_,by kernel_rfl,rfl,rfl⟩⟩
 ·obtain⟨a1,a2,a3⟩:=a
  obtain⟨b1,b2,b3⟩:=b
  simp[aZ,u32]
  omega
theorem kU(a:Nd):lM Tryz.prog 161 (nK a):=by
 refine lM.flat (fs:=#[⟨"Var",3,0,false, "", "",0⟩,⟨"Lo",77,1,false, "", "",8⟩,⟨"Hi",77,2,false, "", "",12⟩]) (by kernel_rfl) ?_
 intro f hf
 simp only[List.mem_cons,List.not_mem_nil,or_false]at hf
 rcases hf with rfl|rfl|rfl
 ·exact⟨by decide,_,rfl,.inl ⟨.i64,_,_,by kernel_rfl,rfl,rfl⟩⟩
 ·exact⟨by decide,_,rfl,.inl ⟨.u32,_,_,by kernel_rfl,rfl,rfl⟩⟩
 ·exact⟨by decide,_,rfl,.inl ⟨.u32,_,_,by kernel_rfl,rfl,rfl⟩⟩
theorem FN(a:Nd):Instr.sameBits 10000 (nK a) (nK a)=true:=jG 9998 (by intro x hx;simp[aZ,u32]at hx;rcases hx with rfl|rfl|rfl<;>exact .inl ⟨_,_,rfl⟩)
structure UM where
 b:Nat
 es:Array MapEntry
 ck:Nat
 l:List (Nd×Nat)
def HD(ms:List UM):Hp:=ms.map fun m=>(m.b,.map m.es m.ck)
structure Oc(ms:List UM)(n:Nat)(T:Nd→Option Nat):Prop where
 len:ms.length=n
 jK:∀(v:Nat) m,ms[v]? =some m→aV nK Kg m.es m.ck m.l
 var:∀(v:Nat) m,ms[v]? =some m→∀x∈m.l,x.1.v=v
 T:∀d,T d=(ms[d.v]?).bind fun m=>ew m.l d
def mQ(pt n:Nat)(T:Nd→Option Nat)(C:Hp):Prop:=
 ∃vs Cs ms,C=(pt,.cells #[vs] 265 (0,0))::(Cs++HD ms)∧aS 266 1 vs (ms.map fun m=>[.map (some m.b)]) Cs∧Oc ms n T
theorem pF{ms:List UM}{v:Nat}{m:UM}(h:ms[v]? =some m):(m.b,Obj.map m.es m.ck)∈HD ms:=List.mem_map.2 ⟨m,List.mem_of_getElem? h,rfl⟩
theorem xJ{es':Array MapEntry}{cO:Nat}{l':List (Nd×Nat)}:∀{ms:List UM} {v:Nat} {m:UM},ms[v]? =some m→cM m.b (.map m.es m.ck) (.map es' cO) (HD ms) (HD (ms.set v ⟨m.b,es',cO,l'⟩))
 | [],v,m,h=>by simp at h
 |x::ms,0,m,h=>by simp at h;subst h;exact .head _
 |x::ms,v+1,m,h=>by simp at h;exact .tail (xJ h)
theorem vW{ms:List UM}{v:Nat}{m m':UM}(h:ms[v]? =some m)(hb:m'.b=m.b):(ms.set v m').map (fun m=>[Value.map (some m.b)])=ms.map fun m=>[Value.map (some m.b)]:=by
 rw[List.map_set]
 apply List.ext_getElem?
 intro j
 rw[List.getElem?_set]
 split
 ·rename_i e;subst e
  have hlt:=(List.getElem?_eq_some_iff.1 h).1
  have e2:ms[v]=m:=by rw[List.getElem?_eq_getElem hlt]at h;exact Option.some.inj h
  simp[hb,hlt,e2]
 ·rfl
theorem Oc.add{ms:List UM}{n:Nat}{T:Nd→Option Nat}(h:Oc ms n T){d:Nd}{m:UM}(hm:ms[d.v]? =some m){es':Array MapEntry}{cO r:Nat}(he:aV nK Kg es' cO (gY m.l d r)):Oc (ms.set d.v ⟨m.b,es',cO,gY m.l d r⟩) n (o5 T d (some r)) where
 len:=by rw[List.length_set];exact h.len
 jK:=fun v m' hm'=>by
  rw[List.getElem?_set]at hm'
  split at hm'
  ·split at hm'
   ·cases hm';exact he
   ·cases hm'
  ·exact h.jK v m' hm'
 var:=fun v m' hm' x hx=>by
  rw[List.getElem?_set]at hm'
  split at hm'
  ·rename_i e
   split at hm'
   ·cases hm'
    subst e
    simp only[gY]at hx
    split at hx
    ·obtain⟨y,hy,rfl⟩:=List.mem_map.1 hx
     split
     ·rfl
     ·exact h.var _ m hm y hy
    ·rcases List.mem_append.1 hx with hx|hx
     ·exact h.var _ m hm x hx
     ·simp at hx;subst hx;rfl
   ·cases hm'
  ·exact h.var v m' hm' x hx
 T:=fun e=>by
  have hlt:=(List.getElem?_eq_some_iff.1 hm).1
  by_cases ee:e=d
  ·subst ee;rw[iN,List.getElem?_set_self hlt];simp[vT]
  ·rw[oe ee,h.T e]
   by_cases ev:d.v=e.v
   ·rw[←ev,List.getElem?_set_self hlt,hm];simp[vT,ee]
   ·rw[List.getElem?_set_ne ev]
theorem Oc.del{ms:List UM}{n:Nat}{T:Nd→Option Nat}(h:Oc ms n T){d:Nd}{m:UM}(hm:ms[d.v]? =some m){es':Array MapEntry}{cO:Nat}(he:aV nK Kg es' cO (oF m.l d)):Oc (ms.set d.v ⟨m.b,es',cO,oF m.l d⟩) n (o5 T d none) where
 len:=by rw[List.length_set];exact h.len
 jK:=fun v m' hm'=>by
  rw[List.getElem?_set]at hm'
  split at hm'
  ·split at hm'
   ·cases hm';exact he
   ·cases hm'
  ·exact h.jK v m' hm'
 var:=fun v m' hm' x hx=>by
  rw[List.getElem?_set]at hm'
  split at hm'
  ·rename_i e
   split at hm'
   ·cases hm'
    subst e
    exact h.var _ m hm x (List.mem_filter.1 hx|>.1)
   ·cases hm'
  ·exact h.var v m' hm' x hx
 T:=fun e=>by
  have hlt:=(List.getElem?_eq_some_iff.1 hm).1
  by_cases ee:e=d
  ·subst ee;rw[iN,List.getElem?_set_self hlt];simp[vU]
  ·rw[oe ee,h.T e]
   by_cases ev:d.v=e.v
   ·rw[←ev,List.getElem?_set_self hlt,hm];simp[vU,ee]
   ·rw[List.getElem?_set_ne ev]
theorem jW{pt n v:Nat}{T:Nd→Option Nat}{C:Hp}(h:mQ pt n T C)(hv:v<n):Rd Tryz.prog 206 #[ptr pt,.int .i64 (v:Int)] C (· =.int .i64 0):=by
 obtain⟨vs,Cs,ms,rfl,hs,ho⟩:=h
 intro g
 refine D3 (R:=aB _) ?_
 unfold L206
 refine ae.aH (Br.no ?_)
 refine ae.lss ?_
 rw[decide_eq_false (by omega:¬((v:Int)<0))]
 refine bX.or false (fun _=>?_) rfl fun _=>Br.no (cw.mk (.refl _) rfl)
 refine Nil.ptr ?_
 refine aa.mk (Ld.mk zM rfl ?_)
 refine hs.bQ ?_
 rw[List.length_map,ho.len]
 exact ae.rG ⟨rfl,by rw[decide_eq_false (by omega)]⟩
theorem sG{pt n:Nat}{T:Nd→Option Nat}{C:Hp}{d:Nd}(h:mQ pt n T C)(hv:d.v<n):
  Rd Tryz.prog 205 #[ptr pt,nK d] C (· =.tuple #[u32 ((T d).getD 0),.bool (T d).isSome]):=by
 have h0:=h
 obtain⟨vs,Cs,ms,rfl,hs,ho⟩:=h
 obtain⟨m,hm⟩:∃m,ms[d.v]? =some m:=⟨_,List.getElem?_eq_getElem (by rw[ho.len];exact hv)⟩
 intro g
 refine D4 (R:=aB _) ?_
 unfold L205
 intro b1 _
 refine aa.mk (Ld.mk (v:=.int .i64 (d.v:Int)) (by exact .head _) rfl ?_)
 refine ag.rd (.cons .here) (jW h0 hv) ?_
 rintro v rfl
 refine ae.dh (Br.bt (by simp) ?_)
 refine Nil.ptr ?_
 refine aa.mk (Ld.mk zM rfl ?_)
 refine aa.mk (Ld.mk (v:=.int .i64 (d.v:Int)) (by exact .head _) rfl ?_)
 refine hs.HJ (x:=.map (some m.b)) (by rw[List.getElem?_map,hm];rfl) (fun _ h=>by exact .tail _ (.tail _ (List.mem_append_left _ h))) ?_
 refine aD.whole (r:=aZ d) (by exact .head _) rfl ?_
 have hmem:(m.b,Obj.map m.es m.ck)∈(b1,Obj.cells (Value.cells (nK d)) 161 (0,0))::(pt,.cells #[vs] 265 (0,0))::(Cs++HD ms):=.tail _ (.tail _ (List.mem_append_right _ (pF hm)))
 have hT:T d=ew m.l d:=by rw[ho.T,hm];rfl
 rw[hT]
 cases hg:ew m.l d with
 |some r=>
  refine aV.HY (ke:=nK) (k:=d) pC kU (ho.jK _ m hm) hmem hg ?_
  rintro v rfl
  exact Ext.mk rfl (Ext.mk rfl (cw.mk .tail rfl))
 |none=>
  refine aV.vS (ke:=nK) (k:=d) pC kU (ho.jK _ m hm) hmem hg ?_
  exact Ext.mk rfl (Ext.mk rfl (cw.mk .tail rfl))
theorem Fq{pt n r:Nat}{T:Nd→Option Nat}{C:Hp}{d:Nd}(h:mQ pt n T C)(hv:d.v<n)(hT:T d=none):
  Fc Tryz.prog 141 #[ptr pt,nK d,u32 r] C (fun v C'=>v=.int .i64 0∧mQ pt n (o5 T d (some r)) C'):=by
 have h0:=h
 obtain⟨vs,Cs,ms,rfl,hs,ho⟩:=h
 obtain⟨m,hm⟩:∃m,ms[d.v]? =some m:=⟨_,List.getElem?_eq_getElem (by rw[ho.len];exact hv)⟩
 have hTm:ew m.l d=none:=by rw[ho.T,hm]at hT;exact hT
 intro g
 refine EF (R:=aB _) ?_
 unfold L141
 intro b1 _
 refine aa.mk (Ld.mk (v:=.int .i64 (d.v:Int)) (by exact .head _) rfl ?_)
 refine ag.rd (.cons .here) (jW h0 hv) ?_
 rintro v rfl
 refine ae.dh (Br.bt (by simp) ?_)
 refine Nil.ptr ?_
 refine aa.mk (Ld.mk zM rfl ?_)
 refine aa.mk (Ld.mk (v:=.int .i64 (d.v:Int)) (by exact .head _) rfl ?_)
 refine hs.HJ (x:=.map (some m.b)) (by rw[List.getElem?_map,hm];rfl) (fun _ h=>by exact .tail _ (.tail _ (List.mem_append_left _ h))) ?_
 refine aD.whole (r:=aZ d) (by exact .head _) rfl ?_
 have hmem:(m.b,Obj.map m.es m.ck)∈(b1,Obj.cells (Value.cells (nK d)) 161 (0,0))::(pt,.cells #[vs] 265 (0,0))::(Cs++HD ms):=.tail _ (.tail _ (List.mem_append_right _ (pF hm)))
 refine aV.vS (ke:=nK) (k:=d) pC kU (ho.jK _ m hm) hmem hTm ?_
 refine Ext.mk rfl (Ext.mk rfl (Br.no ?_))
 refine DR.self ?_
 refine Nil.ptr ?_
 refine aa.mk (Ld.mk zM rfl ?_)
 refine aa.mk (Ld.mk (v:=.int .i64 (d.v:Int)) (by exact .head _) rfl ?_)
 refine hs.HJ (x:=.map (some m.b)) (by rw[List.getElem?_map,hm];rfl) (fun _ h=>by exact .tail _ (.tail _ (List.mem_append_left _ h))) ?_
 refine aD.whole (r:=aZ d) (by exact .head _) rfl ?_
 refine aV.Ot (ke:=nK) (k:=d) (vr:=Kg) (x:=r) pC kU FN (ho.jK _ m hm) rfl fun es' cO he=>⟨_,.tail (.tail ((xJ (l':=gY m.l d r) hm).bW Cs)),?_⟩
 exact aB.mk .tail ⟨rfl,vs,Cs,_,rfl,by rw[vW hm];exact hs;rfl,ho.add hm he⟩
theorem vN{pt n r:Nat}{T:Nd→Option Nat}{C:Hp}{d:Nd}(h:mQ pt n T C)(hv:d.v<n)(hT:T d=some r):
  Fc Tryz.prog 137 #[ptr pt,nK d] C (fun v C'=>v=.int .i64 0∧mQ pt n (o5 T d none) C'):=by
 have h0:=h
 obtain⟨vs,Cs,ms,rfl,hs,ho⟩:=h
 obtain⟨m,hm⟩:∃m,ms[d.v]? =some m:=⟨_,List.getElem?_eq_getElem (by rw[ho.len];exact hv)⟩
 have hTm:ew m.l d=some r:=by rw[ho.T,hm]at hT;exact hT
 intro g
 refine EI (R:=aB _) ?_
 unfold L137
 intro b1 _
 refine aa.mk (Ld.mk (v:=.int .i64 (d.v:Int)) (by exact .head _) rfl ?_)
 refine ag.rd (.cons .here) (jW h0 hv) ?_
 rintro v rfl
 refine ae.dh (Br.bt (by simp) ?_)
 refine Nil.ptr ?_
 refine aa.mk (Ld.mk zM rfl ?_)
 refine aa.mk (Ld.mk (v:=.int .i64 (d.v:Int)) (by exact .head _) rfl ?_)
 refine hs.HJ (x:=.map (some m.b)) (by rw[List.getElem?_map,hm];rfl) (fun _ h=>by exact .tail _ (.tail _ (List.mem_append_left _ h))) ?_
 refine aD.whole (r:=aZ d) (by exact .head _) rfl ?_
 have hmem:(m.b,Obj.map m.es m.ck)∈(b1,Obj.cells (Value.cells (nK d)) 161 (0,0))::(pt,.cells #[vs] 265 (0,0))::(Cs++HD ms):=.tail _ (.tail _ (List.mem_append_right _ (pF hm)))
 refine aV.HY (ke:=nK) (k:=d) pC kU (ho.jK _ m hm) hmem hTm ?_
 rintro v rfl
 refine Ext.mk rfl (Ext.mk rfl (Un.not (Br.no ?_)))
 refine DR.of (R:=(b1,Obj.cells (Value.cells (nK d)) 161 (0,0))::(pt,.cells #[vs] 265 (0,0))::Cs) (.cons (.cons .left)) ?_
 refine Nil.ptr ?_
 refine aa.mk (Ld.mk zM rfl ?_)
 refine aa.mk (Ld.mk (v:=.int .i64 (d.v:Int)) (by exact .head _) rfl ?_)
 refine hs.HJ (x:=.map (some m.b)) (by rw[List.getElem?_map,hm];rfl) (fun _ h=>by exact .tail _ (.tail _ h)) ?_
 refine aD.whole (r:=aZ d) (by exact .head _) rfl ?_
 refine aV.adk (ke:=nK) (k:=d) pC kU (ho.jK _ m hm) hmem fun es' he=>⟨_,.tail (.tail ((xJ (l':=oF m.l d) hm).bW Cs)),?_⟩
 exact⟨.cons (.cons .left),aB.mk .tail ⟨rfl,vs,Cs,_,rfl,by rw[vW hm];exact hs;rfl,ho.del hm he⟩⟩
theorem Oc.start(n:Nat)(bs:List Nat)(h:bs.length=n):Oc (bs.map fun b=>⟨b,#[],0,[]⟩) n (fun _=>none) where
 len:=by simpa using h
 jK:=fun v m hm=>by
  rw[List.getElem?_map]at hm
  obtain⟨b,_,rfl⟩:=Option.map_eq_some_iff.1 hm
  exact aV.empty
 var:=fun v m hm x hx=>by
  rw[List.getElem?_map]at hm
  obtain⟨b,_,rfl⟩:=Option.map_eq_some_iff.1 hm
  simp at hx
 T:=fun d=>by
  rw[List.getElem?_map]
  cases bs[d.v]? <;>simp[ew]
theorem Ag(x:Value):∀n:Nat,(List.replicate n [x]).flatten=List.replicate n x
 |0=>rfl
 |n+1=>by rw[List.replicate_succ,List.flatten_cons,List.replicate_succ,Ag x n];rfl
theorem Ow{n:Nat}(hn:1≤n∧n≤64):Fc Tryz.prog 117 #[.int .i64 (n:Int)] [] (fun v H=>∃pt,v=.tuple #[ptr pt,.int .i64 0]∧mQ pt n (fun _=>none) H):=by
 intro g
 refine ER (R:=aB _) ?_
 unfold L117
 refine ae.lss ?_
 rw[decide_eq_false (by omega)]
 refine bX.or false (fun _=>ae.gtr ⟨rfl,by rw[decide_eq_false (by omega)]⟩) rfl fun _=>Br.no ?_
 refine⟨.i64,.i64,n,n,rfl,rfl,Nat.le_refl _,by omega,by omega,?_⟩
 intro bs _
 refine Build.mk (cs:=[.slice (some ⟨bs,0,none⟩) n n]) (by kernel_rfl) ?_
 intro pt _
 have hz:madeCells (Value.cells (.map none)) (n*1)=rows ((List.replicate n [Value.map none])++[]):=by
  apply Array.ext'
  apply List.ext_getElem?
  intro i
  have:=Ag (.map none) n
  simp only[madeCells,rows,Value.cells,Array.toList_map,Array.toList_range,List.getElem?_map,List.toList_toArray,Nat.mul_one,List.append_nil]
  rw[this,List.getElem?_replicate]
  by_cases hi:i<n
  ·simp[hi,Nat.mod_one]
  ·simp[hi]
 rw[hz]
 have hs0:aS 266 1 (.slice (some ⟨bs,0,none⟩) n n) (List.replicate n [Value.map none]) [(bs,.cells (rows ((List.replicate n [Value.map none])++[])) 266 (0,0))]:=
  aS.mk' (fun r hr=>by rw[List.append_nil]at hr;rw[List.eq_of_mem_replicate hr];rfl) (by simp) (by simp)
 refine⟨fun vs H=>∃(j:Nat) (bl:List Nat) (Cs:Hp),vs=[.int .i64 (j:Int)]∧bl.length=j∧j≤n∧H=(pt,.cells #[.slice (some ⟨bs,0,none⟩) n n] 265 (0,0))::(Cs++HD (bl.map fun b=>⟨b,#[],0,[]⟩))∧
  aS 266 1 (.slice (some ⟨bs,0,none⟩) n n) ((bl.map fun b=>[Value.map (some b)])++List.replicate (n-j) [Value.map none]) Cs,fun vs _=>n-bK vs 0,JE.mk ⟨0,[],_,rfl,rfl,by omega,by simp only[HD,List.map_nil,List.append_nil];rfl,by simpa using hs0⟩,?_⟩
 rintro w H ⟨j,bl,Cs,hw,TK,hj,rfl,hs⟩ gs
 simp only[List.cons.injEq,and_true]at hw
 subst hw
 refine ae.fu (Br.dec (fun hlt=>?_) (fun hlt=>?_))
 ·refine Nil.ptr ?_
  refine aa.mk (Ld.mk (by exact .head _) rfl ?_)
  intro b _
  have hlen:((bl.map fun b=>[Value.map (some b)])++List.replicate (n-j) [Value.map none]).length=n:=by simp;omega
  refine aS.aaF (A:=[_,_]) (B:=HD (bl.map fun b=>⟨b,#[],0,[]⟩)) hs (i:=j) (y:=.map none) (by omega) ?_ rfl fun C' hs'=>?_
  ·rw[List.getElem?_append_right (by simp[TK])]
   simp only[List.length_map,TK,Nat.sub_self]
   rw[List.getElem?_replicate,if_pos (by omega)]
  refine ae.aN (b:=1) (by simp[aE];omega) ?_
  have e:((bl.map fun b=>[Value.map (some b)])++List.replicate (n-j) [Value.map none]).set j [Value.map (some b)]=((bl++[b]).map fun b=>[Value.map (some b)])++List.replicate (n-(j+1)) [Value.map none]:=by
   rw[List.set_append_right _ _ (by simp[TK])]
   simp only[List.length_map,TK,Nat.sub_self]
   rw[show n-j=(n-(j+1))+1 by omega,List.replicate_succ,List.set_cons_zero,List.map_append]
   simp
  rw[e]at hs'
  refine aC.of ?_ ⟨j+1,bl++[b],C',rfl,by simp[TK],by omega,rfl,hs'⟩ (by show n-(((j+1:Nat):Int).toNat)<n-(((j:Nat):Int).toNat);omega)
  refine aU.perm ?_
  simp only[List.cons_append,List.nil_append,HD,List.map_append,List.map_map]
  refine(List.Perm.swap _ _ _).trans (.cons _ ?_)
  rw[←List.append_assoc]
  exact(List.perm_append_singleton _ _).symm
 ·obtain rfl:j=n:=by omega
  refine aB.here ⟨pt,rfl,_,Cs,_,rfl,?_,Oc.start _ bl TK⟩
  rw[Nat.sub_self]at hs
  simpa[List.map_map,Function.comp_def]using hs
theorem Qn{n:Nat}(hn:2≤n∧n≤1048576):Fc Tryz.prog 186 #[.int .i64 (n:Int)] [] (fun v H=>∃pa,v=.tuple #[ptr pa,.int .i64 0]∧gT pa n 2 (fun _=>none) H):=by
 intro g
 refine Eh (R:=aB _) ?_
 unfold L186
 refine ae.lss ?_
 rw[decide_eq_false (by omega)]
 refine bX.or false (fun _=>ae.gtr ⟨rfl,by rw[decide_eq_false (by omega)]⟩) rfl fun _=>Br.no ?_
 refine Build.mk (cs:=[.int .i64 (n:Int),.slice none 0 0,.slice none 0 0,.int .i64 2]) (by kernel_rfl) ?_
 intro pa _
 refine⟨fun vs H=>∃(j:Nat) (vl:Value) (Cl:Hp),vs=[u32 j]∧j≤2∧H=(pa,.cells #[.int .i64 (n:Int),vl,.slice none 0 0,.int .i64 2] 198 (0,0))::Cl∧
  aS 291 5 vl ((List.range j).map fun r=>(nQ.mk (-1) r r true 255).row) Cl,fun vs _=>2-bK vs 0,JE.mk ⟨0,_,[],rfl,by omega,rfl,aS.nil _ _⟩,?_⟩
 rintro w H ⟨j,vl,Cl,hw,hj,rfl,hs⟩ gs
 simp only[List.cons.injEq,and_true]at hw
 subst hw
 refine ae.fu (b:=2) (Br.dec (fun hlt=>?_) (fun hlt=>?_))
 ·refine Nil.ptr ?_
  refine aa.mk (Ld.mk (by exact .head _) rfl ?_)
  refine Build.mk (cs:=[.int .i64 (-1),u32 j,u32 j]) (by kernel_rfl) ?_
  refine Build.mk (cs:=(nQ.mk (-1) j j true 255).row) (by kernel_rfl) ?_
  refine au.one (z:=.agg #[.int .i64 0,.int .u32 0,.int .u32 0,.bool false,.int .u8 0]) (e:=291) (k:=5) (by kernel_rfl) (by kernel_rfl) (by kernel_rfl) (by decide) rfl fun bx=>?_
  have e1:∀x y:Nat×Obj,x::y::Cl=[x,y]++(Cl++[]):=fun x y=>by simp
  rw[e1]
  refine hs.IJ (A:=[_,_]) (B:=[]) (r:=(nQ.mk (-1) j j true 255).row) (by exact .head _) rfl (row_one _) (by exact⟨[.int .i64 0,.int .u32 0,.int .u32 0,.bool false,.int .u8 0],rfl,rfl⟩) (by simp;omega) (by simp;omega) fun v' C' hs'=>?_
  simp only[List.cons_append,List.nil_append,List.append_nil]
  have hone:v'.oneCell'=true:=by obtain⟨a,c,e⟩:=hs'.len;rw[e];rfl
  refine Nil.ptr (aa.mk ?_)
  refine St.one (by exact .tail (.head _)) hone (by simp) rfl ?_
  refine ae.aN (b:=1) (by simp[aE];omega) ?_
  refine aC.of .tail ⟨j+1,v',C',rfl,by omega,rfl,?_⟩ (by show 2-(((j+1:Nat):Int).toNat)<2-(((j:Nat):Int).toNat);omega)
  rw[List.range_succ,List.map_append];exact hs'
 ·obtain rfl:j=2:=by omega
  refine aB.here ⟨pa,rfl,vl,_,[⟨-1,0,0,true,255⟩,⟨-1,1,1,true,255⟩],[],Cl,[],by rw[List.append_nil];rfl,hs,aP.nil,?_⟩
  exact {
   cap:=by simp;omega
   two:=by simp
   const:=fun r hr=>by
    have:r=0∨r=1:=by omega
    rcases this with rfl|rfl
    ·exact⟨_,rfl,rfl,rfl,rfl,rfl⟩
    ·exact⟨_,rfl,rfl,rfl,rfl,rfl⟩
   nd:=fun r hr=>by rw[List.getElem?_eq_none (by simp;omega)];rfl
   n0:=fun _ _=>rfl
   nn:=fun r p hr hp _=>by rw[List.getElem?_eq_none (by simp;omega)]at hp;cases hp
   Ob:=by simp
   qO:=fun r=>by
    simp only[List.not_mem_nil,false_iff,not_exists,not_and]
    intro p hp
    have hlt:=(List.getElem?_eq_some_iff.1 hp).1
    simp at hlt
    have:r=0∨r=1:=by omega
    rcases this with rfl|rfl<;>(simp at hp;subst hp;simp)
   used:=rfl}
structure si where
 pa:Nat
 pt:Nat
 vu:Value
 vh:Value
 vo:Value
 vl:Value
 vt:Value
 CA:Hp
 CT:Hp
 CU:Hp
 CH:Hp
 CO:Hp
 CL:Hp
 CR:Hp
def si.cells(b:si)(n:Nat):Array Value:=#[ptr b.pa,ptr b.pt,b.vu,b.vh,.int .i64 (n:Int),b.vo,b.vl,b.vt]
def si.hp(b:si)(kp n:Nat):Hp:=(kp,.cells (b.cells n) 117 (0,0))::(b.CA++(b.CT++(b.CU++(b.CH++(b.CO++(b.CL++b.CR))))))
structure Uw(b:si)(K:Kd)(ord aj tr:List Nat):Prop where
 ar:gT b.pa K.cap K.used K.N b.CA
 ut:mQ b.pt K.n K.T b.CT
 us:aP 21 .i32 b.vu (iw K.us) b.CU
 ho:aP 21 .i32 b.vh (iw K.ho) b.CH
 od:aP 3 .i64 b.vo (iw ord) b.CO
 lv:aP 3 .i64 b.vl (iw aj) b.CL
 tr:aP 3 .i64 b.vt (iw tr) b.CR
 ul:K.us.length=K.ho.length∧K.us.length≤1048576
 qA:K.n≤64
 ol:ord.length=K.n∧aj.length=K.n
def cD(kp:Nat)(K:Kd)(ord aj tr:List Nat)(C:Hp):Prop:=∃b:si,C=b.hp kp K.n∧Uw b K ord aj tr
section
variable {kp:Nat} {K:Kd} {ord aj tr:List Nat} {C:Hp}
theorem cD.cap(h:cD kp K ord aj tr C):K.cap≤1048576:=by
 obtain⟨b,rfl,hb⟩:=h
 exact(hb.ar.lt (r:=0) (.inl (by decide))).2
theorem cD.lt(h:cD kp K ord aj tr C){r:Nat}(hr:live K.N r):r<1048576:=by
 obtain⟨b,rfl,hb⟩:=h
 have:=hb.ar.lt hr
 omega
theorem aL(N:eB)(r:Nat):(got N r).length=3∧∀x∈got N r,x.oneCell'=true:=by
 unfold got
 split
 ·exact⟨rfl,by intro x hx;simp[u32]at hx;rcases hx with rfl|rfl|rfl<;>rfl⟩
 ·split
  ·exact⟨rfl,by intro x hx;simp[aZ,u32]at hx;rcases hx with rfl|rfl|rfl<;>rfl⟩
  ·exact⟨rfl,by intro x hx;simp[u32]at hx;rcases hx with rfl|rfl|rfl<;>rfl⟩
theorem mw(h:cD kp K ord aj tr C){r:Nat}(hr:r<4294967296):Rd Tryz.prog 173 #[ptr kp,u32 r] C (· =.bool (fG K.N r)):=by
 obtain⟨b,rfl,hb⟩:=h
 intro g
 refine Er (R:=aB _) ?_
 unfold L173
 refine Nil.ptr ?_
 refine aa.mk (Ld.mk (v:=ptr b.pa) (by exact .head _) rfl ?_)
 refine ag.rd (.cons .left) (MD hb.ar hr) ?_
 rintro v rfl
 refine Ext.mk rfl (Ext.mk rfl ?_)
 intro b8 _
 refine St.whole (r:=got K.N r) (by exact .head _) rfl (aL _ _).1 (aL _ _).2 ?_
 refine ae.jR ?_
 refine cw.mk .tail ?_
 cases fG K.N r<;>rfl
theorem mu(h:cD kp K ord aj tr C){r:Nat}(hr:r<4294967296):Rd Tryz.prog 174 #[ptr kp,u32 r] C (· =.agg (got K.N r).toArray):=by
 obtain⟨b,rfl,hb⟩:=h
 intro g
 refine Ep (R:=aB _) ?_
 unfold L174
 intro b1 _
 refine Nil.ptr ?_
 refine aa.mk (Ld.mk (v:=ptr b.pa) (by exact .tail _ (.head _)) rfl ?_)
 refine ag.rd (.cons (.cons .left)) (MD hb.ar hr) ?_
 rintro v rfl
 refine Ext.mk rfl (Ext.mk rfl ?_)
 intro yg _
 refine St.whole (r:=got K.N r) (by exact .head _) rfl (aL _ _).1 (aL _ _).2 ?_
 refine aD.whole (r:=got K.N r) (by exact .head _) (aL _ _).1 ?_
 refine St.whole (r:=got K.N r) (by exact .tail (.head _)) rfl (aL _ _).1 (aL _ _).2 ?_
 refine aD.whole (r:=got K.N r) (by exact .tail _ (.head _)) (aL _ _).1 ?_
 exact cw.mk (.skip .tail) rfl
theorem zy(h:cD kp K ord aj tr C){m:Nat}(hm:m≤1099511627776)(hu:K.used≤1048576):Rd Tryz.prog 135 #[ptr kp,.int .i64 (m:Int)] C (· =.bool (decide (K.used+m≤K.cap))):=by
 obtain⟨b,rfl,hb⟩:=h
 intro g
 refine EK (R:=aB _) ?_
 unfold L135
 refine DR.self ?_
 refine Nil.ptr ?_
 refine aa.mk (Ld.mk (v:=ptr b.pa) (by exact .head _) rfl ?_)
 refine Nil.ptr ?_
 refine aa.mk (Ld.mk (v:=ptr b.pa) (by exact .head _) rfl ?_)
 refine ag.rd (.cons .left) (Aw hb.ar) ?_
 rintro v rfl
 refine⟨.refl _,?_⟩
 refine ae.aN (by simp[aE];omega) ?_
 refine ag.rd (.cons .left) (tX hb.ar) ?_
 rintro v rfl
 refine⟨.refl _,?_⟩
 refine ae.AU ?_
 exact cw.mk (.refl _) rfl
def rp(K:Kd)(r:Nat):List Nat:=if r<2 then K.us else K.us.set r (K.use r+1)
theorem iq(r:Nat):(rp K r).length=K.us.length:=by unfold rp;split<;>simp
theorem lU{r:Nat}(h2:2≤r)(hr:r<K.us.length):(rp K r).getD r 0=K.use r+1:=by
 unfold rp;rw[if_neg (by omega)];simp[List.getD,hr]
theorem sU{r s:Nat}(h:s≠r):(rp K r).getD s 0=K.use s:=by
 unfold rp Kd.use
 split
 ·rfl
 ·simp[List.getD,List.getElem?_set_ne (Ne.symm h)]
theorem Bk(h:cD kp K ord aj tr C){r:Nat}(hr:r<2∨r<K.us.length)(hb:K.use r+1<2147483648):
  Fc Tryz.prog 139 #[ptr kp,u32 r] C (fun v C'=>v=.tuple #[]∧cD kp {K with us:=rp K r} ord aj tr C'):=by
 obtain⟨b,rfl,hO⟩:=h
 intro g
 refine EH (R:=aB _) ?_
 unfold L139
 refine ae.lP (b:=1) (Br.dec (fun h1=>?_) (fun h1=>?_))
 ·have hr':r<K.us.length:=by omega
  refine Nil.ptr ?_
  refine aa.mk (Ld.mk (v:=b.vu) (by exact .head _) rfl ?_)
  refine hO.us.ld (x:=((K.use r:Nat):Int)) (bg hr') (cc.sub (.cons (.app (.app .left)))) ?_
  refine ae.aN (b:=1) (by simp[aE];omega) ?_
  refine hO.us.jh (.cons (.app (.app .left))) (by simpa using hr') fun C' ho=>?_
  refine aB.here ⟨rfl,{b with CU:=C'},rfl,?_⟩
  have e:rp K r=K.us.set r (K.use r+1):=by unfold rp;rw[if_neg (by omega)]
  exact {hO with us:=by rw[dY]at ho;rw[e];exact ho,ul:=by simp only[e,List.length_set];exact hO.ul}
 ·refine aB.here ⟨rfl,b,rfl,?_⟩
  have e:rp K r=K.us:=by unfold rp;rw[if_pos (by omega)]
  rw[e];exact hO
end
section
variable {kp:Nat} {K:Kd} {ord aj tr:List Nat} {C:Hp}
theorem fS{l:List Nat}{r s x:Nat}(hr:r<l.length):(l.set r x).getD s 0=if s=r then x else l.getD s 0:=by
 simp only[List.getD,List.getElem?_set]
 by_cases e:r=s
 ·subst e;simp[hr]
 ·rw[if_neg e,if_neg (Ne.symm e)]
theorem tH(l:List Nat)(s:Nat):(l++[0]).getD s 0=l.getD s 0:=by
 simp only[List.getD,List.getElem?_append]
 split
 ·rfl
 ·rename_i h
  rw[List.getElem?_eq_none (by omega:l.length≤s)]
  cases hs:s-l.length<;>simp[hs]
def Ky:Hp→Nat
 |_::(_,Obj.cells c _ _)::_=>(match c[2]? with|some (Value.slice _ n _)=>n|_=>0)
 |_=>0
theorem yT{b:si}{x:Nat×Obj}{n m:Nat}{a:Option Addr}{cp:Nat}(h:b.vu=.slice a m cp):Ky (x::b.hp kp n)=m:=by simp[Ky,si.hp,si.cells,h]
theorem Fv(h:cD kp K ord aj tr C){d:Nd}(hd:Yr K.N d)(hv:d.v<K.n)(hT:K.T d=none)(hroom:K.used<K.cap)(hlo:d.lo<2∨d.lo<K.us.length)(hhi:d.hi<2∨d.hi<K.us.length)
 (hb:∀s,K.use s+2<2147483648):
  Fc Tryz.prog 207 #[ptr kp,nK d] C (fun v C'=>∃r de cz,v=u32 r∧K.N r=none∧2≤r∧r<K.cap∧de.length=cz.length∧r<de.length∧K.us.length≤de.length∧de.getD r 0=0∧
   (∀s,2≤s→s≠r→de.getD s 0=K.use s+e1 (some d) s)∧(∀s,s<2→de.getD s 0=K.use s)∧cz.getD r 0=0∧(∀s,s≠r→cz.getD s 0=K.hold s)∧
   cD kp {K with N:=up K.N r (some d),T:=o5 K.T d (some r),used:=K.used+1,us:=de,ho:=cz} ord aj tr C'):=by
 have hcap:=h.cap
 obtain⟨b,rfl,hO⟩:=h
 have HU:=hO.ul
 intro g
 refine D2 (R:=aB _) ?_
 unfold L207
 intro b1 _
 refine DR.of (R:=(b1,.cells (Value.cells (nK d)) 161 (0,0))::(kp,.cells (b.cells K.n) 117 (0,0))::[]) (.cons (.cons .nil)) ?_
 refine Nil.ptr ?_
 refine aa.mk (Ld.mk (v:=ptr b.pa) (by exact .tail _ (.head _)) rfl ?_)
 refine aD.whole (r:=aZ d) (by exact .head _) rfl ?_
 refine ag.fn (.cons (.cons .left)) (Nn hO.ar hd hroom) ?_
 rintro v YR ⟨r,rfl,h2,hrc,hN,Xl⟩
 refine⟨.cons (.cons .nil),Ext.mk rfl (Ext.mk rfl ?_)⟩
 refine⟨fun _ H=>∃(b':si) (de cz:List Nat),H=(b1,.cells (Value.cells (nK d)) 161 (0,0))::b'.hp kp K.n∧Uw b' {K with N:=up K.N r (some d),used:=K.used+1,us:=de,ho:=cz} ord aj tr∧
   K.us.length≤de.length∧(∀s,de.getD s 0=K.use s)∧∀s,cz.getD s 0=K.hold s,
  fun _ H=>r+1-Ky H,JE.mk ⟨{b with CA:=YR},K.us,K.ho,rfl,{hO with ar:=Xl,ul:=HU},Nat.le_refl _,fun _=>rfl,fun _=>rfl⟩,?_⟩
 rintro H ⟨b',de,cz,rfl,vi,hle,hu,hh⟩ gs
 have Wn:=vi.ul
 simp only at Wn
 refine aY.nat (by simp[aE];omega) (Nil.ptr ?_)
 refine aa.mk (Ld.mk (v:=b'.vu) (by exact .tail _ (.head _)) rfl ?_)
 refine vi.us.bQ ?_
 rw[an]
 refine ae.rG (Br.dec (fun hge=>?_) (fun hge=>?_))
 ·have hge:de.length≤r:=hge
  refine Nil.ptr ?_
  refine aa.mk (Ld.mk (v:=b'.vu) (by exact .tail _ (.head _)) rfl ?_)
  refine au.int (e:=21) (by kernel_rfl) (by kernel_rfl) (by kernel_rfl) fun bx=>?_
  refine vi.us.mL (.cons (.cons (.cons (.app (.app .left))))) (by exact .head _) (by simp;omega) (by simp;omega) fun vu' Om AV=>?_
  refine Nil.ptr (aa.mk ?_)
  refine St.one (by exact .tail (.tail (.head _))) AV.one (by simp[si.cells]) rfl ?_
  refine Nil.ptr ?_
  refine aa.mk (Ld.mk (v:=b'.vh) (by exact .tail _ (.tail _ (.head _))) rfl ?_)
  refine au.int (e:=21) (by kernel_rfl) (by kernel_rfl) (by kernel_rfl) fun by'=>?_
  refine vi.ho.mL (.cons (.cons (.cons (.cons (.app (.app (.app .left))))))) (by exact .head _) (by simp;omega) (by simp;omega) fun vh' NH o8=>?_
  refine Nil.ptr (aa.mk ?_)
  refine St.one (by exact .tail (.tail (.tail (.head _)))) o8.one (by simp[si.cells]) rfl ?_
  have e0:∀l:List Nat,iw l++[0]=iw (l++[0]):=fun l=>by rw[bG];rfl
  rw[e0]at AV o8
  refine aC.of (.skip (.skip (.refl _))) ⟨{b' with vu:=vu',vh:=vh',CU:=Om,CH:=NH},de++[0],cz++[0],rfl,{vi with us:=AV,ho:=o8,ul:=by simp at Wn⊢;omega},by simp;omega,fun s=>by rw[tH,hu],fun s=>by rw[tH,hh]⟩ ?_
  obtain⟨a1,c1,e1⟩:=aS.len vi.us
  obtain⟨a2,c2,e2⟩:=aS.len AV
  have f1:=yT (b:=b') (x:=(b1,.cells (Value.cells (nK d)) 161 (0,0))) (kp:=kp) (n:=K.n) e1
  have f2:=yT (b:={b' with vu:=vu',vh:=vh',CU:=Om,CH:=NH}) (x:=(b1,.cells (Value.cells (nK d)) 161 (0,0))) (kp:=kp) (n:=K.n) e2
  rw[f1]
  refine Nat.lt_of_le_of_lt (Nat.le_of_eq (congrArg (fun z=>r+1-z) f2)) ?_
  simp
  omega
 ·have hge:¬de.length≤r:=hge
  have FX:r<de.length:=by omega
  have FW:r<cz.length:=by omega
  refine DR.of (R:=(kp,.cells (b'.cells K.n) 117 (0,0))::[]) (.skip (.cons .nil)) ?_
  refine Nil.ptr ?_
  refine aa.mk (Ld.mk (v:=b'.vu) (by exact .head _) rfl ?_)
  refine Nil.ptr ?_
  refine aa.mk (Ld.mk (v:=b'.vh) (by exact .head _) rfl ?_)
  refine vi.us.jh (x:=0) (.cons (.cons (.app (.app .left)))) (by simpa using FX) fun Om AV=>?_
  refine vi.ho.jh (x:=0) (.cons (.cons (.app (.app (.app .left))))) (by simpa using FW) fun NH o8=>?_
  have e0:∀l:List Nat,(iw l).set r 0=iw (l.set r 0):=fun l=>dY l r 0
  rw[e0]at AV o8
  have lor:d.lo≠r:=fw hd.lo h2 hN
  have hir:d.hi≠r:=fw hd.hi h2 hN
  refine aa.mk (Ld.mk (v:=u32 d.lo) (by exact .head _) rfl ?_)
  have u0:∀s,(de.set r 0).getD s 0=if s=r then 0 else K.use s:=fun s=>by rw[fS FX];split;rfl;exact hu s
  have h0:∀s,(cz.set r 0).getD s 0=if s=r then 0 else K.hold s:=fun s=>by rw[fS FW];split;rfl;exact hh s
  have fx:cD kp {K with N:=up K.N r (some d),used:=K.used+1,us:=de.set r 0,ho:=cz.set r 0} ord aj tr (({b' with CU:=Om,CH:=NH}:si).hp kp K.n):=⟨_,rfl,{vi with us:=AV,ho:=o8,ul:=by simp;omega}⟩
  refine ag.fn (.cons .here) (Bk fx (by simp;omega) (by have:=hb d.lo;show(de.set r 0).getD d.lo 0+1<_;rw[u0,if_neg lor];omega)) ?_
  rintro v C1 ⟨rfl,dL⟩
  refine aa.mk (Ld.mk (v:=u32 d.hi) (by exact .head _) rfl ?_)
  have u1:∀s,(rp {K with N:=up K.N r (some d),used:=K.used+1,us:=de.set r 0,ho:=cz.set r 0} d.lo).getD s 0=(if s=r then 0 else K.use s)+(if 2≤s∧s=d.lo then 1 else 0):=fun s=>by
   by_cases e:s=d.lo
   ·by_cases h2:2≤s
    ·rw[if_pos (show 2≤s∧s=d.lo from⟨h2,e⟩),e,lU (by omega) (by simp;omega)]
     show(de.set r 0).getD d.lo 0+1=_
     rw[u0]
    ·rw[if_neg (show¬(2≤s∧s=d.lo)by omega)]
     unfold rp
     rw[if_pos (by omega)]
     show(de.set r 0).getD s 0=_
     rw[u0];rfl
   ·rw[if_neg (show¬(2≤s∧s=d.lo)by omega),sU e]
    show(de.set r 0).getD s 0=_
    rw[u0];rfl
  refine ag.fn (.cons .here) (Bk dL (by rw[iq];simp;omega) (by
   have:=hb d.hi
   show(rp _ d.lo).getD d.hi 0+1<_
   rw[u1,if_neg hir];split<;>omega)) ?_
  rintro v C2 ⟨rfl,nN⟩
  have aio:=nN
  obtain⟨b3,rfl,hO3⟩:=nN
  refine DR.self ?_
  refine Nil.ptr ?_
  refine aa.mk (Ld.mk (v:=ptr b3.pt) (by exact .tail _ (.head _)) rfl ?_)
  refine aD.whole (r:=aZ d) (by exact .head _) rfl ?_
  refine ag.fn (.cons (.cons (.app .left))) (Fq hO3.ut hv hT) ?_
  rintro v UU ⟨rfl,SW⟩
  have u2:∀s,(rp {K with N:=up K.N r (some d),used:=K.used+1,us:=rp {K with N:=up K.N r (some d),used:=K.used+1,us:=de.set r 0,ho:=cz.set r 0} d.lo,ho:=cz.set r 0} d.hi).getD s 0=(if s=r then 0 else K.use s)+(if 2≤s∧s=d.lo then 1 else 0)+(if 2≤s∧s=d.hi then 1 else 0):=fun s=>by
   by_cases e:s=d.hi
   ·by_cases h2:2≤s
    ·rw[if_pos (show 2≤s∧s=d.hi from⟨h2,e⟩),e,lU (by omega) (by rw[iq];simp;omega)]
     show(rp _ d.lo).getD d.hi 0+1=_
     rw[u1]
    ·rw[if_neg (show¬(2≤s∧s=d.hi)by omega)]
     unfold rp
     rw[if_pos (by omega)]
     show(rp _ d.lo).getD s 0=_
     rw[u1];rfl
   ·rw[if_neg (show¬(2≤s∧s=d.hi)by omega),sU e]
    show(rp _ d.lo).getD s 0=_
    rw[u1];rfl
  refine aB.mk .tail ⟨r,_,_,rfl,hN,h2,hrc,?_,?_,?_,?_,?_,?_,?_,?_,{b3 with CT:=UU},rfl,{hO3 with ut:=SW}⟩
  ·rw[iq,iq];simp;omega
  ·rw[iq,iq];simp;omega
  ·rw[iq,iq];simp;omega
  ·rw[u2,if_pos rfl,if_neg (show¬(2≤r∧r=d.lo)by omega),if_neg (show¬(2≤r∧r=d.hi)by omega)]
  ·intro s Vp hne
   rw[u2,if_neg hne,dM]
   have c1:(2≤s∧s=d.lo)↔d.lo=s:=⟨fun h=>h.2.symm,fun h=>⟨Vp,h.symm⟩⟩
   have c2:(2≤s∧s=d.hi)↔d.hi=s:=⟨fun h=>h.2.symm,fun h=>⟨Vp,h.symm⟩⟩
   simp only[c1,c2]
   omega
  ·intro s hs
   rw[u2,if_neg (show¬s=r by omega),if_neg (show¬(2≤s∧s=d.lo)by omega),if_neg (show¬(2≤s∧s=d.hi)by omega)]
   try simp
  ·rw[h0,if_pos rfl]
  ·intro s hne;rw[h0,if_neg hne]
end
section
variable {kp:Nat} {K:Kd} {ord aj tr:List Nat} {C:Hp} {S:Nat→aF.Fn}
theorem PW(B:Hp)(v:Int)(r:Nat)(kv:Value):Rd Tryz.prog 138 #[kv,.int .i64 v,u32 r,u32 r] B (· =u32 r):=by
 intro g
 refine oT (R:=aB _) ?_
 unfold L138
 exact ae.gn (Br.eU rfl (cw.mk (.refl _) rfl))
theorem PY(h:cD kp K ord aj tr C){v lo hi r:Nat}(hne:lo≠hi)(hv:v<K.n)(hT:K.T ⟨v,lo,hi⟩=some r):
  Rd Tryz.prog 138 #[ptr kp,.int .i64 (v:Int),u32 lo,u32 hi] C (· =u32 r):=by
 obtain⟨b,rfl,hO⟩:=h
 intro g
 refine oT (R:=aB _) ?_
 unfold L138
 refine ae.gn (Br.bt hne ?_)
 refine Build.mk (cs:=aZ ⟨v,lo,hi⟩) (by kernel_rfl) ?_
 intro b3 _
 refine St.whole (r:=aZ ⟨v,lo,hi⟩) (by exact .head _) rfl rfl (fun x hx=>by simp[aZ,u32]at hx;rcases hx with rfl|rfl|rfl<;>rfl) ?_
 refine DR.self ?_
 refine Nil.ptr ?_
 refine aa.mk (Ld.mk (v:=ptr b.pt) (by exact .tail _ (.head _)) rfl ?_)
 refine aD.whole (r:=aZ ⟨v,lo,hi⟩) (by exact .head _) rfl ?_
 refine ag.rd (.cons (.cons (.app .left))) (sG (d:=⟨v,lo,hi⟩) hO.ut hv) ?_
 rintro w rfl
 rw[hT]
 exact⟨.refl _,Ext.mk rfl (Ext.mk rfl (Br.yes (cw.mk .tail rfl)))⟩
theorem PX(h:cD kp K ord aj tr C){d:Nd}(hne:d.lo≠d.hi)(hd:Yr K.N d)(hv:d.v<K.n)(hT:K.T d=none)(hroom:K.used<K.cap)(hlo:d.lo<2∨d.lo<K.us.length)(hhi:d.hi<2∨d.hi<K.us.length)
 (hb:∀s,K.use s+2<2147483648):
  Fc Tryz.prog 138 #[ptr kp,.int .i64 (d.v:Int),u32 d.lo,u32 d.hi] C (fun v C'=>∃r de cz,v=u32 r∧K.N r=none∧2≤r∧r<K.cap∧de.length=cz.length∧r<de.length∧K.us.length≤de.length∧de.getD r 0=0∧
   (∀s,2≤s→s≠r→de.getD s 0=K.use s+e1 (some d) s)∧(∀s,s<2→de.getD s 0=K.use s)∧cz.getD r 0=0∧(∀s,s≠r→cz.getD s 0=K.hold s)∧
   cD kp {K with N:=up K.N r (some d),T:=o5 K.T d (some r),used:=K.used+1,us:=de,ho:=cz} ord aj tr C'):=by
 have h0:=h
 obtain⟨b,rfl,hO⟩:=h
 intro g
 refine oT (R:=aB _) ?_
 unfold L138
 refine ae.gn (Br.bt hne ?_)
 refine Build.mk (cs:=aZ d) (by kernel_rfl) ?_
 intro b3 _
 refine St.whole (r:=aZ d) (by exact .head _) rfl rfl (fun x hx=>by simp[aZ,u32]at hx;rcases hx with rfl|rfl|rfl<;>rfl) ?_
 refine DR.self ?_
 refine Nil.ptr ?_
 refine aa.mk (Ld.mk (v:=ptr b.pt) (by exact .tail _ (.head _)) rfl ?_)
 refine aD.whole (r:=aZ d) (by exact .head _) rfl ?_
 refine ag.rd (.cons (.cons (.app .left))) (sG (d:=d) hO.ut hv) ?_
 rintro w rfl
 rw[hT]
 refine⟨.refl _,Ext.mk rfl (Ext.mk rfl (Br.no ?_))⟩
 refine aD.whole (r:=aZ d) (by exact .head _) rfl ?_
 refine ag.fn (.cons .here) (Fv h0 hd hv hT hroom hlo hhi hb) ?_
 rintro v C' ⟨r,de,cz,rfl,hh⟩
 exact aB.mk .tail ⟨r,de,cz,rfl,hh⟩
structure vx(K' K:Kd):Prop where
 N:∀{s d},K'.N s=some d→K.N s=some d
 n:K'.n=K.n
 cap:K'.cap=K.cap
 ho:K'.ho=K.ho
 us:∀s,K'.use s≤K.use s
 idle:(∀s,K.N s=none→K.use s=0)→∀s,K'.N s=none→K'.use s=0
theorem vx.refl(K:Kd):vx K K:=⟨fun h=>h,rfl,rfl,rfl,fun _=>Nat.le_refl _,fun h=>h⟩
theorem vx.trans{A B C:Kd}(h:vx A B)(h':vx B C):vx A C:=⟨fun x=>h'.N (h.N x),h.n.trans h'.n,h.cap.trans h'.cap,h.ho.trans h'.ho,fun s=>Nat.le_trans (h.us s) (h'.us s),fun hi=>h.idle (h'.idle hi)⟩
def PL(P:Nat→Nat)(N:eB):Prop:=∀t,2≤t→0<P t→∃d,N t=some d
def fU(P0:Nat→Nat)(l:List Nat):Nat→Nat:=fun s=>P0 s+l.count s
theorem IA{P0:Nat→Nat}{l:List Nat}{t:Nat}:up (fU P0 (l++[t])) t (fU P0 (l++[t]) t-1)=fU P0 l:=by
 funext s
 unfold up fU
 split
 ·rename_i e;subst e;simp
 ·rename_i e;simp[List.count_append,List.count_singleton,Ne.symm e]
theorem kQ{P0:Nat→Nat}(h:cD kp K ord aj tr C){r:Nat}(hm:iK K S gP (fU P0 [r]))(hp:Pos K)(hl:PL (fU P0 [r]) K.N)(hr:r<1048576)(hbu:∀s,K.use s<2147483648):
  Fc Tryz.prog 142 #[ptr kp,u32 r] C (fun v C'=>v=.tuple #[]∧∃K',cD kp K' ord aj tr C'∧iK K' S gP P0∧Pos K'∧PL P0 K'.N∧vx K' K):=by
 intro g
 refine EE (R:=aB _) ?_
 unfold L142
 refine au.int (e:=77) (by kernel_rfl) (by kernel_rfl) (by kernel_rfl) fun bx=>?_
 refine Wb (fun k vs H=>∃(w:Value) (Ct C':Hp) (todo:List Nat) (K':Kd),vs=[w]∧H=Ct++C'∧aP 77 .u32 w (iw todo) Ct∧cD kp K' ord aj tr C'∧iK K' S gP (fU P0 todo)∧Pos K'∧PL (fU P0 todo) K'.N∧vx K' K∧(∀t∈todo,t<1048576)∧k=3*K'.used+todo.length∧k≤3*K.used+1)
  _ ⟨_,[_],C,[r],K,rfl,rfl,aP.made [(r:Int)],h,hm,hp,hl,.refl K,by simpa using hr,rfl,by simp⟩ ?_
 rintro w H hJ gs
 obtain⟨k,⟨w',Ct,C',todo,K',hw,rfl,ht,hK,hM,Ms,JM,nZ,hT,hk,hkb⟩,hkm⟩:=hJ.open
 simp only[List.cons.injEq,and_true]at hw
 subst hw
 refine ht.bQ ?_
 rw[an]
 refine ae.lP (b:=0) (Br.dec (fun hpos=>?_) (fun hpos=>?_))
 ·have hc1:=hm.cap
  obtain⟨pre,t,rfl⟩:∃pre t,todo=pre++[t]:=⟨todo.dropLast,todo.getLast (by intro e;simp[e]at hpos),(List.dropLast_concat_getLast _).symm⟩
  have htl:(pre++[t]).length=pre.length+1:=by simp
  have ht1:=hT t (by simp)
  refine ht.bQ ?_
  rw[an,htl]
  refine ae.bF (b:=1) ?_ (by omega) ?_
  ·simp[aE];omega
  rw[Nat.add_sub_cancel]
  refine ht.ld (i:=pre.length) (x:=(t:Int)) (by rw[bG];simp[iw]) (cc.sub .left) ?_
  refine ht.cut (i:=pre.length) (by simp) fun w' ht'=>?_
  have Q6:aP 77 .u32 w' (iw pre) Ct:=by
   rw[bG,List.take_left' (by simp)]at ht';exact ht'
  have hTp:∀s∈pre,s<1048576:=fun s hs=>hT s (List.mem_append_left _ hs)
  refine ae.AU (b:=1) (Br.dec (fun h1=>?_) (fun h1=>?_))
  ·have hc:∀s,2≤s→fU P0 (pre++[t]) s=fU P0 pre s:=fun s hs=>by
    unfold fU;rw[List.count_append,List.count_singleton];simp;omega
   exact mR.back (.refl _) hkm (3*K'.used+pre.length) ⟨w',Ct,C',pre,K',rfl,rfl,Q6,hK,hM.congr (fun _=>Iff.rfl) hc,Ms,fun s hs h0=>JM s hs (by rw[hc s hs];exact h0),nZ,hTp,rfl,by simp at hk;omega⟩ (by rw[hk];simp)
  ·have hPt:0<fU P0 (pre++[t]) t:=by unfold fU;simp;omega
   obtain⟨d,hd⟩:=JM t (by omega) hPt
   have hfit:=hM.fit hd
   have Wv:=Ms t d hd
   obtain⟨b,rfl,hO⟩:=hK
   refine Nil.ptr ?_
   refine aa.mk (Ld.mk (v:=b.vu) (List.mem_append_right _ (by exact .head _)) rfl ?_)
   refine hO.us.ld (x:=((K'.use t:Nat):Int)) (bg hfit) (cc.sub (.app (.cons (.app (.app .left))))) ?_
   refine ae.bF (b:=1) ?_ (by omega) ?_
   ·have:=nZ.us t
    have:=hbu t
    simp[aE];omega
   refine hO.us.jh (x:=((K'.use t-1:Nat):Int)) (.app (.cons (.app (.app .left)))) (by simpa using hfit) fun Om AV=>?_
   rw[dY]at AV
   have g1:∀s,(K'.us.set t (K'.use t-1)).getD s 0=if s=t then K'.use t-1 else K'.use s:=fun s=>fS hfit
   have Ii:=hM.less (r:=t) (de:=K'.us.set t (K'.use t-1)) hPt (by simp) (by rw[g1,if_pos rfl];omega) (fun s hs=>by rw[g1,if_neg hs])
   rw[IA]at Ii
   have Rq:Uw {b with CU:=Om} {K' with us:=K'.us.set t (K'.use t-1)} ord aj tr:={hO with us:=AV,ul:=by simp;exact hO.ul}
   have Vo:vx {K' with us:=K'.us.set t (K'.use t-1)} K:=⟨nZ.N,nZ.n,nZ.cap,nZ.ho,fun s=>by
    show(K'.us.set t (K'.use t-1)).getD s 0≤_
    rw[g1]
    have:=nZ.us s
    split
    ·rename_i e;subst e;omega
    ·exact this,fun hi s hs=>by
    show(K'.us.set t (K'.use t-1)).getD s 0=0
    have hs':K'.N s=none:=hs
    rw[g1,if_neg (fun e=>by subst e;rw[hd]at hs';cases hs')]
    exact nZ.idle hi s hs'⟩
   have Xy:PL (fU P0 pre) K'.N:=fun s hs h0=>JM s hs (by unfold fU at h0⊢;rw[List.count_append];omega)
   refine Nil.ptr ?_
   refine aa.mk (Ld.mk (v:=b.vu) (List.mem_append_right _ (by exact .head _)) rfl ?_)
   refine AV.ld (x:=((K'.use t-1:Nat):Int)) (by rw[←dY];simp[hfit]) (cc.sub (.app (.cons (.app (.app .left))))) ?_
   refine ae.lP (b:=0) (Br.dec (fun h3=>?_) (fun h3=>?_))
   ·refine mR.back (.refl _) hkm (3*K'.used+pre.length) ⟨w',Ct,_,pre,_,rfl,rfl,Q6,⟨_,rfl,Rq⟩,Ii,fun s e hs=>?_,Xy,Vo,hTp,rfl,by simp at hk;omega⟩ (by rw[hk];simp)
    show 0<(K'.us.set t (K'.use t-1)).getD s 0
    rw[g1]
    split
    ·exact h3
    ·exact Ms s e hs
   ·have hu0:K'.use t=1:=by omega
    have fx:cD kp {K' with us:=K'.us.set t (K'.use t-1)} ord aj tr (({b with CU:=Om}:si).hp kp K'.n):=⟨_,rfl,Rq⟩
    refine ag.rd (.app .here) (mu fx (by omega)) ?_
    rintro v rfl
    have Mw:2≤t:=by omega
    have abX:got K'.N t=aZ d:=dD hd Mw
    show bn _ _ _
    intro X6 _
    rw[abX]
    refine St.whole (r:=aZ d) (by exact .head _) rfl rfl (fun x hx=>by simp[aZ,u32]at hx;rcases hx with rfl|rfl|rfl<;>rfl) ?_
    refine DR.self ?_
    refine Nil.ptr ?_
    refine aa.mk (Ld.mk (v:=ptr b.pt) (.tail _ (List.mem_append_right _ (by exact .head _))) rfl ?_)
    refine aD.whole (r:=aZ d) (by exact .head _) rfl ?_
    have hTd:K'.T d=some t:=(hM.jF d t).2 ⟨hd,fun h=>h⟩
    refine ag.fn (.cons (.app (.cons (.app .left)))) (vN Rq.ut (hM.var hd) hTd) ?_
    rintro v UU ⟨rfl,SW⟩
    refine Nil.ptr ?_
    refine aa.mk (Ld.mk (v:=ptr b.pa) (.tail _ (List.mem_append_right _ (by exact .head _))) rfl ?_)
    refine ag.fn (.cons (.app (.cons .left))) (Ns Rq.ar ⟨d,hd⟩ Mw) ?_
    rintro v YR ⟨rfl,Xl⟩
    refine aa.mk (Ld.mk (v:=u32 d.lo) (by exact .head _) rfl ?_)
    refine aa.mk (Ld.mk (v:=u32 d.hi) (by exact .head _) rfl ?_)
    refine au.FU (e:=77) (by kernel_rfl) (by kernel_rfl) (by kernel_rfl) fun bz=>?_
    refine Q6.Az (.cons (.cons .left)) (cX.block (l:=[(d.lo:Int),(d.hi:Int)]) (by exact .head _) (by simp)) (by simp at hk⊢;omega) (by simp at hk⊢;omega) fun w2 Ct2 Y4=>?_
    have e0:iw pre++[(d.lo:Int),(d.hi:Int)]=iw (pre++[d.lo,d.hi]):=by rw[bG];rfl
    rw[e0]at Y4
    have Y3:({K' with us:=K'.us.set t (K'.use t-1)}:Kd).use t=0:=by show(K'.us.set t (K'.use t-1)).getD t 0=0;rw[g1,if_pos rfl];omega
    have F3:=Ii.free (r:=t) (d:=d) hd (fun h=>h) Y3
    have hed:cU K'.N t K'.cap=0:=by have:=Ii.use hd;rw[Y3]at this;exact(by have h5:cU K'.N t K'.cap+_+_=0:=this.symm;omega)
    have gJ:=iY hed t (hM.two hd).2 d hd
    have acA:fU P0 pre t=0:=by have:=Ii.use hd;rw[Y3]at this;omega
    have hroom:0<K'.used:=by have:=hM.room;omega
    have hlt:∀x,live K'.N x→x<1048576:=fun x hx=>fx.lt hx
    have lJ:∀s,2≤s→fU P0 pre s+e1 (some d) s=fU P0 (pre++[d.lo,d.hi]) s:=fun s _=>by
     unfold fU
     rw[dM,List.count_append,List.count_cons,List.count_cons,List.count_nil]
     simp only[beq_iff_eq]
     omega
    refine mR.back (.skip (.skip (.refl _))) hkm (3*(K'.used-1)+(pre++[d.lo,d.hi]).length) ⟨w2,Ct2,_,pre++[d.lo,d.hi],{K' with us:=K'.us.set t (K'.use t-1),N:=up K'.N t none,T:=o5 K'.T d none,used:=K'.used-1},rfl,rfl,Y4,
     ⟨{b with CU:=Om,CT:=UU,CA:=YR},rfl,{Rq with ar:=Xl,ut:=SW}⟩,F3.congr (fun _=>Iff.rfl) lJ,fun s e hs=>?_,fun s hs h0=>?_,⟨fun{s e} hs=>?_,Vo.n,Vo.cap,Vo.ho,Vo.us,fun hi s hs=>?_⟩,fun s hs=>?_,rfl,by simp at hk⊢;omega⟩ (by simp at hk⊢;omega)
    ·have hne:s≠t:=fun e2=>by subst e2;have uI:up K'.N s none s=some e:=hs;rw[aK]at uI;cases uI
     show 0<(K'.us.set t (K'.use t-1)).getD s 0
     rw[g1,if_neg hne]
     have uI:up K'.N t none s=some e:=hs
     rw[aQ hne]at uI
     exact Ms s e uI
    ·have hne:s≠t:=fun e2=>by
      subst e2
      rw[←lJ s hs,acA]at h0
      rw[dM,if_neg gJ.1,if_neg gJ.2]at h0
      omega
     show∃e,up K'.N t none s=some e
     rw[aQ hne]
     rw[←lJ s hs]at h0
     by_cases h5:0<fU P0 pre s
     ·exact Xy s hs h5
     ·rw[dM]at h0
      have:d.lo=s∨d.hi=s:=by
       by_cases h6:d.lo=s
       ·exact .inl h6
       ·by_cases h7:d.hi=s
        ·exact .inr h7
        ·rw[if_neg h6,if_neg h7]at h0;omega
      rcases this with rfl|rfl
      ·rcases hM.lo hd with h8|h8
       ·omega
       ·exact h8
      ·rcases hM.hi hd with h8|h8
       ·omega
       ·exact h8
    ·have uI:up K'.N t none s=some e:=hs
     by_cases e2:s=t
     ·subst e2;rw[aK]at uI;cases uI
     ·rw[aQ e2]at uI;exact nZ.N uI
    ·have uI:up K'.N t none s=none:=hs
     show(K'.us.set t (K'.use t-1)).getD s 0=0
     by_cases e2:s=t
     ·subst e2;rw[g1,if_pos rfl];omega
     ·rw[aQ e2]at uI
      exact Vo.idle hi s uI
    ·rcases List.mem_append.1 hs with hs|hs
     ·exact hTp s hs
     ·simp at hs
      rcases hs with rfl|rfl
      ·exact hlt _ (hM.lo hd)
      ·exact hlt _ (hM.hi hd)
 ·obtain rfl:todo=[]:=List.eq_nil_of_length_eq_zero (by omega)
  exact aB.mk .right ⟨rfl,K',hK,hM.congr (fun _=>Iff.rfl) (fun s _=>by simp[fU]),Ms,fun s hs h0=>JM s hs (by simpa[fU]using h0),nZ⟩
end
abbrev lv(aj:List Nat):Nat→Nat:=fun v=>aj.getD v 0
section
variable {kp:Nat} {K:Kd} {ord aj tr:List Nat} {C:Hp} {S:Nat→aF.Fn}
theorem sE(h:cD kp K ord aj tr C)(v:Int):Rd Tryz.prog 113 #[ptr kp,.int .i64 v] C (· =.bool (decide (0≤v∧v<K.n))):=by
 obtain⟨b,rfl,hO⟩:=h
 intro g
 refine EU (R:=aB _) ?_
 unfold L113
 refine ae.geq ?_
 refine bX.and (decide (v<K.n)) (fun _=>?_) rfl fun _=>cw.mk (.refl _) (by rw[Bool.decide_and])
 refine Nil.ptr ?_
 refine aa.mk (Ld.mk (v:=.int .i64 (K.n:Int)) (by exact .head _) rfl ?_)
 exact ae.lss ⟨rfl,rfl⟩
theorem wo(h:cD kp K ord aj tr C){r:Nat}(hl:live K.N r)(hv:∀d,K.N r=some d→d.v<K.n)(Vq:r<2→K.N r=none):Rd Tryz.prog 257 #[ptr kp,u32 r] C (· =.int .i64 ((dep K.n (lv aj) K.N r:Nat):Int)):=by
 have h0:=h
 have hr:=h.lt hl
 obtain⟨b,rfl,hO⟩:=h
 intro g
 refine Dm (R:=aB _) ?_
 unfold L257
 refine Nil.ptr (aa.mk ?_)
 refine ag.rd .here (mu h0 (by omega)) ?_
 rintro v rfl
 intro b5 _
 refine St.whole (r:=got K.N r) (by exact .head _) rfl (aL _ _).1 (aL _ _).2 ?_
 by_cases h2:r<2
 ·rw[dV h2,aX (Vq h2)]
  refine aa.mk (Ld.mk (v:=.int .i64 (-1)) (by exact .head _) rfl ?_)
  refine ae.geq (Br.U5 (by decide) ?_)
  refine Nil.ptr ?_
  refine aa.mk (Ld.mk (v:=.int .i64 (K.n:Int)) (by exact .tail _ (.head _)) rfl ?_)
  exact cw.mk .tail rfl
 ·obtain⟨d,hd⟩:∃d,K.N r=some d:=by rcases hl with hl|hl;omega;exact hl
  rw[dD hd (by omega),ax hd]
  have pP:=hv d hd
  have hlen:=hO.ol.2
  refine aa.mk (Ld.mk (v:=.int .i64 (d.v:Int)) (by exact .head _) rfl ?_)
  refine ae.geq (Br.JY (by simp) ?_)
  refine Nil.ptr ?_
  refine aa.mk (Ld.mk (v:=b.vl) (by exact .tail _ (.head _)) rfl ?_)
  refine aa.mk (Ld.mk (v:=.int .i64 (d.v:Int)) (by exact .head _) rfl ?_)
  refine hO.lv.ld (x:=((aj.getD d.v 0:Nat):Int)) (bg (by omega)) (cc.sub (.cons (.cons (.app (.app (.app (.app (.app .left)))))))) ?_
  exact cw.mk .tail rfl
def rK(K:Kd)(aj:List Nat)(v:Int)(lo hi:Nat):Int:=
 if¬(0≤v∧v<K.n)then 2 else if fG K.N lo=false∨fG K.N hi=false then 3 else if lo≠hi∧min (dep K.n (lv aj) K.N lo) (dep K.n (lv aj) K.N hi)≤aj.getD v.toNat 0 then 4 else 0
theorem P6(h:cD kp K ord aj tr C)(v:Int){lo hi:Nat}(hlo:lo<4294967296)(hhi:hi<4294967296)(hv:∀r d,K.N r=some d→d.v<K.n∧2≤r):
  Rd Tryz.prog 225 #[ptr kp,.int .i64 v,u32 lo,u32 hi] C (· =.int .i64 (rK K aj v lo hi)):=by
 have h0:=h
 have Vq:∀r,r<2→K.N r=none:=fun r hr=>by
  cases e:K.N r with
  |none=>rfl
  |some d=>have:=(hv r d e).2;omega
 obtain⟨b,rfl,hO⟩:=h
 intro g
 refine DM (R:=aB _) ?_
 unfold L225
 refine ag.rd .here (sE h0 v) ?_
 rintro x rfl
 refine Un.not ?_
 by_cases yE:0≤v∧v<K.n
 rotate_left
 ·rw[decide_eq_false yE]
  exact Br.yes (cw.mk (.refl _) (by unfold rK;rw[if_pos yE]))
 rw[decide_eq_true yE]
 refine Br.no ?_
 obtain⟨n,rfl⟩:∃n:Nat,v=n:=⟨v.toNat,by omega⟩
 have hnv:n<K.n:=by omega
 intro J hJ
 refine Nil.ptr (aa.mk ?_)
 refine ag.rd .here (mw h0 hlo) ?_
 rintro x rfl
 refine Un.not ?_
 by_cases mz:fG K.N lo=true
 rotate_left
 ·have WL:fG K.N lo=false:=by simpa using mz
  rw[WL]
  exact Split.V4 rfl (az.mk (JE.mk (hJ _ _ fun gs=>Br.yes (cw.mk (.refl _) (by unfold rK;rw[if_neg (by simpa using yE),if_pos (.inl WL)])))))
 rw[mz]
 refine Split.go rfl ?_
 refine Nil.ptr (aa.mk ?_)
 refine ag.rd .here (mw h0 hhi) ?_
 rintro x rfl
 refine Un.not ?_
 by_cases Za:fG K.N hi=true
 rotate_left
 ·have WW:fG K.N hi=false:=by simpa using Za
  rw[WW]
  exact az.mk (JE.mk (hJ _ _ fun gs=>Br.yes (cw.mk (.refl _) (by unfold rK;rw[if_neg (by simpa using yE),if_pos (.inr WW)]))))
 rw[Za]
 refine az.mk (JE.mk (hJ _ _ fun gs=>Br.no ?_))
 intro J2 wy
 have hE:rK K aj n lo hi=if lo≠hi∧min (dep K.n (lv aj) K.N lo) (dep K.n (lv aj) K.N hi)≤aj.getD n 0 then 4 else 0:=by
  unfold rK
  rw[if_neg (by simpa using yE),if_neg (by rw[mz,Za];simp)]
  rfl
 refine DR.self ?_
 refine ae.yB ?_
 by_cases hne:lo≠hi
 rotate_left
 ·rw[decide_eq_false hne]
  exact Br.no (JE.mk (wy _ _ fun gs=>Br.no (cw.mk (.refl _) (by rw[hE,if_neg (fun h=>hne h.1)]))))
 rw[decide_eq_true hne]
 refine Br.yes ?_
 refine Nil.ptr ?_
 refine aa.mk (Ld.mk (v:=b.vl) (by exact .head _) rfl ?_)
 have hlen:=hO.ol.2
 refine hO.lv.ld (x:=((aj.getD n 0:Nat):Int)) (bg (by omega)) (cc.sub (.cons (.app (.app (.app (.app (.app .left))))))) ?_
 intro F
 refine ag.rd .here (wo h0 (bT.1 mz) (fun d hd=>(hv _ _ hd).1) (Vq _)) ?_
 rintro x rfl
 refine⟨.refl _,?_⟩
 intro F2
 refine ag.rd .here (wo h0 (bT.1 Za) (fun d hd=>(hv _ _ hd).1) (Vq _)) ?_
 rintro x rfl
 refine⟨.refl _,?_⟩
 refine⟨_,_,_,rfl,rfl,?_⟩
 have hmin:(if((dep K.n (lv aj) K.N hi:Nat):Int)<((dep K.n (lv aj) K.N lo:Nat):Int)then((dep K.n (lv aj) K.N hi:Nat):Int)else((dep K.n (lv aj) K.N lo:Nat):Int))=((min (dep K.n (lv aj) K.N lo) (dep K.n (lv aj) K.N hi):Nat):Int):=by
  split<;>omega
 rw[hmin]
 refine ae.rG ?_
 refine az.mk ?_
 by_cases hm:min (dep K.n (lv aj) K.N lo) (dep K.n (lv aj) K.N hi)≤aj.getD n 0
 ·rw[decide_eq_true hm]
  exact JE.mk (wy _ _ fun gs=>Br.yes (cw.mk (.refl _) (by rw[hE,if_pos ⟨hne,hm⟩])))
 ·rw[decide_eq_false hm]
  exact JE.mk (wy _ _ fun gs=>Br.no (cw.mk (.refl _) (by rw[hE,if_neg (fun h=>hm h.2)])))
theorem OM(h:cD kp K ord aj tr C){v lo hi:Nat}(hv:v<K.n):
  Rd Tryz.prog 226 #[ptr kp,.int .i64 (v:Int),u32 lo,u32 hi] C (· =if lo=hi then .tuple #[u32 lo,.bool true]else .tuple #[u32 ((K.T ⟨v,lo,hi⟩).getD 0),.bool (K.T ⟨v,lo,hi⟩).isSome]):=by
 obtain⟨b,rfl,hO⟩:=h
 intro g
 refine DL (R:=aB _) ?_
 unfold L226
 refine ae.gn (Br.dec (fun he=>cw.mk (.refl _) (by rw[if_pos he])) (fun he=>?_))
 refine Nil.ptr (aa.mk ?_)
 refine aa.mk (Ld.mk (v:=ptr b.pt) (by exact .head _) rfl ?_)
 refine Build.mk (cs:=aZ ⟨v,lo,hi⟩) (by kernel_rfl) ?_
 refine ag.rd (.cons (.app .left)) (sG (d:=⟨v,lo,hi⟩) hO.ut hv) ?_
 rintro x rfl
 exact Ext.mk rfl (Ext.mk rfl (cw.mk (.refl _) (by rw[if_neg he];rfl)))
theorem tq(h:cD kp K ord aj tr C){r:Nat}(hr:r<4294967296)(hb:∀s,K.hold s<2147483648):Rd Tryz.prog 95 #[ptr kp,u32 r] C (· =.int .i64 ((K.hold r:Nat):Int)):=by
 obtain⟨b,rfl,hO⟩:=h
 intro g
 refine IQ (R:=aB _) ?_
 unfold L95
 refine ae.aH ?_
 refine bX.or (decide (K.ho.length≤r)) (fun _=>?_) (by simp) fun _=>?_
 ·refine aY.nat (by simp[aE];omega) (Nil.ptr (aa.mk ?_))
  refine aa.mk (Ld.mk (v:=b.vh) (by exact .head _) rfl ?_)
  refine hO.ho.bQ ?_
  rw[an]
  exact ae.rG ⟨rfl,rfl⟩
 ·rw[Bool.false_or]
  refine Br.dec (fun hge=>?_) (fun hlt=>?_)
  ·refine cw.mk (.refl _) ?_
   unfold Kd.hold;rw[List.getD,List.getElem?_eq_none hge];rfl
  ·refine Nil.ptr (aa.mk ?_)
   refine aa.mk (Ld.mk (v:=b.vh) (by exact .head _) rfl ?_)
   refine hO.ho.ld (x:=((K.hold r:Nat):Int)) (bg (by omega)) (cc.sub (.cons (.app (.app (.app .left))))) ?_
   refine aY.nat (by have:=hb r;simp[aE];omega) ?_
   exact cw.mk (.refl _) rfl
theorem sF(h:cD kp K ord aj tr C)(h2:2≤K.used)(hu:K.used≤1048576):Rd Tryz.prog 15 #[ptr kp] C (· =.int .i64 ((K.used-2:Nat):Int)):=by
 obtain⟨b,rfl,hO⟩:=h
 intro g
 refine Jq (R:=aB _) ?_
 unfold L15
 refine ae.aH (Br.no (Nil.ptr (aa.mk ?_)))
 refine aa.mk (Ld.mk (v:=ptr b.pa) (by exact .head _) rfl ?_)
 refine ag.rd (.cons .left) (Aw hO.ar) ?_
 rintro v rfl
 refine ae.bF (b:=2) (by simp[aE];omega) h2 ?_
 exact cw.mk (.refl _) rfl
theorem HP(h:cD kp K ord aj tr C):Rd Tryz.prog 34 #[ptr kp] C (· =.int .i64 ((tr.length:Nat):Int)):=by
 obtain⟨b,rfl,hO⟩:=h
 intro g
 refine Jm (R:=aB _) ?_
 unfold L34
 refine ae.aH (Br.no (Nil.ptr ?_))
 refine aa.mk (Ld.mk (v:=b.vt) (by exact .head _) rfl ?_)
 refine hO.tr.bQ ?_
 rw[an]
 exact cw.mk (.refl _) rfl
theorem iQ(h:cD kp K ord aj tr C):Rd Tryz.prog 61 #[ptr kp] C (· =.int .i64 ((K.n:Nat):Int)):=by
 obtain⟨b,rfl,hO⟩:=h
 intro g
 refine IZ (R:=aB _) ?_
 unfold L61
 refine ae.aH (Br.no (Nil.ptr ?_))
 refine aa.mk (Ld.mk (v:=.int .i64 (K.n:Int)) (by exact .head _) rfl ?_)
 exact cw.mk (.refl _) rfl
theorem iT(h:cD kp K ord aj tr C){r:Nat}(hr:r<4294967296):Rd Tryz.prog 97 #[ptr kp,u32 r] C (· =.tuple #[.agg (got K.N r).toArray,.int .i64 (if fG K.N r then 0 else 3)]):=by
 have h0:=h
 obtain⟨b,rfl,hO⟩:=h
 intro g
 refine IP (R:=aB _) ?_
 unfold L97
 intro b1 _
 refine ae.aH (Br.no (Nil.ptr (aa.mk ?_)))
 refine ag.rd (.cons .here) (mw h0 hr) ?_
 rintro v rfl
 refine Un.not ?_
 cases hb:fG K.N r with
 |false=>
  refine Br.yes ?_
  refine Build.mk (cs:=[.int .i64 0,.int .u32 0,.int .u32 0]) (by kernel_rfl) ?_
  refine St.whole (r:=[.int .i64 0,.int .u32 0,.int .u32 0]) (by exact .head _) rfl rfl (by simp[Value.oneCell']) ?_
  refine aD.whole (r:=[.int .i64 0,.int .u32 0,.int .u32 0]) (by exact .head _) rfl ?_
  exact cw.mk .tail (by rw[zZ hb];rfl)
 |true=>
  refine Br.no (Nil.ptr (aa.mk ?_))
  refine ag.rd (.cons .here) (mu h0 hr) ?_
  rintro v rfl
  refine St.whole (r:=got K.N r) (by exact .head _) rfl (aL _ _).1 (aL _ _).2 ?_
  refine aD.whole (r:=got K.N r) (by exact .head _) (aL _ _).1 ?_
  exact cw.mk .tail rfl
end
theorem tQ{B:Hp}{v:Value}{l:List Int}(h:cX .i64 B v l)(hl:l.length≤1099511627776):Fc Tryz.prog 57 #[v] B (fun r H=>∃C,H=C++B∧aP 3 .i64 r l C):=by
 intro g
 refine Jb (R:=aB _) ?_
 unfold L57
 obtain⟨a,c,rfl,hc⟩:=h.shape
 refine⟨.bool a.isNone,by simp[fJ],?_⟩
 refine Br.mk (fun ha=>?_) (fun ha=>?_)
 ·have:l=[]:=by
   rcases h.2 with⟨_,_,h1,h2⟩|⟨b,o,cap,cs,T,fz,h1,_⟩
   ·simpa using h2
   ·simp at h1;rw[h1.1]at ha;simp at ha
  subst this
  exact aB.here ⟨[],rfl,aP.nil⟩
 ·refine au.none (z:=.int .i64 0) (e:=3) (k:=1) (by kernel_rfl) (by kernel_rfl) (by kernel_rfl) fun b=>?_
  refine(aP.made (T:=3) (kd:=.i64) (b:=b) []).Az (l2:=l) .left ((show cX .i64 B _ l from h).mono fun _ h=>.tail _ h) (by simp;omega) (by simp;omega) fun v' C' ho=>?_
  exact aB.here ⟨C',rfl,by simpa using ho⟩
theorem qD{kp:Nat}{K:Kd}{ord aj tr:List Nat}{C:Hp}(h:cD kp K ord aj tr C):Fc Tryz.prog 13 #[ptr kp] C (fun r H=>∃N,H=N++C∧aP 3 .i64 r (iw ord) N):=by
 obtain⟨b,rfl,hO⟩:=h
 intro g
 refine Jr (R:=aB _) ?_
 unfold L13
 refine ae.aH (Br.no (Nil.ptr ?_))
 refine aa.mk (Ld.mk (v:=b.vo) (by exact .head _) rfl ?_)
 refine ag.fn .here (tQ (hO.od.ints.mono (cc.sub (.cons (.app (.app (.app (.app .left))))))) (by have:=hO.ol.1;have:=hO.qA;simp;omega)) ?_
 rintro v C' ⟨N,rfl,ho⟩
 exact aB.here ⟨N,rfl,ho⟩
end Go.Proofs
set_option maxRecDepth 100000
namespace Go.Proofs
open Go Go.Sx
def wU(x r:Nat):Prop:=x<2^r∧(r=0∨2^(r-1)≤x)
theorem wU.up{x s t:Nat}(h:wU (x>>>s) t)(h0:s=0∨x>>>s≠0):wU x (s+t):=by
 rw[Nat.shiftRight_eq_div_pow]at h h0
 have hp:=Nat.two_pow_pos s
 refine⟨?_,?_⟩
 ·have:=h.1
  rw[Nat.div_lt_iff_lt_mul hp]at this
  rw[Nat.pow_add,Nat.mul_comm];exact this
 ·rcases h.2 with h2|h2
  ·subst h2
   have:=h.1
   rcases h0 with h0|h0
   ·exact .inl (by omega)
   ·rw[Nat.pow_zero]at this;exact absurd (Nat.lt_one_iff.1 this) h0
  ·by_cases ht:t=0
   ·subst ht
    rcases h0 with h0|h0
    ·exact .inl (by omega)
    ·have:=h.1;rw[Nat.pow_zero]at this;exact absurd (Nat.lt_one_iff.1 this) h0
   ·right
    have:=(Nat.le_div_iff_mul_le hp).1 h2
    rw[show s+t-1=(t-1)+s by omega,Nat.pow_add];exact this
theorem O7:∀y:Fin 256,∃b:UInt8,(ByteArray.mk #[0,1,2,2,3,3,3,3,4,4,4,4,4,4,4,4,5,5,5,5,5,5,5,5,5,5,5,5,5,5,5,5,6,6,6,6,6,6,6,6,6,6,6,6,6,6,6,6,6,6,6,6,6,6,6,6,6,6,6,6,6,6,6,6,7,7,7,7,7,7,7,7,7,7,7,7,7,7,7,7,7,7,7,7,7,7,7,7,7,7,7,7,7,7,7,7,7,7,7,7,7,7,7,7,7,7,7,7,7,7,7,7,7,7,7,7,7,7,7,7,7,7,7,7,7,7,7,7,8,8,8,8,8,8,8,8,8,8,8,8,8,8,8,8,8,8,8,8,8,8,8,8,8,8,8,8,8,8,8,8,8,8,8,8,8,8,8,8,8,8,8,8,8,8,8,8,8,8,8,8,8,8,8,8,8,8,8,8,8,8,8,8,8,8,8,8,8,8,8,8,8,8,8,8,8,8,8,8,8,8,8,8,8,8,8,8,8,8,8,8,8,8,8,8,8,8,8,8,8,8,8,8,8,8,8,8,8,8,8,8,8,8,8,8,8,8,8,8,8,8,8,8,8,8,8,8])[y.1]? =some b∧(y.1<2^b.toNat∧(b.toNat=0∨2^(b.toNat-1)≤y.1)):=by
 have h:∀y:Fin 256,(match(ByteArray.mk #[0,1,2,2,3,3,3,3,4,4,4,4,4,4,4,4,5,5,5,5,5,5,5,5,5,5,5,5,5,5,5,5,6,6,6,6,6,6,6,6,6,6,6,6,6,6,6,6,6,6,6,6,6,6,6,6,6,6,6,6,6,6,6,6,7,7,7,7,7,7,7,7,7,7,7,7,7,7,7,7,7,7,7,7,7,7,7,7,7,7,7,7,7,7,7,7,7,7,7,7,7,7,7,7,7,7,7,7,7,7,7,7,7,7,7,7,7,7,7,7,7,7,7,7,7,7,7,7,8,8,8,8,8,8,8,8,8,8,8,8,8,8,8,8,8,8,8,8,8,8,8,8,8,8,8,8,8,8,8,8,8,8,8,8,8,8,8,8,8,8,8,8,8,8,8,8,8,8,8,8,8,8,8,8,8,8,8,8,8,8,8,8,8,8,8,8,8,8,8,8,8,8,8,8,8,8,8,8,8,8,8,8,8,8,8,8,8,8,8,8,8,8,8,8,8,8,8,8,8,8,8,8,8,8,8,8,8,8,8,8,8,8,8,8,8,8,8,8,8,8,8,8,8,8,8,8])[y.1]? with|some b=>decide (y.1<2^b.toNat∧(b.toNat=0∨2^(b.toNat-1)≤y.1))|none=>false)=true:=by decide+kernel
 intro y
 have:=h y
 split at this
 ·rename_i b hb
  exact⟨b,hb,by simpa using this⟩
 ·cases this
theorem Lu{x:Nat}(hx:x<18446744073709551616)(B:Hp):Rd Tryz.prog 75 #[.int .u64 (x:Int)] B (fun v=>∃r:Nat,wU x r∧v=.int .i64 (r:Int)):=by
 intro g
 refine IV (R:=aB _) ?_
 unfold L75
 intro J1 TV
 have h1:∀s,s≤32→x>>>s<4294967296→(s=0∨x>>>s≠0)→J1 [.int .u64 ((x>>>s:Nat):Int),.int .i64 (s:Int)] B:=by
  intro s hs hlt h0
  refine TV _ _ _ fun gs=>?_
  intro J2 wy
  have h2:∀s,s≤48→x>>>s<65536→(s=0∨x>>>s≠0)→J2 [.int .u64 ((x>>>s:Nat):Int),.int .i64 (s:Int)] B:=by
   intro s hs hlt h0
   refine wy _ _ _ fun gs=>?_
   intro J3 Zm
   have h3:∀s,s≤56→x>>>s<256→(s=0∨x>>>s≠0)→J3 [.int .u64 ((x>>>s:Nat):Int),.int .i64 (s:Int)] B:=by
    intro s hs hlt h0
    refine Zm _ _ _ fun gs=>?_
    refine aY.nat (show x>>>s<256 from hlt) ?_
    obtain⟨b,hb,hl⟩:=O7 ⟨x>>>s,hlt⟩
    refine⟨_,_,_,b,rfl,rfl,Int.natCast_nonneg _,by rw[Int.toNat_natCast];exact hb,?_⟩
    have TK:b.toNat<256:=b.toNat_lt
    refine aY.nat (by simp[aE];omega) ?_
    refine ae.aN (by simp[aE];omega) ?_
    exact cw.mk (.refl _) ⟨s+b.toNat,wU.up (t:=b.toNat) hl h0,rfl⟩
   refine ae.rG (b:=256) (Br.dec (fun hge=>?_) (fun hge=>JE.mk (h3 s (by omega) (by omega) h0)))
   refine ae.qw (b:=8) (by simp only[aE];omega) ?_
   refine ae.aN (b:=8) (by simp[aE];omega) ?_
   rw[←Nat.shiftRight_add]
   have e:x>>>(s+8)=x>>>s/256:=by rw[Nat.shiftRight_add,Nat.shiftRight_eq_div_pow (x>>>s) 8]
   exact JE.mk (h3 (s+8) (by omega) (by omega) (.inr (by omega)))
  refine ae.rG (b:=65536) (Br.dec (fun hge=>?_) (fun hge=>JE.mk (h2 s (by omega) (by omega) h0)))
  refine ae.qw (b:=16) (by simp only[aE];omega) ?_
  refine ae.aN (b:=16) (by simp[aE];omega) ?_
  rw[←Nat.shiftRight_add]
  have e:x>>>(s+16)=x>>>s/65536:=by rw[Nat.shiftRight_add,Nat.shiftRight_eq_div_pow (x>>>s) 16]
  exact JE.mk (h2 (s+16) (by omega) (by omega) (.inr (by omega)))
 refine ae.rG (b:=4294967296) (Br.dec (fun hge=>?_) (fun hge=>JE.mk (h1 0 (by omega) (by simp;omega) (.inl rfl))))
 refine ae.qw (b:=32) (by simp only[aE];exact hx) ?_
 have e:x>>>32=x/4294967296:=by rw[Nat.shiftRight_eq_div_pow]
 exact JE.mk (h1 32 (by omega) (by omega) (.inr (by omega)))
end Go.Proofs
namespace Go.Sx
open Go
section
variable {P:Program} {H C:Hp} {c:Hp→Hp}
theorem cc.re(h:cc C H c)(X:Hp):cc X (c X) c:=by
 induction h with
 |here=>exact .here
 |left=>exact .left
 |cons _ ih=>exact .cons ih
 |app _ ih=>exact .app ih
def Dt(T:TypeId)(kd:IntKind)(v:Value)(l0:List Int)(C:Hp):Prop:=∃l:List Int,l.Perm l0∧aP T kd v l C
theorem swap_perm{l:List Int}{i j:Nat}{x y:Int}(hi:l[i]? =some x)(hj:l[j]? =some y):((l.set i y).set j x).Perm l:=by
 have h1:=(List.getElem?_eq_some_iff.1 hi).1
 have h2:=(List.getElem?_eq_some_iff.1 hj).1
 rw[List.perm_iff_count]
 intro a
 by_cases e:i=j
 ·subst e
  rw[hi]at hj;cases hj
  rw[List.set_set]
  have:l.set i x=l:=by
   have hx:l[i]=x:=by rw[List.getElem?_eq_getElem h1]at hi;exact Option.some.inj hi
   rw[←hx];exact List.set_getElem_self h1
  rw[this]
 ·have hx:l[i]=x:=by rw[List.getElem?_eq_getElem h1]at hi;exact Option.some.inj hi
  have hy:l[j]=y:=by rw[List.getElem?_eq_getElem h2]at hj;exact Option.some.inj hj
  rw[List.count_set (by simpa using h2),List.count_set h1]
  have:(l.set i y)[j]'(by simpa using h2)=y:=by rw[List.getElem_set_ne e];exact hy
  rw[this,hx]
  have c1:l.count x≥1:=List.one_le_count_iff.2 (hx▸List.getElem_mem h1)
  have c2:l.count y≥1:=List.one_le_count_iff.2 (hy▸List.getElem_mem h2)
  by_cases e1:x=a
  ·subst e1
   by_cases e2:y=x
   ·subst e2;simp<;>omega
   ·simp[e2,Ne.symm e2]<;>omega
  ·by_cases e2:y=a
   ·subst e2;simp[e1]<;>omega
   ·simp[e1,e2]<;>omega
theorem Dt.ld{T:TypeId}{kd xO:IntKind}{v:Value}{l0:List Int}(h:Dt T kd v l0 C)(hC:∀y∈C,y∈H){i:Nat}(hi:i<l0.length){K:Value→Prop}(hk:∀x,K (.int kd x)):ah 1 v (.int xO (i:Int)) fun p=>Ld H p K:=by
 obtain⟨l,hp,ho⟩:=h
 have:i<l.length:=by rw[hp.length_eq];exact hi
 exact ho.ld (List.getElem?_eq_getElem this) hC (hk _)
theorem Dt.swap{T:TypeId}{kd k1 k2 k3 k4:IntKind}{v:Value}{l0:List Int}(h:Dt T kd v l0 C)(hh:cc C H c){i j:Nat}(hi:i<l0.length)(hj:j<l0.length){K:Hp→Prop}(hk:∀C',Dt T kd v l0 C'→K (c C')):
  ah 1 v (.int k1 (j:Int)) fun p1=>Ld H p1 fun x=>ah 1 v (.int k2 (i:Int)) fun p2=>Ld H p2 fun y=>ah 1 v (.int k3 (i:Int)) fun p3=>St 1 H p3 x fun H1=>ah 1 v (.int k4 (j:Int)) fun p4=>St 1 H1 p4 y K:=by
 obtain⟨l,hp,ho⟩:=h
 have hl:=hp.length_eq
 have hi':l[i]? =some l[i]:=List.getElem?_eq_getElem (by omega)
 have hj':l[j]? =some l[j]:=List.getElem?_eq_getElem (by omega)
 refine ho.ld hj' hh.sub ?_
 refine ho.ld hi' hh.sub ?_
 refine ho.jh hh (by omega) fun C1 h1=>?_
 refine h1.jh (hh.re C1) (by simp;omega) fun C2 h2=>?_
 exact hk C2 ⟨_,(swap_perm hi' hj').trans hp,h2⟩
theorem Dt.VT{T:TypeId}{kd k1 k2 k3 k4:IntKind}{v:Value}{l0:List Int}(h:Dt T kd v l0 C)(hh:cc C H c){i j:Nat}(hi:i<l0.length)(hj:j<l0.length){B:(Value→Prop)→Prop}
 (hB:∀k:Value→Prop,k (.int k2 (i:Int))→B k){K:Hp→Prop}(hk:∀C',Dt T kd v l0 C'→K (c C')):
  ah 1 v (.int k1 (j:Int)) fun p1=>Ld H p1 fun x=>B fun u=>ah 1 v u fun p2=>Ld H p2 fun y=>ah 1 v (.int k3 (i:Int)) fun p3=>St 1 H p3 x fun H1=>ah 1 v (.int k4 (j:Int)) fun p4=>St 1 H1 p4 y K:=by
 obtain⟨l,hp,ho⟩:=h
 have hl:=hp.length_eq
 have hi':l[i]? =some l[i]:=List.getElem?_eq_getElem (by omega)
 have hj':l[j]? =some l[j]:=List.getElem?_eq_getElem (by omega)
 refine ho.ld hj' hh.sub (hB _ ?_)
 refine ho.ld hi' hh.sub ?_
 refine ho.jh hh (by omega) fun C1 h1=>?_
 refine h1.jh (hh.re C1) (by simp;omega) fun C2 h2=>?_
 exact hk C2 ⟨_,(swap_perm hi' hj').trans hp,h2⟩
theorem aP.dt{T:TypeId}{kd:IntKind}{v:Value}{l:List Int}(h:aP T kd v l C):Dt T kd v l C:=⟨l,.refl _,h⟩
def up1(vs:List Value):Nat:=match vs with
 | .int _ q::_=>(q+1).toNat
 |_=>0
theorem xm{k:IntKind}{q:Int}{r:List Value}:up1 (.int k q::r)=(q+1).toNat:=rfl
end
end Go.Sx
set_option maxRecDepth 100000
namespace Go.Proofs
open Go Go.Sx
abbrev DT(v:Value)(l0:List Int)(C:Hp):Prop:=Dt 77 .u32 v l0 C
def SQ(v:Value)(l0:List Int):Value→Hp→Prop:=fun r C'=>r=.tuple #[]∧DT v l0 C'
section
variable {v:Value} {l0:List Int} {C:Hp}
theorem Sw(x:Int)(B:Hp):Rd Tryz.prog 304 #[.int .u32 x] B (· =.bool false):=by
 intro g
 refine Cu (R:=aB _) ?_
 unfold L304
 refine ae.dh ?_
 exact cw.mk (.refl _) (by simp)
theorem eo(x y:Int)(B:Hp):Rd Tryz.prog 295 #[.int .u32 x,.int .u32 y] B (· =.bool (decide (x<y))):=by
 intro g
 refine CE (R:=aB _) ?_
 unfold L295
 intro J1 TV
 refine ag.rd .here (Sw x B) ?_
 rintro w rfl
 refine Split.V4 rfl ?_
 refine az.mk ?_
 refine ae.lss ?_
 refine az.mk ?_
 exact JE.mk (TV _ _ fun gs=>cw.mk (.refl _) rfl)
theorem zE(h:DT v l0 C){a b:Nat}(hab:a≤b)(hb:b≤l0.length)(ca:l0.length<1152921504606846976):Fc Tryz.prog 289 #[v,.int .i64 (a:Int),.int .i64 (b:Int)] C (SQ v l0):=by
 intro g
 refine CV (R:=aB _) ?_
 unfold L289
 refine ae.aN (b:=1) (by simp[aE];omega) ?_
 refine⟨fun vs H=>∃i:Nat,vs=[.int .i64 (i:Int)]∧a<i∧DT v l0 H,fun vs _=>l0.length-bK vs 0,JE.mk ⟨a+1,rfl,by omega,h⟩,?_⟩
 rintro w H ⟨i,hw,hi,hd⟩ gs
 simp only[List.cons.injEq,and_true]at hw
 subst hw
 refine ae.fu (Br.dec (fun hlt=>?_) (fun _=>aB.here ⟨rfl,hd⟩))
 refine⟨fun vs H=>∃j:Nat,vs=[.int .i64 (j:Int)]∧a≤j∧j≤i∧DT v l0 H,fun vs _=>bK vs 0,JE.mk ⟨i,rfl,by omega,Nat.le_refl _,hd⟩,?_⟩
 rintro w H ⟨j,hw,Rn,WQ,hd⟩ gs
 simp only[List.cons.injEq,and_true]at hw
 subst hw
 intro J hJ
 have no:J [.bool false] H:=hJ _ _ fun gs=>Br.no (ae.aN (b:=1) (by simp[aE];omega) (aC.mk ⟨i+1,rfl,by omega,hd⟩ (by simp[bK];omega)))
 have yes:a<j→J [.bool true] H:=fun Rn=>hJ _ _ fun gs=>Br.yes (DR.self (ae.bF (b:=1) (by simp[aE];omega) (by omega) (ae.bF (b:=1) (by simp[aE];omega) (by omega)
  (hd.swap .here (by omega) (by omega) fun C' c9=>ae.bF (b:=1) (by simp[aE];omega) (by omega) (aC.mk ⟨j-1,rfl,by omega,by omega,c9⟩ (by simp[bK];omega))))))
 refine DR.self (ae.lP (Br.dec (fun hgt=>?_) fun _=>JE.mk no))
 refine hd.ld (fun _ h=>h) (by omega) fun x=>?_
 refine ae.bF (b:=1) (by simp[aE];omega) (by omega) ?_
 refine hd.ld (fun _ h=>h) (by omega) fun y=>?_
 intro F
 refine ag.rd .here (eo x y _) ?_
 rintro w rfl
 refine az.mk ?_
 by_cases e:x<y
 ·rw[decide_eq_true e];exact JE.mk (yes hgt)
 ·rw[decide_eq_false e];exact JE.mk no
theorem Sj(h:DT v l0 C){a b:Nat}(hab:a<b)(hb:b≤l0.length)(ca:l0.length<1152921504606846976):Fc Tryz.prog 293 #[v,.int .i64 (a:Int),.int .i64 (b:Int)] C (SQ v l0):=by
 intro g
 refine CI (R:=aB _) ?_
 unfold L293
 refine ae.bF (b:=1) (by simp[aE];omega) (by omega) ?_
 refine⟨fun vs H=>∃i j:Nat,vs=[.int .i64 (i:Int),.int .i64 (j:Int)]∧j<l0.length∧DT v l0 H,fun vs _=>bK vs 1-bK vs 0,JE.mk ⟨a,b-1,rfl,by omega,h⟩,?_⟩
 rintro w w' H ⟨i,j,hw,hj,hd⟩ gs
 simp only[List.cons.injEq,and_true]at hw
 obtain⟨rfl,rfl⟩:=hw
 refine ae.fu (Br.dec (fun hlt=>?_) (fun _=>aB.here ⟨rfl,hd⟩))
 refine DR.self (hd.swap .here (by omega) (by omega) fun C' c9=>?_)
 refine ae.aN (b:=1) (by simp[aE];omega) ?_
 refine ae.bF (b:=1) (by simp[aE];omega) (by omega) ?_
 exact aC.mk ⟨i+1,j-1,rfl,by omega,c9⟩ (by simp[bK];omega)
theorem OW(h:DT v l0 C){a b:Nat}(hab:a<b)(hb:b≤l0.length)(ca:l0.length<1152921504606846976):Fc Tryz.prog 294 #[v,.int .i64 (a:Int),.int .i64 (b:Int)] C (fun r C'=>(∃t,r=.bool t)∧DT v l0 C'):=by
 intro g
 refine CG (R:=aB _) ?_
 unfold L294
 refine ae.aN (b:=1) (by simp[aE];omega) ?_
 refine⟨fun vs H=>∃i k:Nat,vs=[.int .i64 (i:Int),.int .i64 (k:Int)]∧a<i∧i≤b∧DT v l0 H,fun vs _=>5-bK vs 1,JE.mk ⟨a+1,0,rfl,by omega,by omega,h⟩,?_⟩
 rintro w w' H ⟨i,k,hw,N0,tC,hd⟩ gs
 simp only[List.cons.injEq,and_true]at hw
 obtain⟨rfl,rfl⟩:=hw
 refine ae.fu (b:=5) (Br.dec (fun hk=>?_) (fun _=>aB.here ⟨⟨_,rfl⟩,hd⟩))
 intro J9 Mv
 have next:∀(i':Nat) H',a<i'→i'≤b→DT v l0 H'→J9 [.int .i64 (i':Int)] H':=fun i' H' h1 h2 c9=>Mv _ _ fun gs=>ae.aN (b:=1) (by simp[aE];omega) (aC.mk ⟨i',k+1,rfl,h1,h2,c9⟩ (by simp[bK];omega))
 refine⟨fun vs H=>∃i:Nat,vs=[.int .i64 (i:Int)]∧a<i∧i≤b∧DT v l0 H,fun vs _=>b-bK vs 0,JE.mk ⟨i,rfl,N0,tC,hd⟩,?_⟩
 clear hd N0 tC
 rintro w H ⟨i,hw,N0,tC,hd⟩ gs
 simp only[List.cons.injEq,and_true]at hw
 subst hw
 intro VD XL
 have yes:i<b→VD [.bool true] H:=fun hlt=>XL _ _ fun gs=>Br.yes (ae.aN (b:=1) (by simp[aE];omega) (aC.mk ⟨i+1,rfl,by omega,by omega,hd⟩ (by simp[bK];omega)))
 have no:VD [.bool false] H:=by
  refine XL _ _ fun gs=>Br.no ?_
  refine ae.gn (Br.dec (fun he=>aB.here ⟨⟨_,rfl⟩,hd⟩) (fun hne=>?_))
  refine ae.bF (by simp[aE];omega) (by omega) ?_
  refine ae.fu (b:=50) (Br.dec (fun he=>aB.here ⟨⟨_,rfl⟩,hd⟩) (fun _=>?_))
  refine DR.self ?_
  refine ae.bF (b:=1) (by simp[aE];omega) (by omega) ?_
  refine ae.bF (b:=1) (by simp[aE];omega) (by omega) ?_
  refine hd.swap .here (by omega) (by omega) fun C1 Mh=>?_
  intro yI acF
  have tail:∀H',DT v l0 H'→yI [] H':=fun H' c9=>by
   refine acF _ fun gs=>?_
   refine ae.bF (by simp[aE];omega) (by omega) ?_
   refine ae.rG (b:=2) (Br.dec (fun h2=>?_) (fun _=>JE.mk (next i _ N0 tC c9)))
   refine ae.aN (b:=1) (by simp[aE];omega) ?_
   refine⟨fun vs H=>∃j:Nat,vs=[.int .i64 (j:Int)]∧0<j∧DT v l0 H,fun vs _=>b-bK vs 0,JE.mk ⟨i+1,rfl,by omega,c9⟩,?_⟩
   rintro w H ⟨j,hw,Tu,BT⟩ gs
   simp only[List.cons.injEq,and_true]at hw
   subst hw
   refine ae.fu (Br.dec (fun hlt=>?_) (fun _=>JE.mk (next i _ N0 tC BT)))
   refine DR.self ?_
   refine BT.ld (fun _ h=>h) (by omega) fun x=>?_
   refine ae.bF (b:=1) (by simp[aE];omega) (by omega) ?_
   refine BT.ld (fun _ h=>h) (by omega) fun y=>?_
   refine ag.rd .here (eo x y _) ?_
   rintro w rfl
   refine Un.not ?_
   refine Br.mk (fun _=>JE.mk (next i _ N0 tC BT)) (fun _=>?_)
   refine DR.self ?_
   refine ae.bF (b:=1) (by simp[aE];omega) (by omega) ?_
   refine ae.bF (b:=1) (by simp[aE];omega) (by omega) ?_
   refine BT.swap .here (by omega) (by omega) fun C2 wx=>?_
   refine ae.aN (b:=1) (by simp[aE];omega) ?_
   exact aC.mk ⟨j+1,rfl,by omega,wx⟩ (by simp[bK];omega)
  refine ae.bF (by simp[aE];omega) (by omega) ?_
  refine ae.rG (b:=2) (Br.dec (fun h2=>?_) (fun _=>JE.mk (tail _ Mh)))
  refine ae.bF (b:=1) (by simp[aE];omega) (by omega) ?_
  refine⟨fun vs H=>∃j:Nat,vs=[.int .i64 (j:Int)]∧j<l0.length∧DT v l0 H,fun vs _=>bK vs 0,JE.mk ⟨i-1,rfl,by omega,Mh⟩,?_⟩
  rintro w H ⟨j,hw,Tu,BT⟩ gs
  simp only[List.cons.injEq,and_true]at hw
  subst hw
  refine ae.rG (b:=1) (Br.dec (fun hlt=>?_) (fun _=>JE.mk (tail _ BT)))
  refine DR.self ?_
  refine BT.ld (fun _ h=>h) (by omega) fun x=>?_
  refine ae.bF (b:=1) (by simp[aE];omega) (by omega) ?_
  refine BT.ld (fun _ h=>h) (by omega) fun y=>?_
  refine ag.rd .here (eo x y _) ?_
  rintro w rfl
  refine Un.not ?_
  refine Br.mk (fun _=>JE.mk (tail _ BT)) (fun _=>?_)
  refine DR.self ?_
  refine ae.bF (b:=1) (by simp[aE];omega) (by omega) ?_
  refine ae.bF (b:=1) (by simp[aE];omega) (by omega) ?_
  refine BT.swap .here (by omega) (by omega) fun C2 wx=>?_
  refine ae.bF (b:=1) (by simp[aE];omega) (by omega) ?_
  exact aC.mk ⟨j-1,rfl,by omega,wx⟩ (by simp[bK];omega)
 refine DR.self (ae.fu (Br.dec (fun hlt=>?_) fun _=>JE.mk no))
 refine hd.ld (fun _ h=>h) (by omega) fun x=>?_
 refine ae.bF (b:=1) (by simp[aE];omega) (by omega) ?_
 refine hd.ld (fun _ h=>h) (by omega) fun y=>?_
 intro F
 refine ag.rd .here (eo x y _) ?_
 rintro w rfl
 refine Un.not ?_
 refine az.mk ?_
 by_cases e:x<y
 ·rw[decide_eq_true e];exact JE.mk no
 ·rw[decide_eq_false e];exact JE.mk (yes hlt)
theorem Hu(h:DT v l0 C){a b p:Nat}(hp:a≤p∧p<b)(hb:b≤l0.length)(ca:l0.length<1152921504606846976):Fc Tryz.prog 296 #[v,.int .i64 (a:Int),.int .i64 (b:Int),.int .i64 (p:Int)] C
  (fun r C'=>(∃m:Nat,r=.int .i64 (m:Int)∧a<m∧m≤b)∧DT v l0 C'):=by
 intro g
 refine CD (R:=aB _) ?_
 unfold L296
 refine DR.self (h.swap .here (by omega) (by omega) fun C1 hd=>?_)
 refine ae.aN (b:=1) (by simp[aE];omega) ?_
 refine ae.bF (b:=1) (by simp[aE];omega) (by omega) ?_
 refine⟨fun vs H=>∃i j:Nat,vs=[.int .i64 (i:Int),.int .i64 (j:Int)]∧a<i∧i≤b∧a≤j∧j<b∧DT v l0 H,fun vs _=>b-bK vs 0,JE.mk ⟨a+1,b-1,rfl,by omega,by omega,by omega,by omega,hd⟩,?_⟩
 clear hd
 rintro w w' H0 ⟨i0,j0,hw,N0,tC,Rn,Vg,hd⟩ gs
 simp only[List.cons.injEq,and_true]at hw
 obtain⟨rfl,rfl⟩:=hw
 refine⟨fun vs H=>∃i:Nat,vs=[.int .i64 (i:Int)]∧i0≤i∧i≤b∧DT v l0 H,fun vs _=>b-bK vs 0,JE.mk ⟨i0,rfl,Nat.le_refl _,tC,hd⟩,?_⟩
 clear hd tC
 rintro w H ⟨i,hw,HZ,tC,hd⟩ gs
 simp only[List.cons.injEq,and_true]at hw
 subst hw
 intro Oe XK
 have yes:i≤j0→Oe [.bool true] H:=fun hle=>XK _ _ fun gs=>Br.yes (ae.aN (b:=1) (by simp[aE];omega) (aC.mk ⟨i+1,rfl,by omega,by omega,hd⟩ (by simp[bK];omega)))
 have no:Oe [.bool false] H:=by
  refine XK _ _ fun gs=>Br.no ?_
  refine⟨fun vs H=>∃j:Nat,vs=[.int .i64 (j:Int)]∧a≤j∧j<b∧DT v l0 H,fun vs _=>bK vs 0,JE.mk ⟨j0,rfl,Rn,Vg,hd⟩,?_⟩
  rintro w H' ⟨j,hw,Xn,WS,c9⟩ gs
  simp only[List.cons.injEq,and_true]at hw
  subst hw
  intro JS PO
  have GM:i≤j→JS [.bool true] H':=fun hle=>PO _ _ fun gs=>Br.yes (ae.bF (b:=1) (by simp[aE];omega) (by omega) (aC.mk ⟨j-1,rfl,by omega,by omega,c9⟩ (by simp[bK];omega)))
  have QM:JS [.bool false] H':=by
   refine PO _ _ fun gs=>Br.no ?_
   refine ae.lP (Br.dec (fun _=>aB.here ⟨⟨i,rfl,by omega,tC⟩,c9⟩) (fun hle=>?_))
   refine DR.self (c9.swap .here (by omega) (by omega) fun C2 wx=>?_)
   refine ae.aN (b:=1) (by simp[aE];omega) ?_
   refine ae.bF (b:=1) (by simp[aE];omega) (by omega) ?_
   exact aC.mk ⟨i+1,j-1,rfl,by omega,by omega,by omega,by omega,wx⟩ (by simp[bK];omega)
  refine DR.self (ae.AU (Br.dec (fun hle=>?_) fun _=>JE.mk QM))
  refine c9.ld (fun _ h=>h) (by omega) fun x=>?_
  refine c9.ld (fun _ h=>h) (by omega) fun y=>?_
  intro F
  refine ag.rd .here (eo x y _) ?_
  rintro w rfl
  refine az.mk ?_
  by_cases e:x<y
  ·rw[decide_eq_true e];exact JE.mk (GM hle)
  ·rw[decide_eq_false e];exact JE.mk QM
 refine DR.self (ae.AU (Br.dec (fun hle=>?_) fun _=>JE.mk no))
 refine hd.ld (fun _ h=>h) (by omega) fun x=>?_
 refine hd.ld (fun _ h=>h) (by omega) fun y=>?_
 intro F
 refine ag.rd .here (eo x y _) ?_
 rintro w rfl
 refine Un.not ?_
 refine az.mk ?_
 by_cases e:x<y
 ·rw[decide_eq_true e];exact JE.mk no
 ·rw[decide_eq_false e];exact JE.mk (yes hle)
end
end Go.Proofs
set_option maxRecDepth 100000
namespace Go.Proofs
open Go Go.Sx
section
variable {v:Value} {l0:List Int} {C:Hp}
def PQ(v:Value)(l0:List Int)(a b:Nat):Value→Hp→Prop:=fun r C'=>(∃(m:Nat) (t:Bool),r=.tuple #[.int .i64 (m:Int),.bool t]∧a≤m∧m<b)∧DT v l0 C'
theorem OY(h:DT v l0 C){a b p:Nat}(hp:a≤p∧p<b)(hb:b≤l0.length)(ca:l0.length<1152921504606846976):Fc Tryz.prog 297 #[v,.int .i64 (a:Int),.int .i64 (b:Int),.int .i64 (p:Int)] C (PQ v l0 a b):=by
 intro g
 refine CC (R:=aB _) ?_
 unfold L297
 refine DR.self (h.swap .here (by omega) (by omega) fun C1 hd=>?_)
 refine ae.aN (b:=1) (by simp[aE];omega) ?_
 refine ae.bF (b:=1) (by simp[aE];omega) (by omega) ?_
 refine⟨fun vs H=>∃i:Nat,vs=[.int .i64 (i:Int)]∧a<i∧i≤b∧DT v l0 H,fun vs _=>b-bK vs 0,JE.mk ⟨a+1,rfl,by omega,by omega,hd⟩,?_⟩
 clear hd
 rintro w H ⟨i,hw,N0,tC,hd⟩ gs
 simp only[List.cons.injEq,and_true]at hw
 subst hw
 intro yo BV
 have yes:i<b→yo [.bool true] H:=fun hle=>BV _ _ fun gs=>Br.yes (ae.aN (b:=1) (by simp[aE];omega) (aC.mk ⟨i+1,rfl,by omega,by omega,hd⟩ (by simp[bK];omega)))
 have no:yo [.bool false] H:=by
  refine BV _ _ fun gs=>Br.no ?_
  refine⟨fun vs H=>∃j:Nat,vs=[.int .i64 (j:Int)]∧a≤j∧j<b∧DT v l0 H,fun vs _=>bK vs 0,JE.mk ⟨b-1,rfl,by omega,by omega,hd⟩,?_⟩
  clear hd
  rintro w H ⟨j,hw,Rn,Vg,hd⟩ gs
  simp only[List.cons.injEq,and_true]at hw
  subst hw
  intro A4 TU
  have GM:i≤j→A4 [.bool true] H:=fun hle=>TU _ _ fun gs=>Br.yes (ae.bF (b:=1) (by simp[aE];omega) (by omega) (aC.mk ⟨j-1,rfl,by omega,by omega,hd⟩ (by simp[bK];omega)))
  have QM:A4 [.bool false] H:=by
   refine TU _ _ fun gs=>Br.no ?_
   refine ae.lP (Br.dec (fun _=>?_) (fun hle=>?_))
   ·refine DR.self (hd.swap .here (by omega) (by omega) fun C2 wx=>?_)
    exact aB.here ⟨⟨j,true,rfl,Rn,Vg⟩,wx⟩
   ·refine DR.self (hd.swap .here (by omega) (by omega) fun C2 wx=>?_)
    refine ae.aN (b:=1) (by simp[aE];omega) ?_
    refine ae.bF (b:=1) (by simp[aE];omega) (by omega) ?_
    refine⟨fun vs H=>∃i j:Nat,vs=[.int .i64 (i:Int),.int .i64 (j:Int)]∧a<i∧i≤b∧a≤j∧j<b∧DT v l0 H,fun vs _=>b-bK vs 0,JE.mk ⟨i+1,j-1,rfl,by omega,by omega,by omega,by omega,wx⟩,?_⟩
    clear wx hd N0 tC Rn Vg hle GM TU A4 BV yo yes
    rintro w w' H0 ⟨i0,j0,hw,N0,tC,Rn,Vg,hd⟩ gs
    simp only[List.cons.injEq,and_true]at hw
    obtain⟨rfl,rfl⟩:=hw
    refine⟨fun vs H=>∃i:Nat,vs=[.int .i64 (i:Int)]∧i0≤i∧i≤b∧DT v l0 H,fun vs _=>b-bK vs 0,JE.mk ⟨i0,rfl,Nat.le_refl _,tC,hd⟩,?_⟩
    clear hd tC
    rintro w H ⟨i,hw,HZ,tC,hd⟩ gs
    simp only[List.cons.injEq,and_true]at hw
    subst hw
    intro VB XH
    have yes:i≤j0→VB [.bool true] H:=fun hle=>XH _ _ fun gs=>Br.yes (ae.aN (b:=1) (by simp[aE];omega) (aC.mk ⟨i+1,rfl,by omega,by omega,hd⟩ (by simp[bK];omega)))
    have no:VB [.bool false] H:=by
     refine XH _ _ fun gs=>Br.no ?_
     refine⟨fun vs H=>∃j:Nat,vs=[.int .i64 (j:Int)]∧a≤j∧j<b∧DT v l0 H,fun vs _=>bK vs 0,JE.mk ⟨j0,rfl,Rn,Vg,hd⟩,?_⟩
     rintro w H' ⟨j,hw,Xn,WS,c9⟩ gs
     simp only[List.cons.injEq,and_true]at hw
     subst hw
     intro GD XG
     have GM:i≤j→GD [.bool true] H':=fun hle=>XG _ _ fun gs=>Br.yes (ae.bF (b:=1) (by simp[aE];omega) (by omega) (aC.mk ⟨j-1,rfl,by omega,by omega,c9⟩ (by simp[bK];omega)))
     have QM:GD [.bool false] H':=by
      refine XG _ _ fun gs=>Br.no ?_
      refine ae.lP (Br.dec (fun _=>?_) (fun hle=>?_))
      ·refine DR.self (c9.swap .here (by omega) (by omega) fun C2 wx=>?_)
       exact aB.here ⟨⟨j,false,rfl,Xn,WS⟩,wx⟩
      ·refine DR.self (c9.swap .here (by omega) (by omega) fun C2 wx=>?_)
       refine ae.aN (b:=1) (by simp[aE];omega) ?_
       refine ae.bF (b:=1) (by simp[aE];omega) (by omega) ?_
       exact aC.mk ⟨i+1,j-1,rfl,by omega,by omega,by omega,by omega,wx⟩ (by simp[bK];omega)
     refine DR.self (ae.AU (Br.dec (fun hle=>?_) fun _=>JE.mk QM))
     refine c9.ld (fun _ h=>h) (by omega) fun x=>?_
     refine c9.ld (fun _ h=>h) (by omega) fun y=>?_
     intro F
     refine ag.rd .here (eo x y _) ?_
     rintro w rfl
     refine Un.not ?_
     refine az.mk ?_
     by_cases e:x<y
     ·rw[decide_eq_true e];exact JE.mk QM
     ·rw[decide_eq_false e];exact JE.mk (GM hle)
    refine DR.self (ae.AU (Br.dec (fun hle=>?_) fun _=>JE.mk no))
    refine hd.ld (fun _ h=>h) (by omega) fun x=>?_
    refine hd.ld (fun _ h=>h) (by omega) fun y=>?_
    intro F
    refine ag.rd .here (eo x y _) ?_
    rintro w rfl
    refine az.mk ?_
    by_cases e:x<y
    ·rw[decide_eq_true e];exact JE.mk (yes hle)
    ·rw[decide_eq_false e];exact JE.mk no
  refine DR.self (ae.AU (Br.dec (fun hle=>?_) fun _=>JE.mk QM))
  refine hd.ld (fun _ h=>h) (by omega) fun x=>?_
  refine hd.ld (fun _ h=>h) (by omega) fun y=>?_
  intro F
  refine ag.rd .here (eo x y _) ?_
  rintro w rfl
  refine Un.not ?_
  refine az.mk ?_
  by_cases e:x<y
  ·rw[decide_eq_true e];exact JE.mk QM
  ·rw[decide_eq_false e];exact JE.mk (GM hle)
 refine DR.self (ae.AU (Br.dec (fun hle=>?_) fun _=>JE.mk no))
 refine hd.ld (fun _ h=>h) (by omega) fun x=>?_
 refine hd.ld (fun _ h=>h) (by omega) fun y=>?_
 intro F
 refine ag.rd .here (eo x y _) ?_
 rintro w rfl
 refine az.mk ?_
 by_cases e:x<y
 ·rw[decide_eq_true e];exact JE.mk (yes (by omega))
 ·rw[decide_eq_false e];exact JE.mk no
theorem Fy(h:DT v l0 C){lo hi f:Nat}(hlo:lo≤l0.length)(hb:f+hi≤l0.length)(ca:l0.length<1152921504606846976):Fc Tryz.prog 299 #[v,.int .i64 (lo:Int),.int .i64 (hi:Int),.int .i64 (f:Int)] C (SQ v l0):=by
 intro g
 refine CB (R:=aB _) ?_
 unfold L299
 refine⟨fun vs H=>∃i:Nat,vs=[.int .i64 (i:Int)]∧i≤l0.length∧DT v l0 H,fun vs _=>l0.length-bK vs 0,JE.mk ⟨lo,rfl,hlo,h⟩,?_⟩
 rintro w H ⟨r,hw,hr,hd⟩ gs
 simp only[List.cons.injEq,and_true]at hw
 subst hw
 refine ae.rZ (a:=2) (by simp[aE];omega) ?_
 refine ae.aN (b:=1) (by simp[aE];omega) ?_
 refine ae.rG (Br.dec (fun _=>aB.here ⟨rfl,hd⟩) (fun hlt=>?_))
 intro J9 Mv
 have go:∀c:Nat,r<c→c<hi→J9 [.int .i64 (c:Int)] H:=fun c hrc ah5=>by
  refine Mv _ _ fun gs=>?_
  refine DR.self ?_
  refine ae.aN (by simp[aE];omega) ?_
  refine hd.ld (fun _ h=>h) (by omega) fun x=>?_
  refine ae.aN (by simp[aE];omega) ?_
  refine hd.ld (fun _ h=>h) (by omega) fun y=>?_
  refine ag.rd .here (eo x y _) ?_
  rintro w rfl
  refine Un.not ?_
  refine Br.mk (fun _=>aB.here ⟨rfl,hd⟩) (fun _=>?_)
  refine DR.self ?_
  refine ae.aN (by simp[aE];omega) ?_
  refine ae.aN (by simp[aE];omega) ?_
  refine ae.aN (by simp[aE];omega) ?_
  refine hd.VT .here (i:=f+r) (j:=f+c) (B:=fun k=>ae .num .add (.int .i64 (f:Int)) (.int .i64 (r:Int)) k) (by omega) (by omega) (fun k hk=>ae.aN (by simp[aE];omega) hk) fun C1 Mh=>?_
  exact aC.mk ⟨c,rfl,by omega,Mh⟩ (by simp[bK];omega)
 intro YB XI
 have stay:YB [.bool false] H:=XI _ _ fun gs=>Br.no (JE.mk (go _ (by omega) (by omega)))
 refine DR.self ?_
 refine ae.aN (b:=1) (by simp[aE];omega) ?_
 refine ae.fu (Br.dec (fun hc=>?_) fun _=>JE.mk stay)
 refine ae.aN (by simp[aE];omega) ?_
 refine hd.ld (fun _ h=>h) (by omega) fun x=>?_
 refine ae.aN (by simp[aE];omega) ?_
 refine ae.aN (b:=1) (by simp[aE];omega) ?_
 refine hd.ld (fun _ h=>h) (by omega) fun y=>?_
 intro F
 refine ag.rd .here (eo x y _) ?_
 rintro w rfl
 refine az.mk ?_
 by_cases e:x<y
 ·rw[decide_eq_true e]
  exact JE.mk (XI _ _ fun gs=>Br.yes (ae.aN (b:=1) (by simp[aE];omega) (JE.mk (go _ (by omega) hc))))
 ·rw[decide_eq_false e];exact JE.mk stay
theorem LR(h:DT v l0 C){a b:Nat}(hab:a<b)(hb:b≤l0.length)(ca:l0.length<1152921504606846976):Fc Tryz.prog 290 #[v,.int .i64 (a:Int),.int .i64 (b:Int)] C (SQ v l0):=by
 intro g
 refine CQ (R:=aB _) ?_
 unfold L290
 refine ae.bF (by simp[aE];omega) (by omega) ?_
 refine ae.bF (b:=1) (by simp[aE];omega) (by omega) ?_
 refine ae.B0 (b:=2) (by simp[aE];omega) (by omega) ?_
 refine⟨fun vs H=>∃q:Int,vs=[.int .i64 q]∧ -1≤q∧q<(b:Int) -a∧DT v l0 H,fun vs _=>up1 vs,JE.mk ⟨(((b-a-1) /2:Nat):Int),rfl,by omega,by omega,h⟩,?_⟩
 rintro w H ⟨q,hw,Td,hq2,hd⟩ gs
 simp only[List.cons.injEq,and_true]at hw
 subst hw
 refine ae.geq (Br.dec (fun h0=>?_) (fun _=>?_))
 ·obtain⟨i,rfl⟩:∃i:Nat,q=i:=⟨q.toNat,by omega⟩
  refine ag.fn .here (Fy hd (by omega) (by omega) ca) ?_
  rintro w C1 ⟨rfl,Mh⟩
  refine ae.nT (c:=(i:Int) -1) rfl (by omega) ?_
  exact aC.mk ⟨(i:Int) -1,rfl,by omega,by omega,Mh⟩ (by rw[xm,xm];omega)
 ·refine ae.bF (b:=1) (by simp[aE];omega) (by omega) ?_
  refine⟨fun vs H=>∃q:Int,vs=[.int .i64 q]∧ -1≤q∧q<(b:Int) -a∧DT v l0 H,fun vs _=>up1 vs,JE.mk ⟨((b-a-1:Nat):Int),rfl,by omega,by omega,hd⟩,?_⟩
  clear hd
  rintro w H ⟨q,hw,Td,hq2,hd⟩ gs
  simp only[List.cons.injEq,and_true]at hw
  subst hw
  refine ae.geq (Br.dec (fun h0=>?_) (fun _=>aB.here ⟨rfl,hd⟩))
  obtain⟨i,rfl⟩:∃i:Nat,q=i:=⟨q.toNat,by omega⟩
  refine DR.self ?_
  refine ae.aN (by simp[aE];omega) ?_
  refine ae.aN (by simp[aE];omega) ?_
  refine hd.swap .here (by omega) (by omega) fun C1 Mh=>?_
  refine ag.fn .here (Fy Mh (lo:=0) (by omega) (by omega) ca) ?_
  rintro w C2 ⟨rfl,wx⟩
  refine ae.nT (c:=(i:Int) -1) rfl (by omega) ?_
  exact aC.mk ⟨(i:Int) -1,rfl,by omega,by omega,wx⟩ (by rw[xm,xm];omega)
end
section
variable {v:Value} {l0:List Int} {C:Hp}
theorem ZD{a b:Nat}(ha:a<18446744073709551616)(hb:b<18446744073709551616):a^^^b<18446744073709551616:=Nat.xor_lt_two_pow (n:=64) ha hb
theorem JZ(b x:Nat)(hx:x<18446744073709551616):Fc Tryz.prog 301 #[ptr b] [(b,.cells #[.int .u64 (x:Int)] 373 (0,0))]
  (fun r H=>∃y:Nat,y<18446744073709551616∧r=.int .u64 (y:Int)∧H=[(b,.cells #[.int .u64 (y:Int)] 373 (0,0))]):=by
 intro g
 refine Cy (R:=aB _) ?_
 unfold L301
 refine DR.self ?_
 refine Nil.ptr (Ld.mk (by exact .head _) rfl ?_)
 refine Nil.ptr (Ld.mk (by exact .head _) rfl ?_)
 refine ae.Bp (b:=13) ?_
 refine ae.RM hx (Nat.mod_lt _ (by decide)) ?_
 have h1:=ZD hx (Nat.mod_lt (x<<<13) (show 0<18446744073709551616 by decide))
 generalize x^^^x<<<13%18446744073709551616=x1 at h1
 refine Nil.ptr (St.one (by exact .head _) rfl (by simp) rfl ?_)
 refine DR.self ?_
 refine Nil.ptr (Ld.mk (by exact .head _) rfl ?_)
 refine Nil.ptr (Ld.mk (by exact .head _) rfl ?_)
 refine ae.qw (b:=7) h1 ?_
 have h2:x1>>>7<18446744073709551616:=by rw[Nat.shiftRight_eq_div_pow];omega
 refine ae.RM h1 h2 ?_
 have h3:=ZD h1 h2
 generalize x1^^^x1>>>7=x2 at h3
 refine Nil.ptr (St.one (by exact .head _) rfl (by simp) rfl ?_)
 refine DR.self ?_
 refine Nil.ptr (Ld.mk (by exact .head _) rfl ?_)
 refine Nil.ptr (Ld.mk (by exact .head _) rfl ?_)
 refine ae.Bp (b:=17) ?_
 refine ae.RM h3 (Nat.mod_lt _ (by decide)) ?_
 have h4:=ZD h3 (Nat.mod_lt (x2<<<17) (show 0<18446744073709551616 by decide))
 generalize x2^^^x2<<<17%18446744073709551616=x3 at h4
 refine Nil.ptr (St.one (by exact .head _) rfl (by simp) rfl ?_)
 refine Nil.ptr (Ld.mk (by exact .head _) rfl ?_)
 exact aB.here ⟨x3,h4,rfl,rfl⟩
theorem Gl{x:Nat}(hx:x<18446744073709551616)(B:Hp):Rd Tryz.prog 286 #[.int .u64 (x:Int)] B (fun v=>∃r:Nat,wU x r∧v=.int .i64 (r:Int)):=by
 intro g
 refine CY (R:=aB _) ?_
 unfold L286
 refine Br.no ?_
 refine ag.rd .here (Lu hx B) ?_
 rintro w hw
 exact cw.mk (.refl _) hw
theorem O0{x:Nat}(h0:0<x)(hx:x<1152921504606846976)(B:Hp):Rd Tryz.prog 300 #[.int .i64 (x:Int)] B (fun v=>∃r:Nat,0<r∧r≤2*x∧v=.int .u64 (r:Int)):=by
 intro g
 refine Cz (R:=aB _) ?_
 unfold L300
 refine aY.nat (by simp[aE];omega) ?_
 refine ag.rd .here (Gl (by omega) B) ?_
 rintro w ⟨r,hr,rfl⟩
 have FX:0<r:=by
  rcases Nat.eq_zero_or_pos r with e|e
  ·subst e;have:=hr.1;omega
  ·exact e
 have h2:2^(r-1)≤x:=by
  rcases hr.2 with e|e
  ·omega
  ·exact e
 have h3:2^r=2*2^(r-1):=by
  obtain⟨k,rfl⟩:∃k,r=k+1:=⟨r-1,by omega⟩
  rw[Nat.add_sub_cancel,Nat.pow_succ];omega
 refine ae.Bp (a:=1) ?_
 have e:1<<<r%18446744073709551616=2^r:=by
  rw[Nat.shiftLeft_eq,Nat.one_mul]
  exact Nat.mod_eq_of_lt (by omega)
 rw[e]
 exact cw.mk (.refl _) ⟨2^r,Nat.two_pow_pos r,by omega,rfl⟩
theorem Uf(h:DT v l0 C){a b:Nat}(hab:a<b)(hb:b≤l0.length)(ca:l0.length<1152921504606846976):Fc Tryz.prog 291 #[v,.int .i64 (a:Int),.int .i64 (b:Int)] C (SQ v l0):=by
 intro g
 refine CK (R:=aB _) ?_
 unfold L291
 refine ae.bF (by simp[aE];omega) (by omega) ?_
 refine ae.rG (b:=8) (Br.dec (fun h8=>?_) (fun _=>aB.here ⟨rfl,h⟩))
 refine aY.nat (by simp[aE];omega) ?_
 intro b4 _
 refine St.one (by exact .head _) rfl (by simp) rfl ?_
 refine ag.rd (.cons .here) (O0 (by omega) (by omega) C) ?_
 rintro w ⟨m,hm0,hm,rfl⟩
 refine ae.B0 (b:=4) (by simp[aE];omega) (by omega) ?_
 refine ae.rZ (b:=2) (by simp[aE];omega) ?_
 refine ae.aN (by simp[aE];omega) ?_
 refine ae.bF (b:=1) (by simp[aE];omega) (by omega) ?_
 refine⟨fun vs H=>∃(i x:Nat) (C':Hp),vs=[.int .i64 (i:Int)]∧x<18446744073709551616∧H=(b4,.cells #[.int .u64 (x:Int)] 373 (0,0))::C'∧DT v l0 C',fun vs _=>b-bK vs 0,
  JE.mk ⟨_,b-a,C,rfl,by omega,rfl,h⟩,?_⟩
 rintro w H ⟨i,x,C',hw,hx,rfl,hd⟩ gs
 simp only[List.cons.injEq,and_true]at hw
 subst hw
 refine ae.B0 (b:=4) (by simp[aE];omega) (by omega) ?_
 refine ae.rZ (b:=2) (by simp[aE];omega) ?_
 refine ae.aN (by simp[aE];omega) ?_
 refine ae.aN (b:=1) (by simp[aE];omega) ?_
 refine ae.AU (Br.dec (fun hle=>?_) (fun _=>aB.mk .tail ⟨rfl,hd⟩))
 refine ag.fn (.left (A:=C')) (JZ b4 x hx) ?_
 rintro w H' ⟨y,hy,rfl,rfl⟩
 refine ae.bF (b:=1) (by simp[aE];omega) (by omega) ?_
 refine ae.p6 (by simp[aE];omega) (by simp[aE];omega) ?_
 have hand:y&&& (m-1)<m:=by have:=Nat.and_le_right (n:=y) (m:=m-1);omega
 generalize y&&& (m-1)=z at hand
 refine aY.nat (by simp[aE];omega) ?_
 intro YE acI
 have go:∀o:Nat,o<b-a→YE [.int .i64 (o:Int)] ([(b4,Obj.cells #[.int .u64 (y:Int)] 373 (0,0))]++C'):=fun o ho=>by
  refine acI _ _ fun gs=>?_
  refine DR.self ?_
  refine ae.aN (by simp[aE];omega) ?_
  refine ae.aN (by simp[aE];omega) ?_
  refine hd.swap (.cons .here) (by omega) (by omega) fun C1 Mh=>?_
  refine ae.aN (b:=1) (by simp[aE];omega) ?_
  exact aC.mk ⟨i+1,y,C1,rfl,hy,rfl,Mh⟩ (by simp[bK];omega)
 refine ae.rG (Br.dec (fun hge=>?_) (fun hlt=>JE.mk (go z (by omega))))
 refine ae.bF (by simp[aE];omega) (by omega) ?_
 exact JE.mk (go _ (by omega))
def OQ(b:Nat)(C:Hp)(i j:Nat):Value→Hp→Prop:=fun r H=>(r=.tuple #[.int .i64 (i:Int),.int .i64 (j:Int)]∨r=.tuple #[.int .i64 (j:Int),.int .i64 (i:Int)])∧∃z:Int,H=(b,.cells #[.int .i64 z] 3 (0,0))::C
theorem xF(h:DT v l0 C){b:Nat}{z:Int}{i j:Nat}(hi:i<l0.length)(hj:j<l0.length):
  Fc Tryz.prog 305 #[v,.int .i64 (i:Int),.int .i64 (j:Int),ptr b] ((b,.cells #[.int .i64 z] 3 (0,0))::C) (OQ b C i j):=by
 intro g
 refine Cr (R:=aB _) ?_
 unfold L305
 refine DR.self ?_
 refine h.ld (fun _ h=>.tail _ h) hj fun x=>?_
 refine h.ld (fun _ h=>.tail _ h) hi fun y=>?_
 refine ag.rd .here (eo x y _) ?_
 rintro w rfl
 refine Br.mk (fun _=>?_) (fun _=>aB.here ⟨.inl rfl,z,rfl⟩)
 refine Nil.ptr (Ld.mk (by exact .head _) rfl ?_)
 refine ae.add ?_
 refine Nil.ptr (St.one (by exact .head _) rfl (by simp) rfl ?_)
 exact aB.here ⟨.inr rfl,_,rfl⟩
def MQ(b:Nat)(C:Hp)(p:Nat→Prop):Value→Hp→Prop:=fun r H=>(∃m:Nat,r=.int .i64 (m:Int)∧p m)∧∃z:Int,H=(b,.cells #[.int .i64 z] 3 (0,0))::C
theorem Lp(h:DT v l0 C){b:Nat}{z:Int}{i j k:Nat}(hi:i<l0.length)(hj:j<l0.length)(hk:k<l0.length):
  Fc Tryz.prog 303 #[v,.int .i64 (i:Int),.int .i64 (j:Int),.int .i64 (k:Int),ptr b] ((b,.cells #[.int .i64 z] 3 (0,0))::C) (MQ b C fun m=>m=i∨m=j∨m=k):=by
 intro g
 refine Cv (R:=aB _) ?_
 unfold L303
 refine ag.fn .here (xF h hi hj) ?_
 rintro w H ⟨hw,z1,rfl⟩
 obtain⟨i1,j1,rfl,hij⟩:∃i1 j1:Nat,w=.tuple #[.int .i64 (i1:Int),.int .i64 (j1:Int)]∧((i1=i∧j1=j)∨(i1=j∧j1=i)):=by
  rcases hw with rfl|rfl
  ·exact⟨i,j,rfl,.inl ⟨rfl,rfl⟩⟩
  ·exact⟨j,i,rfl,.inr ⟨rfl,rfl⟩⟩
 refine Ext.mk rfl (Ext.mk rfl ?_)
 refine ag.fn .here (xF h (i:=j1) (j:=k) (by omega) hk) ?_
 rintro w H ⟨hw,z2,rfl⟩
 obtain⟨j2,k2,rfl,Pt⟩:∃j2 k2:Nat,w=.tuple #[.int .i64 (j2:Int),.int .i64 (k2:Int)]∧((j2=j1∧k2=k)∨(j2=k∧k2=j1)):=by
  rcases hw with rfl|rfl
  ·exact⟨_,_,rfl,.inl ⟨rfl,rfl⟩⟩
  ·exact⟨_,_,rfl,.inr ⟨rfl,rfl⟩⟩
 refine Ext.mk rfl (Ext.mk rfl ?_)
 refine ag.fn .here (xF h (i:=i1) (j:=j2) (by omega) (by omega)) ?_
 rintro w H ⟨hw,z3,rfl⟩
 rcases hw with rfl|rfl
 ·exact Ext.mk rfl (Ext.mk rfl (aB.here ⟨⟨_,rfl,by omega⟩,_,rfl⟩))
 ·exact Ext.mk rfl (Ext.mk rfl (aB.here ⟨⟨_,rfl,by omega⟩,_,rfl⟩))
theorem xI(h:DT v l0 C){b:Nat}{z:Int}{i:Nat}(h0:0<i)(hi:i+1<l0.length)(ca:l0.length<1152921504606846976):
  Fc Tryz.prog 302 #[v,.int .i64 (i:Int),ptr b] ((b,.cells #[.int .i64 z] 3 (0,0))::C) (MQ b C fun m=>i≤m+1∧m≤i+1):=by
 intro g
 refine Cw (R:=aB _) ?_
 unfold L302
 refine ae.bF (b:=1) (by simp[aE];omega) (by omega) ?_
 refine ae.aN (b:=1) (by simp[aE];omega) ?_
 refine ag.fn .here (Lp h (by omega) (by omega) hi) ?_
 rintro w H ⟨⟨m,rfl,hm⟩,z',rfl⟩
 exact aB.here ⟨⟨m,rfl,by omega⟩,z',rfl⟩
theorem Sm(h:DT v l0 C){a b:Nat}(hab:a<b)(hb:b≤l0.length)(ca:l0.length<1152921504606846976):
  Rd Tryz.prog 292 #[v,.int .i64 (a:Int),.int .i64 (b:Int)] C (fun r=>∃(p:Nat) (q:Int),r=.tuple #[.int .i64 (p:Int),.int .i64 q]∧a≤p∧p<b):=by
 intro g
 refine CJ (R:=aB _) ?_
 unfold L292
 refine ae.bF (by simp[aE];omega) (by omega) ?_
 intro b2 _
 refine ae.B0 (b:=4) (by simp[aE];omega) (by omega) ?_
 refine ae.rZ (b:=1) (by simp[aE];omega) ?_
 refine ae.aN (by simp[aE];omega) ?_
 refine ae.B0 (b:=4) (by simp[aE];omega) (by omega) ?_
 refine ae.rZ (b:=2) (by simp[aE];omega) ?_
 refine ae.aN (by simp[aE];omega) ?_
 refine ae.B0 (b:=4) (by simp[aE];omega) (by omega) ?_
 refine ae.rZ (b:=3) (by simp[aE];omega) ?_
 refine ae.aN (by simp[aE];omega) ?_
 intro AJ acL
 have fin:∀(p:Nat) (z:Int),a≤p→p<b→AJ [.int .i64 (p:Int)] ((b2,.cells #[.int .i64 z] 3 (0,0))::C):=fun p z zJ oI=>by
  refine acL _ _ fun gs=>?_
  refine Ld.mk (by exact .head _) rfl ?_
  refine ae.jR (Br.dec (fun _=>cw.mk .tail ⟨p,_,rfl,zJ,oI⟩) (fun _=>?_))
  exact ae.jR (Br.dec (fun _=>cw.mk .tail ⟨p,_,rfl,zJ,oI⟩) (fun _=>cw.mk .tail ⟨p,_,rfl,zJ,oI⟩))
 refine ae.rG (b:=8) (Br.dec (fun h8=>?_) (fun _=>JE.mk (fin _ _ (by omega) (by omega))))
 intro YG acK
 have three:∀(x y u:Nat) (z:Int),a≤x∧x<b→a≤y∧y<b→a≤u∧u<b→YG [.int .i64 (x:Int),.int .i64 (y:Int),.int .i64 (u:Int)] ((b2,.cells #[.int .i64 z] 3 (0,0))::C):=fun x y u z hx hy hu=>by
  refine acK _ _ _ _ fun gs=>?_
  refine ag.fn .here (Lp h (by omega) (by omega) (by omega)) ?_
  rintro w H ⟨⟨m,rfl,hm⟩,z',rfl⟩
  exact JE.mk (fin _ _ (by omega) (by omega))
 refine ae.rG (b:=50) (Br.dec (fun h50=>?_) (fun _=>JE.mk (three _ _ _ _ (by omega) (by omega) (by omega))))
 refine ag.fn .here (xI h (by omega) (by omega) ca) ?_
 rintro w H ⟨⟨m1,rfl,LZ⟩,z1,rfl⟩
 refine ag.fn .here (xI h (by omega) (by omega) ca) ?_
 rintro w H ⟨⟨m2,rfl,LY⟩,z2,rfl⟩
 refine ag.fn .here (xI h (by omega) (by omega) ca) ?_
 rintro w H ⟨⟨m3,rfl,hm3⟩,z3,rfl⟩
 exact JE.mk (three _ _ _ _ (by omega) (by omega) (by omega))
theorem Sn:∀(N:Nat) {C:Hp} (h:DT v l0 C) {a b:Nat} (hN:b-a≤N) (hab:a≤b) (hb:b≤l0.length) (ca:l0.length<1152921504606846976) (z:Int),Fc Tryz.prog 285 #[v,.int .i64 (a:Int),.int .i64 (b:Int),.int .i64 z] C (SQ v l0):=by
 intro N
 induction N with
 |zero=>
  intro C h a b hN hab hb ca z g
  refine uj (R:=aB _) ?_
  unfold L285
  refine⟨fun vs H=>vs=[.int .i64 (a:Int),.int .i64 (b:Int),.int .i64 z,.bool true,.bool true]∧H=C,fun _ _=>0,JE.mk ⟨rfl,rfl⟩,?_⟩
  rintro w1 w2 w3 w4 w5 H ⟨hw,rfl⟩ gs
  simp only[List.cons.injEq,and_true]at hw
  obtain⟨rfl,rfl,rfl,rfl,rfl⟩:=hw
  refine ae.bF (by simp[aE];omega) (by omega) ?_
  refine ae.AU (b:=12) (Br.eU (by omega) ?_)
  refine ag.fn .here (zE h hab hb ca) ?_
  rintro w C' ⟨rfl,hd⟩
  exact aB.here ⟨rfl,hd⟩
 |succ N ih=>
  intro C h a b hN hab hb ca z g
  refine uj (R:=aB _) ?_
  unfold L285
  refine⟨fun vs H=>∃(a b:Nat) (z:Int) (t1 t2:Bool),vs=[.int .i64 (a:Int),.int .i64 (b:Int),.int .i64 z,.bool t1,.bool t2]∧b-a≤N+1∧a≤b∧b≤l0.length∧DT v l0 H,fun vs _=>bK vs 1-bK vs 0,JE.mk ⟨a,b,z,true,true,rfl,hN,hab,hb,h⟩,?_⟩
  clear h hN hab hb
  rintro w1 w2 w3 w4 w5 H ⟨a,b,z,t1,t2,hw,hN,hab,hb,h⟩ gs
  simp only[List.cons.injEq,and_true]at hw
  obtain⟨rfl,rfl,rfl,rfl,rfl⟩:=hw
  refine ae.bF (by simp[aE];omega) (by omega) ?_
  refine ae.AU (b:=12) (Br.dec (fun h12=>?_) (fun h12=>?_))
  ·refine ag.fn .here (zE h hab hb ca) ?_
   rintro w C' ⟨rfl,hd⟩
   exact aB.here ⟨rfl,hd⟩
  refine ae.jR (Br.dec (fun _=>?_) (fun _=>?_))
  ·refine ag.fn .here (LR h (by omega) hb ca) ?_
   rintro w C' ⟨rfl,hd⟩
   exact aB.here ⟨rfl,hd⟩
  intro yo BV
  have k17:∀(z1:Int) H1,DT v l0 H1→yo [.int .i64 z1] H1:=fun z1 H1 h1=>by
   refine BV _ _ fun gs=>?_
   refine ag.rd .here (Sm h1 (a:=a) (b:=b) (by omega) hb ca) ?_
   rintro w ⟨p,q,rfl,zJ,oI⟩
   refine Ext.mk rfl (Ext.mk rfl ?_)
   intro YF acJ
   have k25:∀(p:Nat) (q:Int) H2,a≤p→p<b→DT v l0 H2→YF [.int .i64 (p:Int),.int .i64 q] H2:=fun p q H2 zJ oI h2=>by
    refine acJ _ _ _ fun gs=>?_
    intro YD acH
    have k30:∀H3,DT v l0 H3→YD [] H3:=fun H3 h3=>by
     refine acH _ fun gs=>?_
     intro JS PO
     have k33:∀(t:Bool),JS [.bool t] H3:=fun t=>by
      refine PO _ _ fun gs=>?_
      refine Br.mk (fun _=>?_) (fun _=>?_)
      ·refine ag.fn .here (Hu h3 ⟨zJ,oI⟩ hb ca) ?_
       rintro w C' ⟨⟨m,rfl,LZ,LY⟩,hd⟩
       exact aC.mk ⟨m,b,z1,t1,t2,rfl,by omega,by omega,hb,hd⟩ (by simp[bK];omega)
      ·refine ag.fn .here (OY h3 ⟨zJ,oI⟩ hb ca) ?_
       rintro w C' ⟨⟨m,t,rfl,LZ,LY⟩,hd⟩
       refine Ext.mk rfl (Ext.mk rfl ?_)
       refine ae.bF (by simp[aE];omega) (by omega) ?_
       refine ae.bF (by simp[aE];omega) (by omega) ?_
       refine ae.B0 (b:=8) (by simp[aE];omega) (by omega) ?_
       refine ae.fu (Br.dec (fun _=>?_) (fun _=>?_))
       ·refine ae.rG ?_
        refine ag.fn .here (ih hd (a:=a) (b:=m) (by omega) (by omega) (by omega) ca z1) ?_
        rintro w C' ⟨rfl,c9⟩
        refine ae.aN (b:=1) (by simp[aE];omega) ?_
        exact aC.mk ⟨m+1,b,z1,_,t,rfl,by omega,by omega,hb,c9⟩ (by simp[bK];omega)
       ·refine ae.rG ?_
        refine ae.aN (b:=1) (by simp[aE];omega) ?_
        refine ag.fn .here (ih hd (a:=m+1) (b:=b) (by omega) (by omega) (by omega) ca z1) ?_
        rintro w C' ⟨rfl,c9⟩
        exact aC.mk ⟨a,m,z1,_,t,rfl,by omega,by omega,by omega,c9⟩ (by simp[bK];omega)
     refine DR.self ?_
     refine ae.lP (b:=0) (Br.dec (fun h0=>?_) (fun _=>JE.mk (k33 false)))
     refine ae.bF (b:=1) (by simp[aE];omega) (by omega) ?_
     refine h3.ld (fun _ h=>h) (by omega) fun x=>?_
     refine h3.ld (fun _ h=>h) (by omega) fun y=>?_
     intro F
     refine ag.rd .here (eo x y _) ?_
     rintro w rfl
     exact Un.not (az.mk (JE.mk (k33 _)))
    refine bX.and t2 (fun _=>⟨rfl,rfl⟩) rfl fun gs=>?_
    refine bX.and (decide (q=1)) (fun _=>ae.jR ⟨rfl,rfl⟩) rfl fun gs=>?_
    refine Br.mk (fun _=>?_) (fun _=>JE.mk (k30 _ h2))
    refine ag.fn .here (OW h2 (by omega) hb ca) ?_
    rintro w C' ⟨⟨t,rfl⟩,hd⟩
    exact Br.mk (fun _=>aB.here ⟨rfl,hd⟩) (fun _=>JE.mk (k30 _ hd))
   refine ae.jR (Br.dec (fun _=>?_) (fun _=>JE.mk (k25 p q _ zJ oI h1)))
   refine ag.fn .here (Sj h1 (a:=a) (b:=b) (by omega) hb ca) ?_
   rintro w C' ⟨rfl,hd⟩
   refine ae.bF (b:=1) (by simp[aE];omega) (by omega) ?_
   refine ae.bF (by simp[aE];omega) (by omega) ?_
   refine ae.bF (by simp[aE];omega) (by omega) ?_
   exact JE.mk (k25 _ _ _ (by omega) (by omega) hd)
  refine Un.not ?_
  refine Br.mk (fun _=>?_) (fun _=>JE.mk (k17 _ _ h))
  refine ag.fn .here (Uf h (a:=a) (b:=b) (by omega) hb ca) ?_
  rintro w C' ⟨rfl,hd⟩
  exact ae.sub (JE.mk (k17 _ _ hd))
theorem OJ{l:List Int}(h:aP 77 .u32 v l C)(ca:l.length<1152921504606846976):Fc Tryz.prog 274 #[v] C (fun r C'=>r=.tuple #[]∧∃l',l'.Perm l∧aP 77 .u32 v l' C'):=by
 intro g
 refine Dc (R:=aB _) ?_
 unfold L274
 refine h.bQ ?_
 refine aY.nat (by simp[aE];omega) ?_
 refine ag.rd .here (Gl (by omega) C) ?_
 rintro w ⟨r,_,rfl⟩
 refine ag.fn .here (Sn l.length h.dt (a:=0) (b:=l.length) (by omega) (by omega) (Nat.le_refl _) ca _) ?_
 rintro w C' ⟨rfl,hd⟩
 exact aB.here ⟨rfl,hd⟩
end
end Go.Proofs
namespace Go.Sx
open Go
section
variable {P:Program} {g:Gh} {F:Fence} {n:Nat} {ops:Array Oper} {Q:Exit→Act→World→Prop} {rest:List Oper} {o:Oper} {a:Act} {fr:Fr} {w:World} {H:Hp}
abbrev AN(ds:List Deferred)(n:Nat)(a:Act)(fr:Fr):Prop:=cq ds n a fr
variable {ds:List Deferred}
theorem AN.put(h:AN ds n a fr){d:Option Nat}(hd:dR n d=true)(v:Value):AN ds n (a.put d v) (cg fr d v):=cq.put h hd v
theorem iO{v0:Value}(hF:∀f,F.fn f)(hg:o.guard=none)(ig:∀c,o.op≠.defer c)(hd:dR n o.dst=true)(ha:AN ds n a fr)(hw:Own g H w)(h:AS P g o (ev fr) H (· =v0))
 (k:∀a',AN ds n a' (cg fr o.dst v0)→wpListIn F 0 P ops Q rest a' w):wpListIn F 0 P ops Q (o::rest) a w:=by
 refine wpListIn_plain hg fun K hK=>⟨fun f _=>hF f,?_⟩
 rw[Oper.semAt_eq _ _ _ ig,ha.eval]
 obtain⟨v,hv,hr,_⟩:=nk h
 rw[hr w hw]
 subst hv
 exact hK _ _ (k _ (ha.put hd _))
theorem Fw{s:Sem Value}{K:Value→Hp→Prop}(hF:∀f,F.fn f)(hg:o.guard=none)(ig:∀c,o.op≠.defer c)(hd:dR n o.dst=true)(ha:AN ds n a fr)(he:execOp (ev fr) o=(do pure (.value (←s))))
 (h:∃v w' H',s.run P w=.ok v w'∧Own g H' w'∧K v H')
 (k:∀v H' w' a',K v H'→Own g H' w'→AN ds n a' (cg fr o.dst v)→wpListIn F 0 P ops Q rest a' w'):wpListIn F 0 P ops Q (o::rest) a w:=by
 refine wpListIn_plain hg fun K hK=>⟨fun f _=>hF f,?_⟩
 rw[Oper.semAt_eq _ _ _ ig,ha.eval,he]
 obtain⟨v,w',H',hr,ho,hk⟩:=h
 simp only[Sem.run_bind,hr,Result.andThen_ok,Sem.run_pure]
 exact hK _ _ (k v H' w' _ hk ho (ha.put hd _))
theorem KO{s:Sem Value}{K:Value→Hp→Prop}(hF:∀f,F.fn f)(hg:o.guard=none)(ig:∀c,o.op≠.defer c)(hd:dR n o.dst=true)(ha:AN ds n a fr)(hw:Own g H w)(he:execOp (ev fr) o=(do pure (.value (←s))))
 (h:NR P g o (ev fr) H K (fun _ _=>False))
 (k:∀v H' w' a',K v H'→Own g H' w'→AN ds n a' (cg fr o.dst v)→wpListIn F 0 P ops Q rest a' w'):wpListIn F 0 P ops Q (o::rest) a w:=by
 have h1:=tc (nC fr) h w hw
 rw[he]at h1
 refine Fw (g:=g) (K:=K) hF hg ig hd ha he ?_ k
 cases hs:s.run P w with
 |ok v w'=>
  simp only[Sem.run_bind,hs,Result.andThen_ok,Sem.run_pure,mV]at h1
  obtain⟨H',ho,hk⟩:=h1
  exact⟨v,w',H',rfl,ho,hk⟩
 |halt x w'=>
  simp only[Sem.run_bind,hs,Result.andThen]at h1
  cases x<;>simp only[mV]at h1
  obtain⟨_,_,hk⟩:=h1;exact hk.elim
theorem VV{s:Sem Unit}{K:Value→Hp→Prop}(hF:∀f,F.fn f)(hg:o.guard=none)(ig:∀c,o.op≠.defer c)(hd:dR n o.dst=true)(ha:AN ds n a fr)(hw:Own g H w)(he:execOp (ev fr) o=(do s;pure .skip))
 (h:NR P g o (ev fr) H K (fun _ _=>False))
 (k:∀H' w' a',K undef H'→Own g H' w'→AN ds n a' (cg fr o.dst undef)→wpListIn F 0 P ops Q rest a' w'):wpListIn F 0 P ops Q (o::rest) a w:=by
 have h1:=tc (nC fr) h w hw
 rw[he]at h1
 refine wpListIn_plain hg fun K hK=>⟨fun f _=>hF f,?_⟩
 rw[Oper.semAt_eq _ _ _ ig,ha.eval,he]
 cases hs:s.run P w with
 |ok v w'=>
  simp only[Sem.run_bind,hs,Result.andThen_ok,Sem.run_pure,mV]at h1⊢
  obtain⟨H',ho,hk⟩:=h1
  exact hK _ _ (k H' w' _ hk ho (ha.put hd _))
 |halt x w'=>
  simp only[Sem.run_bind,hs,Result.andThen]at h1
  cases x<;>simp only[mV]at h1
  obtain⟨_,_,hk⟩:=h1;exact hk.elim
theorem ue{m:Nat}{args:List Value}(hl:args.length≤m):AN [] m {tmps:=args.toArray++Array.replicate (m-args.toArray.size) undef,defers:=[]} (iU args 0):=by
 refine⟨rfl,by simp;omega,fun s=>?_⟩
 rw[kX,Array.getD_eq_getD_getElem?,Array.getElem?_append]
 simp only[List.size_toArray,Nat.not_lt_zero,if_false,Nat.sub_zero]
 by_cases hs:s<args.length
 ·simp[hs,List.getD]
 ·rw[if_neg hs,Array.getElem?_replicate]
  have:args.getD s undef=undef:=by simp[List.getD,List.getElem?_eq_none (Nat.le_of_not_lt hs)]
  rw[this]
  split<;>rfl
theorem Own.putObj{g:Gh}{H H':Hp}{w:World}{b:Nat}{o o':Obj}(h:Own g H w)(u:cM b o o' H H'):Own g H' (w.putObj b o'):=by
 have hb:=h.lt u.mem
 exact h.cg u rfl rfl rfl (World.putObj_heap_same hb) fun c hc=>World.putObj_heap_other hc
def GI{α:Type}(P:Program)(f:FuncId)(cap:Array Value)(B:Hp)(enc:α→Value)(N:Nat)(S:List α→Prop):Prop:=
 ∀(g:Gh) (l:Nat) (G:List α→Hp→Prop),
  (∀ss x A X W,G ss A→ss.length<N→Own g (A++X) W→YieldAt Fence.wide 0 P l #[enc x] W (fun e W'=>e=.returned (.bool true)∧∃A',G (ss++[x]) A'∧Own g (A'++X) W'))→
  ∀A W,G [] A→Own g (A++B) W→CallsIn Fence.wide 0 P f (#[.func (.yield l) #[] #[]]++cap) W (fun e W'=>(∃v,e=.returned v)∧∃ss A',S ss∧G ss A'∧Own g (A'++B) W')
open Classical in
noncomputable def pH(p:Nat→Prop):Nat:=if h:∃k,p k then Classical.choose (j5 h)else 0
theorem BE{p:Nat→Prop}{k:Nat}(h:p k):pH p≤k:=by
 unfold pH
 rw[dif_pos ⟨k,h⟩]
 exact(Classical.choose_spec (j5 ⟨k,h⟩)).2 k h
theorem xN{p:Nat→Prop}(h:∃k,p k):p (pH p):=by
 unfold pH
 rw[dif_pos h]
 exact(Classical.choose_spec (j5 h)).1
theorem A8{c:Code}(J:Nat→Act→World→Prop){k:Nat}(h0:J k a w)
 (round:∀k a w,J k a w→c.wpIn F 0 P (Exit.then (fun a' w'=>∃k',k'<k∧J k' a' w') Q) a w):(Code.loop c).wpIn F 0 P Q a w:=by
 refine wpIn_loop (fun a w=>∃k,J k a w) (fun a w=>pH fun k=>J k a w) ⟨k,h0⟩ fun a w h=>?_
 refine Code.wpIn_mono (fun e a' w' hq=>?_) (round _ a w (xN h))
 cases e with
 |normal=>
  obtain⟨k',hlt,hj⟩:=hq
  exact⟨⟨k',hj⟩,Nat.lt_of_le_of_lt (BE hj) hlt⟩
 |_=>exact hq
end
end Go.Sx
set_option maxRecDepth 100000
namespace Go.Proofs
open Go Go.Sx
open aF
section
variable {es:Array MapEntry} {ck b:Nat} {m:List (Nd×Nat)}
theorem GQ(B:Hp):Fc Tryz.prog 251 #[.map (some b)] B
  (fun v H=>∃bm,v=.func (.func 275) #[] #[ptr bm]∧H=(bm,.cells #[.map (some b)] 266 (0,0))::B):=by
 intro g
 refine Du (R:=aB _) ?_
 unfold L251
 intro b1 _
 exact aB.here ⟨b1,rfl,rfl⟩
noncomputable abbrev VF:Func:=Tryz.f275
def VAt(g:Gh)(bi b:Nat)(l:Nat)(es:Array MapEntry)(ck:Nat)(m:List (Nd×Nat))(G:List Nat→Hp→Prop)(B:Hp)(k:Nat)(a:Act)(w:World):Prop:=
 ∃(fr:Fr) (ss:List Nat) (A:Hp) (seen:Array Nat),AN [] 15 a fr∧fr 0=.func (.yield l) #[] #[]∧fr 6=ptr bi∧G ss A∧Own g (A++((bi,.mapIter (some b) ck seen ck)::B)) w∧
  (ss++(cJ es m seen).map Prod.snd).Perm (m.map Prod.snd)∧k=(cJ es m seen).length
theorem A9{bm:Nat}{fz:Nat×Nat}(h:aV nK Kg es ck m):GI Tryz.prog 275 #[ptr bm] [(bm,.cells #[.map (some b)] 266 fz),(b,.map es ck)] u32 m.length
  (fun ss=>ss.Perm (m.map Prod.snd)):=by
 intro g l G hY A W h0 hW
 have hF:∀f,Fence.wide.fn f:=fun _=>trivial
 refine callsIn_of_wp Tryz.func275 rfl trivial ?_
 have ha:=ue (m:=15) (args:=[.func (.yield l) #[] #[],ptr bm]) (by simp)
 refine wpIn_seq ?_
 refine wpIn_region_lit ?_
 obtain⟨B,hB⟩:∃B,B=[(bm,Obj.cells #[.map (some b)] 266 fz),(b,.map es ck)]:=⟨_,rfl⟩
 rw[←hB]at hW
 have LZ:(bm,Obj.cells #[.map (some b)] 266 fz)∈A++B:=by rw[hB];exact List.mem_append_right _ (.head _)
 have LY:(b,Obj.map es ck)∈A++B:=by rw[hB];exact List.mem_append_right _ (.tail _ (.head _))
 have hmB:∀{X:Hp},(b,Obj.map es ck)∈X++B:=by intro X;rw[hB];exact List.mem_append_right _ (.tail _ (.head _))
 rw[←hB]
 have e0:AS Tryz.prog g (fP VF 0 0) (ev (iU [.func (.yield l) #[] #[],ptr bm] 0)) (A++B) (fun x=>x=.map (some b))=Ld (A++B) (ptr bm) (fun x=>x=.map (some b)):=by kernel_rfl
 refine iO (g:=g) (n:=15) (v0:=.map (some b)) hF rfl (by intro c h;cases h) rfl ha hW (e0.mpr (Ld.mk LZ rfl rfl)) fun a1 BU=>?_
 refine Fw (g:=g) (n:=15) (s:=Instr.range 266 (.map (some b))) (K:=fun v H=>∃bi,v=ptr bi∧H=(bi,.mapIter (some b) ck #[] ck)::(A++B)) hF rfl (by intro c h;cases h) rfl BU rfl
  (Vu.run (.inr ⟨b,es,ck,rfl,LY,fun bi _=>⟨bi,rfl,rfl⟩⟩) hW (t:=266) (kt:=161) (e:=77) (by kernel_rfl)) fun v H' w1 a2 hv kF AZ=>?_
 obtain⟨bi,rfl,rfl⟩:=hv
 refine wpListIn_nil ?_
 have qI:Own g (A++((bi,.mapIter (some b) ck #[] ck)::B)) w1:=kF.perm (List.perm_middle).symm
 clear kF BU ha hW LZ LY
 refine wpIn_block ?_
 refine A8 (VAt g bi b l es ck m G B) (k:=(cJ es m #[]).length) ⟨_,[],A,#[],AZ,rfl,rfl,h0,qI,by rw[og h];exact .refl _,rfl⟩ ?_
 clear AZ qI h0 e0 A
 rintro k a w ⟨fr,ss,A,seen,ha,f0,f6,hG,hw,cG,hk⟩
 refine wpIn_seq ?_
 refine wpIn_region_lit ?_
 have e6:ev fr (.tmp 6)=ptr bi:=f6
 refine Fw (g:=g) (n:=15) (s:=Instr.next (ptr bi) false 0)
  (K:=fun v H=>(cJ es m seen=[]∧v=.tuple #[.bool false]∧H=A++((bi,.mapIter (some b) ck seen ck)::B))∨
   ∃(e:MapEntry) (x:Nd×Nat) (seen':Array Nat),v=.tuple #[.bool true,e.key,e.val]∧e.val=u32 x.2∧(cJ es m seen).Perm (x::cJ es m seen')∧seen'.back?=some e.born∧es.find? (·.born==e.born)=some e∧
    H=A++((bi,.mapIter (some b) ck seen' ck)::B)) hF rfl (by intro c h;cases h) rfl ha ?_
  (Uu.run (h.next (bi:=bi) (bm:=b) (seen:=seen) (H:=A++((bi,.mapIter (some b) ck seen ck)::B)) (List.mem_append_right _ (.tail _ (by rw[hB];exact .tail _ (.head _)))) (List.mem_append_right _ (.head _))
   (fun e x seen' he hk hv hp hb hf=>⟨_,(cM.head _).bW A,.inr ⟨e,x,seen',rfl,hv,hp,hb,hf,rfl⟩⟩) (fun hu=>.inl ⟨hu,rfl,rfl⟩)) hw) fun v H' w1 a1 hv kF BU=>?_
 ·rw[e6.symm];rfl
 rcases hv with⟨hu,rfl,rfl⟩|⟨e,x,seen',rfl,Vj,hp,Zd,hfi,rfl⟩
 ·refine iO (g:=g) (n:=15) (v0:=.bool false) hF rfl (by intro c h;cases h) rfl BU kF ⟨_,_,rfl,rfl,rfl⟩ fun a2 AZ=>?_
  refine wpListIn_nil ?_
  refine wpIn_seq ?_
  refine wpIn_cond_false (by rw[AZ.eval];rfl) ?_
  refine wpIn_exit ?_
  simp only[Exit.then,Exit.inBlock,if_true,bodyPost]
  refine⟨AZ.defers,_,results_none rfl _ _ _,⟨_,rfl⟩,ss,A,?_,hG,(kF.perm List.perm_middle).tail⟩
  rw[hu,List.map_nil,List.append_nil]at cG
  exact cG
 ·refine iO (g:=g) (n:=15) (v0:=.bool true) hF rfl (by intro c h;cases h) rfl BU kF ⟨_,_,rfl,rfl,rfl⟩ fun a2 AZ=>?_
  refine wpListIn_nil ?_
  refine wpIn_seq ?_
  refine wpIn_cond_true (by rw[AZ.eval];rfl) ?_
  refine wpIn_skip ?_
  refine wpIn_block ?_
  refine wpIn_seq ?_
  refine wpIn_region_lit ?_
  refine Fw (g:=g) (n:=15) (s:=Instr.entry (ptr bi)) (K:=fun v H=>v=.tuple #[e.key,e.val]∧H=A++((bi,.mapIter (some b) ck seen' ck)::B)) hF rfl (by intro c h;cases h) rfl AZ ?_ ?_ fun v H' w2 a3 hv qI Ig=>?_
  ·rw[e6.symm];rfl
  ·obtain⟨v,hr,hv⟩:=JA.run (P:=Tryz.prog) (k:=fun v=>v=.tuple #[e.key,e.val]) ⟨bi,b,ck,seen',e.born,ck,es,e,rfl,List.mem_append_right _ (.head _),Zd,List.mem_append_right _ (.tail _ (by rw[hB];exact .tail _ (.head _))),hfi,rfl⟩ kF
   exact⟨v,w1,_,hr,kF,hv,rfl⟩
  obtain⟨rfl,rfl⟩:=hv
  refine iO (g:=g) (n:=15) (v0:=u32 x.2) hF rfl (by intro c h;cases h) rfl Ig qI ⟨_,_,rfl,rfl,Vj⟩ fun a4 PF=>?_
  refine iO (g:=g) (n:=15) (v0:=u32 x.2) hF rfl (by intro c h;cases h) rfl PF qI (show u32 x.2=u32 x.2 from rfl) fun a5 PE=>?_
  refine wpListIn_nil ?_
  refine wpIn_seq ?_
  refine wpIn_region_lit ?_
  refine iO (g:=g) (n:=15) (v0:=.func (.yield l) #[] #[]) hF rfl (by intro c h;cases h) rfl PE qI f0 fun a6 PD=>?_
  refine iO (g:=g) (n:=15) (v0:=u32 x.2) hF rfl (by intro c h;cases h) rfl PD qI (show u32 x.2=u32 x.2 from rfl) fun a7 Vm=>?_
  have hlen:(cJ es m seen).length=(cJ es m seen').length+1:=by rw[hp.length_eq];rfl
  have hlt:ss.length<m.length:=by
   have:=cG.length_eq
   simp only[List.length_append,List.length_map]at this⊢
   omega
  obtain⟨fn,tmps,assign,body,hy,hR⟩:=hY _ x.2 A _ w2 hG hlt qI
  refine wpListIn_plain rfl fun K hK=>⟨fun _ _=>trivial,?_⟩
  rw[Oper.semAt_eq _ _ _ (by intro c h;cases h),Vm.eval]
  have hex:∀F7:Fr,F7=cg (cg (cg (cg (cg (cg (cg fr (some 7) (.tuple #[.bool true,e.key,e.val])) (some 8) (.bool true)) (some 9) (.tuple #[e.key,e.val])) (some 10) (u32 x.2)) (some 4) (u32 x.2)) (some 11) (.func (.yield l) #[] #[])) (some 12) (u32 x.2)→(execOp (ev F7) (fP VF 3 2)).run Tryz.prog w2=.ok (.round l fn tmps assign body) w2:=fun F7 hF7=>by
   have v11:ev F7 (.tmp 11)=.func (.yield l) #[] #[]:=by rw[hF7];rfl
   have bf:ev F7 (.tmp 12)=u32 x.2:=by rw[hF7];rfl
   have e11:execOp (ev F7) (fP VF 3 2)=(do let d ←resolve (ev F7) {callee:=.value (.tmp 11),args:=#[.tmp 12],argTypes:=#[77]} 4;invoke d.target d.args):=rfl
   rw[e11]
   simp[resolve,Deferred.ofValue,v11,bf,invoke,go_sem,hy]
  refine(congrArg (Oper.uponIn Fence.wide 0 Tryz.prog (fP VF 3 2) a7 K _) (hex _ rfl)).mpr ⟨fun h=>(by cases h),hR.mono ?_⟩
  rintro e' w3 ⟨rfl,A',TW,Pg⟩
  refine hK _ _ ?_
  have ha8:=Vm.put (d:=some 13) rfl (.bool true)
  refine iO (g:=g) (n:=15) (v0:=.bool false) hF rfl (by intro c h;cases h) rfl ha8 Pg ⟨_,rfl,rfl⟩ fun a9 ha9=>?_
  refine wpListIn_nil ?_
  refine wpIn_cond_false (by rw[ha9.eval];rfl) ?_
  refine wpIn_skip ?_
  refine⟨(cJ es m seen').length,by omega,_,ss++[x.2],A',seen',ha9,f0,f6,TW,Pg,?_,rfl⟩
  rw[List.append_assoc]
  exact((hp.map Prod.snd).append_left ss).symm.trans cG
end
end Go.Proofs
set_option maxRecDepth 100000
namespace Go.Proofs
open Go Go.Sx
open aF
section
noncomputable abbrev AF:Func:=Tryz.f284
variable {f:FuncId} {cap:Array Value} {B:Hp} {N:Nat} {S:List Nat→Prop}
noncomputable def cV:Code:=match AF.body with|some (.seq _ (.seq (.seq _ (.block _ (.rangeFunc _ _ c _))) _))=>c|_=>.skip
noncomputable def e8:Code:=match AF.body with|some (.seq _ (.seq (.seq _ (.block _ (.rangeFunc _ _ _ c))) _))=>c|_=>.skip
noncomputable def Ql(i:Nat):Oper:=match e8 with| .block _ (.region _ ops _)=>(match ops[i]? with|some o=>o|none=>default)|_=>default
def kA(fn:FuncId)(tmps:Array Value)(assign body:Code)(D:Nat):Loop:={state:=.ready,pending:=none,fn,tmps,params:=#[7],assign,body,defers:=D}
def APG(l D bs:Nat)(fn:FuncId)(tmps:Array Value)(assign body:Code)(ss:List Nat)(A:Hp):Prop:=
 ∃v C',A=(l,.loop (kA fn tmps assign body D))::(D,.deferred (some []))::(bs,.cells #[v] 27 (0,0))::C'∧aP 77 .u32 v (iw ss) C'
theorem Nk{g:Gh}{l D bs:Nat}{fn:FuncId}{tmps:Array Value}{fr:Fr}(hsz:tmps.size=13)(gB:∀s,tmps.getD s undef=fr s)(f2:fr 2=ptr bs){ss:List Nat}{x:Nat}{A X:Hp}{W:World}
 (hG:APG l D bs fn tmps cV e8 ss A)(hl:ss.length<1099511627776)(hW:Own g (A++X) W):
  YieldAt Fence.wide 0 Tryz.prog l #[u32 x] W (fun e W'=>e=.returned (.bool true)∧∃A',APG l D bs fn tmps cV e8 (ss++[x]) A'∧Own g (A'++X) W'):=by
 obtain⟨v,C',rfl,ho⟩:=hG
 have hF:∀f,(Fence.wide.inRound l).fn f:=fun _=>trivial
 have hL:W.heap[l]? =some (.loop (kA fn tmps cV e8 D)):=hW.has _ (.head _)
 refine⟨fn,_,cV,e8,run_yield hL rfl,roundIn_of_wpIn trivial ?_⟩
 have ha:AN [] 13 {tmps:=tmps.setIfInBounds 7 (u32 x),defers:=[]} (cg fr (some 7) (u32 x)):=(AN.put (a:={tmps:=tmps,defers:=[]}) (d:=some 7) ⟨rfl,hsz,gB⟩ rfl (u32 x))
 have ha:AN [] 13 {tmps:=(#[7].zip #[u32 x]).foldl (fun tmps (t,a)=>tmps.setIfInBounds t a) tmps,defers:=[]} (cg fr (some 7) (u32 x)):=by simpa using ha
 change Code.wpIn _ 0 Tryz.prog (.region _ #[_] false) _ _ _
 refine wpIn_region_lit ?_
 refine iO (g:=g) (n:=13) (v0:=u32 x) hF rfl (by intro c h;cases h) rfl ha hW rfl fun a1 BU=>?_
 refine wpListIn_nil ?_
 have hbr:=run_beginRound (P:=Tryz.prog) hL rfl
 refine⟨_,hbr,?_⟩
 have Ro:=hW.putObj (o':=.loop {kA fn tmps cV e8 D with state:=.busy}) (.head _)
 change Code.wpIn _ 0 Tryz.prog (.block _ (.region _ #[_,_,_,_,_] false)) _ _ _
 refine wpIn_block ?_
 refine wpIn_region_lit ?_
 obtain⟨H1,hH1⟩:∃H1,H1=(l,Obj.loop {kA fn tmps cV e8 D with state:=.busy})::(((D,.deferred (some []))::(bs,.cells #[v] 27 (0,0))::C')++X):=⟨_,rfl⟩
 replace Ro:Own g H1 (W.putObj l (.loop {kA fn tmps cV e8 D with state:=.busy})):=by rw[hH1];exact Ro
 have e0:AS Tryz.prog g (Ql 0) (ev (cg (cg fr (some 7) (u32 x)) (some 5) (u32 x))) H1 (fun z=>z=v)=Ld H1 (fr 2) (fun z=>z=v):=by kernel_rfl
 refine iO (g:=g) (n:=13) (v0:=v) hF rfl (by intro c h;cases h) rfl BU Ro (e0.mpr (by rw[f2];exact Ld.mk (by rw[hH1];exact .tail _ (.tail _ (.head _))) rfl rfl)) fun a2 AZ=>?_
 refine iO (g:=g) (n:=13) (v0:=u32 x) hF rfl (by intro c h;cases h) rfl AZ Ro rfl fun a3 Ig=>?_
 have eb:∀K:Value→Hp→Prop,au Tryz.prog 27 1 [(0,.int .u32 (x:Int))] H1 K=NR Tryz.prog g (Ql 2) (ev (cg (cg (cg (cg fr (some 7) (u32 x)) (some 5) (u32 x)) (some 8) v) (some 9) (u32 x))) H1 K (fun _ _=>False):=fun K=>by kernel_rfl
 refine KO (g:=g) (n:=13) (s:=_) (K:=fun v H=>∃b,v=.slice (some ⟨b,0,none⟩) 1 1∧H=(b,.cells (aA .u32 [(x:Int)]) 77 (0,0))::H1) hF rfl (by intro c h;cases h) rfl Ig Ro rfl
  ((eb _).mp (au.int (by kernel_rfl) (by kernel_rfl) (by kernel_rfl) fun b=>⟨b,rfl,rfl⟩)) fun v1 H2 w2 a4 hv Xr PF=>?_
 obtain⟨b,rfl,rfl⟩:=hv
 have hn:(iw ss).length=ss.length:=an ss
 obtain⟨H2,hH2⟩:∃H2,H2=(b,Obj.cells (aA .u32 [(x:Int)]) 77 (0,0))::H1:=⟨_,rfl⟩
 rw[←hH2]at Xr
 refine KO (g:=g) (n:=13) (s:=_) (K:=fun v' H=>∃C2,aP 77 .u32 v' (iw (ss++[x])) C2∧H=(b,Obj.cells (aA .u32 [(x:Int)]) 77 (0,0))::(l,Obj.loop {kA fn tmps cV e8 D with state:=.busy})::(D,.deferred (some []))::(bs,.cells #[v] 27 (0,0))::(C2++X))
  hF rfl (by intro c h;cases h) rfl PF Xr (by simp only[execOp,resolve,invoke,builtin];simp[bind,Sem.bind];rfl) ?_ fun v2 H3 w3 a5 hv PG PE=>?_
 ·have e1:∀K:Value→Hp→Prop,App Tryz.prog 77 1 4 (.int .u32 0) H2 v (.slice (some ⟨b,0,none⟩) 1 1) K=
   NR Tryz.prog g (Ql 3) (ev (cg (cg (cg (cg (cg fr (some 7) (u32 x)) (some 5) (u32 x)) (some 8) v) (some 9) (u32 x)) (some 10) (.slice (some ⟨b,0,none⟩) 1 1))) H2 K (fun _ _=>False):=fun K=>by kernel_rfl
  refine(e1 _).mp ?_
  rw[hH2,hH1]
  refine ho.mL (.cons (.cons (.cons (.cons .left)))) (by exact .head _) (by omega) (by omega) fun v' C2 o7=>⟨C2,?_,rfl⟩
  rw[bG];exact o7
 obtain⟨C2,o7,rfl⟩:=hv
 have es:∀(H:Hp) (K:Value→Hp→Prop),St 1 H (fr 2) v2 (fun H'=>K undef H')=NR Tryz.prog g (Ql 4) (ev (cg (cg (cg (cg (cg (cg fr (some 7) (u32 x)) (some 5) (u32 x)) (some 8) v) (some 9) (u32 x)) (some 10) (.slice (some ⟨b,0,none⟩) 1 1)) (some 11) v2)) H K (fun _ _=>False):=fun H K=>by kernel_rfl
 refine VV (g:=g) (n:=13) (s:=_) (K:=fun _ H=>H=(b,Obj.cells (aA .u32 [(x:Int)]) 77 (0,0))::(l,Obj.loop {kA fn tmps cV e8 D with state:=.busy})::(D,.deferred (some []))::(bs,.cells #[v2] 27 (0,0))::(C2++X))
  hF rfl (by intro c h;cases h) rfl PE PG rfl ((es _ _).mp ?_) fun H4 w4 a6 hv Ze PD=>?_
 ·rw[f2]
  exact St.one (.tail (.tail (.tail (.head _)))) o7.one (by simp) rfl rfl
 subst hv
 refine wpListIn_nil ?_
 simp only[Exit.inBlock,roundPost]
 refine⟨_,_,run_endRound none (Ze.has _ (.tail _ (.head _))),rfl,_,⟨v2,C2,rfl,o7⟩,?_⟩
 exact(Ze.putObj (.tail (.head _))).tail
theorem II(hg:GI Tryz.prog f cap B u32 N S)(hc:bA Tryz.prog f=true)(hN:N≤1099511627776):
  Fc Tryz.prog 284 #[.slice none 0 0,.func (.func f) #[] cap] B (fun v H=>∃ss C',S ss∧H=C'++B∧aP 77 .u32 v (iw ss) C'):=by
 intro g w hw
 rw[←callsIn_wide (n:=0)]
 have hF:∀f,Fence.wide.fn f:=fun _=>trivial
 refine callsIn_of_wp_marks Tryz.func284 rfl trivial ?_
 have ha:=ue (m:=13) (args:=[.slice none 0 0,.func (.func f) #[] cap]) (by simp)
 refine wpIn_seq ?_
 refine wpIn_region_lit ?_
 refine KO (g:=g) (n:=13) (s:=_) (K:=fun v H=>∃bs,v=ptr bs∧H=(bs,.cells #[.slice none 0 0] 27 (0,0))::B) hF rfl (by intro c h;cases h) rfl ha hw rfl (fun bs _=>⟨bs,rfl,rfl⟩) fun v H1 w1 a1 hv kF BU=>?_
 obtain⟨bs,rfl,rfl⟩:=hv
 refine iO (g:=g) (n:=13) (v0:=.slice none 0 0) hF rfl (by intro c h;cases h) rfl BU kF rfl fun a2 AZ=>?_
 refine wpListIn_nil ?_
 refine wpIn_seq ?_
 refine wpIn_seq ?_
 refine wpIn_region_lit ?_
 refine iO (g:=g) (n:=13) (v0:=.func (.func f) #[] cap) hF rfl (by intro c h;cases h) rfl AZ kF rfl fun a3 Ig=>?_
 refine wpListIn_nil ?_
 refine wpIn_block ?_
 refine wpIn_rangeFunc fun fn hfn=>?_
 have zK:=(kF.alloc (.deferred (some []))).alloc (.loop (kA fn a3.tmps cV e8 w1.heap.size))
 have f6:a3.tmps[6]?.getD undef=.func (.func f) #[] cap:=by have:=Ig.get 6;rw[Array.getD_eq_getD_getElem?]at this;exact this
 obtain⟨W1,Ro⟩:∃W1,W1=(w1.alloc (.deferred (some []))).alloc (.loop (kA fn a3.tmps cV e8 w1.heap.size)):=⟨_,rfl⟩
 rw[←Ro]at zK
 refine⟨w1.heap.size+1,[{target:=.collected w1.heap.size,args:=#[]}],W1,{target:=.fn (.func f) cap,args:=#[.func (.yield (w1.heap.size+1)) #[] #[]]},W1,f,#[.func (.yield (w1.heap.size+1)) #[] #[]]++cap,W1,?_,?_,fun _ _=>trivial,?_,fun h=>(by cases h),?_⟩
 ·rw[Ro];exact run_enterLoop_outer fn a3.tmps #[7] _ _
 ·simp[resolve,Deferred.ofValue,f6,go_sem]
 ·simp[invoke,go_sem]
  exact eV hc _ _
 have hsz:(w1.alloc (.deferred (some []))).heap.size=w1.heap.size+1:=by simp
 rw[hsz]at zK
 refine CallsIn.mono (hg g (w1.heap.size+1) (APG (w1.heap.size+1) w1.heap.size bs fn a3.tmps cV e8) (fun ss x A X W hG hl hW=>Nk Ig.size Ig.get rfl hG (by omega) hW) [_,_,_] W1 ⟨_,[],rfl,aP.nil⟩ zK) ?_
 rintro e W2 ⟨⟨v0,rfl⟩,ss,A',hS,⟨v,C',rfl,ho⟩,Xr⟩
 refine⟨none,_,run_endLoop (Xr.has _ (.head _)) (by simp[kA]),?_⟩
 have PG:=Xr.putObj (o':=.loop {kA fn a3.tmps cV e8 w1.heap.size with state:=.exhausted}) (.head _)
 simp only[Exit.then,Exit.inBlock]
 have PF:AN [{target:=.collected w1.heap.size,args:=#[]}] 13 {a3 with defers:=[{target:=.collected w1.heap.size,args:=#[]}]++a3.defers} (cg (cg (cg (iU [.slice none 0 0,.func (.func f) #[] cap] 0) (some 2) (ptr bs)) (some 4) (.slice none 0 0)) (some 6) (.func (.func f) #[] cap)):=
  ⟨by rw[Ig.defers];rfl,Ig.size,Ig.get⟩
 refine wpIn_seq ?_
 refine wpIn_region_lit ?_
 obtain⟨H3,hH3⟩:∃H3,H3=(w1.heap.size+1,Obj.loop {kA fn a3.tmps cV e8 w1.heap.size with state:=.exhausted})::(((w1.heap.size,.deferred (some []))::(bs,.cells #[v] 27 (0,0))::C')++B):=⟨_,rfl⟩
 replace PG:Own g H3 (W2.putObj (w1.heap.size+1) (.loop {kA fn a3.tmps cV e8 w1.heap.size with state:=.exhausted})):=by rw[hH3];exact PG
 have e0:AS Tryz.prog g (fP AF 4 0) (ev (cg (cg (cg (iU [.slice none 0 0,.func (.func f) #[] cap] 0) (some 2) (ptr bs)) (some 4) (.slice none 0 0)) (some 6) (.func (.func f) #[] cap))) H3 (fun z=>z=v)=Ld H3 (ptr bs) (fun z=>z=v):=by kernel_rfl
 refine iO (g:=g) (n:=13) (v0:=v) hF rfl (by intro c h;cases h) rfl PF PG (e0.mpr (Ld.mk (by rw[hH3];exact .tail _ (.tail _ (.head _))) rfl rfl)) fun a5 PE=>?_
 refine iO (g:=g) (n:=13) (v0:=v) hF rfl (by intro c h;cases h) rfl PE PG rfl fun a6 PD=>?_
 refine wpListIn_nil ?_
 refine wpIn_ret ?_
 simp only[Exit.then,bodyPostM]
 rw[PD.defers]
 rw[hH3]at PG
 refine⟨by simp,.inl ⟨w1.heap.size,_,rfl,run_takeDeferred (PG.has _ (.tail _ (.head _))),?_⟩⟩
 have Ze:=PG.putObj (o':=.deferred none) (.tail (.head _))
 refine⟨_,results_tmp rfl _ _ _,C'++B,Ze.tail.tail.tail,v,C'++B,?_,.refl _,ss,C',hS,rfl,ho⟩
 have:=PD.get 4
 rw[this]
 rfl
end
section
variable {f:FuncId} {cap:Array Value} {B:Hp} {N:Nat} {S:List Nat→Prop}
theorem B5(hg:GI Tryz.prog f cap B u32 N S)(hc:bA Tryz.prog f=true)(hN:N≤1099511627776):
  Fc Tryz.prog 273 #[.func (.func f) #[] cap] B (fun v H=>∃ss C',S ss∧H=C'++B∧aP 77 .u32 v (iw ss) C'):=by
 intro g
 refine Dd (R:=aB _) ?_
 unfold L273
 refine ag.fn .here (II hg hc hN) ?_
 rintro v H h
 exact aB.here h
theorem FG{l':List Int}{ss:List Nat}(h:l'.Perm (iw ss)):∃l:List Nat,l.Perm ss∧l'=iw l:=by
 refine⟨l'.map Int.toNat,?_,?_⟩
 ·have:=h.map Int.toNat
  rw[iw,List.map_map]at this
  have e:(Int.toNat∘(Nat.cast:Nat→Int))=id:=by funext x;simp
  rw[e,List.map_id]at this
  exact this
 ·unfold iw
  rw[List.map_map]
  have:∀x∈l',((Nat.cast:Nat→Int)∘Int.toNat) x=x:=fun x hx=>by
   obtain⟨n,_,rfl⟩:=List.mem_map.1 (h.mem_iff.1 hx)
   simp
  rw[List.map_congr_left this,List.map_id']
theorem G8(hg:GI Tryz.prog f cap B u32 N S)(hS:∀ss,S ss→ss.length≤N)(hc:bA Tryz.prog f=true)(hN:N≤1099511627776):
  Fc Tryz.prog 250 #[.func (.func f) #[] cap] B (fun v H=>∃ss l C',S ss∧l.Perm ss∧H=C'++B∧aP 77 .u32 v (iw l) C'):=by
 intro g
 refine Dv (R:=aB _) ?_
 unfold L250
 refine ag.fn .here (B5 hg hc hN) ?_
 rintro v H ⟨ss,C',hs,rfl,ho⟩
 have hlen:=hS ss hs
 refine ag.fn (.left (A:=B)) (OJ ho (by rw[an];omega)) ?_
 rintro w C2 ⟨rfl,l',hp,cz⟩
 obtain⟨l,hl,rfl⟩:=FG hp
 exact aB.here ⟨ss,l,C2,hs,hl,rfl,cz⟩
end
theorem OP{pt n v:Nat}{T:Nd→Option Nat}{C:Hp}(h:mQ pt n T C)(hv:v<n)(hinj:∀d d' r,T d=some r→T d'=some r→d=d')(hb:∀d r,T d=some r→r<1048576):
  Fc Tryz.prog 203 #[ptr pt,.int .i64 (v:Int)] C (fun r H=>∃w l N,r=.tuple #[w,.int .i64 0]∧H=N++C∧aP 77 .u32 w (iw l) N∧l.Nodup∧∀r,r∈l↔∃d,T d=some r∧d.v=v):=by
 have h0:=h
 obtain⟨vs,Cs,ms,rfl,hs,ho⟩:=h
 obtain⟨m,hm⟩:∃m,ms[v]? =some m:=⟨_,List.getElem?_eq_getElem (by rw[ho.len];exact hv)⟩
 have he:=ho.jK v m hm
 have hT:∀d:Nd,d.v=v→T d=ew m.l d:=fun d hd=>by rw[ho.T,hd,hm];rfl
 have hmem:∀d r,(d,r)∈m.l↔T d=some r∧d.v=v:=fun d r=>by
  constructor
  ·intro hx
   have hd:=ho.var v m hm _ hx
   exact⟨by rw[hT d hd];exact(eC he.nd).2 hx,hd⟩
  ·rintro⟨h1,h2⟩
   rw[hT d h2]at h1
   exact(eC he.nd).1 h1
 have ig:(m.l.map Prod.snd).Nodup:=by
  refine List.pairwise_map.2 ((List.pairwise_map.1 he.nd).imp_of_mem fun{a b} ha hb' hne e=>hne ?_)
  have h1:=((hmem a.1 a.2).1 ha).1
  have h2:=((hmem b.1 b.2).1 hb').1
  rw[←e]at h2
  exact hinj _ _ _ h1 h2
 have hlen:m.l.length≤1048576:=by
  have:=bP (l':=List.range 1048576) ig fun x hx=>by
   obtain⟨y,hy,rfl⟩:=List.mem_map.1 hx
   exact List.mem_range.2 (hb _ _ ((hmem y.1 y.2).1 hy).1)
  simpa using this
 intro g
 refine D6 (R:=aB _) ?_
 unfold L203
 refine ag.rd .here (jW h0 hv) ?_
 rintro w rfl
 refine ae.dh (Br.bt (by simp) ?_)
 refine Nil.ptr ?_
 refine aa.mk (Ld.mk zM rfl ?_)
 refine hs.HJ (x:=.map (some m.b)) (by rw[List.getElem?_map,hm];rfl) (fun _ h=>by exact .tail _ (List.mem_append_left _ h)) ?_
 refine ag.fn .here (GQ (b:=m.b) _) ?_
 rintro w H ⟨bm,rfl,rfl⟩
 obtain⟨X,Y,hXY⟩:=List.append_of_mem (pF hm)
 have cG:((bm,Obj.cells #[.map (some m.b)] 266 (0,0))::(pt,.cells #[vs] 265 (0,0))::(Cs++HD ms)).Perm
   ([(bm,.cells #[.map (some m.b)] 266 (0,0)),(m.b,.map m.es m.ck)]++((pt,.cells #[vs] 265 (0,0))::(Cs++(X++Y)))):=by
  rw[hXY]
  refine .cons _ ?_
  show((pt,_)::(Cs++(X++(m.b,_)::Y))).Perm ((m.b,_)::(pt,_)::(Cs++(X++Y)))
  refine .trans (.cons _ ?_) (.swap _ _ _)
  rw[←List.append_assoc,←List.append_assoc]
  exact List.perm_middle
 refine ag.pre (.perm cG) ?_
 refine ag.fn .left (G8 (A9 he) (fun ss hss=>by rw[hss.length_eq,List.length_map];exact Nat.le_refl _) (by kernel_rfl) (by omega)) ?_
 rintro w H ⟨ss,l,C',hss,hl,rfl,hown⟩
 have qh:l.Perm (m.l.map Prod.snd):=hl.trans hss
 refine aB.mk (lS:=C'++((pt,.cells #[vs] 265 (0,0))::(Cs++HD ms))) ?_ ⟨w,l,C',rfl,rfl,hown,qh.nodup_iff.2 ig,fun r=>?_⟩
 ·rw[List.append_assoc]
  refine aU.c8 ?_ C'
  exact(aU.perm cG.symm).trans .tail
 ·rw[qh.mem_iff,List.mem_map]
  constructor
  ·rintro⟨y,hy,rfl⟩;exact⟨y.1,(hmem y.1 y.2).1 hy⟩
  ·rintro⟨d,hd⟩;exact⟨(d,r),(hmem d r).2 hd,rfl⟩
end Go.Proofs
namespace Go.Sx
open Go
section
variable {P:Program} {g:Gh} {H:Hp} {κ β:Type} [DecidableEq κ] {ke:κ→Value} {vr:Value→β→Prop} {es:Array MapEntry} {ck b:Nat} {m:List (κ×β)} {K:Value→Hp→Prop} {KP:List PanicEntry→Hp→Prop}
omit [DecidableEq κ] in
theorem aV.sameKey(h:aV ke vr es ck m){i:Nat}{k:κ}{x:β}(hi:m[i]? =some (k,x)):es.modify i (fun e=>{e with key:=ke k})=es:=by
 apply Array.ext_getElem?
 intro j
 rw[Array.getElem?_modify]
 split
 ·rename_i e;subst e
  cases he:es[i]? with
  |none=>rfl
  |some e0=>rw[Option.map_some,←(h.key i e0 _ he hi).1]
 ·rfl
theorem aV.Qa{o:Oper}{ρ:Operand→Value}{t kt e:TypeId}{kd:TypeDesc}{mo ko:Operand}{z:Value}{k:κ}{y0:β}(hk:∀a b,AL P kt (ke a) (ke b) (decide (a=b)))(hc:∀a,lM P kt (ke a))(hb:∀a,Instr.sameBits 10000 (ke a) (ke a)=true)
 (ho:o.op=.mapEntry t mo ko)(hm':ρ mo=.map (some b))(hk':ρ ko=ke k)(ht:P.underlying t=some (.map kt e))(zP:P.underlying kt=some kd)(Xo:cF kd=true)(hzd:eW P e=some z)(hvz:vr z y0)
 (h:aV ke vr es ck m){c:Obj→Hp}(Mi:∀o o',cM b o o' (c o) (c o'))
 (h1:∀es' cO v st,aV ke vr es' cO (if k∈m.map Prod.fst then m else m++[(k,y0)])→(∃e∈es'.toList,e.born=st)→K (.tuple #[v,.int .i64 (st:Int)]) (c (.map es' cO))):mS P g o ρ (c (.map es ck)) K KP:=by
 have u7:(b,Obj.map es ck)∈c (.map es ck):=(Mi _ (.map es ck)).mem
 obtain⟨i,hi,vc⟩:=cI hzd
 refine mS.ofValue (s:=Instr.mapEntry t (.map (some b)) (ke k)) (by simp only[execOp,ho,hm',hk']) fun w hw=>?_
 have eS:=fun b=>hc k b w
 rcases h.Ah hk k with⟨j,x,e0,g1,g2,g3,g4⟩|⟨g1,g2⟩
 ·have pO:=fO (P:=P) zP Xo g4 w
  have hj:=(Array.getElem?_eq_some_iff.1 g1).1
  have hkey:es[j].key=ke k:=(h.key j _ _ (Array.getElem?_eq_getElem hj) g2).1
  have hmem:k∈m.map Prod.fst:=List.mem_map.2 ⟨_,List.mem_of_getElem? g2,rfl⟩
  obtain⟨w',hs,hown⟩:=bM (P:=P) hw (es.modify j fun e=>{e with key:=ke k}) ck (by rw[h.sameKey g2];exact Mi _ (.map es ck))
  refine⟨.tuple #[e0.val,.int .i64 (es[j].born:Int)],w',_,?_,hown,h1 es ck e0.val es[j].born (by rw[if_pos hmem];exact h) ⟨es[j],by simp,rfl⟩⟩
  simp[Instr.mapEntry,run_underlying ht,aW hw u7,eS,pO,hj,Instr.keyThatStays,hkey,hb k,hs,goInt]
 ·have pO:=fO (P:=P) zP Xo g2 w
  obtain⟨w',hs,hown⟩:=bM (P:=P) hw (es.push {key:=ke k,val:=z,born:=ck}) (ck+1) (Mi _ _)
  have LY:=h.more (k:=k) g1 hvz
  have e2:gY m k y0=m++[(k,y0)]:=by unfold gY;rw[if_neg g1]
  rw[e2]at LY
  refine⟨.tuple #[z,.int .i64 (ck:Int)],w',_,?_,hown,h1 _ _ z ck (by rw[if_neg g1];exact LY) ⟨_,by rw[Array.toList_push];exact List.mem_append_right _ (.head _),rfl⟩⟩
  simp[Instr.mapEntry,run_underlying ht,aW hw u7,eS,pO,dQ hi vc,hs,goInt]
omit [DecidableEq κ] in
theorem aV.OH{o:Oper}{ρ:Operand→Value}{t:TypeId}{mo so xo:Operand}{st:Nat}(ho:o.op=.entryStore t mo so xo)(hm':ρ mo=.map (some b))(hs':ρ so=.int .i64 (st:Int))
 (h:aV ke vr es ck m)(hst:∃e∈es.toList,e.born=st)(hv:∀x,vr (ρ xo) x){c:Obj→Hp}(Mi:∀o o',cM b o o' (c o) (c o'))
 (h1:∀es',aV ke vr es' ck m→K undef (c (.map es' ck))):mS P g o ρ (c (.map es ck)) K KP:=by
 have u7:(b,Obj.map es ck)∈c (.map es ck):=(Mi _ (.map es ck)).mem
 refine mS.qz (s:=Instr.entryStore t (.map (some b)) (.int .i64 (st:Int)) (ρ xo)) (by simp only[execOp,ho,hm',hs']) fun w hw=>?_
 obtain⟨i,hi⟩:∃i,es.findIdx? (fun e=>(e.born:Int)==(st:Int))=some i:=by
  obtain⟨e,he,rfl⟩:=hst
  rw[←Option.isSome_iff_exists,Array.findIdx?_isSome]
  rw[Array.any_eq_true']
  exact⟨e,by simpa using he,by simp⟩
 obtain⟨w',hs,hown⟩:=bM (P:=P) hw (es.modify i fun e=>{e with val:=ρ xo}) ck (Mi _ _)
 have hbn:((es.modify i fun e=>{e with val:=ρ xo}).toList.map MapEntry.born)=es.toList.map MapEntry.born:=by
  apply List.ext_getElem?;intro j
  simp only[List.getElem?_map,Array.getElem?_toList,Array.getElem?_modify]
  split
  ·cases es[j]? <;>rfl
  ·rfl
 refine⟨w',_,?_,hown,h1 _ ⟨by simp[h.len],fun j e x he hx=>?_,h.nd,by rw[hbn];exact h.born,fun e he=>?_⟩⟩
 ·simp only[Instr.entryStore,Sem.run_bind,aW hw u7,Result.andThen_ok,asInt,asIntOf,Sem.run_pure]
  simp only[hi,hs]
 ·rw[Array.getElem?_modify]at he
  split at he
  ·cases h0:es[j]? with
   |none=>rw[h0]at he;simp at he
   |some e0=>
    rw[h0]at he
    simp only[Option.map_some,Option.some.injEq]at he
    subst he
    exact⟨(h.key j _ _ h0 hx).1,hv _⟩
  ·exact h.key j _ _ he hx
 ·have:e.born∈(es.modify i fun e=>{e with val:=ρ xo}).toList.map MapEntry.born:=List.mem_map_of_mem he
  rw[hbn]at this
  obtain⟨e0,h1,h2⟩:=List.mem_map.1 this
  rw[←h2];exact h.lt e0 h1
end
theorem cc.out{C H:Hp}{c:Hp→Hp}(h:cc C H c)(N:Hp):aU (c (N++C)) (N++H):=by
 obtain⟨e,F,hp⟩:=h.spec
 refine .perm ((hp (N++C)).trans ?_)
 rw[List.append_assoc]
 refine List.Perm.append_left N ?_
 have:=hp C
 rw[←e]at this
 exact this.symm
end Go.Sx
set_option maxRecDepth 100000
namespace Go.Proofs
open Go Go.Sx
open aF
section
variable {kp:Nat} {K:Kd} {ord aj tr:List Nat} {C:Hp} {S:Nat→aF.Fn}
def yx(N:eB)(r:Nat):Int:=match N r with|some d=>(d.v:Int)|none=> -1
theorem z6{N:eB}{r:Nat}(hl:live N r)(h2:∀d,N r=some d→2≤r):∃lo hi,got N r=[.int .i64 (yx N r),u32 lo,u32 hi]∧∀e,N r=some e→lo=e.lo∧hi=e.hi:=by
 cases h:N r with
 |some d=>
  refine⟨d.lo,d.hi,?_,fun e he=>by cases he;exact⟨rfl,rfl⟩⟩
  rw[dD h (h2 d h)];simp[aZ,yx,h]
 |none=>
  have hr:r<2:=by
   rcases hl with hl|⟨d,hd⟩
   ·exact hl
   ·rw[h]at hd;cases hd
  refine⟨r,r,?_,fun e he=>by cases he⟩
  rw[dV hr];simp[yx,h]
theorem zh(h:cD kp K ord aj tr C){r:Nat}(hr:r<4294967296)(hl:live K.N r)(h2:∀d,K.N r=some d→2≤r)(y:Nat):
  Rd Tryz.prog 204 #[ptr kp,u32 r,.int .i64 (y:Int)] C (· =.tuple #[u32 (pl K.N y r),u32 (ph K.N y r)]):=by
 have h0:=h
 obtain⟨b,rfl,hO⟩:=h
 obtain⟨lo,hi,hg,he⟩:=z6 hl h2
 intro g
 refine D5 (R:=aB _) ?_
 unfold L204
 refine Nil.ptr (aa.mk ?_)
 refine ag.rd .here (mu h0 hr) ?_
 rintro v rfl
 intro b5 _
 refine St.whole (r:=got K.N r) (by exact .head _) rfl (aL _ _).1 (aL _ _).2 ?_
 rw[hg]
 refine aa.mk (Ld.mk (by exact .head _) rfl ?_)
 refine ae.jR (Br.dec (fun e=>?_) (fun e=>?_))
 ·refine aa.mk (Ld.mk (by exact .head _) rfl ?_)
  refine aa.mk (Ld.mk (by exact .head _) rfl ?_)
  cases hN:K.N r with
  |none=>simp[yx,hN]at e<;>omega
  |some d=>
   obtain⟨rfl,rfl⟩:=he d hN
   have hv:d.v=y:=by simp[yx,hN]at e;omega
   obtain⟨e1,e2⟩:=OT hN hv
   exact cw.mk .tail (by rw[e1,e2];rfl)
 ·obtain⟨e1,e2⟩:=OU (N:=K.N) (y:=y) (r:=r) fun d hd=>by simp[yx,hd]at e<;>omega
  exact cw.mk .tail (by rw[e1,e2])
def g8(c:Cx):List Value:=[u32 c.r,.int .i64 (c.d.v:Int),u32 c.d.lo,u32 c.d.hi,u32 c.vq,u32 c.vp,u32 c.sb,u32 c.r9]
theorem kx(c:Cx):∀x∈g8 c,x.oneCell'=true:=by intro x hx;simp[g8,u32]at hx;rcases hx with rfl|rfl|rfl|rfl|rfl|rfl|rfl|rfl<;>rfl
structure vB(N:eB)(x y:Nat)(l:List Nat)(all:List Cx):Prop where
 nd:(all.map Cx.r).Nodup
 mem:∀c,c∈all↔c.r∈l∧k7 N x y c.r c.d∧c=mH N y c.r c.d
theorem vB.skip{N:eB}{x y r:Nat}{l:List Nat}{all:List Cx}{d:Nd}(h:vB N x y l all)(hd:N r=some d)(hn:¬k7 N x y r d):vB N x y (l++[r]) all where
 nd:=h.nd
 mem:=fun c=>by
  rw[h.mem,List.mem_append]
  constructor
  ·rintro⟨h1,h2⟩;exact⟨.inl h1,h2⟩
  ·rintro⟨h1|h1,h2,h3⟩
   ·exact⟨h1,h2,h3⟩
   ·simp at h1
    have:=h2.1
    rw[h1,hd]at this;cases this
    rw[h1]at h2;exact absurd h2 hn
theorem vB.more{N:eB}{x y r:Nat}{l:List Nat}{all:List Cx}{d:Nd}(h:vB N x y l all)(hr:r∉l)(hn:k7 N x y r d):vB N x y (l++[r]) (all++[mH N y r d]) where
 nd:=by
  rw[List.map_append]
  refine List.nodup_append.2 ⟨h.nd,by simp,fun a ha b hb e=>?_⟩
  simp[mH]at hb
  subst e
  obtain⟨c,hc,rfl⟩:=List.mem_map.1 ha
  exact hr (hb▸((h.mem c).1 hc).1)
 mem:=fun c=>by
  rw[List.mem_append,h.mem,List.mem_append,List.mem_singleton,List.mem_singleton]
  constructor
  ·rintro(⟨h1,h2⟩|rfl)
   ·exact⟨.inl h1,h2⟩
   ·exact⟨.inr rfl,hn,rfl⟩
  ·rintro⟨h1|h1,h2,h3⟩
   ·exact .inl ⟨h1,h2,h3⟩
   ·right
    have h4:=h2.1
    rw[h1,hn.1]at h4;cases h4
    exact h3.trans (by rw[h1])
theorem vB.all{N:eB}{x y:Nat}{l:List Nat}{all:List Cx}(h:vB N x y l all)(hl:∀r d,N r=some d→d.v=x→r∈l):GK N x y all where
 nd:=h.nd
 mem:=fun c=>by
  rw[h.mem]
  exact⟨fun h=>h.2,fun h=>⟨hl _ _ h.1.1 h.1.2.1,h⟩⟩
theorem xG(h:cD kp K ord aj tr C){r:Nat}(hl:live K.N r)(h2:∀d,K.N r=some d→2≤r){H:Hp}{c:Hp→Hp}(hh:cc C H c){g:Gh}{Q:Value→Hp→Prop}{KP:List PanicEntry→Hp→Prop}
 (hk:∀lo hi,got K.N r=[.int .i64 (yx K.N r),u32 lo,u32 hi]→(∀e,K.N r=some e→lo=e.lo∧hi=e.hi)→Q (.agg #[.int .i64 (yx K.N r),u32 lo,u32 hi]) H):ag Tryz.prog g 174 #[ptr kp,u32 r] H Q KP:=by
 have hr:=h.lt hl
 obtain⟨lo,hi,hg,he⟩:=z6 hl h2
 refine ag.rd hh (mu h (by omega)) ?_
 rintro v rfl
 have:=hk lo hi hg he
 rw[hg]
 exact this
theorem ya(h:cD kp K ord aj tr C)(hok:Ok K S (lv aj)){x y:Nat}(hx:x<K.n):
  Fc Tryz.prog 134 #[ptr kp,.int .i64 (x:Int),.int .i64 (y:Int)] C (fun r H=>∃all Na,H=Na++C∧aS 203 8 r (all.map g8) Na∧GK K.N x y all∧all.length≤1048576):=by
 have hcap:=h.cap
 have h0:=h
 obtain⟨b,hC,hO⟩:=h
 have Pj:∀d r,K.T d=some r↔K.N r=some d:=fun d r=>by rw[hok.mid.jF];exact⟨fun h=>h.1,fun h=>⟨h,fun x=>x⟩⟩
 have two:∀{r d},K.N r=some d→2≤r:=fun hd=>(hok.mid.two hd).1
 intro g
 refine EL (R:=aB _) ?_
 unfold L134
 rw[hC]
 refine Nil.ptr (aa.mk (aa.mk ?_))
 refine Ld.mk (v:=ptr b.pt) (by exact .head _) rfl ?_
 refine ag.fn (.cons (.app .left)) (OP hO.ut hx (fun d d' r h1 h2=>by rw[Pj]at h1 h2;rw[h1]at h2;cases h2;rfl) (fun d r h1=>by have:=(hok.mid.two ((Pj d r).1 h1)).2;omega)) ?_
 rintro w H ⟨sl,l,Nr,rfl,rfl,JH,ig,hmem⟩
 refine Ext.mk rfl (Ext.mk rfl ?_)
 refine JH.bQ ?_
 rw[an]
 have hl:∀r∈l,∃d,K.N r=some d∧d.v=x:=fun r hr=>by obtain⟨d,h1,h2⟩:=(hmem r).1 hr;exact⟨d,(Pj d r).1 h1,h2⟩
 have hlen:l.length≤1048576:=by
  have:=bP (l':=List.range 1048576) ig fun r hr=>by
   obtain⟨d,hd,_⟩:=hl r hr
   have:=(hok.mid.two hd).2
   exact List.mem_range.2 (by omega)
  simpa using this
 refine⟨fun vs H=>∃(v:Value) (i:Nat) (all:List Cx) (Na:Hp),vs=[v,.int .i64 (i:Int)]∧H=Na++(Nr++C)∧i≤l.length∧aS 203 8 v (all.map g8) Na∧vB K.N x y (l.take i) all∧all.length≤i,
  fun vs _=>l.length-bK vs 1,JE.of (cc.out (C:=b.CT) (.cons (.app .left)) Nr) ⟨_,0,[],[],rfl,by rw[hC];rfl,Nat.zero_le _,aS.nil _ _,⟨by simp,by simp⟩,Nat.le_refl _⟩,?_⟩
 rintro w w' H ⟨v,i,all,Na,hw,rfl,hi,ho,AY,Rl⟩ gs
 simp only[List.cons.injEq,and_true]at hw
 obtain⟨rfl,rfl⟩:=hw
 refine ae.fu (Br.dec (fun hlt=>?_) (fun hge=>?_))
 rotate_left
 ·have:i=l.length:=by omega
  subst this
  rw[List.take_length]at AY
  refine aB.mk (lS:=Na++C) ?_ ⟨all,Na,by rw[hC],ho,AY.all fun r d hd hv=>(hmem r).2 ⟨d,(Pj d r).2 hd,hv⟩,by omega⟩
  exact aU.c8 .right Na
 obtain⟨r,HV⟩:∃r,l[i]? =some r:=⟨_,List.getElem?_eq_getElem hlt⟩
 have lB:l.take (i+1)=l.take i++[r]:=by rw[List.take_add_one,HV];rfl
 have Y6:r∉l.take i:=fun hm=>by
  have:(l.take (i+1)).Nodup:=ig.sublist (List.take_sublist _ _)
  rw[lB]at this
  exact(List.nodup_append.1 this).2.2 r hm r (by simp) rfl
 obtain⟨d,hd,pP⟩:=hl r (List.mem_of_getElem? HV)
 have TD:=hok.mid.lo hd
 have TE:=hok.mid.hi hd
 intro yo BV
 have next:∀v' Nq Vz,aS 203 8 v' (Nq.map g8) Vz→vB K.N x y (l.take (i+1)) Nq→Nq.length≤i+1→yo [v'] (Vz++(Nr++C)):=fun v' Nq Vz h1 h2 h3=>
  BV _ _ fun gs=>ae.aN (b:=1) (by simp[aE];omega) (aC.mk ⟨v',i+1,Nq,Vz,rfl,rfl,by omega,h1,h2,h3⟩ (by simp[bK];omega))
 refine JH.ld (x:=(r:Int)) (cm HV) (fun y hy=>List.mem_append_right _ (List.mem_append_left _ hy)) ?_
 refine Nil.ptr (aa.mk ?_)
 refine xG h0 (.inr ⟨d,hd⟩) (fun _ h=>two h) (.app (.app .here)) fun lo hi hg he=>?_
 obtain⟨rfl,rfl⟩:=he d hd
 have hvr:yx K.N r=(x:Int):=by simp[yx,hd,pP]
 rw[hvr]
 intro Ng _
 refine St.whole (r:=[.int .i64 (x:Int),u32 d.lo,u32 d.hi]) (by exact .head _) rfl rfl (by intro z hz;simp[u32]at hz;rcases hz with rfl|rfl|rfl<;>rfl) ?_
 obtain⟨H0,PR⟩:∃H0,H0=(Ng,Obj.cells #[.int .i64 (x:Int),u32 d.lo,u32 d.hi] 161 (0,0))::(Na++(Nr++C)):=⟨_,rfl⟩
 have hEq:((Ng,Obj.cells [Value.int .i64 (x:Int),u32 d.lo,u32 d.hi].toArray 161 (0,0))::(Na++(Nr++C)))=H0:=PR.symm
 rw[hEq]
 intro VC XJ
 have skip:¬k7 K.N x y r d→VC [.bool true] H0:=fun hn=>XJ _ _ fun gs=>Br.yes (JE.of (by rw[PR];exact .tail) (next w all Na ho (by rw[lB];exact AY.skip hd hn) (by omega)))
 have take:k7 K.N x y r d→VC [.bool false] H0:=fun hn=>by
  refine XJ _ _ fun gs=>Br.no ?_
  rw[PR]
  refine aD.whole (r:=[.int .i64 (x:Int),u32 d.lo,u32 d.hi]) (by exact .head _) rfl ?_
  refine Build.mk (cs:=g8 ⟨r,⟨x,d.lo,d.hi⟩,0,0,0,0⟩) (by kernel_rfl) ?_
  intro Ui _
  refine St.whole (r:=g8 ⟨r,⟨x,d.lo,d.hi⟩,0,0,0,0⟩) (by exact .head _) rfl rfl (kx _) ?_
  refine aa.mk (Ld.mk (by exact .tail _ (.head _)) rfl ?_)
  refine ag.rd (.cons (.cons (.app (.app .here)))) (zh h0 (by have:=h0.lt TD;omega) TD (fun _ h=>two h) y) ?_
  rintro w rfl
  refine Ext.mk rfl (Ext.mk rfl ?_)
  refine aa.mk (St.one (by exact .head _) rfl (by simp[g8]) rfl ?_)
  refine aa.mk (St.one (by exact .head _) rfl (by simp[g8]) rfl ?_)
  refine aa.mk (Ld.mk (by exact .tail _ (.head _)) rfl ?_)
  refine ag.rd (.cons (.cons (.app (.app .here)))) (zh h0 (by have:=h0.lt TE;omega) TE (fun _ h=>two h) y) ?_
  rintro w rfl
  refine Ext.mk rfl (Ext.mk rfl ?_)
  refine aa.mk (St.one (by exact .head _) rfl (by simp[g8]) rfl ?_)
  refine aa.mk (St.one (by exact .head _) rfl (by simp[g8]) rfl ?_)
  have c9:d=⟨x,d.lo,d.hi⟩:=by cases d;simp at pP;subst pP;rfl
  have hcell:g8 (mH K.N y r d)=[u32 r,.int .i64 (x:Int),u32 d.lo,u32 d.hi,u32 (pl K.N y d.lo),u32 (ph K.N y d.lo),u32 (pl K.N y d.hi),u32 (ph K.N y d.hi)]:=by
   simp[g8,mH,pP]
  refine aD.whole (r:=g8 (mH K.N y r d)) (by rw[hcell];exact .head _) rfl ?_
  refine au.one (e:=203) (z:=.agg #[.int .u32 0,.int .i64 0,.int .u32 0,.int .u32 0,.int .u32 0,.int .u32 0,.int .u32 0,.int .u32 0]) (k:=8) (r:=g8 (mH K.N y r d)) (by kernel_rfl) (by kernel_rfl) (by kernel_rfl) (by decide) rfl fun xb=>?_
  refine ho.mL (.cons (.cons (.cons .left))) (by exact .head _) rfl (kx _) ⟨_,rfl,rfl⟩ (by simp;omega) (by simp;omega) fun v' Vz cz=>?_
  refine JE.of (.skip (.skip .tail)) (next v' (all++[mH K.N y r d]) Vz (by rw[List.map_append];exact cz) (by rw[lB];exact AY.more Y6 hn) (by simp;omega))
 refine DR.of (R:=[(Ng,Obj.cells #[.int .i64 (x:Int),u32 d.lo,u32 d.hi] 161 (0,0))]) (by rw[PR];exact .left (A:=[_])) ?_
 refine Nil.ptr (aa.mk (aa.mk (Ld.mk (by exact .head _) rfl ?_)))
 have heR:aU H0 [(Ng,Obj.cells #[.int .i64 (x:Int),u32 d.lo,u32 d.hi] 161 (0,0))]:=by rw[PR];exact .left (A:=[_])
 intro F
 rw[PR]
 refine xG h0 TD (fun _ h=>two h) (.cons (.app (.app .here))) fun lo1 WU hg1 NZ=>?_
 rw[←PR]
 refine⟨heR,Ol.mk rfl (ae.dh (Br.dec (fun hne=>?_) (fun he=>?_)))⟩
 ·refine Nil.ptr (aa.mk (aa.mk (Ld.mk (by exact .head _) rfl ?_)))
  intro F2
  rw[PR]
  refine xG h0 TE (fun _ h=>two h) (.cons (.app (.app .here))) fun lo2 zR Rf Vk=>?_
  rw[←PR]
  refine⟨heR,Ol.mk rfl (ae.dh (az.mk ?_))⟩
  by_cases e2:yx K.N d.hi=(y:Int)
  ·rw[decide_eq_false (by simpa using e2)]
   refine JE.mk (take ⟨hd,pP,.inr ?_⟩)
   cases hN:K.N d.hi with
   |none=>simp[yx,hN]at e2<;>omega
   |some f=>exact⟨f,rfl,by simp[yx,hN]at e2;omega⟩
  ·rw[decide_eq_true (by simpa using e2)]
   refine JE.mk (skip ?_)
   rintro⟨_,_,⟨f,hf,Mc⟩|⟨f,hf,Mc⟩⟩
   ·exact hne (by simp[yx,hf,Mc])
   ·exact e2 (by simp[yx,hf,Mc])
 ·have e1:yx K.N d.lo=(y:Int):=by simpa using he
  refine JE.mk (take ⟨hd,pP,.inl ?_⟩)
  cases hN:K.N d.lo with
  |none=>simp[yx,hN]at e1<;>omega
  |some f=>exact⟨f,rfl,by simp[yx,hN]at e1;omega⟩
end
end Go.Proofs
set_option maxRecDepth 100000
namespace Go.Proofs
open Go Go.Sx
open aF
section
def ZC:Value→Int
 | .int _ z=>z
 |_=>0
abbrev ZG(v:Value)(z:Int):Prop:=v=.int .i64 z
def uh(es:Array MapEntry)(ck:Nat)(ks:List Nd):Prop:=∃m:List (Nd×Int),aV nK ZG es ck m∧m.map Prod.fst=ks
theorem uh.empty:uh #[] 0 []:=⟨[],aV.empty,rfl⟩
theorem uh.of{es:Array MapEntry}{ck:Nat}{m:List (Nd×Int)}(h:aV nK (fun v _=>∃z,v=.int .i64 z) es ck m):uh es ck (m.map Prod.fst):=by
 have hlen:es.toList.length=m.length:=by simpa using h.len
 have hz:((es.toList.zip m).map fun p=>((p.2.1,ZC p.1.val):Nd×Int)).map Prod.fst=m.map Prod.fst:=by
  rw[List.map_map]
  have:(Prod.fst∘fun(p:MapEntry×(Nd×Int))=>((p.2.1,ZC p.1.val):Nd×Int))=Prod.fst∘Prod.snd:=rfl
  rw[this,←List.map_map,List.map_snd_zip (by omega)]
 refine⟨_,⟨?_,fun i e x he hx=>?_,by rw[hz];exact h.nd,h.born,h.lt⟩,hz⟩
 ·simp[h.len]
 ·have hi:=(Array.getElem?_eq_some_iff.1 he).1
  have zR:i<m.length:=by rw[←h.len];exact hi
  have hm:m[i]? =some m[i]:=List.getElem?_eq_getElem zR
  obtain⟨h1,z,h2⟩:=h.key i e _ he hm
  have hx':x=(m[i].1,ZC e.val):=by
   have e1:es.toList[i]? =some e:=by rw[Array.getElem?_toList];exact he
   rw[List.getElem?_map,(List.getElem?_zip_eq_some (z:=(e,m[i]))).2 ⟨e1,hm⟩]at hx
   simpa using hx.symm
  subst hx'
  exact⟨h1,by rw[h2];rfl⟩
theorem Own.sub{g:Gh}{H:Hp}{w:World}(h:Own g H w){y:Nat×Obj}(hy:y∈H):Own g [y] w:=by
 obtain⟨X,Y,rfl⟩:=List.append_of_mem hy
 exact(h.perm List.perm_middle).left (A:=[y])
noncomputable abbrev FF:Func:=Tryz.f136
theorem six{i:Nat}(hi:i<6):¬Lh .any (nL FF 10) i 6:=fun h=>by
 have e6:(nL FF 10)[6]? =some (fP FF 10 6):=by kernel_rfl
 have:=h _ e6
 have hm:(⟨i,.phase⟩:Edge)∈(fP FF 10 6).after:=by
  have ea:(fP FF 10 6).after=#[⟨0,.data⟩,⟨5,.data⟩,⟨3,.data⟩,⟨4,.chain⟩,⟨0,.phase⟩,⟨1,.phase⟩,⟨2,.phase⟩,⟨3,.phase⟩,⟨4,.phase⟩,⟨5,.phase⟩]:=by kernel_rfl
  rw[ea]
  rcases i with _|_|_|_|_|_|i
  all_goals first|omega|simp
 exact this _ hm rfl rfl
end
section
def Ge(ops:Array Oper)(listed:Array Bool):Bool:=(List.range ops.size).all fun j=>match ops[j]? with
 |some oj=> !listed.getD j true||oj.after.toList.all fun e=> !Region.binds .any e||listed.getD e.on true
 |none=>true
theorem fV{ops:Array Oper}{listed:Array Bool}(h:Ge ops listed=true):eL .any ops listed:=by
 intro j oj hj hl e he hb
 unfold Ge at h
 have h1:=List.all_eq_true.1 h j (List.mem_range.2 (Array.getElem?_eq_some_iff.1 hj).1)
 simp only[hj,hl,Bool.not_true,Bool.false_or]at h1
 have h2:=List.all_eq_true.1 h1 e (Array.mem_toList_iff.2 he)
 rw[hb]at h2
 simpa using h2
theorem Pf{g:Gh}{mb nb:Nat}{es:Array MapEntry}{ck:Nat}{ks:List Nd}{d:Nd}(hmk:uh es ck ks){c:Obj→Hp}(Mi:∀o o',cM mb o o' (c o) (c o'))(Xc:∀o,(nb,Obj.cells (aZ d).toArray 161 (0,0))∈c o){K:Hp→Prop}
 (hk:∀es' cO,uh es' cO (if d∈ks then ks else ks++[d])→K (c (.map es' cO))):
  Uo Tryz.prog g 10 (nL FF 10) [7,11] [.map (some mb),ptr nb] (c (.map es ck)) K:=by
 have hm:(mb,Obj.map es ck)∈c (.map es ck):=(Mi _ (.map es ck)).mem
 have hn:=Xc (.map es ck)
 obtain⟨m,hE,rfl⟩:=hmk
 intro a w hok hvs hw
 simp only[List.map_cons,List.map_nil,List.cons.injEq,and_true]at hvs
 obtain⟨h7,h11⟩:=hvs
 obtain⟨n,hnn⟩:∃n,n=a.tmps.size:=⟨_,rfl⟩
 obtain⟨fr,hfr⟩:∃fr:Fr,fr=fun s=>a.tmps.getD s undef:=⟨_,rfl⟩
 have ha:cq a.defers n a fr:=⟨rfl,hnn.symm,fun s=>by rw[hfr]⟩
 have f7:fr 7=.map (some mb):=by rw[hfr];exact h7
 have f11:fr 11=ptr nb:=by rw[hfr];exact h11
 rw[←hnn]at hok
 have eok:gX n (nL FF 10).toList=(Nat.blt 58 n&& (Nat.blt 59 n&& (Nat.blt 60 n&& (Nat.blt 61 n&& (Nat.blt 62 n&& (Nat.blt 63 n&& (true&&true))))))):=by kernel_rfl
 rw[eok]at hok
 simp only[Bool.and_eq_true,Bool.and_true]at hok
 obtain⟨k58,k59,k60,k61,k62,k63⟩:=hok
 refine wp_region_any (by kernel_rfl) ?_
 obtain⟨z0,NS⟩:∃z0:Int,z0=(ew m d).getD 0:=⟨_,rfl⟩
 obtain⟨S0,N6⟩:∃S0:World→Prop,S0=fun w=>Own g [(nb,Obj.cells (aZ d).toArray 161 (0,0))] w∧(Instr.lookup 285 (.map (some mb)) (nK d) false).run Tryz.prog w=.ok (.int .i64 z0) w:=⟨_,rfl⟩
 have look:∀{es':Array MapEntry} {cO:Nat} {m':List (Nd×Int)} {H':Hp} {w':World},aV nK ZG es' cO m'→(mb,Obj.map es' cO)∈H'→Own g H' w'→(ew m' d).getD 0=z0→(Instr.lookup 285 (.map (some mb)) (nK d) false).run Tryz.prog w'=.ok (.int .i64 z0) w':=by
  intro es' cO m' H' w' h1 h2 h3 h4
  have hL:jB Tryz.prog 161 (.int .i64 0) false H' (.map (some mb)) (nK d) (· =.int .i64 z0):=by
   cases hg:ew m' d with
   |some z=>exact aV.HY (ke:=nK) (k:=d) pC kU h1 h2 hg (by rintro v rfl;rw[hg]at h4;simp at h4;rw[h4];rfl)
   |none=>exact aV.vS (ke:=nK) (k:=d) pC kU h1 h2 hg (by rw[hg]at h4;simp at h4;rw[←h4];rfl)
  obtain⟨v,hr,rfl⟩:=hL.run (P:=Tryz.prog) h3 (t:=285) (kt:=161) (e:=3) (kd:=.struct (Tryz.prog.fieldsOf 161)) (i:=(Tryz.prog.info? 3).get (by kernel_rfl)) (by kernel_rfl) FL rfl (by kernel_rfl) (by kernel_rfl)
  exact hr
 have Q4:=hw.wH
 have s0:S0 {w with drawn:=w.drawn+1}:=by rw[N6];exact⟨Own.sub Q4 hn,look hE hm Q4 NS.symm⟩
 have Xv:∀{o:Oper} {v:Value} (c:List PanicEntry) (a':Act) (w':World),(fun(e:Exit) (a':Act) (w':World)=>e=.normal∧a'.defers=a.defers∧a'.tmps.size=a.tmps.size∧(∀s,bH (nL FF 10).toList s=false→a'.tmps.getD s undef=a.tmps.getD s undef)∧∃H',Own g H' w'∧K H') (.panic c) (a'.put o.dst v) w'→
   (fun(e:Exit) (a':Act) (w':World)=>e=.normal∧a'.defers=a.defers∧a'.tmps.size=a.tmps.size∧(∀s,bH (nL FF 10).toList s=false→a'.tmps.getD s undef=a.tmps.getD s undef)∧∃H',Own g H' w'∧K H') (.panic c) a' w':=by
  rintro _ _ _ _ _ ⟨h,_⟩;cases h
 have hsel:Region.noSelect (nL FF 10)=true:=by kernel_rfl
 have hkeep:∀i,i<6→∀(j:Nat) (oj:Oper) (w w':World),(nL FF 10)[j]? =some oj→j≠i→¬mP .any (nL FF 10) i j→S0 w→(j≠6→S0 w→S0 w')→S0 w':=fun i hi j oj w w' _ _ hno h0 hs=>by
  by_cases e:j=6
  ·subst e;exact absurd (fun oj ie e he hb heq=>hno (.one ie he hb heq)) (six hi)
  ·exact hs e h0
 refine cY.any (S:=fun j w w'=>j≠6→S0 w→S0 w') ?_
 have hsz:(nL FF 10).size=7:=by kernel_rfl
 rw[hsz]
 refine cY.take (fV (by kernel_rfl)) (S0:=S0) (i:=0) (oi:=fP FF 10 0) (v:=.map (some mb)) (by kernel_rfl) hsel (by kernel_rfl) (by kernel_rfl) Xv (fun _ h _ _=>h) (hkeep 0 (by decide)) (.inl ⟨rfl,fun w hw=>?_⟩) s0 ?_
 ·rw[ha.eval];have:(execOp (ev fr) (fP FF 10 0))=pure (.value (fr 7)):=rfl
  rw[this,f7];rfl
 have BU:=ha.put (d:=some 58) k58 (.map (some mb))
 change cY _ _ _ _ _ 6 _ (a.put (some 58) (.map (some mb))) _
 refine cY.take (fV (by kernel_rfl)) (S0:=S0) (i:=1) (oi:=fP FF 10 1) (v:=nK d) (by kernel_rfl) hsel (by kernel_rfl) (by kernel_rfl) Xv (fun _ h _ _=>h) (hkeep 1 (by decide)) (.inl ⟨rfl,fun w hw=>?_⟩) s0 ?_
 ·rw[BU.eval]
  have e:AS Tryz.prog g (fP FF 10 1) (ev (cg fr (some 58) (.map (some mb)))) [(nb,Obj.cells (aZ d).toArray 161 (0,0))] (fun v=>v=nK d)=aD 3 [(nb,Obj.cells (aZ d).toArray 161 (0,0))] (fr 11) (fun v=>v=nK d):=by kernel_rfl
  obtain⟨v,rfl,hr,_⟩:=nk (e.mpr (by rw[f11];exact aD.whole (r:=aZ d) (.head _) rfl rfl))
  rw[N6]at hw
  exact hr _ hw.1
 have AZ:=BU.put (d:=some 59) k59 (nK d)
 change cY _ _ _ _ _ 5 _ ((a.put (some 58) (.map (some mb))).put (some 59) (nK d)) _
 refine cY.take (fV (by kernel_rfl)) (S0:=S0) (i:=2) (oi:=fP FF 10 2) (v:=.int .i64 z0) (by kernel_rfl) hsel (by kernel_rfl) (by kernel_rfl) Xv (fun _ h _ _=>h) (hkeep 2 (by decide)) (.inl ⟨rfl,fun w hw=>?_⟩) s0 ?_
 ·rw[AZ.eval]
  have e:execOp (ev (cg (cg fr (some 58) (.map (some mb))) (some 59) (nK d))) (fP FF 10 2)=(do pure (.value (←Instr.lookup 285 (.map (some mb)) (nK d) false))):=rfl
  rw[N6]at hw
  rw[e]
  simp only[Sem.run_bind,hw.2,Result.andThen_ok,Sem.run_pure]
 have Ig:=AZ.put (d:=some 60) k60 (.int .i64 z0)
 change cY _ _ _ _ _ 4 _ (((a.put (some 58) (.map (some mb))).put (some 59) (nK d)).put (some 60) (.int .i64 z0)) _
 refine cY.take (fV (by kernel_rfl)) (S0:=S0) (i:=3) (oi:=fP FF 10 3) (v:=.int .i64 (IntKind.i64.wrap (z0+1))) (by kernel_rfl) hsel (by kernel_rfl) (by kernel_rfl) Xv (fun _ h _ _=>h) (hkeep 3 (by decide)) (.inl ⟨rfl,fun w hw=>?_⟩) s0 ?_
 ·rw[Ig.eval]
  have e:AS Tryz.prog g (fP FF 10 3) (ev (cg (cg (cg fr (some 58) (.map (some mb))) (some 59) (nK d)) (some 60) (.int .i64 z0))) [(nb,Obj.cells (aZ d).toArray 161 (0,0))] (fun v=>v=.int .i64 (IntKind.i64.wrap (z0+1)))=ae .num .add (.int .i64 z0) (.int .i64 1) (fun v=>v=.int .i64 (IntKind.i64.wrap (z0+1))):=by kernel_rfl
  obtain⟨v,rfl,hr,_⟩:=nk (e.mpr (ae.add rfl))
  rw[N6]at hw
  exact hr _ hw.1
 have PF:=Ig.put (d:=some 61) k61 (.int .i64 (IntKind.i64.wrap (z0+1)))
 change cY _ _ _ _ _ 3 _ ((((a.put (some 58) (.map (some mb))).put (some 59) (nK d)).put (some 60) (.int .i64 z0)).put (some 61) (.int .i64 (IntKind.i64.wrap (z0+1)))) _
 generalize (((a.put (some 58) (.map (some mb))).put (some 59) (nK d)).put (some 60) (.int .i64 z0)).put (some 61) (.int .i64 (IntKind.i64.wrap (z0+1)))=a4 at PF
 refine cY.all (rs:=[4]) (by kernel_rfl) (by simp) fun i hi=>?_
 simp only[List.mem_singleton]at hi
 subst hi
 have e4:(nL FF 10)[4]? =some (fP FF 10 4):=by kernel_rfl
 unfold wpOp
 rw[e4]
 simp only
 rw[if_pos (show Region.wanted (fP FF 10 4) (yielded (nL FF 10) a4.tmps)=true from rfl)]
 refine .inl ?_
 show(fP FF 10 4).upon Tryz.prog a4 _ _ ((execOp a4.eval (fP FF 10 4)).run Tryz.prog _)
 rw[PF.eval]
 refine mV.upon (g:=g) (KP:=fun _ _=>False) (aV.Qa (K:=fun v H'=>∃es' cO v0 st,aV nK ZG es' cO (if d∈m.map Prod.fst then m else m++[(d,0)])∧(∃e∈es'.toList,e.born=st)∧H'=c (.map es' cO)∧v=.tuple #[v0,.int .i64 (st:Int)])
  (t:=285) (kt:=161) (e:=3) (z:=.int .i64 0) (k:=d) (y0:=(0:Int)) pC kU FN (o:=fP FF 10 4) (mo:=.tmp 58) (ko:=.tmp 59) rfl rfl rfl (by kernel_rfl) FL rfl (by kernel_rfl) rfl hE Mi
  (fun es' cO v st h1 h2=>⟨es',cO,v,st,h1,h2,rfl,rfl⟩) _ Q4) ?_ (fun _ _ _ _ h=>h.elim)
 rintro v H1 w1 kF ⟨MM,Gf,v0,st,hE1,hst,rfl,rfl⟩
 have AX:(nb,Obj.cells (aZ d).toArray 161 (0,0))∈c (.map MM Gf):=Xc _
 have LZ:(mb,Obj.map MM Gf)∈c (.map MM Gf):=(Mi _ (.map MM Gf)).mem
 have s1:S0 w1:=by
  rw[N6]
  refine⟨Own.sub kF AX,look hE1 LZ kF ?_⟩
  rw[NS]
  split
  ·rfl
  ·rename_i c9
   have e1:=gv.2 c9
   have e2:ew (m++[(d,0)]) d=some 0:=(eC (by
    have:=hE1.nd;rw[if_neg c9]at this;exact this)).2 (by simp)
   rw[e1,e2];rfl
 refine⟨fun _ _=>s1,?_⟩
 have PE:=PF.put (d:=some 62) k62 (.tuple #[v0,.int .i64 (st:Int)])
 change cY _ _ _ _ _ 2 _ (a4.put (some 62) (.tuple #[v0,.int .i64 (st:Int)])) _
 generalize a4.put (some 62) (.tuple #[v0,.int .i64 (st:Int)])=a5 at PE
 refine cY.take (fV (by kernel_rfl)) (S0:=S0) (i:=5) (oi:=fP FF 10 5) (v:=.int .i64 (st:Int)) (by kernel_rfl) hsel (by kernel_rfl) (by kernel_rfl) Xv (fun _ h _ _=>h) (hkeep 5 (by decide)) (.inl ⟨rfl,fun w hw=>?_⟩) s1 ?_
 ·rw[PE.eval]
  obtain⟨v,rfl,hr,_⟩:=nk (P:=Tryz.prog) (g:=g) (o:=fP FF 10 5) (H:=[(nb,Obj.cells (aZ d).toArray 161 (0,0))]) (k:=fun v=>v=.int .i64 (st:Int))
   (ρ:=ev (cg (cg (cg (cg (cg fr (some 58) (.map (some mb))) (some 59) (nK d)) (some 60) (.int .i64 z0)) (some 61) (.int .i64 (IntKind.i64.wrap (z0+1)))) (some 62) (.tuple #[v0,.int .i64 (st:Int)]))) ⟨_,_,rfl,rfl,rfl⟩
  rw[N6]at hw
  exact hr _ hw.1
 have PD:=PE.put (d:=some 63) k63 (.int .i64 (st:Int))
 change cY _ _ _ _ _ 1 _ (a5.put (some 63) (.int .i64 (st:Int))) _
 generalize a5.put (some 63) (.int .i64 (st:Int))=a6 at PD
 refine cY.all (rs:=[6]) (by kernel_rfl) (by simp) fun i hi=>?_
 simp only[List.mem_singleton]at hi
 subst hi
 have e6:(nL FF 10)[6]? =some (fP FF 10 6):=by kernel_rfl
 unfold wpOp
 rw[e6]
 simp only
 rw[if_pos (show Region.wanted (fP FF 10 6) (yielded (nL FF 10) a6.tmps)=true from rfl)]
 refine .inl ?_
 show(fP FF 10 6).upon Tryz.prog a6 _ _ ((execOp a6.eval (fP FF 10 6)).run Tryz.prog _)
 rw[PD.eval]
 refine mV.upon (g:=g) (KP:=fun _ _=>False) (aV.OH (vr:=fun v _=>∃z:Int,v=.int .i64 z) (K:=fun _ H'=>∃es',aV nK (fun v _=>∃z:Int,v=.int .i64 z) es' Gf (if d∈m.map Prod.fst then m else m++[(d,0)])∧H'=c (.map es' Gf))
  (o:=fP FF 10 6) (t:=285) (mo:=.tmp 58) (so:=.tmp 63) (xo:=.tmp 61) rfl rfl rfl (hE1.mono fun v z h=>⟨z,h⟩) hst (fun _=>⟨_,rfl⟩) Mi
  (fun es' h1=>⟨es',h1,rfl⟩) _ kF) ?_ (fun _ _ _ _ h=>h.elim)
 rintro v H2 w2 qI ⟨P9,PS,rfl⟩
 refine⟨fun h=>absurd rfl h,?_⟩
 have Vm:cq a.defers n a6 _:=PD
 change cY _ _ _ _ _ 0 _ a6 _
 refine cY.done (by kernel_rfl) ⟨rfl,Vm.defers,by rw[Vm.size,hnn],fun s hs=>?_,_,qI,hk P9 Gf ?_⟩ 0
 ·have eD:bH (nL FF 10).toList s=(Nat.beq s 58||(Nat.beq s 59||(Nat.beq s 60||(Nat.beq s 61||(Nat.beq s 62||(Nat.beq s 63||(false||false))))))):=by kernel_rfl
  rw[eD]at hs
  simp only[Bool.or_eq_false_iff]at hs
  rw[Vm.get]
  simp only[cg,hs,cond_false]
  rw[hfr]
 ·have:=uh.of PS
  have e:(if d∈m.map Prod.fst then m else m++[(d,(0:Int))]).map Prod.fst=if d∈m.map Prod.fst then m.map Prod.fst else m.map Prod.fst++[d]:=by
   split<;>simp
  rw[e]at this
  exact this
end
section
variable {kp:Nat} {K:Kd} {ord aj tr:List Nat} {C:Hp} {S:Nat→aF.Fn}
theorem MY{H:Hp}(a b:Nd){K:Value→Hp→Prop}(h:∀x,K (.slice (some ⟨x,0,none⟩) 2 2) ((x,.cells (rows [aZ a,aZ b]) 161 (0,0))::H)):
  au Tryz.prog 286 2 [(0,nK a),(1,nK b)] H K:=by
 refine⟨rows [aZ a,aZ b],161,3,.agg #[.int .i64 0,.int .u32 0,.int .u32 0],by kernel_rfl,by kernel_rfl,by kernel_rfl,by decide,?_,fun x _=>h x⟩
 have e1:Array.range (2*3)=#[0,1,2,3,4,5]:=rfl
 simp[Instr.fill,Value.cells,nK,aZ,e1,rows,u32]
def gH(K:Kd)(x:Nat)(l:List Cx)(ks:List Nd)(m:List Nd):Prop:=m.Nodup∧∀k,k∈m↔((∃c∈l,k∈keys x c)∨k∈ks)∧K.T k=none∧k.lo≠k.hi
theorem gH.step{x:Nat}{l:List Cx}{ks m:List Nd}{d:Nd}(h:gH K x l ks m)(hd:K.T d=none∧d.lo≠d.hi):gH K x l (ks++[d]) (if d∈m then m else m++[d]):=by
 obtain⟨h1,h2⟩:=h
 constructor
 ·split
  ·exact h1
  ·rename_i hn
   exact List.nodup_append.2 ⟨h1,by simp,fun a ha b hb e=>by simp at hb;subst hb;subst e;exact hn ha⟩
 ·intro k
  by_cases hm:d∈m
  ·rw[if_pos hm,h2,List.mem_append,List.mem_singleton]
   constructor
   ·rintro⟨h3|h3,h4⟩
    ·exact⟨.inl h3,h4⟩
    ·exact⟨.inr (.inl h3),h4⟩
   ·rintro⟨h3|h3|rfl,h4⟩
    ·exact⟨.inl h3,h4⟩
    ·exact⟨.inr h3,h4⟩
    ·exact(h2 _).1 hm
  ·rw[if_neg hm,List.mem_append,List.mem_singleton,h2,List.mem_append,List.mem_singleton]
   constructor
   ·rintro(⟨h3|h3,h4⟩|rfl)
    ·exact⟨.inl h3,h4⟩
    ·exact⟨.inr (.inl h3),h4⟩
    ·exact⟨.inr (.inr rfl),hd⟩
   ·rintro⟨h3|h3|rfl,h4⟩
    ·exact .inl ⟨.inl h3,h4⟩
    ·exact .inl ⟨.inr h3,h4⟩
    ·exact .inr rfl
theorem gH.skip{x:Nat}{l:List Cx}{ks m:List Nd}{d:Nd}(h:gH K x l ks m)(hd:¬(K.T d=none∧d.lo≠d.hi)):gH K x l (ks++[d]) m:=by
 obtain⟨h1,h2⟩:=h
 refine⟨h1,fun k=>?_⟩
 rw[h2,List.mem_append,List.mem_singleton]
 constructor
 ·rintro⟨h3|h3,h4⟩
  ·exact⟨.inl h3,h4⟩
  ·exact⟨.inr (.inl h3),h4⟩
 ·rintro⟨h3|h3|rfl,h4⟩
  ·exact⟨.inl h3,h4⟩
  ·exact⟨.inr h3,h4⟩
  ·exact absurd h4 hd
theorem gH.xq{x:Nat}{l:List Cx}{c:Cx}{m:List Nd}(h:gH K x l (keys x c) m):gH K x (l++[c]) [] m:=by
 obtain⟨h1,h2⟩:=h
 refine⟨h1,fun k=>?_⟩
 rw[h2]
 constructor
 ·rintro⟨⟨c',hc,hk⟩|h3,h4⟩
  ·exact⟨.inl ⟨c',List.mem_append_left _ hc,hk⟩,h4⟩
  ·exact⟨.inl ⟨c,by simp,h3⟩,h4⟩
 ·rintro⟨⟨c',hc,hk⟩|h3,h4⟩
  ·rcases List.mem_append.1 hc with hc|hc
   ·exact⟨.inl ⟨c',hc,hk⟩,h4⟩
   ·simp at hc;subst hc;exact⟨.inr hk,h4⟩
  ·cases h3
theorem MG(h:cD kp K ord aj tr C){x:Nat}(hx:x<K.n){v:Value}{all:List Cx}{Na:Hp}(ha:aS 203 8 v (all.map g8) Na)(hlen:all.length≤1048576):
  Rd Tryz.prog 136 #[ptr kp,.int .i64 (x:Int),v] (Na++C) (fun r=>∃made,r=.int .i64 ((made.length:Nat):Int)∧Made K x all made):=by
 have h0:=h
 obtain⟨b,hC,hO⟩:=h
 intro g
 refine EJ (R:=aB _) ?_
 unfold L136
 intro mb _
 refine ha.bQ ?_
 rw[List.length_map]
 refine⟨fun vs H=>∃(i:Nat) (es:Array MapEntry) (ck:Nat) (m:List Nd),vs=[.int .i64 (i:Int)]∧H=(mb,.map es ck)::(Na++C)∧i≤all.length∧uh es ck m∧gH K x (all.take i) [] m,
  fun vs _=>all.length-bK vs 0,JE.mk ⟨0,_,_,[],rfl,rfl,Nat.zero_le _,uh.empty,by simp,by simp⟩,?_⟩
 rintro w H ⟨i,es,ck,m,hw,rfl,hi,hmk,Pq⟩ gs
 simp only[List.cons.injEq,and_true]at hw
 subst hw
 refine ae.fu (Br.dec (fun hlt=>?_) (fun hge=>?_))
 rotate_left
 ·have:i=all.length:=by omega
  subst this
  rw[List.take_length]at Pq
  obtain⟨m',he,rfl⟩:=hmk
  refine aV.Lt he (.head _) ?_
  refine cw.mk .tail ⟨m'.map Prod.fst,by rw[List.length_map],Pq.1,fun k=>?_⟩
  rw[Pq.2]
  constructor
  ·rintro⟨h3|h3,h4⟩
   ·exact⟨h3,h4⟩
   ·cases h3
  ·rintro⟨h3,h4⟩;exact⟨.inl h3,h4⟩
 obtain⟨c,qj⟩:∃c,all[i]? =some c:=⟨_,List.getElem?_eq_getElem hlt⟩
 have lB:all.take (i+1)=all.take i++[c]:=by rw[List.take_add_one,qj];rfl
 refine ha.FP (r:=g8 c) (by rw[List.getElem?_map,qj];rfl) (fun y hy=>.tail _ (List.mem_append_left _ hy)) ?_
 intro r8 _
 refine St.whole (r:=g8 c) (by exact .head _) rfl rfl (kx _) ?_
 refine aa.mk (Ld.mk (by exact .head _) rfl ?_)
 refine aa.mk (Ld.mk (by exact .head _) rfl ?_)
 refine Build.mk (cs:=aZ ⟨x,c.vq,c.sb⟩) (by kernel_rfl) ?_
 refine aa.mk (Ld.mk (by exact .head _) rfl ?_)
 refine aa.mk (Ld.mk (by exact .head _) rfl ?_)
 refine Build.mk (cs:=aZ ⟨x,c.vp,c.r9⟩) (by kernel_rfl) ?_
 refine MY _ _ fun xb=>?_
 refine aO.mk ?_
 refine⟨fun vs H=>∃(j:Nat) (es:Array MapEntry) (ck:Nat) (m:List Nd),vs=[.int .i64 (j:Int)]∧H=(xb,.cells (rows [aZ ⟨x,c.vq,c.sb⟩,aZ ⟨x,c.vp,c.r9⟩]) 161 (0,0))::(mb,.map es ck)::(Na++C)∧j≤2∧uh es ck m∧gH K x (all.take i) ((keys x c).take j) m,
  fun vs _=>2-bK vs 0,JE.of (.cons .tail) ⟨0,es,ck,m,rfl,rfl,Nat.zero_le _,hmk,Pq⟩,?_⟩
 clear hmk Pq
 rintro w H ⟨j,es,ck,m,hw,rfl,hj,hmk,Pq⟩ gs
 simp only[List.cons.injEq,and_true]at hw
 subst hw
 refine ae.fu (b:=2) (Br.dec (fun iA=>?_) (fun hge=>?_))
 rotate_left
 ·have:j=2:=by omega
  subst this
  refine ae.aN (b:=1) (by simp[aE];omega) ?_
  refine aC.of .tail ⟨i+1,es,ck,m,rfl,rfl,by omega,hmk,?_⟩ (by simp[bK];omega)
  rw[lB]
  exact gH.xq Pq
 obtain⟨d,BT,pP⟩:∃d,(keys x c)[j]? =some d∧d.v=x:=by
  rcases j with _|_|j
  ·exact⟨_,rfl,rfl⟩
  ·exact⟨_,rfl,rfl⟩
  ·omega
 have htj:(keys x c).take (j+1)=(keys x c).take j++[d]:=by rw[List.take_add_one,BT];rfl
 have hrow:[aZ ⟨x,c.vq,c.sb⟩,aZ ⟨x,c.vp,c.r9⟩][j]? =some (aZ d):=by
  have:[aZ ⟨x,c.vq,c.sb⟩,aZ ⟨x,c.vp,c.r9⟩]=(keys x c).map aZ:=rfl
  rw[this,List.getElem?_map,BT];rfl
 intro YC acG
 have next:∀es' cO m' H',uh es' cO m'→gH K x (all.take i) ((keys x c).take (j+1)) m'→aU H' ((xb,.cells (rows [aZ ⟨x,c.vq,c.sb⟩,aZ ⟨x,c.vp,c.r9⟩]) 161 (0,0))::(mb,.map es' cO)::(Na++C))→JE YC [] H':=fun es' cO m' H' h1 h2 h3=>
  JE.mk (acG _ fun gs=>ae.aN (b:=1) (by simp[aE];omega) (aC.of h3 ⟨j+1,es',cO,m',rfl,rfl,by omega,h1,h2⟩ (by simp[bK];omega)))
 refine ah.nat iA ?_
 have hmem:(xb,Obj.cells (rows [aZ ⟨x,c.vq,c.sb⟩,aZ ⟨x,c.vp,c.r9⟩]) 161 (0,0))∈(xb,Obj.cells (rows [aZ ⟨x,c.vq,c.sb⟩,aZ ⟨x,c.vp,c.r9⟩]) 161 (0,0))::(mb,.map es ck)::(Na++C):=.head _
 refine aD.row (k:=3) hmem (by simp[aZ]) hrow ?_
 intro Ug _
 refine St.whole (r:=aZ d) (by exact .head _) rfl rfl (fun z hz=>by simp[aZ,u32]at hz;rcases hz with rfl|rfl|rfl<;>rfl) ?_
 refine DR.self ?_
 rw[hC]
 refine Nil.ptr (aa.mk (aa.mk (Ld.mk (v:=ptr b.pt) (.tail _ (.tail _ (.tail _ (List.mem_append_right _ (.head _))))) rfl ?_)))
 refine aD.whole (r:=aZ d) (by exact .head _) rfl ?_
 refine ag.rd (.cons (.cons (.cons (.app (.cons (.app .left)))))) (sG (d:=d) hO.ut (by rw[pP];exact hx)) ?_
 rintro w rfl
 refine⟨.refl _,Ext.mk rfl (Ext.mk rfl (Un.not ?_))⟩
 have Q8:(!(K.T d).isSome)=decide (K.T d=none):=by cases K.T d<;>simp
 rw[Q8]
 refine bX.and (decide (d.lo≠d.hi)) (fun _=>?_) rfl fun gs=>?_
 ·refine aa.mk (Ld.mk (by exact .head _) rfl ?_)
  refine aa.mk (Ld.mk (by exact .head _) rfl ?_)
  exact ae.yB ⟨rfl,rfl⟩
 rw[←Bool.decide_and]
 rw[←hC]
 refine Br.dec (fun hd=>?_) (fun hd=>?_)
 ·refine Pf hmk (c:=fun o=>(Ug,.cells (aZ d).toArray 161 (0,0))::(xb,.cells (rows [aZ ⟨x,c.vq,c.sb⟩,aZ ⟨x,c.vp,c.r9⟩]) 161 (0,0))::(mb,o)::(Na++C)) (fun o o'=>.tail (.tail (.head _))) (fun o=>.head _) fun es' cO h1 gs=>?_
  exact next es' cO _ _ h1 (by rw[htj];exact Pq.step hd) .tail
 ·exact next es ck m _ hmk (by rw[htj];exact Pq.skip hd) .tail
end
def ji(l:List Cx):Nat→Nat:=fun s=>(l.map fun c=>e1 (some c.d) s).sum
theorem nh(c:Cx)(l:List Cx)(s:Nat):ji (c::l) s=e1 (some c.d) s+ji l s:=by simp[ji]
theorem Ht(c:Cx)(l:List Cx)(s:Nat):ji (l++[c]) s=ji l s+e1 (some c.d) s:=by simp[ji]
theorem XY(d:Nd)(s:Nat):e1 (some d) s≤2:=by rw[dM];split<;>split<;>omega
theorem xE(s:Nat):∀l:List Cx,ji l s≤2*l.length
 | []=>Nat.le_refl _
 |c::l=>by rw[nh,List.length_cons];have:=xE s l;have:=XY c.d s;omega
theorem zg{s:Nat}:∀{l:List Cx},0<ji l s→∃c∈l,c.d.lo=s∨c.d.hi=s
 | [],h=>by simp[ji]at h
 |c::l,h=>by
  rw[nh]at h
  by_cases h0:0<e1 (some c.d) s
  ·refine⟨c,by simp,?_⟩
   rw[dM]at h0
   by_cases h1:c.d.lo=s
   ·exact .inl h1
   ·by_cases h2:c.d.hi=s
    ·exact .inr h2
    ·simp[h1,h2]at h0
  ·obtain⟨c',hc,h1⟩:=zg (s:=s) (l:=l) (by omega)
   exact⟨c',by simp[hc],h1⟩
theorem FH{s:Nat}{c:Cx}(hs:c.d.lo=s∨c.d.hi=s):∀{l:List Cx},c∈l→0<ji l s
 |c'::l,h=>by
  rw[nh]
  rcases List.mem_cons.1 h with rfl|h
  ·rw[dM]
   rcases hs with hs|hs
   ·rw[if_pos hs];omega
   ·rw[if_pos hs];omega
  ·have:=FH hs h;omega
def Idle(K:Kd):Prop:=∀s,K.N s=none→K.use s=0
theorem sS{K:Kd}{S:Nat→aF.Fn}{E:Nat→Prop}{P:Nat→Nat}(hm:iK K S E P)(hi:Idle K){M:Nat}(hP:∀s,P s≤M)(s:Nat):K.use s≤2097153+M:=by
 cases h:K.N s with
 |none=>rw[hi s h];omega
 |some d=>
  rw[hm.use h]
  have:=Ak (N:=K.N) (r:=s) K.cap
  have:=hm.cap.2
  have:=hP s
  split<;>omega
section
variable {kp:Nat} {K K0:Kd} {ord aj tr:List Nat} {C:Hp} {S S0:Nat→aF.Fn} {oG:Nat→Nat} {x y l:Nat} {all done rest:List Cx} {made:List Nd} {P:Nat→Nat}
theorem MC(b:TB K0 S0 oG x y l all made)(h:cD kp K ord aj tr C)(ht:TI K0 S0 oG x y l made K S done rest P)(hd:∀c∈done,c∈all)(hr:∀c∈rest,c∈all){c:Cx}(hc:c∈all){k:Nd}(hk:k∈keys x c)
 (JM:PL P K.N)(L9:Idle K)(hP:∀s,P s≤4194304):
  Fc Tryz.prog 138 #[ptr kp,.int .i64 (k.v:Int),u32 k.lo,u32 k.hi] C (fun v C'=>∃r K' S',v=u32 r∧cD kp K' ord aj tr C'∧TI K0 S0 oG x y l made K' S' done rest P∧vy K0 K' oG x l r∧
   ((k.lo=k.hi∧r=k.lo)∨K'.N r=some k)∧PL P K'.N∧Idle K'∧(∀s d,K.N s=some d→K'.N s=some d)∧(∀s d,K'.N s=some d→s=r∨(K.N s=some d∧K.use s≤K'.use s))):=by
 have zN:K.n≤64:=by obtain⟨_,_,hO⟩:=h;exact hO.qA
 have kZ:=b.O4 hc
 have hkv:k.v=x∧rL K0 oG l k.lo∧rL K0 oG l k.hi:=by
  simp only[keys,List.mem_cons,List.not_mem_nil,or_false]at hk
  rcases hk with rfl|rfl
  ·exact⟨rfl,kZ.1.1,kZ.1.2⟩
  ·exact⟨rfl,kZ.2.1,kZ.2.2⟩
 have vb:=ht.pG b hd hkv.2.1
 have qh:=ht.pG b hd hkv.2.2
 have hxn:k.v<K.n:=by rw[hkv.1,ht.n];exact b.nb.xn
 by_cases he:k.lo=k.hi
 ·refine Fc.mono (by rw[←he];exact PW C _ k.lo _) ?_
  rintro v C' ⟨rfl,rfl⟩
  exact⟨k.lo,K,S,rfl,h,ht,.inl hkv.2.1,.inl ⟨he,rfl⟩,JM,L9,fun _ _ h=>h,fun s d h=>.inr ⟨h,Nat.le_refl _⟩⟩
 cases hT:K.T k with
 |some r=>
  obtain⟨h1,h2⟩:=ht.found b hc hk hT
  refine Fc.mono (PY h he hxn hT) ?_
  rintro v C' ⟨rfl,rfl⟩
  exact⟨r,K,S,rfl,h,ht,h2,.inr h1,JM,L9,fun _ _ h=>h,fun s d h=>.inr ⟨h,Nat.le_refl _⟩⟩
 |none=>
  have hfit:∀{t:Nat},live K.N t→t<2∨t<K.us.length:=fun ht'=>by
   rcases ht' with ht'|⟨d,c9⟩
   ·exact .inl ht'
   ·exact .inr (ht.mid.fit c9)
  have hkm:=ht.LJ b hd hr hc hk he hkv.2.1 hkv.2.2 hT
  refine Fc.mono (PX h (d:=k) he ⟨by omega,vb,qh⟩ hxn hT (ht.fits b hkm hT) (hfit vb) (hfit qh) (fun s=>by have:=sS ht.mid L9 hP s;omega)) ?_
  rintro v C' ⟨r,de,cz,rfl,hN,h2,hrc,hlen,hru,HU,u0,u1,u2,o0,o1,iJ⟩
  have hPr:P r=0:=by
   apply Decidable.byContradiction
   intro hne
   obtain⟨d,c9⟩:=JM r h2 (by omega)
   rw[hN]at c9;cases c9
  obtain⟨g1,g2⟩:=ht.lay b hd hr hc hk he hT hN ⟨h2,hrc⟩ hlen ⟨hru,HU⟩ u0 u1 o0 o1 hPr
  have hup:∀s d,K.N s=some d→up K.N r (some k) s=some d:=fun s d hs=>by
   rw[aQ (fun e=>by rw[e,hN]at hs;cases hs)];exact hs
  refine⟨r,_,_,rfl,iJ,g1,g2,.inr aK,fun t Mw h0=>?_,fun s hs=>?_,hup,fun s d hs=>?_⟩
  ·obtain⟨d,c9⟩:=JM t Mw h0
   exact⟨d,hup t d c9⟩
  ·have hs':up K.N r (some k) s=none:=hs
   have hne:s≠r:=fun e=>by subst e;rw[aK]at hs';cases hs'
   rw[aQ hne]at hs'
   show de.getD s 0=0
   by_cases Vp:2≤s
   ·rw[u1 s Vp hne,L9 s hs',dM]
    have a1:k.lo≠s:=fun e=>by
     rcases vb with h5|⟨d,h5⟩
     ·omega
     ·rw[e,hs']at h5;cases h5
    have a2:k.hi≠s:=fun e=>by
     rcases qh with h5|⟨d,h5⟩
     ·omega
     ·rw[e,hs']at h5;cases h5
    simp[a1,a2]
   ·rw[u2 s (by omega),L9 s hs']
  ·have hs':up K.N r (some k) s=some d:=hs
   by_cases e:s=r
   ·exact .inl e
   ·rw[aQ e]at hs'
    refine .inr ⟨hs',?_⟩
    show K.use s≤de.getD s 0
    rw[u1 s (ht.mid.two hs').1 e];omega
theorem Kx(h:cD kp K ord aj tr C)(ht:TI K0 S0 oG x y l made K S done rest P)(JM:PL P K.N)(L9:Idle K)(hP:∀s,P s≤4194304){r:Nat}(hr:live K.N r):
  Fc Tryz.prog 139 #[ptr kp,u32 r] C (fun v C'=>∃K',v=.tuple #[]∧cD kp K' ord aj tr C'∧TI K0 S0 oG x y l made K' S done rest (fun s=>P s+if s=r then 1 else 0)∧PL (fun s=>P s+if s=r then 1 else 0) K'.N∧Idle K'∧
   K'.N=K.N∧(∀s,K.use s≤K'.use s)∧(2≤r→0<K'.use r)):=by
 have hfit:r<2∨r<K.us.length:=by
  rcases hr with hr|⟨d,hd⟩
  ·exact .inl hr
  ·exact .inr (ht.mid.fit hd)
 refine Fc.mono (Bk h hfit (by have:=sS ht.mid L9 hP r;omega)) ?_
 rintro v C' ⟨rfl,iJ⟩
 by_cases h2:2≤r
 ·have hrd:∃d,K.N r=some d:=by
   rcases hr with hr|hr
   ·omega
   ·exact hr
  have hlt:r<K.us.length:=by omega
  refine⟨_,rfl,iJ,(ht.use (iq r) (lU h2 hlt) (fun s hs=>sU hs)).congr (fun s _=>?_),fun t Mw h0=>?_,fun s hs=>?_,rfl,fun s=>?_,fun _=>?_⟩
  ·unfold up
   split
   ·rename_i e;subst e;rfl
   ·rfl
  ·by_cases e:t=r
   ·subst e;exact hrd
   ·simp[e]at h0;exact JM t Mw h0
  ·show(rp K r).getD s 0=0
   have hne:s≠r:=fun e=>by
    obtain⟨d,hd⟩:=hrd
    have hs':K.N s=none:=hs
    rw[e,hd]at hs';cases hs'
   rw[sU hne];exact L9 s hs
  ·show K.use s≤(rp K r).getD s 0
   by_cases e:s=r
   ·subst e;rw[lU h2 hlt];omega
   ·rw[sU e];exact Nat.le_refl _
  ·show 0<(rp K r).getD r 0
   rw[lU h2 hlt];omega
 ·have e:rp K r=K.us:=by unfold rp;rw[if_pos (by omega)]
  have eK:({K with us:=rp K r}:Kd)=K:=by rw[e]
  rw[eK]at iJ
  refine⟨K,rfl,iJ,ht.congr (fun s hs=>?_),fun t Mw h0=>?_,L9,rfl,fun _=>Nat.le_refl _,fun h=>absurd h h2⟩
  ·rw[if_neg (by omega)];rfl
  ·have Ry:0<P t+if t=r then 1 else 0:=h0
   rw[if_neg (by omega)]at Ry;exact JM t Mw Ry
theorem vy.mono{K K':Kd}(h:vy K0 K oG x l y)(hm:∀s d,K.N s=some d→K'.N s=some d):vy K0 K' oG x l y:=by
 rcases h with h|⟨e,h1,h2⟩
 ·exact .inl h
 ·exact .inr ⟨e,hm _ _ h1,h2⟩
end
section
variable {kp:Nat} {K:Kd} {ord aj tr:List Nat} {C:Hp} {S:Nat→aF.Fn}
structure Kept(K:Kd)(S:Nat→aF.Fn)(K':Kd)(S':Nat→aF.Fn):Prop where
 n:K'.n=K.n
 cap:K'.cap=K.cap
 hold:∀r,K'.hold r=K.hold r
 held:∀g,K'.held S' g↔K.held S g
 fn:∀r,K.hold r≠0→S' r=S r
theorem SB{x y l:Nat}(hne:x≠y)(hx:x<aj.length)(hy:y<aj.length):lv ((aj.set x (l+1)).set y l)=rV (lv aj) x y l:=by
 funext v
 show((aj.set x (l+1)).set y l).getD v 0=_
 rw[fS (by simpa using hy),fS hx]
 unfold rV
 by_cases e:v=y
 ·rw[if_pos e,if_neg (by rw[e];exact Ne.symm hne),if_pos e]
 ·rw[if_neg e,if_neg e]
theorem La(c:Cx)(rest:List Cx):ji (c::rest)=fU (fU (ji rest) [c.d.hi]) [c.d.lo]:=by
 funext s
 rw[nh,dM]
 unfold fU
 simp only[List.count_cons,List.count_nil,beq_iff_eq]
 omega
theorem Lq{x:Nat}{all:List Cx}{made:List Nd}(h:Made K x all made):made.length≤2*all.length:=by
 have h1:=bP (l':=all.flatMap (keys x)) h.nd fun k hk=>by
  obtain⟨⟨c,hc,hk'⟩,_⟩:=(h.mem k).1 hk
  exact List.mem_flatMap.2 ⟨c,hc,hk'⟩
 have h2:(all.flatMap (keys x)).length=2*all.length:=by
  clear h1 h
  induction all with
  |nil=>rfl
  |cons c all ih=>rw[List.flatMap_cons,List.length_append,ih,List.length_cons];simp[keys];omega
 omega
theorem KB{x y l:Nat}{K1:Kd}{S1:Nat→aF.Fn}{all:List Cx}{made:List Nd}(b:TB K S (lv aj) x y l all made)(h:TI K S (lv aj) x y l made K1 S1 all [] (ji all))(hnew:∀r d,K.N r=none→K1.N r=some d→0<K1.use r):Pos K1:=by
 intro r d hd
 cases hN:K.N r with
 |none=>exact hnew r d hN hd
 |some d0=>
  rw[h.mid.use hd]
  rcases b.ok.reach r d0 hN with hh|⟨p,e,hp,U8⟩
  ·have o8:K1.hold r≠0:=by rw[h.hold];exact hh
   rw[if_neg o8];omega
  ·by_cases hm:p∈all.map Cx.r
   ·obtain⟨c,hc,rfl⟩:=List.mem_map.1 hm
    have hcd:=(b.mI hc).1
    rw[hp]at hcd;cases hcd
    have:=FH (s:=r) U8 hc
    omega
   ·have zJ:=h.old hp hm
    have:cU K1.N r K1.cap≠0:=fun he=>by
     have:=iY he p (h.mid.two zJ).2 e zJ
     rcases U8 with U8|U8
     ·exact this.1 U8
     ·exact this.2 U8
    omega
theorem Ft(h:cD kp K ord aj tr C)(hok:Ok K S (lv aj))(ho:Ord K.n (lv aj) ord)(L9:Idle K){l:Nat}(hl:l+1<K.n):
  Fc Tryz.prog 59 #[ptr kp,.int .i64 (l:Int)] C (fun r C'=>
   (yS K.n ord l (K.held S)+2≤K.cap∧r=.bool true∧∃K' S' dm,cD kp K' (gI ord l) dm tr C'∧Ok K' S' (lv dm)∧Ord K'.n (lv dm) (gI ord l)∧Idle K'∧Kept K S K' S')∨
   (K.cap<yS K.n ord l (K.held S)+2∧r=.bool false∧C'=C)):=by
 have h0:=h
 have hcap:=h.cap
 obtain⟨b,hC,hO⟩:=h
 have uZ:=hO.ol
 have zN:=hO.qA
 have nb:=ho.nb hl
 obtain⟨x,hx⟩:∃x,x=ord.getD l 0:=⟨_,rfl⟩
 obtain⟨y,hy⟩:∃y,y=ord.getD (l+1) 0:=⟨_,rfl⟩
 rw[←hx,←hy]at nb
 intro g
 refine I0 (R:=aB _) ?_
 unfold L59
 have hmk:(kp,Obj.cells (b.cells K.n) 117 (0,0))∈C:=by rw[hC];exact .head _
 have Q7:∀z∈b.CO,z∈C:=by rw[hC];exact cc.sub (.cons (.app (.app (.app (.app .left)))))
 refine Nil.ptr (aa.mk (Ld.mk (v:=b.vo) hmk rfl ?_))
 refine hO.od.ld (x:=(x:Int)) (by rw[hx];exact bg (by omega)) Q7 ?_
 refine Nil.ptr (aa.mk (Ld.mk (v:=b.vo) hmk rfl ?_))
 refine ae.aN (b:=1) (by simp[aE];omega) ?_
 refine hO.od.ld (x:=(y:Int)) (by rw[hy];exact bg (by omega)) Q7 ?_
 refine ag.fn .here (ya h0 hok nb.xn) ?_
 rintro w H ⟨all,Na,rfl,aJ,AY,hlen⟩
 refine DR.self (Nil.ptr (aa.mk ?_))
 refine ag.rd .here (MG h0 nb.xn aJ hlen) ?_
 rintro w ⟨made,rfl,LX⟩
 have hml:=Lq LX
 have FV:=hok.mid.cap
 have abb:=hok.mid.room
 refine ag.rd (.app .here) (zy h0 (m:=made.length) (by omega) (by omega)) ?_
 rintro w rfl
 have aha:yS K.n ord l (K.held S)=K.used-2+made.length:=Kw (KC hok ho hl (by rw[←hx,←hy];exact AY) (by rw[←hx];exact LX))
 refine Un.not ?_
 by_cases hroom:K.used+made.length≤K.cap
 rotate_left
 ·rw[decide_eq_false hroom]
  exact Br.yes (aB.mk .right (.inr ⟨by omega,rfl,rfl⟩))
 rw[decide_eq_true hroom]
 refine Br.no ?_
 have tb:TB K S (lv aj) x y l all made:=⟨hok,nb,AY,LX,hroom⟩
 have ig:=AY.nd
 have hge:∀{i:Nat} {c:Cx},all[i]? =some c→c.r∉(all.take i).map Cx.r:=fun{i c} qj hm=>by
  have h1:(all.take (i+1)).map Cx.r=(all.take i).map Cx.r++[c.r]:=by rw[List.take_add_one,qj,List.map_append];rfl
  have h2:((all.take (i+1)).map Cx.r).Nodup:=ig.sublist ((List.take_sublist _ _).map _)
  rw[h1]at h2
  exact(List.nodup_append.1 h2).2.2 _ hm _ (by simp) rfl
 have lB:∀{i:Nat} {c:Cx},all[i]? =some c→all.take (i+1)=all.take i++[c]:=fun qj=>by rw[List.take_add_one,qj];rfl
 have Zc:∀{i:Nat} {c:Cx},all[i]? =some c→all.drop i=c::all.drop (i+1):=fun{i c} qj=>by
  obtain⟨hi,e⟩:=List.getElem?_eq_some_iff.1 qj
  rw[List.drop_eq_getElem_cons hi,e]
 have Tm:∀{i:Nat},∀c∈all.take i,c∈all:=fun c hc=>List.mem_of_mem_take hc
 have hmD:∀{i:Nat},∀c∈all.drop i,c∈all:=fun c hc=>List.mem_of_mem_drop hc
 refine aJ.bQ ?_
 rw[List.length_map]
 refine⟨fun vs H=>∃(i:Nat) (T':Nd→Option Nat) (C1:Hp),vs=[.int .i64 (i:Int)]∧H=Na++C1∧i≤all.length∧cD kp {K with T:=T'} ord aj tr C1∧iK {K with T:=T'} S (fun s=>∃c∈all.take i,s=c.r) zero'∧(∀d,T' d=none∨T' d=K.T d),
  fun vs _=>all.length-bK vs 0,JE.mk ⟨0,K.T,C,rfl,rfl,Nat.zero_le _,h0,hok.mid.congr (fun s=>by simp[gP]) (fun _ _=>rfl),fun _=>.inr rfl⟩,?_⟩
 rintro w H ⟨i,T',C1,hw,rfl,hi,fx,Ii,Ih⟩ gs
 simp only[List.cons.injEq,and_true]at hw
 subst hw
 refine ae.fu (Br.dec (fun hlt=>?_) (fun Pv=>?_))
 ·obtain⟨c,qj⟩:∃c,all[i]? =some c:=⟨_,List.getElem?_eq_getElem hlt⟩
  have Ie:c∈all:=List.mem_of_getElem? qj
  obtain⟨xV,Xa,hce⟩:=tb.mI Ie
  refine aJ.FP (r:=g8 c) (by rw[List.getElem?_map,qj];rfl) (fun z hz=>List.mem_append_left _ hz) ?_
  intro Cd _
  refine St.whole (r:=g8 c) (by exact .head _) rfl rfl (kx _) ?_
  obtain⟨b1,rfl,Rq⟩:=fx
  refine DR.self (Nil.ptr (aa.mk (aa.mk (Ld.mk (v:=ptr b1.pt) (.tail _ (List.mem_append_right _ (.head _))) rfl ?_))))
  refine aa.mk (aD.mk (vs:=(aZ c.d).toArray) (.head _) (by simp[g8]) rfl ?_)
  have hTc:T' c.d=some c.r:=(Ii.jF c.d c.r).2 ⟨xV,by rintro⟨c',lC,e⟩;exact hge qj (e▸List.mem_map_of_mem lC)⟩
  refine ag.fn (.cons (.app (.cons (.app .left)))) (vN (d:=c.d) Rq.ut (hok.mid.var xV) hTc) ?_
  rintro v UU ⟨rfl,SW⟩
  refine ae.aN (b:=1) (by simp[aE];omega) ?_
  refine aC.of .tail ⟨i+1,o5 T' c.d none,_,rfl,rfl,by omega,⟨{b1 with CT:=UU},rfl,{Rq with ut:=SW}⟩,(Ii.abT (r:=c.r) (d:=c.d) xV ?_).congr (fun s=>?_) (fun _ _=>rfl),fun d=>?_⟩ (by simp[bK];omega)
  ·rintro⟨c',lC,e⟩;exact hge qj (e▸List.mem_map_of_mem lC)
  ·rw[lB qj]
   constructor
   ·rintro(⟨c',lC,e⟩|e)
    ·exact⟨c',List.mem_append_left _ lC,e⟩
    ·exact⟨c,by simp,e⟩
   ·rintro⟨c',lC,e⟩
    rcases List.mem_append.1 lC with lC|lC
    ·exact .inl ⟨c',lC,e⟩
    ·simp at lC;subst lC;exact .inr e
  ·unfold o5
   split
   ·exact .inl rfl
   ·exact Ih d
 have hi':i=all.length:=by omega
 subst hi'
 rw[List.take_length]at Ii
 have hTI:=tb.start Ii Ih
 refine aJ.bQ ?_
 rw[List.length_map]
 refine⟨fun vs H=>∃(i:Nat) (K1:Kd) (S1:Nat→aF.Fn) (C1:Hp),vs=[.int .i64 (i:Int)]∧H=Na++C1∧i≤all.length∧cD kp K1 ord aj tr C1∧TI K S (lv aj) x y l made K1 S1 (all.take i) (all.drop i) (ji (all.take i))∧
   PL (ji (all.take i)) K1.N∧Idle K1∧(∀r d,K.N r=none→K1.N r=some d→0<K1.use r),
  fun vs _=>all.length-bK vs 0,JE.mk ⟨0,_,S,C1,rfl,rfl,Nat.zero_le _,fx,hTI,fun t _ h=>by simp[ji]at h,L9,fun r d h1 h2=>by rw[h1]at h2;cases h2⟩,?_⟩
 clear hTI Ii Ih fx T' C1 Pv hi
 rintro w H ⟨i,K1,S1,C1,hw,rfl,hi,fx,Ih,PJ,L7,Re⟩ gs
 simp only[List.cons.injEq,and_true]at hw
 subst hw
 refine ae.fu (Br.dec (fun hlt=>?_) (fun Pv=>?_))
 ·obtain⟨c,qj⟩:∃c,all[i]? =some c:=⟨_,List.getElem?_eq_getElem hlt⟩
  have Ie:c∈all:=List.mem_of_getElem? qj
  obtain⟨xV,Xa,hce⟩:=tb.mI Ie
  rw[Zc qj]at Ih
  have ic:∀c'∈c::all.drop (i+1),c'∈all:=by rw[←Zc qj];exact hmD
  have Xx:∀s,ji (all.take i) s≤2097152:=fun s=>by have:=xE s (all.take i);rw[List.length_take]at this;omega
  refine aJ.FP (r:=g8 c) (by rw[List.getElem?_map,qj];rfl) (fun z hz=>List.mem_append_left _ hz) ?_
  intro RE _
  refine St.whole (r:=g8 c) (by exact .head _) rfl rfl (kx _) ?_
  refine DR.self (Nil.ptr (aa.mk ?_))
  refine aa.mk (Ld.mk (by exact .head _) rfl ?_)
  refine aa.mk (Ld.mk (by exact .head _) rfl ?_)
  refine ag.fn (.cons (.app .here)) (MC tb fx Ih Tm ic Ie (k:=⟨x,c.vq,c.sb⟩) (by simp[keys]) PJ L7 (fun s=>by have:=Xx s;omega)) ?_
  rintro w C2 ⟨t0,K2,S2,rfl,dL,hT2,We,g0,PI,BQ,aeL,aaL⟩
  refine Nil.ptr (aa.mk ?_)
  refine ag.fn (.cons (.app .here)) (Kx dL hT2 PI BQ (fun s=>by have:=Xx s;omega) (hT2.pJ tb Tm We)) ?_
  rintro w C3 ⟨K3,rfl,nN,hT3,TR,abW,XC,abd,Wu⟩
  have Xw:∀s,(ji (all.take i) s+if s=t0 then 1 else 0)≤2097153:=fun s=>by have:=Xx s;split<;>omega
  refine DR.self (Nil.ptr (aa.mk ?_))
  refine aa.mk (Ld.mk (by exact .head _) rfl ?_)
  refine aa.mk (Ld.mk (by exact .head _) rfl ?_)
  refine ag.fn (.cons (.app .here)) (MC tb nN hT3 Tm ic Ie (k:=⟨x,c.vp,c.r9⟩) (by simp[keys]) TR abW (fun s=>by have:=Xw s;omega)) ?_
  rintro w C4 ⟨t1,K4,S4,rfl,Mu,hT4,Wd,g1,TQ,abV,QN,aaK⟩
  refine Nil.ptr (aa.mk ?_)
  refine ag.fn (.cons (.app .here)) (Kx Mu hT4 TQ abV (fun s=>by have:=Xw s;omega) (hT4.pJ tb Tm Wd)) ?_
  rintro w C5 ⟨K5,rfl,JN,Zg,ail,abU,XB,abc,Wt⟩
  have QY:vy K K5 (lv aj) x l t0:=vy.mono We (fun s d hs=>by rw[XB];exact QN s d (by rw[XC];exact hs))
  have QX:vy K K5 (lv aj) x l t1:=vy.mono Wd (fun s d hs=>by rw[XB];exact hs)
  have g0':(c.vq=c.sb∧t0=c.vq)∨K5.N t0=some ⟨x,c.vq,c.sb⟩:=by
   rcases g0 with g0|g0
   ·exact .inl g0
   ·exact .inr (by rw[XB];exact QN _ _ (by rw[XC];exact g0))
  have g1':(c.vp=c.r9∧t1=c.vp)∨K5.N t1=some ⟨x,c.vp,c.r9⟩:=by
   rcases g1 with g1|g1
   ·exact .inl g1
   ·exact .inr (by rw[XB];exact g1)
  have abF:((all.take i++c::all.drop (i+1)).map Cx.r).Nodup:=by rw[←Zc qj,List.take_append_drop];exact ig
  obtain⟨hTn,hT6⟩:=Zg.xq tb Tm ic abF QY QX g0' g1' (P':=ji (all.take (i+1))) (fun s _=>by
   rw[lB qj,Ht,dM ⟨y,t0,t1⟩]
   have Qb:(if t0=s then 1 else 0)=(if s=t0 then 1 else 0:Nat):=by split<;>split<;>first|rfl|(exfalso;omega)
   have e2':(if t1=s then 1 else 0)=(if s=t1 then 1 else 0:Nat):=by split<;>split<;>first|rfl|(exfalso;omega)
   simp only[Qb,e2']
   omega)
  have L1:∀{t:Nat},vy K K5 (lv aj) x l t→live K5.N t:=fun hk=>Zg.pJ tb Tm hk
  have TG:∃e,K5.N c.r=some e:=Zg.kept xV
  refine Build.mk (cs:=aZ ⟨y,t0,t1⟩) (by kernel_rfl) ?_
  intro Zt _
  refine St.whole (r:=aZ ⟨y,t0,t1⟩) (by exact .head _) rfl rfl (fun z hz=>by simp[aZ,u32]at hz;rcases hz with rfl|rfl|rfl<;>rfl) ?_
  obtain⟨b5,rfl,Zi⟩:=JN
  refine DR.self (Nil.ptr (aa.mk (aa.mk (Ld.mk (v:=ptr b5.pa) (.tail _ (.tail _ (List.mem_append_right _ (.head _)))) rfl ?_))))
  refine aa.mk (Ld.mk (by exact .tail _ (.head _)) rfl ?_)
  refine aD.whole (r:=aZ ⟨y,t0,t1⟩) (by exact .head _) rfl ?_
  have SV:y<K5.n:=by rw[Zg.n];exact nb.yn
  refine ag.fn (.cons (.cons (.app (.cons .left)))) (Qk (d:=⟨y,t0,t1⟩) Zi.ar ⟨by show y<64;have:=Zi.qA;omega,L1 QY,L1 QX⟩ TG (tb.ok.mid.two xV).1) ?_
  rintro w YR ⟨rfl,Xl⟩
  refine DR.self (Nil.ptr (aa.mk (aa.mk (Ld.mk (v:=ptr b5.pt) (.tail _ (.tail _ (List.mem_append_right _ (.head _)))) rfl ?_))))
  refine aD.whole (r:=aZ ⟨y,t0,t1⟩) (by exact .head _) rfl ?_
  refine aa.mk (Ld.mk (by exact .tail _ (.head _)) rfl ?_)
  refine ag.fn (.cons (.cons (.app (.cons (.app .left))))) (Fq (d:=⟨y,t0,t1⟩) (r:=c.r) Zi.ut SV hTn) ?_
  rintro w UU ⟨rfl,SW⟩
  refine ae.aN (b:=1) (by simp[aE];omega) ?_
  refine aC.of (.skip .tail) ⟨i+1,{K5 with N:=up K5.N c.r (some ⟨y,t0,t1⟩),T:=o5 K5.T ⟨y,t0,t1⟩ (some c.r)},S4,_,rfl,rfl,by omega,⟨{b5 with CA:=YR,CT:=UU},rfl,{Zi with ar:=Xl,ut:=SW}⟩,by rw[lB qj]at hT6⊢;exact hT6,fun t Mw hp=>?_,fun s hs=>?_,fun r d Tc hrd=>?_⟩ (by simp[bK];omega)
  ·obtain⟨c',lC,kG⟩:=zg hp
   have ach:=Tm c' lC
   have Mm:=(tb.mI ach).1
   have hlv:live K.N t:=by
    rcases kG with rfl|rfl
    ·exact tb.ok.mid.lo Mm
    ·exact tb.ok.mid.hi Mm
   rcases hlv with hlv|⟨d,hd⟩
   ·omega
   ·exact hT6.kept hd
  ·have hs':up K5.N c.r (some ⟨y,t0,t1⟩) s=none:=hs
   have hne:s≠c.r:=fun e=>by subst e;rw[aK]at hs';cases hs'
   rw[aQ hne]at hs'
   exact abU s hs'
  ·have S9:up K5.N c.r (some ⟨y,t0,t1⟩) r=some d:=hrd
   have hne:r≠c.r:=fun e=>by rw[e,xV]at Tc;cases Tc
   rw[aQ hne,XB]at S9
   have Zq:2≤r:=(hT4.mid.two S9).1
   show 0<K5.use r
   rcases aaK r d S9 with e|⟨h3,hu3⟩
   ·rw[e]at Zq⊢;exact Wt Zq
   ·rw[XC]at h3
    have h5:=abc r
    rcases aaL r d h3 with e|⟨h1,Y3⟩
    ·rw[e]at Zq⊢h5 hu3;have:=Wu Zq;omega
    ·have:=Re r d Tc h1
     have:=abd r
     omega
 have hi':i=all.length:=by omega
 subst hi'
 rw[List.take_length,List.drop_length]at Ih
 rw[List.take_length]at PJ
 have zJ:=KB tb Ih Re
 refine aJ.bQ ?_
 rw[List.length_map]
 refine⟨fun vs H=>∃(i:Nat) (K2:Kd) (C2:Hp),vs=[.int .i64 (i:Int)]∧H=Na++C2∧i≤all.length∧cD kp K2 ord aj tr C2∧iK K2 S1 gP (ji (all.drop i))∧Pos K2∧PL (ji (all.drop i)) K2.N∧vx K2 K1,
  fun vs _=>all.length-bK vs 0,JE.mk ⟨0,K1,C1,rfl,rfl,Nat.zero_le _,fx,Ih.mid.congr (fun s=>by simp[gP]) (fun _ _=>rfl),zJ,PJ,.refl K1⟩,?_⟩
 clear fx PJ hi Pv C1
 rintro w H ⟨i,K2,C2,hw,rfl,hi,dL,F3,oI,PI,dB⟩ gs
 simp only[List.cons.injEq,and_true]at hw
 subst hw
 refine ae.fu (Br.dec (fun hlt=>?_) (fun Pv=>?_))
 ·obtain⟨c,qj⟩:∃c,all[i]? =some c:=⟨_,List.getElem?_eq_getElem hlt⟩
  have Ie:c∈all:=List.mem_of_getElem? qj
  obtain⟨xV,Xa,hce⟩:=tb.mI Ie
  have Xx:∀s,ji (all.drop i) s≤2097152:=fun s=>by have:=xE s (all.drop i);rw[List.length_drop]at this;omega
  have hlo:=h0.lt (hok.mid.lo xV)
  have hhi:=h0.lt (hok.mid.hi xV)
  refine aJ.FP (r:=g8 c) (by rw[List.getElem?_map,qj];rfl) (fun z hz=>List.mem_append_left _ hz) ?_
  intro Qh _
  refine St.whole (r:=g8 c) (by exact .head _) rfl rfl (kx _) ?_
  refine DR.self (Nil.ptr (aa.mk ?_))
  refine aa.mk (aa.mk (Ld.mk (by exact .head _) rfl ?_))
  have BQ:Idle K2:=dB.idle L7
  have hub:∀s,K2.use s<2147483648:=fun s=>by have:=sS F3 BQ Xx s;omega
  rw[Zc qj,La]at F3 PI
  refine ag.fn (.cons (.app .here)) (kQ dL F3 oI PI hlo hub) ?_
  rintro w C3 ⟨rfl,K3,nN,PK,Rc,TR,L2⟩
  refine DR.self (Nil.ptr (aa.mk ?_))
  refine aa.mk (aa.mk (Ld.mk (by exact .head _) rfl ?_))
  refine ag.fn (.cons (.app .here)) (kQ nN PK Rc TR hhi (fun s=>Nat.lt_of_le_of_lt (L2.us s) (hub s))) ?_
  rintro w C4 ⟨rfl,K4,Mu,hM4,hp4,TQ,To⟩
  refine ae.aN (b:=1) (by simp[aE];omega) ?_
  exact aC.of .tail ⟨i+1,K4,C4,rfl,rfl,by omega,Mu,hM4,hp4,TQ,To.trans (L2.trans dB)⟩ (by simp[bK];omega)
 have hi':i=all.length:=by omega
 subst hi'
 rw[List.drop_length]at F3
 have BQ:Idle K2:=dB.idle L7
 obtain⟨f1,f2,f3⟩:=Ih.fin tb (K':=K2) (F3.congr (fun _=>Iff.rfl) (fun _ _=>rfl)) oI (fun h=>dB.N h) dB.n (fun r=>by show K2.ho.getD r 0=K1.ho.getD r 0;rw[dB.ho])
 have Tl:K2.n=K.n:=by rw[dB.n,Ih.n]
 obtain⟨b2,rfl,XA⟩:=dL
 refine DR.self (Nil.ptr (aa.mk (Ld.mk (v:=b2.vo) (List.mem_append_right _ (.head _)) rfl ?_)))
 refine Nil.ptr (aa.mk (Ld.mk (v:=b2.vo) (List.mem_append_right _ (.head _)) rfl ?_))
 refine ae.aN (b:=1) (by simp[aE];omega) ?_
 refine XA.od.jh (x:=(y:Int)) (.app (.cons (.app (.app (.app (.app .left)))))) (by rw[an];omega) fun CO1 zK=>?_
 refine zK.jh (x:=(x:Int)) (.app (.cons (.app (.app (.app (.app .left)))))) (by rw[List.length_set,an];omega) fun CO2 o7=>?_
 refine DR.self (Nil.ptr (aa.mk (Ld.mk (v:=b2.vl) (List.mem_append_right _ (.head _)) rfl ?_)))
 refine Nil.ptr (aa.mk (Ld.mk (v:=b2.vl) (List.mem_append_right _ (.head _)) rfl ?_))
 refine ae.aN (b:=1) (by simp[aE];omega) ?_
 have mz:=XA.ol.2
 have hxn:=nb.xn
 have SV:=nb.yn
 refine XA.lv.jh (x:=((l+1:Nat):Int)) (.app (.cons (.app (.app (.app (.app (.app .left))))))) (by rw[an];omega) fun CL1 vb=>?_
 refine vb.jh (x:=(l:Int)) (.app (.cons (.app (.app (.app (.app (.app .left))))))) (by rw[List.length_set,an];omega) fun CL2 qh=>?_
 rw[dY,dY]at o7 qh
 have AW:(ord.set l y).set (l+1) x=gI ord l:=by rw[hx,hy];rfl
 rw[AW]at o7
 have hlv:lv ((aj.set x (l+1)).set y l)=rV (lv aj) x y l:=SB nb.ne (by omega) (by omega)
 refine aB.mk .right (.inl ⟨by omega,rfl,K2,S1,_,⟨{b2 with CO:=CO2,CL:=CL2},rfl,{XA with od:=o7,lv:=qh,ol:=?_}⟩,by rw[hlv];exact f1,by rw[hlv,Tl,hx,hy];exact OF ho hl,BQ,Tl,by rw[dB.cap,Ih.cap],fun r=>?_,f2,f3⟩)
 ·rw[kM];simp;exact XA.ol
 ·show K2.ho.getD r 0=K.hold r
  rw[dB.ho];exact Ih.hold r
end
structure cW(kp:Nat)(K:Kd)(S:Nat→aF.Fn)(ord aj tr:List Nat)(C:Hp):Prop where
 rep:cD kp K ord aj tr C
 ok:Ok K S (lv aj)
 od:Ord K.n (lv aj) ord
 idle:Idle K
 tr:vv K.n K.cap (K.held S) ord tr.reverse
theorem Kept.refl(K:Kd)(S:Nat→aF.Fn):Kept K S K S:=⟨rfl,rfl,fun _=>rfl,fun _=>Iff.rfl,fun _ _=>rfl⟩
theorem Kept.trans{K K' K2:Kd}{S S' S2:Nat→aF.Fn}(h:Kept K S K' S')(h':Kept K' S' K2 S2):Kept K S K2 S2:=
 ⟨h'.n.trans h.n,h'.cap.trans h.cap,fun r=>(h'.hold r).trans (h.hold r),fun g=>(h'.held g).trans (h.held g),fun r hr=>(h'.fn r (by rw[h.hold];exact hr)).trans (h.fn r hr)⟩
section
variable {kp:Nat} {K:Kd} {ord aj tr:List Nat} {C:Hp} {S:Nat→aF.Fn}
theorem F6(h:cW kp K S ord aj tr C){l:Nat}(hl:l+1<K.n)(je:tr.length<1099511627776):Fc Tryz.prog 17 #[ptr kp,.int .i64 (l:Int)] C (fun r C'=>
   (yS K.n ord l (K.held S)+2≤K.cap∧r=.int .i64 0∧∃K' S' dm,cW kp K' S' (gI ord l) dm (tr++[l]) C'∧Kept K S K' S')∨
   (K.cap<yS K.n ord l (K.held S)+2∧r=.int .i64 9∧C'=C)):=by
 have h0:=h
 obtain⟨b,hC,hO⟩:=h.rep
 have hn:=hO.qA
 intro g
 refine Jp (R:=aB _) ?_
 unfold L17
 refine ae.aH (Br.no (ae.lss ?_))
 refine bX.or (decide ((K.n:Int) -2<l)) (fun _=>?_) (by simp) fun gs=>?_
 ·refine Nil.ptr (aa.mk (Ld.mk (v:=.int .i64 (K.n:Int)) (by rw[hC];exact .head _) rfl ?_))
  refine ae.nT (c:=(K.n:Int) -2) rfl (by omega) ?_
  exact ae.gtr ⟨rfl,rfl⟩
 ·rw[←Bool.decide_or]
  refine Br.bt (by omega) ?_
  refine ag.fn .here (Ft h.rep h.ok h.od h.idle hl) ?_
  rintro w C' (⟨hfit,rfl,K',S',dm,iJ,xS,Ti,tB,pN⟩|⟨hno,rfl,rfl⟩)
  ·refine Un.not (Br.no ?_)
   obtain⟨b',rfl,vi⟩:=iJ
   refine Nil.ptr (aa.mk (Ld.mk (v:=b'.vt) (by exact .head _) rfl ?_))
   refine au.int (e:=3) (by kernel_rfl) (by kernel_rfl) (by kernel_rfl) fun bx=>?_
   refine vi.tr.mL (.cons (.cons (.app (.app (.app (.app (.app (.app .here)))))))) (by exact .head _) (by rw[an];omega) (by rw[an];omega) fun v' JX cz=>?_
   refine Nil.ptr (aa.mk (St.one (by exact .tail (.head _)) cz.one (by simp[si.cells]) rfl ?_))
   refine aB.mk .tail (.inl ⟨hfit,rfl,K',S',dm,⟨⟨{b' with vt:=v',CR:=JX},rfl,{vi with tr:=by rw[bG];exact cz}⟩,xS,Ti,tB,?_⟩,pN⟩)
   rw[pN.n,pN.cap]
   exact(vv.ade hO.ol.1 hl hfit h.tr).congr fun g=>(pN.held g).symm
  ·exact Un.not (Br.yes (aB.here (.inr ⟨hno,rfl,rfl⟩)))
theorem Ox{l:Nat}(h:cW kp K S ord aj (tr++[l]) C)(je:tr.length<1099511627776):Fc Tryz.prog 18 #[ptr kp] C (fun r C'=>
   r=.tuple #[.int .i64 (l:Int),.int .i64 0]∧l+1<K.n∧∃K' S' dm,cW kp K' S' (gI ord l) dm tr C'∧Kept K S K' S'):=by
 have h0:=h
 obtain⟨b,hC,hO⟩:=h.rep
 have hn:=hO.qA
 have LO:=h.tr
 rw[List.reverse_append]at LO
 obtain⟨hl,hfit,zG⟩:l+1<K.n∧yS K.n ord l (K.held S)+2≤K.cap∧vv K.n K.cap (K.held S) (gI ord l) tr.reverse:=LO
 have hmk:(kp,Obj.cells (b.cells K.n) 117 (0,0))∈C:=by rw[hC];exact .head _
 intro g
 refine Jo (R:=aB _) ?_
 unfold L18
 refine ae.aH ?_
 refine bX.or false (fun _=>?_) rfl fun gs=>Br.no ?_
 ·refine Nil.ptr (aa.mk (Ld.mk (v:=b.vt) hmk rfl ?_))
  refine hO.tr.bQ ?_
  refine ae.jR ⟨rfl,?_⟩
  rw[decide_eq_false]
  rw[an,List.length_append];simp;omega
 refine Nil.ptr (aa.mk (Ld.mk (v:=b.vt) hmk rfl ?_))
 refine hO.tr.bQ ?_
 rw[an,List.length_append]
 refine ae.bF (a:=tr.length+1) (b:=1) (by simp[aE];omega) (by omega) ?_
 rw[Nat.add_sub_cancel]
 refine Nil.ptr (aa.mk (Ld.mk (v:=b.vt) hmk rfl ?_))
 refine hO.tr.ld (i:=tr.length) (x:=(l:Int)) (by rw[bG];simp[iw]) (by rw[hC];exact cc.sub (.cons (.app (.app (.app (.app (.app (.app .here)))))))) ?_
 refine ag.fn .here (Ft h.rep h.ok h.od h.idle hl) ?_
 rintro w C' (⟨_,rfl,K',S',dm,iJ,xS,Ti,tB,pN⟩|⟨hno,rfl,rfl⟩)
 rotate_left
 ·omega
 obtain⟨b',rfl,vi⟩:=iJ
 refine Nil.ptr (aa.mk (Ld.mk (v:=b'.vt) (by exact .head _) rfl ?_))
 refine vi.tr.cut (i:=tr.length) (by rw[an];simp) fun v' uX=>?_
 refine Nil.ptr (aa.mk (St.one (by exact .head _) uX.one (by simp[si.cells]) rfl ?_))
 refine aB.here ⟨rfl,hl,K',S',dm,⟨⟨{b' with vt:=v'},rfl,{vi with tr:=by rw[bG,List.take_left' (by simp)]at uX;exact uX}⟩,xS,Ti,tB,?_⟩,pN⟩
 rw[pN.n,pN.cap]
 exact zG.congr fun g=>(pN.held g).symm
theorem cW.cu(h:cW kp K S ord aj tr C){r:Nat}(hl:live K.N r):r<1048576:=h.rep.lt hl
theorem cW.nx(h:cW kp K S ord aj tr C)(r:Nat):K.hold r≤65535:=h.ok.mid.mx r
theorem cW.Bl(h:cW kp K S ord aj tr C)(r:Nat):K.use r≤2097153:=by have:=sS h.ok.mid h.idle (M:=0) (fun _=>Nat.le_refl _) r;omega
structure Qv(K K':Kd)(r:Nat):Prop where
 n:K'.n=K.n
 cap:K'.cap=K.cap
 used:K'.used=K.used
 N:K'.N=K.N
 hold:∀s,K'.hold s=if s=r∧2≤r then K.hold s+1 else K.hold s
theorem HQ(h:cW kp K S ord aj tr C){r:Nat}(hl:live K.N r)(h2:2≤r)(hf:K.hold r=65535):Rd Tryz.prog 121 #[ptr kp,u32 r] C (· =.int .i64 8):=by
 have hr:=h.cu hl
 obtain⟨b,hC,hO⟩:=h.rep
 have hfit:r<K.ho.length:=by
  rcases hl with hl|⟨d,hd⟩
  ·omega
  ·rw[←hO.ul.1];exact h.ok.mid.fit hd
 intro g
 refine uz (R:=aB _) ?_
 unfold L121
 refine ae.aH (Br.no (Nil.ptr (aa.mk ?_)))
 refine ag.rd .here (mw h.rep (by omega)) ?_
 rintro w rfl
 rw[bT.2 hl]
 refine Un.not (Br.no ?_)
 intro J7 _
 refine ae.lP (b:=1) (Br.eU (by omega) ?_)
 refine Nil.ptr (aa.mk (aa.mk (Ld.mk (v:=b.vh) (by rw[hC];exact .head _) rfl ?_)))
 refine hO.ho.ld (x:=((K.hold r:Nat):Int)) (bg hfit) (by rw[hC];exact cc.sub (.cons (.app (.app (.app .left))))) ?_
 rw[hf]
 exact ae.jR (Br.eU rfl (cw.mk (.refl _) rfl))
theorem zC(h:cD kp K ord aj tr C)(Vn:iK K S gP zero')(Pu:Idle K){r:Nat}(hl:live K.N r)(hf:2≤r→K.hold r<65535):Fc Tryz.prog 121 #[ptr kp,u32 r] C (fun v C'=>v=.int .i64 0∧∃K',cD kp K' ord aj [] C'∧
  iK K' S gP zero'∧Idle K'∧Qv K K' r∧(∀s,K.use s≤K'.use s)∧(2≤r→0<K'.use r)):=by
 have hr:=h.lt hl
 have h0:=h
 obtain⟨b,hC,hO⟩:=h
 intro g
 refine uz (R:=aB _) ?_
 unfold L121
 refine ae.aH (Br.no (Nil.ptr (aa.mk ?_)))
 refine ag.rd .here (mw h0 (by omega)) ?_
 rintro w rfl
 rw[bT.2 hl]
 refine Un.not (Br.no ?_)
 intro J7 hJ7
 have fin:∀(K':Kd) C1,cD kp K' ord aj tr C1→iK K' S gP zero'→Idle K'→Qv K K' r→(∀s,K.use s≤K'.use s)→(2≤r→0<K'.use r)→J7 [] C1:=fun K' C1 iJ xS tB hm hu hp=>by
  refine hJ7 _ fun gs=>?_
  obtain⟨b',rfl,vi⟩:=iJ
  refine Nil.ptr (aa.mk (St.one (by exact .head _) rfl (by simp[si.cells]) rfl ?_))
  refine aB.mk (lS:=({b' with vt:=.slice none 0 0,CR:=[]}:si).hp kp K'.n) ?_ ⟨rfl,K',⟨{b' with vt:=.slice none 0 0,CR:=[]},rfl,{vi with tr:=aP.nil}⟩,xS,tB,hm,hu,hp⟩
  refine .cons (.c8 (.c8 (.c8 (.c8 (.c8 (.c8 .nil _) _) _) _) _) _)
 refine ae.lP (b:=1) (Br.dec (fun h2=>?_) (fun h2=>?_))
 rotate_left
 ·refine JE.mk (fin K C h0 Vn Pu ⟨rfl,rfl,rfl,rfl,fun s=>?_⟩ (fun _=>Nat.le_refl _) (fun h=>by omega))
  rw[if_neg (by omega)]
 have mB:2≤r:=by omega
 have zV:=hf mB
 obtain⟨d,hd⟩:∃d,K.N r=some d:=by
  rcases hl with hl|hl
  ·omega
  ·exact hl
 have W0:=Vn.fit hd
 have HU:=hO.ul
 have hfit:r<K.ho.length:=by omega
 subst hC
 refine Nil.ptr (aa.mk (aa.mk (Ld.mk (v:=b.vh) (by exact .head _) rfl ?_)))
 refine hO.ho.ld (x:=((K.hold r:Nat):Int)) (bg hfit) (cc.sub (.cons (.app (.app (.app .left))))) ?_
 refine ae.jR (Br.bt (by omega) ?_)
 refine Nil.ptr (aa.mk (aa.mk (Ld.mk (v:=b.vh) (by exact .head _) rfl ?_)))
 refine hO.ho.ld (x:=((K.hold r:Nat):Int)) (bg hfit) (cc.sub (.cons (.app (.app (.app .left))))) ?_
 refine ae.aN (b:=1) (by simp[aE];omega) ?_
 refine hO.ho.jh (x:=((K.hold r+1:Nat):Int)) (.cons (.app (.app (.app .left)))) (by rw[an];exact hfit) fun NH o8=>?_
 rw[dY]at o8
 have g1:∀s,(K.ho.set r (K.hold r+1)).getD s 0=if s=r then K.hold r+1 else K.hold s:=fun s=>fS hfit
 refine Nil.ptr (aa.mk (aa.mk (Ld.mk (v:=b.vh) (by exact .head _) rfl ?_)))
 refine o8.ld (x:=((K.hold r+1:Nat):Int)) (by rw[bg (by simpa using hfit),g1,if_pos rfl]) (cc.sub (.cons (.app (.app (.app .left))))) ?_
 refine ae.gn (b:=1) (Br.dec (fun h3=>?_) (fun h3=>?_))
 ·refine Nil.ptr (aa.mk (aa.mk (Ld.mk (v:=b.vu) (by exact .head _) rfl ?_)))
  refine hO.us.ld (x:=((K.use r:Nat):Int)) (bg W0) (cc.sub (.cons (.app (.app .left)))) ?_
  have hub:=sS Vn Pu (M:=0) (fun _=>Nat.le_refl _) r
  refine ae.aN (b:=1) (by simp[aE];omega) ?_
  refine hO.us.jh (x:=((K.use r+1:Nat):Int)) (.cons (.app (.app .left))) (by rw[an];exact W0) fun Om AV=>?_
  rw[dY]at AV
  have g2:∀s,(K.us.set r (K.use r+1)).getD s 0=if s=r then K.use r+1 else K.use s:=fun s=>fS W0
  have hM:=Vn.keep (r:=r) (de:=K.us.set r (K.use r+1)) (cz:=K.ho.set r (K.hold r+1)) ⟨d,hd⟩ zV (by simp) (by rw[g1,if_pos rfl]) (fun s hs=>by rw[g1,if_neg hs]) (by rw[g2,if_pos rfl,if_pos (by omega)]) (fun s hs=>by rw[g2,if_neg hs])
  refine JE.mk (fin {K with us:=K.us.set r (K.use r+1),ho:=K.ho.set r (K.hold r+1)} _ ⟨{b with CU:=Om,CH:=NH},rfl,{hO with us:=AV,ho:=o8,ul:=by simp;exact HU}⟩ hM (fun s hs=>?_) ⟨rfl,rfl,rfl,rfl,fun s=>?_⟩ (fun s=>?_) (fun _=>?_))
  ·show(K.us.set r (K.use r+1)).getD s 0=0
   have hs':K.N s=none:=hs
   rw[g2,if_neg (fun e=>by rw[e,hd]at hs';cases hs')];exact Pu s hs'
  ·show(K.ho.set r (K.hold r+1)).getD s 0=_
   rw[g1]
   by_cases e:s=r
   ·subst e;rw[if_pos rfl,if_pos ⟨rfl,mB⟩]
   ·rw[if_neg e,if_neg (fun h=>e h.1)]
  ·show K.use s≤(K.us.set r (K.use r+1)).getD s 0
   rw[g2];split
   ·rename_i e;subst e;omega
   ·exact Nat.le_refl _
  ·show 0<(K.us.set r (K.use r+1)).getD r 0
   rw[g2,if_pos rfl];omega
 ·have hM:=Vn.keep (r:=r) (de:=K.us) (cz:=K.ho.set r (K.hold r+1)) ⟨d,hd⟩ zV (by simp) (by rw[g1,if_pos rfl]) (fun s hs=>by rw[g1,if_neg hs]) (by show K.use r=_;rw[if_neg (by omega)];rfl) (fun s hs=>rfl)
  refine JE.mk (fin {K with ho:=K.ho.set r (K.hold r+1)} _ ⟨{b with CH:=NH},rfl,{hO with ho:=o8,ul:=by simp;exact HU}⟩ hM Pu ⟨rfl,rfl,rfl,rfl,fun s=>?_⟩ (fun _=>Nat.le_refl _) (fun _=>?_))
  rotate_left
  ·show 0<K.use r
   rw[Vn.use hd,if_neg (by omega)];omega
  show(K.ho.set r (K.hold r+1)).getD s 0=_
  rw[g1]
  by_cases e:s=r
  ·subst e;rw[if_pos rfl,if_pos ⟨rfl,mB⟩]
  ·rw[if_neg e,if_neg (fun h=>e h.1)]
theorem pK(h:cW kp K S ord aj tr C){r:Nat}(hl:live K.N r)(hf:2≤r→K.hold r<65535):Fc Tryz.prog 121 #[ptr kp,u32 r] C (fun v C'=>v=.int .i64 0∧∃K',cW kp K' S ord aj [] C'∧Qv K K' r):=by
 refine(zC h.rep h.ok.mid h.idle hl hf).mono ?_
 rintro v C' ⟨rfl,K',iJ,Zj,tB,hm,hu,hp⟩
 refine⟨rfl,K',⟨iJ,⟨Zj,fun s d hs=>?_,by rw[hm.n];exact h.ok.lv,by rw[hm.n,hm.N];exact h.ok.wf⟩,by rw[hm.n];exact h.od,tB,trivial⟩,hm⟩
 rw[hm.N]at hs
 exact Nat.lt_of_lt_of_le (h.ok.pos s d hs) (hu s)
end
section
variable {kp:Nat} {K:Kd} {ord aj tr:List Nat} {C:Hp} {S:Nat→aF.Fn}
theorem FO{K':Kd}{P:Nat→Nat}(hw:WF K.n (lv aj) K.N)(hM:iK K' S gP P)(hN:∀{s d},K'.N s=some d→K.N s=some d)(hn:K'.n=K.n):WF K'.n (lv aj) K'.N:=by
 have same:∀{t},live K'.N t→dep K'.n (lv aj) K'.N t=dep K.n (lv aj) K.N t:=fun{t} ht=>by
  cases e:K'.N t with
  |some f=>rw[ax e,ax (hN e)]
  |none=>
   have Q6:t<2:=by
    rcases ht with ht|⟨f,hf⟩
    ·exact ht
    ·rw[e]at hf;cases hf
   rw[aX e,aX (hw.const Q6),hn]
 refine hM.wf fun{s d} hs=>?_
 rw[same (hM.lo hs),same (hM.hi hs)]
 exact⟨(hw.lo (hN hs)).2,(hw.hi (hN hs)).2⟩
structure wW(K K':Kd)(r:Nat):Prop where
 n:K'.n=K.n
 cap:K'.cap=K.cap
 N:∀s d,K'.N s=some d→K.N s=some d
 hold:∀s,K'.hold s=if s=r∧2≤r then K.hold s-1 else K.hold s
theorem XZ(h:cW kp K S ord aj tr C){r:Nat}(hr:r<4294967296)(h2:2≤r)(h0:K.hold r=0):Rd Tryz.prog 131 #[ptr kp,u32 r] C (· =.int .i64 3):=by
 intro g
 refine ux (R:=aB _) ?_
 unfold L131
 refine ae.aH (Br.no ?_)
 intro J2 _
 refine ae.lP (b:=1) (Br.eU (by omega) ?_)
 refine ag.rd .here (tq h.rep hr (fun s=>by have:=h.nx s;omega)) ?_
 rintro w rfl
 rw[h0]
 exact ae.jR (Br.eU rfl (cw.mk (.refl _) rfl))
theorem pU(h:cW kp K S ord aj tr C){r:Nat}(hr:r<4294967296)(hh:2≤r→K.hold r≠0):Fc Tryz.prog 131 #[ptr kp,u32 r] C (fun v C'=>v=.int .i64 0∧∃K',cW kp K' S ord aj [] C'∧wW K K' r):=by
 have h0:=h
 obtain⟨b,hC,hO⟩:=h.rep
 intro g
 refine ux (R:=aB _) ?_
 unfold L131
 refine ae.aH (Br.no ?_)
 intro J2 wy
 have fin:∀(K':Kd) C1,cD kp K' ord aj tr C1→Ok K' S (lv aj)→Idle K'→wW K K' r→J2 [] C1:=fun K' C1 iJ xS tB hm=>by
  refine wy _ fun gs=>?_
  obtain⟨b',rfl,vi⟩:=iJ
  refine Nil.ptr (aa.mk (St.one (by exact .head _) rfl (by simp[si.cells]) rfl ?_))
  have jH:Ord K'.n (lv aj) ord:=by rw[hm.n];exact h.od
  refine aB.mk (lS:=({b' with vt:=.slice none 0 0,CR:=[]}:si).hp kp K'.n) ?_ ⟨rfl,K',⟨⟨{b' with vt:=.slice none 0 0,CR:=[]},rfl,{vi with tr:=aP.nil}⟩,xS,jH,tB,trivial⟩,hm⟩
  refine .cons (.c8 (.c8 (.c8 (.c8 (.c8 (.c8 .nil _) _) _) _) _) _)
 refine ae.lP (b:=1) (Br.dec (fun h2=>?_) (fun h2=>?_))
 rotate_left
 ·exact JE.mk (fin K C h.rep h.ok h.idle ⟨rfl,rfl,fun _ _ h=>h,fun s=>by rw[if_neg (by omega)]⟩)
 have mB:2≤r:=by omega
 have o8:=hh mB
 obtain⟨d,hd⟩:=h.ok.mid.held r o8
 have W0:=h.ok.mid.fit hd
 have HU:=hO.ul
 have hfit:r<K.ho.length:=by omega
 have hle:=h.nx r
 refine ag.rd .here (tq h.rep hr (fun s=>by have:=h.nx s;omega)) ?_
 rintro w rfl
 refine ae.jR (Br.bt (by omega) ?_)
 subst hC
 refine Nil.ptr (aa.mk (aa.mk (Ld.mk (v:=b.vh) (by exact .head _) rfl ?_)))
 refine hO.ho.ld (x:=((K.hold r:Nat):Int)) (bg hfit) (cc.sub (.cons (.app (.app (.app .left))))) ?_
 refine ae.bF (b:=1) (by simp[aE];omega) (by omega) ?_
 refine hO.ho.jh (x:=((K.hold r-1:Nat):Int)) (.cons (.app (.app (.app .left)))) (by rw[an];exact hfit) fun NH Tx=>?_
 rw[dY]at Tx
 have g1:∀s,(K.ho.set r (K.hold r-1)).getD s 0=if s=r then K.hold r-1 else K.hold s:=fun s=>fS hfit
 have hM:=h.ok.mid.drop (r:=r) (cz:=K.ho.set r (K.hold r-1)) (by omega) (by simp) (by rw[g1,if_pos rfl];omega) (fun s hs=>by rw[g1,if_neg hs])
 have fx:cD kp {K with ho:=K.ho.set r (K.hold r-1)} ord aj tr (({b with CH:=NH}:si).hp kp K.n):=⟨_,rfl,{hO with ho:=Tx,ul:=by simp;exact HU}⟩
 have WV:∀s,(K.ho.set r (K.hold r-1)).getD s 0=if s=r∧2≤r then K.hold s-1 else K.hold s:=fun s=>by
  rw[g1]
  by_cases e:s=r
  ·subst e;rw[if_pos rfl,if_pos ⟨rfl,mB⟩]
  ·rw[if_neg e,if_neg (fun h=>e h.1)]
 refine Nil.ptr (aa.mk (aa.mk (Ld.mk (v:=b.vh) (by exact .head _) rfl ?_)))
 refine Tx.ld (x:=((K.hold r-1:Nat):Int)) (by rw[bg (by simpa using hfit),g1,if_pos rfl]) (cc.sub (.cons (.app (.app (.app .left))))) ?_
 refine ae.gn (b:=0) (Br.dec (fun h3=>?_) (fun h3=>?_))
 rotate_left
 ·rw[if_neg (by omega)]at hM
  exact JE.mk (fin {K with ho:=K.ho.set r (K.hold r-1)} _ fx ⟨hM,h.ok.pos,h.ok.lv,h.ok.wf⟩ h.idle ⟨rfl,rfl,fun _ _ h=>h,WV⟩)
 rw[if_pos (by omega)]at hM
 refine Nil.ptr (aa.mk ?_)
 have F3:iK {K with ho:=K.ho.set r (K.hold r-1)} S gP (fU zero' [r]):=hM.congr (fun _=>Iff.rfl) fun s _=>by
  unfold up fU zero'
  by_cases e:s=r
  ·subst e;simp
  ·simp[e,Ne.symm e]
 refine ag.fn .here (kQ (P0:=zero') fx F3 h.ok.pos (fun t Mw h0=>?_) (h.cu (.inr ⟨d,hd⟩)) (fun s=>by have:=h.Bl s;show K.use s<_;omega)) ?_
 ·by_cases e:t=r
  ·subst e;exact⟨d,hd⟩
  ·have Ry:0<zero' t+[r].count t:=h0
   simp[zero',Ne.symm e]at Ry
 rintro w C2 ⟨rfl,K2,dL,PK,Rc,_,dB⟩
 refine JE.mk (fin K2 _ dL ⟨PK,Rc,by rw[dB.n];exact h.ok.lv,FO h.ok.wf PK (fun h=>dB.N h) dB.n⟩ (dB.idle h.idle) ⟨dB.n,dB.cap,fun s e hs=>dB.N hs,fun s=>?_⟩)
 show K2.ho.getD s 0=_
 rw[dB.ho]
 exact WV s
structure n8(K:Kd)(S:Nat→aF.Fn)(K':Kd)(S':Nat→aF.Fn)(f:aF.Fn)(r:Nat):Prop where
 n:K'.n=K.n
 cap:K'.cap=K.cap
 used:K'.used≤K.used+1
 N:∀s d,K.N s=some d→K'.N s=some d
 fn:∀s,live K.N s→S' s=S s
 live:live K'.N r
 is:S' r=f
 hold:∀s,K'.hold s=if s=r∧2≤r then K.hold s+1 else K.hold s
theorem xK(h:cW kp K S ord aj tr C){v lo hi:Nat}(hv:v<K.n)(hlo:live K.N lo)(hhi:live K.N hi)(hlt:lo=hi∨(lv aj v<dep K.n (lv aj) K.N lo∧lv aj v<dep K.n (lv aj) K.N hi)):
  Fc Tryz.prog 164 #[ptr kp,.int .i64 (v:Int),u32 lo,u32 hi] C (fun w C'=>
   (∃r K' S',w=.tuple #[u32 r,.int .i64 0]∧cW kp K' S' ord aj [] C'∧n8 K S K' S' (ite S ⟨v,lo,hi⟩) r)∨
   (∃r,w=.tuple #[u32 0,.int .i64 8]∧C'=C∧live K.N r∧2≤r∧K.hold r=65535∧S r=ite S ⟨v,lo,hi⟩)∨
   (w=.tuple #[u32 0,.int .i64 9]∧C'=C∧K.cap≤K.used∧lo≠hi∧K.T ⟨v,lo,hi⟩=none)):=by
 have h0:=h
 have ahu:=h.cu hlo
 have ahH:=h.cu hhi
 have vb:=bT.2 hlo
 have qh:=bT.2 hhi
 have hfe:rK K aj (v:Int) lo hi=0:=by
  unfold rK
  rw[if_neg (by omega),if_neg (by rw[vb,qh];simp),if_neg]
  rintro⟨hne,hmin⟩
  rcases hlt with e|⟨a,b⟩
  ·exact hne e
  ·simp only[Int.toNat_natCast,lv]at hmin a b;omega
 intro g
 refine Et (R:=aB _) ?_
 unfold L164
 refine ae.aH (Br.no ?_)
 refine ag.rd .here (P6 h.rep (v:Int) (by omega) (by omega) (fun r d hd=>⟨h.ok.mid.var hd,(h.ok.mid.two hd).1⟩)) ?_
 rintro w rfl
 rw[hfe]
 refine ae.dh (Br.bt (by simp) ?_)
 refine ag.rd .here (OM h.rep (lo:=lo) (hi:=hi) hv) ?_
 rintro w hw
 have there:∀(J9:List Value→Hp→Prop),(∀gV:Value,∀eu:Hp,(∀vj:Fr,ag Tryz.prog g 121 #[ptr kp,gV] eu (fun br jN=>ae .num .neq br (Value.int .i64 0) fun bB=>Br bB
   (aB (fun w C'=>(∃r K' S',w=.tuple #[u32 r,.int .i64 0]∧cW kp K' S' ord aj [] C'∧n8 K S K' S' (ite S ⟨v,lo,hi⟩) r)∨
   (∃r,w=.tuple #[u32 0,.int .i64 8]∧C'=C∧live K.N r∧2≤r∧K.hold r=65535∧S r=ite S ⟨v,lo,hi⟩)∨
   (w=.tuple #[u32 0,.int .i64 9]∧C'=C∧K.cap≤K.used∧lo≠hi∧K.T ⟨v,lo,hi⟩=none)) (.returned (.tuple #[(Value.int .u32 0),br])) jN) (aB (fun w C'=>(∃r K' S',w=.tuple #[u32 r,.int .i64 0]∧cW kp K' S' ord aj [] C'∧n8 K S K' S' (ite S ⟨v,lo,hi⟩) r)∨
   (∃r,w=.tuple #[u32 0,.int .i64 8]∧C'=C∧live K.N r∧2≤r∧K.hold r=65535∧S r=ite S ⟨v,lo,hi⟩)∨
   (w=.tuple #[u32 0,.int .i64 9]∧C'=C∧K.cap≤K.used∧lo≠hi∧K.T ⟨v,lo,hi⟩=none)) (.returned (.tuple #[gV,(Value.int .i64 0)])) jN)) (aq (aB (fun w C'=>(∃r K' S',w=.tuple #[u32 r,.int .i64 0]∧cW kp K' S' ord aj [] C'∧n8 K S K' S' (ite S ⟨v,lo,hi⟩) r)∨
   (∃r,w=.tuple #[u32 0,.int .i64 8]∧C'=C∧live K.N r∧2≤r∧K.hold r=65535∧S r=ite S ⟨v,lo,hi⟩)∨
   (w=.tuple #[u32 0,.int .i64 9]∧C'=C∧K.cap≤K.used∧lo≠hi∧K.T ⟨v,lo,hi⟩=none)))))→J9 [gV] eu)→
   ∀r,live K.N r→S r=ite S ⟨v,lo,hi⟩→J9 [u32 r] C:=fun J9 Mv r hr hS=>by
  refine Mv _ _ fun gs=>?_
  by_cases hf:2≤r∧K.hold r=65535
  ·refine ag.rd .here (HQ h hr hf.1 hf.2) ?_
   rintro w rfl
   exact ae.dh (Br.eU (by simp) (aB.here (.inr (.inl ⟨r,rfl,rfl,hr,hf.1,hf.2,hS⟩))))
  ·refine ag.fn .here (pK h hr (fun h2=>by have:=h.nx r;omega)) ?_
   rintro w C' ⟨rfl,K',iJ,hm⟩
   refine ae.dh (Br.bt (by simp) (aB.here (.inl ⟨r,K',S,rfl,iJ,⟨hm.n,hm.cap,by rw[hm.used];omega,fun s d hs=>by rw[hm.N];exact hs,fun _ _=>rfl,by rw[hm.N];exact hr,hS,hm.hold⟩⟩)))
 by_cases he:lo=hi
 ·rw[if_pos he]at hw
  subst hw
  refine Ext.mk rfl (Ext.mk rfl ?_)
  intro J9 Mv
  refine Un.not (Br.no (JE.mk (there J9 Mv lo hlo ?_)))
  funext z
  unfold aF.ite
  simp[he]
 rw[if_neg he]at hw
 have gZ:lv aj v<dep K.n (lv aj) K.N lo∧lv aj v<dep K.n (lv aj) K.N hi:=by
  rcases hlt with e|e
  ·exact absurd e he
  ·exact e
 obtain⟨o,ho⟩:∃o,o=K.T ⟨v,lo,hi⟩:=⟨_,rfl⟩
 cases o with
 |some r=>
  have hT:K.T ⟨v,lo,hi⟩=some r:=ho.symm
  rw[hT]at hw
  subst hw
  refine Ext.mk rfl (Ext.mk rfl ?_)
  intro J9 Mv
  have hN:=((h.ok.mid.jF _ r).1 hT).1
  refine Un.not (Br.no (JE.mk (there J9 Mv r (.inr ⟨_,hN⟩) ?_)))
  funext z
  rw[h.ok.mid.int.node hN]
  rfl
 |none=>
  have hT:K.T ⟨v,lo,hi⟩=none:=ho.symm
  rw[hT]at hw
  subst hw
  refine Ext.mk rfl (Ext.mk rfl ?_)
  intro J9 Mv
  refine Un.not (Br.yes (Nil.ptr (aa.mk ?_)))
  have hcap:=h.ok.mid.cap
  refine ag.rd .here (zy h.rep (m:=1) (by omega) (by omega)) ?_
  rintro w rfl
  refine Un.not ?_
  by_cases hroom:K.used+1≤K.cap
  rotate_left
  ·rw[decide_eq_false hroom]
   exact Br.yes (aB.here (.inr (.inr ⟨rfl,rfl,by omega,he,hT⟩)))
  rw[decide_eq_true hroom]
  refine Br.no (Nil.ptr (aa.mk ?_))
  refine Build.mk (cs:=aZ ⟨v,lo,hi⟩) (by kernel_rfl) ?_
  have hfit:∀{t:Nat},live K.N t→t<2∨t<K.us.length:=fun ht'=>by
   rcases ht' with ht'|⟨d,c9⟩
   ·exact .inl ht'
   ·exact .inr (h.ok.mid.fit c9)
  have zN:K.n≤64:=by obtain⟨_,_,hO⟩:=h.rep;exact hO.qA
  refine ag.fn .here (Fv h.rep (d:=⟨v,lo,hi⟩) ⟨by show v<64;omega,hlo,hhi⟩ hv hT (by omega) (hfit hlo) (hfit hhi) (fun s=>by have:=h.Bl s;omega)) ?_
  rintro w C1 ⟨r,de,cz,rfl,hN,h2,hrc,hlen,hru,HU,u0,u1,u2,o0,o1,fx⟩
  have Ii:=h.ok.mid.lay (r:=r) (d:=⟨v,lo,hi⟩) hN ⟨h2,hrc⟩ hv he hlo hhi hT (fun h=>h) rfl (by omega) hlen ⟨hru,HU⟩ u0 u1 o0 o1
  have acB:∀s d,K.N s=some d→up K.N r (some ⟨v,lo,hi⟩) s=some d:=fun s d hs=>by rw[aQ (fun e=>by rw[e,hN]at hs;cases hs)];exact hs
  have hne:∀{t:Nat},live K.N t→t≠r:=fun ht=>fw ht h2 hN
  have L7:Idle {K with N:=up K.N r (some ⟨v,lo,hi⟩),T:=o5 K.T ⟨v,lo,hi⟩ (some r),used:=K.used+1,us:=de,ho:=cz}:=fun s hs=>by
   have hs':up K.N r (some ⟨v,lo,hi⟩) s=none:=hs
   have S8:s≠r:=fun e=>by subst e;rw[aK]at hs';cases hs'
   rw[aQ S8]at hs'
   show de.getD s 0=0
   by_cases Vp:2≤s
   ·rw[u1 s Vp S8,h.idle s hs',dM]
    have a1:lo≠s:=fun e=>by
     rcases hlo with h5|⟨d,h5⟩
     ·omega
     ·rw[e,hs']at h5;cases h5
    have a2:hi≠s:=fun e=>by
     rcases hhi with h5|⟨d,h5⟩
     ·omega
     ·rw[e,hs']at h5;cases h5
    simp[a1,a2]
   ·rw[u2 s (by omega),h.idle s hs']
  refine JE.mk (Mv _ _ fun gs=>?_)
  refine ag.fn .here (zC fx Ii L7 (r:=r) (.inr ⟨_,aK⟩) (fun _=>by show cz.getD r 0<65535;rw[o0];omega)) ?_
  rintro w C2 ⟨rfl,K2,dL,F3,BQ,hm,hu,hp⟩
  refine ae.dh (Br.bt (by simp) ?_)
  have Tl:K2.n=K.n:=hm.n
  have TT:K2.N=up K.N r (some ⟨v,lo,hi⟩):=hm.N
  have hpos:Pos K2:=fun s d hs=>by
   by_cases e:s=r
   ·rw[e];exact hp h2
   ·rw[TT,aQ e]at hs
    have h3:=hu s
    have h4:({K with N:=up K.N r (some ⟨v,lo,hi⟩),T:=o5 K.T ⟨v,lo,hi⟩ (some r),used:=K.used+1,us:=de,ho:=cz}:Kd).use s=de.getD s 0:=rfl
    rw[h4,u1 s (h.ok.mid.two hs).1 e]at h3
    have:=h.ok.pos s d hs
    omega
  have xU:∀{t:Nat},live K.N t→dep K2.n (lv aj) K2.N t=dep K.n (lv aj) K.N t:=fun{t} ht=>by
   rw[TT,Tl]
   unfold dep
   rw[aQ (hne ht)]
  have aa8:WF K2.n (lv aj) K2.N:=F3.wf fun{s d} hs=>by
   rw[TT]at hs
   by_cases e:s=r
   ·rw[e,aK]at hs;cases hs
    rw[xU hlo,xU hhi];exact gZ
   ·rw[aQ e]at hs
    rw[xU (h.ok.wf.lo hs).1,xU (h.ok.wf.hi hs).1]
    exact⟨(h.ok.wf.lo hs).2,(h.ok.wf.hi hs).2⟩
  have hS:∀s,live K.N s→up S r (ite S ⟨v,lo,hi⟩) s=S s:=fun s hs=>aQ (hne hs)
  refine aB.here (.inl ⟨r,K2,up S r (ite S ⟨v,lo,hi⟩),rfl,⟨dL,⟨F3,hpos,by rw[Tl];exact h.ok.lv,aa8⟩,by rw[Tl];exact h.od,BQ,trivial⟩,⟨Tl,hm.cap,by rw[hm.used];exact Nat.le_refl _,fun s d hs=>by rw[TT];exact acB s d hs,hS,.inr ⟨_,by rw[TT];exact aK⟩,aK,fun s=>?_⟩⟩)
  rw[hm.hold]
  show(if s=r∧2≤r then cz.getD s 0+1 else cz.getD s 0)=_
  by_cases e:s=r
  ·subst e
   rw[if_pos ⟨rfl,h2⟩,if_pos ⟨rfl,h2⟩,o0]
   have:K.hold s=0:=by
    apply Decidable.byContradiction
    intro hne
    obtain⟨d,hd⟩:=h.ok.mid.held s hne
    rw[hN]at hd;cases hd
   omega
  ·rw[if_neg (fun h=>e h.1),if_neg (fun h=>e h.1),o1 s e]
end
theorem hnew{H:Hp}:cc [] H (fun X=>X++H):=cc.left
theorem LM{n:Nat}(hn:n≤64):Fc Tryz.prog 185 #[.int .i64 (n:Int)] [] (fun v H=>aP 3 .i64 v (iw (List.range n)) H):=by
 intro g
 refine Ei (R:=aB _) ?_
 unfold L185
 refine cZ.ints (by omega) (by omega) fun b=>?_
 have h0:aP 3 .i64 (.slice (some ⟨b,0,none⟩) n n) (List.replicate n 0) [(b,.cells (aA .i64 (List.replicate n 0)) 3 (0,0))]:=by
  have:=aP.made (T:=3) (kd:=.i64) (b:=b) (List.replicate n (0:Int))
  rw[List.length_replicate]at this;exact this
 refine⟨fun vs H=>∃j:Nat,vs=[.int .i64 (j:Int)]∧j≤n∧aP 3 .i64 (.slice (some ⟨b,0,none⟩) n n) (iw (List.range j)++List.replicate (n-j) 0) H,fun vs _=>n-bK vs 0,JE.mk ⟨0,rfl,by omega,by simpa[iw]using h0⟩,?_⟩
 rintro w H ⟨j,hw,hj,hs⟩ gs
 simp only[List.cons.injEq,and_true]at hw
 subst hw
 refine ae.fu (Br.dec (fun hlt=>?_) (fun hlt=>?_))
 ·refine hs.jh (x:=(j:Int)) .here (by simp;omega) fun C' hs'=>?_
  refine ae.aN (b:=1) (by simp[aE];omega) ?_
  have e:(iw (List.range j)++List.replicate (n-j) 0).set j (j:Int)=iw (List.range (j+1))++List.replicate (n-(j+1)) 0:=by
   rw[List.set_append_right _ _ (by simp)]
   rw[show n-j=(n-(j+1))+1 by omega,List.replicate_succ,List.range_succ,bG]
   simp[iw]
  rw[e]at hs'
  exact aC.of (.refl _) ⟨j+1,rfl,by omega,hs'⟩ (by show n-(((j+1:Nat):Int).toNat)<n-(((j:Nat):Int).toNat);omega)
 ·obtain rfl:j=n:=by omega
  exact aB.here (by simpa using hs)
theorem zF{n:Nat}(hn:n≤64):Fc Tryz.prog 116 #[.int .i64 (n:Int)] [] (fun v H=>∃s,v=.tuple #[s,.int .i64 0]∧aP 3 .i64 s (iw (List.range n)) H):=by
 intro g
 refine ES (R:=aB _) ?_
 unfold L116
 refine ae.lss ?_
 rw[decide_eq_false (by omega)]
 refine bX.or false (fun _=>ae.gtr ⟨rfl,by rw[decide_eq_false (by omega)]⟩) rfl fun _=>Br.no ?_
 refine ag.fn .here (LM hn) ?_
 intro s H hs
 exact aB.here ⟨s,rfl,hs⟩
def K0(n cap:Nat):Kd:=⟨n,cap,2,fun _=>none,fun _=>none,[],[]⟩
def S0:Nat→aF.Fn:=fun r _=>decide (r=1)
theorem mq{n v:Nat}(hv:v<n):lv (List.range n) v=v:=by
 show(List.range n).getD v 0=v
 simp[List.getD,hv]
theorem Yv{n cap:Nat}(hc:2≤cap∧cap≤1048576):Ok (K0 n cap) S0 (lv (List.range n)):=by
 have c0:∀k,lK (fun _=>none) k=0:=fun k=>by induction k with|zero=>rfl|succ k ih=>rw[lK,ih];rfl
 have hm:iK (K0 n cap) S0 gP zero':={
  two:=fun h=>nomatch h
  var:=fun h=>nomatch h
  ne:=fun h=>nomatch h
  lo:=fun h=>nomatch h
  hi:=fun h=>nomatch h
  int:=⟨fun _=>rfl,fun _=>rfl,fun h=>nomatch h⟩
  jF:=fun d r=>⟨fun h=>(nomatch h),fun h=>nomatch h.1⟩
  use:=fun h=>nomatch h
  len:=rfl
  fit:=fun h=>nomatch h
  held:=fun r h=>absurd (by simp[Kd.hold,K0]) h
  mx:=fun r=>by simp[Kd.hold,K0]
  room:=by show 2=2+lK (fun _=>none) _;rw[c0]
  cap:=hc}
 refine⟨hm,fun r d h=>(nomatch h),⟨fun v hv=>?_,fun u v hu hv h=>?_⟩,⟨fun h=>(nomatch h),fun h=>(nomatch h),fun h=>(nomatch h),fun h=>(nomatch h),fun h=>(nomatch h),fun h=>(nomatch h)⟩⟩
 ·have uX:v<n:=hv
  rw[mq uX];exact hv
 ·have AV:u<n:=hu
  have uX:v<n:=hv
  rwa [mq AV,mq uX]at h
theorem zn{pt n cap:Nat}{CT:Hp}(hu:mQ pt n (fun _=>none) CT)(hc:2≤cap∧cap≤1048576):Fc Tryz.prog 118 #[.int .i64 (cap:Int),ptr pt] CT (fun v H=>∃pa CA,v=.tuple #[.agg #[ptr pa,ptr pt,.slice none 0 0,.slice none 0 0],.int .i64 0]∧gT pa cap 2 (fun _=>none) CA∧H=CA++CT):=by
 intro g
 refine EP (R:=aB _) ?_
 unfold L118
 intro b1 _
 refine ag.fn hnew (Qn hc) ?_
 rintro v C ⟨pa,rfl,hA⟩
 refine Ext.mk rfl (Ext.mk rfl ?_)
 refine Build.mk (cs:=[ptr pa,ptr pt,.slice none 0 0,.slice none 0 0]) (by kernel_rfl) ?_
 refine St.whole (r:=[ptr pa,ptr pt,.slice none 0 0,.slice none 0 0]) (cM.bW (.head _) _) rfl rfl (by simp[Value.oneCell']) ?_
 refine aD.whole (r:=[ptr pa,ptr pt,.slice none 0 0,.slice none 0 0]) (by exact List.mem_append_right _ (.head _)) rfl ?_
 exact aB.mk (.c8 .tail _) ⟨pa,C,rfl,hA,rfl⟩
theorem Sv{n cap:Nat}(hn:1≤n∧n≤64)(hc:2≤cap∧cap≤1048576):Fc Tryz.prog 51 #[.int .i64 (n:Int),.int .i64 (cap:Int)] [] (fun v C=>∃kp,v=.tuple #[ptr kp,.int .i64 0]∧cW kp (K0 n cap) S0 (List.range n) (List.range n) [] C):=by
 intro g
 refine Je (R:=aB _) ?_
 unfold L51
 refine ag.fn .here (zF hn.2) ?_
 rintro v CO ⟨s,rfl,hO⟩
 obtain⟨sa,sl,sc,hse⟩:∃a l c,s=Value.slice a l c:=by obtain⟨a,c,h⟩:=aS.len hO;exact⟨a,_,c,h⟩
 refine Ext.mk rfl (Ext.mk rfl ?_)
 refine ae.dh ?_
 refine bX.or false (fun _=>ae.lss ⟨rfl,by rw[decide_eq_false (by omega)]⟩) rfl fun gs=>?_
 refine bX.or false (fun _=>ae.lss ⟨rfl,by rw[decide_eq_false (by omega)]⟩) rfl fun gs=>?_
 refine bX.or false (fun _=>ae.gtr ⟨rfl,by rw[decide_eq_false (by omega)]⟩) rfl fun gs=>Br.no ?_
 refine ag.fn hnew (Ow hn) ?_
 rintro v CT ⟨pt,rfl,hT⟩
 refine Ext.mk rfl (Ext.mk rfl ?_)
 refine ae.dh (Br.no ?_)
 refine ag.fn .left (zn hT hc) ?_
 rintro v H ⟨pa,CA,rfl,hA,rfl⟩
 refine Ext.mk rfl (Ext.mk rfl ?_)
 intro Gq _
 refine St.whole (r:=[ptr pa,ptr pt,.slice none 0 0,.slice none 0 0]) (by exact .head _) rfl rfl (by simp[Value.oneCell']) ?_
 refine ae.dh (Br.no (DR.self ?_))
 refine aD.whole (r:=[ptr pa,ptr pt,.slice none 0 0,.slice none 0 0]) (by exact .head _) rfl ?_
 refine ag.fn (.cons (.app .here)) (tQ (hO.ints.mono fun _ h=>h) (by simp;omega)) ?_
 rintro v H ⟨CL,rfl,hL⟩
 obtain⟨la,ll,lc,hle⟩:∃a l c,v=Value.slice a l c:=by obtain⟨a,c,h⟩:=aS.len hL;exact⟨a,_,c,h⟩
 refine⟨(.cons (.c8 .right _)),?_⟩
 subst hse hle
 refine Build.mk (cs:=[ptr pa,ptr pt,.slice none 0 0,.slice none 0 0,.int .i64 (n:Int),.slice sa sl sc,.slice la ll lc,.slice none 0 0]) (by kernel_rfl) ?_
 intro qV _
 refine⟨(.skip (.cons (.c8 .right _))),?_⟩
 let kb:si:=⟨pa,pt,.slice none 0 0,.slice none 0 0,.slice sa sl sc,.slice la ll lc,.slice none 0 0,CA,CT,[],[],CO,CL,[]⟩
 refine aB.mk (lS:=kb.hp qV n) ?_ ⟨qV,rfl,⟨kb,rfl,⟨hA,hT,aP.nil,aP.nil,hO,hL,aP.nil,⟨rfl,by simp[K0]⟩,hn.2,by simp[K0]⟩⟩,Yv hc,⟨by simp[K0],fun l hl=>?_⟩,fun s _=>by simp[Kd.use,K0],trivial⟩
 ·refine .cons (.skip ((aU.assoc).trans ?_))
  show aU (CA++(CT++(CL++CO))) (CA++(CT++([]++([]++(CO++(CL++[]))))))
  simp only[List.nil_append,List.append_nil]
  exact .c8 (.c8 (.perm List.perm_append_comm) _) _
 ·have hl':l<n:=hl
  have e:(List.range n).getD l 0=l:=mq hl'
  rw[e];exact⟨hl,mq hl'⟩
end Go.Proofs
namespace aF
def av(ord path:List Nat):List Nat:=path.foldl gI ord
theorem eP{ord path:List Nat}{l:Nat}:av ord (path++[l])=gI (av ord path) l:=by simp[av]
theorem df{ord path q:List Nat}:av ord (path++q)=av (av ord path) q:=by simp[av]
theorem dP{ord:List Nat}:∀{path:List Nat},(av ord path).length=ord.length:=by
 intro path
 unfold av
 induction path generalizing ord with
 |nil=>rfl
 |cons l r ih=>rw[List.foldl_cons,ih];simp[gI]
structure Rm where
 n:Nat
 size:List Nat→Nat
 fit:List Nat→Nat→Bool
def Rm.dZ(m:Rm)(p:Nat):List Nat→List Nat→List Nat
 | [],_=>[]
 |c::cs,ord=>if m.fit ord (p+c)then(p+c)::m.dZ p cs (gI ord (p+c))else []
theorem Rm.z8(m:Rm)(p:Nat):∀cs ord,(m.dZ p cs ord).length≤cs.length
 | [],_=>by simp[dZ]
 |c::cs,ord=>by
  rw[dZ]
  split
  ·have:=m.z8 p cs (gI ord (p+c));simp only[List.length_cons];omega
  ·simp
theorem Rm.z9(m:Rm)(p:Nat):∀cs ord i,i<(m.dZ p cs ord).length→(m.dZ p cs ord)[i]? =(cs[i]?).map (p+ ·)∧∃c,cs[i]? =some c∧m.fit (av ord ((m.dZ p cs ord).take i)) (p+c)=true
 | [],_,i,h=>by simp[dZ]at h
 |c::cs,ord,i,h=>by
  by_cases hf:m.fit ord (p+c)=true
  ·rw[dZ,if_pos hf]at h⊢
   cases i with
   |zero=>exact⟨by simp,c,rfl,hf⟩
   |succ i=>
    obtain⟨h1,c',h2,h3⟩:=m.z9 p cs (gI ord (p+c)) i (by simpa using h)
    exact⟨by simpa using h1,c',by simpa using h2,by simpa[av]using h3⟩
  ·rw[dZ,if_neg hf]at h;simp at h
theorem Rm.Ab(m:Rm)(p:Nat):∀cs ord c,cs[(m.dZ p cs ord).length]? =some c→m.fit (av ord (m.dZ p cs ord)) (p+c)=false
 | [],_,c,h=>by simp at h
 |c'::cs,ord,c,h=>by
  by_cases hf:m.fit ord (p+c')=true
  ·rw[dZ,if_pos hf]at h⊢
   have:=m.Ab p cs (gI ord (p+c')) c (by simpa using h)
   simpa[av]using this
  ·rw[dZ,if_neg hf]at h⊢
   simp only[List.length_nil,List.getElem?_cons_zero,Option.some.injEq]at h
   subst h
   simpa[av]using hf
end aF
set_option maxRecDepth 100000
namespace Go.Proofs
open Go Go.Sx
open aF
def At(kp:Nat)(K:Kd)(S:Nat→aF.Fn)(ord tr:List Nat)(C:Hp):Prop:=∃K' S' dm,cW kp K' S' ord dm tr C∧Kept K S K' S'
noncomputable def cS(K:Kd)(S:Nat→aF.Fn)(ord:List Nat):Nat:=sz K.n ord (K.held S)
def iR(K:Kd)(S:Nat→aF.Fn)(ord:List Nat)(l:Nat):Prop:=yS K.n ord l (K.held S)+2≤K.cap
section
variable {kp:Nat} {K:Kd} {S:Nat→aF.Fn} {ord tr:List Nat} {C:Hp}
theorem cW.bc{aj:List Nat}(h:cW kp K S ord aj tr C):At kp K S ord tr C:=⟨K,S,aj,h,.refl _ _⟩
theorem zx{aj:List Nat}(h:cW kp K S ord aj tr C):K.used=cS K S ord+2:=by
 have h1:=VS (h.ok.size h.od)
 have h2:=h.ok.mid.room
 unfold cS
 omega
theorem zB{K':Kd}{S':Nat→aF.Fn}(h:Kept K S K' S')(ord:List Nat):cS K' S' ord=cS K S ord:=by
 unfold cS;rw[h.n];exact KI h.held
theorem wm{K':Kd}{S':Nat→aF.Fn}(h:Kept K S K' S')(ord:List Nat)(l:Nat):iR K' S' ord l↔iR K S ord l:=by
 unfold iR;rw[h.n,h.cap,GY h.held]
theorem At.len(h:At kp K S ord tr C):ord.length=K.n:=by
 obtain⟨K',S',dm,h,hk⟩:=h
 rw[←hk.n];exact h.od.len
theorem iZ(h:At kp K S ord tr C):cS K S ord≤1048574:=by
 obtain⟨K',S',dm,h,hk⟩:=h
 rw[←zB hk];have:=zx h;have:=h.ok.mid.cap;omega
theorem At.qA(h:At kp K S ord tr C):K.n≤64:=by
 obtain⟨K',S',dm,h,hk⟩:=h
 obtain⟨b,_,hO⟩:=h.rep
 rw[←hk.n];exact hO.qA
theorem gK(h:At kp K S ord tr C):Rd Tryz.prog 15 #[ptr kp] C (· =.int .i64 ((cS K S ord:Nat):Int)):=by
 obtain⟨K',S',dm,h,hk⟩:=h
 have hs:=zx h
 have hc:=h.ok.mid.cap
 refine(sF h.rep (by omega) (by omega)).mono ?_
 rintro v H ⟨rfl,rfl⟩
 exact⟨rfl,by rw[hs,zB hk];rfl⟩
theorem tU(h:At kp K S ord tr C):Rd Tryz.prog 34 #[ptr kp] C (· =.int .i64 ((tr.length:Nat):Int)):=by
 obtain⟨K',S',dm,h,hk⟩:=h
 exact HP h.rep
theorem nH(h:At kp K S ord tr C):Rd Tryz.prog 61 #[ptr kp] C (· =.int .i64 ((K.n:Nat):Int)):=by
 obtain⟨K',S',dm,h,hk⟩:=h
 rw[←hk.n];exact iQ h.rep
theorem Ni(h:At kp K S ord tr C):Fc Tryz.prog 13 #[ptr kp] C (fun r H=>∃N,H=N++C∧aP 3 .i64 r (iw ord) N):=by
 obtain⟨K',S',dm,h,hk⟩:=h
 exact qD h.rep
theorem Gu(h:At kp K S ord tr C){l:Nat}(hl:l+1<K.n)(je:tr.length<1099511627776)(hf:iR K S ord l):Fc Tryz.prog 17 #[ptr kp,.int .i64 (l:Int)] C (fun r C'=>r=.int .i64 0∧At kp K S (gI ord l) (tr++[l]) C'):=by
 obtain⟨K',S',dm,h,hk⟩:=h
 refine(F6 h (by rw[hk.n];exact hl) je).mono ?_
 rintro v C' (⟨_,rfl,K2,S2,SC,h2,tA⟩|⟨hno,_,_⟩)
 ·exact⟨rfl,K2,S2,SC,h2,hk.trans tA⟩
 ·have:=(wm hk ord l).2 hf
  unfold iR at this;omega
theorem tW(h:At kp K S ord tr C){l:Nat}(hl:l+1<K.n)(je:tr.length<1099511627776)(hf:¬iR K S ord l):Rd Tryz.prog 17 #[ptr kp,.int .i64 (l:Int)] C (· =.int .i64 9):=by
 obtain⟨K',S',dm,h,hk⟩:=h
 refine(F6 h (by rw[hk.n];exact hl) je).mono ?_
 rintro v C' (⟨aa6,_⟩|⟨hno,rfl,rfl⟩)
 ·exact absurd ((wm hk ord l).1 aa6) hf
 ·exact⟨rfl,rfl⟩
theorem yh{l:Nat}(h:At kp K S ord (tr++[l]) C)(je:tr.length<1099511627776):Fc Tryz.prog 18 #[ptr kp] C (fun r C'=>r=.tuple #[.int .i64 (l:Int),.int .i64 0]∧At kp K S (gI ord l) tr C'):=by
 obtain⟨K',S',dm,h,hk⟩:=h
 refine(Ox h je).mono ?_
 rintro v C' ⟨rfl,_,K2,S2,SC,h2,tA⟩
 exact⟨rfl,K2,S2,SC,h2,hk.trans tA⟩
theorem Qf{path:List Nat}(h:At kp K S (av ord path) (tr++path) C)(hp:∀l∈path,l+1<K.n){k:Nat}(hk:k≤path.length)(je:(tr++path).length<1099511627776):Fc Tryz.prog 145 #[ptr kp,.int .i64 ((tr.length+k:Nat):Int)] C (fun r C'=>
   r=.tuple #[.int .i64 ((path.length-k:Nat):Int),.int .i64 0]∧At kp K S (av ord (path.take k)) (tr++path.take k) C'):=by
 have hlen:=h.len
 rw[dP]at hlen
 rw[List.length_append]at je
 intro g
 refine ED (R:=aB _) ?_
 unfold L145
 refine ae.aH (Br.no ?_)
 intro J2 wy
 refine ae.lss ?_
 rw[decide_eq_false (by omega)]
 refine Split.go rfl ?_
 refine ag.rd .here (tU h) ?_
 rintro v rfl
 refine ae.gtr ?_
 rw[decide_eq_false (by rw[List.length_append];omega)]
 refine az.mk ?_
 refine JE.mk (wy _ _ fun gs=>Br.no ?_)
 refine⟨fun vs H=>∃m,m≤path.length∧k≤m∧vs=[.int .i64 ((path.length-m:Nat):Int)]∧At kp K S (av ord (path.take m)) (tr++path.take m) H,fun vs _=>path.length-bK vs 0,JE.mk ⟨path.length,Nat.le_refl _,hk,by simp,by simpa using h⟩,?_⟩
 rintro w H ⟨m,hm,hkm,hw,yG⟩ gs
 simp only[List.cons.injEq,and_true]at hw
 subst hw
 refine ag.rd .here (tU yG) ?_
 rintro v rfl
 refine ae.lP (Br.dec (fun hlt=>?_) (fun hlt=>?_))
 ·rw[List.length_append,List.length_take]at hlt
  obtain⟨m,rfl⟩:∃m',m=m'+1:=⟨m-1,by omega⟩
  have e:path.take (m+1)=path.take m++[path[m]]:=by rw[List.take_add_one,List.getElem?_eq_getElem (by omega)];rfl
  rw[e,←List.append_assoc,eP]at yG
  refine ag.fn .here (yh yG (by simp;omega)) ?_
  rintro v C' ⟨rfl,h'⟩
  rw[po (by rw[dP,hlen];exact hp _ (List.getElem_mem _))]at h'
  refine ae.aN (b:=1) (by simp[aE];omega) ?_
  refine aC.of (.refl _) ⟨m,by omega,by omega,by rw[show path.length-(m+1)+1=path.length-m by omega],h'⟩ ?_
  show path.length-(((path.length-(m+1)+1:Nat):Int).toNat)<path.length-(((path.length-(m+1):Nat):Int).toNat)
  omega
 ·rw[List.length_append,List.length_take]at hlt
  obtain rfl:m=k:=by omega
  exact aB.here ⟨rfl,yG⟩
end
end Go.Proofs
namespace Go.Sx
open Go
section
variable {P:Program} {g:Gh} {H:Hp}
theorem ik.nat{len size b o j:Nat}{kd:IntKind}{k:Value→Prop}(h1:j<len)(h:k (.pointer (some ⟨b,o+j*size,none⟩))):ik len size (.pointer (some ⟨b,o,none⟩)) (.int kd (j:Int)) k:=
 ⟨b,o,kd,(j:Int),rfl,rfl,by omega,by omega,by simpa using h⟩
theorem lg.X7{o:Oper}{ρ:Operand→Value}{k:Value→Prop}{t e:TypeId}{q kd:IntKind}{n j:Nat}{x i:Operand}{l:List Int}{z:Int}(ho:o.op=.index t x i)(hx:ρ x=.agg (aA q l))(hi:ρ i=.int kd (j:Int))
 (ht:P.underlying t=some (.array n e))(hu:P.underlying e=some (.int q))(hz:dg P e=some 1)(hj:j<n)(hl:l[j]? =some z)(hk:k (.int q z)):lg P g o ρ H k:=by
 obtain⟨inf,abS,hs⟩:=bC hz
 refine⟨_,fun w _=>?_,hk⟩
 have hp:=pA (P:=P) hu hl w
 have Mj:(0:Int)≤(j:Int)∧(j:Int)<(n:Int):=by omega
 simp only[execOp,ho,Instr.index,hx,hi,asIntOf,Sem.run_bind,Sem.run_pure,Result.andThen_ok,run_underlying ht,run_sizeOf abS,hs,if_pos Mj,Int.toNat_natCast,Nat.mul_one,hp]
end
end Go.Sx
namespace aF
open aG
def clr(m v:Nat):Nat:=if m.testBit v then m^^^2^v else m
def rest(m:Nat)(ord:List Nat):Nat→Nat
 |0=>m
 |k+1=>clr (rest m ord k) (ord.getD k 0)
section
variable {n m o:Nat} {ord:List Nat} {F:Fn→Prop}
theorem getD_inj(hn:ord.Nodup){i j:Nat}(hi:i<ord.length)(hj:j<ord.length)(e:ord.getD i 0=ord.getD j 0):i=j:=by
 rw[List.getD_eq_getElem?_getD,List.getD_eq_getElem?_getD,List.getElem?_eq_getElem hi,List.getElem?_eq_getElem hj]at e
 exact(List.getElem_inj hn).1 e
theorem KK{l:Nat}(hl:l+1<ord.length):(gI ord l).Perm ord:=by
 unfold gI
 have e1:ord=ord.take l++ord.getD l 0::ord.getD (l+1) 0::ord.drop (l+2):=by
  conv=>lhs;rw[←List.take_append_drop l ord]
  congr 1
  rw[List.drop_eq_getElem_cons (by omega),List.drop_eq_getElem_cons (by omega)]
  simp[List.getD,List.getElem?_eq_getElem (show l<ord.length by omega),List.getElem?_eq_getElem hl]
 have ht:(ord.take l).length=l:=by simp;omega
 have e2:(ord.set l (ord.getD (l+1) 0)).set (l+1) (ord.getD l 0)=ord.take l++ord.getD (l+1) 0::ord.getD l 0::ord.drop (l+2):=by
  generalize hx:ord.getD l 0=x at*
  generalize hy:ord.getD (l+1) 0=y at*
  conv=>lhs;rw[e1]
  rw[List.set_append_right _ _ (by omega),ht,Nat.sub_self,List.set_cons_zero,List.set_append_right _ _ (by omega),ht,Nat.add_sub_cancel_left,List.set_cons_succ,List.set_cons_zero]
 rw[e2]
 conv=>rhs;rw[e1]
 exact List.Perm.append_left _ (List.Perm.swap _ _ _)
theorem iG:∀{path:List Nat} {ord:List Nat},(∀l∈path,l+1<ord.length)→(av ord path).Perm ord
 | [],_,_=>.refl _
 |l::r,ord,h=>by
  show(av (gI ord l) r).Perm ord
  have h1:=h l (by simp)
  exact(iG fun x hx=>by rw[kM];exact h x (by simp[hx])).trans (KK h1)
end
def flat(n s:Nat):Rm:=⟨n,fun _=>s,fun _ _=>true⟩
end aF
