import Derived.Test.YtfgkdmbicjdeoaaGreatW2
import Derived.RangeFuncIn
import Derived.RangeFuncLeaves
import Derived.RangeFuncRecord
import Derived.RangeFuncSeq
set_option linter.unusedVariables false
set_option linter.unusedSimpArgs false
set_option linter.unusedSectionVars false
namespace aU
open af
variable {n:Nat} {ak:Nat→Nat} {N:fb} {S:Nat→Fn} {ord:List Nat} {K:Kd}
def pl(N:fb)(y r:Nat):Nat:=match N r with|some e=>if e.v=y then e.lo else r|none=>r
def ph(N:fb)(y r:Nat):Nat:=match N r with|some e=>if e.v=y then e.hi else r|none=>r
theorem KC{y r:Nat}{e:Nd}(h:N r=some e)(hv:e.v=y):pl N y r=e.lo∧ph N y r=e.hi:=by simp[pl,ph,h,hv]
theorem KD{y r:Nat}(h:∀e,N r=some e→e.v≠y):pl N y r=r∧ph N y r=r:=by
 unfold pl ph
 cases hr:N r with
 |none=>exact⟨rfl,rfl⟩
 |some e=>simp[h e hr]
theorem WF.half(h:WF n ak N)(hl:qj n ak)(hi:Interp N S){y l r:Nat}(hy:y<n∧ak y=l+1)(hr:live N r)(hd:l<dep n ak N r):
  (live N (pl N y r)∧l+1<dep n ak N (pl N y r))∧(live N (ph N y r)∧l+1<dep n ak N (ph N y r))∧∀z,S r z=if z.testBit y then S (ph N y r) z else S (pl N y r) z:=by
 by_cases e:∃e,N r=some e∧e.v=y
 ·obtain⟨e,he,hv⟩:=e
  obtain⟨p1,p2⟩:=KC he hv
  rw[p1,p2]
  have h1:=h.lo he
  have h2:=h.hi he
  rw[hv,hy.2]at h1 h2
  exact⟨h1,h2,fun z=>by rw[hi.node he,hv]⟩
 ·have ho:∀e',N r=some e'→e'.v≠y:=fun e' h1 h2=>e ⟨e',h1,h2⟩
  obtain⟨p1,p2⟩:=KD ho
  rw[p1,p2]
  have oQ:l+1<dep n ak N r:=by
   rcases hr with hr|⟨e',he⟩
   ·rw[cj (h.const hr)]
    have:=hl.lt y hy.1;omega
   ·rw[aE he]at hd⊢
    have h1:=ho e' he
    refine Nat.lt_of_le_of_ne hd fun e2=>h1 (hl.inj _ _ (h.var he) hy.1 (by omega))
  exact⟨⟨hr,oQ⟩,⟨hr,oQ⟩,fun z=>by split<;>rfl⟩
theorem WF.LB(h:WF n ak N)(hl:qj n ak)(hi:Interp N S){y l a b:Nat}(hy:y<n∧ak y=l+1)(ha:live N a)(hb:live N b)(da:l<dep n ak N a)(db:l<dep n ak N b)
 (h1:pl N y a=pl N y b)(h2:ph N y a=ph N y b):a=b:=by
 refine h.same hl hi ha hb fun z=>?_
 rw[(h.half hl hi hy ha da).2.2 z,(h.half hl hi hy hb db).2.2 z,h1,h2]
structure Cx where
 r:Nat
 d:Nd
 sW:Nat
 sV:Nat
 p5:Nat
 pZ:Nat
def jH(N:fb)(x y r:Nat)(d:Nd):Prop:=N r=some d∧d.v=x∧((∃e,N d.lo=some e∧e.v=y)∨∃e,N d.hi=some e∧e.v=y)
def kI(N:fb)(y r:Nat)(d:Nd):Cx:=⟨r,d,pl N y d.lo,ph N y d.lo,pl N y d.hi,ph N y d.hi⟩
structure DA(N:fb)(x y:Nat)(l:List Cx):Prop where
 nd:(l.map Cx.r).Nodup
 mem:∀c,c∈l↔jH N x y c.r c.d∧c=kI N y c.r c.d
def keys(x:Nat)(c:Cx):List Nd:=[⟨x,c.sW,c.p5⟩,⟨x,c.sV,c.pZ⟩]
structure Made(K:Kd)(x:Nat)(l:List Cx)(made:List Nd):Prop where
 nd:made.Nodup
 mem:∀k,k∈made↔(∃c∈l,k∈keys x c)∧K.T k=none∧k.lo≠k.hi
structure Nb(n:Nat)(ak:Nat→Nat)(x y l:Nat):Prop where
 xn:x<n
 yn:y<n
 lx:ak x=l
 ly:ak y=l+1
variable {x y l:Nat}
theorem Nb.ne(h:Nb n ak x y l):x≠y:=fun e=>by have h1:=h.lx;have h2:=h.ly;rw[e]at h1;omega
theorem Nb.yy(h:Nb n ak x y l):y<n∧ak y=l+1:=⟨h.yn,h.ly⟩
theorem iY(h:WF n ak N)(hl:qj n ak)(hi:Interp N S)(hb:Nb n ak x y l){r:Nat}{d:Nd}(hd:N r=some d)(hx:d.v=x){k:Nd}(hk:k∈keys x (kI N y r d)):
  k.v=x∧(live N k.lo∧l+1<dep n ak N k.lo)∧(live N k.hi∧l+1<dep n ak N k.hi):=by
 have h1:=h.lo hd
 have h2:=h.hi hd
 rw[hx,hb.lx]at h1 h2
 have a:=h.half hl hi hb.yy h1.1 h1.2
 have b:=h.half hl hi hb.yy h2.1 h2.2
 simp only[keys,kI,List.mem_cons,List.not_mem_nil,or_false]at hk
 rcases hk with rfl|rfl
 ·exact⟨rfl,a.1,b.1⟩
 ·exact⟨rfl,a.2.1,b.2.1⟩
theorem rR(h:WF n ak N)(hl:qj n ak)(hi:Interp N S)(hb:Nb n ak x y l){r:Nat}{d:Nd}(hd:N r=some d)(hx:d.v=x)(z:Nat):
  S r z=if z.testBit y then ite S ⟨x,ph N y d.lo,ph N y d.hi⟩ z else ite S ⟨x,pl N y d.lo,pl N y d.hi⟩ z:=by
 have h1:=h.lo hd
 have h2:=h.hi hd
 rw[hx,hb.lx]at h1 h2
 have a:=(h.half hl hi hb.yy h1.1 h1.2).2.2 z
 have b:=(h.half hl hi hb.yy h2.1 h2.2).2.2 z
 rw[hi.node hd,hx,a,b]
 unfold ite
 simp only
 cases z.testBit x<;>cases z.testBit y<;>rfl
theorem gx(h:WF n ak N)(hl:qj n ak)(hi:Interp N S)(hb:Nb n ak x y l){k:Nd}(hk:k.v=x)(h1:live N k.lo∧l+1<dep n ak N k.lo)(h2:live N k.hi∧l+1<dep n ak N k.hi)(z:Nat)(b:Bool):
  ite S k (au z x b)=S (if b then k.hi else k.lo) z:=by
 unfold ite
 rw[hk,ai,if_pos rfl]
 cases b
 ·simp only[Bool.false_eq_true,if_false];exact h.cy hl hi h1.1 hb.xn (by rw[hb.lx];omega) z false
 ·simp only[if_true];exact h.cy hl hi h2.1 hb.xn (by rw[hb.lx];omega) z true
theorem gG(h:WF n ak N)(hl:qj n ak)(hi:Interp N S)(hb:Nb n ak x y l){k:Nd}(hk:k.v=x)(h1:live N k.lo∧l+1<dep n ak N k.lo)(h2:live N k.hi∧l+1<dep n ak N k.hi){u:Nat}(hu:u<n)(vC:ak u≤l+1)(hne:u≠x)(z:Nat)(b:Bool):
  ite S k (au z u b)=ite S k z:=by
 unfold ite
 rw[hk,ai,if_neg (Ne.symm hne),h.cy hl hi h1.1 hu (by omega),h.cy hl hi h2.1 hu (by omega)]
theorem mX(h:WF n ak N)(hl:qj n ak)(hi:Interp N S){r:Nat}{d:Nd}(hd:N r=some d):∃z,S r (au z d.v false)≠S r (au z d.v true):=by
 refine Classical.byContradiction fun hno=>h.ne hd (h.same hl hi (h.lo hd).1 (h.hi hd).1 fun z=>?_)
 have c1:=h.child hl hi hd z false
 have c2:=h.child hl hi hd z true
 simp only[Bool.false_eq_true,if_false,if_true]at c1 c2
 rw[←c1,←c2]
 exact Classical.byContradiction fun hne=>hno ⟨z,hne⟩
theorem HN(h:WF n ak N)(hl:qj n ak)(hi:Interp N S)(hb:Nb n ak x y l){k:Nd}(hk:k.v=x)(hne:k.lo≠k.hi)(h1:live N k.lo∧l+1<dep n ak N k.lo)(h2:live N k.hi∧l+1<dep n ak N k.hi)
 {r:Nat}{d:Nd}(hd:N r=some d)(he:ite S k=S r):d=k:=by
 have hv:=h.var hd
 have Yf:d.v=x:=by
  rcases Nat.lt_trichotomy (ak d.v) l with hlt|heq|hgt
  ·obtain⟨z,hz⟩:=mX h hl hi hd
   have QM:d.v≠x:=fun e=>by rw[e,hb.lx]at hlt;omega
   rw[←he,gG h hl hi hb hk h1 h2 hv (by omega) QM,gG h hl hi hb hk h1 h2 hv (by omega) QM]at hz
   exact absurd rfl hz
  ·exact hl.inj _ _ hv hb.xn (by rw[hb.lx];exact heq)
  ·refine absurd (h.same hl hi h1.1 h2.1 fun z=>?_) hne
   have c1:=gx h hl hi hb hk h1 h2 z false
   have c2:=gx h hl hi hb hk h1 h2 z true
   simp only[Bool.false_eq_true,if_false,if_true]at c1 c2
   have Wx:ak x<dep n ak N r:=by rw[aE hd,hb.lx];exact hgt
   rw[←c1,←c2,he,h.cy hl hi (.inr ⟨d,hd⟩) hb.xn Wx,h.cy hl hi (.inr ⟨d,hd⟩) hb.xn Wx]
 have c:∀(b:Bool) z,S (if b then k.hi else k.lo) z=S (if b then d.hi else d.lo) z:=fun(b:Bool) z=>by
  rw[←gx h hl hi hb hk h1 h2 z b,he,←Yf,h.child hl hi hd z b]
 have e1:=h.same hl hi h1.1 (h.lo hd).1 (fun z=>by simpa using c false z)
 have e2:=h.same hl hi h2.1 (h.hi hd).1 (fun z=>by simpa using c true z)
 cases d;cases k;simp_all
theorem Lc(h:WF n ak N)(hl:qj n ak)(hi:Interp N S)(hb:Nb n ak x y l){k k':Nd}(hk:k.v=x)(hk':k'.v=x)(h1:live N k.lo∧l+1<dep n ak N k.lo)(h2:live N k.hi∧l+1<dep n ak N k.hi)
 (u4:live N k'.lo∧l+1<dep n ak N k'.lo)(nq:live N k'.hi∧l+1<dep n ak N k'.hi)(he:ite S k=ite S k'):k=k':=by
 have c:∀(b:Bool) z,S (if b then k.hi else k.lo) z=S (if b then k'.hi else k'.lo) z:=fun(b:Bool) z=>by
  rw[←gx h hl hi hb hk h1 h2 z b,he,gx h hl hi hb hk' u4 nq z b]
 have e1:=h.same hl hi h1.1 u4.1 (fun z=>by simpa using c false z)
 have e2:=h.same hl hi h2.1 nq.1 (fun z=>by simpa using c true z)
 cases k;cases k';simp_all
def dQ(ord:List Nat)(l:Nat):List Nat:=(ord.set l (ord.getD (l+1) 0)).set (l+1) (ord.getD l 0)
theorem gp(ord:List Nat)(l:Nat):(dQ ord l).length=ord.length:=by simp[dQ]
theorem dK{i:Nat}(hl:l+1<ord.length):(dQ ord l).getD i 0=if i=l then ord.getD (l+1) 0 else if i=l+1 then ord.getD l 0 else ord.getD i 0:=by
 unfold dQ
 rw[List.getD_eq_getElem?_getD,List.getElem?_set,List.getElem?_set]
 by_cases e1:l+1=i
 ·subst e1
  rw[if_pos rfl,if_pos (by simp;omega),if_neg (by omega),if_pos rfl];rfl
 ·rw[if_neg e1]
  by_cases e2:l=i
  ·subst e2;rw[if_pos rfl,if_pos (by omega),if_pos rfl];rfl
  ·rw[if_neg e2,if_neg (fun e=>e2 e.symm),if_neg (fun e=>e1 e.symm),←List.getD_eq_getElem?_getD]
def pU(ak:Nat→Nat)(x y l:Nat):Nat→Nat:=fun v=>if v=x then l+1 else if v=y then l else ak v
theorem Ko(hl:qj n ak)(hb:Nb n ak x y l):qj n (pU ak x y l):=by
 have NW:=hl.lt y hb.yn
 rw[hb.ly]at NW
 have key:∀v,v<n→v≠x→v≠y→ak v≠l∧ak v≠l+1:=fun v hv h1 h2=>⟨fun e=>h1 (hl.inj _ _ hv hb.xn (by rw[hb.lx];exact e)),fun e=>h2 (hl.inj _ _ hv hb.yn (by rw[hb.ly];exact e))⟩
 refine⟨fun v hv=>?_,fun u v hu hv he=>?_⟩
 ·unfold pU
  split
  ·exact NW
  ·split
   ·omega
   ·exact hl.lt v hv
 ·unfold pU at he
  by_cases u1:u=x
  ·by_cases v1:v=x
   ·rw[u1,v1]
   ·rw[if_pos u1,if_neg v1]at he
    by_cases v2:v=y
    ·rw[if_pos v2]at he;omega
    ·rw[if_neg v2]at he;exact absurd he.symm (key v hv v1 v2).2
  ·rw[if_neg u1]at he
   by_cases u2:u=y
   ·rw[if_pos u2]at he
    by_cases v1:v=x
    ·rw[if_pos v1]at he;omega
    ·rw[if_neg v1]at he
     by_cases v2:v=y
     ·rw[u2,v2]
     ·rw[if_neg v2]at he;exact absurd he.symm (key v hv v1 v2).1
   ·rw[if_neg u2]at he
    by_cases v1:v=x
    ·rw[if_pos v1]at he;exact absurd he (key u hu u1 u2).2
    ·rw[if_neg v1]at he
     by_cases v2:v=y
     ·rw[if_pos v2]at he;exact absurd he (key u hu u1 u2).1
     ·rw[if_neg v2]at he;exact hl.inj _ _ hu hv he
theorem Ord.nb(ho:Ord n ak ord)(hl:l+1<n):Nb n ak (ord.getD l 0) (ord.getD (l+1) 0) l:=
 ⟨(ho.aZ l (by omega)).1,(ho.aZ (l+1) hl).1,(ho.aZ l (by omega)).2,(ho.aZ (l+1) hl).2⟩
theorem Km(ho:Ord n ak ord)(hl:l+1<n):Ord n (pU ak (ord.getD l 0) (ord.getD (l+1) 0) l) (dQ ord l):=by
 have hb:=ho.nb hl
 refine⟨by rw[gp,ho.len],fun i hi=>?_⟩
 rw[dK (by rw[ho.len];exact hl)]
 unfold pU
 by_cases e1:i=l
 ·subst e1;rw[if_pos rfl];refine⟨hb.yn,?_⟩;rw[if_neg (Ne.symm hb.ne),if_pos rfl]
 ·rw[if_neg e1]
  by_cases e2:i=l+1
  ·subst e2;rw[if_pos rfl];refine⟨hb.xn,?_⟩;rw[if_pos rfl]
  ·rw[if_neg e2]
   obtain⟨h1,h2⟩:=ho.aZ i hi
   refine⟨h1,?_⟩
   rw[if_neg,if_neg]
   ·exact h2
   ·intro e;rw[e,hb.ly]at h2;omega
   ·intro e;rw[e,hb.lx]at h2;omega
variable {F:Fn→Prop}
theorem zw(hl:l+1<ord.length)(hne:ord.getD l 0≠ord.getD (l+1) 0):∀m,m≠l+1→∀g,fs (dQ ord l) F m g↔fs ord F m g
 |0,_,g=>Iff.rfl
 |m+1,hm,g=>by
  by_cases e:m=l+1
  ·subst e
   have g1:(dQ ord l).getD (l+1) 0=ord.getD l 0:=by rw[dK hl,if_neg (by omega),if_pos rfl]
   have g2:(dQ ord l).getD l 0=ord.getD (l+1) 0:=by rw[dK hl,if_pos rfl]
   have ih:=zw hl hne l (by omega)
   constructor
   ·rintro⟨f,⟨f',h,b,rfl⟩,b',rfl⟩
    refine⟨_,⟨f',(ih f').1 h,b',rfl⟩,b,?_⟩
    funext z
    rw[g1,g2]
    show f' _=f' _
    rw[dF hne]
   ·rintro⟨f,⟨f',h,b,rfl⟩,b',rfl⟩
    refine⟨_,⟨f',(ih f').2 h,b',rfl⟩,b,?_⟩
    funext z
    rw[g1,g2]
    show f' _=f' _
    rw[dF (Ne.symm hne)]
  ·have ih:=zw hl hne m e
   have hg:(dQ ord l).getD m 0=ord.getD m 0:=by rw[dK hl,if_neg (by omega),if_neg e]
   constructor
   ·rintro⟨f,h,b,rfl⟩;exact⟨f,(ih f).1 h,b,by rw[hg]⟩
   ·rintro⟨f,h,b,rfl⟩;exact⟨f,(ih f).2 h,b,by rw[hg]⟩
theorem GK(h:Ok K S ak)(ho:Ord K.n ak ord)(Ey:l+1<K.n){all:List Cx}(hc:DA K.N (ord.getD l 0) (ord.getD (l+1) 0) all){made:List Nd}(hm:Made K (ord.getD l 0) all made):
  ou (fun g=>bC K.n ord (K.held S) g∨bC K.n (dQ ord l) (K.held S) g) (K.used-2+made.length):=by
 have hb:=ho.nb Ey
 have hlen:l+1<ord.length:=by rw[ho.len];exact Ey
 have hw:=h.wf
 have hlv:=h.lv
 have hi:=h.mid.int
 have hR:∀r,K.hold r≠0→live K.N r:=fun r hr=>.inr (h.mid.held r hr)
 generalize hx:ord.getD l 0=x at*
 generalize hy:ord.getD (l+1) 0=y at*
 have jE:∀k∈made,k.v=x∧(live K.N k.lo∧l+1<dep K.n ak K.N k.lo)∧(live K.N k.hi∧l+1<dep K.n ak K.N k.hi):=fun k hk=>by
  obtain⟨⟨c,IF,hkc⟩,_⟩:=(hm.mem k).1 hk
  obtain⟨⟨hd,IC,_⟩,e⟩:=(hc.mem c).1 IF
  rw[e]at hkc
  exact iY hw hlv hi hb hd IC hkc
 obtain⟨dom,d1,d2,d3⟩:=h.dom
 have c1:=uc hw hlv hi d1 d3
 rw[show dom.length=K.used-2 by omega]at c1
 have c2:ou (fun g=>∃k∈made,g=ite S k) made.length:=by
  refine⟨made.map (ite S),?_,by simp,fun g=>?_⟩
  ·refine List.pairwise_map.2 (hm.nd.imp_of_mem fun{a b} ha hb' hne heq=>hne ?_)
   obtain⟨a1,a2,a3⟩:=jE a ha
   obtain⟨b1,b2,b3⟩:=jE b hb'
   exact Lc hw hlv hi hb a1 b1 a2 a3 b2 b3 heq
  ·rw[List.mem_map]
   constructor
   ·rintro⟨k,hk,rfl⟩;exact⟨k,hk,rfl⟩
   ·rintro⟨k,hk,rfl⟩;exact⟨k,hk,rfl⟩
 refine(c1.or c2 ?_).congr fun g=>?_
 ·rintro g ⟨r,d,hd,rfl⟩ ⟨k,hk,he⟩
  obtain⟨a1,a2,a3⟩:=jE k hk
  obtain⟨_,hT,hne⟩:=(hm.mem k).1 hk
  have:=HN hw hlv hi hb a1 hne a2 a3 hd he.symm
  subst this
  rw[(h.mid.gn d r).2 ⟨hd,fun x=>x⟩]at hT;cases hT
 ·have Uf:=kz hw hlv ho hi hR h.reach
  have nk:=fun m (hmn:m≤K.n) g=>EK hw hlv ho hi hR m hmn g
  have hne:ord.getD l 0≠ord.getD (l+1) 0:=by rw[hx,hy];exact hb.ne
  have Pg:=zw (F:=K.held S) hlen hne
  have gl:(dQ ord l).getD l 0=y:=by rw[dK hlen,if_pos rfl,hy]
  have WW:(dQ ord l).getD (l+1) 0=x:=by rw[dK hlen,if_neg (by omega),if_pos rfl,hx]
  have go:∀m,m≠l→m≠l+1→(dQ ord l).getD m 0=ord.getD m 0:=fun m h1 h2=>by rw[dK hlen,if_neg h1,if_neg h2]
  constructor
  ·rintro(⟨r,d,hd,rfl⟩|⟨k,hk,rfl⟩)
   ·exact .inl ((Uf _).2 ⟨r,d,hd,rfl⟩)
   ·obtain⟨a1,a2,a3⟩:=jE k hk
    obtain⟨⟨c,IF,hkc⟩,hT,Oj⟩:=(hm.mem k).1 hk
    obtain⟨⟨hd,IC,_⟩,e⟩:=(hc.mem c).1 IF
    refine .inr ⟨l+1,Ey,?_,?_⟩
    ·have hA:=JK hw h.reach _ c.r c.d hd (Nat.le_refl _)
     rw[IC,hb.lx]at hA
     refine⟨S c.r,(Pg l (by omega) _).2 ((nk l (by omega) _).2 ⟨c.r,hA,rfl⟩),?_⟩
     have MY:=rR hw hlv hi hb hd IC
     rw[e]at hkc
     simp only[keys,kI,List.mem_cons,List.not_mem_nil,or_false]at hkc
     rw[gl]
     rcases hkc with rfl|rfl
     ·refine⟨false,?_⟩
      funext z
      rw[MY,ai,if_pos rfl,if_neg (by simp),gG hw hlv hi hb rfl a2 a3 hb.yn (by rw[hb.ly];exact Nat.le_refl _) (Ne.symm hb.ne)]
     ·refine⟨true,?_⟩
      funext z
      rw[MY,ai,if_pos rfl,if_pos rfl,gG hw hlv hi hb rfl a2 a3 hb.yn (by rw[hb.ly];exact Nat.le_refl _) (Ne.symm hb.ne)]
    ·rw[WW]
     refine Classical.byContradiction fun hno=>Oj (hw.same hlv hi a2.1 a3.1 fun z=>?_)
     have c1:=gx hw hlv hi hb a1 a2 a3 z false
     have c2:=gx hw hlv hi hb a1 a2 a3 z true
     simp only[Bool.false_eq_true,if_false,if_true]at c1 c2
     rw[←c1,←c2]
     exact Classical.byContradiction fun hne=>hno ⟨z,hne⟩
  ·rintro(hg|⟨m,hmn,hf,hh⟩)
   ·exact .inl ((Uf g).1 hg)
   ·by_cases e1:m=l+1
    ·subst e1
     rw[WW]at hh
     obtain⟨f,hf,b,rfl⟩:=hf
     rw[gl]at hh⊢
     obtain⟨r,hA,rfl⟩:=(nk l (by omega) f).1 ((Pg l (by omega) f).1 hf)
     obtain⟨hlr,hle⟩:=nf hw hR l r hA
     have hgt:dep K.n ak K.N r=l:=by
      refine Nat.le_antisymm (Nat.le_of_not_lt fun hlt=>?_) hle
      obtain⟨z,hz⟩:=hh
      refine hz ?_
      show S r (au (au z x false) y b)=S r (au (au z x true) y b)
      rw[dF hb.ne,dF hb.ne,hw.cy hlv hi hlr hb.xn (by rw[hb.lx];exact hlt),hw.cy hlv hi hlr hb.xn (by rw[hb.lx];exact hlt)]
     rcases hlr with oR|⟨d,hd⟩
     ·rw[cj (hw.const oR)]at hgt;omega
     ·rw[aE hd]at hgt
      have IC:d.v=x:=hlv.inj _ _ (hw.var hd) hb.xn (by rw[hb.lx];exact hgt)
      have MY:=rR hw hlv hi hb hd IC
      have hkk:∃k∈keys x (kI K.N y r d),(fun z=>S r (au z y b))=ite S k:=by
       cases b
       ·refine⟨_,List.mem_cons_self,?_⟩
        obtain⟨a1,a2,a3⟩:=iY hw hlv hi hb hd IC (k:=⟨x,pl K.N y d.lo,pl K.N y d.hi⟩) List.mem_cons_self
        funext z
        rw[MY,ai,if_pos rfl,if_neg (by simp),gG hw hlv hi hb rfl a2 a3 hb.yn (by rw[hb.ly];exact Nat.le_refl _) (Ne.symm hb.ne)];rfl
       ·refine⟨_,List.mem_cons_of_mem _ List.mem_cons_self,?_⟩
        obtain⟨a1,a2,a3⟩:=iY hw hlv hi hb hd IC (k:=⟨x,ph K.N y d.lo,ph K.N y d.hi⟩) (List.mem_cons_of_mem _ List.mem_cons_self)
        funext z
        rw[MY,ai,if_pos rfl,if_pos rfl,gG hw hlv hi hb rfl a2 a3 hb.yn (by rw[hb.ly];exact Nat.le_refl _) (Ne.symm hb.ne)];rfl
      obtain⟨k,hkm,YL⟩:=hkk
      obtain⟨a1,a2,a3⟩:=iY hw hlv hi hb hd IC hkm
      rw[YL]at hh⊢
      have Oj:k.lo≠k.hi:=fun e=>by
       obtain⟨z,hz⟩:=hh
       have c1:=gx hw hlv hi hb a1 a2 a3 z false
       have c2:=gx hw hlv hi hb a1 a2 a3 z true
       simp only[Bool.false_eq_true,if_false,if_true]at c1 c2
       rw[c1,c2,e]at hz;exact hz rfl
      cases hT:K.T k with
      |some s=>
       have hs:=((h.mid.gn k s).1 hT).1
       refine .inl ⟨s,k,hs,?_⟩
       funext z
       exact(hi.node hs z).symm
      |none=>
       by_cases OA:jH K.N x y r d
       ·exact .inr ⟨k,(hm.mem k).2 ⟨⟨kI K.N y r d,(hc.mem _).2 ⟨OA,rfl⟩,hkm⟩,hT,Oj⟩,rfl⟩
       ·have hno:∀t,t=d.lo∨t=d.hi→pl K.N y t=t∧ph K.N y t=t:=fun t ht=>KD fun e he hv=>OA ⟨hd,IC,by
         rcases ht with rfl|rfl
         ·exact .inl ⟨e,he,hv⟩
         ·exact .inr ⟨e,he,hv⟩⟩
        have e1:=hno d.lo (.inl rfl)
        have e2:=hno d.hi (.inr rfl)
        have:k=d:=by
         simp only[keys,kI,e1.1,e1.2,e2.1,e2.2,List.mem_cons,List.not_mem_nil,or_false,or_self]at hkm
         rw[hkm,←IC]
        rw[this,(h.mid.gn d r).2 ⟨hd,fun x=>x⟩]at hT;cases hT
    ·by_cases e2:m=l
     ·subst e2
      rw[gl]at hh
      obtain⟨r,hA,rfl⟩:=(nk m (by omega) g).1 ((Pg m e1 g).1 hf)
      obtain⟨hlr,hle⟩:=nf hw hR m r hA
      rcases hlr with oR|⟨d,hd⟩
      ·obtain⟨z,hz⟩:=hh
       have:∀z,S r z=S r 0:=fun z=>by
        have:r=0∨r=1:=by omega
        rcases this with rfl|rfl
        ·rw[hi.zero,hi.zero]
        ·rw[hi.one,hi.one]
       rw[this (au z y false),this (au z y true)]at hz
       exact absurd rfl hz
      ·exact .inl ⟨r,d,hd,rfl⟩
     ·refine .inl ((Uf g).1 ⟨m,hmn,(Pg m e1 g).1 hf,?_⟩)
      rw[go m e2 e1]at hh;exact hh
end aU
namespace aU
open af
def pQ(K:Kd)(ak:Nat→Nat)(l t:Nat):Prop:=live K.N t∧l+1<dep K.n ak K.N t
def sZ(K0 K:Kd)(ak:Nat→Nat)(x l t:Nat):Prop:=pQ K0 ak l t∨∃e,K.N t=some e∧e.v=x∧pQ K0 ak l e.lo∧pQ K0 ak l e.hi
structure TI(K0:Kd)(S0:Nat→Fn)(ak:Nat→Nat)(x y l:Nat)(made:List Nd)(K:Kd)(S:Nat→Fn)(done rest:List Cx)(P:Nat→Nat):Prop where
 mid:g6 K S (fun s=>∃c∈rest,s=c.r) P
 n:K.n=K0.n
 cap:K.cap=K0.cap
 hold:∀r,K.hold r=K0.hold r
 ext:∀r,live K0.N r→S r=S0 r
 old:∀{r d},K0.N r=some d→r∉done.map Cx.r→K.N r=some d
 kept:∀{r d},K0.N r=some d→∃d',K.N r=some d'
 new:∀{r d},K.N r=some d→(K0.N r=some d∧r∉done.map Cx.r)∨(r∈done.map Cx.r∧d.v=y∧sZ K0 K ak x l d.lo∧sZ K0 K ak x l d.hi)∨(K0.N r=none∧d.v=x∧pQ K0 ak l d.lo∧pQ K0 ak l d.hi)
 used:K.used=K0.used+(made.filter fun k=>(K.T k).isSome).length
structure TB(K0:Kd)(S0:Nat→Fn)(ak:Nat→Nat)(x y l:Nat)(all:List Cx)(made:List Nd):Prop where
 ok:Ok K0 S0 ak
 nb:Nb K0.n ak x y l
 cx:DA K0.N x y all
 Qa:Made K0 x all made
 room:K0.used+made.length≤K0.cap
section
variable {K0 K:Kd} {S0 S:Nat→Fn} {ak:Nat→Nat} {x y l:Nat} {made:List Nd} {done rest all:List Cx} {P:Nat→Nat}
theorem TB.kJ(b:TB K0 S0 ak x y l all made){c:Cx}(hc:c∈all):K0.N c.r=some c.d∧c.d.v=x∧c=kI K0.N y c.r c.d:=by
 obtain⟨⟨h1,h2,_⟩,h3⟩:=(b.cx.mem c).1 hc
 exact⟨h1,h2,h3⟩
theorem TB.KU(b:TB K0 S0 ak x y l all made){c:Cx}(hc:c∈all):(pQ K0 ak l c.sW∧pQ K0 ak l c.p5)∧(pQ K0 ak l c.sV∧pQ K0 ak l c.pZ):=by
 obtain⟨h1,h2,h3⟩:=b.kJ hc
 have k1:=iY b.ok.wf b.ok.lv b.ok.mid.int b.nb h1 h2 (k:=⟨x,pl K0.N y c.d.lo,pl K0.N y c.d.hi⟩) List.mem_cons_self
 have k2:=iY b.ok.wf b.ok.lv b.ok.mid.int b.nb h1 h2 (k:=⟨x,ph K0.N y c.d.lo,ph K0.N y c.d.hi⟩) (List.mem_cons_of_mem _ List.mem_cons_self)
 rw[h3]
 exact⟨⟨k1.2.1,k1.2.2⟩,⟨k2.2.1,k2.2.2⟩⟩
theorem TB.level(b:TB K0 S0 ak x y l all made){c:Cx}(hc:c∈all):dep K0.n ak K0.N c.r=l:=by
 obtain⟨h1,h2,_⟩:=b.kJ hc
 rw[aE h1,h2,b.nb.lx]
theorem TB.start(b:TB K0 S0 ak x y l all made){T:Nd→Option Nat}(hm:g6 {K0 with T:=T} S0 (fun s=>∃c∈all,s=c.r) zero')(hT:∀d,T d=none∨T d=K0.T d):
  TI K0 S0 ak x y l made {K0 with T:=T} S0 [] all zero' where
 mid:=hm
 n:=rfl
 cap:=rfl
 hold:=fun _=>rfl
 ext:=fun _ _=>rfl
 old:=fun h _=>h
 kept:=fun h=>⟨_,h⟩
 new:=fun h=>.inl ⟨h,by simp⟩
 used:=by
  have:made.filter (fun k=>(T k).isSome)=[]:=by
   rw[List.filter_eq_nil_iff]
   intro k hk
   have h1:=((b.Qa.mem k).1 hk).2.1
   rcases hT k with h2|h2
   ·rw[h2];simp
   ·rw[h2,h1];simp
  show K0.used=K0.used+(made.filter (fun k=>(T k).isSome)).length
  rw[this];simp
theorem TI.KW(b:TB K0 S0 ak x y l all made)(h:TI K0 S0 ak x y l made K S done rest P)(hd:∀c∈done,c∈all){t:Nat}(ht:pQ K0 ak l t):K.N t=K0.N t:=by
 rcases ht with⟨ht|⟨d,dm⟩,hlt⟩
 ·cases e:K.N t with
  |none=>rw[b.ok.wf.const ht]
  |some d=>have:=(h.mid.two e).1;omega
 ·rw[dm]
  refine h.old dm fun hm=>?_
  obtain⟨c,hc,e⟩:=List.mem_map.1 hm
  have:=b.level (hd c hc)
  rw[e]at this;omega
theorem TI.nR(b:TB K0 S0 ak x y l all made)(h:TI K0 S0 ak x y l made K S done rest P)(hd:∀c∈done,c∈all){t:Nat}(ht:pQ K0 ak l t):live K.N t:=by
 have e:=h.KW b hd ht
 rcases ht.1 with ht|⟨d,dm⟩
 ·exact .inl ht
 ·exact .inr ⟨d,by rw[e];exact dm⟩
theorem TI.nV(b:TB K0 S0 ak x y l all made)(h:TI K0 S0 ak x y l made K S done rest P)(hd:∀c∈done,c∈all){t:Nat}(ht:sZ K0 K ak x l t):live K.N t:=by
 rcases ht with ht|⟨e,he,_⟩
 ·exact h.nR b hd ht
 ·exact .inr ⟨e,he⟩
theorem TI.use(h:TI K0 S0 ak x y l made K S done rest P){r:Nat}{cP:List Nat}(hl:cP.length=K.us.length)(h1:cP.getD r 0=K.use r+1)(h2:∀s,s≠r→cP.getD s 0=K.use s):
  TI K0 S0 ak x y l made {K with us:=cP} S done rest (up P r (P r+1)) where
 mid:=h.mid.more hl h1 h2
 n:=h.n
 cap:=h.cap
 hold:=h.hold
 ext:=h.ext
 old:=h.old
 kept:=h.kept
 new:=h.new
 used:=h.used
theorem TI.congr(h:TI K0 S0 ak x y l made K S done rest P){P':Nat→Nat}(hP:∀s,2≤s→P s=P' s):TI K0 S0 ak x y l made K S done rest P' where
 mid:=h.mid.congr (fun _=>Iff.rfl) hP
 n:=h.n
 cap:=h.cap
 hold:=h.hold
 ext:=h.ext
 old:=h.old
 kept:=h.kept
 new:=h.new
 used:=h.used
theorem filter_lt{α:Type}{p:α→Bool}{k:α}:∀{m:List α},k∈m→p k=false→(m.filter p).length<m.length
 | [],h,_=>by simp at h
 |z::m,h,hp=>by
  rcases List.mem_cons.1 h with rfl|h
  ·rw[List.filter_cons,if_neg (by simp[hp])]
   have:=List.length_filter_le p m
   simp;omega
  ·have:=filter_lt h hp
   rw[List.filter_cons]
   split
   ·rw[List.length_cons,List.length_cons];omega
   ·rw[List.length_cons];omega
theorem TI.fits(b:TB K0 S0 ak x y l all made)(h:TI K0 S0 ak x y l made K S done rest P){k:Nd}(hk:k∈made)(hT:K.T k=none):K.used<K.cap:=by
 have h1:=filter_lt (p:=fun k=>(K.T k).isSome) hk (by rw[hT];rfl)
 have h2:=h.used
 have h3:=b.room
 have h4:=h.cap
 omega
theorem kH{T:Nd→Option Nat}{k:Nd}{r:Nat}:∀{m:List Nd},m.Nodup→T k=none→(m.filter fun d=>(ng T k (some r) d).isSome).length=(m.filter fun d=>(T d).isSome).length+(if k∈m then 1 else 0)
 | [],_,_=>rfl
 |z::m,hn,hT=>by
  obtain⟨h1,h2⟩:=List.nodup_cons.1 hn
  have ih:=kH (r:=r) h2 hT
  rw[List.filter_cons,List.filter_cons]
  by_cases e:z=k
  ·subst e
   rw[gJ,hT]
   simp only[Option.isSome_some,if_true,Option.isSome_none,Bool.false_eq_true,if_false,List.length_cons,ih,if_neg h1,List.mem_cons,true_or]
  ·rw[mH e]
   have e2:(k∈z::m)↔k∈m:=by rw[List.mem_cons];exact⟨fun h=>h.resolve_left (fun h=>e h.symm),.inr⟩
   simp only[e2]
   split
   ·simp only[List.length_cons,ih];omega
   ·exact ih
theorem TB.uN(b:TB K0 S0 ak x y l all made){t:Nat}(ht:pQ K0 ak l t){e:Nd}(he:K0.N t=some e):l+1<ak e.v:=by
 have:=ht.2
 rwa [aE he]at this
theorem TB.wh(b:TB K0 S0 ak x y l all made){c:Cx}(hc:c∈all)(h1:pQ K0 ak l c.d.lo)(h2:pQ K0 ak l c.d.hi):False:=by
 obtain⟨⟨_,_,h3⟩,_⟩:=(b.cx.mem c).1 hc
 have hy:=b.nb.ly
 rcases h3 with⟨e,he,hv⟩|⟨e,he,hv⟩
 ·have:=b.uN h1 he;rw[hv]at this;omega
 ·have:=b.uN h2 he;rw[hv]at this;omega
theorem TI.HU(b:TB K0 S0 ak x y l all made)(h:TI K0 S0 ak x y l made K S done rest P)(hd:∀c∈done,c∈all)(hr:∀c∈rest,c∈all){c:Cx}(hc:c∈all){k:Nd}(hk:k∈keys x c)(hne:k.lo≠k.hi)(h1:pQ K0 ak l k.lo)(h2:pQ K0 ak l k.hi)(hT:K.T k=none):k∈made:=by
 refine(b.Qa.mem k).2 ⟨⟨c,hc,hk⟩,?_,hne⟩
 cases e:K0.T k with
 |none=>rfl
 |some s=>
  have hs:=((b.ok.mid.gn k s).1 e).1
  have hno:∀c'∈all,s≠c'.r:=fun c' jR e'=>by
   have h3:=(b.kJ jR).1
   rw[←e',hs]at h3
   cases h3
   exact b.wh jR h1 h2
  have tN:K.N s=some k:=by
   refine h.old hs fun hm=>?_
   obtain⟨c',jR,e'⟩:=List.mem_map.1 hm
   exact hno c' (hd c' jR) e'.symm
  have:=(h.mid.gn k s).2 ⟨tN,by rintro⟨c',jR,e'⟩;exact hno c' (hr c' jR) e'⟩
  rw[hT]at this;cases this
theorem TI.lay(b:TB K0 S0 ak x y l all made)(h:TI K0 S0 ak x y l made K S done rest P)(hd:∀c∈done,c∈all)(hr:∀c∈rest,c∈all){c:Cx}(hc:c∈all){k:Nd}(hk:k∈keys x c)(hne:k.lo≠k.hi)(hT:K.T k=none)
 {r:Nat}{cP bE:List Nat}(hN:K.N r=none)(h2:2≤r∧r<K.cap)(hl:cP.length=bE.length)(hf:r<cP.length∧K.us.length≤cP.length)(u0:cP.getD r 0=0)(u1:∀s,2≤s→s≠r→cP.getD s 0=K.use s+e1 (some k) s)(o0:bE.getD r 0=0)(o1:∀s,s≠r→bE.getD s 0=K.hold s)(hP:P r=0):
  TI K0 S0 ak x y l made {K with N:=up K.N r (some k),T:=ng K.T k (some r),used:=K.used+1,us:=cP,ho:=bE} (up S r (ite S k)) done rest P∧sZ K0 {K with N:=up K.N r (some k),T:=ng K.T k (some r),used:=K.used+1,us:=cP,ho:=bE} ak x l r:=by
 have jE:=b.KU hc
 have hkv:k.v=x∧pQ K0 ak l k.lo∧pQ K0 ak l k.hi:=by
  simp only[keys,List.mem_cons,List.not_mem_nil,or_false]at hk
  rcases hk with rfl|rfl
  ·exact⟨rfl,jE.1.1,jE.1.2⟩
  ·exact⟨rfl,jE.2.1,jE.2.2⟩
 have QZ:K0.N r=none:=by
  cases e:K0.N r with
  |none=>rfl
  |some d=>obtain⟨d',dm⟩:=h.kept e;rw[hN]at dm;cases dm
 have hkm:=h.HU b hd hr hc hk hne hkv.2.1 hkv.2.2 hT
 have hE:¬∃c∈rest,r=c.r:=by
  rintro⟨c',jR,rfl⟩
  have:=(b.kJ (hr c' jR)).1
  rw[QZ]at this;cases this
 have ze:∀{t},sZ K0 K ak x l t→sZ K0 {K with N:=up K.N r (some k),T:=ng K.T k (some r),used:=K.used+1,us:=cP,ho:=bE} ak x l t:=fun ht=>by
  rcases ht with ht|⟨e,he,h3⟩
  ·exact .inl ht
  ·refine .inr ⟨e,?_,h3⟩
   show up K.N r (some k) _=_
   rw[aI (fun e2=>by rw[e2,hN]at he;cases he)];exact he
 refine⟨⟨h.mid.lay hN h2 (by rw[hkv.1,h.n];exact b.nb.xn) hne (h.nR b hd hkv.2.1) (h.nR b hd hkv.2.2) hT hE hP (h.fits b hkm hT) hl hf u0 u1 o0 o1,h.n,h.cap,fun s=>?_,fun s hs=>?_,fun{s d} hs hm=>?_,fun{s d} hs=>?_,fun{s d} hs=>?_,?_⟩,?_⟩
 ·show bE.getD s 0=_
  rw[←h.hold]
  by_cases e:s=r
  ·subst e
   rw[o0]
   refine(Classical.byContradiction fun hno=>?_)
   obtain⟨d,dm⟩:=h.mid.held s (fun e=>hno e.symm)
   rw[hN]at dm;cases dm
  ·exact o1 s e
 ·rw[aI (eJ hs h2.1 QZ)];exact h.ext s hs
 ·show up K.N r (some k) s=_
  rw[aI (fun e=>by rw[e,QZ]at hs;cases hs)];exact h.old hs hm
 ·obtain⟨d',dm⟩:=h.kept hs
  exact⟨d',by show up K.N r (some k) s=_;rw[aI (fun e=>by rw[e,QZ]at hs;cases hs)];exact dm⟩
 ·have hs':up K.N r (some k) s=some d:=hs
  by_cases e:s=r
  ·subst e
   rw[aH]at hs';cases hs'
   exact .inr (.inr ⟨QZ,hkv⟩)
  ·rw[aI e]at hs'
   rcases h.new hs' with h1|⟨h1,nq,h3,h4⟩|h1
   ·exact .inl h1
   ·exact .inr (.inl ⟨h1,nq,ze h3,ze h4⟩)
   ·exact .inr (.inr h1)
 ·show K.used+1=K0.used+(made.filter fun d=>(ng K.T k (some r) d).isSome).length
  rw[kH b.Qa.nd hT,if_pos hkm,h.used];omega
 ·exact .inr ⟨k,aH,hkv⟩
theorem TI.found(b:TB K0 S0 ak x y l all made)(h:TI K0 S0 ak x y l made K S done rest P){c:Cx}(hc:c∈all){k:Nd}(hk:k∈keys x c){r:Nat}(hT:K.T k=some r):K.N r=some k∧sZ K0 K ak x l r:=by
 have jE:=b.KU hc
 have hN:=((h.mid.gn k r).1 hT).1
 simp only[keys,List.mem_cons,List.not_mem_nil,or_false]at hk
 rcases hk with rfl|rfl
 ·exact⟨hN,.inr ⟨_,hN,rfl,jE.1.1,jE.1.2⟩⟩
 ·exact⟨hN,.inr ⟨_,hN,rfl,jE.2.1,jE.2.2⟩⟩
theorem TI.Mv(b:TB K0 S0 ak x y l all made)(h:TI K0 S0 ak x y l made K S done rest P){a a' t:Nat}(la:pQ K0 ak l a)(Gc:pQ K0 ak l a')(g:(a=a'∧t=a)∨K.N t=some ⟨x,a,a'⟩)(z:Nat):S t z=ite S0 ⟨x,a,a'⟩ z:=by
 rcases g with⟨rfl,rfl⟩|g
 ·rw[h.ext t la.1];unfold ite;simp
 ·rw[h.mid.int.node g]
  unfold ite
  simp only
  rw[h.ext a la.1,h.ext a' Gc.1]
theorem TI.KV(b:TB K0 S0 ak x y l all made)(h:TI K0 S0 ak x y l made K S done rest P)(hd:∀c∈done,c∈all){a a' t:Nat}(ht:pQ K0 ak l t)(g:K.N t=some ⟨x,a,a'⟩):False:=by
 rw[h.KW b hd ht]at g
 have:=b.uN ht g
 have hx:=b.nb.lx
 simp only at this;omega
theorem TI.pT(b:TB K0 S0 ak x y l all made){c:Cx}(h:TI K0 S0 ak x y l made K S done (c::rest) P)(hd:∀c∈done,c∈all)(hr:∀c'∈c::rest,c'∈all)(hn:((done++c::rest).map Cx.r).Nodup){t0 t1:Nat}
 (k0:sZ K0 K ak x l t0)(k1:sZ K0 K ak x l t1)(g0:(c.sW=c.p5∧t0=c.sW)∨K.N t0=some ⟨x,c.sW,c.p5⟩)(g1:(c.sV=c.pZ∧t1=c.sV)∨K.N t1=some ⟨x,c.sV,c.pZ⟩){P':Nat→Nat}(hP:∀s,2≤s→P' s+e1 (some ⟨y,t0,t1⟩) s=P s+e1 (some c.d) s):
  K.T ⟨y,t0,t1⟩=none∧TI K0 S0 ak x y l made {K with N:=up K.N c.r (some ⟨y,t0,t1⟩),T:=ng K.T ⟨y,t0,t1⟩ (some c.r)} S (done++[c]) rest P':=by
 have hc:=hr c (by simp)
 obtain⟨uX,EF,hce⟩:=b.kJ hc
 obtain⟨⟨VV,XS⟩,⟨VU,XR⟩⟩:=b.KU hc
 have w:=b.ok.wf
 have hi:=b.ok.mid.int
 have hlo:=w.lo uX
 have hhi:=w.hi uX
 rw[EF,b.nb.lx]at hlo hhi
 have ep:c.sW=pl K0.N y c.d.lo∧c.sV=ph K0.N y c.d.lo∧c.p5=pl K0.N y c.d.hi∧c.pZ=ph K0.N y c.d.hi:=by rw[hce];exact⟨rfl,rfl,rfl,rfl⟩
 have both:c.sW=c.p5→c.sV=c.pZ→False:=fun e1 e2=>by
  rw[ep.1,ep.2.2.1]at e1
  rw[ep.2.1,ep.2.2.2]at e2
  exact w.ne uX (w.LB b.ok.lv hi b.nb.yy hlo.1 hhi.1 hlo.2 hhi.2 e1 e2)
 have SJ:c.r∉done.map Cx.r:=by
  rw[List.map_append,List.nodup_append]at hn
  intro hm
  exact hn.2.2 _ hm _ (by simp) rfl
 have Wy:=h.old uX SJ
 have fn0:=fun z=>h.Mv b VV XS g0 z
 have ZJ:=fun z=>h.Mv b VU XR g1 z
 have hS:∀z,S c.r z=ite S ⟨y,t0,t1⟩ z:=fun z=>by
  rw[h.ext c.r (.inr ⟨_,uX⟩),rR w b.ok.lv hi b.nb uX EF z]
  unfold ite
  simp only
  have a0:=fn0 z
  have a1:=ZJ z
  unfold ite at a0 a1
  simp only at a0 a1
  rw[a0,a1,ep.1,ep.2.1,ep.2.2.1,ep.2.2.2]
 have hne:t0≠t1:=fun e=>by
  subst e
  rcases g0 with⟨e1,e2⟩|g0
  ·rcases g1 with⟨e3,e4⟩|g1
   ·exact both e1 e3
   ·rw[e2]at g1;exact h.KV b hd VV g1
  ·rcases g1 with⟨e3,e4⟩|g1
   ·rw[e4]at g0;exact h.KV b hd VU g0
   ·rw[g0]at g1
    simp only[Option.some.injEq,Nd.mk.injEq,true_and]at g1
    obtain⟨q1,q2⟩:=g1
    obtain⟨⟨_,_,OA⟩,_⟩:=(b.cx.mem c).1 hc
    rw[ep.1,ep.2.1]at q1
    rw[ep.2.2.1,ep.2.2.2]at q2
    rcases OA with⟨e,he,hv⟩|⟨e,he,hv⟩
    ·have:=KC he hv
     rw[this.1,this.2]at q1
     exact w.ne he q1
    ·have:=KC he hv
     rw[this.1,this.2]at q2
     exact w.ne he q2
 have hT:K.T ⟨y,t0,t1⟩=none:=by
  cases e:K.T ⟨y,t0,t1⟩with
  |none=>rfl
  |some s=>
   obtain⟨hs,H7⟩:=(h.mid.gn _ s).1 e
   rcases h.new hs with⟨h1,_⟩|⟨h1,_⟩|⟨_,h1,_⟩
   ·have q1:=w.lo h1
    have q2:=w.hi h1
    simp only at q1 q2
    rw[b.nb.ly]at q1 q2
    have p1:c.sW=c.p5:=by
     rcases g0 with⟨e1,_⟩|g0
     ·exact e1
     ·exact(h.KV b hd q1 g0).elim
    have p2:c.sV=c.pZ:=by
     rcases g1 with⟨e1,_⟩|g1
     ·exact e1
     ·exact(h.KV b hd q2 g1).elim
    exact(both p1 p2).elim
   ·obtain⟨c',jR,e'⟩:=List.mem_map.1 h1
    have II:=(b.kJ (hd c' jR)).1
    have:c'.r=c.r:=w.same b.ok.lv hi (.inr ⟨_,II⟩) (.inr ⟨_,uX⟩) fun z=>by
     rw[←h.ext c'.r (.inr ⟨_,II⟩),←h.ext c.r (.inr ⟨_,uX⟩),hS z,e',h.mid.int.node hs z];rfl
    exact absurd (List.mem_map.2 ⟨c',jR,this⟩) SJ
   ·exact absurd h1 (Ne.symm b.nb.ne)
 have ze:∀{t},sZ K0 K ak x l t→sZ K0 {K with N:=up K.N c.r (some ⟨y,t0,t1⟩),T:=ng K.T ⟨y,t0,t1⟩ (some c.r)} ak x l t:=fun ht=>by
  rcases ht with ht|⟨e,he,h3⟩
  ·exact .inl ht
  ·refine .inr ⟨e,?_,h3⟩
   show up K.N c.r (some ⟨y,t0,t1⟩) _=_
   refine(aI fun e2=>?_).trans he
   rw[e2,Wy]at he
   cases he
   exact b.wh hc h3.2.1 h3.2.2
 have hml:∀s,s∈(done++[c]).map Cx.r↔s∈done.map Cx.r∨s=c.r:=fun s=>by simp[List.mem_append]
 refine⟨hT,⟨(h.mid.pT Wy ⟨c,by simp,rfl⟩ (by rw[h.n];exact b.nb.yn) hne (h.nV b hd k0) (h.nV b hd k1) hT hS hP).congr (fun s=>?_) (fun _ _=>rfl),h.n,h.cap,h.hold,h.ext,fun{s d} hs hm=>?_,fun{s d} hs=>?_,fun{s d} hs=>?_,?_⟩⟩
 ·constructor
  ·rintro⟨⟨c',jR,rfl⟩,h2⟩
   rcases List.mem_cons.1 jR with rfl|jR
   ·exact absurd rfl h2
   ·exact⟨c',jR,rfl⟩
  ·rintro⟨c',jR,rfl⟩
   refine⟨⟨c',List.mem_cons_of_mem _ jR,rfl⟩,fun e=>?_⟩
   rw[List.map_append,List.nodup_append]at hn
   have:=hn.2.1
   rw[List.map_cons,List.nodup_cons]at this
   exact this.1 (List.mem_map.2 ⟨c',jR,e⟩)
 ·have hm':=fun x=>hm ((hml s).2 x)
  show up K.N c.r _ s=_
  rw[aI (fun e=>hm' (.inr e))];exact h.old hs (fun x=>hm' (.inl x))
 ·by_cases e:s=c.r
  ·exact⟨⟨y,t0,t1⟩,by show up K.N c.r (some _) s=_;rw[e,aH]⟩
  ·obtain⟨d',dm⟩:=h.kept hs
   exact⟨d',by show up K.N c.r (some _) s=_;rw[aI e];exact dm⟩
 ·have hs':up K.N c.r (some ⟨y,t0,t1⟩) s=some d:=hs
  by_cases e:s=c.r
  ·rw[e,aH]at hs';cases hs'
   exact .inr (.inl ⟨(hml s).2 (.inr e),rfl,ze k0,ze k1⟩)
  ·rw[aI e]at hs'
   rcases h.new hs' with⟨h1,h2⟩|⟨h1,h2,h3,h4⟩|h1
   ·exact .inl ⟨h1,fun hm=>((hml s).1 hm).elim h2 e⟩
   ·exact .inr (.inl ⟨(hml s).2 (.inl h1),h2,ze h3,ze h4⟩)
   ·exact .inr (.inr h1)
 ·show K.used=K0.used+(made.filter fun d=>(ng K.T ⟨y,t0,t1⟩ (some c.r) d).isSome).length
  have hnm:(⟨y,t0,t1⟩:Nd)∉made:=fun hm=>by
   obtain⟨⟨c',jR,hk⟩,_⟩:=(b.Qa.mem _).1 hm
   simp only[keys,List.mem_cons,List.not_mem_nil,or_false,Nd.mk.injEq]at hk
   rcases hk with⟨e,_⟩|⟨e,_⟩
   ·exact b.nb.ne e.symm
   ·exact b.nb.ne e.symm
  rw[kH b.Qa.nd hT,if_neg hnm,h.used];rfl
theorem TI.levels(b:TB K0 S0 ak x y l all made)(h:TI K0 S0 ak x y l made K S all [] P){s:Nat}{d:Nd}(hs:K.N s=some d):
  pU ak x y l d.v<dep K0.n (pU ak x y l) K.N d.lo∧pU ak x y l d.v<dep K0.n (pU ak x y l) K.N d.hi:=by
 have w:=b.ok.wf
 have hd:∀c∈all,c∈all:=fun _ h=>h
 have NW:l+1<K0.n:=by have:=b.ok.lv.lt y b.nb.yn;rw[b.nb.ly]at this;exact this
 have sx:pU ak x y l x=l+1:=by simp[pU]
 have sy:pU ak x y l y=l:=by unfold pU;rw[if_neg (Ne.symm b.nb.ne),if_pos rfl]
 have so:∀v,v<K0.n→ak v≠l→ak v≠l+1→pU ak x y l v=ak v:=fun v hv h1 h2=>by
  unfold pU
  rw[if_neg (fun e=>h1 (by rw[e];exact b.nb.lx)),if_neg (fun e=>h2 (by rw[e];exact b.nb.ly))]
 have low:∀{t},pQ K0 ak l t→l+1<dep K0.n (pU ak x y l) K.N t:=fun{t} ht=>by
  have e:=h.KW b hd ht
  cases e2:K0.N t with
  |none=>rw[cj (by rw[e,e2])];exact NW
  |some e'=>
   have:=b.uN ht e2
   rw[aE (by rw[e,e2]),so _ (w.var e2) (by omega) (by omega)];exact this
 have tK:∀{t},sZ K0 K ak x l t→l<dep K0.n (pU ak x y l) K.N t:=fun{t} ht=>by
  rcases ht with ht|⟨e,he,hx,_⟩
  ·have:=low ht;omega
  ·rw[aE he,hx,sx];omega
 rcases h.new hs with⟨h1,h2⟩|⟨_,h2,h3,h4⟩|⟨_,h2,h3,h4⟩
 ·have hv:=w.var h1
  have q1:=w.lo h1
  have q2:=w.hi h1
  rcases Nat.lt_trichotomy (ak d.v) l with hlt|heq|hgt
  ·rw[so _ hv (by omega) (by omega)]
   have VP:∀{t},live K0.N t→ak d.v<dep K0.n ak K0.N t→ak d.v<dep K0.n (pU ak x y l) K.N t:=fun{t} ht l7=>by
    cases e:K.N t with
    |none=>rw[cj e];exact Nat.lt_of_lt_of_le l7 (w.gX b.ok.lv t)
    |some e'=>
     rw[aE e]
     rcases h.new e with⟨g1,_⟩|⟨_,g2,_⟩|⟨g1,_⟩
     ·rw[aE g1]at l7
      have TS:=w.var g1
      by_cases e1:ak e'.v=l
      ·have:e'.v=x:=b.ok.lv.inj _ _ TS b.nb.xn (by rw[b.nb.lx];exact e1)
       rw[this,sx];omega
      ·by_cases e2:ak e'.v=l+1
       ·have:e'.v=y:=b.ok.lv.inj _ _ TS b.nb.yn (by rw[b.nb.ly];exact e2)
        rw[this,sy];exact hlt
       ·rw[so _ TS e1 e2];exact l7
     ·rw[g2,sy];exact hlt
     ·rcases ht with ht|⟨f,hf⟩
      ·have:=(h.mid.two e).1;omega
      ·rw[g1]at hf;cases hf
   exact⟨VP q1.1 q1.2,VP q2.1 q2.2⟩
  ·have hx:d.v=x:=b.ok.lv.inj _ _ hv b.nb.xn (by rw[b.nb.lx];exact heq)
   rw[hx,sx]
   have nc:∀t,t=d.lo∨t=d.hi→∀e,K0.N t=some e→e.v≠y:=fun t ht e he hv=>h2 (List.mem_map.2 ⟨kI K0.N y s d,(b.cx.mem _).2 ⟨⟨h1,hx,by
    rcases ht with rfl|rfl
    ·exact .inl ⟨e,he,hv⟩
    ·exact .inr ⟨e,he,hv⟩⟩,rfl⟩,rfl⟩)
   have lw:∀t,t=d.lo∨t=d.hi→live K0.N t→ak d.v<dep K0.n ak K0.N t→pQ K0 ak l t:=fun t ht hlv hlt=>by
    refine⟨hlv,?_⟩
    have:=(w.half b.ok.lv b.ok.mid.int b.nb.yy hlv (by omega:l<dep K0.n ak K0.N t)).1.2
    rwa [(KD (nc t ht)).1]at this
   exact⟨low (lw _ (.inl rfl) q1.1 q1.2),low (lw _ (.inr rfl) q2.1 q2.2)⟩
  ·by_cases e:ak d.v=l+1
   ·have hy:d.v=y:=b.ok.lv.inj _ _ hv b.nb.yn (by rw[b.nb.ly];exact e)
    rw[hy,sy]
    have a1:=low ⟨q1.1,by omega⟩
    have a2:=low ⟨q2.1,by omega⟩
    exact⟨by omega,by omega⟩
   ·rw[so _ hv (by omega) e]
    have deep:∀{t},live K0.N t→ak d.v<dep K0.n ak K0.N t→ak d.v<dep K0.n (pU ak x y l) K.N t:=fun{t} ht l7=>by
     have hl:pQ K0 ak l t:=⟨ht,by omega⟩
     have e':=h.KW b hd hl
     cases e2:K0.N t with
     |none=>rw[cj (by rw[e',e2])];exact b.ok.lv.lt _ hv
     |some f=>
      rw[aE e2]at l7
      rw[aE (by rw[e',e2]),so _ (w.var e2) (by omega) (by omega)];exact l7
    exact⟨deep q1.1 q1.2,deep q2.1 q2.2⟩
 ·rw[h2,sy];exact⟨tK h3,tK h4⟩
 ·rw[h2,sx];exact⟨low h3,low h4⟩
theorem TI.fin(b:TB K0 S0 ak x y l all made)(h:TI K0 S0 ak x y l made K S all [] P){K':Kd}(hm:g6 K' S fY zero')(hp:Pos K')(hN:∀{s d},K'.N s=some d→K.N s=some d)(hn:K'.n=K.n)(hh:∀r,K'.hold r=K.hold r):
  Ok K' S (pU ak x y l)∧(∀g,K'.held S g↔K0.held S0 g)∧∀r,K0.hold r≠0→S r=S0 r:=by
 have RB:∀r,K0.hold r≠0→S r=S0 r:=fun r hr=>h.ext r (.inr (b.ok.mid.held r hr))
 refine⟨⟨hm,hp,by rw[hn,h.n];exact Ko b.ok.lv b.nb,hm.wf fun{s d} hs=>?_⟩,fun g=>?_,RB⟩
 ·have hl:=h.levels b (hN hs)
  have same:∀{t},live K'.N t→dep K'.n (pU ak x y l) K'.N t=dep K0.n (pU ak x y l) K.N t:=fun{t} ht=>by
   cases e:K'.N t with
   |some f=>rw[aE e,aE (hN e)]
   |none=>
    have Gd:t<2:=by
     rcases ht with ht|⟨f,hf⟩
     ·exact ht
     ·rw[e]at hf;cases hf
    have:K.N t=none:=by
     cases e2:K.N t with
     |none=>rfl
     |some f=>have:=(h.mid.two e2).1;omega
    rw[cj e,cj this,hn,h.n]
  rw[same (hm.lo hs),same (hm.hi hs)];exact hl
 ·constructor
  ·rintro⟨r,hr,rfl⟩
   have hr':K0.hold r≠0:=by rw[←h.hold,←hh];exact hr
   exact⟨r,hr',RB r hr'⟩
  ·rintro⟨r,hr,rfl⟩
   exact⟨r,by show K'.hold r≠0;rw[hh,h.hold];exact hr,(RB r hr).symm⟩
end
end aU
namespace aU
open af
variable {n cap l:Nat} {ord:List Nat} {F G:Fn→Prop}
open Classical in
noncomputable def sz(n:Nat)(ord:List Nat)(F:Fn→Prop):Nat:=if h:∃k,ou (bC n ord F) k then Classical.choose h else 0
theorem Ml{k:Nat}(h:ou (bC n ord F) k):sz n ord F=k:=by
 unfold sz
 rw[dif_pos ⟨k,h⟩]
 exact(Classical.choose_spec (⟨k,h⟩:∃k,ou (bC n ord F) k)).uniq h
def Ce(n:Nat)(ord:List Nat)(l:Nat)(F:Fn→Prop):Fn→Prop:=fun g=>bC n ord F g∨bC n (dQ ord l) F g
open Classical in
noncomputable def vK(n:Nat)(ord:List Nat)(l:Nat)(F:Fn→Prop):Nat:=if h:∃k,ou (Ce n ord l F) k then Classical.choose h else 0
theorem GB{k:Nat}(h:ou (Ce n ord l F) k):vK n ord l F=k:=by
 unfold vK
 rw[dif_pos ⟨k,h⟩]
 exact(Classical.choose_spec (⟨k,h⟩:∃k,ou (Ce n ord l F) k)).uniq h
theorem GN(e:∀g,F g↔G g):sz n ord F=sz n ord G:=by
 have:F=G:=funext fun g=>propext (e g)
 rw[this]
theorem DL(e:∀g,F g↔G g):vK n ord l F=vK n ord l G:=by
 have:F=G:=funext fun g=>propext (e g)
 rw[this]
theorem xH{a b:List Nat}(hl:a.length=b.length)(h:∀i,i<a.length→a.getD i 0=b.getD i 0):a=b:=by
 refine List.ext_getElem hl fun i h1 h2=>?_
 have:=h i h1
 simpa[List.getD,List.getElem?_eq_getElem h1,List.getElem?_eq_getElem h2]using this
theorem p6(hl:l+1<ord.length):dQ (dQ ord l) l=ord:=by
 refine xH (by rw[gp,gp]) fun i _=>?_
 have h2:l+1<(dQ ord l).length:=by rw[gp];exact hl
 rw[dK h2,dK hl,dK hl,dK hl]
 by_cases e:i=l
 ·subst e;simp
 ·by_cases e2:i=l+1
  ·subst e2;simp
  ·simp[e,e2]
theorem Ka(hl:l+1<ord.length):vK n (dQ ord l) l F=vK n ord l F:=by
 have:Ce n (dQ ord l) l F=Ce n ord l F:=by
  funext g
  unfold Ce
  rw[p6 hl]
  exact propext or_comm
 unfold vK
 rw[this]
def sX(n cap:Nat)(F:Fn→Prop):List Nat→List Nat→Prop
 |_,[]=>True
 |ord,l::r=>l+1<n∧vK n ord l F+2≤cap∧sX n cap F (dQ ord l) r
theorem sX.congr(e:∀g,F g↔G g):∀{tr ord:List Nat},sX n cap F ord tr→sX n cap G ord tr:=by
 have:F=G:=funext fun g=>propext (e g)
 subst this
 exact fun{tr ord} h=>h
theorem sX.Vt(hlen:ord.length=n)(hl:l+1<n)(hfit:vK n ord l F+2≤cap){tr:List Nat}(h:sX n cap F ord tr.reverse):sX n cap F (dQ ord l) (tr++[l]).reverse:=by
 rw[List.reverse_append]
 exact⟨hl,by rw[Ka (by omega)];exact hfit,by rw[p6 (by omega)];exact h⟩
end aU
namespace aU
open af
variable {n l:Nat} {ord:List Nat} {L:af.Fs} {F:Fn→Prop}
def dz(n:Nat)(ws:List Nat):Fn:=fun x=>bit ws (x%2^n)
theorem kg{x v n:Nat}{b:Bool}(hv:v<n):au x v b%2^n=au (x%2^n) v b:=by
 apply Nat.eq_of_testBit_eq;intro k
 rw[Nat.testBit_mod_two_pow,ai,ai,Nat.testBit_mod_two_pow]
 by_cases e:k=v
 ·subst e;simp[hv]
 ·simp[e]
theorem iy{v:Nat}{ws:List Nat}(hf:bO n ws)(hv:v<n)(b:Bool):dz n (dj n ws v b)=fun x=>dz n ws (au x v b):=by
 funext x
 unfold dz
 rw[dN hf hv (Nat.mod_lt _ (Nat.two_pow_pos n)),kg hv]
theorem I1{ws:List Nat}{x:Nat}(h:x<2^n):dz n ws x=bit ws x:=by unfold dz;rw[Nat.mod_eq_of_lt h]
theorem fm{a b:List Nat}(ha:bO n a)(hb:bO n b)(h:dz n a=dz n b):a=b:=ha.ext hb fun x hx=>by rw[←I1 hx,←I1 hx,h]
theorem gI{v:Nat}{ws:List Nat}(hf:bO n ws)(hv:v<n):eE (dz n ws) v↔af.dep n ws v=true:=by
 rw[qd hf hv]
 constructor
 ·rintro⟨x,hx⟩
  refine⟨x%2^n,Nat.mod_lt _ (Nat.two_pow_pos n),?_⟩
  unfold dz at hx
  rwa [kg hv,kg hv]at hx
 ·rintro⟨x,hx,hne⟩
  refine⟨x,?_⟩
  unfold dz
  rwa [kg hv,kg hv,Nat.mod_eq_of_lt hx]
def cur(n:Nat)(ord:List Nat)(L:af.Fs):Nat→af.Fs
 |0=>df L
 |k+1=>given n (cur n ord L k) (ord.getD k 0)
def FT(n:Nat)(L:af.Fs):Fn→Prop:=fun g=>∃t∈L,g=dz n t
theorem oY:∀k,(cur n ord L k).Nodup
 |0=>fc L
 |k+1=>iu _ _ _
theorem gz(hL:∀t∈L,bO n t)(hn:n≤16):∀k,∀t∈cur n ord L k,bO n t
 |0,t,h=>hL t (bY.1 h)
 |k+1,t,h=>by obtain⟨u,_,b,rfl⟩:=bt.1 h;exact cg hn
theorem vb(hL:∀t∈L,bO n t)(hn:n≤16)(ho:∀i,i<n→ord.getD i 0<n):∀k,k≤n→∀g,fs ord (FT n L) k g↔∃t∈cur n ord L k,g=dz n t
 |0,_,g=>by
  show(∃t∈L,g=dz n t)↔_
  constructor
  ·rintro⟨t,h,e⟩;exact⟨t,bY.2 h,e⟩
  ·rintro⟨t,h,e⟩;exact⟨t,bY.1 h,e⟩
 |k+1,hk,g=>by
  have ih:=vb hL hn ho k (by omega)
  constructor
  ·rintro⟨f,hf,b,rfl⟩
   obtain⟨t,ht,rfl⟩:=(ih f).1 hf
   exact⟨dj n t (ord.getD k 0) b,bt.2 ⟨t,ht,b,rfl⟩,(iy (gz hL hn k t ht) (ho k (by omega)) b).symm⟩
  ·rintro⟨t,ht,rfl⟩
   obtain⟨u,hu,b,rfl⟩:=bt.1 ht
   exact⟨dz n u,(ih _).2 ⟨u,hu,rfl⟩,b,iy (gz hL hn k u hu) (ho k (by omega)) b⟩
theorem rI:∀k g,fs ord F k g→∀j,j<k→¬eE g (ord.getD j 0)
 |0,_,_,_,h=>absurd h (Nat.not_lt_zero _)
 |k+1,g,h,j,hj=>by
  obtain⟨f,hf,b,rfl⟩:=h
  rintro⟨x,hx⟩
  apply hx
  by_cases e:ord.getD j 0=ord.getD k 0
  ·show f (au (au x _ false) _ b)=f (au (au x _ true) _ b)
   congr 1
   apply Nat.eq_of_testBit_eq;intro i
   simp only[ai,e]
   split<;>rfl
  ·have hlt:j<k:=by
    rcases Nat.lt_succ_iff_lt_or_eq.1 hj with h|h
    ·exact h
    ·subst h;exact(e rfl).elim
   have:=rI k f hf j hlt
   show f (au (au x _ false) _ b)=f (au (au x _ true) _ b)
   rw[dF e,dF e]
   exact Classical.byContradiction fun hne=>this ⟨_,hne⟩
def jA(n:Nat)(ord:List Nat)(L:af.Fs)(k:Nat):af.Fs:=nodes n (cur n ord L k) (ord.getD k 0)
def bL(n:Nat)(ord:List Nat)(L:af.Fs):Nat→Nat
 |0=>0
 |k+1=>bL n ord L k+(jA n ord L k).length
def gA(n:Nat)(ord:List Nat)(L:af.Fs):Nat→af.Fs
 |0=>[]
 |k+1=>gA n ord L k++jA n ord L k
theorem kQ:∀k,(gA n ord L k).length=bL n ord L k
 |0=>rfl
 |k+1=>by rw[gA,bL,List.length_append,kQ k]
theorem gQ{k:Nat}{t:List Nat}:t∈jA n ord L k↔t∈cur n ord L k∧af.dep n t (ord.getD k 0)=true:=by
 unfold jA nodes;rw[List.mem_filter]
theorem ji(hL:∀t∈L,bO n t)(hn:n≤16):∀k,∀t∈gA n ord L k,bO n t
 |0,t,h=>by cases h
 |k+1,t,h=>by
  rcases List.mem_append.1 h with h|h
  ·exact ji hL hn k t h
  ·exact gz hL hn k t (gQ.1 h).1
theorem kP(hL:∀t∈L,bO n t)(hn:n≤16)(ho:∀i,i<n→ord.getD i 0<n):∀m,m≤n→∀g,(∃k,k<m∧fs ord (FT n L) k g∧eE g (ord.getD k 0))↔∃t∈gA n ord L m,g=dz n t
 |0,_,g=>by simp[gA]
 |m+1,hm,g=>by
  have ih:=kP hL hn ho m (by omega) g
  have ak:(fs ord (FT n L) m g∧eE g (ord.getD m 0))↔∃t∈jA n ord L m,g=dz n t:=by
   rw[vb hL hn ho m (by omega)]
   constructor
   ·rintro⟨⟨t,ht,rfl⟩,hh⟩
    exact⟨t,gQ.2 ⟨ht,(gI (gz hL hn m t ht) (ho m (by omega))).1 hh⟩,rfl⟩
   ·rintro⟨t,ht,rfl⟩
    obtain⟨h1,h2⟩:=gQ.1 ht
    exact⟨⟨t,h1,rfl⟩,(gI (gz hL hn m t h1) (ho m (by omega))).2 h2⟩
  constructor
  ·rintro⟨k,hk,h1,h2⟩
   by_cases e:k=m
   ·subst e
    obtain⟨t,ht,rfl⟩:=ak.1 ⟨h1,h2⟩
    exact⟨t,List.mem_append_right _ ht,rfl⟩
   ·obtain⟨t,ht,rfl⟩:=ih.1 ⟨k,by omega,h1,h2⟩
    exact⟨t,List.mem_append_left _ ht,rfl⟩
  ·rintro⟨t,ht,rfl⟩
   rcases List.mem_append.1 ht with ht|ht
   ·obtain⟨k,hk,h⟩:=ih.2 ⟨t,ht,rfl⟩
    exact⟨k,by omega,h⟩
   ·exact⟨m,by omega,ak.2 ⟨t,ht,rfl⟩⟩
theorem r3(hL:∀t∈L,bO n t)(hn:n≤16)(ho:∀i,i<n→ord.getD i 0<n):∀m,m≤n→(gA n ord L m).Nodup
 |0,_=>List.nodup_nil
 |m+1,hm=>by
  refine List.nodup_append.2 ⟨r3 hL hn ho m (by omega),(oY m).filter _,fun a ha b hb e=>?_⟩
  subst e
  obtain⟨k,hk,h1,h2⟩:=(kP hL hn ho m (by omega) (dz n a)).2 ⟨a,ha,rfl⟩
  have h3:=(vb hL hn ho m (by omega) (dz n a)).2 ⟨a,(gQ.1 hb).1,rfl⟩
  exact rI m _ h3 k hk h2
theorem rT{P:Fn→Prop}{l:af.Fs}(hf:∀t∈l,bO n t)(hn:l.Nodup)(h:∀g,P g↔∃t∈l,g=dz n t):ou P l.length:=by
 refine⟨l.map (dz n),?_,by simp,fun g=>?_⟩
 ·refine List.pairwise_map.2 (hn.imp_of_mem fun{a b} ha hb hne heq=>hne (fm (hf a ha) (hf b hb) heq))
 ·rw[h,List.mem_map]
  constructor
  ·rintro⟨t,ht,rfl⟩;exact⟨t,ht,rfl⟩
  ·rintro⟨t,ht,rfl⟩;exact⟨t,ht,rfl⟩
theorem Jd(hL:∀t∈L,bO n t)(hn:n≤16)(ho:∀i,i<n→ord.getD i 0<n):ou (bC n ord (FT n L)) (bL n ord L n):=by
 rw[←kQ]
 exact rT (ji hL hn n) (r3 hL hn ho n (Nat.le_refl _)) (kP hL hn ho n (Nat.le_refl _))
theorem GO(hL:∀t∈L,bO n t)(hn:n≤16)(ho:∀i,i<n→ord.getD i 0<n):sz n ord (FT n L)=bL n ord L n:=Ml (Jd hL hn ho)
def kN(n:Nat)(ord:List Nat)(l:Nat)(L:af.Fs):af.Fs:=df (gA n ord L n++gA n (dQ ord l) L n)
theorem GP(hl:l+1<n)(hlen:ord.length=n)(ho:∀i,i<n→ord.getD i 0<n):∀i,i<n→(dQ ord l).getD i 0<n:=fun i hi=>by
 rw[dK (by omega)]
 split
 ·exact ho _ hl
 ·split
  ·exact ho _ (by omega)
  ·exact ho i hi
theorem Nu(hL:∀t∈L,bO n t)(hn:n≤16)(ho:∀i,i<n→ord.getD i 0<n)(hl:l+1<n)(hlen:ord.length=n):vK n ord l (FT n L)=(kN n ord l L).length:=by
 have bE:=GP hl hlen ho
 refine GB (rT (n:=n) (fun t ht=>?_) (fc _) fun g=>?_)
 ·rcases List.mem_append.1 (bY.1 ht)with h|h
  ·exact ji hL hn n t h
  ·exact ji hL hn n t h
 ·unfold Ce kN
  rw[show bC n ord (FT n L) g↔_ from kP hL hn ho n (Nat.le_refl _) g,show bC n (dQ ord l) (FT n L) g↔_ from kP hL hn bE n (Nat.le_refl _) g]
  constructor
  ·rintro(⟨t,h,rfl⟩|⟨t,h,rfl⟩)
   ·exact⟨t,bY.2 (List.mem_append_left _ h),rfl⟩
   ·exact⟨t,bY.2 (List.mem_append_right _ h),rfl⟩
  ·rintro⟨t,h,rfl⟩
   rcases List.mem_append.1 (bY.1 h)with h|h
   ·exact .inl ⟨t,h,rfl⟩
   ·exact .inr ⟨t,h,rfl⟩
end aU
set_option maxRecDepth 100000
namespace Go.Proofs
open Go Go.Sx
open aU
def u32(r:Nat):Value:=.int .u32 (r:Int)
def bu(d:Nd):List Value:=[.int .i64 (d.v:Int),u32 d.lo,u32 d.hi]
structure mg where
 v:Int
 lo:Nat
 hi:Nat
 tk:Bool
 c:Nat
def mg.row(p:mg):List Value:=[.int .i64 p.v,u32 p.lo,u32 p.hi,.bool p.tk,.int .u8 (p.c:Int)]
def eY(N:fb)(r:Nat):Bool:=decide (r<2)||(N r).isSome
theorem cu{N:fb}{r:Nat}:eY N r=true↔live N r:=by
 unfold eY live
 rw[Bool.or_eq_true,decide_eq_true_eq,Option.isSome_iff_exists]
def got(N:fb)(r:Nat):List Value:=
 if r<2 then [.int .i64 (-1),u32 r,u32 r]else match N r with|some d=>bu d|none=>[.int .i64 0,u32 0,u32 0]
theorem jc{N:fb}{r:Nat}{d:Nd}(h:N r=some d)(h2:2≤r):got N r=bu d:=by unfold got;rw[if_neg (by omega),h]
theorem oS{N:fb}{r:Nat}(h2:r<2):got N r=[.int .i64 (-1),u32 r,u32 r]:=by unfold got;rw[if_pos h2]
theorem xm{N:fb}{r:Nat}(h:eY N r=false):got N r=[.int .i64 0,u32 0,u32 0]:=by
 unfold eY at h
 rw[Bool.or_eq_false_iff,decide_eq_false_iff_not]at h
 unfold got;rw[if_neg h.1]
 cases hN:N r with
 |none=>rfl
 |some d=>rw[hN]at h;simp at h
def Ec(p:mg):Option Nd:=if p.tk then some ⟨p.v.toNat,p.lo,p.hi⟩else none
structure vA(l:List mg)(fr:List Nat)(cap used:Nat)(N:fb):Prop where
 cap:l.length≤cap∧cap≤1048576
 two:2≤l.length
 const:∀r,r<2→∃p,l[r]? =some p∧p.v= -1∧p.lo=r∧p.hi=r∧p.tk=true
 nd:∀r,2≤r→N r=(l[r]?).bind Ec
 n0:∀r,r<2→N r=none
 nn:∀(r:Nat) p,2≤r→l[r]? =some p→p.tk=true→0≤p.v
 JW:fr.Nodup
 ic:∀r,r∈fr↔∃p,l[r]? =some p∧p.tk=false
 used:used+fr.length=l.length
theorem vA.wE{l:List mg}{fr:List Nat}{cap used:Nat}{N:fb}(h:vA l fr cap used N)(r:Nat):eY N r=(match l[r]? with|some p=>p.tk|none=>false):=by
 unfold eY
 by_cases h2:r<2
 ·obtain⟨p,hp,_,_,_,ht⟩:=h.const r h2
  simp[h2,hp,ht]
 ·rw[h.nd r (by omega)]
  cases hl:l[r]? with
  |none=>simp[h2]
  |some p=>cases ht:p.tk<;>simp[h2,Ec,ht]
theorem vA.Vr{l:List mg}{fr:List Nat}{cap used:Nat}{N:fb}(h:vA l fr cap used N){r:Nat}{p:mg}(hp:l[r]? =some p)(ht:p.tk=true):got N r=p.row.take 3:=by
 by_cases h2:r<2
 ·obtain⟨p',Ob,h1,nq,h3,_⟩:=h.const r h2
  rw[hp]at Ob;cases Ob
  rw[oS h2];simp[mg.row,h1,nq,h3]
 ·have hn:=h.nn r p (by omega) hp ht
  rw[jc (d:=⟨p.v.toNat,p.lo,p.hi⟩) (by rw[h.nd r (by omega),hp];simp[Ec,ht]) (by omega)]
  simp[bu,mg.row,Int.toNat_of_nonneg hn]
theorem vA.lt{l:List mg}{fr:List Nat}{cap used:Nat}{N:fb}(h:vA l fr cap used N){r:Nat}(hr:live N r):r<l.length:=by
 have:=cu.2 hr
 rw[h.wE]at this
 cases hl:l[r]? with
 |none=>rw[hl]at this;simp at this
 |some p=>exact(List.getElem?_eq_some_iff.1 hl).1
def fS(pa cap used:Nat)(N:fb)(C:Hp):Prop:=
 ∃vl vf l fr Cl Cf,C=(pa,.cells #[.int .i64 (cap:Int),vl,vf,.int .i64 (used:Int)] 198 (0,0))::(Cl++Cf)∧
  aO 291 5 vl (l.map mg.row) Cl∧aK 77 .u32 vf (fr.map (Nat.cast:Nat→Int)) Cf∧vA l fr cap used N
abbrev ptr(b:Nat):Value:=.pointer (some ⟨b,0,none⟩)
theorem row_one(p:mg):∀x∈p.row,x.oneCell'=true:=by intro x hx;simp[mg.row,u32]at hx;rcases hx with rfl|rfl|rfl|rfl|rfl<;>rfl
theorem nB{pa cap used r:Nat}{N:fb}{C:Hp}(h:fS pa cap used N C)(hr:r<4294967296):
  Rd Tryz.prog 253 #[ptr pa,u32 r] C (· =.bool (eY N r)):=by
 obtain⟨vl,vf,l,fr,Cl,Cf,rfl,hl,hf,ho⟩:=h
 refine aW fun g=>Ax ?_
 refine bf.q ?_
 refine Nil.ptr ?_
 refine ag.mk (Ld.mk zM rfl ?_)
 refine hl.aL ?_
 refine aa.cZ ?_
 rw[List.length_map]
 rw[ho.wE r]
 refine dO.and (match l[r]? with|some p=>p.tk|none=>false) (fun hlt=>?_) rfl fun _=>bK.mk (.refl _) ?_
 ·have l7:=of_decide_eq_true hlt
  refine Nil.ptr ?_
  refine ag.mk (Ld.mk zM rfl ?_)
  have hg:l[r]? =some l[r]:=List.getElem?_eq_getElem l7
  refine hl.yY (r:=l[r].row) (x:=.bool l[r].tk) (by rw[List.getElem?_map,hg];rfl) rfl (fun _ h=>by exact .tail _ (List.mem_append_left _ h)) ?_
  exact⟨rfl,by rw[hg]⟩
 ·congr 1
  by_cases hlt:r<l.length
  ·simp[hlt]
  ·rw[List.getElem?_eq_none (by omega)];simp
theorem IW{pa cap used r:Nat}{N:fb}{C:Hp}(h:fS pa cap used N C)(hr:r<4294967296):
  Rd Tryz.prog 231 #[ptr pa,u32 r] C (· =.tuple #[.agg (got N r).toArray,.int .i64 (if eY N r then 0 else 3)]):=by
 have h0:=h
 obtain⟨vl,vf,l,fr,Cl,Cf,rfl,hl,hf,ho⟩:=h
 refine aW fun g=>AI ?_
 intro b1 _
 refine aa.aC (Br.no ?_)
 refine ae.eq (nB h0 hr) ?_
 refine Un.not ?_
 refine Br.mk (fun hb=>?_) (fun hb=>?_)
 ·have hb':eY N r=false:=by simpa using hb
  refine Build.mk (cs:=[.int .i64 0,.int .u32 0,.int .u32 0]) (by kernel_rfl) ?_
  refine St.q ?_
  refine av.q ?_
  exact bK.mk .tail (by rw[xm hb',hb'];rfl)
 ·have hb':eY N r=true:=by simpa using hb
  have hx:=hb'
  rw[ho.wE]at hx
  cases hg:l[r]? with
  |none=>rw[hg]at hx;simp at hx
  |some p=>
  rw[hg]at hx
  simp only at hx
  refine Nil.ptr ?_
  refine ag.mk (Ld.mk zM rfl ?_)
  refine hl.HD (r:=p.row) (by rw[List.getElem?_map,hg];rfl) (by decide) (fun _ h=>by exact .tail _ (.tail _ (List.mem_append_left _ h))) ?_
  refine St.p (fun x hx=>row_one p x (List.mem_of_mem_take hx)) ?_
  refine av.q ?_
  exact bK.mk .tail (by rw[ho.Vr hg hx,hb'];rfl)
structure Sh(N:fb)(d:Nd):Prop where
 v:d.v<64
 lo:live N d.lo
 hi:live N d.hi
theorem fS.lt{pa cap used r:Nat}{N:fb}{C:Hp}(h:fS pa cap used N C)(hr:live N r):r<cap∧cap≤1048576:=by
 obtain⟨vl,vf,l,fr,Cl,Cf,rfl,hl,hf,ho⟩:=h
 exact⟨Nat.lt_of_lt_of_le (ho.lt hr) ho.cap.1,ho.cap.2⟩
theorem ug{pa cap used:Nat}{N:fb}{C:Hp}{d:Nd}(h:fS pa cap used N C)(hd:Sh N d):
  Rd Tryz.prog 208 #[ptr pa,.agg (bu d).toArray] C (· =.int .i64 0):=by
 have hlo:=h.lt hd.lo
 have hhi:=h.lt hd.hi
 refine aW fun g=>A5 ?_
 intro b1 _
 refine Ld.f ?_
 refine aa.lss ?_
 refine dO.or (decide (64≤d.v)) (fun _=>?_) rfl fun _=>?_
 ·refine Ld.f ?_
  exact aa.m0 (b:=64) ⟨rfl,rfl⟩
 have hv:=hd.v
 refine Br.Pc (by simp;omega) ?_
 intro J hJ
 refine Ld.f ?_
 refine ae.eq (nB h (by omega)) ?_
 rw[cu.2 hd.lo]
 refine Un.not (Split.go rfl ?_)
 refine Ld.f ?_
 refine ae.eq (nB h (by omega)) ?_
 rw[cu.2 hd.hi]
 refine Un.not (ay.mk (JE.mk (hJ _ _ fun gs=>Br.no (bK.mk .tail rfl))))
theorem Hg{pa cap used r:Nat}{N:fb}{C:Hp}(h:fS pa cap used N C)(hr:∃d,N r=some d)(h2:2≤r):
  Rd Tryz.prog 209 #[ptr pa,u32 r] C (· =.int .i64 0):=by
 have hl:=h.lt (.inr hr)
 refine aW fun g=>A4 ?_
 intro J hJ
 refine aa.CG (b:=1) ?_
 refine Split.go (by simp;omega) ?_
 refine ae.eq (nB h (by omega)) ?_
 rw[cu.2 (.inr hr)]
 refine Un.not (ay.mk (JE.mk (hJ _ _ fun gs=>Br.no (bK.mk (.refl _) rfl))))
theorem xZ{pa cap used:Nat}{N:fb}{C:Hp}(h:fS pa cap used N C):Rd Tryz.prog 58 #[ptr pa] C (· =.int .i64 (used:Int)):=by
 obtain⟨vl,vf,l,fr,Cl,Cf,rfl,hl,hf,ho⟩:=h
 refine aW fun g=>FI ?_
 refine aa.aC (Br.no (Nil.ptr ?_))
 refine ag.mk (Ld.mk zM rfl ?_)
 exact bK.mk (.refl _) rfl
theorem zX{pa cap used:Nat}{N:fb}{C:Hp}(h:fS pa cap used N C):Rd Tryz.prog 146 #[ptr pa] C (· =.int .i64 (cap:Int)):=by
 obtain⟨vl,vf,l,fr,Cl,Cf,rfl,hl,hf,ho⟩:=h
 refine aW fun g=>BP ?_
 refine aa.aC (Br.no (Nil.ptr ?_))
 refine ag.mk (Ld.mk zM rfl ?_)
 exact bK.mk (.refl _) rfl
section
variable {l:List mg} {fr:List Nat} {cap used:Nat} {N:fb}
theorem yS(d:Nd){c:Nat}:Ec ⟨(d.v:Int),d.lo,d.hi,true,c⟩=some d:=by simp[Ec]
theorem vA.reuse(h:vA l fr cap used N){r:Nat}(hr:r∈fr){fr':List Nat}(hf:fr.Perm (r::fr'))(d:Nd):
  2≤r∧r<cap∧N r=none∧vA (l.set r ⟨(d.v:Int),d.lo,d.hi,true,0⟩) fr' cap (used+1) (up N r (some d)):=by
 obtain⟨p,hp,ht⟩:=(h.ic r).1 hr
 have hlt:=(List.getElem?_eq_some_iff.1 hp).1
 have h2:2≤r:=by
  apply Decidable.byContradiction
  intro hn
  obtain⟨p',Ob,_,_,_,ht'⟩:=h.const r (by omega)
  rw[hp]at Ob;cases Ob;rw[ht]at ht';cases ht'
 have fB:=hf.nodup_iff.1 h.JW
 rw[List.nodup_cons]at fB
 refine⟨h2,Nat.lt_of_lt_of_le hlt h.cap.1,by rw[h.nd r h2,hp];simp[Ec,ht],?_⟩
 have fG:∀s,s≠r→(l.set r ⟨(d.v:Int),d.lo,d.hi,true,0⟩)[s]? =l[s]? :=fun s hs=>List.getElem?_set_ne (Ne.symm hs)
 have zg:(l.set r ⟨(d.v:Int),d.lo,d.hi,true,0⟩)[r]? =some ⟨(d.v:Int),d.lo,d.hi,true,0⟩:=List.getElem?_set_self hlt
 exact {
  cap:=by simpa using h.cap
  two:=by simpa using h.two
  const:=fun s hs=>by rw[fG s (by omega)];exact h.const s hs
  nd:=fun s hs=>by
   by_cases e:s=r
   ·subst e;rw[aH,zg];exact(yS d).symm
   ·rw[aI e,fG s e];exact h.nd s hs
  n0:=fun s hs=>by rw[aI (by omega)];exact h.n0 s hs
  nn:=fun s q hs hq Ia=>by
   by_cases e:s=r
   ·subst e;rw[zg]at hq;cases hq;exact Int.natCast_nonneg _
   ·rw[fG s e]at hq;exact h.nn s q hs hq Ia
  JW:=fB.2
  ic:=fun s=>by
   by_cases e:s=r
   ·subst e
    rw[zg]
    simp[fB.1]
   ·rw[fG s e,←h.ic s,hf.mem_iff]
    simp[e]
  used:=by have:=h.used;have:=hf.length_eq;simp only[List.length_cons,List.length_set]at*;omega}
theorem vA.grow(h:vA l [] cap used N)(hlt:l.length<cap)(d:Nd):
  2≤l.length∧N l.length=none∧vA (l++[⟨(d.v:Int),d.lo,d.hi,true,0⟩]) [] cap (used+1) (up N l.length (some d)):=by
 have h2:=h.two
 refine⟨h2,by rw[h.nd _ h2,List.getElem?_eq_none (Nat.le_refl _)];rfl,?_⟩
 have fG:∀s,s≠l.length→(l++[(⟨(d.v:Int),d.lo,d.hi,true,0⟩:mg)])[s]? =l[s]? :=fun s hs=>by
  rw[List.getElem?_append]
  split
  ·rfl
  ·rw[List.getElem?_eq_none (by simp;omega),List.getElem?_eq_none (by omega)]
 have zg:(l++[(⟨(d.v:Int),d.lo,d.hi,true,0⟩:mg)])[l.length]? =some ⟨(d.v:Int),d.lo,d.hi,true,0⟩:=by simp
 exact {
  cap:=by simp;exact⟨hlt,h.cap.2⟩
  two:=by simp;omega
  const:=fun s hs=>by rw[fG s (by omega)];exact h.const s hs
  nd:=fun s hs=>by
   by_cases e:s=l.length
   ·subst e;rw[aH,zg];exact(yS d).symm
   ·rw[aI e,fG s e];exact h.nd s hs
  n0:=fun s hs=>by rw[aI (by omega)];exact h.n0 s hs
  nn:=fun s q hs hq Ia=>by
   by_cases e:s=l.length
   ·subst e;rw[zg]at hq;cases hq;exact Int.natCast_nonneg _
   ·rw[fG s e]at hq;exact h.nn s q hs hq Ia
  JW:=h.JW
  ic:=fun s=>by
   by_cases e:s=l.length
   ·subst e
    rw[zg]
    simp
   ·rw[fG s e];exact h.ic s
  used:=by have:=h.used;simp at*;omega}
theorem vA.pT(h:vA l fr cap used N){r:Nat}{p:mg}(h2:2≤r)(hp:l[r]? =some p)(ht:p.tk=true)(d:Nd):
  vA (l.set r ⟨(d.v:Int),d.lo,d.hi,true,p.c⟩) fr cap used (up N r (some d)):=by
 have hlt:=(List.getElem?_eq_some_iff.1 hp).1
 have fG:∀s,s≠r→(l.set r ⟨(d.v:Int),d.lo,d.hi,true,p.c⟩)[s]? =l[s]? :=fun s hs=>List.getElem?_set_ne (Ne.symm hs)
 have zg:(l.set r ⟨(d.v:Int),d.lo,d.hi,true,p.c⟩)[r]? =some ⟨(d.v:Int),d.lo,d.hi,true,p.c⟩:=List.getElem?_set_self hlt
 exact {
  cap:=by simpa using h.cap
  two:=by simpa using h.two
  const:=fun s hs=>by rw[fG s (by omega)];exact h.const s hs
  nd:=fun s hs=>by
   by_cases e:s=r
   ·subst e;rw[aH,zg];exact(yS d).symm
   ·rw[aI e,fG s e];exact h.nd s hs
  n0:=fun s hs=>by rw[aI (by omega)];exact h.n0 s hs
  nn:=fun s q hs hq Ia=>by
   by_cases e:s=r
   ·subst e;rw[zg]at hq;cases hq;exact Int.natCast_nonneg _
   ·rw[fG s e]at hq;exact h.nn s q hs hq Ia
  JW:=h.JW
  ic:=fun s=>by
   by_cases e:s=r
   ·subst e
    rw[h.ic,zg,hp]
    simp[ht]
   ·rw[fG s e];exact h.ic s
  used:=by simpa using h.used}
theorem vA.free(h:vA l fr cap used N){r:Nat}{p:mg}(h2:2≤r)(hp:l[r]? =some p)(ht:p.tk=true):
  vA (l.set r ⟨0,0,0,false,0⟩) (fr++[r]) cap (used-1) (up N r none)∧0<used:=by
 have hlt:=(List.getElem?_eq_some_iff.1 hp).1
 have fG:∀s,s≠r→(l.set r ⟨0,0,0,false,0⟩)[s]? =l[s]? :=fun s hs=>List.getElem?_set_ne (Ne.symm hs)
 have zg:(l.set r ⟨0,0,0,false,0⟩)[r]? =some ⟨0,0,0,false,0⟩:=List.getElem?_set_self hlt
 have Pm:r∉fr:=fun hm=>by obtain⟨q,hq,Ia⟩:=(h.ic r).1 hm;rw[hp]at hq;cases hq;rw[ht]at Ia;cases Ia
 have hu:fr.length<l.length:=by
  have hn:(r::fr).Nodup:=List.nodup_cons.2 ⟨Pm,h.JW⟩
  have:=bH (l:=r::fr) (l':=List.range l.length) hn fun s hs=>by
   rw[List.mem_range]
   rcases List.mem_cons.1 hs with rfl|hs
   ·exact hlt
   ·obtain⟨q,hq,_⟩:=(h.ic s).1 hs;exact(List.getElem?_eq_some_iff.1 hq).1
  rw[List.length_range]at this;exact this
 have V7:=h.used
 refine⟨?_,by omega⟩
 exact {
  cap:=by simpa using h.cap
  two:=by simpa using h.two
  const:=fun s hs=>by rw[fG s (by omega)];exact h.const s hs
  nd:=fun s hs=>by
   by_cases e:s=r
   ·subst e;rw[aH,zg];rfl
   ·rw[aI e,fG s e];exact h.nd s hs
  n0:=fun s hs=>by rw[aI (by omega)];exact h.n0 s hs
  nn:=fun s q hs hq Ia=>by
   by_cases e:s=r
   ·subst e;rw[zg]at hq;cases hq;cases Ia
   ·rw[fG s e]at hq;exact h.nn s q hs hq Ia
  JW:=by rw[List.nodup_append];exact⟨h.JW,by simp,fun a ha c hc=>by simp at hc;subst hc;intro e;subst e;exact Pm ha⟩
  ic:=fun s=>by
   rw[List.mem_append,List.mem_singleton]
   by_cases e:s=r
   ·subst e
    rw[zg]
    simp
   ·rw[fG s e,←h.ic];simp[e]
  used:=by simp;omega}
end
theorem kA(l:List mg)(r:Nat)(p:mg):(l.map mg.row).set r p.row=(l.set r p).map mg.row:=by rw[List.map_set]
theorem Jq{pa cap used:Nat}{N:fb}{C:Hp}{d:Nd}(h:fS pa cap used N C)(hd:Sh N d)(hroom:used<cap):
  Fc Tryz.prog 252 #[ptr pa,.agg (bu d).toArray] C (fun v C'=>∃r,v=.tuple #[u32 r,.int .i64 0]∧2≤r∧r<cap∧N r=none∧fS pa cap (used+1) (up N r (some d)) C'):=by
 have h0:=h
 obtain⟨vl,vf,l,fr,Cl,Cf,rfl,hl,hf,ho⟩:=h
 have hcap:=ho.cap
 have CQ:=ho.used
 refine aW fun g=>Ay ?_
 intro b1 _
 refine aa.aC (Br.no ?_)
 refine av.q ?_
 refine ae.eq (ug h0 hd) ?_
 refine aa.fZ (Br.F ?_)
 refine Nil.ptr ?_
 refine ag.mk (Ld.mk zM rfl ?_)
 refine hf.aL ?_
 rw[List.length_map]
 refine aa.jb (b:=0) (Br.dec (fun hp=>?_) (fun hp=>?_))
 ·obtain⟨fr',r,rfl⟩:∃fr' r,fr=fr'++[r]:=⟨fr.dropLast,fr.getLast (by intro e;simp[e]at hp),(List.dropLast_concat_getLast _).symm⟩
  simp only[List.length_append,List.length_cons,List.length_nil]at hp CQ⊢
  obtain⟨g1,g2,g3,hok⟩:=ho.reuse (r:=r) (by simp) (fr':=fr') (by exact List.perm_append_singleton _ _) d
  refine Nil.ptr ?_
  refine ag.mk (Ld.mk zM rfl ?_)
  refine aa.bX (a:=fr'.length+1) (b:=1) ?_
  rw[Nat.add_sub_cancel]
  refine hf.ld (i:=fr'.length) (x:=(r:Int)) (by simp) (fun _ h=>by exact .tail _ (.tail _ (List.mem_append_right _ h))) ?_
  refine Nil.ptr ?_
  refine ag.mk (Ld.mk zM rfl ?_)
  refine aa.bX (a:=fr'.length+1) (b:=1) ?_
  rw[Nat.add_sub_cancel]
  refine hf.cut (i:=fr'.length) (by simp) fun v' JS=>?_
  have EC:aK 77 .u32 v' (fr'.map (Nat.cast:Nat→Int)) Cf:=by
   rw[List.map_append,List.take_left' (by simp)]at JS;exact JS
  have hone:v'.oneCell'=true:=by obtain⟨a,c,e⟩:=aO.len EC;rw[e];rfl
  refine Nil.ptr (ag.mk ?_)
  refine St.one (by exact .tail (.head _)) hone (by simp) rfl ?_
  refine DR.self ?_
  refine Nil.ptr ?_
  refine Ld.f ?_
  refine av.q ?_
  refine Build.mk (cs:=(mg.mk (d.v:Int) d.lo d.hi true 0).row) (by kernel_rfl) ?_
  refine hl.G4 (A:=[_,_]) (B:=Cf) (i:=r) (by rw[List.length_map];have:=(ho.ic r).1 (by simp);obtain⟨p,hp,_⟩:=this;exact(List.getElem?_eq_some_iff.1 hp).1) rfl (row_one _) fun C' hl'=>?_
  rw[kA]at hl'
  simp only[List.cons_append,List.nil_append]
  refine Nil.ptr ?_
  refine Ld.f ?_
  refine aa.inc ?_
  refine Nil.ptr (ag.mk ?_)
  refine St.one (by exact .tail (.head _)) rfl (by simp) rfl ?_
  exact bN.mk .tail ⟨r,rfl,g1,g2,g3,vl,v',_,fr',C',Cf,rfl,hl',EC,hok⟩
 ·obtain rfl:fr=[]:=List.eq_nil_of_length_eq_zero (by omega)
  simp only[List.length_nil]at CQ
  obtain⟨g1,g3,hok⟩:=ho.grow (by omega) d
  refine Nil.ptr ?_
  refine ag.mk (Ld.mk zM rfl ?_)
  refine hl.aL ?_
  rw[List.length_map]
  refine Nil.ptr ?_
  refine ag.mk (Ld.mk zM rfl ?_)
  refine aa.m0 (Br.F ?_)
  refine DR.of (R:=(b1,.cells (List.toArray (bu d)) 161 (0,0))::(pa,.cells #[.int .i64 (cap:Int),vl,vf,.int .i64 (used:Int)] 198 (0,0))::[]) (.cons (.cons .nil)) ?_
  refine Nil.ptr ?_
  refine ag.mk (Ld.mk zM rfl ?_)
  refine av.q ?_
  refine Build.mk (cs:=(mg.mk (d.v:Int) d.lo d.hi true 0).row) (by kernel_rfl) ?_
  refine an.one (z:=.agg #[.int .i64 0,.int .u32 0,.int .u32 0,.bool false,.int .u8 0]) (e:=291) (k:=5) (by kernel_rfl) (by kernel_rfl) (by kernel_rfl) (by decide) rfl fun bx=>?_
  refine⟨.skip (.cons (.cons .nil)),?_⟩
  refine hl.zW (A:=[_,_,_]) (B:=Cf) (r:=(mg.mk (d.v:Int) d.lo d.hi true 0).row) (by exact .head _) rfl (row_one _) (by exact⟨[.int .i64 0,.int .u32 0,.int .u32 0,.bool false,.int .u8 0],rfl,rfl⟩) (by simp;omega) (by simp;omega) fun v' C' hl'=>?_
  have vD:aO 291 5 v' ((l++[(⟨(d.v:Int),d.lo,d.hi,true,0⟩:mg)]).map mg.row) C':=by rw[List.map_append];exact hl'
  simp only[List.cons_append,List.nil_append]
  refine⟨.skip (.cons (.cons .nil)),?_⟩
  have hone:v'.oneCell'=true:=by obtain⟨a,c,e⟩:=vD.len;rw[e];rfl
  refine Nil.ptr (ag.mk ?_)
  refine St.one (by exact .tail (.tail (.head _))) hone (by simp) rfl ?_
  refine Nil.ptr ?_
  refine Ld.f ?_
  refine aa.inc ?_
  refine Nil.ptr (ag.mk ?_)
  refine St.one (by exact .tail (.tail (.head _))) rfl (by simp) rfl ?_
  refine Nil.ptr ?_
  refine Ld.f ?_
  refine vD.aL ?_
  refine aa.qv (b:=1) (by simp[aY];omega) (by simp) ?_
  refine bf.q ?_
  refine bN.mk (.skip .tail) ⟨l.length,by simp[u32],g1,by omega,g3,v',vf,_,[],C',Cf,rfl,vD,hf,hok⟩
theorem L7{pa cap used r:Nat}{N:fb}{C:Hp}{d:Nd}(h:fS pa cap used N C)(hd:Sh N d)(hr:∃e,N r=some e)(h2:2≤r):
  Fc Tryz.prog 140 #[ptr pa,u32 r,.agg (bu d).toArray] C (fun v C'=>v=.int .i64 0∧fS pa cap used (up N r (some d)) C'):=by
 have h0:=h
 obtain⟨vl,vf,l,fr,Cl,Cf,rfl,hl,hf,ho⟩:=h
 have hx:=cu.2 (.inr hr:live N r)
 rw[ho.wE]at hx
 obtain⟨p,hg,hx⟩:∃p,l[r]? =some p∧p.tk=true:=by
  cases hg:l[r]? with
  |none=>rw[hg]at hx;simp at hx
  |some p=>rw[hg]at hx;exact⟨p,rfl,hx⟩
 refine aW fun g=>BT ?_
 intro b1 _
 refine aa.aC (Br.no ?_)
 refine av.q ?_
 refine ae.eq (ug h0 hd) ?_
 refine aa.fZ (Br.F ?_)
 refine ae.eq (Hg h0 hr h2) ?_
 refine aa.fZ (Br.F ?_)
 refine DR.self ?_
 refine Nil.ptr ?_
 refine ag.mk (Ld.mk zM rfl ?_)
 refine av.q ?_
 refine hl.KA (A:=[_,_]) (B:=Cf) (r:=p.row) (xs:=bu d) (n:=3) (by rw[List.getElem?_map,hg];rfl) ⟨rfl,by omega⟩ (by intro x hx;simp[bu,u32]at hx;rcases hx with rfl|rfl|rfl<;>rfl) fun C' hl'=>?_
 have e:(bu d++p.row.drop 3)=(mg.mk (d.v:Int) d.lo d.hi true p.c).row:=by simp[bu,mg.row,hx]
 rw[e,kA]at hl'
 exact bN.mk .tail ⟨rfl,vl,vf,_,fr,C',Cf,rfl,hl',hf,ho.pT h2 hg hx d⟩
theorem Jw{pa cap used r:Nat}{N:fb}{C:Hp}(h:fS pa cap used N C)(hr:∃e,N r=some e)(h2:2≤r):
  Fc Tryz.prog 210 #[ptr pa,u32 r] C (fun v C'=>v=.int .i64 0∧fS pa cap (used-1) (up N r none) C'):=by
 have h0:=h
 obtain⟨vl,vf,l,fr,Cl,Cf,rfl,hl,hf,ho⟩:=h
 have hx:=cu.2 (.inr hr:live N r)
 rw[ho.wE]at hx
 obtain⟨p,hg,hx⟩:∃p,l[r]? =some p∧p.tk=true:=by
  cases hg:l[r]? with
  |none=>rw[hg]at hx;simp at hx
  |some p=>rw[hg]at hx;exact⟨p,rfl,hx⟩
 obtain⟨hok,Yl⟩:=ho.free h2 hg hx
 have hcap:=ho.cap
 have CQ:=ho.used
 refine aW fun g=>A3 ?_
 refine aa.aC (Br.no ?_)
 refine ae.eq (Hg h0 hr h2) ?_
 refine aa.fZ (Br.F ?_)
 refine Nil.ptr ?_
 refine ag.mk (Ld.mk zM rfl ?_)
 refine Build.mk (cs:=(mg.mk 0 0 0 false 0).row) (by kernel_rfl) ?_
 refine hl.G4 (A:=[_]) (B:=Cf) (i:=r) (by rw[List.length_map];exact(List.getElem?_eq_some_iff.1 hg).1) rfl (row_one _) fun C' hl'=>?_
 rw[kA]at hl'
 simp only[List.cons_append,List.nil_append]
 refine Nil.ptr ?_
 refine Ld.f ?_
 refine an.int (e:=77) (by kernel_rfl) (by kernel_rfl) (by kernel_rfl) fun bx=>?_
 have e1:(bx,Obj.cells (az .u32 [(r:Int)]) 77 (0,0))::(pa,Obj.cells #[.int .i64 (cap:Int),vl,vf,.int .i64 (used:Int)] 198 (0,0))::(C'++Cf)=(bx,Obj.cells (az .u32 [(r:Int)]) 77 (0,0))::(pa,Obj.cells #[.int .i64 (cap:Int),vl,vf,.int .i64 (used:Int)] 198 (0,0))::C'++(Cf++[]):=by simp
 rw[e1]
 refine hf.app (x:=(r:Int)) (B:=[]) (by exact .head _) (by simp;omega) (by simp;omega) fun v' Xo JS=>?_
 have EC:aK 77 .u32 v' ((fr++[r]).map (Nat.cast:Nat→Int)) Xo:=by rw[List.map_append];exact JS
 have hone:v'.oneCell'=true:=by obtain⟨a,c,e⟩:=aO.len EC;rw[e];rfl
 simp only[List.cons_append,List.append_nil]
 refine Nil.ptr (ag.mk ?_)
 refine St.one (by exact .tail (.head _)) hone (by simp) rfl ?_
 refine Nil.ptr ?_
 refine Ld.f ?_
 refine aa.bX (b:=1) ?_
 refine Nil.ptr (ag.mk ?_)
 refine St.one (by exact .tail (.head _)) rfl (by simp) rfl ?_
 exact bN.mk .tail ⟨rfl,vl,v',_,_,C',Xo,rfl,hl',EC,hok⟩
def nK(d:Nd):Value:=.agg (bu d).toArray
abbrev PM(v:Value)(r:Nat):Prop:=v=u32 r
theorem Cz:Tryz.prog.underlying 161=some (.struct (Tryz.prog.fieldsOf 161)):=by kernel_rfl
theorem nO(a b:Nd):Ca Tryz.prog 161 (nK a) (nK b) (decide (a=b)):=by
 refine Ca.flat (fs:=#[⟨"Var",3,0,false, "", "",0⟩,⟨"Lo",77,1,false, "", "",8⟩,⟨"Hi",77,2,false, "", "",12⟩]) (by kernel_rfl) (by kernel_rfl) ?_ ?_
 ·intro f hf
  simp only[List.mem_cons,List.not_mem_nil,or_false]at hf
  rcases hf with rfl|rfl|rfl
  ·exact⟨by decide,_,_,rfl,rfl,.inl ⟨.i64,_,_,by kernel_rfl,rfl,rfl⟩⟩
  ·exact⟨by decide,_,_,rfl,rfl,.inl ⟨.u32,_,_,by kernel_rfl,rfl,rfl⟩⟩
  ·exact⟨by decide,_,_,rfl,rfl,.inl ⟨.u32,_,_,by kernel_rfl,rfl,rfl⟩⟩
 ·obtain⟨a1,a2,a3⟩:=a
  obtain⟨b1,b2,b3⟩:=b
  simp[bu,u32]
  omega
theorem jy(a:Nd):mh Tryz.prog 161 (nK a):=by
 refine mh.flat (fs:=#[⟨"Var",3,0,false, "", "",0⟩,⟨"Lo",77,1,false, "", "",8⟩,⟨"Hi",77,2,false, "", "",12⟩]) (by kernel_rfl) ?_
 intro f hf
 simp only[List.mem_cons,List.not_mem_nil,or_false]at hf
 rcases hf with rfl|rfl|rfl
 ·exact⟨by decide,_,rfl,.inl ⟨.i64,_,_,by kernel_rfl,rfl,rfl⟩⟩
 ·exact⟨by decide,_,rfl,.inl ⟨.u32,_,_,by kernel_rfl,rfl,rfl⟩⟩
 ·exact⟨by decide,_,rfl,.inl ⟨.u32,_,_,by kernel_rfl,rfl,rfl⟩⟩
theorem CC(a:Nd):Instr.sameBits 10000 (nK a) (nK a)=true:=sH 9998 (by intro x hx;simp[bu,u32]at hx;rcases hx with rfl|rfl|rfl<;>exact .inl ⟨_,_,rfl⟩)
structure UM where
 b:Nat
 es:Array MapEntry
 ck:Nat
 l:List (Nd×Nat)
def Ee(ms:List UM):Hp:=ms.map fun m=>(m.b,.map m.es m.ck)
structure JX(ms:List UM)(n:Nat)(T:Nd→Option Nat):Prop where
 len:ms.length=n
 nr:∀(v:Nat) m,ms[v]? =some m→aX nK PM m.es m.ck m.l
 var:∀(v:Nat) m,ms[v]? =some m→∀x∈m.l,x.1.v=v
 T:∀d,T d=(ms[d.v]?).bind fun m=>dn m.l d
def kS(pt n:Nat)(T:Nd→Option Nat)(C:Hp):Prop:=
 ∃vs Cs ms,C=(pt,.cells #[vs] 265 (0,0))::(Cs++Ee ms)∧aO 266 1 vs (ms.map fun m=>[.map (some m.b)]) Cs∧JX ms n T
theorem nP{ms:List UM}{v:Nat}{m:UM}(h:ms[v]? =some m):(m.b,Obj.map m.es m.ck)∈Ee ms:=List.mem_map.2 ⟨m,List.mem_of_getElem? h,rfl⟩
theorem uM{es':Array MapEntry}{dw:Nat}{l':List (Nd×Nat)}:∀{ms:List UM} {v:Nat} {m:UM},ms[v]? =some m→cA m.b (.map m.es m.ck) (.map es' dw) (Ee ms) (Ee (ms.set v ⟨m.b,es',dw,l'⟩))
 | [],v,m,h=>by simp at h
 |x::ms,0,m,h=>by simp at h;subst h;exact .head _
 |x::ms,v+1,m,h=>by simp at h;exact .tail (uM h)
theorem tB{ms:List UM}{v:Nat}{m m':UM}(h:ms[v]? =some m)(hb:m'.b=m.b):(ms.set v m').map (fun m=>[Value.map (some m.b)])=ms.map fun m=>[Value.map (some m.b)]:=by
 rw[List.map_set]
 apply List.ext_getElem?
 intro j
 rw[List.getElem?_set]
 split
 ·rename_i e;subst e
  have hlt:=(List.getElem?_eq_some_iff.1 h).1
  have e2:ms[v]=m:=by rw[List.getElem?_eq_getElem hlt]at h;exact Option.some.inj h
  simp[hb,hlt,e2]
 ·rfl
theorem JX.add{ms:List UM}{n:Nat}{T:Nd→Option Nat}(h:JX ms n T){d:Nd}{m:UM}(hm:ms[d.v]? =some m){es':Array MapEntry}{dw r:Nat}(he:aX nK PM es' dw (fi m.l d r)):JX (ms.set d.v ⟨m.b,es',dw,fi m.l d r⟩) n (ng T d (some r)) where
 len:=by rw[List.length_set];exact h.len
 nr:=fun v m' hm'=>by
  rw[List.getElem?_set]at hm'
  split at hm'
  ·split at hm'
   ·cases hm';exact he
   ·cases hm'
  ·exact h.nr v m' hm'
 var:=fun v m' hm' x hx=>by
  rw[List.getElem?_set]at hm'
  split at hm'
  ·rename_i e
   split at hm'
   ·cases hm'
    subst e
    simp only[fi]at hx
    split at hx
    ·obtain⟨y,hy,rfl⟩:=List.mem_map.1 hx
     split
     ·rfl
     ·exact h.var _ m hm y hy
    ·rcases List.mem_append.1 hx with hx|hx
     ·exact h.var _ m hm x hx
     ·simp at hx;subst hx;rfl
   ·cases hm'
  ·exact h.var v m' hm' x hx
 T:=fun e=>by
  have hlt:=(List.getElem?_eq_some_iff.1 hm).1
  by_cases ee:e=d
  ·subst ee;rw[gJ,List.getElem?_set_self hlt];simp[eX]
  ·rw[mH ee,h.T e]
   by_cases ev:d.v=e.v
   ·rw[←ev,List.getElem?_set_self hlt,hm];simp[eX,ee]
   ·rw[List.getElem?_set_ne ev]
theorem JX.del{ms:List UM}{n:Nat}{T:Nd→Option Nat}(h:JX ms n T){d:Nd}{m:UM}(hm:ms[d.v]? =some m){es':Array MapEntry}{dw:Nat}(he:aX nK PM es' dw (sK m.l d)):JX (ms.set d.v ⟨m.b,es',dw,sK m.l d⟩) n (ng T d none) where
 len:=by rw[List.length_set];exact h.len
 nr:=fun v m' hm'=>by
  rw[List.getElem?_set]at hm'
  split at hm'
  ·split at hm'
   ·cases hm';exact he
   ·cases hm'
  ·exact h.nr v m' hm'
 var:=fun v m' hm' x hx=>by
  rw[List.getElem?_set]at hm'
  split at hm'
  ·rename_i e
   split at hm'
   ·cases hm'
    subst e
    exact h.var _ m hm x (List.mem_filter.1 hx|>.1)
   ·cases hm'
  ·exact h.var v m' hm' x hx
 T:=fun e=>by
  have hlt:=(List.getElem?_eq_some_iff.1 hm).1
  by_cases ee:e=d
  ·subst ee;rw[gJ,List.getElem?_set_self hlt];simp[tx]
  ·rw[mH ee,h.T e]
   by_cases ev:d.v=e.v
   ·rw[←ev,List.getElem?_set_self hlt,hm];simp[tx,ee]
   ·rw[List.getElem?_set_ne ev]
theorem iN{pt n v:Nat}{T:Nd→Option Nat}{C:Hp}(h:kS pt n T C)(hv:v<n):Rd Tryz.prog 206 #[ptr pt,.int .i64 (v:Int)] C (· =.int .i64 0):=by
 obtain⟨vs,Cs,ms,rfl,hs,ho⟩:=h
 refine aW fun g=>A7 ?_
 refine aa.aC (Br.no ?_)
 refine aa.lss ?_
 rw[decide_eq_false (by omega:¬((v:Int)<0))]
 refine dO.or false (fun _=>?_) rfl fun _=>Br.no (bK.mk (.refl _) rfl)
 refine Nil.ptr ?_
 refine ag.mk (Ld.mk zM rfl ?_)
 refine hs.aL ?_
 rw[List.length_map,ho.len]
 exact aa.m0 ⟨rfl,by rw[decide_eq_false (by omega)]⟩
theorem qc{pt n:Nat}{T:Nd→Option Nat}{C:Hp}{d:Nd}(h:kS pt n T C)(hv:d.v<n):
  Rd Tryz.prog 205 #[ptr pt,nK d] C (· =.tuple #[u32 ((T d).getD 0),.bool (T d).isSome]):=by
 have h0:=h
 obtain⟨vs,Cs,ms,rfl,hs,ho⟩:=h
 obtain⟨m,hm⟩:∃m,ms[d.v]? =some m:=⟨_,List.getElem?_eq_getElem (by rw[ho.len];exact hv)⟩
 refine aW fun g=>A8 ?_
 intro b1 _
 refine Ld.f ?_
 refine ae.eq (iN h0 hv) ?_
 refine aa.fZ (Br.F ?_)
 refine Nil.ptr ?_
 refine ag.mk (Ld.mk zM rfl ?_)
 refine Ld.f ?_
 refine hs.Mu (x:=.map (some m.b)) (by rw[List.getElem?_map,hm];rfl) (fun _ h=>by exact .tail _ (.tail _ (List.mem_append_left _ h))) ?_
 refine av.q ?_
 have hmem:(m.b,Obj.map m.es m.ck)∈(b1,Obj.cells (Value.cells (nK d)) 161 (0,0))::(pt,.cells #[vs] 265 (0,0))::(Cs++Ee ms):=.tail _ (.tail _ (List.mem_append_right _ (nP hm)))
 have hT:T d=dn m.l d:=by rw[ho.T,hm];rfl
 rw[hT]
 cases hg:dn m.l d with
 |some r=>
  refine aX.Lu (ke:=nK) (k:=d) nO jy (ho.nr _ m hm) hmem hg ?_
  rintro v rfl
  exact Ext.mk rfl (Ext.mk rfl (bK.mk .tail rfl))
 |none=>
  refine aX.CE (ke:=nK) (k:=d) nO jy (ho.nr _ m hm) hmem hg ?_
  exact Ext.mk rfl (Ext.mk rfl (bK.mk .tail rfl))
theorem Ci{pt n r:Nat}{T:Nd→Option Nat}{C:Hp}{d:Nd}(h:kS pt n T C)(hv:d.v<n)(hT:T d=none):
  Fc Tryz.prog 141 #[ptr pt,nK d,u32 r] C (fun v C'=>v=.int .i64 0∧kS pt n (ng T d (some r)) C'):=by
 have h0:=h
 obtain⟨vs,Cs,ms,rfl,hs,ho⟩:=h
 obtain⟨m,hm⟩:∃m,ms[d.v]? =some m:=⟨_,List.getElem?_eq_getElem (by rw[ho.len];exact hv)⟩
 have UX:dn m.l d=none:=by rw[ho.T,hm]at hT;exact hT
 refine aW fun g=>BS ?_
 intro b1 _
 refine Ld.f ?_
 refine ae.eq (iN h0 hv) ?_
 refine aa.fZ (Br.F ?_)
 refine Nil.ptr ?_
 refine ag.mk (Ld.mk zM rfl ?_)
 refine Ld.f ?_
 refine hs.Mu (x:=.map (some m.b)) (by rw[List.getElem?_map,hm];rfl) (fun _ h=>by exact .tail _ (.tail _ (List.mem_append_left _ h))) ?_
 refine av.q ?_
 have hmem:(m.b,Obj.map m.es m.ck)∈(b1,Obj.cells (Value.cells (nK d)) 161 (0,0))::(pt,.cells #[vs] 265 (0,0))::(Cs++Ee ms):=.tail _ (.tail _ (List.mem_append_right _ (nP hm)))
 refine aX.CE (ke:=nK) (k:=d) nO jy (ho.nr _ m hm) hmem UX ?_
 refine Ext.mk rfl (Ext.mk rfl (Br.no ?_))
 refine DR.self ?_
 refine Nil.ptr ?_
 refine ag.mk (Ld.mk zM rfl ?_)
 refine Ld.f ?_
 refine hs.Mu (x:=.map (some m.b)) (by rw[List.getElem?_map,hm];rfl) (fun _ h=>by exact .tail _ (.tail _ (List.mem_append_left _ h))) ?_
 refine av.q ?_
 refine aX.PN (ke:=nK) (k:=d) (vr:=PM) (x:=r) nO jy CC (ho.nr _ m hm) rfl fun es' dw he=>⟨_,.tail (.tail ((uM (l':=fi m.l d r) hm).bP Cs)),?_⟩
 exact bN.mk .tail ⟨rfl,vs,Cs,_,rfl,by rw[tB hm];exact hs;rfl,ho.add hm he⟩
theorem tp{pt n r:Nat}{T:Nd→Option Nat}{C:Hp}{d:Nd}(h:kS pt n T C)(hv:d.v<n)(hT:T d=some r):
  Fc Tryz.prog 137 #[ptr pt,nK d] C (fun v C'=>v=.int .i64 0∧kS pt n (ng T d none) C'):=by
 have h0:=h
 obtain⟨vs,Cs,ms,rfl,hs,ho⟩:=h
 obtain⟨m,hm⟩:∃m,ms[d.v]? =some m:=⟨_,List.getElem?_eq_getElem (by rw[ho.len];exact hv)⟩
 have UX:dn m.l d=some r:=by rw[ho.T,hm]at hT;exact hT
 refine aW fun g=>BV ?_
 intro b1 _
 refine Ld.f ?_
 refine ae.eq (iN h0 hv) ?_
 refine aa.fZ (Br.F ?_)
 refine Nil.ptr ?_
 refine ag.mk (Ld.mk zM rfl ?_)
 refine Ld.f ?_
 refine hs.Mu (x:=.map (some m.b)) (by rw[List.getElem?_map,hm];rfl) (fun _ h=>by exact .tail _ (.tail _ (List.mem_append_left _ h))) ?_
 refine av.q ?_
 have hmem:(m.b,Obj.map m.es m.ck)∈(b1,Obj.cells (Value.cells (nK d)) 161 (0,0))::(pt,.cells #[vs] 265 (0,0))::(Cs++Ee ms):=.tail _ (.tail _ (List.mem_append_right _ (nP hm)))
 refine aX.Lu (ke:=nK) (k:=d) nO jy (ho.nr _ m hm) hmem UX ?_
 rintro v rfl
 refine Ext.mk rfl (Ext.mk rfl (Un.not (Br.no ?_)))
 refine DR.of (R:=(b1,Obj.cells (Value.cells (nK d)) 161 (0,0))::(pt,.cells #[vs] 265 (0,0))::Cs) (.cons (.cons .left)) ?_
 refine Nil.ptr ?_
 refine ag.mk (Ld.mk zM rfl ?_)
 refine Ld.f ?_
 refine hs.Mu (x:=.map (some m.b)) (by rw[List.getElem?_map,hm];rfl) (fun _ h=>by exact .tail _ (.tail _ h)) ?_
 refine av.q ?_
 refine aX.Vw (ke:=nK) (k:=d) nO jy (ho.nr _ m hm) hmem fun es' he=>⟨_,.tail (.tail ((uM (l':=sK m.l d) hm).bP Cs)),?_⟩
 exact⟨.cons (.cons .left),bN.mk .tail ⟨rfl,vs,Cs,_,rfl,by rw[tB hm];exact hs;rfl,ho.del hm he⟩⟩
theorem JX.start(n:Nat)(bs:List Nat)(h:bs.length=n):JX (bs.map fun b=>⟨b,#[],0,[]⟩) n (fun _=>none) where
 len:=by simpa using h
 nr:=fun v m hm=>by
  rw[List.getElem?_map]at hm
  obtain⟨b,_,rfl⟩:=Option.map_eq_some_iff.1 hm
  exact aX.empty
 var:=fun v m hm x hx=>by
  rw[List.getElem?_map]at hm
  obtain⟨b,_,rfl⟩:=Option.map_eq_some_iff.1 hm
  simp at hx
 T:=fun d=>by
  rw[List.getElem?_map]
  cases bs[d.v]? <;>simp[dn]
theorem xB(x:Value):∀n:Nat,(List.replicate n [x]).flatten=List.replicate n x
 |0=>rfl
 |n+1=>by rw[List.replicate_succ,List.flatten_cons,List.replicate_succ,xB x n];rfl
theorem Ke{n:Nat}(hn:1≤n∧n≤64):Fc Tryz.prog 117 #[.int .i64 (n:Int)] [] (fun v H=>∃pt,v=.tuple #[ptr pt,.int .i64 0]∧kS pt n (fun _=>none) H):=by
 refine aW fun g=>B2 ?_
 refine aa.lss ?_
 rw[decide_eq_false (by omega)]
 refine dO.or false (fun _=>aa.gtr ⟨rfl,by rw[decide_eq_false (by omega)]⟩) rfl fun _=>Br.no ?_
 refine⟨.i64,.i64,n,n,rfl,rfl,Nat.le_refl _,by omega,by omega,?_⟩
 intro bs _
 refine Build.mk (cs:=[.slice (some ⟨bs,0,none⟩) n n]) (by kernel_rfl) ?_
 intro pt _
 have hz:madeCells (Value.cells (.map none)) (n*1)=rows ((List.replicate n [Value.map none])++[]):=by
  apply Array.ext'
  apply List.ext_getElem?
  intro i
  have:=xB (.map none) n
  simp only[madeCells,rows,Value.cells,Array.toList_map,Array.toList_range,List.getElem?_map,List.toList_toArray,Nat.mul_one,List.append_nil]
  rw[this,List.getElem?_replicate]
  by_cases hi:i<n
  ·simp[hi,Nat.mod_one]
  ·simp[hi]
 rw[hz]
 have hs0:aO 266 1 (.slice (some ⟨bs,0,none⟩) n n) (List.replicate n [Value.map none]) [(bs,.cells (rows ((List.replicate n [Value.map none])++[])) 266 (0,0))]:=
  aO.mk' (fun r hr=>by rw[List.append_nil]at hr;rw[List.eq_of_mem_replicate hr];rfl) (by simp) (by simp)
 refine⟨fun vs H=>∃(j:Nat) (bl:List Nat) (Cs:Hp),vs=[.int .i64 (j:Int)]∧bl.length=j∧j≤n∧H=(pt,.cells #[.slice (some ⟨bs,0,none⟩) n n] 265 (0,0))::(Cs++Ee (bl.map fun b=>⟨b,#[],0,[]⟩))∧
  aO 266 1 (.slice (some ⟨bs,0,none⟩) n n) ((bl.map fun b=>[Value.map (some b)])++List.replicate (n-j) [Value.map none]) Cs,fun vs _=>n-aT vs 0,JE.mk ⟨0,[],_,rfl,rfl,by omega,by simp only[Ee,List.map_nil,List.append_nil];rfl,by simpa using hs0⟩,?_⟩
 rintro w H ⟨j,bl,Cs,hw,M1,hj,rfl,hs⟩ gs
 simp only[List.cons.injEq,and_true]at hw
 subst hw
 refine aa.cZ (Br.dec (fun hlt=>?_) (fun hlt=>?_))
 ·refine Nil.ptr ?_
  refine Ld.f ?_
  intro b _
  have hlen:((bl.map fun b=>[Value.map (some b)])++List.replicate (n-j) [Value.map none]).length=n:=by simp;omega
  refine aO.Ty (A:=[_,_]) (B:=Ee (bl.map fun b=>⟨b,#[],0,[]⟩)) hs (i:=j) (y:=.map none) (by omega) ?_ rfl fun C' hs'=>?_
  ·rw[List.getElem?_append_right (by simp[M1])]
   simp only[List.length_map,M1,Nat.sub_self]
   rw[List.getElem?_replicate,if_pos (by omega)]
  refine aa.inc ?_
  have e:((bl.map fun b=>[Value.map (some b)])++List.replicate (n-j) [Value.map none]).set j [Value.map (some b)]=((bl++[b]).map fun b=>[Value.map (some b)])++List.replicate (n-(j+1)) [Value.map none]:=by
   rw[List.set_append_right _ _ (by simp[M1])]
   simp only[List.length_map,M1,Nat.sub_self]
   rw[show n-j=(n-(j+1))+1 by omega,List.replicate_succ,List.set_cons_zero,List.map_append]
   simp
  rw[e]at hs'
  refine aq.of ?_ ⟨j+1,bl++[b],C',rfl,by simp[M1],by omega,rfl,hs'⟩ (by show n-(((j+1:Nat):Int).toNat)<n-(((j:Nat):Int).toNat);omega)
  refine aJ.perm ?_
  simp only[List.cons_append,List.nil_append,Ee,List.map_append,List.map_map]
  refine(List.Perm.swap _ _ _).trans (.cons _ ?_)
  rw[←List.append_assoc]
  exact(List.perm_append_singleton _ _).symm
 ·obtain rfl:j=n:=by omega
  refine bN.here ⟨pt,rfl,_,Cs,_,rfl,?_,JX.start _ bl M1⟩
  rw[Nat.sub_self]at hs
  simpa[List.map_map,Function.comp_def]using hs
theorem L9{n:Nat}(hn:2≤n∧n≤1048576):Fc Tryz.prog 186 #[.int .i64 (n:Int)] [] (fun v H=>∃pa,v=.tuple #[ptr pa,.int .i64 0]∧fS pa n 2 (fun _=>none) H):=by
 refine aW fun g=>Be ?_
 refine aa.lss ?_
 rw[decide_eq_false (by omega)]
 refine dO.or false (fun _=>aa.gtr ⟨rfl,by rw[decide_eq_false (by omega)]⟩) rfl fun _=>Br.no ?_
 refine Build.mk (cs:=[.int .i64 (n:Int),.slice none 0 0,.slice none 0 0,.int .i64 2]) (by kernel_rfl) ?_
 intro pa _
 refine⟨fun vs H=>∃(j:Nat) (vl:Value) (Cl:Hp),vs=[u32 j]∧j≤2∧H=(pa,.cells #[.int .i64 (n:Int),vl,.slice none 0 0,.int .i64 2] 198 (0,0))::Cl∧
  aO 291 5 vl ((List.range j).map fun r=>(mg.mk (-1) r r true 255).row) Cl,fun vs _=>2-aT vs 0,JE.mk ⟨0,_,[],rfl,by omega,rfl,aO.nil _ _⟩,?_⟩
 rintro w H ⟨j,vl,Cl,hw,hj,rfl,hs⟩ gs
 simp only[List.cons.injEq,and_true]at hw
 subst hw
 refine aa.cZ (b:=2) (Br.dec (fun hlt=>?_) (fun hlt=>?_))
 ·refine Nil.ptr ?_
  refine Ld.f ?_
  refine Build.mk (cs:=[.int .i64 (-1),u32 j,u32 j]) (by kernel_rfl) ?_
  refine Build.mk (cs:=(mg.mk (-1) j j true 255).row) (by kernel_rfl) ?_
  refine an.one (z:=.agg #[.int .i64 0,.int .u32 0,.int .u32 0,.bool false,.int .u8 0]) (e:=291) (k:=5) (by kernel_rfl) (by kernel_rfl) (by kernel_rfl) (by decide) rfl fun bx=>?_
  have e1:∀x y:Nat×Obj,x::y::Cl=[x,y]++(Cl++[]):=fun x y=>by simp
  rw[e1]
  refine hs.zW (A:=[_,_]) (B:=[]) (r:=(mg.mk (-1) j j true 255).row) (by exact .head _) rfl (row_one _) (by exact⟨[.int .i64 0,.int .u32 0,.int .u32 0,.bool false,.int .u8 0],rfl,rfl⟩) (by simp;omega) (by simp;omega) fun v' C' hs'=>?_
  simp only[List.cons_append,List.nil_append,List.append_nil]
  have hone:v'.oneCell'=true:=by obtain⟨a,c,e⟩:=hs'.len;rw[e];rfl
  refine Nil.ptr (ag.mk ?_)
  refine St.one (by exact .tail (.head _)) hone (by simp) rfl ?_
  refine aa.inc ?_
  refine aq.of .tail ⟨j+1,v',C',rfl,by omega,rfl,?_⟩ (by show 2-(((j+1:Nat):Int).toNat)<2-(((j:Nat):Int).toNat);omega)
  rw[List.range_succ,List.map_append];exact hs'
 ·obtain rfl:j=2:=by omega
  refine bN.here ⟨pa,rfl,vl,_,[⟨-1,0,0,true,255⟩,⟨-1,1,1,true,255⟩],[],Cl,[],by rw[List.append_nil];rfl,hs,aK.nil,?_⟩
  exact {
   cap:=by simp;omega
   two:=by simp
   const:=fun r hr=>by
    have:r=0∨r=1:=by omega
    rcases this with rfl|rfl
    ·exact⟨_,rfl,rfl,rfl,rfl,rfl⟩
    ·exact⟨_,rfl,rfl,rfl,rfl,rfl⟩
   nd:=fun r hr=>by rw[List.getElem?_eq_none (by simp;omega)];rfl
   n0:=fun _ _=>rfl
   nn:=fun r p hr hp _=>by rw[List.getElem?_eq_none (by simp;omega)]at hp;cases hp
   JW:=by simp
   ic:=fun r=>by
    simp only[List.not_mem_nil,false_iff,not_exists,not_and]
    intro p hp
    have hlt:=(List.getElem?_eq_some_iff.1 hp).1
    simp at hlt
    have:r=0∨r=1:=by omega
    rcases this with rfl|rfl<;>(simp at hp;subst hp;simp)
   used:=rfl}
structure sE where
 pa:Nat
 pt:Nat
 vu:Value
 vh:Value
 vo:Value
 vl:Value
 vt:Value
 CA:Hp
 CT:Hp
 CU:Hp
 CH:Hp
 CO:Hp
 CL:Hp
 CR:Hp
def sE.cells(b:sE)(n:Nat):Array Value:=#[ptr b.pa,ptr b.pt,b.vu,b.vh,.int .i64 (n:Int),b.vo,b.vl,b.vt]
def sE.hp(b:sE)(kp n:Nat):Hp:=(kp,.cells (b.cells n) 117 (0,0))::(b.CA++(b.CT++(b.CU++(b.CH++(b.CO++(b.CL++b.CR))))))
structure O5(b:sE)(K:Kd)(ord ak tr:List Nat):Prop where
 ar:fS b.pa K.cap K.used K.N b.CA
 ut:kS b.pt K.n K.T b.CT
 us:aK 21 .i32 b.vu (iw K.us) b.CU
 ho:aK 21 .i32 b.vh (iw K.ho) b.CH
 od:aK 3 .i64 b.vo (iw ord) b.CO
 lv:aK 3 .i64 b.vl (iw ak) b.CL
 tr:aK 3 .i64 b.vt (iw tr) b.CR
 ul:K.us.length=K.ho.length∧K.us.length≤1048576
 Hs:K.n≤64
 ol:ord.length=K.n∧ak.length=K.n
def cF(kp:Nat)(K:Kd)(ord ak tr:List Nat)(C:Hp):Prop:=∃b:sE,C=b.hp kp K.n∧O5 b K ord ak tr
section
variable {kp:Nat} {K:Kd} {ord ak tr:List Nat} {C:Hp}
theorem cF.cap(h:cF kp K ord ak tr C):K.cap≤1048576:=by
 obtain⟨b,rfl,hb⟩:=h
 exact(hb.ar.lt (r:=0) (.inl (by decide))).2
theorem cF.lt(h:cF kp K ord ak tr C){r:Nat}(hr:live K.N r):r<1048576:=by
 obtain⟨b,rfl,hb⟩:=h
 have:=hb.ar.lt hr
 omega
theorem cW(N:fb)(r:Nat):(got N r).length=3∧∀x∈got N r,x.oneCell'=true:=by
 unfold got
 split
 ·exact⟨rfl,by intro x hx;simp[u32]at hx;rcases hx with rfl|rfl|rfl<;>rfl⟩
 ·split
  ·exact⟨rfl,by intro x hx;simp[bu,u32]at hx;rcases hx with rfl|rfl|rfl<;>rfl⟩
  ·exact⟨rfl,by intro x hx;simp[u32]at hx;rcases hx with rfl|rfl|rfl<;>rfl⟩
theorem kE(h:cF kp K ord ak tr C){r:Nat}(hr:r<4294967296):Rd Tryz.prog 173 #[ptr kp,u32 r] C (· =.bool (eY K.N r)):=by
 obtain⟨b,rfl,hb⟩:=h
 refine aW fun g=>Bn ?_
 refine Nil.ptr ?_
 refine Ld.f ?_
 refine ae.eq (IW hb.ar hr) ?_
 refine Ext.two ?_
 intro b8 _
 refine St.whole (r:=got K.N r) (by exact .head _) rfl (cW _ _).1 (cW _ _).2 ?_
 refine aa.oW ?_
 refine bK.mk .tail ?_
 cases eY K.N r<;>rfl
theorem kD(h:cF kp K ord ak tr C){r:Nat}(hr:r<4294967296):Rd Tryz.prog 174 #[ptr kp,u32 r] C (· =.agg (got K.N r).toArray):=by
 obtain⟨b,rfl,hb⟩:=h
 refine aW fun g=>Bl ?_
 intro b1 _
 refine Nil.ptr ?_
 refine Ld.f ?_
 refine ae.eq (IW hb.ar hr) ?_
 refine Ext.two ?_
 intro b10 _
 refine St.whole (r:=got K.N r) (by exact .head _) rfl (cW _ _).1 (cW _ _).2 ?_
 refine av.whole (r:=got K.N r) (by exact .head _) (cW _ _).1 ?_
 refine St.whole (r:=got K.N r) (by exact .tail (.head _)) rfl (cW _ _).1 (cW _ _).2 ?_
 refine av.whole (r:=got K.N r) (by exact .tail _ (.head _)) (cW _ _).1 ?_
 exact bK.mk (.skip .tail) rfl
theorem wI(h:cF kp K ord ak tr C){m:Nat}(hm:m≤1099511627776)(hu:K.used≤1048576):Rd Tryz.prog 135 #[ptr kp,.int .i64 (m:Int)] C (· =.bool (decide (K.used+m≤K.cap))):=by
 obtain⟨b,rfl,hb⟩:=h
 refine aW fun g=>BX ?_
 refine DR.self ?_
 refine Nil.ptr ?_
 refine Ld.f ?_
 refine Nil.ptr ?_
 refine Ld.f ?_
 refine ae.eq (xZ hb.ar) ?_
 refine⟨.refl _,?_⟩
 refine aa.dx ?_
 refine ae.eq (zX hb.ar) ?_
 refine⟨.refl _,?_⟩
 refine aa.CG ?_
 exact bK.mk (.refl _) rfl
def po(K:Kd)(r:Nat):List Nat:=if r<2 then K.us else K.us.set r (K.use r+1)
theorem gm(r:Nat):(po K r).length=K.us.length:=by unfold po;split<;>simp
theorem j5{r:Nat}(h2:2≤r)(hr:r<K.us.length):(po K r).getD r 0=K.use r+1:=by
 unfold po;rw[if_neg (by omega)];simp[List.getD,hr]
theorem qo{r s:Nat}(h:s≠r):(po K r).getD s 0=K.use s:=by
 unfold po Kd.use
 split
 ·rfl
 ·simp[List.getD,List.getElem?_set_ne (Ne.symm h)]
theorem yG(h:cF kp K ord ak tr C){r:Nat}(hr:r<2∨r<K.us.length)(hb:K.use r+1<2147483648):
  Fc Tryz.prog 139 #[ptr kp,u32 r] C (fun v C'=>v=.tuple #[]∧cF kp {K with us:=po K r} ord ak tr C'):=by
 obtain⟨b,rfl,hO⟩:=h
 refine aW fun g=>BU ?_
 refine aa.jb (b:=1) (Br.dec (fun h1=>?_) (fun h1=>?_))
 ·have hr':r<K.us.length:=by omega
  refine Nil.ptr ?_
  refine Ld.f ?_
  refine hO.us.ld (x:=((K.use r:Nat):Int)) (bB hr') (bj.sub (.cons (.app (.app .left)))) ?_
  refine aa.inc ?_
  refine hO.us.g8 (.cons (.app (.app .left))) (by simpa using hr') fun C' ho=>?_
  refine bN.here ⟨rfl,{b with CU:=C'},rfl,?_⟩
  have e:po K r=K.us.set r (K.use r+1):=by unfold po;rw[if_neg (by omega)]
  exact {hO with us:=by rw[eR]at ho;rw[e];exact ho,ul:=by simp only[e,List.length_set];exact hO.ul}
 ·refine bN.here ⟨rfl,b,rfl,?_⟩
  have e:po K r=K.us:=by unfold po;rw[if_pos (by omega)]
  rw[e];exact hO
end
section
variable {kp:Nat} {K:Kd} {ord ak tr:List Nat} {C:Hp}
theorem fO{l:List Nat}{r s x:Nat}(hr:r<l.length):(l.set r x).getD s 0=if s=r then x else l.getD s 0:=by
 simp only[List.getD,List.getElem?_set]
 by_cases e:r=s
 ·subst e;simp[hr]
 ·rw[if_neg e,if_neg (Ne.symm e)]
theorem rH(l:List Nat)(s:Nat):(l++[0]).getD s 0=l.getD s 0:=by
 simp only[List.getD,List.getElem?_append]
 split
 ·rfl
 ·rename_i h
  rw[List.getElem?_eq_none (by omega:l.length≤s)]
  cases hs:s-l.length<;>simp[hs]
def GF:Hp→Nat
 |_::(_,Obj.cells c _ _)::_=>(match c[2]? with|some (Value.slice _ n _)=>n|_=>0)
 |_=>0
theorem vL{b:sE}{x:Nat×Obj}{n m:Nat}{a:Option Addr}{cp:Nat}(h:b.vu=.slice a m cp):GF (x::b.hp kp n)=m:=by simp[GF,sE.hp,sE.cells,h]
theorem Co(h:cF kp K ord ak tr C){d:Nd}(hd:Sh K.N d)(hv:d.v<K.n)(hT:K.T d=none)(hroom:K.used<K.cap)(hlo:d.lo<2∨d.lo<K.us.length)(hhi:d.hi<2∨d.hi<K.us.length)
 (hb:∀s,K.use s+2<2147483648):
  Fc Tryz.prog 207 #[ptr kp,nK d] C (fun v C'=>∃r cP bE,v=u32 r∧K.N r=none∧2≤r∧r<K.cap∧cP.length=bE.length∧r<cP.length∧K.us.length≤cP.length∧cP.getD r 0=0∧
   (∀s,2≤s→s≠r→cP.getD s 0=K.use s+e1 (some d) s)∧(∀s,s<2→cP.getD s 0=K.use s)∧bE.getD r 0=0∧(∀s,s≠r→bE.getD s 0=K.hold s)∧
   cF kp {K with N:=up K.N r (some d),T:=ng K.T d (some r),used:=K.used+1,us:=cP,ho:=bE} ord ak tr C'):=by
 have hcap:=h.cap
 obtain⟨b,rfl,hO⟩:=h
 have vC:=hO.ul
 refine aW fun g=>A6 ?_
 intro b1 _
 refine DR.of (R:=(b1,.cells (Value.cells (nK d)) 161 (0,0))::(kp,.cells (b.cells K.n) 117 (0,0))::[]) (.cons (.cons .nil)) ?_
 refine Nil.ptr ?_
 refine Ld.f ?_
 refine av.q ?_
 refine ae.fq (Jq hO.ar hd hroom) ?_
 rintro v Sq ⟨r,rfl,h2,hrc,hN,Rr⟩
 refine⟨.cons (.cons .nil),Ext.mk rfl (Ext.mk rfl ?_)⟩
 refine⟨fun _ H=>∃(b':sE) (cP bE:List Nat),H=(b1,.cells (Value.cells (nK d)) 161 (0,0))::b'.hp kp K.n∧O5 b' {K with N:=up K.N r (some d),used:=K.used+1,us:=cP,ho:=bE} ord ak tr∧
   K.us.length≤cP.length∧(∀s,cP.getD s 0=K.use s)∧∀s,bE.getD s 0=K.hold s,
  fun _ H=>r+1-GF H,JE.mk ⟨{b with CA:=Sq},K.us,K.ho,rfl,{hO with ar:=Rr,ul:=vC},Nat.le_refl _,fun _=>rfl,fun _=>rfl⟩,?_⟩
 rintro H ⟨b',cP,bE,rfl,u3,hle,hu,hh⟩ gs
 have Qt:=u3.ul
 simp only at Qt
 refine bf.q (Nil.ptr ?_)
 refine Ld.f ?_
 refine u3.us.aL ?_
 rw[ah]
 refine aa.m0 (Br.dec (fun hge=>?_) (fun hge=>?_))
 ·have hge:cP.length≤r:=hge
  refine Nil.ptr ?_
  refine Ld.f ?_
  refine an.int (e:=21) (by kernel_rfl) (by kernel_rfl) (by kernel_rfl) fun bx=>?_
  refine u3.us.oh (.cons (.cons (.cons (.app (.app .left))))) (by exact .head _) (by simp;omega) (by simp;omega) fun VL JY uQ=>?_
  refine Nil.ptr (ag.mk ?_)
  refine St.one (by exact .tail (.tail (.head _))) uQ.one (by simp[sE.cells]) rfl ?_
  refine Nil.ptr ?_
  refine Ld.f ?_
  refine an.int (e:=21) (by kernel_rfl) (by kernel_rfl) (by kernel_rfl) fun by'=>?_
  refine u3.ho.oh (.cons (.cons (.cons (.cons (.app (.app (.app .left))))))) (by exact .head _) (by simp;omega) (by simp;omega) fun VM F9 oz=>?_
  refine Nil.ptr (ag.mk ?_)
  refine St.one (by exact .tail (.tail (.tail (.head _)))) oz.one (by simp[sE.cells]) rfl ?_
  have e0:∀l:List Nat,iw l++[0]=iw (l++[0]):=fun l=>by rw[cm];rfl
  rw[e0]at uQ oz
  refine aq.of (.skip (.skip (.refl _))) ⟨{b' with vu:=VL,vh:=VM,CU:=JY,CH:=F9},cP++[0],bE++[0],rfl,{u3 with us:=uQ,ho:=oz,ul:=by simp at Qt⊢;omega},by simp;omega,fun s=>by rw[rH,hu],fun s=>by rw[rH,hh]⟩ ?_
  obtain⟨a1,c1,e1⟩:=aO.len u3.us
  obtain⟨a2,c2,e2⟩:=aO.len uQ
  have f1:=vL (b:=b') (x:=(b1,.cells (Value.cells (nK d)) 161 (0,0))) (kp:=kp) (n:=K.n) e1
  have f2:=vL (b:={b' with vu:=VL,vh:=VM,CU:=JY,CH:=F9}) (x:=(b1,.cells (Value.cells (nK d)) 161 (0,0))) (kp:=kp) (n:=K.n) e2
  rw[f1]
  refine Nat.lt_of_le_of_lt (Nat.le_of_eq (congrArg (fun z=>r+1-z) f2)) ?_
  simp
  omega
 ·have hge:¬cP.length≤r:=hge
  have JQ:r<cP.length:=by omega
  have iZ:r<bE.length:=by omega
  refine DR.of (R:=(kp,.cells (b'.cells K.n) 117 (0,0))::[]) (.skip (.cons .nil)) ?_
  refine Nil.ptr ?_
  refine Ld.f ?_
  refine Nil.ptr ?_
  refine Ld.f ?_
  refine u3.us.g8 (x:=0) (.cons (.cons (.app (.app .left)))) (by simpa using JQ) fun JY uQ=>?_
  refine u3.ho.g8 (x:=0) (.cons (.cons (.app (.app (.app .left))))) (by simpa using iZ) fun F9 oz=>?_
  have e0:∀l:List Nat,(iw l).set r 0=iw (l.set r 0):=fun l=>eR l r 0
  rw[e0]at uQ oz
  have lor:d.lo≠r:=eJ hd.lo h2 hN
  have Uo:d.hi≠r:=eJ hd.hi h2 hN
  refine Ld.f ?_
  have u0:∀s,(cP.set r 0).getD s 0=if s=r then 0 else K.use s:=fun s=>by rw[fO JQ];split;rfl;exact hu s
  have h0:∀s,(bE.set r 0).getD s 0=if s=r then 0 else K.hold s:=fun s=>by rw[fO iZ];split;rfl;exact hh s
  have rE:cF kp {K with N:=up K.N r (some d),used:=K.used+1,us:=cP.set r 0,ho:=bE.set r 0} ord ak tr (({b' with CU:=JY,CH:=F9}:sE).hp kp K.n):=⟨_,rfl,{u3 with us:=uQ,ho:=oz,ul:=by simp;omega}⟩
  refine ae.fq (yG rE (by simp;omega) (by have:=hb d.lo;show(cP.set r 0).getD d.lo 0+1<_;rw[u0,if_neg lor];omega)) ?_
  rintro v C1 ⟨rfl,pI⟩
  refine Ld.f ?_
  have u1:∀s,(po {K with N:=up K.N r (some d),used:=K.used+1,us:=cP.set r 0,ho:=bE.set r 0} d.lo).getD s 0=(if s=r then 0 else K.use s)+(if 2≤s∧s=d.lo then 1 else 0):=fun s=>by
   by_cases e:s=d.lo
   ·by_cases h2:2≤s
    ·rw[if_pos (show 2≤s∧s=d.lo from⟨h2,e⟩),e,j5 (by omega) (by simp;omega)]
     show(cP.set r 0).getD d.lo 0+1=_
     rw[u0]
    ·rw[if_neg (show¬(2≤s∧s=d.lo)by omega)]
     unfold po
     rw[if_pos (by omega)]
     show(cP.set r 0).getD s 0=_
     rw[u0];rfl
   ·rw[if_neg (show¬(2≤s∧s=d.lo)by omega),qo e]
    show(cP.set r 0).getD s 0=_
    rw[u0];rfl
  refine ae.fq (yG pI (by rw[gm];simp;omega) (by
   have:=hb d.hi
   show(po _ d.lo).getD d.hi 0+1<_
   rw[u1,if_neg Uo];split<;>omega)) ?_
  rintro v C2 ⟨rfl,nY⟩
  have Zt:=nY
  obtain⟨b3,rfl,WI⟩:=nY
  refine DR.self ?_
  refine Nil.ptr ?_
  refine Ld.f ?_
  refine av.q ?_
  refine ae.fq (Ci WI.ut hv hT) ?_
  rintro v JZ ⟨rfl,NY⟩
  have u2:∀s,(po {K with N:=up K.N r (some d),used:=K.used+1,us:=po {K with N:=up K.N r (some d),used:=K.used+1,us:=cP.set r 0,ho:=bE.set r 0} d.lo,ho:=bE.set r 0} d.hi).getD s 0=(if s=r then 0 else K.use s)+(if 2≤s∧s=d.lo then 1 else 0)+(if 2≤s∧s=d.hi then 1 else 0):=fun s=>by
   by_cases e:s=d.hi
   ·by_cases h2:2≤s
    ·rw[if_pos (show 2≤s∧s=d.hi from⟨h2,e⟩),e,j5 (by omega) (by rw[gm];simp;omega)]
     show(po _ d.lo).getD d.hi 0+1=_
     rw[u1]
    ·rw[if_neg (show¬(2≤s∧s=d.hi)by omega)]
     unfold po
     rw[if_pos (by omega)]
     show(po _ d.lo).getD s 0=_
     rw[u1];rfl
   ·rw[if_neg (show¬(2≤s∧s=d.hi)by omega),qo e]
    show(po _ d.lo).getD s 0=_
    rw[u1];rfl
  refine bN.mk .tail ⟨r,_,_,rfl,hN,h2,hrc,?_,?_,?_,?_,?_,?_,?_,?_,{b3 with CT:=JZ},rfl,{WI with ut:=NY}⟩
  ·rw[gm,gm];simp;omega
  ·rw[gm,gm];simp;omega
  ·rw[gm,gm];simp;omega
  ·rw[u2,if_pos rfl,if_neg (show¬(2≤r∧r=d.lo)by omega),if_neg (show¬(2≤r∧r=d.hi)by omega)]
  ·intro s PC hne
   rw[u2,if_neg hne,dr]
   have c1:(2≤s∧s=d.lo)↔d.lo=s:=⟨fun h=>h.2.symm,fun h=>⟨PC,h.symm⟩⟩
   have c2:(2≤s∧s=d.hi)↔d.hi=s:=⟨fun h=>h.2.symm,fun h=>⟨PC,h.symm⟩⟩
   simp only[c1,c2]
   omega
  ·intro s hs
   rw[u2,if_neg (show¬s=r by omega),if_neg (show¬(2≤s∧s=d.lo)by omega),if_neg (show¬(2≤s∧s=d.hi)by omega)]
   try simp
  ·rw[h0,if_pos rfl]
  ·intro s hne;rw[h0,if_neg hne]
end
section
variable {kp:Nat} {K:Kd} {ord ak tr:List Nat} {C:Hp} {S:Nat→aU.Fn}
theorem LN(B:Hp)(v:Int)(r:Nat)(kv:Value):Rd Tryz.prog 138 #[kv,.int .i64 v,u32 r,u32 r] B (· =u32 r):=by
 refine aW fun g=>m9 ?_
 exact aa.iK (Br.T (bK.mk (.refl _) rfl))
theorem LP(h:cF kp K ord ak tr C){v lo hi r:Nat}(hne:lo≠hi)(hv:v<K.n)(hT:K.T ⟨v,lo,hi⟩=some r):
  Rd Tryz.prog 138 #[ptr kp,.int .i64 (v:Int),u32 lo,u32 hi] C (· =u32 r):=by
 obtain⟨b,rfl,hO⟩:=h
 refine aW fun g=>m9 ?_
 refine aa.iK (Br.xO hne ?_)
 refine Build.mk (cs:=bu ⟨v,lo,hi⟩) (by kernel_rfl) ?_
 intro b3 _
 refine St.p (fun x hx=>by simp[bu,u32]at hx;rcases hx with rfl|rfl|rfl<;>rfl) ?_
 refine DR.self ?_
 refine Nil.ptr ?_
 refine Ld.f ?_
 refine av.q ?_
 refine ae.eq (qc (d:=⟨v,lo,hi⟩) hO.ut hv) ?_
 rw[hT]
 exact⟨.refl _,Ext.mk rfl (Ext.mk rfl (Br.yes (bK.mk .tail rfl)))⟩
theorem LO(h:cF kp K ord ak tr C){d:Nd}(hne:d.lo≠d.hi)(hd:Sh K.N d)(hv:d.v<K.n)(hT:K.T d=none)(hroom:K.used<K.cap)(hlo:d.lo<2∨d.lo<K.us.length)(hhi:d.hi<2∨d.hi<K.us.length)
 (hb:∀s,K.use s+2<2147483648):
  Fc Tryz.prog 138 #[ptr kp,.int .i64 (d.v:Int),u32 d.lo,u32 d.hi] C (fun v C'=>∃r cP bE,v=u32 r∧K.N r=none∧2≤r∧r<K.cap∧cP.length=bE.length∧r<cP.length∧K.us.length≤cP.length∧cP.getD r 0=0∧
   (∀s,2≤s→s≠r→cP.getD s 0=K.use s+e1 (some d) s)∧(∀s,s<2→cP.getD s 0=K.use s)∧bE.getD r 0=0∧(∀s,s≠r→bE.getD s 0=K.hold s)∧
   cF kp {K with N:=up K.N r (some d),T:=ng K.T d (some r),used:=K.used+1,us:=cP,ho:=bE} ord ak tr C'):=by
 have h0:=h
 obtain⟨b,rfl,hO⟩:=h
 refine aW fun g=>m9 ?_
 refine aa.iK (Br.xO hne ?_)
 refine Build.mk (cs:=bu d) (by kernel_rfl) ?_
 intro b3 _
 refine St.p (fun x hx=>by simp[bu,u32]at hx;rcases hx with rfl|rfl|rfl<;>rfl) ?_
 refine DR.self ?_
 refine Nil.ptr ?_
 refine Ld.f ?_
 refine av.q ?_
 refine ae.eq (qc (d:=d) hO.ut hv) ?_
 rw[hT]
 refine⟨.refl _,Ext.mk rfl (Ext.mk rfl (Br.no ?_))⟩
 refine av.q ?_
 refine ae.fq (Co h0 hd hv hT hroom hlo hhi hb) ?_
 rintro v C' ⟨r,cP,bE,rfl,hh⟩
 exact bN.mk .tail ⟨r,cP,bE,rfl,hh⟩
structure sY(K' K:Kd):Prop where
 N:∀{s d},K'.N s=some d→K.N s=some d
 n:K'.n=K.n
 cap:K'.cap=K.cap
 ho:K'.ho=K.ho
 us:∀s,K'.use s≤K.use s
 idle:(∀s,K.N s=none→K.use s=0)→∀s,K'.N s=none→K'.use s=0
theorem sY.refl(K:Kd):sY K K:=⟨fun h=>h,rfl,rfl,rfl,fun _=>Nat.le_refl _,fun h=>h⟩
theorem sY.trans{A B C:Kd}(h:sY A B)(h':sY B C):sY A C:=⟨fun x=>h'.N (h.N x),h.n.trans h'.n,h.cap.trans h'.cap,h.ho.trans h'.ho,fun s=>Nat.le_trans (h.us s) (h'.us s),fun hi=>h.idle (h'.idle hi)⟩
def PL(P:Nat→Nat)(N:fb):Prop:=∀t,2≤t→0<P t→∃d,N t=some d
def fH(P0:Nat→Nat)(l:List Nat):Nat→Nat:=fun s=>P0 s+l.count s
theorem E0{P0:Nat→Nat}{l:List Nat}{t:Nat}:up (fH P0 (l++[t])) t (fH P0 (l++[t]) t-1)=fH P0 l:=by
 funext s
 unfold up fH
 split
 ·rename_i e;subst e;simp
 ·rename_i e;simp[List.count_append,List.count_singleton,Ne.symm e]
theorem mP{P0:Nat→Nat}(h:cF kp K ord ak tr C){r:Nat}(hm:g6 K S fY (fH P0 [r]))(hp:Pos K)(hl:PL (fH P0 [r]) K.N)(hr:r<1048576)(Y8:∀s,K.use s<2147483648):
  Fc Tryz.prog 142 #[ptr kp,u32 r] C (fun v C'=>v=.tuple #[]∧∃K',cF kp K' ord ak tr C'∧g6 K' S fY P0∧Pos K'∧PL P0 K'.N∧sY K' K):=by
 refine aW fun g=>BR ?_
 refine an.int (e:=77) (by kernel_rfl) (by kernel_rfl) (by kernel_rfl) fun bx=>?_
 refine Qb (fun k vs H=>∃(w:Value) (Ct C':Hp) (todo:List Nat) (K':Kd),vs=[w]∧H=Ct++C'∧aK 77 .u32 w (iw todo) Ct∧cF kp K' ord ak tr C'∧g6 K' S fY (fH P0 todo)∧Pos K'∧PL (fH P0 todo) K'.N∧sY K' K∧(∀t∈todo,t<1048576)∧k=3*K'.used+todo.length∧k≤3*K.used+1)
  _ ⟨_,[_],C,[r],K,rfl,rfl,aK.made [(r:Int)],h,hm,hp,hl,.refl K,by simpa using hr,rfl,by simp⟩ ?_
 rintro w H hJ gs
 obtain⟨k,⟨w',Ct,C',todo,K',hw,rfl,ht,hK,hM,IP,Gj,mw,hT,hk,hkb⟩,hkm⟩:=hJ.open
 simp only[List.cons.injEq,and_true]at hw
 subst hw
 refine ht.aL ?_
 rw[ah]
 refine aa.jb (b:=0) (Br.dec (fun hpos=>?_) (fun hpos=>?_))
 ·have yu:=hm.cap
  obtain⟨pre,t,rfl⟩:∃pre t,todo=pre++[t]:=⟨todo.dropLast,todo.getLast (by intro e;simp[e]at hpos),(List.dropLast_concat_getLast _).symm⟩
  have Qv:(pre++[t]).length=pre.length+1:=by simp
  have Pf:=hT t (by simp)
  refine ht.aL ?_
  rw[ah,Qv]
  refine aa.qv (b:=1) ?_ (by omega) ?_
  ·simp[aY];omega
  rw[Nat.add_sub_cancel]
  refine ht.ld (i:=pre.length) (x:=(t:Int)) (by rw[cm];simp[iw]) (bj.sub .left) ?_
  refine ht.cut (i:=pre.length) (by simp) fun w' ht'=>?_
  have Gd:aK 77 .u32 w' (iw pre) Ct:=by
   rw[cm,List.take_left' (by simp)]at ht';exact ht'
  have UW:∀s∈pre,s<1048576:=fun s hs=>hT s (List.mem_append_left _ hs)
  refine aa.CG (b:=1) (Br.dec (fun h1=>?_) (fun h1=>?_))
  ·have hc:∀s,2≤s→fH P0 (pre++[t]) s=fH P0 pre s:=fun s hs=>by
    unfold fH;rw[List.count_append,List.count_singleton];simp;omega
   exact kT.back (.refl _) hkm (3*K'.used+pre.length) ⟨w',Ct,C',pre,K',rfl,rfl,Gd,hK,hM.congr (fun _=>Iff.rfl) hc,IP,fun s hs h0=>Gj s hs (by rw[hc s hs];exact h0),mw,UW,rfl,by simp at hk;omega⟩ (by rw[hk];simp)
  ·have WG:0<fH P0 (pre++[t]) t:=by unfold fH;simp;omega
   obtain⟨d,hd⟩:=Gj t (by omega) WG
   have hfit:=hM.fit hd
   have y8:=IP t d hd
   obtain⟨b,rfl,hO⟩:=hK
   refine Nil.ptr ?_
   refine Ld.f ?_
   refine hO.us.ld (x:=((K'.use t:Nat):Int)) (bB hfit) (bj.sub (.app (.cons (.app (.app .left))))) ?_
   refine aa.qv (b:=1) ?_ (by omega) ?_
   ·have:=mw.us t
    have:=Y8 t
    simp[aY];omega
   refine hO.us.g8 (x:=((K'.use t-1:Nat):Int)) (.app (.cons (.app (.app .left)))) (by simpa using hfit) fun JY uQ=>?_
   rw[eR]at uQ
   have g1:∀s,(K'.us.set t (K'.use t-1)).getD s 0=if s=t then K'.use t-1 else K'.use s:=fun s=>fO hfit
   have EJ:=hM.less (r:=t) (cP:=K'.us.set t (K'.use t-1)) WG (by simp) (by rw[g1,if_pos rfl];omega) (fun s hs=>by rw[g1,if_neg hs])
   rw[E0]at EJ
   have Nf:O5 {b with CU:=JY} {K' with us:=K'.us.set t (K'.use t-1)} ord ak tr:={hO with us:=uQ,ul:=by simp;exact hO.ul}
   have JU:sY {K' with us:=K'.us.set t (K'.use t-1)} K:=⟨mw.N,mw.n,mw.cap,mw.ho,fun s=>by
    show(K'.us.set t (K'.use t-1)).getD s 0≤_
    rw[g1]
    have:=mw.us s
    split
    ·rename_i e;subst e;omega
    ·exact this,fun hi s hs=>by
    show(K'.us.set t (K'.use t-1)).getD s 0=0
    have hs':K'.N s=none:=hs
    rw[g1,if_neg (fun e=>by subst e;rw[hd]at hs';cases hs')]
    exact mw.idle hi s hs'⟩
   have RH:PL (fH P0 pre) K'.N:=fun s hs h0=>Gj s hs (by unfold fH at h0⊢;rw[List.count_append];omega)
   refine Nil.ptr ?_
   refine Ld.f ?_
   refine uQ.ld (x:=((K'.use t-1:Nat):Int)) (by rw[←eR];simp[hfit]) (bj.sub (.app (.cons (.app (.app .left))))) ?_
   refine aa.jb (b:=0) (Br.dec (fun h3=>?_) (fun h3=>?_))
   ·refine kT.back (.refl _) hkm (3*K'.used+pre.length) ⟨w',Ct,_,pre,_,rfl,rfl,Gd,⟨_,rfl,Nf⟩,EJ,fun s e hs=>?_,RH,JU,UW,rfl,by simp at hk;omega⟩ (by rw[hk];simp)
    show 0<(K'.us.set t (K'.use t-1)).getD s 0
    rw[g1]
    split
    ·exact h3
    ·exact IP s e hs
   ·have Yl:K'.use t=1:=by omega
    have rE:cF kp {K' with us:=K'.us.set t (K'.use t-1)} ord ak tr (({b with CU:=JY}:sE).hp kp K'.n):=⟨_,rfl,Nf⟩
    refine ae.eq (kD rE (by omega)) ?_
    have JV:2≤t:=by omega
    have Uv:got K'.N t=bu d:=jc hd JV
    show dP _ _ _
    intro Xa _
    rw[Uv]
    refine St.p (fun x hx=>by simp[bu,u32]at hx;rcases hx with rfl|rfl|rfl<;>rfl) ?_
    refine DR.self ?_
    refine Nil.ptr ?_
    refine Ld.f ?_
    refine av.q ?_
    have OJ:K'.T d=some t:=(hM.gn d t).2 ⟨hd,fun h=>h⟩
    refine ae.fq (tp Nf.ut (hM.var hd) OJ) ?_
    rintro v JZ ⟨rfl,NY⟩
    refine Nil.ptr ?_
    refine Ld.f ?_
    refine ae.fq (Jw Nf.ar ⟨d,hd⟩ JV) ?_
    rintro v Sq ⟨rfl,Rr⟩
    refine Ld.f ?_
    refine Ld.f ?_
    refine an.Qm (e:=77) (by kernel_rfl) (by kernel_rfl) (by kernel_rfl) fun bz=>?_
    refine Gd.mC (.cons (.cons .left)) (bW.block (l:=[(d.lo:Int),(d.hi:Int)]) (by exact .head _) (by simp)) (by simp at hk⊢;omega) (by simp at hk⊢;omega) fun w2 Ct2 N7=>?_
    have e0:iw pre++[(d.lo:Int),(d.hi:Int)]=iw (pre++[d.lo,d.hi]):=by rw[cm];rfl
    rw[e0]at N7
    have Pe:({K' with us:=K'.us.set t (K'.use t-1)}:Kd).use t=0:=by show(K'.us.set t (K'.use t-1)).getD t 0=0;rw[g1,if_pos rfl];omega
    have Gk:=EJ.free (r:=t) (d:=d) hd (fun h=>h) Pe
    have UD:cM K'.N t K'.cap=0:=by have:=EJ.use hd;rw[Pe]at this;exact(by have h5:cM K'.N t K'.cap+_+_=0:=this.symm;omega)
    have jt:=gW UD t (hM.two hd).2 d hd
    have U2:fH P0 pre t=0:=by have:=EJ.use hd;rw[Pe]at this;omega
    have hroom:0<K'.used:=by have:=hM.room;omega
    have hlt:∀x,live K'.N x→x<1048576:=fun x hx=>rE.lt hx
    have l9:∀s,2≤s→fH P0 pre s+e1 (some d) s=fH P0 (pre++[d.lo,d.hi]) s:=fun s _=>by
     unfold fH
     rw[dr,List.count_append,List.count_cons,List.count_cons,List.count_nil]
     simp only[beq_iff_eq]
     omega
    refine kT.back (.skip (.skip (.refl _))) hkm (3*(K'.used-1)+(pre++[d.lo,d.hi]).length) ⟨w2,Ct2,_,pre++[d.lo,d.hi],{K' with us:=K'.us.set t (K'.use t-1),N:=up K'.N t none,T:=ng K'.T d none,used:=K'.used-1},rfl,rfl,N7,
     ⟨{b with CU:=JY,CT:=JZ,CA:=Sq},rfl,{Nf with ar:=Rr,ut:=NY}⟩,Gk.congr (fun _=>Iff.rfl) l9,fun s e hs=>?_,fun s hs h0=>?_,⟨fun{s e} hs=>?_,JU.n,JU.cap,JU.ho,JU.us,fun hi s hs=>?_⟩,fun s hs=>?_,rfl,by simp at hk⊢;omega⟩ (by simp at hk⊢;omega)
    ·have hne:s≠t:=fun e2=>by subst e2;have rj:up K'.N s none s=some e:=hs;rw[aH]at rj;cases rj
     show 0<(K'.us.set t (K'.use t-1)).getD s 0
     rw[g1,if_neg hne]
     have rj:up K'.N t none s=some e:=hs
     rw[aI hne]at rj
     exact IP s e rj
    ·have hne:s≠t:=fun e2=>by
      subst e2
      rw[←l9 s hs,U2]at h0
      rw[dr,if_neg jt.1,if_neg jt.2]at h0
      omega
     show∃e,up K'.N t none s=some e
     rw[aI hne]
     rw[←l9 s hs]at h0
     by_cases h5:0<fH P0 pre s
     ·exact RH s hs h5
     ·rw[dr]at h0
      have:d.lo=s∨d.hi=s:=by
       by_cases h6:d.lo=s
       ·exact .inl h6
       ·by_cases h7:d.hi=s
        ·exact .inr h7
        ·rw[if_neg h6,if_neg h7]at h0;omega
      rcases this with rfl|rfl
      ·rcases hM.lo hd with h8|h8
       ·omega
       ·exact h8
      ·rcases hM.hi hd with h8|h8
       ·omega
       ·exact h8
    ·have rj:up K'.N t none s=some e:=hs
     by_cases e2:s=t
     ·subst e2;rw[aH]at rj;cases rj
     ·rw[aI e2]at rj;exact mw.N rj
    ·have rj:up K'.N t none s=none:=hs
     show(K'.us.set t (K'.use t-1)).getD s 0=0
     by_cases e2:s=t
     ·subst e2;rw[g1,if_pos rfl];omega
     ·rw[aI e2]at rj
      exact JU.idle hi s rj
    ·rcases List.mem_append.1 hs with hs|hs
     ·exact UW s hs
     ·simp at hs
      rcases hs with rfl|rfl
      ·exact hlt _ (hM.lo hd)
      ·exact hlt _ (hM.hi hd)
 ·obtain rfl:todo=[]:=List.eq_nil_of_length_eq_zero (by omega)
  exact bN.mk .right ⟨rfl,K',hK,hM.congr (fun _=>Iff.rfl) (fun s _=>by simp[fH]),IP,fun s hs h0=>Gj s hs (by simpa[fH]using h0),mw⟩
end
abbrev lv(ak:List Nat):Nat→Nat:=fun v=>ak.getD v 0
section
variable {kp:Nat} {K:Kd} {ord ak tr:List Nat} {C:Hp} {S:Nat→aU.Fn}
theorem CJ(h:cF kp K ord ak tr C)(v:Int):Rd Tryz.prog 113 #[ptr kp,.int .i64 v] C (· =.bool (decide (0≤v∧v<K.n))):=by
 obtain⟨b,rfl,hO⟩:=h
 refine aW fun g=>B4 ?_
 refine aa.geq ?_
 refine dO.and (decide (v<K.n)) (fun _=>?_) rfl fun _=>bK.mk (.refl _) (by rw[Bool.decide_and])
 refine Nil.ptr ?_
 refine Ld.f ?_
 exact aa.lss ⟨rfl,rfl⟩
theorem tM(h:cF kp K ord ak tr C){r:Nat}(hl:live K.N r)(hv:∀d,K.N r=some d→d.v<K.n)(PD:r<2→K.N r=none):Rd Tryz.prog 257 #[ptr kp,u32 r] C (· =.int .i64 ((dep K.n (lv ak) K.N r:Nat):Int)):=by
 have h0:=h
 have hr:=h.lt hl
 obtain⟨b,rfl,hO⟩:=h
 refine aW fun g=>As ?_
 refine Nil.ptr (ag.mk ?_)
 refine ae.eq (kD h0 (by omega)) ?_
 intro b5 _
 refine St.whole (r:=got K.N r) (by exact .head _) rfl (cW _ _).1 (cW _ _).2 ?_
 by_cases h2:r<2
 ·rw[oS h2,cj (PD h2)]
  refine Ld.f ?_
  refine aa.geq (Br.Pc (by decide) ?_)
  refine Nil.ptr ?_
  refine Ld.f ?_
  exact bK.mk .tail rfl
 ·obtain⟨d,hd⟩:∃d,K.N r=some d:=by rcases hl with hl|hl;omega;exact hl
  rw[jc hd (by omega),aE hd]
  have xe:=hv d hd
  have hlen:=hO.ol.2
  refine Ld.f ?_
  refine aa.geq (Br.Tm (by simp) ?_)
  refine Nil.ptr ?_
  refine Ld.f ?_
  refine Ld.f ?_
  refine hO.lv.ld (x:=((ak.getD d.v 0:Nat):Int)) (bB (by omega)) (bj.sub (.cons (.cons (.app (.app (.app (.app (.app .left)))))))) ?_
  exact bK.mk .tail rfl
def pO(K:Kd)(ak:List Nat)(v:Int)(lo hi:Nat):Int:=
 if¬(0≤v∧v<K.n)then 2 else if eY K.N lo=false∨eY K.N hi=false then 3 else if lo≠hi∧min (dep K.n (lv ak) K.N lo) (dep K.n (lv ak) K.N hi)≤ak.getD v.toNat 0 then 4 else 0
theorem LV(h:cF kp K ord ak tr C)(v:Int){lo hi:Nat}(hlo:lo<4294967296)(hhi:hi<4294967296)(hv:∀r d,K.N r=some d→d.v<K.n∧2≤r):
  Rd Tryz.prog 225 #[ptr kp,.int .i64 v,u32 lo,u32 hi] C (· =.int .i64 (pO K ak v lo hi)):=by
 have h0:=h
 have PD:∀r,r<2→K.N r=none:=fun r hr=>by
  cases e:K.N r with
  |none=>rfl
  |some d=>have:=(hv r d e).2;omega
 obtain⟨b,rfl,hO⟩:=h
 refine aW fun g=>AO ?_
 refine ae.eq (CJ h0 v) ?_
 refine Un.not ?_
 by_cases JO:0≤v∧v<K.n
 rotate_left
 ·rw[decide_eq_false JO]
  exact Br.yes (bK.mk (.refl _) (by unfold pO;rw[if_pos JO]))
 rw[decide_eq_true JO]
 refine Br.no ?_
 obtain⟨n,rfl⟩:∃n:Nat,v=n:=⟨v.toNat,by omega⟩
 have hnv:n<K.n:=by omega
 intro J hJ
 refine Nil.ptr (ag.mk ?_)
 refine ae.eq (kE h0 hlo) ?_
 refine Un.not ?_
 by_cases sC:eY K.N lo=true
 rotate_left
 ·have QX:eY K.N lo=false:=by simpa using sC
  rw[QX]
  exact Split.KJ rfl (ay.mk (JE.mk (hJ _ _ fun gs=>Br.yes (bK.mk (.refl _) (by unfold pO;rw[if_neg (by simpa using JO),if_pos (.inl QX)])))))
 rw[sC]
 refine Split.go rfl ?_
 refine Nil.ptr (ag.mk ?_)
 refine ae.eq (kE h0 hhi) ?_
 refine Un.not ?_
 by_cases SM:eY K.N hi=true
 rotate_left
 ·have Q6:eY K.N hi=false:=by simpa using SM
  rw[Q6]
  exact ay.mk (JE.mk (hJ _ _ fun gs=>Br.yes (bK.mk (.refl _) (by unfold pO;rw[if_neg (by simpa using JO),if_pos (.inr Q6)]))))
 rw[SM]
 refine ay.mk (JE.mk (hJ _ _ fun gs=>Br.no ?_))
 intro J2 yx
 have hE:pO K ak n lo hi=if lo≠hi∧min (dep K.n (lv ak) K.N lo) (dep K.n (lv ak) K.N hi)≤ak.getD n 0 then 4 else 0:=by
  unfold pO
  rw[if_neg (by simpa using JO),if_neg (by rw[sC,SM];simp)]
  rfl
 refine DR.self ?_
 refine aa.l6 ?_
 by_cases hne:lo≠hi
 rotate_left
 ·rw[decide_eq_false hne]
  exact Br.no (JE.mk (yx _ _ fun gs=>Br.no (bK.mk (.refl _) (by rw[hE,if_neg (fun h=>hne h.1)]))))
 rw[decide_eq_true hne]
 refine Br.yes ?_
 refine Nil.ptr ?_
 refine Ld.f ?_
 have hlen:=hO.ol.2
 refine hO.lv.ld (x:=((ak.getD n 0:Nat):Int)) (bB (by omega)) (bj.sub (.cons (.app (.app (.app (.app (.app .left))))))) ?_
 intro F
 refine ae.eq (tM h0 (cu.1 sC) (fun d hd=>(hv _ _ hd).1) (PD _)) ?_
 refine⟨.refl _,?_⟩
 intro F2
 refine ae.eq (tM h0 (cu.1 SM) (fun d hd=>(hv _ _ hd).1) (PD _)) ?_
 refine⟨.refl _,?_⟩
 refine⟨_,_,_,rfl,rfl,?_⟩
 have hmin:(if((dep K.n (lv ak) K.N hi:Nat):Int)<((dep K.n (lv ak) K.N lo:Nat):Int)then((dep K.n (lv ak) K.N hi:Nat):Int)else((dep K.n (lv ak) K.N lo:Nat):Int))=((min (dep K.n (lv ak) K.N lo) (dep K.n (lv ak) K.N hi):Nat):Int):=by
  split<;>omega
 rw[hmin]
 refine aa.m0 ?_
 refine ay.mk ?_
 by_cases hm:min (dep K.n (lv ak) K.N lo) (dep K.n (lv ak) K.N hi)≤ak.getD n 0
 ·rw[decide_eq_true hm]
  exact JE.mk (yx _ _ fun gs=>Br.yes (bK.mk (.refl _) (by rw[hE,if_pos ⟨hne,hm⟩])))
 ·rw[decide_eq_false hm]
  exact JE.mk (yx _ _ fun gs=>Br.no (bK.mk (.refl _) (by rw[hE,if_neg (fun h=>hm h.2)])))
theorem Kv(h:cF kp K ord ak tr C){v lo hi:Nat}(hv:v<K.n):
  Rd Tryz.prog 226 #[ptr kp,.int .i64 (v:Int),u32 lo,u32 hi] C (· =if lo=hi then .tuple #[u32 lo,.bool true]else .tuple #[u32 ((K.T ⟨v,lo,hi⟩).getD 0),.bool (K.T ⟨v,lo,hi⟩).isSome]):=by
 obtain⟨b,rfl,hO⟩:=h
 refine aW fun g=>AN ?_
 refine aa.iK (Br.dec (fun he=>bK.mk (.refl _) (by rw[if_pos he])) (fun he=>?_))
 refine Nil.ptr (ag.mk ?_)
 refine Ld.f ?_
 refine Build.mk (cs:=bu ⟨v,lo,hi⟩) (by kernel_rfl) ?_
 refine ae.eq (qc (d:=⟨v,lo,hi⟩) hO.ut hv) ?_
 exact Ext.mk rfl (Ext.mk rfl (bK.mk (.refl _) (by rw[if_neg he];rfl)))
theorem qX(h:cF kp K ord ak tr C){r:Nat}(hr:r<4294967296)(hb:∀s,K.hold s<2147483648):Rd Tryz.prog 95 #[ptr kp,u32 r] C (· =.int .i64 ((K.hold r:Nat):Int)):=by
 obtain⟨b,rfl,hO⟩:=h
 refine aW fun g=>Ff ?_
 refine aa.aC ?_
 refine dO.or (decide (K.ho.length≤r)) (fun _=>?_) (by simp) fun _=>?_
 ·refine bf.q (Nil.ptr (ag.mk ?_))
  refine Ld.f ?_
  refine hO.ho.aL ?_
  rw[ah]
  exact aa.m0 ⟨rfl,rfl⟩
 ·rw[Bool.false_or]
  refine Br.dec (fun hge=>?_) (fun hlt=>?_)
  ·refine bK.mk (.refl _) ?_
   unfold Kd.hold;rw[List.getD,List.getElem?_eq_none hge];rfl
  ·refine Nil.ptr (ag.mk ?_)
   refine Ld.f ?_
   refine hO.ho.ld (x:=((K.hold r:Nat):Int)) (bB (by omega)) (bj.sub (.cons (.app (.app (.app .left))))) ?_
   refine bf.nat (by have:=hb r;simp[aY];omega) ?_
   exact bK.mk (.refl _) rfl
theorem La(h:cF kp K ord ak tr C)(h2:2≤K.used)(hu:K.used≤1048576):Rd Tryz.prog 15 #[ptr kp] C (· =.int .i64 ((K.used-2:Nat):Int)):=by
 obtain⟨b,rfl,hO⟩:=h
 refine aW fun g=>F6 ?_
 refine aa.aC (Br.no (Nil.ptr (ag.mk ?_)))
 refine Ld.f ?_
 refine ae.eq (xZ hO.ar) ?_
 refine aa.qv (b:=2) (by simp[aY];omega) h2 ?_
 exact bK.mk (.refl _) rfl
theorem Eo(h:cF kp K ord ak tr C):Rd Tryz.prog 34 #[ptr kp] C (· =.int .i64 ((tr.length:Nat):Int)):=by
 obtain⟨b,rfl,hO⟩:=h
 refine aW fun g=>FP ?_
 refine aa.aC (Br.no (Nil.ptr ?_))
 refine Ld.f ?_
 refine hO.tr.aL ?_
 rw[ah]
 exact bK.mk (.refl _) rfl
theorem wH(h:cF kp K ord ak tr C):Rd Tryz.prog 61 #[ptr kp] C (· =.int .i64 ((K.n:Nat):Int)):=by
 obtain⟨b,rfl,hO⟩:=h
 refine aW fun g=>FG ?_
 refine aa.aC (Br.no (Nil.ptr ?_))
 refine Ld.f ?_
 exact bK.mk (.refl _) rfl
theorem qZ(h:cF kp K ord ak tr C){r:Nat}(hr:r<4294967296):Rd Tryz.prog 97 #[ptr kp,u32 r] C (· =.tuple #[.agg (got K.N r).toArray,.int .i64 (if eY K.N r then 0 else 3)]):=by
 have h0:=h
 obtain⟨b,rfl,hO⟩:=h
 refine aW fun g=>Fb ?_
 intro b1 _
 refine aa.aC (Br.no (Nil.ptr (ag.mk ?_)))
 refine ae.eq (kE h0 hr) ?_
 refine Un.not ?_
 cases hb:eY K.N r with
 |false=>
  refine Br.yes ?_
  refine Build.mk (cs:=[.int .i64 0,.int .u32 0,.int .u32 0]) (by kernel_rfl) ?_
  refine St.q ?_
  refine av.q ?_
  exact bK.mk .tail (by rw[xm hb];rfl)
 |true=>
  refine Br.no (Nil.ptr (ag.mk ?_))
  refine ae.eq (kD h0 hr) ?_
  refine St.whole (r:=got K.N r) (by exact .head _) rfl (cW _ _).1 (cW _ _).2 ?_
  refine av.whole (r:=got K.N r) (by exact .head _) (cW _ _).1 ?_
  exact bK.mk .tail rfl
end
theorem rU{B:Hp}{v:Value}{l:List Int}(h:bW .i64 B v l)(hl:l.length≤1099511627776):Fc Tryz.prog 57 #[v] B (fun r H=>∃C,H=C++B∧aK 3 .i64 r l C):=by
 refine aW fun g=>FJ ?_
 obtain⟨a,c,rfl,hc⟩:=h.shape
 refine⟨.bool a.isNone,by simp[eS],?_⟩
 refine Br.mk (fun ha=>?_) (fun ha=>?_)
 ·have:l=[]:=by
   rcases h.2 with⟨_,_,h1,h2⟩|⟨b,o,cap,cs,T,fz,h1,_⟩
   ·simpa using h2
   ·simp at h1;rw[h1.1]at ha;simp at ha
  subst this
  exact bN.here ⟨[],rfl,aK.nil⟩
 ·refine an.none (z:=.int .i64 0) (e:=3) (k:=1) (by kernel_rfl) (by kernel_rfl) (by kernel_rfl) fun b=>?_
  refine(aK.made (T:=3) (kd:=.i64) (b:=b) []).mC (l2:=l) .left ((show bW .i64 B _ l from h).mono fun _ h=>.tail _ h) (by simp;omega) (by simp;omega) fun v' C' ho=>?_
  exact bN.here ⟨C',rfl,by simpa using ho⟩
theorem tH{kp:Nat}{K:Kd}{ord ak tr:List Nat}{C:Hp}(h:cF kp K ord ak tr C):Fc Tryz.prog 13 #[ptr kp] C (fun r H=>∃N,H=N++C∧aK 3 .i64 r (iw ord) N):=by
 obtain⟨b,rfl,hO⟩:=h
 refine aW fun g=>F8 ?_
 refine aa.aC (Br.no (Nil.ptr ?_))
 refine Ld.f ?_
 refine ae.fq (rU (hO.od.ints.mono (bj.sub (.cons (.app (.app (.app (.app .left))))))) (by have:=hO.ol.1;have:=hO.Hs;simp;omega)) ?_
 rintro v C' ⟨N,rfl,ho⟩
 exact bN.here ⟨N,rfl,ho⟩
end Go.Proofs
set_option maxRecDepth 100000
namespace Go.Proofs
open Go Go.Sx
def pS(x r:Nat):Prop:=x<2^r∧(r=0∨2^(r-1)≤x)
theorem pS.gt{x r n:Nat}(h:pS x r):n<r↔2^n≤x:=by
 constructor
 ·intro hn
  rcases h.2 with h2|h2
  ·omega
  ·exact Nat.le_trans (Nat.pow_le_pow_right (by decide) (by omega)) h2
 ·intro hn
  have:=Nat.lt_of_le_of_lt hn h.1
  exact(Nat.pow_lt_pow_iff_right (by decide)).1 this
theorem pS.up{x s t:Nat}(h:pS (x>>>s) t)(h0:s=0∨x>>>s≠0):pS x (s+t):=by
 rw[Nat.shiftRight_eq_div_pow]at h h0
 have hp:=Nat.two_pow_pos s
 refine⟨?_,?_⟩
 ·have:=h.1
  rw[Nat.div_lt_iff_lt_mul hp]at this
  rw[Nat.pow_add,Nat.mul_comm];exact this
 ·rcases h.2 with h2|h2
  ·subst h2
   have:=h.1
   rcases h0 with h0|h0
   ·exact .inl (by omega)
   ·rw[Nat.pow_zero]at this;exact absurd (Nat.lt_one_iff.1 this) h0
  ·by_cases ht:t=0
   ·subst ht
    rcases h0 with h0|h0
    ·exact .inl (by omega)
    ·have:=h.1;rw[Nat.pow_zero]at this;exact absurd (Nat.lt_one_iff.1 this) h0
   ·right
    have:=(Nat.le_div_iff_mul_le hp).1 h2
    rw[show s+t-1=(t-1)+s by omega,Nat.pow_add];exact this
theorem K6:∀y:Fin 256,∃b:UInt8,(ByteArray.mk #[0,1,2,2,3,3,3,3,4,4,4,4,4,4,4,4,5,5,5,5,5,5,5,5,5,5,5,5,5,5,5,5,6,6,6,6,6,6,6,6,6,6,6,6,6,6,6,6,6,6,6,6,6,6,6,6,6,6,6,6,6,6,6,6,7,7,7,7,7,7,7,7,7,7,7,7,7,7,7,7,7,7,7,7,7,7,7,7,7,7,7,7,7,7,7,7,7,7,7,7,7,7,7,7,7,7,7,7,7,7,7,7,7,7,7,7,7,7,7,7,7,7,7,7,7,7,7,7,8,8,8,8,8,8,8,8,8,8,8,8,8,8,8,8,8,8,8,8,8,8,8,8,8,8,8,8,8,8,8,8,8,8,8,8,8,8,8,8,8,8,8,8,8,8,8,8,8,8,8,8,8,8,8,8,8,8,8,8,8,8,8,8,8,8,8,8,8,8,8,8,8,8,8,8,8,8,8,8,8,8,8,8,8,8,8,8,8,8,8,8,8,8,8,8,8,8,8,8,8,8,8,8,8,8,8,8,8,8,8,8,8,8,8,8,8,8,8,8,8,8,8,8,8,8,8,8])[y.1]? =some b∧(y.1<2^b.toNat∧(b.toNat=0∨2^(b.toNat-1)≤y.1)):=by
 have h:∀y:Fin 256,(match(ByteArray.mk #[0,1,2,2,3,3,3,3,4,4,4,4,4,4,4,4,5,5,5,5,5,5,5,5,5,5,5,5,5,5,5,5,6,6,6,6,6,6,6,6,6,6,6,6,6,6,6,6,6,6,6,6,6,6,6,6,6,6,6,6,6,6,6,6,7,7,7,7,7,7,7,7,7,7,7,7,7,7,7,7,7,7,7,7,7,7,7,7,7,7,7,7,7,7,7,7,7,7,7,7,7,7,7,7,7,7,7,7,7,7,7,7,7,7,7,7,7,7,7,7,7,7,7,7,7,7,7,7,8,8,8,8,8,8,8,8,8,8,8,8,8,8,8,8,8,8,8,8,8,8,8,8,8,8,8,8,8,8,8,8,8,8,8,8,8,8,8,8,8,8,8,8,8,8,8,8,8,8,8,8,8,8,8,8,8,8,8,8,8,8,8,8,8,8,8,8,8,8,8,8,8,8,8,8,8,8,8,8,8,8,8,8,8,8,8,8,8,8,8,8,8,8,8,8,8,8,8,8,8,8,8,8,8,8,8,8,8,8,8,8,8,8,8,8,8,8,8,8,8,8,8,8,8,8,8,8])[y.1]? with|some b=>decide (y.1<2^b.toNat∧(b.toNat=0∨2^(b.toNat-1)≤y.1))|none=>false)=true:=by decide+kernel
 intro y
 have:=h y
 split at this
 ·rename_i b hb
  exact⟨b,hb,by simpa using this⟩
 ·cases this
theorem wF{x:Nat}(hx:x<18446744073709551616)(B:Hp):Rd Tryz.prog 75 #[.int .u64 (x:Int)] B (fun v=>∃r:Nat,pS x r∧v=.int .i64 (r:Int)):=by
 refine aW fun g=>FA ?_
 intro J1 RT
 have h1:∀s,s≤32→x>>>s<4294967296→(s=0∨x>>>s≠0)→J1 [.int .u64 ((x>>>s:Nat):Int),.int .i64 (s:Int)] B:=by
  intro s hs hlt h0
  refine RT _ _ _ fun gs=>?_
  intro J2 yx
  have h2:∀s,s≤48→x>>>s<65536→(s=0∨x>>>s≠0)→J2 [.int .u64 ((x>>>s:Nat):Int),.int .i64 (s:Int)] B:=by
   intro s hs hlt h0
   refine yx _ _ _ fun gs=>?_
   intro J3 Tf
   have h3:∀s,s≤56→x>>>s<256→(s=0∨x>>>s≠0)→J3 [.int .u64 ((x>>>s:Nat):Int),.int .i64 (s:Int)] B:=by
    intro s hs hlt h0
    refine Tf _ _ _ fun gs=>?_
    refine bf.nat (show x>>>s<256 from hlt) ?_
    obtain⟨b,hb,hl⟩:=K6 ⟨x>>>s,hlt⟩
    refine⟨_,_,_,b,rfl,rfl,Int.natCast_nonneg _,by rw[Int.toNat_natCast];exact hb,?_⟩
    have M1:b.toNat<256:=b.toNat_lt
    refine bf.q ?_
    refine aa.dx ?_
    exact bK.mk (.refl _) ⟨s+b.toNat,pS.up (t:=b.toNat) hl h0,rfl⟩
   refine aa.m0 (b:=256) (Br.dec (fun hge=>?_) (fun hge=>JE.mk (h3 s (by omega) (by omega) h0)))
   refine aa.fD (b:=8) (by simp only[aY];omega) ?_
   refine aa.dx (b:=8) ?_
   rw[←Nat.shiftRight_add]
   have e:x>>>(s+8)=x>>>s/256:=by rw[Nat.shiftRight_add,Nat.shiftRight_eq_div_pow (x>>>s) 8]
   exact JE.mk (h3 (s+8) (by omega) (by omega) (.inr (by omega)))
  refine aa.m0 (b:=65536) (Br.dec (fun hge=>?_) (fun hge=>JE.mk (h2 s (by omega) (by omega) h0)))
  refine aa.fD (b:=16) (by simp only[aY];omega) ?_
  refine aa.dx (b:=16) ?_
  rw[←Nat.shiftRight_add]
  have e:x>>>(s+16)=x>>>s/65536:=by rw[Nat.shiftRight_add,Nat.shiftRight_eq_div_pow (x>>>s) 16]
  exact JE.mk (h2 (s+16) (by omega) (by omega) (.inr (by omega)))
 refine aa.m0 (b:=4294967296) (Br.dec (fun hge=>?_) (fun hge=>JE.mk (h1 0 (by omega) (by simp;omega) (.inl rfl))))
 refine aa.fD (b:=32) (by simp only[aY];exact hx) ?_
 have e:x>>>32=x/4294967296:=by rw[Nat.shiftRight_eq_div_pow]
 exact JE.mk (h1 32 (by omega) (by omega) (.inr (by omega)))
end Go.Proofs
namespace Go.Sx
open Go
section
variable {P:Program} {H C:Hp} {c:Hp→Hp}
theorem bj.re(h:bj C H c)(X:Hp):bj X (c X) c:=by
 induction h with
 |here=>exact .here
 |left=>exact .left
 |cons _ ih=>exact .cons ih
 |app _ ih=>exact .app ih
def Dt(T:TypeId)(kd:IntKind)(v:Value)(l0:List Int)(C:Hp):Prop:=∃l:List Int,l.Perm l0∧aK T kd v l C
theorem swap_perm{l:List Int}{i j:Nat}{x y:Int}(hi:l[i]? =some x)(hj:l[j]? =some y):((l.set i y).set j x).Perm l:=by
 have h1:=(List.getElem?_eq_some_iff.1 hi).1
 have h2:=(List.getElem?_eq_some_iff.1 hj).1
 rw[List.perm_iff_count]
 intro a
 by_cases e:i=j
 ·subst e
  rw[hi]at hj;cases hj
  rw[List.set_set]
  have:l.set i x=l:=by
   have hx:l[i]=x:=by rw[List.getElem?_eq_getElem h1]at hi;exact Option.some.inj hi
   rw[←hx];exact List.set_getElem_self h1
  rw[this]
 ·have hx:l[i]=x:=by rw[List.getElem?_eq_getElem h1]at hi;exact Option.some.inj hi
  have hy:l[j]=y:=by rw[List.getElem?_eq_getElem h2]at hj;exact Option.some.inj hj
  rw[List.count_set (by simpa using h2),List.count_set h1]
  have:(l.set i y)[j]'(by simpa using h2)=y:=by rw[List.getElem_set_ne e];exact hy
  rw[this,hx]
  have c1:l.count x≥1:=List.one_le_count_iff.2 (hx▸List.getElem_mem h1)
  have c2:l.count y≥1:=List.one_le_count_iff.2 (hy▸List.getElem_mem h2)
  by_cases e1:x=a
  ·subst e1
   by_cases e2:y=x
   ·subst e2;simp<;>omega
   ·simp[e2,Ne.symm e2]<;>omega
  ·by_cases e2:y=a
   ·subst e2;simp[e1]<;>omega
   ·simp[e1,e2]<;>omega
theorem Dt.ld{T:TypeId}{kd qY:IntKind}{v:Value}{l0:List Int}(h:Dt T kd v l0 C)(hC:∀y∈C,y∈H){i:Nat}(hi:i<l0.length){K:Value→Prop}(hk:∀x,K (.int kd x)):aj 1 v (.int qY (i:Int)) fun p=>Ld H p K:=by
 obtain⟨l,hp,ho⟩:=h
 have:i<l.length:=by rw[hp.length_eq];exact hi
 exact ho.ld (List.getElem?_eq_getElem this) hC (hk _)
theorem Dt.swap{T:TypeId}{kd k1 k2 k3 k4:IntKind}{v:Value}{l0:List Int}(h:Dt T kd v l0 C)(hh:bj C H c){i j:Nat}(hi:i<l0.length)(hj:j<l0.length){K:Hp→Prop}(hk:∀C',Dt T kd v l0 C'→K (c C')):
  aj 1 v (.int k1 (j:Int)) fun p1=>Ld H p1 fun x=>aj 1 v (.int k2 (i:Int)) fun p2=>Ld H p2 fun y=>aj 1 v (.int k3 (i:Int)) fun p3=>St 1 H p3 x fun H1=>aj 1 v (.int k4 (j:Int)) fun p4=>St 1 H1 p4 y K:=by
 obtain⟨l,hp,ho⟩:=h
 have hl:=hp.length_eq
 have hi':l[i]? =some l[i]:=List.getElem?_eq_getElem (by omega)
 have hj':l[j]? =some l[j]:=List.getElem?_eq_getElem (by omega)
 refine ho.ld hj' hh.sub ?_
 refine ho.ld hi' hh.sub ?_
 refine ho.g8 hh (by omega) fun C1 h1=>?_
 refine h1.g8 (hh.re C1) (by simp;omega) fun C2 h2=>?_
 exact hk C2 ⟨_,(swap_perm hi' hj').trans hp,h2⟩
theorem Dt.PV{T:TypeId}{kd k1 k2 k3 k4:IntKind}{v:Value}{l0:List Int}(h:Dt T kd v l0 C)(hh:bj C H c){i j:Nat}(hi:i<l0.length)(hj:j<l0.length){B:(Value→Prop)→Prop}
 (hB:∀k:Value→Prop,k (.int k2 (i:Int))→B k){K:Hp→Prop}(hk:∀C',Dt T kd v l0 C'→K (c C')):
  aj 1 v (.int k1 (j:Int)) fun p1=>Ld H p1 fun x=>B fun u=>aj 1 v u fun p2=>Ld H p2 fun y=>aj 1 v (.int k3 (i:Int)) fun p3=>St 1 H p3 x fun H1=>aj 1 v (.int k4 (j:Int)) fun p4=>St 1 H1 p4 y K:=by
 obtain⟨l,hp,ho⟩:=h
 have hl:=hp.length_eq
 have hi':l[i]? =some l[i]:=List.getElem?_eq_getElem (by omega)
 have hj':l[j]? =some l[j]:=List.getElem?_eq_getElem (by omega)
 refine ho.ld hj' hh.sub (hB _ ?_)
 refine ho.ld hi' hh.sub ?_
 refine ho.g8 hh (by omega) fun C1 h1=>?_
 refine h1.g8 (hh.re C1) (by simp;omega) fun C2 h2=>?_
 exact hk C2 ⟨_,(swap_perm hi' hj').trans hp,h2⟩
theorem aK.dt{T:TypeId}{kd:IntKind}{v:Value}{l:List Int}(h:aK T kd v l C):Dt T kd v l C:=⟨l,.refl _,h⟩
def Tu(vs:List Value):Nat:=match vs with
 | .int _ q::_=>(q+1).toNat
 |_=>0
theorem uv{k:IntKind}{q:Int}{r:List Value}:Tu (.int k q::r)=(q+1).toNat:=rfl
end
end Go.Sx
set_option maxRecDepth 100000
namespace Go.Proofs
open Go Go.Sx
abbrev DT(v:Value)(l0:List Int)(C:Hp):Prop:=Dt 77 .u32 v l0 C
def SQ(v:Value)(l0:List Int):Value→Hp→Prop:=fun r C'=>r=.tuple #[]∧DT v l0 C'
section
variable {v:Value} {l0:List Int} {C:Hp}
theorem NK(x:Int)(B:Hp):Rd Tryz.prog 304 #[.int .u32 x] B (· =.bool false):=by
 refine aW fun g=>z6 ?_
 refine aa.fZ ?_
 exact bK.mk (.refl _) (by simp)
theorem dL(x y:Int)(B:Hp):Rd Tryz.prog 295 #[.int .u32 x,.int .u32 y] B (· =.bool (decide (x<y))):=by
 refine aW fun g=>Ae ?_
 intro J1 RT
 refine ae.eq (NK x B) ?_
 refine Split.KJ rfl ?_
 refine ay.mk ?_
 refine aa.lss ?_
 refine ay.mk ?_
 exact JE.mk (RT _ _ fun gs=>bK.mk (.refl _) rfl)
theorem wM(h:DT v l0 C){a b:Nat}(hab:a≤b)(hb:b≤l0.length)(aV:l0.length<1152921504606846976):Fc Tryz.prog 289 #[v,.int .i64 (a:Int),.int .i64 (b:Int)] C (SQ v l0):=by
 refine aW fun g=>Ak ?_
 refine aa.inc ?_
 refine⟨fun vs H=>∃i:Nat,vs=[.int .i64 (i:Int)]∧a<i∧DT v l0 H,fun vs _=>l0.length-aT vs 0,JE.mk ⟨a+1,rfl,by omega,h⟩,?_⟩
 rintro w H ⟨i,hw,hi,hd⟩ gs
 simp only[List.cons.injEq,and_true]at hw
 subst hw
 refine aa.cZ (Br.dec (fun hlt=>?_) (fun _=>bN.here ⟨rfl,hd⟩))
 refine⟨fun vs H=>∃j:Nat,vs=[.int .i64 (j:Int)]∧a≤j∧j≤i∧DT v l0 H,fun vs _=>aT vs 0,JE.mk ⟨i,rfl,by omega,Nat.le_refl _,hd⟩,?_⟩
 rintro w H ⟨j,hw,M5,On,hd⟩ gs
 simp only[List.cons.injEq,and_true]at hw
 subst hw
 intro J hJ
 have no:J [.bool false] H:=hJ _ _ fun gs=>Br.no (aa.inc (aq.mk ⟨i+1,rfl,by omega,hd⟩ (by simp[aT];omega)))
 have yes:a<j→J [.bool true] H:=fun M5=>hJ _ _ fun gs=>Br.yes (DR.self (aa.bX (b:=1) (aa.bX (b:=1)
  (hd.swap .here (by omega) (by omega) fun C' dm=>aa.bX (b:=1) (aq.mk ⟨j-1,rfl,by omega,by omega,dm⟩ (by simp[aT];omega))))))
 refine DR.self (aa.jb (Br.dec (fun hgt=>?_) fun _=>JE.mk no))
 refine hd.ld (fun _ h=>h) (by omega) fun x=>?_
 refine aa.bX (b:=1) ?_
 refine hd.ld (fun _ h=>h) (by omega) fun y=>?_
 intro F
 refine ae.eq (dL x y _) ?_
 refine ay.mk ?_
 by_cases e:x<y
 ·rw[decide_eq_true e];exact JE.mk (yes hgt)
 ·rw[decide_eq_false e];exact JE.mk no
theorem NA(h:DT v l0 C){a b:Nat}(hab:a<b)(hb:b≤l0.length)(aV:l0.length<1152921504606846976):Fc Tryz.prog 293 #[v,.int .i64 (a:Int),.int .i64 (b:Int)] C (SQ v l0):=by
 refine aW fun g=>Ag ?_
 refine aa.bX (b:=1) ?_
 refine⟨fun vs H=>∃i j:Nat,vs=[.int .i64 (i:Int),.int .i64 (j:Int)]∧j<l0.length∧DT v l0 H,fun vs _=>aT vs 1-aT vs 0,JE.mk ⟨a,b-1,rfl,by omega,h⟩,?_⟩
 rintro w w' H ⟨i,j,hw,hj,hd⟩ gs
 simp only[List.cons.injEq,and_true]at hw
 obtain⟨rfl,rfl⟩:=hw
 refine aa.cZ (Br.dec (fun hlt=>?_) (fun _=>bN.here ⟨rfl,hd⟩))
 refine DR.self (hd.swap .here (by omega) (by omega) fun C' dm=>?_)
 refine aa.inc ?_
 refine aa.bX (b:=1) ?_
 exact aq.mk ⟨i+1,j-1,rfl,by omega,dm⟩ (by simp[aT];omega)
theorem KE(h:DT v l0 C){a b:Nat}(hab:a<b)(hb:b≤l0.length)(aV:l0.length<1152921504606846976):Fc Tryz.prog 294 #[v,.int .i64 (a:Int),.int .i64 (b:Int)] C (fun r C'=>(∃t,r=.bool t)∧DT v l0 C'):=by
 refine aW fun g=>Af ?_
 refine aa.inc ?_
 refine⟨fun vs H=>∃i k:Nat,vs=[.int .i64 (i:Int),.int .i64 (k:Int)]∧a<i∧i≤b∧DT v l0 H,fun vs _=>5-aT vs 1,JE.mk ⟨a+1,0,rfl,by omega,by omega,h⟩,?_⟩
 rintro w w' H ⟨i,k,hw,JT,ry,hd⟩ gs
 simp only[List.cons.injEq,and_true]at hw
 obtain⟨rfl,rfl⟩:=hw
 refine aa.cZ (b:=5) (Br.dec (fun hk=>?_) (fun _=>bN.here ⟨⟨_,rfl⟩,hd⟩))
 intro J9 IT
 have next:∀(i':Nat) H',a<i'→i'≤b→DT v l0 H'→J9 [.int .i64 (i':Int)] H':=fun i' H' h1 h2 dm=>IT _ _ fun gs=>aa.inc (aq.mk ⟨i',k+1,rfl,h1,h2,dm⟩ (by simp[aT];omega))
 refine⟨fun vs H=>∃i:Nat,vs=[.int .i64 (i:Int)]∧a<i∧i≤b∧DT v l0 H,fun vs _=>b-aT vs 0,JE.mk ⟨i,rfl,JT,ry,hd⟩,?_⟩
 clear hd JT ry
 rintro w H ⟨i,hw,JT,ry,hd⟩ gs
 simp only[List.cons.injEq,and_true]at hw
 subst hw
 intro Xi RS
 have yes:i<b→Xi [.bool true] H:=fun hlt=>RS _ _ fun gs=>Br.yes (aa.inc (aq.mk ⟨i+1,rfl,by omega,by omega,hd⟩ (by simp[aT];omega)))
 have no:Xi [.bool false] H:=by
  refine RS _ _ fun gs=>Br.no ?_
  refine aa.iK (Br.dec (fun he=>bN.here ⟨⟨_,rfl⟩,hd⟩) (fun hne=>?_))
  refine aa.bX ?_
  refine aa.cZ (b:=50) (Br.dec (fun he=>bN.here ⟨⟨_,rfl⟩,hd⟩) (fun _=>?_))
  refine DR.self ?_
  refine aa.bX (b:=1) ?_
  refine aa.bX (b:=1) ?_
  refine hd.swap .here (by omega) (by omega) fun C1 EE=>?_
  intro Z7 U7
  have tail:∀H',DT v l0 H'→Z7 [] H':=fun H' dm=>by
   refine U7 _ fun gs=>?_
   refine aa.bX ?_
   refine aa.m0 (b:=2) (Br.dec (fun h2=>?_) (fun _=>JE.mk (next i _ JT ry dm)))
   refine aa.inc ?_
   refine⟨fun vs H=>∃j:Nat,vs=[.int .i64 (j:Int)]∧0<j∧DT v l0 H,fun vs _=>b-aT vs 0,JE.mk ⟨i+1,rfl,by omega,dm⟩,?_⟩
   rintro w H ⟨j,hw,Lt,CZ⟩ gs
   simp only[List.cons.injEq,and_true]at hw
   subst hw
   refine aa.cZ (Br.dec (fun hlt=>?_) (fun _=>JE.mk (next i _ JT ry CZ)))
   refine DR.self ?_
   refine CZ.ld (fun _ h=>h) (by omega) fun x=>?_
   refine aa.bX (b:=1) ?_
   refine CZ.ld (fun _ h=>h) (by omega) fun y=>?_
   refine ae.eq (dL x y _) ?_
   refine Un.not ?_
   refine Br.mk (fun _=>JE.mk (next i _ JT ry CZ)) (fun _=>?_)
   refine DR.self ?_
   refine aa.bX (b:=1) ?_
   refine aa.bX (b:=1) ?_
   refine CZ.swap .here (by omega) (by omega) fun C2 oQ=>?_
   refine aa.inc ?_
   exact aq.mk ⟨j+1,rfl,by omega,oQ⟩ (by simp[aT];omega)
  refine aa.bX ?_
  refine aa.m0 (b:=2) (Br.dec (fun h2=>?_) (fun _=>JE.mk (tail _ EE)))
  refine aa.bX (b:=1) ?_
  refine⟨fun vs H=>∃j:Nat,vs=[.int .i64 (j:Int)]∧j<l0.length∧DT v l0 H,fun vs _=>aT vs 0,JE.mk ⟨i-1,rfl,by omega,EE⟩,?_⟩
  rintro w H ⟨j,hw,Lt,CZ⟩ gs
  simp only[List.cons.injEq,and_true]at hw
  subst hw
  refine aa.m0 (b:=1) (Br.dec (fun hlt=>?_) (fun _=>JE.mk (tail _ CZ)))
  refine DR.self ?_
  refine CZ.ld (fun _ h=>h) (by omega) fun x=>?_
  refine aa.bX (b:=1) ?_
  refine CZ.ld (fun _ h=>h) (by omega) fun y=>?_
  refine ae.eq (dL x y _) ?_
  refine Un.not ?_
  refine Br.mk (fun _=>JE.mk (tail _ CZ)) (fun _=>?_)
  refine DR.self ?_
  refine aa.bX (b:=1) ?_
  refine aa.bX (b:=1) ?_
  refine CZ.swap .here (by omega) (by omega) fun C2 oQ=>?_
  refine aa.bX (b:=1) ?_
  exact aq.mk ⟨j-1,rfl,by omega,oQ⟩ (by simp[aT];omega)
 refine DR.self (aa.cZ (Br.dec (fun hlt=>?_) fun _=>JE.mk no))
 refine hd.ld (fun _ h=>h) (by omega) fun x=>?_
 refine aa.bX (b:=1) ?_
 refine hd.ld (fun _ h=>h) (by omega) fun y=>?_
 intro F
 refine ae.eq (dL x y _) ?_
 refine Un.not ?_
 refine ay.mk ?_
 by_cases e:x<y
 ·rw[decide_eq_true e];exact JE.mk no
 ·rw[decide_eq_false e];exact JE.mk (yes hlt)
theorem D9(h:DT v l0 C){a b p:Nat}(hp:a≤p∧p<b)(hb:b≤l0.length)(aV:l0.length<1152921504606846976):Fc Tryz.prog 296 #[v,.int .i64 (a:Int),.int .i64 (b:Int),.int .i64 (p:Int)] C
  (fun r C'=>(∃m:Nat,r=.int .i64 (m:Int)∧a<m∧m≤b)∧DT v l0 C'):=by
 refine aW fun g=>Ad ?_
 refine DR.self (h.swap .here (by omega) (by omega) fun C1 hd=>?_)
 refine aa.inc ?_
 refine aa.bX (b:=1) ?_
 refine⟨fun vs H=>∃i j:Nat,vs=[.int .i64 (i:Int),.int .i64 (j:Int)]∧a<i∧i≤b∧a≤j∧j<b∧DT v l0 H,fun vs _=>b-aT vs 0,JE.mk ⟨a+1,b-1,rfl,by omega,by omega,by omega,by omega,hd⟩,?_⟩
 clear hd
 rintro w w' H0 ⟨i0,j0,hw,JT,ry,M5,Pr,hd⟩ gs
 simp only[List.cons.injEq,and_true]at hw
 obtain⟨rfl,rfl⟩:=hw
 refine⟨fun vs H=>∃i:Nat,vs=[.int .i64 (i:Int)]∧i0≤i∧i≤b∧DT v l0 H,fun vs _=>b-aT vs 0,JE.mk ⟨i0,rfl,Nat.le_refl _,ry,hd⟩,?_⟩
 clear hd ry
 rintro w H ⟨i,hw,EB,ry,hd⟩ gs
 simp only[List.cons.injEq,and_true]at hw
 subst hw
 intro Xh RQ
 have yes:i≤j0→Xh [.bool true] H:=fun hle=>RQ _ _ fun gs=>Br.yes (aa.inc (aq.mk ⟨i+1,rfl,by omega,by omega,hd⟩ (by simp[aT];omega)))
 have no:Xh [.bool false] H:=by
  refine RQ _ _ fun gs=>Br.no ?_
  refine⟨fun vs H=>∃j:Nat,vs=[.int .i64 (j:Int)]∧a≤j∧j<b∧DT v l0 H,fun vs _=>aT vs 0,JE.mk ⟨j0,rfl,M5,Pr,hd⟩,?_⟩
  rintro w H' ⟨j,hw,Ru,Q2,dm⟩ gs
  simp only[List.cons.injEq,and_true]at hw
  subst hw
  intro Tk LK
  have DC:i≤j→Tk [.bool true] H':=fun hle=>LK _ _ fun gs=>Br.yes (aa.bX (b:=1) (aq.mk ⟨j-1,rfl,by omega,by omega,dm⟩ (by simp[aT];omega)))
  have Mq:Tk [.bool false] H':=by
   refine LK _ _ fun gs=>Br.no ?_
   refine aa.jb (Br.dec (fun _=>bN.here ⟨⟨i,rfl,by omega,ry⟩,dm⟩) (fun hle=>?_))
   refine DR.self (dm.swap .here (by omega) (by omega) fun C2 oQ=>?_)
   refine aa.inc ?_
   refine aa.bX (b:=1) ?_
   exact aq.mk ⟨i+1,j-1,rfl,by omega,by omega,by omega,by omega,oQ⟩ (by simp[aT];omega)
  refine DR.self (aa.CG (Br.dec (fun hle=>?_) fun _=>JE.mk Mq))
  refine dm.ld (fun _ h=>h) (by omega) fun x=>?_
  refine dm.ld (fun _ h=>h) (by omega) fun y=>?_
  intro F
  refine ae.eq (dL x y _) ?_
  refine ay.mk ?_
  by_cases e:x<y
  ·rw[decide_eq_true e];exact JE.mk (DC hle)
  ·rw[decide_eq_false e];exact JE.mk Mq
 refine DR.self (aa.CG (Br.dec (fun hle=>?_) fun _=>JE.mk no))
 refine hd.ld (fun _ h=>h) (by omega) fun x=>?_
 refine hd.ld (fun _ h=>h) (by omega) fun y=>?_
 intro F
 refine ae.eq (dL x y _) ?_
 refine Un.not ?_
 refine ay.mk ?_
 by_cases e:x<y
 ·rw[decide_eq_true e];exact JE.mk no
 ·rw[decide_eq_false e];exact JE.mk (yes hle)
end
end Go.Proofs
set_option maxRecDepth 100000
namespace Go.Proofs
open Go Go.Sx
section
variable {v:Value} {l0:List Int} {C:Hp}
def PQ(v:Value)(l0:List Int)(a b:Nat):Value→Hp→Prop:=fun r C'=>(∃(m:Nat) (t:Bool),r=.tuple #[.int .i64 (m:Int),.bool t]∧a≤m∧m<b)∧DT v l0 C'
theorem KK(h:DT v l0 C){a b p:Nat}(hp:a≤p∧p<b)(hb:b≤l0.length)(aV:l0.length<1152921504606846976):Fc Tryz.prog 297 #[v,.int .i64 (a:Int),.int .i64 (b:Int),.int .i64 (p:Int)] C (PQ v l0 a b):=by
 refine aW fun g=>Ac ?_
 refine DR.self (h.swap .here (by omega) (by omega) fun C1 hd=>?_)
 refine aa.inc ?_
 refine aa.bX (b:=1) ?_
 refine⟨fun vs H=>∃i:Nat,vs=[.int .i64 (i:Int)]∧a<i∧i≤b∧DT v l0 H,fun vs _=>b-aT vs 0,JE.mk ⟨a+1,rfl,by omega,by omega,hd⟩,?_⟩
 clear hd
 rintro w H ⟨i,hw,JT,ry,hd⟩ gs
 simp only[List.cons.injEq,and_true]at hw
 subst hw
 intro O6 zo
 have yes:i<b→O6 [.bool true] H:=fun hle=>zo _ _ fun gs=>Br.yes (aa.inc (aq.mk ⟨i+1,rfl,by omega,by omega,hd⟩ (by simp[aT];omega)))
 have no:O6 [.bool false] H:=by
  refine zo _ _ fun gs=>Br.no ?_
  refine⟨fun vs H=>∃j:Nat,vs=[.int .i64 (j:Int)]∧a≤j∧j<b∧DT v l0 H,fun vs _=>aT vs 0,JE.mk ⟨b-1,rfl,by omega,by omega,hd⟩,?_⟩
  clear hd
  rintro w H ⟨j,hw,M5,Pr,hd⟩ gs
  simp only[List.cons.injEq,and_true]at hw
  subst hw
  intro VD OS
  have DC:i≤j→VD [.bool true] H:=fun hle=>OS _ _ fun gs=>Br.yes (aa.bX (b:=1) (aq.mk ⟨j-1,rfl,by omega,by omega,hd⟩ (by simp[aT];omega)))
  have Mq:VD [.bool false] H:=by
   refine OS _ _ fun gs=>Br.no ?_
   refine aa.jb (Br.dec (fun _=>?_) (fun hle=>?_))
   ·refine DR.self (hd.swap .here (by omega) (by omega) fun C2 oQ=>?_)
    exact bN.here ⟨⟨j,true,rfl,M5,Pr⟩,oQ⟩
   ·refine DR.self (hd.swap .here (by omega) (by omega) fun C2 oQ=>?_)
    refine aa.inc ?_
    refine aa.bX (b:=1) ?_
    refine⟨fun vs H=>∃i j:Nat,vs=[.int .i64 (i:Int),.int .i64 (j:Int)]∧a<i∧i≤b∧a≤j∧j<b∧DT v l0 H,fun vs _=>b-aT vs 0,JE.mk ⟨i+1,j-1,rfl,by omega,by omega,by omega,by omega,oQ⟩,?_⟩
    clear oQ hd JT ry M5 Pr hle DC OS VD zo O6 yes
    rintro w w' H0 ⟨i0,j0,hw,JT,ry,M5,Pr,hd⟩ gs
    simp only[List.cons.injEq,and_true]at hw
    obtain⟨rfl,rfl⟩:=hw
    refine⟨fun vs H=>∃i:Nat,vs=[.int .i64 (i:Int)]∧i0≤i∧i≤b∧DT v l0 H,fun vs _=>b-aT vs 0,JE.mk ⟨i0,rfl,Nat.le_refl _,ry,hd⟩,?_⟩
    clear hd ry
    rintro w H ⟨i,hw,EB,ry,hd⟩ gs
    simp only[List.cons.injEq,and_true]at hw
    subst hw
    intro Xf RN
    have yes:i≤j0→Xf [.bool true] H:=fun hle=>RN _ _ fun gs=>Br.yes (aa.inc (aq.mk ⟨i+1,rfl,by omega,by omega,hd⟩ (by simp[aT];omega)))
    have no:Xf [.bool false] H:=by
     refine RN _ _ fun gs=>Br.no ?_
     refine⟨fun vs H=>∃j:Nat,vs=[.int .i64 (j:Int)]∧a≤j∧j<b∧DT v l0 H,fun vs _=>aT vs 0,JE.mk ⟨j0,rfl,M5,Pr,hd⟩,?_⟩
     rintro w H' ⟨j,hw,Ru,Q2,dm⟩ gs
     simp only[List.cons.injEq,and_true]at hw
     subst hw
     intro Xe RM
     have DC:i≤j→Xe [.bool true] H':=fun hle=>RM _ _ fun gs=>Br.yes (aa.bX (b:=1) (aq.mk ⟨j-1,rfl,by omega,by omega,dm⟩ (by simp[aT];omega)))
     have Mq:Xe [.bool false] H':=by
      refine RM _ _ fun gs=>Br.no ?_
      refine aa.jb (Br.dec (fun _=>?_) (fun hle=>?_))
      ·refine DR.self (dm.swap .here (by omega) (by omega) fun C2 oQ=>?_)
       exact bN.here ⟨⟨j,false,rfl,Ru,Q2⟩,oQ⟩
      ·refine DR.self (dm.swap .here (by omega) (by omega) fun C2 oQ=>?_)
       refine aa.inc ?_
       refine aa.bX (b:=1) ?_
       exact aq.mk ⟨i+1,j-1,rfl,by omega,by omega,by omega,by omega,oQ⟩ (by simp[aT];omega)
     refine DR.self (aa.CG (Br.dec (fun hle=>?_) fun _=>JE.mk Mq))
     refine dm.ld (fun _ h=>h) (by omega) fun x=>?_
     refine dm.ld (fun _ h=>h) (by omega) fun y=>?_
     intro F
     refine ae.eq (dL x y _) ?_
     refine Un.not ?_
     refine ay.mk ?_
     by_cases e:x<y
     ·rw[decide_eq_true e];exact JE.mk Mq
     ·rw[decide_eq_false e];exact JE.mk (DC hle)
    refine DR.self (aa.CG (Br.dec (fun hle=>?_) fun _=>JE.mk no))
    refine hd.ld (fun _ h=>h) (by omega) fun x=>?_
    refine hd.ld (fun _ h=>h) (by omega) fun y=>?_
    intro F
    refine ae.eq (dL x y _) ?_
    refine ay.mk ?_
    by_cases e:x<y
    ·rw[decide_eq_true e];exact JE.mk (yes hle)
    ·rw[decide_eq_false e];exact JE.mk no
  refine DR.self (aa.CG (Br.dec (fun hle=>?_) fun _=>JE.mk Mq))
  refine hd.ld (fun _ h=>h) (by omega) fun x=>?_
  refine hd.ld (fun _ h=>h) (by omega) fun y=>?_
  intro F
  refine ae.eq (dL x y _) ?_
  refine Un.not ?_
  refine ay.mk ?_
  by_cases e:x<y
  ·rw[decide_eq_true e];exact JE.mk Mq
  ·rw[decide_eq_false e];exact JE.mk (DC hle)
 refine DR.self (aa.CG (Br.dec (fun hle=>?_) fun _=>JE.mk no))
 refine hd.ld (fun _ h=>h) (by omega) fun x=>?_
 refine hd.ld (fun _ h=>h) (by omega) fun y=>?_
 intro F
 refine ae.eq (dL x y _) ?_
 refine ay.mk ?_
 by_cases e:x<y
 ·rw[decide_eq_true e];exact JE.mk (yes (by omega))
 ·rw[decide_eq_false e];exact JE.mk no
theorem Cu(h:DT v l0 C){lo hi f:Nat}(hlo:lo≤l0.length)(hb:f+hi≤l0.length)(aV:l0.length<1152921504606846976):Fc Tryz.prog 299 #[v,.int .i64 (lo:Int),.int .i64 (hi:Int),.int .i64 (f:Int)] C (SQ v l0):=by
 refine aW fun g=>Ab ?_
 refine⟨fun vs H=>∃i:Nat,vs=[.int .i64 (i:Int)]∧i≤l0.length∧DT v l0 H,fun vs _=>l0.length-aT vs 0,JE.mk ⟨lo,rfl,hlo,h⟩,?_⟩
 rintro w H ⟨r,hw,hr,hd⟩ gs
 simp only[List.cons.injEq,and_true]at hw
 subst hw
 refine aa.wq (a:=2) ?_
 refine aa.inc ?_
 refine aa.m0 (Br.dec (fun _=>bN.here ⟨rfl,hd⟩) (fun hlt=>?_))
 intro J9 IT
 have go:∀c:Nat,r<c→c<hi→J9 [.int .i64 (c:Int)] H:=fun c hrc Y7=>by
  refine IT _ _ fun gs=>?_
  refine DR.self ?_
  refine aa.dx ?_
  refine hd.ld (fun _ h=>h) (by omega) fun x=>?_
  refine aa.dx ?_
  refine hd.ld (fun _ h=>h) (by omega) fun y=>?_
  refine ae.eq (dL x y _) ?_
  refine Un.not ?_
  refine Br.mk (fun _=>bN.here ⟨rfl,hd⟩) (fun _=>?_)
  refine DR.self ?_
  refine aa.dx ?_
  refine aa.dx ?_
  refine aa.dx ?_
  refine hd.PV .here (i:=f+r) (j:=f+c) (B:=fun k=>aa .num .add (.int .i64 (f:Int)) (.int .i64 (r:Int)) k) (by omega) (by omega) (fun k hk=>aa.dx hk) fun C1 EE=>?_
  exact aq.mk ⟨c,rfl,by omega,EE⟩ (by simp[aT];omega)
 intro Z8 RO
 have stay:Z8 [.bool false] H:=RO _ _ fun gs=>Br.no (JE.mk (go _ (by omega) (by omega)))
 refine DR.self ?_
 refine aa.inc ?_
 refine aa.cZ (Br.dec (fun hc=>?_) fun _=>JE.mk stay)
 refine aa.dx ?_
 refine hd.ld (fun _ h=>h) (by omega) fun x=>?_
 refine aa.dx ?_
 refine aa.inc ?_
 refine hd.ld (fun _ h=>h) (by omega) fun y=>?_
 intro F
 refine ae.eq (dL x y _) ?_
 refine ay.mk ?_
 by_cases e:x<y
 ·rw[decide_eq_true e]
  exact JE.mk (RO _ _ fun gs=>Br.yes (aa.inc (JE.mk (go _ (by omega) hc))))
 ·rw[decide_eq_false e];exact JE.mk stay
theorem H8(h:DT v l0 C){a b:Nat}(hab:a<b)(hb:b≤l0.length)(aV:l0.length<1152921504606846976):Fc Tryz.prog 290 #[v,.int .i64 (a:Int),.int .i64 (b:Int)] C (SQ v l0):=by
 refine aW fun g=>Aj ?_
 refine aa.bX ?_
 refine aa.bX (b:=1) ?_
 refine aa.sS (b:=2) (by simp[aY];omega) (by omega) ?_
 refine⟨fun vs H=>∃q:Int,vs=[.int .i64 q]∧ -1≤q∧q<(b:Int) -a∧DT v l0 H,fun vs _=>Tu vs,JE.mk ⟨(((b-a-1) /2:Nat):Int),rfl,by omega,by omega,h⟩,?_⟩
 rintro w H ⟨q,hw,Ib,QE,hd⟩ gs
 simp only[List.cons.injEq,and_true]at hw
 subst hw
 refine aa.geq (Br.dec (fun h0=>?_) (fun _=>?_))
 ·obtain⟨i,rfl⟩:∃i:Nat,q=i:=⟨q.toNat,by omega⟩
  refine ae.fq (Cu hd (by omega) (by omega) aV) ?_
  rintro w C1 ⟨rfl,EE⟩
  refine aa.gK (c:=(i:Int) -1) rfl (by omega) ?_
  exact aq.mk ⟨(i:Int) -1,rfl,by omega,by omega,EE⟩ (by rw[uv,uv];omega)
 ·refine aa.bX (b:=1) ?_
  refine⟨fun vs H=>∃q:Int,vs=[.int .i64 q]∧ -1≤q∧q<(b:Int) -a∧DT v l0 H,fun vs _=>Tu vs,JE.mk ⟨((b-a-1:Nat):Int),rfl,by omega,by omega,hd⟩,?_⟩
  clear hd
  rintro w H ⟨q,hw,Ib,QE,hd⟩ gs
  simp only[List.cons.injEq,and_true]at hw
  subst hw
  refine aa.geq (Br.dec (fun h0=>?_) (fun _=>bN.here ⟨rfl,hd⟩))
  obtain⟨i,rfl⟩:∃i:Nat,q=i:=⟨q.toNat,by omega⟩
  refine DR.self ?_
  refine aa.dx ?_
  refine aa.dx ?_
  refine hd.swap .here (by omega) (by omega) fun C1 EE=>?_
  refine ae.fq (Cu EE (lo:=0) (by omega) (by omega) aV) ?_
  rintro w C2 ⟨rfl,oQ⟩
  refine aa.gK (c:=(i:Int) -1) rfl (by omega) ?_
  exact aq.mk ⟨(i:Int) -1,rfl,by omega,by omega,oQ⟩ (by rw[uv,uv];omega)
end
section
variable {v:Value} {l0:List Int} {C:Hp}
theorem Tn{a b:Nat}(ha:a<18446744073709551616)(hb:b<18446744073709551616):a^^^b<18446744073709551616:=Nat.xor_lt_two_pow (n:=64) ha hb
theorem Gw(b x:Nat)(hx:x<18446744073709551616):Fc Tryz.prog 301 #[ptr b] [(b,.cells #[.int .u64 (x:Int)] 373 (0,0))]
  (fun r H=>∃y:Nat,y<18446744073709551616∧r=.int .u64 (y:Int)∧H=[(b,.cells #[.int .u64 (y:Int)] 373 (0,0))]):=by
 refine aW fun g=>z9 ?_
 refine DR.self ?_
 refine Nil.ptr (Ld.q ?_)
 refine Nil.ptr (Ld.q ?_)
 refine aa.nF (b:=13) ?_
 refine aa.Np hx (Nat.mod_lt _ (by decide)) ?_
 have h1:=Tn hx (Nat.mod_lt (x<<<13) (show 0<18446744073709551616 by decide))
 generalize x^^^x<<<13%18446744073709551616=x1 at h1
 refine Nil.ptr (St.one (by exact .head _) rfl (by simp) rfl ?_)
 refine DR.self ?_
 refine Nil.ptr (Ld.q ?_)
 refine Nil.ptr (Ld.q ?_)
 refine aa.fD (b:=7) h1 ?_
 have h2:x1>>>7<18446744073709551616:=by rw[Nat.shiftRight_eq_div_pow];omega
 refine aa.Np h1 h2 ?_
 have h3:=Tn h1 h2
 generalize x1^^^x1>>>7=x2 at h3
 refine Nil.ptr (St.one (by exact .head _) rfl (by simp) rfl ?_)
 refine DR.self ?_
 refine Nil.ptr (Ld.q ?_)
 refine Nil.ptr (Ld.q ?_)
 refine aa.nF (b:=17) ?_
 refine aa.Np h3 (Nat.mod_lt _ (by decide)) ?_
 have h4:=Tn h3 (Nat.mod_lt (x2<<<17) (show 0<18446744073709551616 by decide))
 generalize x2^^^x2<<<17%18446744073709551616=x3 at h4
 refine Nil.ptr (St.one (by exact .head _) rfl (by simp) rfl ?_)
 refine Nil.ptr (Ld.q ?_)
 exact bN.here ⟨x3,h4,rfl,rfl⟩
theorem Dj{x:Nat}(hx:x<18446744073709551616)(B:Hp):Rd Tryz.prog 286 #[.int .u64 (x:Int)] B (fun v=>∃r:Nat,pS x r∧v=.int .i64 (r:Int)):=by
 refine aW fun g=>Al ?_
 refine Br.no ?_
 refine ae.rq (wF hx B) ?_
 rintro w hw
 exact bK.mk (.refl _) hw
theorem KM{x:Nat}(h0:0<x)(hx:x<1152921504606846976)(B:Hp):Rd Tryz.prog 300 #[.int .i64 (x:Int)] B (fun v=>∃r:Nat,0<r∧r≤2*x∧v=.int .u64 (r:Int)):=by
 refine aW fun g=>Aa ?_
 refine bf.q ?_
 refine ae.rq (Dj (by omega) B) ?_
 rintro w ⟨r,hr,rfl⟩
 have JQ:0<r:=by
  rcases Nat.eq_zero_or_pos r with e|e
  ·subst e;have:=hr.1;omega
  ·exact e
 have h2:2^(r-1)≤x:=by
  rcases hr.2 with e|e
  ·omega
  ·exact e
 have h3:2^r=2*2^(r-1):=by
  obtain⟨k,rfl⟩:∃k,r=k+1:=⟨r-1,by omega⟩
  rw[Nat.add_sub_cancel,Nat.pow_succ];omega
 refine aa.nF (a:=1) ?_
 have e:1<<<r%18446744073709551616=2^r:=by
  rw[Nat.shiftLeft_eq,Nat.one_mul]
  exact Nat.mod_eq_of_lt (by omega)
 rw[e]
 exact bK.mk (.refl _) ⟨2^r,Nat.two_pow_pos r,by omega,rfl⟩
theorem OU(h:DT v l0 C){a b:Nat}(hab:a<b)(hb:b≤l0.length)(aV:l0.length<1152921504606846976):Fc Tryz.prog 291 #[v,.int .i64 (a:Int),.int .i64 (b:Int)] C (SQ v l0):=by
 refine aW fun g=>Ai ?_
 refine aa.bX ?_
 refine aa.m0 (b:=8) (Br.dec (fun h8=>?_) (fun _=>bN.here ⟨rfl,h⟩))
 refine bf.q ?_
 intro b4 _
 refine St.one (by exact .head _) rfl (by simp) rfl ?_
 refine ae.rq (KM (by omega) (by omega) C) ?_
 rintro w ⟨m,hm0,hm,rfl⟩
 refine aa.sS (b:=4) (by simp[aY];omega) (by omega) ?_
 refine aa.wq (b:=2) ?_
 refine aa.dx ?_
 refine aa.bX (b:=1) ?_
 refine⟨fun vs H=>∃(i x:Nat) (C':Hp),vs=[.int .i64 (i:Int)]∧x<18446744073709551616∧H=(b4,.cells #[.int .u64 (x:Int)] 373 (0,0))::C'∧DT v l0 C',fun vs _=>b-aT vs 0,
  JE.mk ⟨_,b-a,C,rfl,by omega,rfl,h⟩,?_⟩
 rintro w H ⟨i,x,C',hw,hx,rfl,hd⟩ gs
 simp only[List.cons.injEq,and_true]at hw
 subst hw
 refine aa.sS (b:=4) (by simp[aY];omega) (by omega) ?_
 refine aa.wq (b:=2) ?_
 refine aa.dx ?_
 refine aa.inc ?_
 refine aa.CG (Br.dec (fun hle=>?_) (fun _=>bN.mk .tail ⟨rfl,hd⟩))
 refine ae.fn (.left (A:=C')) (Gw b4 x hx) ?_
 rintro w H' ⟨y,hy,rfl,rfl⟩
 refine aa.bX (b:=1) ?_
 refine aa.gY (by simp[aY];omega) (by simp[aY];omega) ?_
 have hand:y&&& (m-1)<m:=by have:=Nat.and_le_right (n:=y) (m:=m-1);omega
 generalize y&&& (m-1)=z at hand
 refine bf.q ?_
 intro J28 Va
 have go:∀o:Nat,o<b-a→J28 [.int .i64 (o:Int)] ([(b4,Obj.cells #[.int .u64 (y:Int)] 373 (0,0))]++C'):=fun o ho=>by
  refine Va _ _ fun gs=>?_
  refine DR.self ?_
  refine aa.dx ?_
  refine aa.dx ?_
  refine hd.swap (.cons .here) (by omega) (by omega) fun C1 EE=>?_
  refine aa.inc ?_
  exact aq.mk ⟨i+1,y,C1,rfl,hy,rfl,EE⟩ (by simp[aT];omega)
 refine aa.m0 (Br.dec (fun hge=>?_) (fun hlt=>JE.mk (go z (by omega))))
 refine aa.bX ?_
 exact JE.mk (go _ (by omega))
def OQ(b:Nat)(C:Hp)(i j:Nat):Value→Hp→Prop:=fun r H=>(r=.tuple #[.int .i64 (i:Int),.int .i64 (j:Int)]∨r=.tuple #[.int .i64 (j:Int),.int .i64 (i:Int)])∧∃z:Int,H=(b,.cells #[.int .i64 z] 3 (0,0))::C
theorem uH(h:DT v l0 C){b:Nat}{z:Int}{i j:Nat}(hi:i<l0.length)(hj:j<l0.length):
  Fc Tryz.prog 305 #[v,.int .i64 (i:Int),.int .i64 (j:Int),ptr b] ((b,.cells #[.int .i64 z] 3 (0,0))::C) (OQ b C i j):=by
 refine aW fun g=>z5 ?_
 refine DR.self ?_
 refine h.ld (fun _ h=>.tail _ h) hj fun x=>?_
 refine h.ld (fun _ h=>.tail _ h) hi fun y=>?_
 refine ae.eq (dL x y _) ?_
 refine Br.mk (fun _=>?_) (fun _=>bN.here ⟨.inl rfl,z,rfl⟩)
 refine Nil.ptr (Ld.q ?_)
 refine aa.add ?_
 refine Nil.ptr (St.one (by exact .head _) rfl (by simp) rfl ?_)
 exact bN.here ⟨.inr rfl,_,rfl⟩
def MQ(b:Nat)(C:Hp)(p:Nat→Prop):Value→Hp→Prop:=fun r H=>(∃m:Nat,r=.int .i64 (m:Int)∧p m)∧∃z:Int,H=(b,.cells #[.int .i64 z] 3 (0,0))::C
theorem Hv(h:DT v l0 C){b:Nat}{z:Int}{i j k:Nat}(hi:i<l0.length)(hj:j<l0.length)(hk:k<l0.length):
  Fc Tryz.prog 303 #[v,.int .i64 (i:Int),.int .i64 (j:Int),.int .i64 (k:Int),ptr b] ((b,.cells #[.int .i64 z] 3 (0,0))::C) (MQ b C fun m=>m=i∨m=j∨m=k):=by
 refine aW fun g=>z7 ?_
 refine ae.fq (uH h hi hj) ?_
 rintro w H ⟨hw,z1,rfl⟩
 obtain⟨i1,j1,rfl,hij⟩:∃i1 j1:Nat,w=.tuple #[.int .i64 (i1:Int),.int .i64 (j1:Int)]∧((i1=i∧j1=j)∨(i1=j∧j1=i)):=by
  rcases hw with rfl|rfl
  ·exact⟨i,j,rfl,.inl ⟨rfl,rfl⟩⟩
  ·exact⟨j,i,rfl,.inr ⟨rfl,rfl⟩⟩
 refine Ext.two ?_
 refine ae.fq (uH h (i:=j1) (j:=k) (by omega) hk) ?_
 rintro w H ⟨hw,z2,rfl⟩
 obtain⟨j2,k2,rfl,Ls⟩:∃j2 k2:Nat,w=.tuple #[.int .i64 (j2:Int),.int .i64 (k2:Int)]∧((j2=j1∧k2=k)∨(j2=k∧k2=j1)):=by
  rcases hw with rfl|rfl
  ·exact⟨_,_,rfl,.inl ⟨rfl,rfl⟩⟩
  ·exact⟨_,_,rfl,.inr ⟨rfl,rfl⟩⟩
 refine Ext.two ?_
 refine ae.fq (uH h (i:=i1) (j:=j2) (by omega) (by omega)) ?_
 rintro w H ⟨hw,z3,rfl⟩
 rcases hw with rfl|rfl
 ·exact Ext.mk rfl (Ext.mk rfl (bN.here ⟨⟨_,rfl,by omega⟩,_,rfl⟩))
 ·exact Ext.mk rfl (Ext.mk rfl (bN.here ⟨⟨_,rfl,by omega⟩,_,rfl⟩))
theorem uL(h:DT v l0 C){b:Nat}{z:Int}{i:Nat}(h0:0<i)(hi:i+1<l0.length)(aV:l0.length<1152921504606846976):
  Fc Tryz.prog 302 #[v,.int .i64 (i:Int),ptr b] ((b,.cells #[.int .i64 z] 3 (0,0))::C) (MQ b C fun m=>i≤m+1∧m≤i+1):=by
 refine aW fun g=>z8 ?_
 refine aa.bX (b:=1) ?_
 refine aa.inc ?_
 refine ae.fq (Hv h (by omega) (by omega) hi) ?_
 rintro w H ⟨⟨m,rfl,hm⟩,z',rfl⟩
 exact bN.here ⟨⟨m,rfl,by omega⟩,z',rfl⟩
theorem NF(h:DT v l0 C){a b:Nat}(hab:a<b)(hb:b≤l0.length)(aV:l0.length<1152921504606846976):
  Rd Tryz.prog 292 #[v,.int .i64 (a:Int),.int .i64 (b:Int)] C (fun r=>∃(p:Nat) (q:Int),r=.tuple #[.int .i64 (p:Int),.int .i64 q]∧a≤p∧p<b):=by
 refine aW fun g=>Ah ?_
 refine aa.bX ?_
 intro b2 _
 refine aa.sS (b:=4) (by simp[aY];omega) (by omega) ?_
 refine aa.wq (b:=1) ?_
 refine aa.dx ?_
 refine aa.sS (b:=4) (by simp[aY];omega) (by omega) ?_
 refine aa.wq (b:=2) ?_
 refine aa.dx ?_
 refine aa.sS (b:=4) (by simp[aY];omega) (by omega) ?_
 refine aa.wq (b:=3) ?_
 refine aa.dx ?_
 intro J13 Ve
 have fin:∀(p:Nat) (z:Int),a≤p→p<b→J13 [.int .i64 (p:Int)] ((b2,.cells #[.int .i64 z] 3 (0,0))::C):=fun p z sM iJ=>by
  refine Ve _ _ fun gs=>?_
  refine Ld.q ?_
  refine aa.oW (Br.dec (fun _=>bK.mk .tail ⟨p,_,rfl,sM,iJ⟩) (fun _=>?_))
  exact aa.oW (Br.dec (fun _=>bK.mk .tail ⟨p,_,rfl,sM,iJ⟩) (fun _=>bK.mk .tail ⟨p,_,rfl,sM,iJ⟩))
 refine aa.m0 (b:=8) (Br.dec (fun h8=>?_) (fun _=>JE.mk (fin _ _ (by omega) (by omega))))
 intro J21 Vd
 have three:∀(x y u:Nat) (z:Int),a≤x∧x<b→a≤y∧y<b→a≤u∧u<b→J21 [.int .i64 (x:Int),.int .i64 (y:Int),.int .i64 (u:Int)] ((b2,.cells #[.int .i64 z] 3 (0,0))::C):=fun x y u z hx hy hu=>by
  refine Vd _ _ _ _ fun gs=>?_
  refine ae.fq (Hv h (by omega) (by omega) (by omega)) ?_
  rintro w H ⟨⟨m,rfl,hm⟩,z',rfl⟩
  exact JE.mk (fin _ _ (by omega) (by omega))
 refine aa.m0 (b:=50) (Br.dec (fun h50=>?_) (fun _=>JE.mk (three _ _ _ _ (by omega) (by omega) (by omega))))
 refine ae.fq (uL h (by omega) (by omega) aV) ?_
 rintro w H ⟨⟨m1,rfl,yo⟩,z1,rfl⟩
 refine ae.fq (uL h (by omega) (by omega) aV) ?_
 rintro w H ⟨⟨m2,rfl,uU⟩,z2,rfl⟩
 refine ae.fq (uL h (by omega) (by omega) aV) ?_
 rintro w H ⟨⟨m3,rfl,hm3⟩,z3,rfl⟩
 exact JE.mk (three _ _ _ _ (by omega) (by omega) (by omega))
theorem NG:∀(N:Nat) {C:Hp} (h:DT v l0 C) {a b:Nat} (hN:b-a≤N) (hab:a≤b) (hb:b≤l0.length) (aV:l0.length<1152921504606846976) (z:Int),Fc Tryz.prog 285 #[v,.int .i64 (a:Int),.int .i64 (b:Int),.int .i64 z] C (SQ v l0):=by
 intro N
 induction N with
 |zero=>
  intro C h a b hN hab hb aV z g
  refine sj (R:=bN _) ?_
  unfold L285
  refine⟨fun vs H=>vs=[.int .i64 (a:Int),.int .i64 (b:Int),.int .i64 z,.bool true,.bool true]∧H=C,fun _ _=>0,JE.mk ⟨rfl,rfl⟩,?_⟩
  rintro w1 w2 w3 w4 w5 H ⟨hw,rfl⟩ gs
  simp only[List.cons.injEq,and_true]at hw
  obtain⟨rfl,rfl,rfl,rfl,rfl⟩:=hw
  refine aa.bX ?_
  refine aa.CG (b:=12) (Br.T ?_)
  refine ae.fq (wM h hab hb aV) ?_
  rintro w C' ⟨rfl,hd⟩
  exact bN.here ⟨rfl,hd⟩
 |succ N ih=>
  intro C h a b hN hab hb aV z g
  refine sj (R:=bN _) ?_
  unfold L285
  refine⟨fun vs H=>∃(a b:Nat) (z:Int) (t1 t2:Bool),vs=[.int .i64 (a:Int),.int .i64 (b:Int),.int .i64 z,.bool t1,.bool t2]∧b-a≤N+1∧a≤b∧b≤l0.length∧DT v l0 H,fun vs _=>aT vs 1-aT vs 0,JE.mk ⟨a,b,z,true,true,rfl,hN,hab,hb,h⟩,?_⟩
  clear h hN hab hb
  rintro w1 w2 w3 w4 w5 H ⟨a,b,z,t1,t2,hw,hN,hab,hb,h⟩ gs
  simp only[List.cons.injEq,and_true]at hw
  obtain⟨rfl,rfl,rfl,rfl,rfl⟩:=hw
  refine aa.bX ?_
  refine aa.CG (b:=12) (Br.dec (fun Gn=>?_) (fun Gn=>?_))
  ·refine ae.fq (wM h hab hb aV) ?_
   rintro w C' ⟨rfl,hd⟩
   exact bN.here ⟨rfl,hd⟩
  refine aa.oW (Br.dec (fun _=>?_) (fun _=>?_))
  ·refine ae.fq (H8 h (by omega) hb aV) ?_
   rintro w C' ⟨rfl,hd⟩
   exact bN.here ⟨rfl,hd⟩
  intro O6 zo
  have VY:∀(z1:Int) H1,DT v l0 H1→O6 [.int .i64 z1] H1:=fun z1 H1 h1=>by
   refine zo _ _ fun gs=>?_
   refine ae.rq (NF h1 (a:=a) (b:=b) (by omega) hb aV) ?_
   rintro w ⟨p,q,rfl,sM,iJ⟩
   refine Ext.two ?_
   intro J25 Vb
   have VX:∀(p:Nat) (q:Int) H2,a≤p→p<b→DT v l0 H2→J25 [.int .i64 (p:Int),.int .i64 q] H2:=fun p q H2 sM iJ h2=>by
    refine Vb _ _ _ fun gs=>?_
    intro J30 U9
    have VW:∀H3,DT v l0 H3→J30 [] H3:=fun H3 h3=>by
     refine U9 _ fun gs=>?_
     intro Tk LK
     have SC:∀(t:Bool),Tk [.bool t] H3:=fun t=>by
      refine LK _ _ fun gs=>?_
      refine Br.mk (fun _=>?_) (fun _=>?_)
      ·refine ae.fq (D9 h3 ⟨sM,iJ⟩ hb aV) ?_
       rintro w C' ⟨⟨m,rfl,yo,uU⟩,hd⟩
       exact aq.mk ⟨m,b,z1,t1,t2,rfl,by omega,by omega,hb,hd⟩ (by simp[aT];omega)
      ·refine ae.fq (KK h3 ⟨sM,iJ⟩ hb aV) ?_
       rintro w C' ⟨⟨m,t,rfl,yo,uU⟩,hd⟩
       refine Ext.two ?_
       refine aa.bX ?_
       refine aa.bX ?_
       refine aa.sS (b:=8) (by simp[aY];omega) (by omega) ?_
       refine aa.cZ (Br.dec (fun _=>?_) (fun _=>?_))
       ·refine aa.m0 ?_
        refine ae.fq (ih hd (a:=a) (b:=m) (by omega) (by omega) (by omega) aV z1) ?_
        rintro w C' ⟨rfl,dm⟩
        refine aa.inc ?_
        exact aq.mk ⟨m+1,b,z1,_,t,rfl,by omega,by omega,hb,dm⟩ (by simp[aT];omega)
       ·refine aa.m0 ?_
        refine aa.inc ?_
        refine ae.fq (ih hd (a:=m+1) (b:=b) (by omega) (by omega) (by omega) aV z1) ?_
        rintro w C' ⟨rfl,dm⟩
        exact aq.mk ⟨a,m,z1,_,t,rfl,by omega,by omega,by omega,dm⟩ (by simp[aT];omega)
     refine DR.self ?_
     refine aa.jb (b:=0) (Br.dec (fun h0=>?_) (fun _=>JE.mk (SC false)))
     refine aa.bX (b:=1) ?_
     refine h3.ld (fun _ h=>h) (by omega) fun x=>?_
     refine h3.ld (fun _ h=>h) (by omega) fun y=>?_
     intro F
     refine ae.eq (dL x y _) ?_
     exact Un.not (ay.mk (JE.mk (SC _)))
    refine dO.and t2 (fun _=>⟨rfl,rfl⟩) rfl fun gs=>?_
    refine dO.and (decide (q=1)) (fun _=>aa.oW ⟨rfl,rfl⟩) rfl fun gs=>?_
    refine Br.mk (fun _=>?_) (fun _=>JE.mk (VW _ h2))
    refine ae.fq (KE h2 (by omega) hb aV) ?_
    rintro w C' ⟨⟨t,rfl⟩,hd⟩
    exact Br.mk (fun _=>bN.here ⟨rfl,hd⟩) (fun _=>JE.mk (VW _ hd))
   refine aa.oW (Br.dec (fun _=>?_) (fun _=>JE.mk (VX p q _ sM iJ h1)))
   refine ae.fq (NA h1 (a:=a) (b:=b) (by omega) hb aV) ?_
   rintro w C' ⟨rfl,hd⟩
   refine aa.bX (b:=1) ?_
   refine aa.bX ?_
   refine aa.bX ?_
   exact JE.mk (VX _ _ _ (by omega) (by omega) hd)
  refine Un.not ?_
  refine Br.mk (fun _=>?_) (fun _=>JE.mk (VY _ _ h))
  refine ae.fq (OU h (a:=a) (b:=b) (by omega) hb aV) ?_
  rintro w C' ⟨rfl,hd⟩
  exact aa.sub (JE.mk (VY _ _ hd))
theorem Ks{l:List Int}(h:aK 77 .u32 v l C)(aV:l.length<1152921504606846976):Fc Tryz.prog 274 #[v] C (fun r C'=>r=.tuple #[]∧∃l',l'.Perm l∧aK 77 .u32 v l' C'):=by
 refine aW fun g=>Am ?_
 refine h.aL ?_
 refine bf.q ?_
 refine ae.rq (Dj (by omega) C) ?_
 rintro w ⟨r,_,rfl⟩
 refine ae.fq (NG l.length h.dt (a:=0) (b:=l.length) (by omega) (by omega) (Nat.le_refl _) aV _) ?_
 rintro w C' ⟨rfl,hd⟩
 exact bN.here ⟨rfl,hd⟩
end
end Go.Proofs
namespace Go.Sx
open Go
section
variable {P:Program} {g:Gh} {F:Fence} {n:Nat} {ops:Array Oper} {Q:Exit→Act→World→Prop} {rest:List Oper} {o:Oper} {a:Act} {fr:Fr} {w:World} {H:Hp}
abbrev yd(ds:List Deferred)(n:Nat)(a:Act)(fr:Fr):Prop:=ca ds n a fr
variable {ds:List Deferred}
theorem yd.put(h:yd ds n a fr){d:Option Nat}(hd:dA n d=true)(v:Value):yd ds n (a.put d v) (bS fr d v):=ca.put h hd v
theorem gL{v0:Value}(hF:∀f,F.fn f)(hg:o.guard=none)(fB:∀c,o.op≠.defer c)(hd:dA n o.dst=true)(ha:yd ds n a fr)(hw:Own g H w)(h:yg P g o (ev fr) H (· =v0))
 (k:∀a',yd ds n a' (bS fr o.dst v0)→wpListIn F 0 P ops Q rest a' w):wpListIn F 0 P ops Q (o::rest) a w:=by
 refine wpListIn_plain hg fun K hK=>⟨fun f _=>hF f,?_⟩
 rw[Oper.semAt_eq _ _ _ fB,ha.eval]
 obtain⟨v,hv,hr,_⟩:=k9 h
 rw[hr w hw]
 subst hv
 exact hK _ _ (k _ (ha.put hd _))
theorem Cq{s:Sem Value}{K:Value→Hp→Prop}(hF:∀f,F.fn f)(hg:o.guard=none)(fB:∀c,o.op≠.defer c)(hd:dA n o.dst=true)(ha:yd ds n a fr)(he:execOp (ev fr) o=(do pure (.value (←s))))
 (h:∃v w' H',s.run P w=.ok v w'∧Own g H' w'∧K v H')
 (k:∀v H' w' a',K v H'→Own g H' w'→yd ds n a' (bS fr o.dst v)→wpListIn F 0 P ops Q rest a' w'):wpListIn F 0 P ops Q (o::rest) a w:=by
 refine wpListIn_plain hg fun K hK=>⟨fun f _=>hF f,?_⟩
 rw[Oper.semAt_eq _ _ _ fB,ha.eval,he]
 obtain⟨v,w',H',hr,ho,hk⟩:=h
 simp only[Sem.run_bind,hr,Result.andThen_ok,Sem.run_pure]
 exact hK _ _ (k v H' w' _ hk ho (ha.put hd _))
theorem GU{s:Sem Value}{K:Value→Hp→Prop}(hF:∀f,F.fn f)(hg:o.guard=none)(fB:∀c,o.op≠.defer c)(hd:dA n o.dst=true)(ha:yd ds n a fr)(hw:Own g H w)(he:execOp (ev fr) o=(do pure (.value (←s))))
 (h:JL P g o (ev fr) H K (fun _ _=>False))
 (k:∀v H' w' a',K v H'→Own g H' w'→yd ds n a' (bS fr o.dst v)→wpListIn F 0 P ops Q rest a' w'):wpListIn F 0 P ops Q (o::rest) a w:=by
 have h1:=qM (lK fr) h w hw
 rw[he]at h1
 refine Cq (g:=g) (K:=K) hF hg fB hd ha he ?_ k
 cases hs:s.run P w with
 |ok v w'=>
  simp only[Sem.run_bind,hs,Result.andThen_ok,Sem.run_pure,kX]at h1
  obtain⟨H',ho,hk⟩:=h1
  exact⟨v,w',H',rfl,ho,hk⟩
 |halt x w'=>
  simp only[Sem.run_bind,hs,Result.andThen]at h1
  cases x<;>simp only[kX]at h1
  obtain⟨_,_,hk⟩:=h1;exact hk.elim
theorem PZ{s:Sem Unit}{K:Value→Hp→Prop}(hF:∀f,F.fn f)(hg:o.guard=none)(fB:∀c,o.op≠.defer c)(hd:dA n o.dst=true)(ha:yd ds n a fr)(hw:Own g H w)(he:execOp (ev fr) o=(do s;pure .skip))
 (h:JL P g o (ev fr) H K (fun _ _=>False))
 (k:∀H' w' a',K undef H'→Own g H' w'→yd ds n a' (bS fr o.dst undef)→wpListIn F 0 P ops Q rest a' w'):wpListIn F 0 P ops Q (o::rest) a w:=by
 have h1:=qM (lK fr) h w hw
 rw[he]at h1
 refine wpListIn_plain hg fun K hK=>⟨fun f _=>hF f,?_⟩
 rw[Oper.semAt_eq _ _ _ fB,ha.eval,he]
 cases hs:s.run P w with
 |ok v w'=>
  simp only[Sem.run_bind,hs,Result.andThen_ok,Sem.run_pure,kX]at h1⊢
  obtain⟨H',ho,hk⟩:=h1
  exact hK _ _ (k H' w' _ hk ho (ha.put hd _))
 |halt x w'=>
  simp only[Sem.run_bind,hs,Result.andThen]at h1
  cases x<;>simp only[kX]at h1
  obtain⟨_,_,hk⟩:=h1;exact hk.elim
theorem r7{m:Nat}{args:List Value}(hl:args.length≤m):yd [] m {tmps:=args.toArray++Array.replicate (m-args.toArray.size) undef,defers:=[]} (gR args 0):=by
 refine⟨rfl,by simp;omega,fun s=>?_⟩
 rw[jC,Array.getD_eq_getD_getElem?,Array.getElem?_append]
 simp only[List.size_toArray,Nat.not_lt_zero,if_false,Nat.sub_zero]
 by_cases hs:s<args.length
 ·simp[hs,List.getD]
 ·rw[if_neg hs,Array.getElem?_replicate]
  have:args.getD s undef=undef:=by simp[List.getD,List.getElem?_eq_none (Nat.le_of_not_lt hs)]
  rw[this]
  split<;>rfl
theorem Own.putObj{g:Gh}{H H':Hp}{w:World}{b:Nat}{o o':Obj}(h:Own g H w)(u:cA b o o' H H'):Own g H' (w.putObj b o'):=by
 have hb:=h.lt u.mem
 exact h.bS u rfl rfl rfl (World.putObj_heap_same hb) fun c hc=>World.putObj_heap_other hc
def Dz{α:Type}(P:Program)(f:FuncId)(cap:Array Value)(B:Hp)(enc:α→Value)(N:Nat)(S:List α→Prop):Prop:=
 ∀(g:Gh) (l:Nat) (G:List α→Hp→Prop),
  (∀ss x A X W,G ss A→ss.length<N→Own g (A++X) W→YieldAt Fence.wide 0 P l #[enc x] W (fun e W'=>e=.returned (.bool true)∧∃A',G (ss++[x]) A'∧Own g (A'++X) W'))→
  ∀A W,G [] A→Own g (A++B) W→CallsIn Fence.wide 0 P f (#[.func (.yield l) #[] #[]]++cap) W (fun e W'=>(∃v,e=.returned v)∧∃ss A',S ss∧G ss A'∧Own g (A'++B) W')
open Classical in
noncomputable def nS(p:Nat→Prop):Nat:=if h:∃k,p k then Classical.choose (iV h)else 0
theorem yW{p:Nat→Prop}{k:Nat}(h:p k):nS p≤k:=by
 unfold nS
 rw[dif_pos ⟨k,h⟩]
 exact(Classical.choose_spec (iV ⟨k,h⟩)).2 k h
theorem uO{p:Nat→Prop}(h:∃k,p k):p (nS p):=by
 unfold nS
 rw[dif_pos h]
 exact(Classical.choose_spec (iV h)).1
theorem yB{c:Code}(J:Nat→Act→World→Prop){k:Nat}(h0:J k a w)
 (round:∀k a w,J k a w→c.wpIn F 0 P (Exit.then (fun a' w'=>∃k',k'<k∧J k' a' w') Q) a w):(Code.loop c).wpIn F 0 P Q a w:=by
 refine wpIn_loop (fun a w=>∃k,J k a w) (fun a w=>nS fun k=>J k a w) ⟨k,h0⟩ fun a w h=>?_
 refine Code.wpIn_mono (fun e a' w' hq=>?_) (round _ a w (uO h))
 cases e with
 |normal=>
  obtain⟨k',hlt,hj⟩:=hq
  exact⟨⟨k',hj⟩,Nat.lt_of_le_of_lt (yW hj) hlt⟩
 |_=>exact hq
end
end Go.Sx
set_option maxRecDepth 100000
namespace Go.Proofs
open Go Go.Sx
open aU
section
variable {es:Array MapEntry} {ck b:Nat} {m:List (Nd×Nat)}
theorem DK(B:Hp):Fc Tryz.prog 251 #[.map (some b)] B
  (fun v H=>∃bm,v=.func (.func 275) #[] #[ptr bm]∧H=(bm,.cells #[.map (some b)] 266 (0,0))::B):=by
 refine aW fun g=>Az ?_
 intro b1 _
 exact bN.here ⟨b1,rfl,rfl⟩
noncomputable abbrev VF:Func:=Tryz.f275
def ZZ(g:Gh)(bi b:Nat)(l:Nat)(es:Array MapEntry)(ck:Nat)(m:List (Nd×Nat))(G:List Nat→Hp→Prop)(B:Hp)(k:Nat)(a:Act)(w:World):Prop:=
 ∃(fr:Fr) (ss:List Nat) (A:Hp) (seen:Array Nat),yd [] 15 a fr∧fr 0=.func (.yield l) #[] #[]∧fr 6=ptr bi∧G ss A∧Own g (A++((bi,.mapIter (some b) ck seen ck)::B)) w∧
  (ss++(c4 es m seen).map Prod.snd).Perm (m.map Prod.snd)∧k=(c4 es m seen).length
theorem yE{bm:Nat}{fz:Nat×Nat}(h:aX nK PM es ck m):Dz Tryz.prog 275 #[ptr bm] [(bm,.cells #[.map (some b)] 266 fz),(b,.map es ck)] u32 m.length
  (fun ss=>ss.Perm (m.map Prod.snd)):=by
 intro g l G hY A W h0 hW
 have hF:∀f,Fence.wide.fn f:=fun _=>trivial
 refine callsIn_of_wp Tryz.func275 rfl trivial ?_
 have ha:=r7 (m:=15) (args:=[.func (.yield l) #[] #[],ptr bm]) (by simp)
 refine wpIn_seq ?_
 refine wpIn_region_lit ?_
 obtain⟨B,hB⟩:∃B,B=[(bm,Obj.cells #[.map (some b)] 266 fz),(b,.map es ck)]:=⟨_,rfl⟩
 rw[←hB]at hW
 have yo:(bm,Obj.cells #[.map (some b)] 266 fz)∈A++B:=by rw[hB];exact List.mem_append_right _ (.head _)
 have uU:(b,Obj.map es ck)∈A++B:=by rw[hB];exact List.mem_append_right _ (.tail _ (.head _))
 have hmB:∀{X:Hp},(b,Obj.map es ck)∈X++B:=by intro X;rw[hB];exact List.mem_append_right _ (.tail _ (.head _))
 rw[←hB]
 have e0:yg Tryz.prog g (fw VF 0 0) (ev (gR [.func (.yield l) #[] #[],ptr bm] 0)) (A++B) (fun x=>x=.map (some b))=Ld (A++B) (ptr bm) (fun x=>x=.map (some b)):=by kernel_rfl
 refine gL (g:=g) (n:=15) (v0:=.map (some b)) hF rfl (by intro c h;cases h) rfl ha hW (e0.mpr (Ld.mk yo rfl rfl)) fun a1 C8=>?_
 refine Cq (g:=g) (n:=15) (s:=Instr.range 266 (.map (some b))) (K:=fun v H=>∃bi,v=ptr bi∧H=(bi,.mapIter (some b) ck #[] ck)::(A++B)) hF rfl (by intro c h;cases h) rfl C8 rfl
  (Sf.run (.inr ⟨b,es,ck,rfl,uU,fun bi _=>⟨bi,rfl,rfl⟩⟩) hW (t:=266) (kt:=161) (e:=77) (by kernel_rfl)) fun v H' w1 a2 hv gS zl=>?_
 obtain⟨bi,rfl,rfl⟩:=hv
 refine wpListIn_nil ?_
 have lF:Own g (A++((bi,.mapIter (some b) ck #[] ck)::B)) w1:=gS.perm (List.perm_middle).symm
 clear gS C8 ha hW yo uU
 refine wpIn_block ?_
 refine yB (ZZ g bi b l es ck m G B) (k:=(c4 es m #[]).length) ⟨_,[],A,#[],zl,rfl,rfl,h0,lF,by rw[qq h];exact .refl _,rfl⟩ ?_
 clear zl lF h0 e0 A
 rintro k a w ⟨fr,ss,A,seen,ha,f0,f6,hG,hw,cK,hk⟩
 refine wpIn_seq ?_
 refine wpIn_region_lit ?_
 have e6:ev fr (.tmp 6)=ptr bi:=f6
 refine Cq (g:=g) (n:=15) (s:=Instr.next (ptr bi) false 0)
  (K:=fun v H=>(c4 es m seen=[]∧v=.tuple #[.bool false]∧H=A++((bi,.mapIter (some b) ck seen ck)::B))∨
   ∃(e:MapEntry) (x:Nd×Nat) (seen':Array Nat),v=.tuple #[.bool true,e.key,e.val]∧e.val=u32 x.2∧(c4 es m seen).Perm (x::c4 es m seen')∧seen'.back?=some e.born∧es.find? (·.born==e.born)=some e∧
    H=A++((bi,.mapIter (some b) ck seen' ck)::B)) hF rfl (by intro c h;cases h) rfl ha ?_
  (PF.run (h.next (bi:=bi) (bm:=b) (seen:=seen) (H:=A++((bi,.mapIter (some b) ck seen ck)::B)) (List.mem_append_right _ (.tail _ (by rw[hB];exact .tail _ (.head _)))) (List.mem_append_right _ (.head _))
   (fun e x seen' he hk hv hp hb hf=>⟨_,(cA.head _).bP A,.inr ⟨e,x,seen',rfl,hv,hp,hb,hf,rfl⟩⟩) (fun hu=>.inl ⟨hu,rfl,rfl⟩)) hw) fun v H' w1 a1 hv gS C8=>?_
 ·rw[e6.symm];rfl
 rcases hv with⟨hu,rfl,rfl⟩|⟨e,x,seen',rfl,UC,hp,Py,Ov,rfl⟩
 ·refine gL (g:=g) (n:=15) (v0:=.bool false) hF rfl (by intro c h;cases h) rfl C8 gS ⟨_,_,rfl,rfl,rfl⟩ fun a2 zl=>?_
  refine wpListIn_nil ?_
  refine wpIn_seq ?_
  refine wpIn_cond_false (by rw[zl.eval];rfl) ?_
  refine wpIn_exit ?_
  simp only[Exit.then,Exit.inBlock,if_true,bodyPost]
  refine⟨zl.defers,_,results_none rfl _ _ _,⟨_,rfl⟩,ss,A,?_,hG,(gS.perm List.perm_middle).tail⟩
  rw[hu,List.map_nil,List.append_nil]at cK
  exact cK
 ·refine gL (g:=g) (n:=15) (v0:=.bool true) hF rfl (by intro c h;cases h) rfl C8 gS ⟨_,_,rfl,rfl,rfl⟩ fun a2 zl=>?_
  refine wpListIn_nil ?_
  refine wpIn_seq ?_
  refine wpIn_cond_true (by rw[zl.eval];rfl) ?_
  refine wpIn_skip ?_
  refine wpIn_block ?_
  refine wpIn_seq ?_
  refine wpIn_region_lit ?_
  refine Cq (g:=g) (n:=15) (s:=Instr.entry (ptr bi)) (K:=fun v H=>v=.tuple #[e.key,e.val]∧H=A++((bi,.mapIter (some b) ck seen' ck)::B)) hF rfl (by intro c h;cases h) rfl zl ?_ ?_ fun v H' w2 a3 hv lF EH=>?_
  ·rw[e6.symm];rfl
  ·obtain⟨v,hr,hv⟩:=JG.run (P:=Tryz.prog) (k:=fun v=>v=.tuple #[e.key,e.val]) ⟨bi,b,ck,seen',e.born,ck,es,e,rfl,List.mem_append_right _ (.head _),Py,List.mem_append_right _ (.tail _ (by rw[hB];exact .tail _ (.head _))),Ov,rfl⟩ gS
   exact⟨v,w1,_,hr,gS,hv,rfl⟩
  obtain⟨rfl,rfl⟩:=hv
  refine gL (g:=g) (n:=15) (v0:=u32 x.2) hF rfl (by intro c h;cases h) rfl EH lF ⟨_,_,rfl,rfl,UC⟩ fun a4 LF=>?_
  refine gL (g:=g) (n:=15) (v0:=u32 x.2) hF rfl (by intro c h;cases h) rfl LF lF (show u32 x.2=u32 x.2 from rfl) fun a5 LD=>?_
  refine wpListIn_nil ?_
  refine wpIn_seq ?_
  refine wpIn_region_lit ?_
  refine gL (g:=g) (n:=15) (v0:=.func (.yield l) #[] #[]) hF rfl (by intro c h;cases h) rfl LD lF f0 fun a6 LC=>?_
  refine gL (g:=g) (n:=15) (v0:=u32 x.2) hF rfl (by intro c h;cases h) rfl LC lF (show u32 x.2=u32 x.2 from rfl) fun a7 PA=>?_
  have hlen:(c4 es m seen).length=(c4 es m seen').length+1:=by rw[hp.length_eq];rfl
  have hlt:ss.length<m.length:=by
   have:=cK.length_eq
   simp only[List.length_append,List.length_map]at this⊢
   omega
  obtain⟨fn,tmps,assign,body,hy,hR⟩:=hY _ x.2 A _ w2 hG hlt lF
  refine wpListIn_plain rfl fun K hK=>⟨fun _ _=>trivial,?_⟩
  rw[Oper.semAt_eq _ _ _ (by intro c h;cases h),PA.eval]
  have hex:∀F7:Fr,F7=bS (bS (bS (bS (bS (bS (bS fr (some 7) (.tuple #[.bool true,e.key,e.val])) (some 8) (.bool true)) (some 9) (.tuple #[e.key,e.val])) (some 10) (u32 x.2)) (some 4) (u32 x.2)) (some 11) (.func (.yield l) #[] #[])) (some 12) (u32 x.2)→(execOp (ev F7) (fw VF 3 2)).run Tryz.prog w2=.ok (.round l fn tmps assign body) w2:=fun F7 WN=>by
   have v11:ev F7 (.tmp 11)=.func (.yield l) #[] #[]:=by rw[WN];rfl
   have VO:ev F7 (.tmp 12)=u32 x.2:=by rw[WN];rfl
   have ZN:execOp (ev F7) (fw VF 3 2)=(do let d ←resolve (ev F7) {callee:=.value (.tmp 11),args:=#[.tmp 12],argTypes:=#[77]} 4;invoke d.target d.args):=rfl
   rw[ZN]
   simp[resolve,Deferred.ofValue,v11,VO,invoke,go_sem,hy]
  refine(congrArg (Oper.uponIn Fence.wide 0 Tryz.prog (fw VF 3 2) a7 K _) (hex _ rfl)).mpr ⟨fun h=>(by cases h),hR.mono ?_⟩
  rintro e' w3 ⟨rfl,A',Zx,Pd⟩
  refine hK _ _ ?_
  have Zc:=PA.put (d:=some 13) rfl (.bool true)
  refine gL (g:=g) (n:=15) (v0:=.bool false) hF rfl (by intro c h;cases h) rfl Zc Pd ⟨_,rfl,rfl⟩ fun a9 Wz=>?_
  refine wpListIn_nil ?_
  refine wpIn_cond_false (by rw[Wz.eval];rfl) ?_
  refine wpIn_skip ?_
  refine⟨(c4 es m seen').length,by omega,_,ss++[x.2],A',seen',Wz,f0,f6,Zx,Pd,?_,rfl⟩
  rw[List.append_assoc]
  exact((hp.map Prod.snd).append_left ss).symm.trans cK
end
end Go.Proofs
set_option maxRecDepth 100000
namespace Go.Proofs
open Go Go.Sx
open aU
section
noncomputable abbrev AF:Func:=Tryz.f284
variable {f:FuncId} {cap:Array Value} {B:Hp} {N:Nat} {S:List Nat→Prop}
noncomputable def cN:Code:=match AF.body with|some (.seq _ (.seq (.seq _ (.block _ (.rangeFunc _ _ c _))) _))=>c|_=>.skip
noncomputable def ew:Code:=match AF.body with|some (.seq _ (.seq (.seq _ (.block _ (.rangeFunc _ _ _ c))) _))=>c|_=>.skip
noncomputable def L8(i:Nat):Oper:=match ew with| .block _ (.region _ ops _)=>(match ops[i]? with|some o=>o|none=>default)|_=>default
def jg(fn:FuncId)(tmps:Array Value)(assign body:Code)(D:Nat):Loop:={state:=.ready,pending:=none,fn,tmps,params:=#[7],assign,body,defers:=D}
def VH(l D bs:Nat)(fn:FuncId)(tmps:Array Value)(assign body:Code)(ss:List Nat)(A:Hp):Prop:=
 ∃v C',A=(l,.loop (jg fn tmps assign body D))::(D,.deferred (some []))::(bs,.cells #[v] 27 (0,0))::C'∧aK 77 .u32 v (iw ss) C'
theorem Jp{g:Gh}{l D bs:Nat}{fn:FuncId}{tmps:Array Value}{fr:Fr}(hsz:tmps.size=13)(fG:∀s,tmps.getD s undef=fr s)(f2:fr 2=ptr bs){ss:List Nat}{x:Nat}{A X:Hp}{W:World}
 (hG:VH l D bs fn tmps cN ew ss A)(hl:ss.length<1099511627776)(hW:Own g (A++X) W):
  YieldAt Fence.wide 0 Tryz.prog l #[u32 x] W (fun e W'=>e=.returned (.bool true)∧∃A',VH l D bs fn tmps cN ew (ss++[x]) A'∧Own g (A'++X) W'):=by
 obtain⟨v,C',rfl,ho⟩:=hG
 have hF:∀f,(Fence.wide.inRound l).fn f:=fun _=>trivial
 have hL:W.heap[l]? =some (.loop (jg fn tmps cN ew D)):=hW.has _ (.head _)
 refine⟨fn,_,cN,ew,run_yield hL rfl,roundIn_of_wpIn trivial ?_⟩
 have ha:yd [] 13 {tmps:=tmps.setIfInBounds 7 (u32 x),defers:=[]} (bS fr (some 7) (u32 x)):=(yd.put (a:={tmps:=tmps,defers:=[]}) (d:=some 7) ⟨rfl,hsz,fG⟩ rfl (u32 x))
 have ha:yd [] 13 {tmps:=(#[7].zip #[u32 x]).foldl (fun tmps (t,a)=>tmps.setIfInBounds t a) tmps,defers:=[]} (bS fr (some 7) (u32 x)):=by simpa using ha
 change Code.wpIn _ 0 Tryz.prog (.region _ #[_] false) _ _ _
 refine wpIn_region_lit ?_
 refine gL (g:=g) (n:=13) (v0:=u32 x) hF rfl (by intro c h;cases h) rfl ha hW rfl fun a1 C8=>?_
 refine wpListIn_nil ?_
 have Za:=run_beginRound (P:=Tryz.prog) hL rfl
 refine⟨_,Za,?_⟩
 have M8:=hW.putObj (o':=.loop {jg fn tmps cN ew D with state:=.busy}) (.head _)
 change Code.wpIn _ 0 Tryz.prog (.block _ (.region _ #[_,_,_,_,_] false)) _ _ _
 refine wpIn_block ?_
 refine wpIn_region_lit ?_
 obtain⟨H1,Vg⟩:∃H1,H1=(l,Obj.loop {jg fn tmps cN ew D with state:=.busy})::(((D,.deferred (some []))::(bs,.cells #[v] 27 (0,0))::C')++X):=⟨_,rfl⟩
 replace M8:Own g H1 (W.putObj l (.loop {jg fn tmps cN ew D with state:=.busy})):=by rw[Vg];exact M8
 have e0:yg Tryz.prog g (L8 0) (ev (bS (bS fr (some 7) (u32 x)) (some 5) (u32 x))) H1 (fun z=>z=v)=Ld H1 (fr 2) (fun z=>z=v):=by kernel_rfl
 refine gL (g:=g) (n:=13) (v0:=v) hF rfl (by intro c h;cases h) rfl C8 M8 (e0.mpr (by rw[f2];exact Ld.mk (by rw[Vg];exact .tail _ (.tail _ (.head _))) rfl rfl)) fun a2 zl=>?_
 refine gL (g:=g) (n:=13) (v0:=u32 x) hF rfl (by intro c h;cases h) rfl zl M8 rfl fun a3 EH=>?_
 have eb:∀K:Value→Hp→Prop,an Tryz.prog 27 1 [(0,.int .u32 (x:Int))] H1 K=JL Tryz.prog g (L8 2) (ev (bS (bS (bS (bS fr (some 7) (u32 x)) (some 5) (u32 x)) (some 8) v) (some 9) (u32 x))) H1 K (fun _ _=>False):=fun K=>by kernel_rfl
 refine GU (g:=g) (n:=13) (s:=_) (K:=fun v H=>∃b,v=.slice (some ⟨b,0,none⟩) 1 1∧H=(b,.cells (az .u32 [(x:Int)]) 77 (0,0))::H1) hF rfl (by intro c h;cases h) rfl EH M8 rfl
  ((eb _).mp (an.int (by kernel_rfl) (by kernel_rfl) (by kernel_rfl) fun b=>⟨b,rfl,rfl⟩)) fun v1 H2 w2 a4 hv Rx LF=>?_
 obtain⟨b,rfl,rfl⟩:=hv
 have hn:(iw ss).length=ss.length:=ah ss
 obtain⟨H2,WM⟩:∃H2,H2=(b,Obj.cells (az .u32 [(x:Int)]) 77 (0,0))::H1:=⟨_,rfl⟩
 rw[←WM]at Rx
 refine GU (g:=g) (n:=13) (s:=_) (K:=fun v' H=>∃C2,aK 77 .u32 v' (iw (ss++[x])) C2∧H=(b,Obj.cells (az .u32 [(x:Int)]) 77 (0,0))::(l,Obj.loop {jg fn tmps cN ew D with state:=.busy})::(D,.deferred (some []))::(bs,.cells #[v] 27 (0,0))::(C2++X))
  hF rfl (by intro c h;cases h) rfl LF Rx (by simp only[execOp,resolve,invoke,builtin];simp[bind,Sem.bind];rfl) ?_ fun v2 H3 w3 a5 hv LG LD=>?_
 ·have e1:∀K:Value→Hp→Prop,App Tryz.prog 77 1 4 (.int .u32 0) H2 v (.slice (some ⟨b,0,none⟩) 1 1) K=
   JL Tryz.prog g (L8 3) (ev (bS (bS (bS (bS (bS fr (some 7) (u32 x)) (some 5) (u32 x)) (some 8) v) (some 9) (u32 x)) (some 10) (.slice (some ⟨b,0,none⟩) 1 1))) H2 K (fun _ _=>False):=fun K=>by kernel_rfl
  refine(e1 _).mp ?_
  rw[WM,Vg]
  refine ho.oh (.cons (.cons (.cons (.cons .left)))) (by exact .head _) (by omega) (by omega) fun v' C2 jQ=>⟨C2,?_,rfl⟩
  rw[cm];exact jQ
 obtain⟨C2,jQ,rfl⟩:=hv
 have es:∀(H:Hp) (K:Value→Hp→Prop),St 1 H (fr 2) v2 (fun H'=>K undef H')=JL Tryz.prog g (L8 4) (ev (bS (bS (bS (bS (bS (bS fr (some 7) (u32 x)) (some 5) (u32 x)) (some 8) v) (some 9) (u32 x)) (some 10) (.slice (some ⟨b,0,none⟩) 1 1)) (some 11) v2)) H K (fun _ _=>False):=fun H K=>by kernel_rfl
 refine PZ (g:=g) (n:=13) (s:=_) (K:=fun _ H=>H=(b,Obj.cells (az .u32 [(x:Int)]) 77 (0,0))::(l,Obj.loop {jg fn tmps cN ew D with state:=.busy})::(D,.deferred (some []))::(bs,.cells #[v2] 27 (0,0))::(C2++X))
  hF rfl (by intro c h;cases h) rfl LD LG rfl ((es _ _).mp ?_) fun H4 w4 a6 hv SX LC=>?_
 ·rw[f2]
  exact St.one (.tail (.tail (.tail (.head _)))) jQ.one (by simp) rfl rfl
 subst hv
 refine wpListIn_nil ?_
 simp only[Exit.inBlock,roundPost]
 refine⟨_,_,run_endRound none (SX.has _ (.tail _ (.head _))),rfl,_,⟨v2,C2,rfl,jQ⟩,?_⟩
 exact(SX.putObj (.tail (.head _))).tail
theorem E6(hg:Dz Tryz.prog f cap B u32 N S)(hc:cC Tryz.prog f=true)(hN:N≤1099511627776):
  Fc Tryz.prog 284 #[.slice none 0 0,.func (.func f) #[] cap] B (fun v H=>∃ss C',S ss∧H=C'++B∧aK 77 .u32 v (iw ss) C'):=by
 intro g w hw
 rw[←callsIn_wide (n:=0)]
 have hF:∀f,Fence.wide.fn f:=fun _=>trivial
 refine callsIn_of_wp_marks Tryz.func284 rfl trivial ?_
 have ha:=r7 (m:=13) (args:=[.slice none 0 0,.func (.func f) #[] cap]) (by simp)
 refine wpIn_seq ?_
 refine wpIn_region_lit ?_
 refine GU (g:=g) (n:=13) (s:=_) (K:=fun v H=>∃bs,v=ptr bs∧H=(bs,.cells #[.slice none 0 0] 27 (0,0))::B) hF rfl (by intro c h;cases h) rfl ha hw rfl (fun bs _=>⟨bs,rfl,rfl⟩) fun v H1 w1 a1 hv gS C8=>?_
 obtain⟨bs,rfl,rfl⟩:=hv
 refine gL (g:=g) (n:=13) (v0:=.slice none 0 0) hF rfl (by intro c h;cases h) rfl C8 gS rfl fun a2 zl=>?_
 refine wpListIn_nil ?_
 refine wpIn_seq ?_
 refine wpIn_seq ?_
 refine wpIn_region_lit ?_
 refine gL (g:=g) (n:=13) (v0:=.func (.func f) #[] cap) hF rfl (by intro c h;cases h) rfl zl gS rfl fun a3 EH=>?_
 refine wpListIn_nil ?_
 refine wpIn_block ?_
 refine wpIn_rangeFunc fun fn hfn=>?_
 have ym:=(gS.alloc (.deferred (some []))).alloc (.loop (jg fn a3.tmps cN ew w1.heap.size))
 have f6:a3.tmps[6]?.getD undef=.func (.func f) #[] cap:=by have:=EH.get 6;rw[Array.getD_eq_getD_getElem?]at this;exact this
 obtain⟨W1,M8⟩:∃W1,W1=(w1.alloc (.deferred (some []))).alloc (.loop (jg fn a3.tmps cN ew w1.heap.size)):=⟨_,rfl⟩
 rw[←M8]at ym
 refine⟨w1.heap.size+1,[{target:=.collected w1.heap.size,args:=#[]}],W1,{target:=.fn (.func f) cap,args:=#[.func (.yield (w1.heap.size+1)) #[] #[]]},W1,f,#[.func (.yield (w1.heap.size+1)) #[] #[]]++cap,W1,?_,?_,fun _ _=>trivial,?_,fun h=>(by cases h),?_⟩
 ·rw[M8];exact run_enterLoop_outer fn a3.tmps #[7] _ _
 ·simp[resolve,Deferred.ofValue,f6,go_sem]
 ·simp[invoke,go_sem]
  exact eo hc _ _
 have hsz:(w1.alloc (.deferred (some []))).heap.size=w1.heap.size+1:=by simp
 rw[hsz]at ym
 refine CallsIn.mono (hg g (w1.heap.size+1) (VH (w1.heap.size+1) w1.heap.size bs fn a3.tmps cN ew) (fun ss x A X W hG hl hW=>Jp EH.size EH.get rfl hG (by omega) hW) [_,_,_] W1 ⟨_,[],rfl,aK.nil⟩ ym) ?_
 rintro e W2 ⟨⟨v0,rfl⟩,ss,A',hS,⟨v,C',rfl,ho⟩,Rx⟩
 refine⟨none,_,run_endLoop (Rx.has _ (.head _)) (by simp[jg]),?_⟩
 have LG:=Rx.putObj (o':=.loop {jg fn a3.tmps cN ew w1.heap.size with state:=.exhausted}) (.head _)
 simp only[Exit.then,Exit.inBlock]
 have LF:yd [{target:=.collected w1.heap.size,args:=#[]}] 13 {a3 with defers:=[{target:=.collected w1.heap.size,args:=#[]}]++a3.defers} (bS (bS (bS (gR [.slice none 0 0,.func (.func f) #[] cap] 0) (some 2) (ptr bs)) (some 4) (.slice none 0 0)) (some 6) (.func (.func f) #[] cap)):=
  ⟨by rw[EH.defers];rfl,EH.size,EH.get⟩
 refine wpIn_seq ?_
 refine wpIn_region_lit ?_
 obtain⟨H3,Vf⟩:∃H3,H3=(w1.heap.size+1,Obj.loop {jg fn a3.tmps cN ew w1.heap.size with state:=.exhausted})::(((w1.heap.size,.deferred (some []))::(bs,.cells #[v] 27 (0,0))::C')++B):=⟨_,rfl⟩
 replace LG:Own g H3 (W2.putObj (w1.heap.size+1) (.loop {jg fn a3.tmps cN ew w1.heap.size with state:=.exhausted})):=by rw[Vf];exact LG
 have e0:yg Tryz.prog g (fw AF 4 0) (ev (bS (bS (bS (gR [.slice none 0 0,.func (.func f) #[] cap] 0) (some 2) (ptr bs)) (some 4) (.slice none 0 0)) (some 6) (.func (.func f) #[] cap))) H3 (fun z=>z=v)=Ld H3 (ptr bs) (fun z=>z=v):=by kernel_rfl
 refine gL (g:=g) (n:=13) (v0:=v) hF rfl (by intro c h;cases h) rfl LF LG (e0.mpr (Ld.mk (by rw[Vf];exact .tail _ (.tail _ (.head _))) rfl rfl)) fun a5 LD=>?_
 refine gL (g:=g) (n:=13) (v0:=v) hF rfl (by intro c h;cases h) rfl LD LG rfl fun a6 LC=>?_
 refine wpListIn_nil ?_
 refine wpIn_ret ?_
 simp only[Exit.then,bodyPostM]
 rw[LC.defers]
 rw[Vf]at LG
 refine⟨by simp,.inl ⟨w1.heap.size,_,rfl,run_takeDeferred (LG.has _ (.tail _ (.head _))),?_⟩⟩
 have SX:=LG.putObj (o':=.deferred none) (.tail (.head _))
 refine⟨_,results_tmp rfl _ _ _,C'++B,SX.tail.tail.tail,v,C'++B,?_,.refl _,ss,C',hS,rfl,ho⟩
 have:=LC.get 4
 rw[this]
 rfl
end
section
variable {f:FuncId} {cap:Array Value} {B:Hp} {N:Nat} {S:List Nat→Prop}
theorem zI(hg:Dz Tryz.prog f cap B u32 N S)(hc:cC Tryz.prog f=true)(hN:N≤1099511627776):
  Fc Tryz.prog 273 #[.func (.func f) #[] cap] B (fun v H=>∃ss C',S ss∧H=C'++B∧aK 77 .u32 v (iw ss) C'):=by
 refine aW fun g=>An ?_
 refine ae.fq (E6 hg hc hN) ?_
 rintro v H h
 exact bN.here h
theorem KG{l':List Int}{ss:List Nat}(h:l'.Perm (iw ss)):∃l:List Nat,l.Perm ss∧l'=iw l:=by
 refine⟨l'.map Int.toNat,?_,?_⟩
 ·have:=h.map Int.toNat
  rw[iw,List.map_map]at this
  have e:(Int.toNat∘(Nat.cast:Nat→Int))=id:=by funext x;simp
  rw[e,List.map_id]at this
  exact this
 ·unfold iw
  rw[List.map_map]
  have:∀x∈l',((Nat.cast:Nat→Int)∘Int.toNat) x=x:=fun x hx=>by
   obtain⟨n,_,rfl⟩:=List.mem_map.1 (h.mem_iff.1 hx)
   simp
  rw[List.map_congr_left this,List.map_id']
theorem DQ(hg:Dz Tryz.prog f cap B u32 N S)(hS:∀ss,S ss→ss.length≤N)(hc:cC Tryz.prog f=true)(hN:N≤1099511627776):
  Fc Tryz.prog 250 #[.func (.func f) #[] cap] B (fun v H=>∃ss l C',S ss∧l.Perm ss∧H=C'++B∧aK 77 .u32 v (iw l) C'):=by
 refine aW fun g=>AA ?_
 refine ae.fq (zI hg hc hN) ?_
 rintro v H ⟨ss,C',hs,rfl,ho⟩
 have hlen:=hS ss hs
 refine ae.fn (.left (A:=B)) (Ks ho (by rw[ah];omega)) ?_
 rintro w C2 ⟨rfl,l',hp,bE⟩
 obtain⟨l,hl,rfl⟩:=KG hp
 exact bN.here ⟨ss,l,C2,hs,hl,rfl,bE⟩
end
theorem Kz{pt n v:Nat}{T:Nd→Option Nat}{C:Hp}(h:kS pt n T C)(hv:v<n)(hinj:∀d d' r,T d=some r→T d'=some r→d=d')(hb:∀d r,T d=some r→r<1048576):
  Fc Tryz.prog 203 #[ptr pt,.int .i64 (v:Int)] C (fun r H=>∃w l N,r=.tuple #[w,.int .i64 0]∧H=N++C∧aK 77 .u32 w (iw l) N∧l.Nodup∧∀r,r∈l↔∃d,T d=some r∧d.v=v):=by
 have h0:=h
 obtain⟨vs,Cs,ms,rfl,hs,ho⟩:=h
 obtain⟨m,hm⟩:∃m,ms[v]? =some m:=⟨_,List.getElem?_eq_getElem (by rw[ho.len];exact hv)⟩
 have he:=ho.nr v m hm
 have hT:∀d:Nd,d.v=v→T d=dn m.l d:=fun d hd=>by rw[ho.T,hd,hm];rfl
 have hmem:∀d r,(d,r)∈m.l↔T d=some r∧d.v=v:=fun d r=>by
  constructor
  ·intro hx
   have hd:=ho.var v m hm _ hx
   exact⟨by rw[hT d hd];exact(fN he.nd).2 hx,hd⟩
  ·rintro⟨h1,h2⟩
   rw[hT d h2]at h1
   exact(fN he.nd).1 h1
 have fB:(m.l.map Prod.snd).Nodup:=by
  refine List.pairwise_map.2 ((List.pairwise_map.1 he.nd).imp_of_mem fun{a b} ha hb' hne e=>hne ?_)
  have h1:=((hmem a.1 a.2).1 ha).1
  have h2:=((hmem b.1 b.2).1 hb').1
  rw[←e]at h2
  exact hinj _ _ _ h1 h2
 have hlen:m.l.length≤1048576:=by
  have:=bH (l':=List.range 1048576) fB fun x hx=>by
   obtain⟨y,hy,rfl⟩:=List.mem_map.1 hx
   exact List.mem_range.2 (hb _ _ ((hmem y.1 y.2).1 hy).1)
  simpa using this
 refine aW fun g=>Ba ?_
 refine ae.eq (iN h0 hv) ?_
 refine aa.fZ (Br.F ?_)
 refine Nil.ptr ?_
 refine ag.mk (Ld.mk zM rfl ?_)
 refine hs.Mu (x:=.map (some m.b)) (by rw[List.getElem?_map,hm];rfl) (fun _ h=>by exact .tail _ (List.mem_append_left _ h)) ?_
 refine ae.fq (DK (b:=m.b) _) ?_
 rintro w H ⟨bm,rfl,rfl⟩
 obtain⟨X,Y,Ze⟩:=List.append_of_mem (nP hm)
 have cK:((bm,Obj.cells #[.map (some m.b)] 266 (0,0))::(pt,.cells #[vs] 265 (0,0))::(Cs++Ee ms)).Perm
   ([(bm,.cells #[.map (some m.b)] 266 (0,0)),(m.b,.map m.es m.ck)]++((pt,.cells #[vs] 265 (0,0))::(Cs++(X++Y)))):=by
  rw[Ze]
  refine .cons _ ?_
  show((pt,_)::(Cs++(X++(m.b,_)::Y))).Perm ((m.b,_)::(pt,_)::(Cs++(X++Y)))
  refine .trans (.cons _ ?_) (.swap _ _ _)
  rw[←List.append_assoc,←List.append_assoc]
  exact List.perm_middle
 refine ae.pre (.perm cK) ?_
 refine ae.fq (DQ (yE he) (fun ss T1=>by rw[T1.length_eq,List.length_map];exact Nat.le_refl _) (by kernel_rfl) (by omega)) ?_
 rintro w H ⟨ss,l,C',T1,hl,rfl,hown⟩
 have vD:l.Perm (m.l.map Prod.snd):=hl.trans T1
 refine bN.mk (jk:=C'++((pt,.cells #[vs] 265 (0,0))::(Cs++Ee ms))) ?_ ⟨w,l,C',rfl,rfl,hown,vD.nodup_iff.2 fB,fun r=>?_⟩
 ·rw[List.append_assoc]
  refine aJ.cv ?_ C'
  exact(aJ.perm cK.symm).trans .tail
 ·rw[vD.mem_iff,List.mem_map]
  constructor
  ·rintro⟨y,hy,rfl⟩;exact⟨y.1,(hmem y.1 y.2).1 hy⟩
  ·rintro⟨d,hd⟩;exact⟨(d,r),(hmem d r).2 hd,rfl⟩
end Go.Proofs
namespace Go.Sx
open Go
section
variable {P:Program} {g:Gh} {H:Hp} {κ β:Type} [DecidableEq κ] {ke:κ→Value} {vr:Value→β→Prop} {es:Array MapEntry} {ck b:Nat} {m:List (κ×β)} {K:Value→Hp→Prop} {KP:List PanicEntry→Hp→Prop}
omit [DecidableEq κ] in
theorem aX.sameKey(h:aX ke vr es ck m){i:Nat}{k:κ}{x:β}(hi:m[i]? =some (k,x)):es.modify i (fun e=>{e with key:=ke k})=es:=by
 apply Array.ext_getElem?
 intro j
 rw[Array.getElem?_modify]
 split
 ·rename_i e;subst e
  cases he:es[i]? with
  |none=>rfl
  |some e0=>rw[Option.map_some,←(h.key i e0 _ he hi).1]
 ·rfl
theorem aX.LY{o:Oper}{ρ:Operand→Value}{t kt e:TypeId}{kd:TypeDesc}{mo ko:Operand}{z:Value}{k:κ}{y0:β}(hk:∀a b,Ca P kt (ke a) (ke b) (decide (a=b)))(hc:∀a,mh P kt (ke a))(hb:∀a,Instr.sameBits 10000 (ke a) (ke a)=true)
 (ho:o.op=.mapEntry t mo ko)(hm':ρ mo=.map (some b))(hk':ρ ko=ke k)(ht:P.underlying t=some (.map kt e))(CY:P.underlying kt=some kd)(Rv:cr kd=true)(hzd:dR P e=some z)(Ye:vr z y0)
 (h:aX ke vr es ck m){c:Obj→Hp}(IE:∀o o',cA b o o' (c o) (c o'))
 (h1:∀es' dw v st,aX ke vr es' dw (if k∈m.map Prod.fst then m else m++[(k,y0)])→(∃e∈es'.toList,e.born=st)→K (.tuple #[v,.int .i64 (st:Int)]) (c (.map es' dw))):kU P g o ρ (c (.map es ck)) K KP:=by
 have Lo:(b,Obj.map es ck)∈c (.map es ck):=(IE _ (.map es ck)).mem
 obtain⟨i,hi,sN⟩:=cJ hzd
 refine kU.ofValue (s:=Instr.mapEntry t (.map (some b)) (ke k)) (by simp only[execOp,ho,hm',hk']) fun w hw=>?_
 have ej:=fun b=>hc k b w
 rcases h.xC hk k with⟨j,x,e0,g1,g2,g3,g4⟩|⟨g1,g2⟩
 ·have gH:=ff (P:=P) CY Rv g4 w
  have hj:=(Array.getElem?_eq_some_iff.1 g1).1
  have hkey:es[j].key=ke k:=(h.key j _ _ (Array.getElem?_eq_getElem hj) g2).1
  have hmem:k∈m.map Prod.fst:=List.mem_map.2 ⟨_,List.mem_of_getElem? g2,rfl⟩
  obtain⟨w',hs,hown⟩:=bG (P:=P) hw (es.modify j fun e=>{e with key:=ke k}) ck (by rw[h.sameKey g2];exact IE _ (.map es ck))
  refine⟨.tuple #[e0.val,.int .i64 (es[j].born:Int)],w',_,?_,hown,h1 es ck e0.val es[j].born (by rw[if_pos hmem];exact h) ⟨es[j],by simp,rfl⟩⟩
  simp[Instr.mapEntry,run_underlying ht,aP hw Lo,ej,gH,hj,Instr.keyThatStays,hkey,hb k,hs,goInt]
 ·have gH:=ff (P:=P) CY Rv g2 w
  obtain⟨w',hs,hown⟩:=bG (P:=P) hw (es.push {key:=ke k,val:=z,born:=ck}) (ck+1) (IE _ _)
  have uU:=h.more (k:=k) g1 Ye
  have e2:fi m k y0=m++[(k,y0)]:=by unfold fi;rw[if_neg g1]
  rw[e2]at uU
  refine⟨.tuple #[z,.int .i64 (ck:Int)],w',_,?_,hown,h1 _ _ z ck (by rw[if_neg g1];exact uU) ⟨_,by rw[Array.toList_push];exact List.mem_append_right _ (.head _),rfl⟩⟩
  simp[Instr.mapEntry,run_underlying ht,aP hw Lo,ej,gH,dU hi sN,hs,goInt]
omit [DecidableEq κ] in
theorem aX.Kq{o:Oper}{ρ:Operand→Value}{t:TypeId}{mo so xo:Operand}{st:Nat}(ho:o.op=.entryStore t mo so xo)(hm':ρ mo=.map (some b))(hs':ρ so=.int .i64 (st:Int))
 (h:aX ke vr es ck m)(hst:∃e∈es.toList,e.born=st)(hv:∀x,vr (ρ xo) x){c:Obj→Hp}(IE:∀o o',cA b o o' (c o) (c o'))
 (h1:∀es',aX ke vr es' ck m→K undef (c (.map es' ck))):kU P g o ρ (c (.map es ck)) K KP:=by
 have Lo:(b,Obj.map es ck)∈c (.map es ck):=(IE _ (.map es ck)).mem
 refine kU.oH (s:=Instr.entryStore t (.map (some b)) (.int .i64 (st:Int)) (ρ xo)) (by simp only[execOp,ho,hm',hs']) fun w hw=>?_
 obtain⟨i,hi⟩:∃i,es.findIdx? (fun e=>(e.born:Int)==(st:Int))=some i:=by
  obtain⟨e,he,rfl⟩:=hst
  rw[←Option.isSome_iff_exists,Array.findIdx?_isSome]
  rw[Array.any_eq_true']
  exact⟨e,by simpa using he,by simp⟩
 obtain⟨w',hs,hown⟩:=bG (P:=P) hw (es.modify i fun e=>{e with val:=ρ xo}) ck (IE _ _)
 have Pw:((es.modify i fun e=>{e with val:=ρ xo}).toList.map MapEntry.born)=es.toList.map MapEntry.born:=by
  apply List.ext_getElem?;intro j
  simp only[List.getElem?_map,Array.getElem?_toList,Array.getElem?_modify]
  split
  ·cases es[j]? <;>rfl
  ·rfl
 refine⟨w',_,?_,hown,h1 _ ⟨by simp[h.len],fun j e x he hx=>?_,h.nd,by rw[Pw];exact h.born,fun e he=>?_⟩⟩
 ·simp only[Instr.entryStore,Sem.run_bind,aP hw Lo,Result.andThen_ok,asInt,asIntOf,Sem.run_pure]
  simp only[hi,hs]
 ·rw[Array.getElem?_modify]at he
  split at he
  ·cases h0:es[j]? with
   |none=>rw[h0]at he;simp at he
   |some e0=>
    rw[h0]at he
    simp only[Option.map_some,Option.some.injEq]at he
    subst he
    exact⟨(h.key j _ _ h0 hx).1,hv _⟩
  ·exact h.key j _ _ he hx
 ·have:e.born∈(es.modify i fun e=>{e with val:=ρ xo}).toList.map MapEntry.born:=List.mem_map_of_mem he
  rw[Pw]at this
  obtain⟨e0,h1,h2⟩:=List.mem_map.1 this
  rw[←h2];exact h.lt e0 h1
end
theorem bj.out{C H:Hp}{c:Hp→Hp}(h:bj C H c)(N:Hp):aJ (c (N++C)) (N++H):=by
 obtain⟨e,F,hp⟩:=h.spec
 refine .perm ((hp (N++C)).trans ?_)
 rw[List.append_assoc]
 refine List.Perm.append_left N ?_
 have:=hp C
 rw[←e]at this
 exact this.symm
end Go.Sx
set_option maxRecDepth 100000
namespace Go.Proofs
open Go Go.Sx
open aU
section
variable {kp:Nat} {K:Kd} {ord ak tr:List Nat} {C:Hp} {S:Nat→aU.Fn}
def vB(N:fb)(r:Nat):Int:=match N r with|some d=>(d.v:Int)|none=> -1
theorem xp{N:fb}{r:Nat}(hl:live N r)(h2:∀d,N r=some d→2≤r):∃lo hi,got N r=[.int .i64 (vB N r),u32 lo,u32 hi]∧∀e,N r=some e→lo=e.lo∧hi=e.hi:=by
 cases h:N r with
 |some d=>
  refine⟨d.lo,d.hi,?_,fun e he=>by cases he;exact⟨rfl,rfl⟩⟩
  rw[jc h (h2 d h)];simp[bu,vB,h]
 |none=>
  have hr:r<2:=by
   rcases hl with hl|⟨d,hd⟩
   ·exact hl
   ·rw[h]at hd;cases hd
  refine⟨r,r,?_,fun e he=>by cases he⟩
  rw[oS hr];simp[vB,h]
theorem vZ(h:cF kp K ord ak tr C){r:Nat}(hr:r<4294967296)(hl:live K.N r)(h2:∀d,K.N r=some d→2≤r)(y:Nat):
  Rd Tryz.prog 204 #[ptr kp,u32 r,.int .i64 (y:Int)] C (· =.tuple #[u32 (pl K.N y r),u32 (ph K.N y r)]):=by
 have h0:=h
 obtain⟨b,rfl,hO⟩:=h
 obtain⟨lo,hi,hg,he⟩:=xp hl h2
 refine aW fun g=>A9 ?_
 refine Nil.ptr (ag.mk ?_)
 refine ae.eq (kD h0 hr) ?_
 intro b5 _
 refine St.whole (r:=got K.N r) (by exact .head _) rfl (cW _ _).1 (cW _ _).2 ?_
 rw[hg]
 refine Ld.f ?_
 refine aa.oW (Br.dec (fun e=>?_) (fun e=>?_))
 ·refine Ld.f ?_
  refine Ld.f ?_
  cases hN:K.N r with
  |none=>simp[vB,hN]at e<;>omega
  |some d=>
   obtain⟨rfl,rfl⟩:=he d hN
   have hv:d.v=y:=by simp[vB,hN]at e;omega
   obtain⟨e1,e2⟩:=KC hN hv
   exact bK.mk .tail (by rw[e1,e2];rfl)
 ·obtain⟨e1,e2⟩:=KD (N:=K.N) (y:=y) (r:=r) fun d hd=>by simp[vB,hd]at e<;>omega
  exact bK.mk .tail (by rw[e1,e2])
def jo(c:Cx):List Value:=[u32 c.r,.int .i64 (c.d.v:Int),u32 c.d.lo,u32 c.d.hi,u32 c.sW,u32 c.sV,u32 c.p5,u32 c.pZ]
theorem jf(c:Cx):∀x∈jo c,x.oneCell'=true:=by intro x hx;simp[jo,u32]at hx;rcases hx with rfl|rfl|rfl|rfl|rfl|rfl|rfl|rfl<;>rfl
structure s6(N:fb)(x y:Nat)(l:List Nat)(all:List Cx):Prop where
 nd:(all.map Cx.r).Nodup
 mem:∀c,c∈all↔c.r∈l∧jH N x y c.r c.d∧c=kI N y c.r c.d
theorem s6.skip{N:fb}{x y r:Nat}{l:List Nat}{all:List Cx}{d:Nd}(h:s6 N x y l all)(hd:N r=some d)(hn:¬jH N x y r d):s6 N x y (l++[r]) all where
 nd:=h.nd
 mem:=fun c=>by
  rw[h.mem,List.mem_append]
  constructor
  ·rintro⟨h1,h2⟩;exact⟨.inl h1,h2⟩
  ·rintro⟨h1|h1,h2,h3⟩
   ·exact⟨h1,h2,h3⟩
   ·simp at h1
    have:=h2.1
    rw[h1,hd]at this;cases this
    rw[h1]at h2;exact absurd h2 hn
theorem s6.more{N:fb}{x y r:Nat}{l:List Nat}{all:List Cx}{d:Nd}(h:s6 N x y l all)(hr:r∉l)(hn:jH N x y r d):s6 N x y (l++[r]) (all++[kI N y r d]) where
 nd:=by
  rw[List.map_append]
  refine List.nodup_append.2 ⟨h.nd,by simp,fun a ha b hb e=>?_⟩
  simp[kI]at hb
  subst e
  obtain⟨c,hc,rfl⟩:=List.mem_map.1 ha
  exact hr (hb▸((h.mem c).1 hc).1)
 mem:=fun c=>by
  rw[List.mem_append,h.mem,List.mem_append,List.mem_singleton,List.mem_singleton]
  constructor
  ·rintro(⟨h1,h2⟩|rfl)
   ·exact⟨.inl h1,h2⟩
   ·exact⟨.inr rfl,hn,rfl⟩
  ·rintro⟨h1|h1,h2,h3⟩
   ·exact .inl ⟨h1,h2,h3⟩
   ·right
    have h4:=h2.1
    rw[h1,hn.1]at h4;cases h4
    exact h3.trans (by rw[h1])
theorem s6.all{N:fb}{x y:Nat}{l:List Nat}{all:List Cx}(h:s6 N x y l all)(hl:∀r d,N r=some d→d.v=x→r∈l):DA N x y all where
 nd:=h.nd
 mem:=fun c=>by
  rw[h.mem]
  exact⟨fun h=>h.2,fun h=>⟨hl _ _ h.1.1 h.1.2.1,h⟩⟩
theorem uK(h:cF kp K ord ak tr C){r:Nat}(hl:live K.N r)(h2:∀d,K.N r=some d→2≤r){H:Hp}{c:Hp→Hp}(hh:bj C H c){g:Gh}{Q:Value→Hp→Prop}{KP:List PanicEntry→Hp→Prop}
 (hk:∀lo hi,got K.N r=[.int .i64 (vB K.N r),u32 lo,u32 hi]→(∀e,K.N r=some e→lo=e.lo∧hi=e.hi)→Q (.agg #[.int .i64 (vB K.N r),u32 lo,u32 hi]) H):ae Tryz.prog g 174 #[ptr kp,u32 r] H Q KP:=by
 have hr:=h.lt hl
 obtain⟨lo,hi,hg,he⟩:=xp hl h2
 refine ae.eh hh (kD h (by omega)) ?_
 have:=hk lo hi hg he
 rw[hg]
 exact this
theorem vg(h:cF kp K ord ak tr C)(hok:Ok K S (lv ak)){x y:Nat}(hx:x<K.n):
  Fc Tryz.prog 134 #[ptr kp,.int .i64 (x:Int),.int .i64 (y:Int)] C (fun r H=>∃all Na,H=Na++C∧aO 203 8 r (all.map jo) Na∧DA K.N x y all∧all.length≤1048576):=by
 have hcap:=h.cap
 have h0:=h
 obtain⟨b,hC,hO⟩:=h
 have Li:∀d r,K.T d=some r↔K.N r=some d:=fun d r=>by rw[hok.mid.gn];exact⟨fun h=>h.1,fun h=>⟨h,fun x=>x⟩⟩
 have two:∀{r d},K.N r=some d→2≤r:=fun hd=>(hok.mid.two hd).1
 refine aW fun g=>BY ?_
 rw[hC]
 refine Nil.ptr (ag.mk (ag.mk ?_))
 refine Ld.q ?_
 refine ae.fq (Kz hO.ut hx (fun d d' r h1 h2=>by rw[Li]at h1 h2;rw[h1]at h2;cases h2;rfl) (fun d r h1=>by have:=(hok.mid.two ((Li d r).1 h1)).2;omega)) ?_
 rintro w H ⟨sl,l,Nr,rfl,rfl,Ge,fB,hmem⟩
 refine Ext.two ?_
 refine Ge.aL ?_
 rw[ah]
 have hl:∀r∈l,∃d,K.N r=some d∧d.v=x:=fun r hr=>by obtain⟨d,h1,h2⟩:=(hmem r).1 hr;exact⟨d,(Li d r).1 h1,h2⟩
 have hlen:l.length≤1048576:=by
  have:=bH (l':=List.range 1048576) fB fun r hr=>by
   obtain⟨d,hd,_⟩:=hl r hr
   have:=(hok.mid.two hd).2
   exact List.mem_range.2 (by omega)
  simpa using this
 refine⟨fun vs H=>∃(v:Value) (i:Nat) (all:List Cx) (Na:Hp),vs=[v,.int .i64 (i:Int)]∧H=Na++(Nr++C)∧i≤l.length∧aO 203 8 v (all.map jo) Na∧s6 K.N x y (l.take i) all∧all.length≤i,
  fun vs _=>l.length-aT vs 1,JE.of (bj.out (C:=b.CT) (.cons (.app .left)) Nr) ⟨_,0,[],[],rfl,by rw[hC];rfl,Nat.zero_le _,aO.nil _ _,⟨by simp,by simp⟩,Nat.le_refl _⟩,?_⟩
 rintro w w' H ⟨v,i,all,Na,hw,rfl,hi,ho,EF,C7⟩ gs
 simp only[List.cons.injEq,and_true]at hw
 obtain⟨rfl,rfl⟩:=hw
 refine aa.cZ (Br.dec (fun hlt=>?_) (fun hge=>?_))
 rotate_left
 ·have:i=l.length:=by omega
  subst this
  rw[List.take_length]at EF
  refine bN.mk (jk:=Na++C) ?_ ⟨all,Na,by rw[hC],ho,EF.all fun r d hd hv=>(hmem r).2 ⟨d,(Li d r).2 hd,hv⟩,by omega⟩
  exact aJ.cv .right Na
 obtain⟨r,rp⟩:∃r,l[i]? =some r:=⟨_,List.getElem?_eq_getElem hlt⟩
 have js:l.take (i+1)=l.take i++[r]:=by rw[List.take_add_one,rp];rfl
 have SJ:r∉l.take i:=fun hm=>by
  have:(l.take (i+1)).Nodup:=fB.sublist (List.take_sublist _ _)
  rw[js]at this
  exact(List.nodup_append.1 this).2.2 r hm r (by simp) rfl
 obtain⟨d,hd,xe⟩:=hl r (List.mem_of_getElem? rp)
 have Oy:=hok.mid.lo hd
 have Oz:=hok.mid.hi hd
 intro O6 zo
 have next:∀v' Jv PG,aO 203 8 v' (Jv.map jo) PG→s6 K.N x y (l.take (i+1)) Jv→Jv.length≤i+1→O6 [v'] (PG++(Nr++C)):=fun v' Jv PG h1 h2 h3=>
  zo _ _ fun gs=>aa.inc (aq.mk ⟨v',i+1,Jv,PG,rfl,rfl,by omega,h1,h2,h3⟩ (by simp[aT];omega))
 refine Ge.ld (x:=(r:Int)) (bR rp) (fun y hy=>List.mem_append_right _ (List.mem_append_left _ hy)) ?_
 refine Nil.ptr (ag.mk ?_)
 refine uK h0 (.inr ⟨d,hd⟩) (fun _ h=>two h) (.app (.app .here)) fun lo hi hg he=>?_
 obtain⟨rfl,rfl⟩:=he d hd
 have SH:vB K.N r=(x:Int):=by simp[vB,hd,xe]
 rw[SH]
 intro R5 _
 refine St.p (by intro z hz;simp[u32]at hz;rcases hz with rfl|rfl|rfl<;>rfl) ?_
 obtain⟨H0,LM⟩:∃H0,H0=(R5,Obj.cells #[.int .i64 (x:Int),u32 d.lo,u32 d.hi] 161 (0,0))::(Na++(Nr++C)):=⟨_,rfl⟩
 have Zz:((R5,Obj.cells [Value.int .i64 (x:Int),u32 d.lo,u32 d.hi].toArray 161 (0,0))::(Na++(Nr++C)))=H0:=LM.symm
 rw[Zz]
 intro Xg RP
 have skip:¬jH K.N x y r d→Xg [.bool true] H0:=fun hn=>RP _ _ fun gs=>Br.yes (JE.of (by rw[LM];exact .tail) (next w all Na ho (by rw[js];exact EF.skip hd hn) (by omega)))
 have take:jH K.N x y r d→Xg [.bool false] H0:=fun hn=>by
  refine RP _ _ fun gs=>Br.no ?_
  rw[LM]
  refine av.q ?_
  refine Build.mk (cs:=jo ⟨r,⟨x,d.lo,d.hi⟩,0,0,0,0⟩) (by kernel_rfl) ?_
  intro b37 _
  refine St.p (jf _) ?_
  refine Ld.f ?_
  refine ae.eq (vZ h0 (by have:=h0.lt Oy;omega) Oy (fun _ h=>two h) y) ?_
  refine Ext.two ?_
  refine ag.mk (St.one (by exact .head _) rfl (by simp[jo]) rfl ?_)
  refine ag.mk (St.one (by exact .head _) rfl (by simp[jo]) rfl ?_)
  refine Ld.f ?_
  refine ae.eq (vZ h0 (by have:=h0.lt Oz;omega) Oz (fun _ h=>two h) y) ?_
  refine Ext.two ?_
  refine ag.mk (St.one (by exact .head _) rfl (by simp[jo]) rfl ?_)
  refine ag.mk (St.one (by exact .head _) rfl (by simp[jo]) rfl ?_)
  have dm:d=⟨x,d.lo,d.hi⟩:=by cases d;simp at xe;subst xe;rfl
  have hcell:jo (kI K.N y r d)=[u32 r,.int .i64 (x:Int),u32 d.lo,u32 d.hi,u32 (pl K.N y d.lo),u32 (ph K.N y d.lo),u32 (pl K.N y d.hi),u32 (ph K.N y d.hi)]:=by
   simp[jo,kI,xe]
  refine av.whole (r:=jo (kI K.N y r d)) (by rw[hcell];exact .head _) rfl ?_
  refine an.one (e:=203) (z:=.agg #[.int .u32 0,.int .i64 0,.int .u32 0,.int .u32 0,.int .u32 0,.int .u32 0,.int .u32 0,.int .u32 0]) (k:=8) (r:=jo (kI K.N y r d)) (by kernel_rfl) (by kernel_rfl) (by kernel_rfl) (by decide) rfl fun xb=>?_
  refine ho.oh (.cons (.cons (.cons .left))) (by exact .head _) rfl (jf _) ⟨_,rfl,rfl⟩ (by simp;omega) (by simp;omega) fun v' PG bE=>?_
  refine JE.of (.skip (.skip .tail)) (next v' (all++[kI K.N y r d]) PG (by rw[List.map_append];exact bE) (by rw[js];exact EF.more SJ hn) (by simp;omega))
 refine DR.of (R:=[(R5,Obj.cells #[.int .i64 (x:Int),u32 d.lo,u32 d.hi] 161 (0,0))]) (by rw[LM];exact .left (A:=[_])) ?_
 refine Nil.ptr (ag.mk (Ld.f ?_))
 have Ww:aJ H0 [(R5,Obj.cells #[.int .i64 (x:Int),u32 d.lo,u32 d.hi] 161 (0,0))]:=by rw[LM];exact .left (A:=[_])
 intro F
 rw[LM]
 refine uK h0 Oy (fun _ h=>two h) (.cons (.app (.app .here))) fun lo1 Q5 hg1 SR=>?_
 rw[←LM]
 refine⟨Ww,yA.mk rfl (aa.fZ (Br.dec (fun hne=>?_) (fun he=>?_)))⟩
 ·refine Nil.ptr (ag.mk (Ld.f ?_))
  intro F2
  rw[LM]
  refine uK h0 Oz (fun _ h=>two h) (.cons (.app (.app .here))) fun lo2 mr yq SP=>?_
  rw[←LM]
  refine⟨Ww,yA.mk rfl (aa.fZ (ay.mk ?_))⟩
  by_cases e2:vB K.N d.hi=(y:Int)
  ·rw[decide_eq_false (by simpa using e2)]
   refine JE.mk (take ⟨hd,xe,.inr ?_⟩)
   cases hN:K.N d.hi with
   |none=>simp[vB,hN]at e2<;>omega
   |some f=>exact⟨f,rfl,by simp[vB,hN]at e2;omega⟩
  ·rw[decide_eq_true (by simpa using e2)]
   refine JE.mk (skip ?_)
   rintro⟨_,_,⟨f,hf,Ra⟩|⟨f,hf,Ra⟩⟩
   ·exact hne (by simp[vB,hf,Ra])
   ·exact e2 (by simp[vB,hf,Ra])
 ·have e1:vB K.N d.lo=(y:Int):=by simpa using he
  refine JE.mk (take ⟨hd,xe,.inl ?_⟩)
  cases hN:K.N d.lo with
  |none=>simp[vB,hN]at e1<;>omega
  |some f=>exact⟨f,rfl,by simp[vB,hN]at e1;omega⟩
end
end Go.Proofs
set_option maxRecDepth 100000
namespace Go.Proofs
open Go Go.Sx
open aU
section
def Tl:Value→Int
 | .int _ z=>z
 |_=>0
abbrev Tr(v:Value)(z:Int):Prop:=v=.int .i64 z
def sg(es:Array MapEntry)(ck:Nat)(ks:List Nd):Prop:=∃m:List (Nd×Int),aX nK Tr es ck m∧m.map Prod.fst=ks
theorem sg.empty:sg #[] 0 []:=⟨[],aX.empty,rfl⟩
theorem sg.of{es:Array MapEntry}{ck:Nat}{m:List (Nd×Int)}(h:aX nK (fun v _=>∃z,v=.int .i64 z) es ck m):sg es ck (m.map Prod.fst):=by
 have hlen:es.toList.length=m.length:=by simpa using h.len
 have hz:((es.toList.zip m).map fun p=>((p.2.1,Tl p.1.val):Nd×Int)).map Prod.fst=m.map Prod.fst:=by
  rw[List.map_map]
  have:(Prod.fst∘fun(p:MapEntry×(Nd×Int))=>((p.2.1,Tl p.1.val):Nd×Int))=Prod.fst∘Prod.snd:=rfl
  rw[this,←List.map_map,List.map_snd_zip (by omega)]
 refine⟨_,⟨?_,fun i e x he hx=>?_,by rw[hz];exact h.nd,h.born,h.lt⟩,hz⟩
 ·simp[h.len]
 ·have hi:=(Array.getElem?_eq_some_iff.1 he).1
  have mr:i<m.length:=by rw[←h.len];exact hi
  have hm:m[i]? =some m[i]:=List.getElem?_eq_getElem mr
  obtain⟨h1,z,h2⟩:=h.key i e _ he hm
  have hx':x=(m[i].1,Tl e.val):=by
   have e1:es.toList[i]? =some e:=by rw[Array.getElem?_toList];exact he
   rw[List.getElem?_map,(List.getElem?_zip_eq_some (z:=(e,m[i]))).2 ⟨e1,hm⟩]at hx
   simpa using hx.symm
  subst hx'
  exact⟨h1,by rw[h2];rfl⟩
theorem Own.sub{g:Gh}{H:Hp}{w:World}(h:Own g H w){y:Nat×Obj}(hy:y∈H):Own g [y] w:=by
 obtain⟨X,Y,rfl⟩:=List.append_of_mem hy
 exact(h.perm List.perm_middle).left (A:=[y])
noncomputable abbrev FF:Func:=Tryz.f136
theorem XL{i:Nat}(hi:i<6):¬Hl .any (lZ FF 10) i 6:=fun h=>by
 have e6:(lZ FF 10)[6]? =some (fw FF 10 6):=by kernel_rfl
 have:=h _ e6
 have hm:(⟨i,.phase⟩:Edge)∈(fw FF 10 6).after:=by
  have ea:(fw FF 10 6).after=#[⟨0,.data⟩,⟨5,.data⟩,⟨3,.data⟩,⟨4,.chain⟩,⟨0,.phase⟩,⟨1,.phase⟩,⟨2,.phase⟩,⟨3,.phase⟩,⟨4,.phase⟩,⟨5,.phase⟩]:=by kernel_rfl
  rw[ea]
  rcases i with _|_|_|_|_|_|i
  all_goals first|omega|simp
 exact this _ hm rfl rfl
end
section
def Dh(ops:Array Oper)(listed:Array Bool):Bool:=(List.range ops.size).all fun j=>match ops[j]? with
 |some oj=> !listed.getD j true||oj.after.toList.all fun e=> !Region.binds .any e||listed.getD e.on true
 |none=>true
theorem fp{ops:Array Oper}{listed:Array Bool}(h:Dh ops listed=true):dZ .any ops listed:=by
 intro j oj hj hl e he hb
 unfold Dh at h
 have h1:=List.all_eq_true.1 h j (List.mem_range.2 (Array.getElem?_eq_some_iff.1 hj).1)
 simp only[hj,hl,Bool.not_true,Bool.false_or]at h1
 have h2:=List.all_eq_true.1 h1 e (Array.mem_toList_iff.2 he)
 rw[hb]at h2
 simpa using h2
theorem Le{g:Gh}{mb nb:Nat}{es:Array MapEntry}{ck:Nat}{ks:List Nd}{d:Nd}(hmk:sg es ck ks){c:Obj→Hp}(IE:∀o o',cA mb o o' (c o) (c o'))(Rl:∀o,(nb,Obj.cells (bu d).toArray 161 (0,0))∈c o){K:Hp→Prop}
 (hk:∀es' dw,sg es' dw (if d∈ks then ks else ks++[d])→K (c (.map es' dw))):
  O0 Tryz.prog g 10 (lZ FF 10) [7,11] [.map (some mb),ptr nb] (c (.map es ck)) K:=by
 have hm:(mb,Obj.map es ck)∈c (.map es ck):=(IE _ (.map es ck)).mem
 have hn:=Rl (.map es ck)
 obtain⟨m,hE,rfl⟩:=hmk
 intro a w hok hvs hw
 simp only[List.map_cons,List.map_nil,List.cons.injEq,and_true]at hvs
 obtain⟨h7,ZD⟩:=hvs
 obtain⟨n,QL⟩:∃n,n=a.tmps.size:=⟨_,rfl⟩
 obtain⟨fr,hfr⟩:∃fr:Fr,fr=fun s=>a.tmps.getD s undef:=⟨_,rfl⟩
 have ha:ca a.defers n a fr:=⟨rfl,QL.symm,fun s=>by rw[hfr]⟩
 have f7:fr 7=.map (some mb):=by rw[hfr];exact h7
 have f11:fr 11=ptr nb:=by rw[hfr];exact ZD
 rw[←QL]at hok
 have ZK:fT n (lZ FF 10).toList=(Nat.blt 58 n&& (Nat.blt 59 n&& (Nat.blt 60 n&& (Nat.blt 61 n&& (Nat.blt 62 n&& (Nat.blt 63 n&& (true&&true))))))):=by kernel_rfl
 rw[ZK]at hok
 simp only[Bool.and_eq_true,Bool.and_true]at hok
 obtain⟨X0,XZ,XY,XX,XW,XV⟩:=hok
 refine wp_region_any (by kernel_rfl) ?_
 obtain⟨z0,SF⟩:∃z0:Int,z0=(dn m d).getD 0:=⟨_,rfl⟩
 obtain⟨S0,PB⟩:∃S0:World→Prop,S0=fun w=>Own g [(nb,Obj.cells (bu d).toArray 161 (0,0))] w∧(Instr.lookup 285 (.map (some mb)) (nK d) false).run Tryz.prog w=.ok (.int .i64 z0) w:=⟨_,rfl⟩
 have look:∀{es':Array MapEntry} {dw:Nat} {m':List (Nd×Int)} {H':Hp} {w':World},aX nK Tr es' dw m'→(mb,Obj.map es' dw)∈H'→Own g H' w'→(dn m' d).getD 0=z0→(Instr.lookup 285 (.map (some mb)) (nK d) false).run Tryz.prog w'=.ok (.int .i64 z0) w':=by
  intro es' dw m' H' w' h1 h2 h3 h4
  have hL:jj Tryz.prog 161 (.int .i64 0) false H' (.map (some mb)) (nK d) (· =.int .i64 z0):=by
   cases hg:dn m' d with
   |some z=>exact aX.Lu (ke:=nK) (k:=d) nO jy h1 h2 hg (by rintro v rfl;rw[hg]at h4;simp at h4;rw[h4];rfl)
   |none=>exact aX.CE (ke:=nK) (k:=d) nO jy h1 h2 hg (by rw[hg]at h4;simp at h4;rw[←h4];rfl)
  obtain⟨v,hr,rfl⟩:=hL.run (P:=Tryz.prog) h3 (t:=285) (kt:=161) (e:=3) (kd:=.struct (Tryz.prog.fieldsOf 161)) (i:=(Tryz.prog.info? 3).get (by kernel_rfl)) (by kernel_rfl) Cz rfl (by kernel_rfl) (by kernel_rfl)
  exact hr
 have oO:=hw.tY
 have s0:S0 {w with drawn:=w.drawn+1}:=by rw[PB];exact⟨Own.sub oO hn,look hE hm oO SF.symm⟩
 have RE:∀{o:Oper} {v:Value} (c:List PanicEntry) (a':Act) (w':World),(fun(e:Exit) (a':Act) (w':World)=>e=.normal∧a'.defers=a.defers∧a'.tmps.size=a.tmps.size∧(∀s,bA (lZ FF 10).toList s=false→a'.tmps.getD s undef=a.tmps.getD s undef)∧∃H',Own g H' w'∧K H') (.panic c) (a'.put o.dst v) w'→
   (fun(e:Exit) (a':Act) (w':World)=>e=.normal∧a'.defers=a.defers∧a'.tmps.size=a.tmps.size∧(∀s,bA (lZ FF 10).toList s=false→a'.tmps.getD s undef=a.tmps.getD s undef)∧∃H',Own g H' w'∧K H') (.panic c) a' w':=by
  rintro _ _ _ _ _ ⟨h,_⟩;cases h
 have hsel:Region.noSelect (lZ FF 10)=true:=by kernel_rfl
 have hkeep:∀i,i<6→∀(j:Nat) (oj:Oper) (w w':World),(lZ FF 10)[j]? =some oj→j≠i→¬kR .any (lZ FF 10) i j→S0 w→(j≠6→S0 w→S0 w')→S0 w':=fun i hi j oj w w' _ _ hno h0 hs=>by
  by_cases e:j=6
  ·subst e;exact absurd (fun oj gh e he hb heq=>hno (.one gh he hb heq)) (XL hi)
  ·exact hs e h0
 refine cO.any (S:=fun j w w'=>j≠6→S0 w→S0 w') ?_
 have hsz:(lZ FF 10).size=7:=by kernel_rfl
 rw[hsz]
 refine cO.take (fp (by kernel_rfl)) (S0:=S0) (i:=0) (oi:=fw FF 10 0) (v:=.map (some mb)) (by kernel_rfl) hsel (by kernel_rfl) (by kernel_rfl) RE (fun _ h _ _=>h) (hkeep 0 (by decide)) (.inl ⟨rfl,fun w hw=>?_⟩) s0 ?_
 ·rw[ha.eval];have:(execOp (ev fr) (fw FF 10 0))=pure (.value (fr 7)):=rfl
  rw[this,f7];rfl
 have C8:=ha.put (d:=some 58) X0 (.map (some mb))
 change cO _ _ _ _ _ 6 _ (a.put (some 58) (.map (some mb))) _
 refine cO.take (fp (by kernel_rfl)) (S0:=S0) (i:=1) (oi:=fw FF 10 1) (v:=nK d) (by kernel_rfl) hsel (by kernel_rfl) (by kernel_rfl) RE (fun _ h _ _=>h) (hkeep 1 (by decide)) (.inl ⟨rfl,fun w hw=>?_⟩) s0 ?_
 ·rw[C8.eval]
  have e:yg Tryz.prog g (fw FF 10 1) (ev (bS fr (some 58) (.map (some mb)))) [(nb,Obj.cells (bu d).toArray 161 (0,0))] (fun v=>v=nK d)=av 3 [(nb,Obj.cells (bu d).toArray 161 (0,0))] (fr 11) (fun v=>v=nK d):=by kernel_rfl
  obtain⟨v,rfl,hr,_⟩:=k9 (e.mpr (by rw[f11];exact av.q rfl))
  rw[PB]at hw
  exact hr _ hw.1
 have zl:=C8.put (d:=some 59) XZ (nK d)
 change cO _ _ _ _ _ 5 _ ((a.put (some 58) (.map (some mb))).put (some 59) (nK d)) _
 refine cO.take (fp (by kernel_rfl)) (S0:=S0) (i:=2) (oi:=fw FF 10 2) (v:=.int .i64 z0) (by kernel_rfl) hsel (by kernel_rfl) (by kernel_rfl) RE (fun _ h _ _=>h) (hkeep 2 (by decide)) (.inl ⟨rfl,fun w hw=>?_⟩) s0 ?_
 ·rw[zl.eval]
  have e:execOp (ev (bS (bS fr (some 58) (.map (some mb))) (some 59) (nK d))) (fw FF 10 2)=(do pure (.value (←Instr.lookup 285 (.map (some mb)) (nK d) false))):=rfl
  rw[PB]at hw
  rw[e]
  simp only[Sem.run_bind,hw.2,Result.andThen_ok,Sem.run_pure]
 have EH:=zl.put (d:=some 60) XY (.int .i64 z0)
 change cO _ _ _ _ _ 4 _ (((a.put (some 58) (.map (some mb))).put (some 59) (nK d)).put (some 60) (.int .i64 z0)) _
 refine cO.take (fp (by kernel_rfl)) (S0:=S0) (i:=3) (oi:=fw FF 10 3) (v:=.int .i64 (IntKind.i64.wrap (z0+1))) (by kernel_rfl) hsel (by kernel_rfl) (by kernel_rfl) RE (fun _ h _ _=>h) (hkeep 3 (by decide)) (.inl ⟨rfl,fun w hw=>?_⟩) s0 ?_
 ·rw[EH.eval]
  have e:yg Tryz.prog g (fw FF 10 3) (ev (bS (bS (bS fr (some 58) (.map (some mb))) (some 59) (nK d)) (some 60) (.int .i64 z0))) [(nb,Obj.cells (bu d).toArray 161 (0,0))] (fun v=>v=.int .i64 (IntKind.i64.wrap (z0+1)))=aa .num .add (.int .i64 z0) (.int .i64 1) (fun v=>v=.int .i64 (IntKind.i64.wrap (z0+1))):=by kernel_rfl
  obtain⟨v,rfl,hr,_⟩:=k9 (e.mpr (aa.add rfl))
  rw[PB]at hw
  exact hr _ hw.1
 have LF:=EH.put (d:=some 61) XX (.int .i64 (IntKind.i64.wrap (z0+1)))
 change cO _ _ _ _ _ 3 _ ((((a.put (some 58) (.map (some mb))).put (some 59) (nK d)).put (some 60) (.int .i64 z0)).put (some 61) (.int .i64 (IntKind.i64.wrap (z0+1)))) _
 generalize (((a.put (some 58) (.map (some mb))).put (some 59) (nK d)).put (some 60) (.int .i64 z0)).put (some 61) (.int .i64 (IntKind.i64.wrap (z0+1)))=a4 at LF
 refine cO.all (rs:=[4]) (by kernel_rfl) (by simp) fun i hi=>?_
 simp only[List.mem_singleton]at hi
 subst hi
 have e4:(lZ FF 10)[4]? =some (fw FF 10 4):=by kernel_rfl
 unfold wpOp
 rw[e4]
 simp only
 rw[if_pos (show Region.wanted (fw FF 10 4) (yielded (lZ FF 10) a4.tmps)=true from rfl)]
 refine .inl ?_
 show(fw FF 10 4).upon Tryz.prog a4 _ _ ((execOp a4.eval (fw FF 10 4)).run Tryz.prog _)
 rw[LF.eval]
 refine kX.upon (g:=g) (KP:=fun _ _=>False) (aX.LY (K:=fun v H'=>∃es' dw v0 st,aX nK Tr es' dw (if d∈m.map Prod.fst then m else m++[(d,0)])∧(∃e∈es'.toList,e.born=st)∧H'=c (.map es' dw)∧v=.tuple #[v0,.int .i64 (st:Int)])
  (t:=285) (kt:=161) (e:=3) (z:=.int .i64 0) (k:=d) (y0:=(0:Int)) nO jy CC (o:=fw FF 10 4) (mo:=.tmp 58) (ko:=.tmp 59) rfl rfl rfl (by kernel_rfl) Cz rfl (by kernel_rfl) rfl hE IE
  (fun es' dw v st h1 h2=>⟨es',dw,v,st,h1,h2,rfl,rfl⟩) _ oO) ?_ (fun _ _ _ _ h=>h.elim)
 rintro v H1 w1 gS ⟨n7,mB,v0,st,Nh,hst,rfl,rfl⟩
 have uS:(nb,Obj.cells (bu d).toArray 161 (0,0))∈c (.map n7 mB):=Rl _
 have yo:(mb,Obj.map n7 mB)∈c (.map n7 mB):=(IE _ (.map n7 mB)).mem
 have s1:S0 w1:=by
  rw[PB]
  refine⟨Own.sub gS uS,look Nh yo gS ?_⟩
  rw[SF]
  split
  ·rfl
  ·rename_i dm
   have e1:=gF.2 dm
   have e2:dn (m++[(d,0)]) d=some 0:=(fN (by
    have:=Nh.nd;rw[if_neg dm]at this;exact this)).2 (by simp)
   rw[e1,e2];rfl
 refine⟨fun _ _=>s1,?_⟩
 have LD:=LF.put (d:=some 62) XW (.tuple #[v0,.int .i64 (st:Int)])
 change cO _ _ _ _ _ 2 _ (a4.put (some 62) (.tuple #[v0,.int .i64 (st:Int)])) _
 generalize a4.put (some 62) (.tuple #[v0,.int .i64 (st:Int)])=a5 at LD
 refine cO.take (fp (by kernel_rfl)) (S0:=S0) (i:=5) (oi:=fw FF 10 5) (v:=.int .i64 (st:Int)) (by kernel_rfl) hsel (by kernel_rfl) (by kernel_rfl) RE (fun _ h _ _=>h) (hkeep 5 (by decide)) (.inl ⟨rfl,fun w hw=>?_⟩) s1 ?_
 ·rw[LD.eval]
  obtain⟨v,rfl,hr,_⟩:=k9 (P:=Tryz.prog) (g:=g) (o:=fw FF 10 5) (H:=[(nb,Obj.cells (bu d).toArray 161 (0,0))]) (k:=fun v=>v=.int .i64 (st:Int))
   (ρ:=ev (bS (bS (bS (bS (bS fr (some 58) (.map (some mb))) (some 59) (nK d)) (some 60) (.int .i64 z0)) (some 61) (.int .i64 (IntKind.i64.wrap (z0+1)))) (some 62) (.tuple #[v0,.int .i64 (st:Int)]))) ⟨_,_,rfl,rfl,rfl⟩
  rw[PB]at hw
  exact hr _ hw.1
 have LC:=LD.put (d:=some 63) XV (.int .i64 (st:Int))
 change cO _ _ _ _ _ 1 _ (a5.put (some 63) (.int .i64 (st:Int))) _
 generalize a5.put (some 63) (.int .i64 (st:Int))=a6 at LC
 refine cO.all (rs:=[6]) (by kernel_rfl) (by simp) fun i hi=>?_
 simp only[List.mem_singleton]at hi
 subst hi
 have e6:(lZ FF 10)[6]? =some (fw FF 10 6):=by kernel_rfl
 unfold wpOp
 rw[e6]
 simp only
 rw[if_pos (show Region.wanted (fw FF 10 6) (yielded (lZ FF 10) a6.tmps)=true from rfl)]
 refine .inl ?_
 show(fw FF 10 6).upon Tryz.prog a6 _ _ ((execOp a6.eval (fw FF 10 6)).run Tryz.prog _)
 rw[LC.eval]
 refine kX.upon (g:=g) (KP:=fun _ _=>False) (aX.Kq (vr:=fun v _=>∃z:Int,v=.int .i64 z) (K:=fun _ H'=>∃es',aX nK (fun v _=>∃z:Int,v=.int .i64 z) es' mB (if d∈m.map Prod.fst then m else m++[(d,0)])∧H'=c (.map es' mB))
  (o:=fw FF 10 6) (t:=285) (mo:=.tmp 58) (so:=.tmp 63) (xo:=.tmp 61) rfl rfl rfl (Nh.mono fun v z h=>⟨z,h⟩) hst (fun _=>⟨_,rfl⟩) IE
  (fun es' h1=>⟨es',h1,rfl⟩) _ gS) ?_ (fun _ _ _ _ h=>h.elim)
 rintro v H2 w2 lF ⟨m4,zq,rfl⟩
 refine⟨fun h=>absurd rfl h,?_⟩
 have PA:ca a.defers n a6 _:=LC
 change cO _ _ _ _ _ 0 _ a6 _
 refine cO.done (by kernel_rfl) ⟨rfl,PA.defers,by rw[PA.size,QL],fun s hs=>?_,_,lF,hk m4 mB ?_⟩ 0
 ·have eD:bA (lZ FF 10).toList s=(Nat.beq s 58||(Nat.beq s 59||(Nat.beq s 60||(Nat.beq s 61||(Nat.beq s 62||(Nat.beq s 63||(false||false))))))):=by kernel_rfl
  rw[eD]at hs
  simp only[Bool.or_eq_false_iff]at hs
  rw[PA.get]
  simp only[bS,hs,cond_false]
  rw[hfr]
 ·have:=sg.of zq
  have e:(if d∈m.map Prod.fst then m else m++[(d,(0:Int))]).map Prod.fst=if d∈m.map Prod.fst then m.map Prod.fst else m.map Prod.fst++[d]:=by
   split<;>simp
  rw[e]at this
  exact this
end
section
variable {kp:Nat} {K:Kd} {ord ak tr:List Nat} {C:Hp} {S:Nat→aU.Fn}
theorem Jh{H:Hp}(a b:Nd){K:Value→Hp→Prop}(h:∀x,K (.slice (some ⟨x,0,none⟩) 2 2) ((x,.cells (rows [bu a,bu b]) 161 (0,0))::H)):
  an Tryz.prog 286 2 [(0,nK a),(1,nK b)] H K:=by
 refine⟨rows [bu a,bu b],161,3,.agg #[.int .i64 0,.int .u32 0,.int .u32 0],by kernel_rfl,by kernel_rfl,by kernel_rfl,by decide,?_,fun x _=>h x⟩
 have e1:Array.range (2*3)=#[0,1,2,3,4,5]:=rfl
 simp[Instr.fill,Value.cells,nK,bu,e1,rows,u32]
def fI(K:Kd)(x:Nat)(l:List Cx)(ks:List Nd)(m:List Nd):Prop:=m.Nodup∧∀k,k∈m↔((∃c∈l,k∈keys x c)∨k∈ks)∧K.T k=none∧k.lo≠k.hi
theorem fI.step{x:Nat}{l:List Cx}{ks m:List Nd}{d:Nd}(h:fI K x l ks m)(hd:K.T d=none∧d.lo≠d.hi):fI K x l (ks++[d]) (if d∈m then m else m++[d]):=by
 obtain⟨h1,h2⟩:=h
 constructor
 ·split
  ·exact h1
  ·rename_i hn
   exact List.nodup_append.2 ⟨h1,by simp,fun a ha b hb e=>by simp at hb;subst hb;subst e;exact hn ha⟩
 ·intro k
  by_cases hm:d∈m
  ·rw[if_pos hm,h2,List.mem_append,List.mem_singleton]
   constructor
   ·rintro⟨h3|h3,h4⟩
    ·exact⟨.inl h3,h4⟩
    ·exact⟨.inr (.inl h3),h4⟩
   ·rintro⟨h3|h3|rfl,h4⟩
    ·exact⟨.inl h3,h4⟩
    ·exact⟨.inr h3,h4⟩
    ·exact(h2 _).1 hm
  ·rw[if_neg hm,List.mem_append,List.mem_singleton,h2,List.mem_append,List.mem_singleton]
   constructor
   ·rintro(⟨h3|h3,h4⟩|rfl)
    ·exact⟨.inl h3,h4⟩
    ·exact⟨.inr (.inl h3),h4⟩
    ·exact⟨.inr (.inr rfl),hd⟩
   ·rintro⟨h3|h3|rfl,h4⟩
    ·exact .inl ⟨.inl h3,h4⟩
    ·exact .inl ⟨.inr h3,h4⟩
    ·exact .inr rfl
theorem fI.skip{x:Nat}{l:List Cx}{ks m:List Nd}{d:Nd}(h:fI K x l ks m)(hd:¬(K.T d=none∧d.lo≠d.hi)):fI K x l (ks++[d]) m:=by
 obtain⟨h1,h2⟩:=h
 refine⟨h1,fun k=>?_⟩
 rw[h2,List.mem_append,List.mem_singleton]
 constructor
 ·rintro⟨h3|h3,h4⟩
  ·exact⟨.inl h3,h4⟩
  ·exact⟨.inr (.inl h3),h4⟩
 ·rintro⟨h3|h3|rfl,h4⟩
  ·exact⟨.inl h3,h4⟩
  ·exact⟨.inr h3,h4⟩
  ·exact absurd h4 hd
theorem fI.pT{x:Nat}{l:List Cx}{c:Cx}{m:List Nd}(h:fI K x l (keys x c) m):fI K x (l++[c]) [] m:=by
 obtain⟨h1,h2⟩:=h
 refine⟨h1,fun k=>?_⟩
 rw[h2]
 constructor
 ·rintro⟨⟨c',hc,hk⟩|h3,h4⟩
  ·exact⟨.inl ⟨c',List.mem_append_left _ hc,hk⟩,h4⟩
  ·exact⟨.inl ⟨c,by simp,h3⟩,h4⟩
 ·rintro⟨⟨c',hc,hk⟩|h3,h4⟩
  ·rcases List.mem_append.1 hc with hc|hc
   ·exact⟨.inl ⟨c',hc,hk⟩,h4⟩
   ·simp at hc;subst hc;exact⟨.inr hk,h4⟩
  ·cases h3
theorem IY(h:cF kp K ord ak tr C){x:Nat}(hx:x<K.n){v:Value}{all:List Cx}{Na:Hp}(ha:aO 203 8 v (all.map jo) Na)(hlen:all.length≤1048576):
  Rd Tryz.prog 136 #[ptr kp,.int .i64 (x:Int),v] (Na++C) (fun r=>∃made,r=.int .i64 ((made.length:Nat):Int)∧Made K x all made):=by
 have h0:=h
 obtain⟨b,hC,hO⟩:=h
 refine aW fun g=>BW ?_
 intro mb _
 refine ha.aL ?_
 rw[List.length_map]
 refine⟨fun vs H=>∃(i:Nat) (es:Array MapEntry) (ck:Nat) (m:List Nd),vs=[.int .i64 (i:Int)]∧H=(mb,.map es ck)::(Na++C)∧i≤all.length∧sg es ck m∧fI K x (all.take i) [] m,
  fun vs _=>all.length-aT vs 0,JE.mk ⟨0,_,_,[],rfl,rfl,Nat.zero_le _,sg.empty,by simp,by simp⟩,?_⟩
 rintro w H ⟨i,es,ck,m,hw,rfl,hi,hmk,zb⟩ gs
 simp only[List.cons.injEq,and_true]at hw
 subst hw
 refine aa.cZ (Br.dec (fun hlt=>?_) (fun hge=>?_))
 rotate_left
 ·have:i=all.length:=by omega
  subst this
  rw[List.take_length]at zb
  obtain⟨m',he,rfl⟩:=hmk
  refine aX.HC he (.head _) ?_
  refine bK.mk .tail ⟨m'.map Prod.fst,by rw[List.length_map],zb.1,fun k=>?_⟩
  rw[zb.2]
  constructor
  ·rintro⟨h3|h3,h4⟩
   ·exact⟨h3,h4⟩
   ·cases h3
  ·rintro⟨h3,h4⟩;exact⟨.inl h3,h4⟩
 obtain⟨c,oA⟩:∃c,all[i]? =some c:=⟨_,List.getElem?_eq_getElem hlt⟩
 have js:all.take (i+1)=all.take i++[c]:=by rw[List.take_add_one,oA];rfl
 refine ha.CI (r:=jo c) (by rw[List.getElem?_map,oA];rfl) (fun y hy=>.tail _ (List.mem_append_left _ hy)) ?_
 intro VC _
 refine St.p (jf _) ?_
 refine Ld.f ?_
 refine Ld.f ?_
 refine Build.mk (cs:=bu ⟨x,c.sW,c.p5⟩) (by kernel_rfl) ?_
 refine Ld.f ?_
 refine Ld.f ?_
 refine Build.mk (cs:=bu ⟨x,c.sV,c.pZ⟩) (by kernel_rfl) ?_
 refine Jh _ _ fun xb=>?_
 refine aA.mk ?_
 refine⟨fun vs H=>∃(j:Nat) (es:Array MapEntry) (ck:Nat) (m:List Nd),vs=[.int .i64 (j:Int)]∧H=(xb,.cells (rows [bu ⟨x,c.sW,c.p5⟩,bu ⟨x,c.sV,c.pZ⟩]) 161 (0,0))::(mb,.map es ck)::(Na++C)∧j≤2∧sg es ck m∧fI K x (all.take i) ((keys x c).take j) m,
  fun vs _=>2-aT vs 0,JE.of (.cons .tail) ⟨0,es,ck,m,rfl,rfl,Nat.zero_le _,hmk,zb⟩,?_⟩
 clear hmk zb
 rintro w H ⟨j,es,ck,m,hw,rfl,hj,hmk,zb⟩ gs
 simp only[List.cons.injEq,and_true]at hw
 subst hw
 refine aa.cZ (b:=2) (Br.dec (fun eC=>?_) (fun hge=>?_))
 rotate_left
 ·have:j=2:=by omega
  subst this
  refine aa.inc ?_
  refine aq.of .tail ⟨i+1,es,ck,m,rfl,rfl,by omega,hmk,?_⟩ (by simp[aT];omega)
  rw[js]
  exact fI.pT zb
 obtain⟨d,CZ,xe⟩:∃d,(keys x c)[j]? =some d∧d.v=x:=by
  rcases j with _|_|j
  ·exact⟨_,rfl,rfl⟩
  ·exact⟨_,rfl,rfl⟩
  ·omega
 have V8:(keys x c).take (j+1)=(keys x c).take j++[d]:=by rw[List.take_add_one,CZ];rfl
 have hrow:[bu ⟨x,c.sW,c.p5⟩,bu ⟨x,c.sV,c.pZ⟩][j]? =some (bu d):=by
  have:[bu ⟨x,c.sW,c.p5⟩,bu ⟨x,c.sV,c.pZ⟩]=(keys x c).map bu:=rfl
  rw[this,List.getElem?_map,CZ];rfl
 intro Z9 U8
 have next:∀es' dw m' H',sg es' dw m'→fI K x (all.take i) ((keys x c).take (j+1)) m'→aJ H' ((xb,.cells (rows [bu ⟨x,c.sW,c.p5⟩,bu ⟨x,c.sV,c.pZ⟩]) 161 (0,0))::(mb,.map es' dw)::(Na++C))→JE Z9 [] H':=fun es' dw m' H' h1 h2 h3=>
  JE.mk (U8 _ fun gs=>aa.inc (aq.of h3 ⟨j+1,es',dw,m',rfl,rfl,by omega,h1,h2⟩ (by simp[aT];omega)))
 refine aj.nat eC ?_
 have hmem:(xb,Obj.cells (rows [bu ⟨x,c.sW,c.p5⟩,bu ⟨x,c.sV,c.pZ⟩]) 161 (0,0))∈(xb,Obj.cells (rows [bu ⟨x,c.sW,c.p5⟩,bu ⟨x,c.sV,c.pZ⟩]) 161 (0,0))::(mb,.map es ck)::(Na++C):=.head _
 refine av.row (k:=3) hmem (by simp[bu]) hrow ?_
 intro W8 _
 refine St.p (fun z hz=>by simp[bu,u32]at hz;rcases hz with rfl|rfl|rfl<;>rfl) ?_
 refine DR.self ?_
 rw[hC]
 refine Nil.ptr (ag.mk (Ld.f ?_))
 refine av.q ?_
 refine ae.eq (qc (d:=d) hO.ut (by rw[xe];exact hx)) ?_
 refine⟨.refl _,Ext.mk rfl (Ext.mk rfl (Un.not ?_))⟩
 have JP:(!(K.T d).isSome)=decide (K.T d=none):=by cases K.T d<;>simp
 rw[JP]
 refine dO.and (decide (d.lo≠d.hi)) (fun _=>?_) rfl fun gs=>?_
 ·refine Ld.f ?_
  refine Ld.f ?_
  exact aa.l6 ⟨rfl,rfl⟩
 rw[←Bool.decide_and]
 rw[←hC]
 refine Br.dec (fun hd=>?_) (fun hd=>?_)
 ·refine Le hmk (c:=fun o=>(W8,.cells (bu d).toArray 161 (0,0))::(xb,.cells (rows [bu ⟨x,c.sW,c.p5⟩,bu ⟨x,c.sV,c.pZ⟩]) 161 (0,0))::(mb,o)::(Na++C)) (fun o o'=>.tail (.tail (.head _))) (fun o=>.head _) fun es' dw h1 gs=>?_
  exact next es' dw _ _ h1 (by rw[V8];exact zb.step hd) .tail
 ·exact next es ck m _ hmk (by rw[V8];exact zb.skip hd) .tail
end
def g9(l:List Cx):Nat→Nat:=fun s=>(l.map fun c=>e1 (some c.d) s).sum
theorem k8(c:Cx)(l:List Cx)(s:Nat):g9 (c::l) s=e1 (some c.d) s+g9 l s:=by simp[g9]
theorem D8(c:Cx)(l:List Cx)(s:Nat):g9 (l++[c]) s=g9 l s+e1 (some c.d) s:=by simp[g9]
theorem R1(d:Nd)(s:Nat):e1 (some d) s≤2:=by rw[dr];split<;>split<;>omega
theorem uG(s:Nat):∀l:List Cx,g9 l s≤2*l.length
 | []=>Nat.le_refl _
 |c::l=>by rw[k8,List.length_cons];have:=uG s l;have:=R1 c.d s;omega
theorem vY{s:Nat}:∀{l:List Cx},0<g9 l s→∃c∈l,c.d.lo=s∨c.d.hi=s
 | [],h=>by simp[g9]at h
 |c::l,h=>by
  rw[k8]at h
  by_cases h0:0<e1 (some c.d) s
  ·refine⟨c,by simp,?_⟩
   rw[dr]at h0
   by_cases h1:c.d.lo=s
   ·exact .inl h1
   ·by_cases h2:c.d.hi=s
    ·exact .inr h2
    ·simp[h1,h2]at h0
  ·obtain⟨c',hc,h1⟩:=vY (s:=s) (l:=l) (by omega)
   exact⟨c',by simp[hc],h1⟩
theorem Cv{s:Nat}{c:Cx}(hs:c.d.lo=s∨c.d.hi=s):∀{l:List Cx},c∈l→0<g9 l s
 |c'::l,h=>by
  rw[k8]
  rcases List.mem_cons.1 h with rfl|h
  ·rw[dr]
   rcases hs with hs|hs
   ·rw[if_pos hs];omega
   ·rw[if_pos hs];omega
  ·have:=Cv hs h;omega
def Idle(K:Kd):Prop:=∀s,K.N s=none→K.use s=0
theorem qn{K:Kd}{S:Nat→aU.Fn}{E:Nat→Prop}{P:Nat→Nat}(hm:g6 K S E P)(hi:Idle K){M:Nat}(hP:∀s,P s≤M)(s:Nat):K.use s≤2097153+M:=by
 cases h:K.N s with
 |none=>rw[hi s h];omega
 |some d=>
  rw[hm.use h]
  have:=xL (N:=K.N) (r:=s) K.cap
  have:=hm.cap.2
  have:=hP s
  split<;>omega
section
variable {kp:Nat} {K K0:Kd} {ord ak tr:List Nat} {C:Hp} {S S0:Nat→aU.Fn} {JM:Nat→Nat} {x y l:Nat} {all done rest:List Cx} {made:List Nd} {P:Nat→Nat}
theorem IV(b:TB K0 S0 JM x y l all made)(h:cF kp K ord ak tr C)(ht:TI K0 S0 JM x y l made K S done rest P)(hd:∀c∈done,c∈all)(hr:∀c∈rest,c∈all){c:Cx}(hc:c∈all){k:Nd}(hk:k∈keys x c)
 (Gj:PL P K.N)(Iy:Idle K)(hP:∀s,P s≤4194304):
  Fc Tryz.prog 138 #[ptr kp,.int .i64 (k.v:Int),u32 k.lo,u32 k.hi] C (fun v C'=>∃r K' S',v=u32 r∧cF kp K' ord ak tr C'∧TI K0 S0 JM x y l made K' S' done rest P∧sZ K0 K' JM x l r∧
   ((k.lo=k.hi∧r=k.lo)∨K'.N r=some k)∧PL P K'.N∧Idle K'∧(∀s d,K.N s=some d→K'.N s=some d)∧(∀s d,K'.N s=some d→s=r∨(K.N s=some d∧K.use s≤K'.use s))):=by
 have QO:K.n≤64:=by obtain⟨_,_,hO⟩:=h;exact hO.Hs
 have jE:=b.KU hc
 have hkv:k.v=x∧pQ K0 JM l k.lo∧pQ K0 JM l k.hi:=by
  simp only[keys,List.mem_cons,List.not_mem_nil,or_false]at hk
  rcases hk with rfl|rfl
  ·exact⟨rfl,jE.1.1,jE.1.2⟩
  ·exact⟨rfl,jE.2.1,jE.2.2⟩
 have zc:=ht.nR b hd hkv.2.1
 have vD:=ht.nR b hd hkv.2.2
 have TO:k.v<K.n:=by rw[hkv.1,ht.n];exact b.nb.xn
 by_cases he:k.lo=k.hi
 ·refine Fc.mono (by rw[←he];exact LN C _ k.lo _) ?_
  rintro v C' ⟨rfl,rfl⟩
  exact⟨k.lo,K,S,rfl,h,ht,.inl hkv.2.1,.inl ⟨he,rfl⟩,Gj,Iy,fun _ _ h=>h,fun s d h=>.inr ⟨h,Nat.le_refl _⟩⟩
 cases hT:K.T k with
 |some r=>
  obtain⟨h1,h2⟩:=ht.found b hc hk hT
  refine Fc.mono (LP h he TO hT) ?_
  rintro v C' ⟨rfl,rfl⟩
  exact⟨r,K,S,rfl,h,ht,h2,.inr h1,Gj,Iy,fun _ _ h=>h,fun s d h=>.inr ⟨h,Nat.le_refl _⟩⟩
 |none=>
  have hfit:∀{t:Nat},live K.N t→t<2∨t<K.us.length:=fun ht'=>by
   rcases ht' with ht'|⟨d,dm⟩
   ·exact .inl ht'
   ·exact .inr (ht.mid.fit dm)
  have hkm:=ht.HU b hd hr hc hk he hkv.2.1 hkv.2.2 hT
  refine Fc.mono (LO h (d:=k) he ⟨by omega,zc,vD⟩ TO hT (ht.fits b hkm hT) (hfit zc) (hfit vD) (fun s=>by have:=qn ht.mid Iy hP s;omega)) ?_
  rintro v C' ⟨r,cP,bE,rfl,hN,h2,hrc,hlen,T4,vC,u0,u1,u2,o0,o1,rF⟩
  have Zo:P r=0:=by
   apply Decidable.byContradiction
   intro hne
   obtain⟨d,dm⟩:=Gj r h2 (by omega)
   rw[hN]at dm;cases dm
  obtain⟨g1,g2⟩:=ht.lay b hd hr hc hk he hT hN ⟨h2,hrc⟩ hlen ⟨T4,vC⟩ u0 u1 o0 o1 Zo
  have V6:∀s d,K.N s=some d→up K.N r (some k) s=some d:=fun s d hs=>by
   rw[aI (fun e=>by rw[e,hN]at hs;cases hs)];exact hs
  refine⟨r,_,_,rfl,rF,g1,g2,.inr aH,fun t JV h0=>?_,fun s hs=>?_,V6,fun s d hs=>?_⟩
  ·obtain⟨d,dm⟩:=Gj t JV h0
   exact⟨d,V6 t d dm⟩
  ·have hs':up K.N r (some k) s=none:=hs
   have hne:s≠r:=fun e=>by subst e;rw[aH]at hs';cases hs'
   rw[aI hne]at hs'
   show cP.getD s 0=0
   by_cases PC:2≤s
   ·rw[u1 s PC hne,Iy s hs',dr]
    have a1:k.lo≠s:=fun e=>by
     rcases zc with h5|⟨d,h5⟩
     ·omega
     ·rw[e,hs']at h5;cases h5
    have a2:k.hi≠s:=fun e=>by
     rcases vD with h5|⟨d,h5⟩
     ·omega
     ·rw[e,hs']at h5;cases h5
    simp[a1,a2]
   ·rw[u2 s (by omega),Iy s hs']
  ·have hs':up K.N r (some k) s=some d:=hs
   by_cases e:s=r
   ·exact .inl e
   ·rw[aI e]at hs'
    refine .inr ⟨hs',?_⟩
    show K.use s≤cP.getD s 0
    rw[u1 s (ht.mid.two hs').1 e];omega
theorem GC(h:cF kp K ord ak tr C)(ht:TI K0 S0 JM x y l made K S done rest P)(Gj:PL P K.N)(Iy:Idle K)(hP:∀s,P s≤4194304){r:Nat}(hr:live K.N r):
  Fc Tryz.prog 139 #[ptr kp,u32 r] C (fun v C'=>∃K',v=.tuple #[]∧cF kp K' ord ak tr C'∧TI K0 S0 JM x y l made K' S done rest (fun s=>P s+if s=r then 1 else 0)∧PL (fun s=>P s+if s=r then 1 else 0) K'.N∧Idle K'∧
   K'.N=K.N∧(∀s,K.use s≤K'.use s)∧(2≤r→0<K'.use r)):=by
 have hfit:r<2∨r<K.us.length:=by
  rcases hr with hr|⟨d,hd⟩
  ·exact .inl hr
  ·exact .inr (ht.mid.fit hd)
 refine Fc.mono (yG h hfit (by have:=qn ht.mid Iy hP r;omega)) ?_
 rintro v C' ⟨rfl,rF⟩
 by_cases h2:2≤r
 ·have hrd:∃d,K.N r=some d:=by
   rcases hr with hr|hr
   ·omega
   ·exact hr
  have hlt:r<K.us.length:=by omega
  refine⟨_,rfl,rF,(ht.use (gm r) (j5 h2 hlt) (fun s hs=>qo hs)).congr (fun s _=>?_),fun t JV h0=>?_,fun s hs=>?_,rfl,fun s=>?_,fun _=>?_⟩
  ·unfold up
   split
   ·rename_i e;subst e;rfl
   ·rfl
  ·by_cases e:t=r
   ·subst e;exact hrd
   ·simp[e]at h0;exact Gj t JV h0
  ·show(po K r).getD s 0=0
   have hne:s≠r:=fun e=>by
    obtain⟨d,hd⟩:=hrd
    have hs':K.N s=none:=hs
    rw[e,hd]at hs';cases hs'
   rw[qo hne];exact Iy s hs
  ·show K.use s≤(po K r).getD s 0
   by_cases e:s=r
   ·subst e;rw[j5 h2 hlt];omega
   ·rw[qo e];exact Nat.le_refl _
  ·show 0<(po K r).getD r 0
   rw[j5 h2 hlt];omega
 ·have e:po K r=K.us:=by unfold po;rw[if_pos (by omega)]
  have eK:({K with us:=po K r}:Kd)=K:=by rw[e]
  rw[eK]at rF
  refine⟨K,rfl,rF,ht.congr (fun s hs=>?_),fun t JV h0=>?_,Iy,rfl,fun _=>Nat.le_refl _,fun h=>absurd h h2⟩
  ·rw[if_neg (by omega)];rfl
  ·have PE:0<P t+if t=r then 1 else 0:=h0
   rw[if_neg (by omega)]at PE;exact Gj t JV PE
theorem sZ.mono{K K':Kd}(h:sZ K0 K JM x l y)(hm:∀s d,K.N s=some d→K'.N s=some d):sZ K0 K' JM x l y:=by
 rcases h with h|⟨e,h1,h2⟩
 ·exact .inl h
 ·exact .inr ⟨e,hm _ _ h1,h2⟩
end
section
variable {kp:Nat} {K:Kd} {ord ak tr:List Nat} {C:Hp} {S:Nat→aU.Fn}
structure Kept(K:Kd)(S:Nat→aU.Fn)(K':Kd)(S':Nat→aU.Fn):Prop where
 n:K'.n=K.n
 cap:K'.cap=K.cap
 hold:∀r,K'.hold r=K.hold r
 held:∀g,K'.held S' g↔K.held S g
 fn:∀r,K.hold r≠0→S' r=S r
theorem NM{x y l:Nat}(hne:x≠y)(hx:x<ak.length)(hy:y<ak.length):lv ((ak.set x (l+1)).set y l)=pU (lv ak) x y l:=by
 funext v
 show((ak.set x (l+1)).set y l).getD v 0=_
 rw[fO (by simpa using hy),fO hx]
 unfold pU
 by_cases e:v=y
 ·rw[if_pos e,if_neg (by rw[e];exact Ne.symm hne),if_pos e]
 ·rw[if_neg e,if_neg e]
theorem G9(c:Cx)(rest:List Cx):g9 (c::rest)=fH (fH (g9 rest) [c.d.hi]) [c.d.lo]:=by
 funext s
 rw[k8,dr]
 unfold fH
 simp only[List.count_cons,List.count_nil,beq_iff_eq]
 omega
theorem Hw{x:Nat}{all:List Cx}{made:List Nd}(h:Made K x all made):made.length≤2*all.length:=by
 have h1:=bH (l':=all.flatMap (keys x)) h.nd fun k hk=>by
  obtain⟨⟨c,hc,hk'⟩,_⟩:=(h.mem k).1 hk
  exact List.mem_flatMap.2 ⟨c,hc,hk'⟩
 have h2:(all.flatMap (keys x)).length=2*all.length:=by
  clear h1 h
  induction all with
  |nil=>rfl
  |cons c all ih=>rw[List.flatMap_cons,List.length_append,ih,List.length_cons];simp[keys];omega
 omega
theorem GJ{x y l:Nat}{K1:Kd}{S1:Nat→aU.Fn}{all:List Cx}{made:List Nd}(b:TB K S (lv ak) x y l all made)(h:TI K S (lv ak) x y l made K1 S1 all [] (g9 all))(hnew:∀r d,K.N r=none→K1.N r=some d→0<K1.use r):Pos K1:=by
 intro r d hd
 cases hN:K.N r with
 |none=>exact hnew r d hN hd
 |some d0=>
  rw[h.mid.use hd]
  rcases b.ok.reach r d0 hN with hh|⟨p,e,hp,Ll⟩
  ·have oz:K1.hold r≠0:=by rw[h.hold];exact hh
   rw[if_neg oz];omega
  ·by_cases hm:p∈all.map Cx.r
   ·obtain⟨c,hc,rfl⟩:=List.mem_map.1 hm
    have hcd:=(b.kJ hc).1
    rw[hp]at hcd;cases hcd
    have:=Cv (s:=r) Ll hc
    omega
   ·have sM:=h.old hp hm
    have:cM K1.N r K1.cap≠0:=fun he=>by
     have:=gW he p (h.mid.two sM).2 e sM
     rcases Ll with Ll|Ll
     ·exact this.1 Ll
     ·exact this.2 Ll
    omega
theorem Cj(h:cF kp K ord ak tr C)(hok:Ok K S (lv ak))(ho:Ord K.n (lv ak) ord)(Iy:Idle K){l:Nat}(hl:l+1<K.n):
  Fc Tryz.prog 59 #[ptr kp,.int .i64 (l:Int)] C (fun r C'=>
   (vK K.n ord l (K.held S)+2≤K.cap∧r=.bool true∧∃K' S' e8,cF kp K' (dQ ord l) e8 tr C'∧Ok K' S' (lv e8)∧Ord K'.n (lv e8) (dQ ord l)∧Idle K'∧Kept K S K' S')∨
   (K.cap<vK K.n ord l (K.held S)+2∧r=.bool false∧C'=C)):=by
 have h0:=h
 have hcap:=h.cap
 obtain⟨b,hC,hO⟩:=h
 have CW:=hO.ol
 have QO:=hO.Hs
 have nb:=ho.nb hl
 obtain⟨x,hx⟩:∃x,x=ord.getD l 0:=⟨_,rfl⟩
 obtain⟨y,hy⟩:∃y,y=ord.getD (l+1) 0:=⟨_,rfl⟩
 rw[←hx,←hy]at nb
 refine aW fun g=>FH ?_
 have hmk:(kp,Obj.cells (b.cells K.n) 117 (0,0))∈C:=by rw[hC];exact .head _
 have ME:∀z∈b.CO,z∈C:=by rw[hC];exact bj.sub (.cons (.app (.app (.app (.app .left)))))
 refine Ld.v hmk ?_
 refine hO.od.ld (x:=(x:Int)) (by rw[hx];exact bB (by omega)) ME ?_
 refine Ld.v hmk ?_
 refine aa.inc ?_
 refine hO.od.ld (x:=(y:Int)) (by rw[hy];exact bB (by omega)) ME ?_
 refine ae.fq (vg h0 hok nb.xn) ?_
 rintro w H ⟨all,Na,rfl,aB,EF,hlen⟩
 refine DR.self (Nil.ptr (ag.mk ?_))
 refine ae.rq (IY h0 nb.xn aB hlen) ?_
 rintro w ⟨made,rfl,Io⟩
 have hml:=Hw Io
 have CQ:=hok.mid.cap
 have TT:=hok.mid.room
 refine ae.eq (wI h0 (m:=made.length) (by omega) (by omega)) ?_
 have Yk:vK K.n ord l (K.held S)=K.used-2+made.length:=GB (GK hok ho hl (by rw[←hx,←hy];exact EF) (by rw[←hx];exact Io))
 refine Un.not ?_
 by_cases hroom:K.used+made.length≤K.cap
 rotate_left
 ·rw[decide_eq_false hroom]
  exact Br.yes (bN.mk .right (.inr ⟨by omega,rfl,rfl⟩))
 rw[decide_eq_true hroom]
 refine Br.no ?_
 have tb:TB K S (lv ak) x y l all made:=⟨hok,nb,EF,Io,hroom⟩
 have fB:=EF.nd
 have hge:∀{i:Nat} {c:Cx},all[i]? =some c→c.r∉(all.take i).map Cx.r:=fun{i c} oA hm=>by
  have h1:(all.take (i+1)).map Cx.r=(all.take i).map Cx.r++[c.r]:=by rw[List.take_add_one,oA,List.map_append];rfl
  have h2:((all.take (i+1)).map Cx.r).Nodup:=fB.sublist ((List.take_sublist _ _).map _)
  rw[h1]at h2
  exact(List.nodup_append.1 h2).2.2 _ hm _ (by simp) rfl
 have js:∀{i:Nat} {c:Cx},all[i]? =some c→all.take (i+1)=all.take i++[c]:=fun oA=>by rw[List.take_add_one,oA];rfl
 have SS:∀{i:Nat} {c:Cx},all[i]? =some c→all.drop i=c::all.drop (i+1):=fun{i c} oA=>by
  obtain⟨hi,e⟩:=List.getElem?_eq_some_iff.1 oA
  rw[List.drop_eq_getElem_cons hi,e]
 have Og:∀{i:Nat},∀c∈all.take i,c∈all:=fun c hc=>List.mem_of_mem_take hc
 have YD:∀{i:Nat},∀c∈all.drop i,c∈all:=fun c hc=>List.mem_of_mem_drop hc
 refine aB.aL ?_
 rw[List.length_map]
 refine⟨fun vs H=>∃(i:Nat) (T':Nd→Option Nat) (C1:Hp),vs=[.int .i64 (i:Int)]∧H=Na++C1∧i≤all.length∧cF kp {K with T:=T'} ord ak tr C1∧g6 {K with T:=T'} S (fun s=>∃c∈all.take i,s=c.r) zero'∧(∀d,T' d=none∨T' d=K.T d),
  fun vs _=>all.length-aT vs 0,JE.mk ⟨0,K.T,C,rfl,rfl,Nat.zero_le _,h0,hok.mid.congr (fun s=>by simp[fY]) (fun _ _=>rfl),fun _=>.inr rfl⟩,?_⟩
 rintro w H ⟨i,T',C1,hw,rfl,hi,rE,EJ,EI⟩ gs
 simp only[List.cons.injEq,and_true]at hw
 subst hw
 refine aa.cZ (Br.dec (fun hlt=>?_) (fun Lx=>?_))
 ·obtain⟨c,oA⟩:∃c,all[i]? =some c:=⟨_,List.getElem?_eq_getElem hlt⟩
  have IF:c∈all:=List.mem_of_getElem? oA
  obtain⟨uX,Ri,hce⟩:=tb.kJ IF
  refine aB.CI (r:=jo c) (by rw[List.getElem?_map,oA];rfl) (fun z hz=>List.mem_append_left _ hz) ?_
  intro b31 _
  refine St.p (jf _) ?_
  obtain⟨b1,rfl,Nf⟩:=rE
  refine DR.self (Nil.ptr (ag.mk (Ld.f ?_)))
  refine ag.mk (av.mk (vs:=(bu c.d).toArray) (.head _) (by simp[jo]) rfl ?_)
  have Zh:T' c.d=some c.r:=(EJ.gn c.d c.r).2 ⟨uX,by rintro⟨c',jR,e⟩;exact hge oA (e▸List.mem_map_of_mem jR)⟩
  refine ae.fq (tp (d:=c.d) Nf.ut (hok.mid.var uX) Zh) ?_
  rintro v JZ ⟨rfl,NY⟩
  refine aa.inc ?_
  refine aq.of .tail ⟨i+1,ng T' c.d none,_,rfl,rfl,by omega,⟨{b1 with CT:=JZ},rfl,{Nf with ut:=NY}⟩,(EJ.Uq (r:=c.r) (d:=c.d) uX ?_).congr (fun s=>?_) (fun _ _=>rfl),fun d=>?_⟩ (by simp[aT];omega)
  ·rintro⟨c',jR,e⟩;exact hge oA (e▸List.mem_map_of_mem jR)
  ·rw[js oA]
   constructor
   ·rintro(⟨c',jR,e⟩|e)
    ·exact⟨c',List.mem_append_left _ jR,e⟩
    ·exact⟨c,by simp,e⟩
   ·rintro⟨c',jR,e⟩
    rcases List.mem_append.1 jR with jR|jR
    ·exact .inl ⟨c',jR,e⟩
    ·simp at jR;subst jR;exact .inr e
  ·unfold ng
   split
   ·exact .inl rfl
   ·exact EI d
 have hi':i=all.length:=by omega
 subst hi'
 rw[List.take_length]at EJ
 have WD:=tb.start EJ EI
 refine aB.aL ?_
 rw[List.length_map]
 refine⟨fun vs H=>∃(i:Nat) (K1:Kd) (S1:Nat→aU.Fn) (C1:Hp),vs=[.int .i64 (i:Int)]∧H=Na++C1∧i≤all.length∧cF kp K1 ord ak tr C1∧TI K S (lv ak) x y l made K1 S1 (all.take i) (all.drop i) (g9 (all.take i))∧
   PL (g9 (all.take i)) K1.N∧Idle K1∧(∀r d,K.N r=none→K1.N r=some d→0<K1.use r),
  fun vs _=>all.length-aT vs 0,JE.mk ⟨0,_,S,C1,rfl,rfl,Nat.zero_le _,rE,WD,fun t _ h=>by simp[g9]at h,Iy,fun r d h1 h2=>by rw[h1]at h2;cases h2⟩,?_⟩
 clear WD EJ EI rE T' C1 Lx hi
 rintro w H ⟨i,K1,S1,C1,hw,rfl,hi,rE,EI,LJ,Ix,ML⟩ gs
 simp only[List.cons.injEq,and_true]at hw
 subst hw
 refine aa.cZ (Br.dec (fun hlt=>?_) (fun Lx=>?_))
 ·obtain⟨c,oA⟩:∃c,all[i]? =some c:=⟨_,List.getElem?_eq_getElem hlt⟩
  have IF:c∈all:=List.mem_of_getElem? oA
  obtain⟨uX,Ri,hce⟩:=tb.kJ IF
  rw[SS oA]at EI
  have gg:∀c'∈c::all.drop (i+1),c'∈all:=by rw[←SS oA];exact YD
  have RG:∀s,g9 (all.take i) s≤2097152:=fun s=>by have:=uG s (all.take i);rw[List.length_take]at this;omega
  refine aB.CI (r:=jo c) (by rw[List.getElem?_map,oA];rfl) (fun z hz=>List.mem_append_left _ hz) ?_
  intro b53 _
  refine St.p (jf _) ?_
  refine DR.self (Nil.ptr (ag.mk ?_))
  refine Ld.f ?_
  refine Ld.f ?_
  refine ae.fq (IV tb rE EI Og gg IF (k:=⟨x,c.sW,c.p5⟩) (by simp[keys]) LJ Ix (fun s=>by have:=RG s;omega)) ?_
  rintro w C2 ⟨t0,K2,S2,rfl,pI,RA,Qf,g0,LI,zf,VT,TG⟩
  refine Nil.ptr (ag.mk ?_)
  refine ae.fq (GC pI RA LI zf (fun s=>by have:=RG s;omega) (RA.nV tb Og Qf)) ?_
  rintro w C3 ⟨K3,rfl,nY,Zj,OO,Ut,U4,TV,QH⟩
  have RF:∀s,(g9 (all.take i) s+if s=t0 then 1 else 0)≤2097153:=fun s=>by have:=RG s;split<;>omega
  refine DR.self (Nil.ptr (ag.mk ?_))
  refine Ld.f ?_
  refine Ld.f ?_
  refine ae.fq (IV tb nY Zj Og gg IF (k:=⟨x,c.sV,c.pZ⟩) (by simp[keys]) OO Ut (fun s=>by have:=RF s;omega)) ?_
  rintro w C4 ⟨t1,K4,S4,rfl,OR,U0,Qe,g1,ON,Us,Mr,TE⟩
  refine Nil.ptr (ag.mk ?_)
  refine ae.fq (GC OR U0 ON Us (fun s=>by have:=RF s;omega) (U0.nV tb Og Qe)) ?_
  rintro w C5 ⟨K5,rfl,Gl,SZ,Zp,Ur,RJ,TU,QG⟩
  have Mx:sZ K K5 (lv ak) x l t0:=sZ.mono Qf (fun s d hs=>by rw[RJ];exact Mr s d (by rw[U4];exact hs))
  have Mw:sZ K K5 (lv ak) x l t1:=sZ.mono Qe (fun s d hs=>by rw[RJ];exact hs)
  have ZI:(c.sW=c.p5∧t0=c.sW)∨K5.N t0=some ⟨x,c.sW,c.p5⟩:=by
   rcases g0 with g0|g0
   ·exact .inl g0
   ·exact .inr (by rw[RJ];exact Mr _ _ (by rw[U4];exact g0))
  have ZH:(c.sV=c.pZ∧t1=c.sV)∨K5.N t1=some ⟨x,c.sV,c.pZ⟩:=by
   rcases g1 with g1|g1
   ·exact .inl g1
   ·exact .inr (by rw[RJ];exact g1)
  have Ug:((all.take i++c::all.drop (i+1)).map Cx.r).Nodup:=by rw[←SS oA,List.take_append_drop];exact fB
  obtain⟨Zg,UZ⟩:=SZ.pT tb Og gg Ug Mx Mw ZI ZH (P':=g9 (all.take (i+1))) (fun s _=>by
   rw[js oA,D8,dr ⟨y,t0,t1⟩]
   have ZO:(if t0=s then 1 else 0)=(if s=t0 then 1 else 0:Nat):=by split<;>split<;>first|rfl|(exfalso;omega)
   have ZM:(if t1=s then 1 else 0)=(if s=t1 then 1 else 0:Nat):=by split<;>split<;>first|rfl|(exfalso;omega)
   simp only[ZO,ZM]
   omega)
  have Ir:∀{t:Nat},sZ K K5 (lv ak) x l t→live K5.N t:=fun hk=>SZ.nV tb Og hk
  have OA:∃e,K5.N c.r=some e:=SZ.kept uX
  refine Build.mk (cs:=bu ⟨y,t0,t1⟩) (by kernel_rfl) ?_
  intro b83 _
  refine St.p (fun z hz=>by simp[bu,u32]at hz;rcases hz with rfl|rfl|rfl<;>rfl) ?_
  obtain⟨b5,rfl,S8⟩:=Gl
  refine DR.self (Nil.ptr (ag.mk (Ld.f ?_)))
  refine Ld.f ?_
  refine av.q ?_
  have NW:y<K5.n:=by rw[SZ.n];exact nb.yn
  refine ae.fq (L7 (d:=⟨y,t0,t1⟩) S8.ar ⟨by show y<64;have:=S8.Hs;omega,Ir Mx,Ir Mw⟩ OA (tb.ok.mid.two uX).1) ?_
  rintro w Sq ⟨rfl,Rr⟩
  refine DR.self (Nil.ptr (ag.mk (Ld.f ?_)))
  refine av.q ?_
  refine Ld.f ?_
  refine ae.fq (Ci (d:=⟨y,t0,t1⟩) (r:=c.r) S8.ut NW Zg) ?_
  rintro w JZ ⟨rfl,NY⟩
  refine aa.inc ?_
  refine aq.of (.skip .tail) ⟨i+1,{K5 with N:=up K5.N c.r (some ⟨y,t0,t1⟩),T:=ng K5.T ⟨y,t0,t1⟩ (some c.r)},S4,_,rfl,rfl,by omega,⟨{b5 with CA:=Sq,CT:=JZ},rfl,{S8 with ar:=Rr,ut:=NY}⟩,by rw[js oA]at UZ⊢;exact UZ,fun t JV hp=>?_,fun s hs=>?_,fun r d Et hrd=>?_⟩ (by simp[aT];omega)
  ·obtain⟨c',jR,jF⟩:=vY hp
   have UI:=Og c' jR
   have II:=(tb.kJ UI).1
   have hlv:live K.N t:=by
    rcases jF with rfl|rfl
    ·exact tb.ok.mid.lo II
    ·exact tb.ok.mid.hi II
   rcases hlv with hlv|⟨d,hd⟩
   ·omega
   ·exact UZ.kept hd
  ·have hs':up K5.N c.r (some ⟨y,t0,t1⟩) s=none:=hs
   have hne:s≠c.r:=fun e=>by subst e;rw[aH]at hs';cases hs'
   rw[aI hne]at hs'
   exact Ur s hs'
  ·have Oa:up K5.N c.r (some ⟨y,t0,t1⟩) r=some d:=hrd
   have hne:r≠c.r:=fun e=>by rw[e,uX]at Et;cases Et
   rw[aI hne,RJ]at Oa
   have Tg:2≤r:=(U0.mid.two Oa).1
   show 0<K5.use r
   rcases TE r d Oa with e|⟨h3,TX⟩
   ·rw[e]at Tg⊢;exact QG Tg
   ·rw[U4]at h3
    have h5:=TU r
    rcases TG r d h3 with e|⟨h1,Pe⟩
    ·rw[e]at Tg⊢h5 TX;have:=QH Tg;omega
    ·have:=ML r d Et h1
     have:=TV r
     omega
 have hi':i=all.length:=by omega
 subst hi'
 rw[List.take_length,List.drop_length]at EI
 rw[List.take_length]at LJ
 have sM:=GJ tb EI ML
 refine aB.aL ?_
 rw[List.length_map]
 refine⟨fun vs H=>∃(i:Nat) (K2:Kd) (C2:Hp),vs=[.int .i64 (i:Int)]∧H=Na++C2∧i≤all.length∧cF kp K2 ord ak tr C2∧g6 K2 S1 fY (g9 (all.drop i))∧Pos K2∧PL (g9 (all.drop i)) K2.N∧sY K2 K1,
  fun vs _=>all.length-aT vs 0,JE.mk ⟨0,K1,C1,rfl,rfl,Nat.zero_le _,rE,EI.mid.congr (fun s=>by simp[fY]) (fun _ _=>rfl),sM,LJ,.refl K1⟩,?_⟩
 clear rE LJ hi Lx C1
 rintro w H ⟨i,K2,C2,hw,rfl,hi,pI,Gk,iJ,LI,fC⟩ gs
 simp only[List.cons.injEq,and_true]at hw
 subst hw
 refine aa.cZ (Br.dec (fun hlt=>?_) (fun Lx=>?_))
 ·obtain⟨c,oA⟩:∃c,all[i]? =some c:=⟨_,List.getElem?_eq_getElem hlt⟩
  have IF:c∈all:=List.mem_of_getElem? oA
  obtain⟨uX,Ri,hce⟩:=tb.kJ IF
  have RG:∀s,g9 (all.drop i) s≤2097152:=fun s=>by have:=uG s (all.drop i);rw[List.length_drop]at this;omega
  have hlo:=h0.lt (hok.mid.lo uX)
  have hhi:=h0.lt (hok.mid.hi uX)
  refine aB.CI (r:=jo c) (by rw[List.getElem?_map,oA];rfl) (fun z hz=>List.mem_append_left _ hz) ?_
  intro ZV _
  refine St.p (jf _) ?_
  refine DR.self (Nil.ptr (ag.mk ?_))
  refine ag.mk (Ld.f ?_)
  have zf:Idle K2:=fC.idle Ix
  have TW:∀s,K2.use s<2147483648:=fun s=>by have:=qn Gk zf RG s;omega
  rw[SS oA,G9]at Gk LI
  refine ae.fq (mP pI Gk iJ LI hlo TW) ?_
  rintro w C3 ⟨rfl,K3,nY,Ta,MI,OO,Is⟩
  refine DR.self (Nil.ptr (ag.mk ?_))
  refine ag.mk (Ld.f ?_)
  refine ae.fq (mP nY Ta MI OO hhi (fun s=>Nat.lt_of_le_of_lt (Is.us s) (TW s))) ?_
  rintro w C4 ⟨rfl,K4,OR,Zr,Ph,ON,Oh⟩
  refine aa.inc ?_
  exact aq.of .tail ⟨i+1,K4,C4,rfl,rfl,by omega,OR,Zr,Ph,ON,Oh.trans (Is.trans fC)⟩ (by simp[aT];omega)
 have hi':i=all.length:=by omega
 subst hi'
 rw[List.drop_length]at Gk
 have zf:Idle K2:=fC.idle Ix
 obtain⟨f1,f2,f3⟩:=EI.fin tb (K':=K2) (Gk.congr (fun _=>Iff.rfl) (fun _ _=>rfl)) iJ (fun h=>fC.N h) fC.n (fun r=>by show K2.ho.getD r 0=K1.ho.getD r 0;rw[fC.ho])
 have Ln:K2.n=K.n:=by rw[fC.n,EI.n]
 obtain⟨b2,rfl,Nc⟩:=pI
 refine DR.self (Ld.n ?_)
 refine Ld.n ?_
 refine aa.inc ?_
 refine Nc.od.g8 (x:=(y:Int)) (.app (.cons (.app (.app (.app (.app .left)))))) (by rw[ah];omega) fun CO1 ym=>?_
 refine ym.g8 (x:=(x:Int)) (.app (.cons (.app (.app (.app (.app .left)))))) (by rw[List.length_set,ah];omega) fun CO2 jQ=>?_
 refine DR.self (Ld.n ?_)
 refine Ld.n ?_
 refine aa.inc ?_
 have sC:=Nc.ol.2
 have TO:=nb.xn
 have NW:=nb.yn
 refine Nc.lv.g8 (x:=((l+1:Nat):Int)) (.app (.cons (.app (.app (.app (.app (.app .left))))))) (by rw[ah];omega) fun CL1 zc=>?_
 refine zc.g8 (x:=(l:Int)) (.app (.cons (.app (.app (.app (.app (.app .left))))))) (by rw[List.length_set,ah];omega) fun CL2 vD=>?_
 rw[eR,eR]at jQ vD
 have Pg:(ord.set l y).set (l+1) x=dQ ord l:=by rw[hx,hy];rfl
 rw[Pg]at jQ
 have hlv:lv ((ak.set x (l+1)).set y l)=pU (lv ak) x y l:=NM nb.ne (by omega) (by omega)
 refine bN.mk .right (.inl ⟨by omega,rfl,K2,S1,_,⟨{b2 with CO:=CO2,CL:=CL2},rfl,{Nc with od:=jQ,lv:=vD,ol:=?_}⟩,by rw[hlv];exact f1,by rw[hlv,Ln,hx,hy];exact Km ho hl,zf,Ln,by rw[fC.cap,EI.cap],fun r=>?_,f2,f3⟩)
 ·rw[gp];simp;exact Nc.ol
 ·show K2.ho.getD r 0=K.hold r
  rw[fC.ho];exact EI.hold r
end
structure g7(kp:Nat)(K:Kd)(S:Nat→aU.Fn)(ord ak tr:List Nat)(C:Hp):Prop where
 rep:cF kp K ord ak tr C
 ok:Ok K S (lv ak)
 od:Ord K.n (lv ak) ord
 idle:Idle K
 tr:sX K.n K.cap (K.held S) ord tr.reverse
theorem Kept.refl(K:Kd)(S:Nat→aU.Fn):Kept K S K S:=⟨rfl,rfl,fun _=>rfl,fun _=>Iff.rfl,fun _ _=>rfl⟩
theorem Kept.trans{K K' K2:Kd}{S S' S2:Nat→aU.Fn}(h:Kept K S K' S')(h':Kept K' S' K2 S2):Kept K S K2 S2:=
 ⟨h'.n.trans h.n,h'.cap.trans h.cap,fun r=>(h'.hold r).trans (h.hold r),fun g=>(h'.held g).trans (h.held g),fun r hr=>(h'.fn r (by rw[h.hold];exact hr)).trans (h.fn r hr)⟩
section
variable {kp:Nat} {K:Kd} {ord ak tr:List Nat} {C:Hp} {S:Nat→aU.Fn}
theorem I4(h:g7 kp K S ord ak tr C){l:Int}(hl:¬(0≤l∧l+1<K.n)):Rd Tryz.prog 17 #[ptr kp,.int .i64 l] C (· =.int .i64 1):=by
 obtain⟨b,rfl,hO⟩:=h.rep
 have hn:=hO.Hs
 refine aW fun g=>uo ?_
 refine aa.aC (Br.no (aa.lss ?_))
 refine dO.or (decide ((K.n:Int) -2<l)) (fun _=>?_) (by simp) fun gs=>?_
 ·refine Ld.n ?_
  refine aa.gK (c:=(K.n:Int) -2) rfl (by omega) ?_
  exact aa.gtr ⟨rfl,rfl⟩
 ·rw[←Bool.decide_or]
  exact Br.T (bK.mk (.refl _) rfl)
theorem Dd(h:g7 kp K S ord ak tr C){l:Nat}(hl:l+1<K.n)(lH:tr.length<1099511627776):Fc Tryz.prog 17 #[ptr kp,.int .i64 (l:Int)] C (fun r C'=>
   (vK K.n ord l (K.held S)+2≤K.cap∧r=.int .i64 0∧∃K' S' e8,g7 kp K' S' (dQ ord l) e8 (tr++[l]) C'∧Kept K S K' S')∨
   (K.cap<vK K.n ord l (K.held S)+2∧r=.int .i64 9∧C'=C)):=by
 have h0:=h
 obtain⟨b,hC,hO⟩:=h.rep
 have hn:=hO.Hs
 refine aW fun g=>uo ?_
 refine aa.aC (Br.no (aa.lss ?_))
 refine dO.or (decide ((K.n:Int) -2<l)) (fun _=>?_) (by simp) fun gs=>?_
 ·refine Ld.v (by rw[hC];exact .head _) ?_
  refine aa.gK (c:=(K.n:Int) -2) rfl (by omega) ?_
  exact aa.gtr ⟨rfl,rfl⟩
 ·rw[←Bool.decide_or]
  refine Br.F ?_
  refine ae.fq (Cj h.rep h.ok h.od h.idle hl) ?_
  rintro w C' (⟨hfit,rfl,K',S',e8,rF,ru,Oe,uV,nX⟩|⟨hno,rfl,rfl⟩)
  ·refine Un.not (Br.no ?_)
   obtain⟨b',rfl,u3⟩:=rF
   refine Ld.n ?_
   refine an.int (e:=3) (by kernel_rfl) (by kernel_rfl) (by kernel_rfl) fun bx=>?_
   refine u3.tr.oh (.cons (.cons (.app (.app (.app (.app (.app (.app .here)))))))) (by exact .head _) (by rw[ah];omega) (by rw[ah];omega) fun v' J4 bE=>?_
   refine Nil.ptr (ag.mk (St.one (by exact .tail (.head _)) bE.one (by simp[sE.cells]) rfl ?_))
   refine bN.mk .tail (.inl ⟨hfit,rfl,K',S',e8,⟨⟨{b' with vt:=v',CR:=J4},rfl,{u3 with tr:=by rw[cm];exact bE}⟩,ru,Oe,uV,?_⟩,nX⟩)
   rw[nX.n,nX.cap]
   exact(sX.Vt hO.ol.1 hl hfit h.tr).congr fun g=>(nX.held g).symm
  ·exact Un.not (Br.yes (bN.here (.inr ⟨hno,rfl,rfl⟩)))
theorem Kf{l:Nat}(h:g7 kp K S ord ak (tr++[l]) C)(lH:tr.length<1099511627776):Fc Tryz.prog 18 #[ptr kp] C (fun r C'=>
   r=.tuple #[.int .i64 (l:Int),.int .i64 0]∧l+1<K.n∧∃K' S' e8,g7 kp K' S' (dQ ord l) e8 tr C'∧Kept K S K' S'):=by
 have h0:=h
 obtain⟨b,hC,hO⟩:=h.rep
 have hn:=hO.Hs
 have Qu:=h.tr
 rw[List.reverse_append]at Qu
 obtain⟨hl,hfit,NZ⟩:l+1<K.n∧vK K.n ord l (K.held S)+2≤K.cap∧sX K.n K.cap (K.held S) (dQ ord l) tr.reverse:=Qu
 have hmk:(kp,Obj.cells (b.cells K.n) 117 (0,0))∈C:=by rw[hC];exact .head _
 refine aW fun g=>F5 ?_
 refine aa.aC ?_
 refine dO.or false (fun _=>?_) rfl fun gs=>Br.no ?_
 ·refine Ld.v hmk ?_
  refine hO.tr.aL ?_
  refine aa.oW ⟨rfl,?_⟩
  rw[decide_eq_false]
  rw[ah,List.length_append];simp;omega
 refine Ld.v hmk ?_
 refine hO.tr.aL ?_
 rw[ah,List.length_append]
 refine aa.bX (a:=tr.length+1) (b:=1) ?_
 rw[Nat.add_sub_cancel]
 refine Ld.v hmk ?_
 refine hO.tr.ld (i:=tr.length) (x:=(l:Int)) (by rw[cm];simp[iw]) (by rw[hC];exact bj.sub (.cons (.app (.app (.app (.app (.app (.app .here)))))))) ?_
 refine ae.fq (Cj h.rep h.ok h.od h.idle hl) ?_
 rintro w C' (⟨_,rfl,K',S',e8,rF,ru,Oe,uV,nX⟩|⟨hno,rfl,rfl⟩)
 rotate_left
 ·omega
 obtain⟨b',rfl,u3⟩:=rF
 refine Ld.n ?_
 refine u3.tr.cut (i:=tr.length) (by rw[ah];simp) fun v' wP=>?_
 refine Nil.ptr (ag.mk (St.one (by exact .head _) wP.one (by simp[sE.cells]) rfl ?_))
 refine bN.here ⟨rfl,hl,K',S',e8,⟨⟨{b' with vt:=v'},rfl,{u3 with tr:=by rw[cm,List.take_left' (by simp)]at wP;exact wP}⟩,ru,Oe,uV,?_⟩,nX⟩
 rw[nX.n,nX.cap]
 exact NZ.congr fun g=>(nX.held g).symm
theorem g7.ei(h:g7 kp K S ord ak tr C){r:Nat}(hl:live K.N r):r<1048576:=h.rep.lt hl
theorem g7.ir(h:g7 kp K S ord ak tr C)(r:Nat):K.hold r≤65535:=h.ok.mid.mx r
theorem g7.GD(h:g7 kp K S ord ak tr C)(r:Nat):K.use r≤2097153:=by have:=qn h.ok.mid h.idle (M:=0) (fun _=>Nat.le_refl _) r;omega
structure O2(K K':Kd)(r:Nat):Prop where
 n:K'.n=K.n
 cap:K'.cap=K.cap
 used:K'.used=K.used
 N:K'.N=K.N
 hold:∀s,K'.hold s=if s=r∧2≤r then K.hold s+1 else K.hold s
theorem Ep(h:g7 kp K S ord ak tr C){r:Nat}(hl:live K.N r)(h2:2≤r)(hf:K.hold r=65535):Rd Tryz.prog 121 #[ptr kp,u32 r] C (· =.int .i64 8):=by
 have hr:=h.ei hl
 obtain⟨b,hC,hO⟩:=h.rep
 have hfit:r<K.ho.length:=by
  rcases hl with hl|⟨d,hd⟩
  ·omega
  ·rw[←hO.ul.1];exact h.ok.mid.fit hd
 refine aW fun g=>sr ?_
 refine aa.aC (Br.no (Nil.ptr (ag.mk ?_)))
 refine ae.eq (kE h.rep (by omega)) ?_
 rw[cu.2 hl]
 refine Un.not (Br.no ?_)
 intro J7 _
 refine aa.jb (b:=1) (Br.T ?_)
 refine Nil.ptr (ag.mk (Ld.u (by rw[hC];exact .head _) ?_))
 refine hO.ho.ld (x:=((K.hold r:Nat):Int)) (bB hfit) (by rw[hC];exact bj.sub (.cons (.app (.app (.app .left))))) ?_
 rw[hf]
 exact aa.oW (Br.T (bK.mk (.refl _) rfl))
theorem wK(h:cF kp K ord ak tr C)(Ng:g6 K S fY zero')(Lw:Idle K){r:Nat}(hl:live K.N r)(hf:2≤r→K.hold r<65535):Fc Tryz.prog 121 #[ptr kp,u32 r] C (fun v C'=>v=.int .i64 0∧∃K',cF kp K' ord ak [] C'∧
  g6 K' S fY zero'∧Idle K'∧O2 K K' r∧(∀s,K.use s≤K'.use s)∧(2≤r→0<K'.use r)):=by
 have hr:=h.lt hl
 have h0:=h
 obtain⟨b,hC,hO⟩:=h
 refine aW fun g=>sr ?_
 refine aa.aC (Br.no (Nil.ptr (ag.mk ?_)))
 refine ae.eq (kE h0 (by omega)) ?_
 rw[cu.2 hl]
 refine Un.not (Br.no ?_)
 intro J7 Zw
 have fin:∀(K':Kd) C1,cF kp K' ord ak tr C1→g6 K' S fY zero'→Idle K'→O2 K K' r→(∀s,K.use s≤K'.use s)→(2≤r→0<K'.use r)→J7 [] C1:=fun K' C1 rF ru uV hm hu hp=>by
  refine Zw _ fun gs=>?_
  obtain⟨b',rfl,u3⟩:=rF
  refine Nil.ptr (ag.mk (St.one (by exact .head _) rfl (by simp[sE.cells]) rfl ?_))
  refine bN.mk (jk:=({b' with vt:=.slice none 0 0,CR:=[]}:sE).hp kp K'.n) ?_ ⟨rfl,K',⟨{b' with vt:=.slice none 0 0,CR:=[]},rfl,{u3 with tr:=aK.nil}⟩,ru,uV,hm,hu,hp⟩
  refine .cons (.cv (.cv (.cv (.cv (.cv (.cv .nil _) _) _) _) _) _)
 refine aa.jb (b:=1) (Br.dec (fun h2=>?_) (fun h2=>?_))
 rotate_left
 ·refine JE.mk (fin K C h0 Ng Lw ⟨rfl,rfl,rfl,rfl,fun s=>?_⟩ (fun _=>Nat.le_refl _) (fun h=>by omega))
  rw[if_neg (by omega)]
 have nq:2≤r:=by omega
 have JS:=hf nq
 obtain⟨d,hd⟩:∃d,K.N r=some d:=by
  rcases hl with hl|hl
  ·omega
  ·exact hl
 have SO:=Ng.fit hd
 have vC:=hO.ul
 have hfit:r<K.ho.length:=by omega
 subst hC
 refine Nil.ptr (ag.mk (Ld.f ?_))
 refine hO.ho.ld (x:=((K.hold r:Nat):Int)) (bB hfit) (bj.sub (.cons (.app (.app (.app .left))))) ?_
 refine aa.oW (Br.F ?_)
 refine Nil.ptr (ag.mk (Ld.f ?_))
 refine hO.ho.ld (x:=((K.hold r:Nat):Int)) (bB hfit) (bj.sub (.cons (.app (.app (.app .left))))) ?_
 refine aa.inc ?_
 refine hO.ho.g8 (x:=((K.hold r+1:Nat):Int)) (.cons (.app (.app (.app .left)))) (by rw[ah];exact hfit) fun F9 oz=>?_
 rw[eR]at oz
 have g1:∀s,(K.ho.set r (K.hold r+1)).getD s 0=if s=r then K.hold r+1 else K.hold s:=fun s=>fO hfit
 refine Nil.ptr (ag.mk (Ld.f ?_))
 refine oz.ld (x:=((K.hold r+1:Nat):Int)) (by rw[bB (by simpa using hfit),g1,if_pos rfl]) (bj.sub (.cons (.app (.app (.app .left))))) ?_
 refine aa.iK (b:=1) (Br.dec (fun h3=>?_) (fun h3=>?_))
 ·refine Nil.ptr (ag.mk (Ld.f ?_))
  refine hO.us.ld (x:=((K.use r:Nat):Int)) (bB SO) (bj.sub (.cons (.app (.app .left)))) ?_
  have TW:=qn Ng Lw (M:=0) (fun _=>Nat.le_refl _) r
  refine aa.inc ?_
  refine hO.us.g8 (x:=((K.use r+1:Nat):Int)) (.cons (.app (.app .left))) (by rw[ah];exact SO) fun JY uQ=>?_
  rw[eR]at uQ
  have g2:∀s,(K.us.set r (K.use r+1)).getD s 0=if s=r then K.use r+1 else K.use s:=fun s=>fO SO
  have hM:=Ng.keep (r:=r) (cP:=K.us.set r (K.use r+1)) (bE:=K.ho.set r (K.hold r+1)) ⟨d,hd⟩ JS (by simp) (by rw[g1,if_pos rfl]) (fun s hs=>by rw[g1,if_neg hs]) (by rw[g2,if_pos rfl,if_pos (by omega)]) (fun s hs=>by rw[g2,if_neg hs])
  refine JE.mk (fin {K with us:=K.us.set r (K.use r+1),ho:=K.ho.set r (K.hold r+1)} _ ⟨{b with CU:=JY,CH:=F9},rfl,{hO with us:=uQ,ho:=oz,ul:=by simp;exact vC}⟩ hM (fun s hs=>?_) ⟨rfl,rfl,rfl,rfl,fun s=>?_⟩ (fun s=>?_) (fun _=>?_))
  ·show(K.us.set r (K.use r+1)).getD s 0=0
   have hs':K.N s=none:=hs
   rw[g2,if_neg (fun e=>by rw[e,hd]at hs';cases hs')];exact Lw s hs'
  ·show(K.ho.set r (K.hold r+1)).getD s 0=_
   rw[g1]
   by_cases e:s=r
   ·subst e;rw[if_pos rfl,if_pos ⟨rfl,nq⟩]
   ·rw[if_neg e,if_neg (fun h=>e h.1)]
  ·show K.use s≤(K.us.set r (K.use r+1)).getD s 0
   rw[g2];split
   ·rename_i e;subst e;omega
   ·exact Nat.le_refl _
  ·show 0<(K.us.set r (K.use r+1)).getD r 0
   rw[g2,if_pos rfl];omega
 ·have hM:=Ng.keep (r:=r) (cP:=K.us) (bE:=K.ho.set r (K.hold r+1)) ⟨d,hd⟩ JS (by simp) (by rw[g1,if_pos rfl]) (fun s hs=>by rw[g1,if_neg hs]) (by show K.use r=_;rw[if_neg (by omega)];rfl) (fun s hs=>rfl)
  refine JE.mk (fin {K with ho:=K.ho.set r (K.hold r+1)} _ ⟨{b with CH:=F9},rfl,{hO with ho:=oz,ul:=by simp;exact vC}⟩ hM Lw ⟨rfl,rfl,rfl,rfl,fun s=>?_⟩ (fun _=>Nat.le_refl _) (fun _=>?_))
  rotate_left
  ·show 0<K.use r
   rw[Ng.use hd,if_neg (by omega)];omega
  show(K.ho.set r (K.hold r+1)).getD s 0=_
  rw[g1]
  by_cases e:s=r
  ·subst e;rw[if_pos rfl,if_pos ⟨rfl,nq⟩]
  ·rw[if_neg e,if_neg (fun h=>e h.1)]
theorem Lb(h:g7 kp K S ord ak tr C){r:Nat}(hl:live K.N r)(hf:2≤r→K.hold r<65535):Fc Tryz.prog 121 #[ptr kp,u32 r] C (fun v C'=>v=.int .i64 0∧∃K',g7 kp K' S ord ak [] C'∧O2 K K' r):=by
 refine(wK h.rep h.ok.mid h.idle hl hf).mono ?_
 rintro v C' ⟨rfl,K',rF,Tc,uV,hm,hu,hp⟩
 refine⟨rfl,K',⟨rF,⟨Tc,fun s d hs=>?_,by rw[hm.n];exact h.ok.lv,by rw[hm.n,hm.N];exact h.ok.wf⟩,by rw[hm.n];exact h.od,uV,trivial⟩,hm⟩
 rw[hm.N]at hs
 exact Nat.lt_of_lt_of_le (h.ok.pos s d hs) (hu s)
end
section
variable {kp:Nat} {K:Kd} {ord ak tr:List Nat} {C:Hp} {S:Nat→aU.Fn}
theorem KZ{K':Kd}{P:Nat→Nat}(hw:WF K.n (lv ak) K.N)(hM:g6 K' S fY P)(hN:∀{s d},K'.N s=some d→K.N s=some d)(hn:K'.n=K.n):WF K'.n (lv ak) K'.N:=by
 have same:∀{t},live K'.N t→dep K'.n (lv ak) K'.N t=dep K.n (lv ak) K.N t:=fun{t} ht=>by
  cases e:K'.N t with
  |some f=>rw[aE e,aE (hN e)]
  |none=>
   have Gd:t<2:=by
    rcases ht with ht|⟨f,hf⟩
    ·exact ht
    ·rw[e]at hf;cases hf
   rw[cj e,cj (hw.const Gd),hn]
 refine hM.wf fun{s d} hs=>?_
 rw[same (hM.lo hs),same (hM.hi hs)]
 exact⟨(hw.lo (hN hs)).2,(hw.hi (hN hs)).2⟩
structure Nn(K K':Kd)(r:Nat):Prop where
 n:K'.n=K.n
 cap:K'.cap=K.cap
 N:∀s d,K'.N s=some d→K.N s=some d
 hold:∀s,K'.hold s=if s=r∧2≤r then K.hold s-1 else K.hold s
theorem R2(h:g7 kp K S ord ak tr C){r:Nat}(hr:r<4294967296)(h2:2≤r)(h0:K.hold r=0):Rd Tryz.prog 131 #[ptr kp,u32 r] C (· =.int .i64 3):=by
 refine aW fun g=>sn ?_
 refine aa.aC (Br.no ?_)
 intro J2 _
 refine aa.jb (b:=1) (Br.T ?_)
 refine ae.eq (qX h.rep hr (fun s=>by have:=h.ir s;omega)) ?_
 rw[h0]
 exact aa.oW (Br.T (bK.mk (.refl _) rfl))
theorem n9(h:g7 kp K S ord ak tr C){r:Nat}(hr:r<4294967296)(hh:2≤r→K.hold r≠0):Fc Tryz.prog 131 #[ptr kp,u32 r] C (fun v C'=>v=.int .i64 0∧∃K',g7 kp K' S ord ak [] C'∧Nn K K' r):=by
 have h0:=h
 obtain⟨b,hC,hO⟩:=h.rep
 refine aW fun g=>sn ?_
 refine aa.aC (Br.no ?_)
 intro J2 yx
 have fin:∀(K':Kd) C1,cF kp K' ord ak tr C1→Ok K' S (lv ak)→Idle K'→Nn K K' r→J2 [] C1:=fun K' C1 rF ru uV hm=>by
  refine yx _ fun gs=>?_
  obtain⟨b',rfl,u3⟩:=rF
  refine Nil.ptr (ag.mk (St.one (by exact .head _) rfl (by simp[sE.cells]) rfl ?_))
  have Yz:Ord K'.n (lv ak) ord:=by rw[hm.n];exact h.od
  refine bN.mk (jk:=({b' with vt:=.slice none 0 0,CR:=[]}:sE).hp kp K'.n) ?_ ⟨rfl,K',⟨⟨{b' with vt:=.slice none 0 0,CR:=[]},rfl,{u3 with tr:=aK.nil}⟩,ru,Yz,uV,trivial⟩,hm⟩
  refine .cons (.cv (.cv (.cv (.cv (.cv (.cv .nil _) _) _) _) _) _)
 refine aa.jb (b:=1) (Br.dec (fun h2=>?_) (fun h2=>?_))
 rotate_left
 ·exact JE.mk (fin K C h.rep h.ok h.idle ⟨rfl,rfl,fun _ _ h=>h,fun s=>by rw[if_neg (by omega)]⟩)
 have nq:2≤r:=by omega
 have oz:=hh nq
 obtain⟨d,hd⟩:=h.ok.mid.held r oz
 have SO:=h.ok.mid.fit hd
 have vC:=hO.ul
 have hfit:r<K.ho.length:=by omega
 have hle:=h.ir r
 refine ae.eq (qX h.rep hr (fun s=>by have:=h.ir s;omega)) ?_
 refine aa.oW (Br.F ?_)
 subst hC
 refine Nil.ptr (ag.mk (Ld.f ?_))
 refine hO.ho.ld (x:=((K.hold r:Nat):Int)) (bB hfit) (bj.sub (.cons (.app (.app (.app .left))))) ?_
 refine aa.bX (b:=1) ?_
 refine hO.ho.g8 (x:=((K.hold r-1:Nat):Int)) (.cons (.app (.app (.app .left)))) (by rw[ah];exact hfit) fun F9 Uu=>?_
 rw[eR]at Uu
 have g1:∀s,(K.ho.set r (K.hold r-1)).getD s 0=if s=r then K.hold r-1 else K.hold s:=fun s=>fO hfit
 have hM:=h.ok.mid.drop (r:=r) (bE:=K.ho.set r (K.hold r-1)) (by omega) (by simp) (by rw[g1,if_pos rfl];omega) (fun s hs=>by rw[g1,if_neg hs])
 have rE:cF kp {K with ho:=K.ho.set r (K.hold r-1)} ord ak tr (({b with CH:=F9}:sE).hp kp K.n):=⟨_,rfl,{hO with ho:=Uu,ul:=by simp;exact vC}⟩
 have Wq:∀s,(K.ho.set r (K.hold r-1)).getD s 0=if s=r∧2≤r then K.hold s-1 else K.hold s:=fun s=>by
  rw[g1]
  by_cases e:s=r
  ·subst e;rw[if_pos rfl,if_pos ⟨rfl,nq⟩]
  ·rw[if_neg e,if_neg (fun h=>e h.1)]
 refine Nil.ptr (ag.mk (Ld.f ?_))
 refine Uu.ld (x:=((K.hold r-1:Nat):Int)) (by rw[bB (by simpa using hfit),g1,if_pos rfl]) (bj.sub (.cons (.app (.app (.app .left))))) ?_
 refine aa.iK (b:=0) (Br.dec (fun h3=>?_) (fun h3=>?_))
 rotate_left
 ·rw[if_neg (by omega)]at hM
  exact JE.mk (fin {K with ho:=K.ho.set r (K.hold r-1)} _ rE ⟨hM,h.ok.pos,h.ok.lv,h.ok.wf⟩ h.idle ⟨rfl,rfl,fun _ _ h=>h,Wq⟩)
 rw[if_pos (by omega)]at hM
 refine Nil.ptr (ag.mk ?_)
 have Gk:g6 {K with ho:=K.ho.set r (K.hold r-1)} S fY (fH zero' [r]):=hM.congr (fun _=>Iff.rfl) fun s _=>by
  unfold up fH zero'
  by_cases e:s=r
  ·subst e;simp
  ·simp[e,Ne.symm e]
 refine ae.fq (mP (P0:=zero') rE Gk h.ok.pos (fun t JV h0=>?_) (h.ei (.inr ⟨d,hd⟩)) (fun s=>by have:=h.GD s;show K.use s<_;omega)) ?_
 ·by_cases e:t=r
  ·subst e;exact⟨d,hd⟩
  ·have PE:0<zero' t+[r].count t:=h0
   simp[zero',Ne.symm e]at PE
 rintro w C2 ⟨rfl,K2,pI,Ta,MI,_,fC⟩
 refine JE.mk (fin K2 _ pI ⟨Ta,MI,by rw[fC.n];exact h.ok.lv,KZ h.ok.wf Ta (fun h=>fC.N h) fC.n⟩ (fC.idle h.idle) ⟨fC.n,fC.cap,fun s e hs=>fC.N hs,fun s=>?_⟩)
 show K2.ho.getD s 0=_
 rw[fC.ho]
 exact Wq s
structure Dx(K:Kd)(S:Nat→aU.Fn)(K':Kd)(S':Nat→aU.Fn)(f:aU.Fn)(r:Nat):Prop where
 n:K'.n=K.n
 cap:K'.cap=K.cap
 used:K'.used≤K.used+1
 N:∀s d,K.N s=some d→K'.N s=some d
 fn:∀s,live K.N s→S' s=S s
 live:live K'.N r
 is:S' r=f
 hold:∀s,K'.hold s=if s=r∧2≤r then K.hold s+1 else K.hold s
theorem KT(h:g7 kp K S ord ak tr C){v lo hi:Nat}(hv:v<K.n)(hlo:live K.N lo)(hhi:live K.N hi)(hlt:lo=hi∨(lv ak v<dep K.n (lv ak) K.N lo∧lv ak v<dep K.n (lv ak) K.N hi)):
  Fc Tryz.prog 164 #[ptr kp,.int .i64 (v:Int),u32 lo,u32 hi] C (fun w C'=>
   (∃r K' S',w=.tuple #[u32 r,.int .i64 0]∧g7 kp K' S' ord ak [] C'∧Dx K S K' S' (ite S ⟨v,lo,hi⟩) r)∨
   (∃r,w=.tuple #[u32 0,.int .i64 8]∧C'=C∧live K.N r∧2≤r∧K.hold r=65535∧S r=ite S ⟨v,lo,hi⟩)∨
   (w=.tuple #[u32 0,.int .i64 9]∧C'=C∧K.cap≤K.used∧lo≠hi∧K.T ⟨v,lo,hi⟩=none)):=by
 have h0:=h
 have YG:=h.ei hlo
 have YO:=h.ei hhi
 have zc:=cu.2 hlo
 have vD:=cu.2 hhi
 have YU:pO K ak (v:Int) lo hi=0:=by
  unfold pO
  rw[if_neg (by omega),if_neg (by rw[zc,vD];simp),if_neg]
  rintro⟨hne,hmin⟩
  rcases hlt with e|⟨a,b⟩
  ·exact hne e
  ·simp only[Int.toNat_natCast,lv]at hmin a b;omega
 refine aW fun g=>Bx ?_
 refine aa.aC (Br.no ?_)
 refine ae.eq (LV h.rep (v:Int) (by omega) (by omega) (fun r d hd=>⟨h.ok.mid.var hd,(h.ok.mid.two hd).1⟩)) ?_
 rw[YU]
 refine aa.fZ (Br.F ?_)
 refine ae.rq (Kv h.rep (lo:=lo) (hi:=hi) hv) ?_
 rintro w hw
 have there:∀(J9:List Value→Hp→Prop),(∀PJ:Value,∀Xm:Hp,(∀ZG:Fr,ae Tryz.prog g 121 #[ptr kp,PJ] Xm (fun VN Xl=>aa .num .neq VN (Value.int .i64 0) fun XH=>Br XH
   (bN (fun w C'=>(∃r K' S',w=.tuple #[u32 r,.int .i64 0]∧g7 kp K' S' ord ak [] C'∧Dx K S K' S' (ite S ⟨v,lo,hi⟩) r)∨
   (∃r,w=.tuple #[u32 0,.int .i64 8]∧C'=C∧live K.N r∧2≤r∧K.hold r=65535∧S r=ite S ⟨v,lo,hi⟩)∨
   (w=.tuple #[u32 0,.int .i64 9]∧C'=C∧K.cap≤K.used∧lo≠hi∧K.T ⟨v,lo,hi⟩=none)) (.returned (.tuple #[(Value.int .u32 0),VN])) Xl) (bN (fun w C'=>(∃r K' S',w=.tuple #[u32 r,.int .i64 0]∧g7 kp K' S' ord ak [] C'∧Dx K S K' S' (ite S ⟨v,lo,hi⟩) r)∨
   (∃r,w=.tuple #[u32 0,.int .i64 8]∧C'=C∧live K.N r∧2≤r∧K.hold r=65535∧S r=ite S ⟨v,lo,hi⟩)∨
   (w=.tuple #[u32 0,.int .i64 9]∧C'=C∧K.cap≤K.used∧lo≠hi∧K.T ⟨v,lo,hi⟩=none)) (.returned (.tuple #[PJ,(Value.int .i64 0)])) Xl)) (O1 (bN (fun w C'=>(∃r K' S',w=.tuple #[u32 r,.int .i64 0]∧g7 kp K' S' ord ak [] C'∧Dx K S K' S' (ite S ⟨v,lo,hi⟩) r)∨
   (∃r,w=.tuple #[u32 0,.int .i64 8]∧C'=C∧live K.N r∧2≤r∧K.hold r=65535∧S r=ite S ⟨v,lo,hi⟩)∨
   (w=.tuple #[u32 0,.int .i64 9]∧C'=C∧K.cap≤K.used∧lo≠hi∧K.T ⟨v,lo,hi⟩=none)))))→J9 [PJ] Xm)→
   ∀r,live K.N r→S r=ite S ⟨v,lo,hi⟩→J9 [u32 r] C:=fun J9 IT r hr hS=>by
  refine IT _ _ fun gs=>?_
  by_cases hf:2≤r∧K.hold r=65535
  ·refine ae.eq (Ep h hr hf.1 hf.2) ?_
   exact aa.fZ (Br.T (bN.here (.inr (.inl ⟨r,rfl,rfl,hr,hf.1,hf.2,hS⟩))))
  ·refine ae.fq (Lb h hr (fun h2=>by have:=h.ir r;omega)) ?_
   rintro w C' ⟨rfl,K',rF,hm⟩
   refine aa.fZ (Br.F (bN.here (.inl ⟨r,K',S,rfl,rF,⟨hm.n,hm.cap,by rw[hm.used];omega,fun s d hs=>by rw[hm.N];exact hs,fun _ _=>rfl,by rw[hm.N];exact hr,hS,hm.hold⟩⟩)))
 by_cases he:lo=hi
 ·rw[if_pos he]at hw
  subst hw
  refine Ext.two ?_
  intro J9 IT
  refine Un.not (Br.no (JE.mk (there J9 IT lo hlo ?_)))
  funext z
  unfold aU.ite
  simp[he]
 rw[if_neg he]at hw
 have l7:lv ak v<dep K.n (lv ak) K.N lo∧lv ak v<dep K.n (lv ak) K.N hi:=by
  rcases hlt with e|e
  ·exact absurd e he
  ·exact e
 obtain⟨o,ho⟩:∃o,o=K.T ⟨v,lo,hi⟩:=⟨_,rfl⟩
 cases o with
 |some r=>
  have hT:K.T ⟨v,lo,hi⟩=some r:=ho.symm
  rw[hT]at hw
  subst hw
  refine Ext.two ?_
  intro J9 IT
  have hN:=((h.ok.mid.gn _ r).1 hT).1
  refine Un.not (Br.no (JE.mk (there J9 IT r (.inr ⟨_,hN⟩) ?_)))
  funext z
  rw[h.ok.mid.int.node hN]
  rfl
 |none=>
  have hT:K.T ⟨v,lo,hi⟩=none:=ho.symm
  rw[hT]at hw
  subst hw
  refine Ext.two ?_
  intro J9 IT
  refine Un.not (Br.yes (Nil.ptr (ag.mk ?_)))
  have hcap:=h.ok.mid.cap
  refine ae.eq (wI h.rep (m:=1) (by omega) (by omega)) ?_
  refine Un.not ?_
  by_cases hroom:K.used+1≤K.cap
  rotate_left
  ·rw[decide_eq_false hroom]
   exact Br.yes (bN.here (.inr (.inr ⟨rfl,rfl,by omega,he,hT⟩)))
  rw[decide_eq_true hroom]
  refine Br.no (Nil.ptr (ag.mk ?_))
  refine Build.mk (cs:=bu ⟨v,lo,hi⟩) (by kernel_rfl) ?_
  have hfit:∀{t:Nat},live K.N t→t<2∨t<K.us.length:=fun ht'=>by
   rcases ht' with ht'|⟨d,dm⟩
   ·exact .inl ht'
   ·exact .inr (h.ok.mid.fit dm)
  have QO:K.n≤64:=by obtain⟨_,_,hO⟩:=h.rep;exact hO.Hs
  refine ae.fq (Co h.rep (d:=⟨v,lo,hi⟩) ⟨by show v<64;omega,hlo,hhi⟩ hv hT (by omega) (hfit hlo) (hfit hhi) (fun s=>by have:=h.GD s;omega)) ?_
  rintro w C1 ⟨r,cP,bE,rfl,hN,h2,hrc,hlen,T4,vC,u0,u1,u2,o0,o1,rE⟩
  have EJ:=h.ok.mid.lay (r:=r) (d:=⟨v,lo,hi⟩) hN ⟨h2,hrc⟩ hv he hlo hhi hT (fun h=>h) rfl (by omega) hlen ⟨T4,vC⟩ u0 u1 o0 o1
  have U3:∀s d,K.N s=some d→up K.N r (some ⟨v,lo,hi⟩) s=some d:=fun s d hs=>by rw[aI (fun e=>by rw[e,hN]at hs;cases hs)];exact hs
  have hne:∀{t:Nat},live K.N t→t≠r:=fun ht=>eJ ht h2 hN
  have Ix:Idle {K with N:=up K.N r (some ⟨v,lo,hi⟩),T:=ng K.T ⟨v,lo,hi⟩ (some r),used:=K.used+1,us:=cP,ho:=bE}:=fun s hs=>by
   have hs':up K.N r (some ⟨v,lo,hi⟩) s=none:=hs
   have H7:s≠r:=fun e=>by subst e;rw[aH]at hs';cases hs'
   rw[aI H7]at hs'
   show cP.getD s 0=0
   by_cases PC:2≤s
   ·rw[u1 s PC H7,h.idle s hs',dr]
    have a1:lo≠s:=fun e=>by
     rcases hlo with h5|⟨d,h5⟩
     ·omega
     ·rw[e,hs']at h5;cases h5
    have a2:hi≠s:=fun e=>by
     rcases hhi with h5|⟨d,h5⟩
     ·omega
     ·rw[e,hs']at h5;cases h5
    simp[a1,a2]
   ·rw[u2 s (by omega),h.idle s hs']
  refine JE.mk (IT _ _ fun gs=>?_)
  refine ae.fq (wK rE EJ Ix (r:=r) (.inr ⟨_,aH⟩) (fun _=>by show bE.getD r 0<65535;rw[o0];omega)) ?_
  rintro w C2 ⟨rfl,K2,pI,Gk,zf,hm,hu,hp⟩
  refine aa.fZ (Br.F ?_)
  have Ln:K2.n=K.n:=hm.n
  have RK:K2.N=up K.N r (some ⟨v,lo,hi⟩):=hm.N
  have hpos:Pos K2:=fun s d hs=>by
   by_cases e:s=r
   ·rw[e];exact hp h2
   ·rw[RK,aI e]at hs
    have h3:=hu s
    have h4:({K with N:=up K.N r (some ⟨v,lo,hi⟩),T:=ng K.T ⟨v,lo,hi⟩ (some r),used:=K.used+1,us:=cP,ho:=bE}:Kd).use s=cP.getD s 0:=rfl
    rw[h4,u1 s (h.ok.mid.two hs).1 e]at h3
    have:=h.ok.pos s d hs
    omega
  have zj:∀{t:Nat},live K.N t→dep K2.n (lv ak) K2.N t=dep K.n (lv ak) K.N t:=fun{t} ht=>by
   rw[RK,Ln]
   unfold dep
   rw[aI (hne ht)]
  have TQ:WF K2.n (lv ak) K2.N:=Gk.wf fun{s d} hs=>by
   rw[RK]at hs
   by_cases e:s=r
   ·rw[e,aH]at hs;cases hs
    rw[zj hlo,zj hhi];exact l7
   ·rw[aI e]at hs
    rw[zj (h.ok.wf.lo hs).1,zj (h.ok.wf.hi hs).1]
    exact⟨(h.ok.wf.lo hs).2,(h.ok.wf.hi hs).2⟩
  have hS:∀s,live K.N s→up S r (ite S ⟨v,lo,hi⟩) s=S s:=fun s hs=>aI (hne hs)
  refine bN.here (.inl ⟨r,K2,up S r (ite S ⟨v,lo,hi⟩),rfl,⟨pI,⟨Gk,hpos,by rw[Ln];exact h.ok.lv,TQ⟩,by rw[Ln];exact h.od,zf,trivial⟩,⟨Ln,hm.cap,by rw[hm.used];exact Nat.le_refl _,fun s d hs=>by rw[RK];exact U3 s d hs,hS,.inr ⟨_,by rw[RK];exact aH⟩,aH,fun s=>?_⟩⟩)
  rw[hm.hold]
  show(if s=r∧2≤r then bE.getD s 0+1 else bE.getD s 0)=_
  by_cases e:s=r
  ·subst e
   rw[if_pos ⟨rfl,h2⟩,if_pos ⟨rfl,h2⟩,o0]
   have:K.hold s=0:=by
    apply Decidable.byContradiction
    intro hne
    obtain⟨d,hd⟩:=h.ok.mid.held s hne
    rw[hN]at hd;cases hd
   omega
  ·rw[if_neg (fun h=>e h.1),if_neg (fun h=>e h.1),o1 s e]
end
theorem hnew{H:Hp}:bj [] H (fun X=>X++H):=bj.left
theorem HW{n:Nat}(hn:n≤64):Fc Tryz.prog 185 #[.int .i64 (n:Int)] [] (fun v H=>aK 3 .i64 v (iw (List.range n)) H):=by
 refine aW fun g=>Bf ?_
 refine br.ints (by omega) (by omega) fun b=>?_
 have h0:aK 3 .i64 (.slice (some ⟨b,0,none⟩) n n) (List.replicate n 0) [(b,.cells (az .i64 (List.replicate n 0)) 3 (0,0))]:=by
  have:=aK.made (T:=3) (kd:=.i64) (b:=b) (List.replicate n (0:Int))
  rw[List.length_replicate]at this;exact this
 refine⟨fun vs H=>∃j:Nat,vs=[.int .i64 (j:Int)]∧j≤n∧aK 3 .i64 (.slice (some ⟨b,0,none⟩) n n) (iw (List.range j)++List.replicate (n-j) 0) H,fun vs _=>n-aT vs 0,JE.mk ⟨0,rfl,by omega,by simpa[iw]using h0⟩,?_⟩
 rintro w H ⟨j,hw,hj,hs⟩ gs
 simp only[List.cons.injEq,and_true]at hw
 subst hw
 refine aa.cZ (Br.dec (fun hlt=>?_) (fun hlt=>?_))
 ·refine hs.g8 (x:=(j:Int)) .here (by simp;omega) fun C' hs'=>?_
  refine aa.inc ?_
  have e:(iw (List.range j)++List.replicate (n-j) 0).set j (j:Int)=iw (List.range (j+1))++List.replicate (n-(j+1)) 0:=by
   rw[List.set_append_right _ _ (by simp)]
   rw[show n-j=(n-(j+1))+1 by omega,List.replicate_succ,List.range_succ,cm]
   simp[iw]
  rw[e]at hs'
  exact aq.of (.refl _) ⟨j+1,rfl,by omega,hs'⟩ (by show n-(((j+1:Nat):Int).toNat)<n-(((j:Nat):Int).toNat);omega)
 ·obtain rfl:j=n:=by omega
  exact bN.here (by simpa using hs)
theorem wO{n:Nat}(hn:n≤64):Fc Tryz.prog 116 #[.int .i64 (n:Int)] [] (fun v H=>∃s,v=.tuple #[s,.int .i64 0]∧aK 3 .i64 s (iw (List.range n)) H):=by
 refine aW fun g=>B3 ?_
 refine aa.lss ?_
 rw[decide_eq_false (by omega)]
 refine dO.or false (fun _=>aa.gtr ⟨rfl,by rw[decide_eq_false (by omega)]⟩) rfl fun _=>Br.no ?_
 refine ae.fq (HW hn) ?_
 intro s H hs
 exact bN.here ⟨s,rfl,hs⟩
def K0(n cap:Nat):Kd:=⟨n,cap,2,fun _=>none,fun _=>none,[],[]⟩
def S0:Nat→aU.Fn:=fun r _=>decide (r=1)
theorem kB{n v:Nat}(hv:v<n):lv (List.range n) v=v:=by
 show(List.range n).getD v 0=v
 simp[List.getD,hv]
theorem Sk{n cap:Nat}(hc:2≤cap∧cap≤1048576):Ok (K0 n cap) S0 (lv (List.range n)):=by
 have c0:∀k,jX (fun _=>none) k=0:=fun k=>by induction k with|zero=>rfl|succ k ih=>rw[jX,ih];rfl
 have hm:g6 (K0 n cap) S0 fY zero':={
  two:=fun h=>nomatch h
  var:=fun h=>nomatch h
  ne:=fun h=>nomatch h
  lo:=fun h=>nomatch h
  hi:=fun h=>nomatch h
  int:=⟨fun _=>rfl,fun _=>rfl,fun h=>nomatch h⟩
  gn:=fun d r=>⟨fun h=>(nomatch h),fun h=>nomatch h.1⟩
  use:=fun h=>nomatch h
  len:=rfl
  fit:=fun h=>nomatch h
  held:=fun r h=>absurd (by simp[Kd.hold,K0]) h
  mx:=fun r=>by simp[Kd.hold,K0]
  room:=by show 2=2+jX (fun _=>none) _;rw[c0]
  cap:=hc}
 refine⟨hm,fun r d h=>(nomatch h),⟨fun v hv=>?_,fun u v hu hv h=>?_⟩,⟨fun h=>(nomatch h),fun h=>(nomatch h),fun h=>(nomatch h),fun h=>(nomatch h),fun h=>(nomatch h),fun h=>(nomatch h)⟩⟩
 ·have wP:v<n:=hv
  rw[kB wP];exact hv
 ·have uQ:u<n:=hu
  have wP:v<n:=hv
  rwa [kB uQ,kB wP]at h
theorem wm{pt n cap:Nat}{CT:Hp}(hu:kS pt n (fun _=>none) CT)(hc:2≤cap∧cap≤1048576):Fc Tryz.prog 118 #[.int .i64 (cap:Int),ptr pt] CT (fun v H=>∃pa CA,v=.tuple #[.agg #[ptr pa,ptr pt,.slice none 0 0,.slice none 0 0],.int .i64 0]∧fS pa cap 2 (fun _=>none) CA∧H=CA++CT):=by
 refine aW fun g=>B1 ?_
 intro b1 _
 refine ae.fn hnew (L9 hc) ?_
 rintro v C ⟨pa,rfl,hA⟩
 refine Ext.two ?_
 refine Build.mk (cs:=[ptr pa,ptr pt,.slice none 0 0,.slice none 0 0]) (by kernel_rfl) ?_
 refine St.q ?_
 refine av.q ?_
 exact bN.mk (.cv .tail _) ⟨pa,C,rfl,hA,rfl⟩
theorem NJ{n cap:Nat}(hn:1≤n∧n≤64)(hc:2≤cap∧cap≤1048576):Fc Tryz.prog 51 #[.int .i64 (n:Int),.int .i64 (cap:Int)] [] (fun v C=>∃kp,v=.tuple #[ptr kp,.int .i64 0]∧g7 kp (K0 n cap) S0 (List.range n) (List.range n) [] C):=by
 refine aW fun g=>FK ?_
 refine ae.fq (wO hn.2) ?_
 rintro v CO ⟨s,rfl,hO⟩
 obtain⟨sa,sl,sc,Yp⟩:∃a l c,s=Value.slice a l c:=by obtain⟨a,c,h⟩:=aO.len hO;exact⟨a,_,c,h⟩
 refine Ext.two ?_
 refine aa.fZ ?_
 refine dO.or false (fun _=>aa.lss ⟨rfl,by rw[decide_eq_false (by omega)]⟩) rfl fun gs=>?_
 refine dO.or false (fun _=>aa.lss ⟨rfl,by rw[decide_eq_false (by omega)]⟩) rfl fun gs=>?_
 refine dO.or false (fun _=>aa.gtr ⟨rfl,by rw[decide_eq_false (by omega)]⟩) rfl fun gs=>Br.no ?_
 refine ae.fn hnew (Ke hn) ?_
 rintro v CT ⟨pt,rfl,hT⟩
 refine Ext.two ?_
 refine aa.fZ (Br.no ?_)
 refine ae.fq (wm hT hc) ?_
 rintro v H ⟨pa,CA,rfl,hA,rfl⟩
 refine Ext.two ?_
 intro b24 _
 refine St.q ?_
 refine aa.fZ (Br.no (DR.self ?_))
 refine av.q ?_
 refine ae.fq (rU (hO.ints.mono fun _ h=>h) (by simp;omega)) ?_
 rintro v H ⟨CL,rfl,hL⟩
 obtain⟨la,ll,lc,hle⟩:∃a l c,v=Value.slice a l c:=by obtain⟨a,c,h⟩:=aO.len hL;exact⟨a,_,c,h⟩
 refine⟨(.cons (.cv .right _)),?_⟩
 subst Yp hle
 refine Build.mk (cs:=[ptr pa,ptr pt,.slice none 0 0,.slice none 0 0,.int .i64 (n:Int),.slice sa sl sc,.slice la ll lc,.slice none 0 0]) (by kernel_rfl) ?_
 intro Tj _
 refine⟨(.skip (.cons (.cv .right _))),?_⟩
 let kb:sE:=⟨pa,pt,.slice none 0 0,.slice none 0 0,.slice sa sl sc,.slice la ll lc,.slice none 0 0,CA,CT,[],[],CO,CL,[]⟩
 refine bN.mk (jk:=kb.hp Tj n) ?_ ⟨Tj,rfl,⟨kb,rfl,⟨hA,hT,aK.nil,aK.nil,hO,hL,aK.nil,⟨rfl,by simp[K0]⟩,hn.2,by simp[K0]⟩⟩,Sk hc,⟨by simp[K0],fun l hl=>?_⟩,fun s _=>by simp[Kd.use,K0],trivial⟩
 ·refine .cons (.skip ((aJ.assoc).trans ?_))
  show aJ (CA++(CT++(CL++CO))) (CA++(CT++([]++([]++(CO++(CL++[]))))))
  simp only[List.nil_append,List.append_nil]
  exact .cv (.cv (.perm List.perm_append_comm) _) _
 ·have hl':l<n:=hl
  have e:(List.range n).getD l 0=l:=kB hl'
  rw[e];exact⟨hl,kB hl'⟩
end Go.Proofs
namespace aU
def bc(ord path:List Nat):List Nat:=path.foldl dQ ord
theorem iP{ord path:List Nat}{l:Nat}:bc ord (path++[l])=dQ (bc ord path) l:=by simp[bc]
theorem qs{ord path q:List Nat}:bc ord (path++q)=bc (bc ord path) q:=by simp[bc]
theorem fe{ord:List Nat}:∀{path:List Nat},(bc ord path).length=ord.length:=by
 intro path
 unfold bc
 induction path generalizing ord with
 |nil=>rfl
 |cons l r ih=>rw[List.foldl_cons,ih];simp[dQ]
structure Rm where
 n:Nat
 size:List Nat→Nat
 fit:List Nat→Nat→Bool
def Rm.ct(m:Rm)(p:Nat):List Nat→List Nat→List Nat
 | [],_=>[]
 |c::cs,ord=>if m.fit ord (p+c)then(p+c)::m.ct p cs (dQ ord (p+c))else []
theorem Rm.nZ(m:Rm)(p:Nat):∀cs ord,(m.ct p cs ord).length≤cs.length
 | [],_=>by simp[ct]
 |c::cs,ord=>by
  rw[ct]
  split
  ·have:=m.nZ p cs (dQ ord (p+c));simp only[List.length_cons];omega
  ·simp
theorem Rm.xq(m:Rm)(p:Nat):∀cs ord i,i<(m.ct p cs ord).length→(m.ct p cs ord)[i]? =(cs[i]?).map (p+ ·)∧∃c,cs[i]? =some c∧m.fit (bc ord ((m.ct p cs ord).take i)) (p+c)=true
 | [],_,i,h=>by simp[ct]at h
 |c::cs,ord,i,h=>by
  by_cases hf:m.fit ord (p+c)=true
  ·rw[ct,if_pos hf]at h⊢
   cases i with
   |zero=>exact⟨by simp,c,rfl,hf⟩
   |succ i=>
    obtain⟨h1,c',h2,h3⟩:=m.xq p cs (dQ ord (p+c)) i (by simpa using h)
    exact⟨by simpa using h1,c',by simpa using h2,by simpa[bc]using h3⟩
  ·rw[ct,if_neg hf]at h;simp at h
theorem Rm.xw(m:Rm)(p:Nat):∀cs ord c,cs[(m.ct p cs ord).length]? =some c→m.fit (bc ord (m.ct p cs ord)) (p+c)=false
 | [],_,c,h=>by simp at h
 |c'::cs,ord,c,h=>by
  by_cases hf:m.fit ord (p+c')=true
  ·rw[ct,if_pos hf]at h⊢
   have:=m.xw p cs (dQ ord (p+c')) c (by simpa using h)
   simpa[bc]using this
  ·rw[ct,if_neg hf]at h⊢
   simp only[List.length_nil,List.getElem?_cons_zero,Option.some.injEq]at h
   subst h
   simpa[bc]using hf
end aU
set_option maxRecDepth 100000
namespace Go.Proofs
open Go Go.Sx
open aU
def At(kp:Nat)(K:Kd)(S:Nat→aU.Fn)(ord tr:List Nat)(C:Hp):Prop:=∃K' S' e8,g7 kp K' S' ord e8 tr C∧Kept K S K' S'
noncomputable def jZ(K:Kd)(S:Nat→aU.Fn)(ord:List Nat):Nat:=sz K.n ord (K.held S)
def jV(K:Kd)(S:Nat→aU.Fn)(ord:List Nat)(l:Nat):Prop:=vK K.n ord l (K.held S)+2≤K.cap
section
variable {kp:Nat} {K:Kd} {S:Nat→aU.Fn} {ord tr:List Nat} {C:Hp}
theorem g7.aZ{ak:List Nat}(h:g7 kp K S ord ak tr C):At kp K S ord tr C:=⟨K,S,ak,h,.refl _ _⟩
theorem HF{ak:List Nat}(h:g7 kp K S ord ak tr C):K.used=jZ K S ord+2:=by
 have h1:=Ml (h.ok.size h.od)
 have h2:=h.ok.mid.room
 unfold jZ
 omega
theorem HK{K':Kd}{S':Nat→aU.Fn}(h:Kept K S K' S')(ord:List Nat):jZ K' S' ord=jZ K S ord:=by
 unfold jZ;rw[h.n];exact GN h.held
theorem tL{K':Kd}{S':Nat→aU.Fn}(h:Kept K S K' S')(ord:List Nat)(l:Nat):jV K' S' ord l↔jV K S ord l:=by
 unfold jV;rw[h.n,h.cap,DL h.held]
theorem At.len(h:At kp K S ord tr C):ord.length=K.n:=by
 obtain⟨K',S',e8,h,hk⟩:=h
 rw[←hk.n];exact h.od.len
theorem At.Hs(h:At kp K S ord tr C):K.n≤64:=by
 obtain⟨K',S',e8,h,hk⟩:=h
 obtain⟨b,_,hO⟩:=h.rep
 rw[←hk.n];exact hO.Hs
theorem qh(h:At kp K S ord tr C):Rd Tryz.prog 15 #[ptr kp] C (· =.int .i64 ((jZ K S ord:Nat):Int)):=by
 obtain⟨K',S',e8,h,hk⟩:=h
 have hs:=HF h
 have hc:=h.ok.mid.cap
 refine(La h.rep (by omega) (by omega)).mono ?_
 rintro v H ⟨rfl,rfl⟩
 exact⟨rfl,by rw[hs,HK hk];rfl⟩
theorem og(h:At kp K S ord tr C):Rd Tryz.prog 34 #[ptr kp] C (· =.int .i64 ((tr.length:Nat):Int)):=by
 obtain⟨K',S',e8,h,hk⟩:=h
 exact Eo h.rep
theorem Dm(h:At kp K S ord tr C):Rd Tryz.prog 61 #[ptr kp] C (· =.int .i64 ((K.n:Nat):Int)):=by
 obtain⟨K',S',e8,h,hk⟩:=h
 rw[←hk.n];exact wH h.rep
theorem x4(h:At kp K S ord tr C):Fc Tryz.prog 13 #[ptr kp] C (fun r H=>∃N,H=N++C∧aK 3 .i64 r (iw ord) N):=by
 obtain⟨K',S',e8,h,hk⟩:=h
 exact tH h.rep
theorem Dp(h:At kp K S ord tr C){l:Nat}(hl:l+1<K.n)(lH:tr.length<1099511627776)(hf:jV K S ord l):Fc Tryz.prog 17 #[ptr kp,.int .i64 (l:Int)] C (fun r C'=>r=.int .i64 0∧At kp K S (dQ ord l) (tr++[l]) C'):=by
 obtain⟨K',S',e8,h,hk⟩:=h
 refine(Dd h (by rw[hk.n];exact hl) lH).mono ?_
 rintro v C' (⟨_,rfl,K2,S2,NN,h2,sD⟩|⟨hno,_,_⟩)
 ·exact⟨rfl,K2,S2,NN,h2,hk.trans sD⟩
 ·have:=(tL hk ord l).2 hf
  unfold jV at this;omega
theorem rZ(h:At kp K S ord tr C){l:Nat}(hl:l+1<K.n)(lH:tr.length<1099511627776)(hf:¬jV K S ord l):Rd Tryz.prog 17 #[ptr kp,.int .i64 (l:Int)] C (· =.int .i64 9):=by
 obtain⟨K',S',e8,h,hk⟩:=h
 refine(Dd h (by rw[hk.n];exact hl) lH).mono ?_
 rintro v C' (⟨TN,_⟩|⟨hno,rfl,rfl⟩)
 ·exact absurd ((tL hk ord l).1 TN) hf
 ·exact⟨rfl,rfl⟩
theorem L6{l:Nat}(h:At kp K S ord (tr++[l]) C)(lH:tr.length<1099511627776):Fc Tryz.prog 18 #[ptr kp] C (fun r C'=>r=.tuple #[.int .i64 (l:Int),.int .i64 0]∧At kp K S (dQ ord l) tr C'):=by
 obtain⟨K',S',e8,h,hk⟩:=h
 refine(Kf h lH).mono ?_
 rintro v C' ⟨rfl,_,K2,S2,NN,h2,sD⟩
 exact⟨rfl,K2,S2,NN,h2,hk.trans sD⟩
theorem L4{path:List Nat}(h:At kp K S (bc ord path) (tr++path) C)(hp:∀l∈path,l+1<K.n){k:Nat}(hk:k≤path.length)(lH:(tr++path).length<1099511627776):Fc Tryz.prog 145 #[ptr kp,.int .i64 ((tr.length+k:Nat):Int)] C (fun r C'=>
   r=.tuple #[.int .i64 ((path.length-k:Nat):Int),.int .i64 0]∧At kp K S (bc ord (path.take k)) (tr++path.take k) C'):=by
 have hlen:=h.len
 rw[fe]at hlen
 rw[List.length_append]at lH
 refine aW fun g=>BQ ?_
 refine aa.aC (Br.no ?_)
 intro J2 yx
 refine aa.lss ?_
 rw[decide_eq_false (by omega)]
 refine Split.go rfl ?_
 refine ae.eq (og h) ?_
 refine aa.gtr ?_
 rw[decide_eq_false (by rw[List.length_append];omega)]
 refine ay.mk ?_
 refine JE.mk (yx _ _ fun gs=>Br.no ?_)
 refine⟨fun vs H=>∃m,m≤path.length∧k≤m∧vs=[.int .i64 ((path.length-m:Nat):Int)]∧At kp K S (bc ord (path.take m)) (tr++path.take m) H,fun vs _=>path.length-aT vs 0,JE.mk ⟨path.length,Nat.le_refl _,hk,by simp,by simpa using h⟩,?_⟩
 rintro w H ⟨m,hm,hkm,hw,nm⟩ gs
 simp only[List.cons.injEq,and_true]at hw
 subst hw
 refine ae.eq (og nm) ?_
 refine aa.jb (Br.dec (fun hlt=>?_) (fun hlt=>?_))
 ·rw[List.length_append,List.length_take]at hlt
  obtain⟨m,rfl⟩:∃m',m=m'+1:=⟨m-1,by omega⟩
  have e:path.take (m+1)=path.take m++[path[m]]:=by rw[List.take_add_one,List.getElem?_eq_getElem (by omega)];rfl
  rw[e,←List.append_assoc,iP]at nm
  refine ae.fq (L6 nm (by simp;omega)) ?_
  rintro v C' ⟨rfl,h'⟩
  rw[p6 (by rw[fe,hlen];exact hp _ (List.getElem_mem _))]at h'
  refine aa.inc ?_
  refine aq.of (.refl _) ⟨m,by omega,by omega,by rw[show path.length-(m+1)+1=path.length-m by omega],h'⟩ ?_
  show path.length-(((path.length-(m+1)+1:Nat):Int).toNat)<path.length-(((path.length-(m+1):Nat):Int).toNat)
  omega
 ·rw[List.length_append,List.length_take]at hlt
  obtain rfl:m=k:=by omega
  exact bN.here ⟨rfl,nm⟩
end
end Go.Proofs
set_option maxRecDepth 100000
namespace Go.Proofs
open Go Go.Sx
open aU
noncomputable instance {K:Kd}{S:Nat→aU.Fn}{ord:List Nat}{l:Nat}:Decidable (jV K S ord l):=Nat.decLe _ _
noncomputable def rm(K:Kd)(S:Nat→aU.Fn):Rm:=⟨K.n,jZ K S,fun ord l=>decide (jV K S ord l)⟩
theorem yM{K:Kd}{S:Nat→aU.Fn}{ord:List Nat}{l:Nat}:(rm K S).fit ord l=true↔jV K S ord l:=by
 show decide (jV K S ord l)=true↔_
 exact decide_eq_true_iff
end Go.Proofs
namespace aU
open af
def ZP(m v:Nat):Nat:=if m.testBit v then m^^^2^v else m
def rest(m:Nat)(ord:List Nat):Nat→Nat
 |0=>m
 |k+1=>ZP (rest m ord k) (ord.getD k 0)
section
variable {n m o:Nat} {ord:List Nat} {F:Fn→Prop}
theorem getD_inj(hn:ord.Nodup){i j:Nat}(hi:i<ord.length)(hj:j<ord.length)(e:ord.getD i 0=ord.getD j 0):i=j:=by
 rw[List.getD_eq_getElem?_getD,List.getD_eq_getElem?_getD,List.getElem?_eq_getElem hi,List.getElem?_eq_getElem hj]at e
 exact(List.getElem_inj hn).1 e
theorem qt{l:Nat}(hl:l+1<ord.length):(dQ ord l).Perm ord:=by
 unfold dQ
 have e1:ord=ord.take l++ord.getD l 0::ord.getD (l+1) 0::ord.drop (l+2):=by
  conv=>lhs;rw[←List.take_append_drop l ord]
  congr 1
  rw[List.drop_eq_getElem_cons (by omega),List.drop_eq_getElem_cons (by omega)]
  simp[List.getD,List.getElem?_eq_getElem (show l<ord.length by omega),List.getElem?_eq_getElem hl]
 have ht:(ord.take l).length=l:=by simp;omega
 have e2:(ord.set l (ord.getD (l+1) 0)).set (l+1) (ord.getD l 0)=ord.take l++ord.getD (l+1) 0::ord.getD l 0::ord.drop (l+2):=by
  generalize hx:ord.getD l 0=x at*
  generalize hy:ord.getD (l+1) 0=y at*
  conv=>lhs;rw[e1]
  rw[List.set_append_right _ _ (by omega),ht,Nat.sub_self,List.set_cons_zero,List.set_append_right _ _ (by omega),ht,Nat.add_sub_cancel_left,List.set_cons_succ,List.set_cons_zero]
 rw[e2]
 conv=>rhs;rw[e1]
 exact List.Perm.append_left _ (List.Perm.swap _ _ _)
theorem gC:∀{path:List Nat} {ord:List Nat},(∀l∈path,l+1<ord.length)→(bc ord path).Perm ord
 | [],_,_=>.refl _
 |l::r,ord,h=>by
  show(bc (dQ ord l) r).Perm ord
  have h1:=h l (by simp)
  exact(gC fun x hx=>by rw[gp];exact h x (by simp[hx])).trans (qt h1)
end
section
variable {A B:Rm} {Q:List Nat→Prop}
structure Alike(A B:Rm)(Q:List Nat→Prop):Prop where
 n:A.n=B.n
 size:∀ord,Q ord→A.size ord=B.size ord
 fit:∀ord l,Q ord→l+1<A.n→A.fit ord l=B.fit ord l
 dQ:∀ord l,Q ord→l+1<A.n→Q (dQ ord l)
theorem Alike.ct(h:Alike A B Q){p:Nat}:∀{cs ord},(∀c∈cs,p+c+1<A.n)→Q ord→A.ct p cs ord=B.ct p cs ord
 | [],_,_,_=>rfl
 |c::cs,ord,hc,hq=>by
  have h1:=hc c (by simp)
  rw[Rm.ct,Rm.ct,h.fit ord _ hq h1,h.ct (fun c jR=>hc c (by simp[jR])) (h.dQ ord _ hq h1)]
end
def flat(n s:Nat):Rm:=⟨n,fun _=>s,fun _ _=>true⟩
def D4(n cap:Nat)(L:af.Fs):Rm:=⟨n,fun ord=>bL n ord L n,fun ord l=>decide ((kN n ord l L).length+2≤cap)⟩
end aU
set_option maxRecDepth 100000
namespace Go.Proofs
open Go Go.Sx
open aU
def rep(b a s:Nat):Value:=.agg #[.int .i64 (b:Int),.int .i64 (a:Int),.int .i64 (s:Int),.bool false]
end Go.Proofs
namespace aU
def iG(i:Nat):Nat→List Nat
 |0=>[]
 |j+1=>if i≤j then j::iG i j else []
theorem jJ{i j:Nat}(h:j≤i):iG i j=[]:=by
 cases j with
 |zero=>rfl
 |succ j=>rw[iG,if_neg (by omega)]
theorem fP{i j:Nat}(h:i≤j):iG i (j+1)=j::iG i j:=by rw[iG,if_pos h]
theorem Di{i l:Nat}:∀{j},l∈iG i j→i≤l∧l<j
 |0,h=>by simp[iG]at h
 |j+1,h=>by
  by_cases e:i≤j
  ·rw[fP e]at h
   rcases List.mem_cons.1 h with rfl|h
   ·omega
   ·have:=Di h;omega
  ·rw[jJ (by omega)]at h;simp at h
theorem vk(i:Nat):∀j,(iG i j).length=j-i
 |0=>by simp[iG]
 |j+1=>by
  by_cases e:i≤j
  ·rw[fP e,List.length_cons,vk i j];omega
  ·rw[jJ (by omega)];simp;omega
theorem vm{i k:Nat}:∀{j:Nat} {a:List Nat},i≤j→j<a.length→(k≤i→(bc a (iG i j)).getD k 0=if k=i then a.getD j 0 else a.getD k 0)
 |0,a,hi,hj,hk=>by
  obtain rfl:i=0:=by omega
  obtain rfl:k=0:=by omega
  simp[iG,bc]
 |j+1,a,hi,hj,hk=>by
  by_cases e:i≤j
  ·rw[fP e]
   show(bc (dQ a j) (iG i j)).getD k 0=_
   rw[vm (j:=j) e (by rw[gp];omega) hk,dK (by omega),dK (by omega)]
   by_cases h:k=i
   ·subst h;simp
   ·rw[if_neg h,if_neg h,if_neg (by omega),if_neg (by omega)]
  ·obtain rfl:i=j+1:=by omega
   rw[jJ (Nat.le_refl _)]
   show a.getD k 0=_
   split
   ·rename_i h;rw[h]
   ·rfl
def Gb(p:List Nat)(x:Nat):Nat:=p.idxOf x
def aS(p q:List Nat):Nat→List Nat
 |0=>[]
 |i+1=>aS p q i++iG i (Gb (bc p (aS p q i)) (q.getD i 0))
def path(p q:List Nat):List Nat:=aS p q q.length
theorem G8{p:List Nat}{x:Nat}(h:x∈p):Gb p x<p.length:=List.idxOf_lt_length_iff.2 h
theorem uF{p:List Nat}{x:Nat}(h:x∈p):p.getD (Gb p x) 0=x:=by
 have h1:=G8 h
 rw[List.getD_eq_getElem?_getD,List.getElem?_eq_getElem h1]
 show p[p.idxOf x]=x
 exact List.getElem_idxOf h1
section
variable {p q:List Nat}
theorem fE(hq:q.Nodup)(hp:p.Perm q):∀i,i≤q.length→(∀l∈aS p q i,l+1<p.length)∧(∀k,k<i→(bc p (aS p q i)).getD k 0=q.getD k 0)∧(i<q.length→i≤Gb (bc p (aS p q i)) (q.getD i 0)∧Gb (bc p (aS p q i)) (q.getD i 0)<p.length)
 |i,hi=>by
  have hlen:=hp.length_eq
  have base:(∀l∈aS p q i,l+1<p.length)∧(∀k,k<i→(bc p (aS p q i)).getD k 0=q.getD k 0):=by
   cases i with
   |zero=>exact⟨fun l hl=>by simp[aS]at hl,fun k hk=>absurd hk (Nat.not_lt_zero _)⟩
   |succ i=>
    obtain⟨h1,h2,h3⟩:=fE hq hp i (by omega)
    obtain⟨h4,h5⟩:=h3 (by omega)
    have hm:q.getD i 0∈bc p (aS p q i):=by
     have:q.getD i 0∈q:=by rw[List.getD_eq_getElem?_getD,List.getElem?_eq_getElem (show i<q.length by omega)];exact List.getElem_mem _
     exact((gC h1).trans hp).mem_iff.2 this
    refine⟨fun l hl=>?_,fun k hk=>?_⟩
    ·rcases List.mem_append.1 hl with hl|hl
     ·exact h1 l hl
     ·have:=Di hl;omega
    ·rw[aS,qs,vm h4 (by rw[fe];exact h5) (by omega)]
     split
     ·rename_i e;subst e;exact uF hm
     ·exact h2 k (by omega)
  refine⟨base.1,base.2,fun hlt=>?_⟩
  have hm:q.getD i 0∈bc p (aS p q i):=by
   have:q.getD i 0∈q:=by rw[List.getD_eq_getElem?_getD,List.getElem?_eq_getElem hlt];exact List.getElem_mem _
   exact((gC base.1).trans hp).mem_iff.2 this
  have h5:=G8 hm
  rw[fe]at h5
  refine⟨?_,h5⟩
  refine Classical.byContradiction fun eC=>?_
  have:=base.2 _ (Nat.lt_of_not_le eC)
  rw[uF hm]at this
  have:=getD_inj hq hlt (by omega) this
  omega
theorem nJ(hq:q.Nodup)(hp:p.Perm q):bc p (path p q)=q∧∀l∈path p q,l+1<p.length:=by
 obtain⟨h1,h2,_⟩:=fE hq hp q.length (Nat.le_refl _)
 refine⟨xH (by rw[fe];exact hp.length_eq) fun i hi=>h2 i ?_,h1⟩
 rw[fe,hp.length_eq]at hi;exact hi
theorem oG(hq:q.Nodup)(hp:p.Perm q):∀i,i≤q.length→(aS p q i).length≤i*p.length
 |0,_=>by simp[aS]
 |i+1,hi=>by
  have:=oG hq hp i (by omega)
  obtain⟨_,_,h3⟩:=fE hq hp i (by omega)
  rw[aS,List.length_append,vk,Nat.succ_mul]
  have:=(h3 (by omega)).2
  omega
end
end aU
namespace aU
open af
section
variable {n l:Nat} {ord:List Nat} {F G:Fn→Prop} {f c:Fn}
theorem tT:∀l g,fs ord (fun g=>F g∨G g) l g↔fs ord F l g∨fs ord G l g
 |0,g=>Iff.rfl
 |l+1,g=>by
  constructor
  ·rintro⟨f,hf,b,rfl⟩
   rcases(tT l f).1 hf with h|h
   ·exact .inl ⟨f,h,b,rfl⟩
   ·exact .inr ⟨f,h,b,rfl⟩
  ·rintro(⟨f,hf,b,rfl⟩|⟨f,hf,b,rfl⟩)
   ·exact⟨f,(tT l f).2 (.inl hf),b,rfl⟩
   ·exact⟨f,(tT l f).2 (.inr hf),b,rfl⟩
theorem dg(g:Fn):bC n ord (fun g=>F g∨G g) g↔bC n ord F g∨bC n ord G g:=by
 constructor
 ·rintro⟨l,hl,hf,hh⟩
  rcases(tT l g).1 hf with h|h
  ·exact .inl ⟨l,hl,h,hh⟩
  ·exact .inr ⟨l,hl,h,hh⟩
 ·rintro(⟨l,hl,hf,hh⟩|⟨l,hl,hf,hh⟩)
  ·exact⟨l,hl,(tT l g).2 (.inl hf),hh⟩
  ·exact⟨l,hl,(tT l g).2 (.inr hf),hh⟩
theorem iD{v:Nat}(h:¬eE f v)(x:Nat)(b:Bool):f (au x v b)=f x:=by
 have h0:f (au x v false)=f (au x v true):=Classical.byContradiction fun hne=>h ⟨x,hne⟩
 have h1:=iR x v
 conv=>rhs;rw[←h1]
 cases b<;>cases x.testBit v<;>simp[h0]
theorem u7(hi:∀j,j<l→¬eE f (ord.getD j 0)):∀k,k≤l→fs ord (fun g=>g=f) k f
 |0,_=>rfl
 |k+1,hk=>⟨f,u7 hi k (by omega),false,funext fun x=>(iD (hi k (by omega)) x false).symm⟩
theorem qb(hi:∀j,j<l→¬eE f (ord.getD j 0)):∀k,k≤l→∀g,fs ord (fun g=>g=f) k g→g=f
 |0,_,g,h=>h
 |k+1,hk,g,h=>by
  obtain⟨f',hf,b,rfl⟩:=h
  obtain rfl:=qb hi k (by omega) f' hf
  exact funext fun x=>iD (hi k (by omega)) x b
theorem tc(hi:∀j,j<l→¬eE f (ord.getD j 0)){b:Bool}(hc:c=fun x=>f (au x (ord.getD l 0) b)):
  (∀j,j<l+1→¬eE c (ord.getD j 0))∧∀g,bC n ord (fun g=>g=c) g→bC n ord (fun g=>g=f) g:=by
 have h1:fs ord (fun g=>g=f) (l+1) c:=⟨f,u7 hi l (Nat.le_refl _),b,hc⟩
 have h2:∀j,j<l+1→¬eE c (ord.getD j 0):=fun j hj=>rI (l+1) c h1 j hj
 refine⟨h2,?_⟩
 rintro g ⟨m,hm,hf,hh⟩
 by_cases e:m<l+1
 ·obtain rfl:=qb h2 m (by omega) g hf
  exact absurd hh (h2 m e)
 ·have key:∀d g,fs ord (fun g=>g=c) (l+1+d) g→fs ord (fun g=>g=f) (l+1+d) g:=fun d=>by
   induction d with
   |zero=>intro g hg;obtain rfl:=qb h2 (l+1) (Nat.le_refl _) g hg;exact h1
   |succ d ih=>rintro g ⟨f',JS,b',rfl⟩;exact⟨f',ih f' JS,b',rfl⟩
  obtain⟨d,rfl⟩:∃d,m=l+1+d:=⟨m-(l+1),by omega⟩
  exact⟨_,hm,key d g hf,hh⟩
theorem DU(hi:∀j,j<l→¬eE f (ord.getD j 0))(hl:l<n)(hh:eE f (ord.getD l 0)):bC n ord (fun g=>g=f) f:=⟨l,hl,u7 hi l (Nat.le_refl _),hh⟩
end
section
variable {K:Kd} {S:Nat→Fn} {ak:Nat→Nat} {ord:List Nat}
theorem Ok.below(h:Ok K S ak)(ho:Ord K.n ak ord){r l:Nat}(hr:live K.N r)(hl:l≤K.n)(hi:∀j,j<l→¬eE (S r) (ord.getD j 0)):l≤dep K.n ak K.N r:=by
 cases e:K.N r with
 |none=>rw[cj e];exact hl
 |some d=>
  rw[aE e]
  refine Classical.byContradiction fun hlt=>?_
  have l7:ak d.v<l:=Nat.lt_of_not_le hlt
  have:=hi _ l7
  rw[ho.of h.lv (h.mid.var e)]at this
  exact this (mX h.wf h.lv h.mid.int e)
theorem Ok.roomFor(h:Ok K S ak)(ho:Ord K.n ak ord){U:Fn→Prop}{k:Nat}(hk:ou U k)(hfit:k+2≤K.cap)(hU:∀g,bC K.n ord (K.held S) g→U g){d:Nd}
 (hlo:live K.N d.lo)(hhi:live K.N d.hi)(hne:d.lo≠d.hi)(hv:d.v<K.n)(hlt:ak d.v<dep K.n ak K.N d.lo∧ak d.v<dep K.n ak K.N d.hi)(hg:U (ite S d))(hT:K.T d=none):K.used<K.cap:=by
 have hs:=h.size ho
 have hu:=h.mid.room
 obtain⟨l1,a1,a2,a3⟩:=hs
 have Of:ite S d∉l1:=fun hm=>by
  obtain⟨r,e,hr,he⟩:=(kz h.wf h.lv ho h.mid.int (fun r hr=>.inr (h.mid.held r hr)) h.reach (ite S d)).1 ((a3 _).2 hm)
  have OJ:¬K.N r=some d:=fun hN=>by
   have:=(h.mid.gn d r).2 ⟨hN,fun x=>x⟩
   rw[hT]at this;cases this
  apply OJ
  have H7:S r=ite S d:=he.symm
  have Qq:e.v=d.v:=by
   have e1:=h.lv.lt e.v (h.mid.var hr)
   have e2:=h.lv.lt d.v hv
   rcases Nat.lt_trichotomy (ak e.v) (ak d.v)with hh|hh|hh
   ·exfalso
    obtain⟨z,hz⟩:=mX h.wf h.lv h.mid.int hr
    rw[H7]at hz
    apply hz
    unfold ite
    have i1:=h.wf.cy h.lv h.mid.int hlo (h.mid.var hr) (by omega)
    have i2:=h.wf.cy h.lv h.mid.int hhi (h.mid.var hr) (by omega)
    have UC:d.v≠e.v:=fun oz=>by rw[oz]at hh;omega
    simp only[ai,if_neg UC,i1,i2]
   ·exact h.lv.inj _ _ (h.mid.var hr) hv hh
   ·exfalso
    have hx:=h.wf.cy h.lv h.mid.int (r:=r) (.inr ⟨e,hr⟩) hv (by rw[aE hr];exact hh)
    apply hne
    refine h.wf.same h.lv h.mid.int hlo hhi fun x=>?_
    have i1:=h.wf.cy h.lv h.mid.int hlo hv hlt.1
    have i2:=h.wf.cy h.lv h.mid.int hhi hv hlt.2
    have q1:=hx x false
    have q2:=hx x true
    rw[H7]at q1 q2
    have q3:=q1.trans q2.symm
    unfold ite at q3
    simp only[ai,if_true,i1,i2,Bool.false_eq_true,if_false]at q3
    exact q3
  have jF:∀(b:Bool) x,S (if b then e.hi else e.lo) x=S (if b then d.hi else d.lo) x:=fun b x=>by
   rw[←h.wf.child h.lv h.mid.int hr x b,H7,Qq]
   have i1:=h.wf.cy h.lv h.mid.int hlo hv hlt.1
   have i2:=h.wf.cy h.lv h.mid.int hhi hv hlt.2
   unfold ite
   rw[ai,if_pos rfl,i1,i2]
   cases b<;>rfl
  have e1:e.lo=d.lo:=h.wf.same h.lv h.mid.int (h.mid.lo hr) hlo fun x=>jF false x
  have e2:e.hi=d.hi:=h.wf.same h.lv h.mid.int (h.mid.hi hr) hhi fun x=>jF true x
  have UD:∀a b:Nd,a.v=b.v→a.lo=b.lo→a.hi=b.hi→a=b:=fun a b h1 h2 h3=>by
   cases a;cases b;cases h1;cases h2;cases h3;rfl
  rw[hr,UD e d Qq e1 e2]
 obtain⟨l2,b1,b2,b3⟩:=hk
 have:=bH (l:=ite S d::l1) (l':=l2) (List.nodup_cons.2 ⟨Of,a1⟩) fun g IA=>by
  rcases List.mem_cons.1 IA with rfl|IA
  ·exact(b3 _).1 hg
  ·exact(b3 _).1 (hU g ((a3 g).2 IA))
 rw[List.length_cons]at this
 omega
end
end aU
namespace aU
open af
section
variable {n v:Nat} {bs:List Bool} {lo hi ws:List Nat}
theorem xF(x:Nat)(hx:x<2^n):bit (gU n bs) x=bs.getD x false:=by
 unfold bit gU
 have h:=nQ hx
 rw[List.getD_eq_getElem?_getD,List.getElem?_map,List.getElem?_range h]
 show(dS bs (x/64) 64).testBit (x%64)=_
 rw[cG,decide_eq_true (Nat.mod_lt _ (by decide)),Bool.true_and,Nat.div_add_mod]
theorem xE(hn:n≤16)(hl:bs.length=2^n):bO n (gU n bs):=by
 refine⟨hn,by simp[gU],fun w hw=>?_⟩
 obtain⟨i,hi,rfl⟩:=List.mem_map.1 hw
 rw[List.mem_range]at hi
 have:dS bs i 64&&&bQ n=dS bs i 64:=by
  apply Nat.eq_of_testBit_eq;intro j
  rw[Nat.testBit_and,ed,cG]
  by_cases h6:6≤n
  ·rw[if_pos h6]
   cases bs.getD (64*i+j) false<;>simp
  ·rw[if_neg h6]
   have EB:i=0:=by rw[qk (by omega)]at hi;omega
   subst EB
   by_cases hj:j<2^n
   ·simp[hj]
   ·have:bs.getD (64*0+j) false=false:=by
     rw[List.getD_eq_getElem?_getD,List.getElem?_eq_none (by omega)];rfl
    rw[this];simp
 rw[←this];exact Nat.and_le_right
def jI(n:Nat)(b:Bool):List Bool:=List.replicate (2^n) b
def bq(n:Nat)(b:Bool):List Nat:=gU n (jI n b)
theorem zG(hn:n≤16)(b:Bool):bO n (bq n b):=xE hn (by simp[jI])
theorem lJ(n:Nat)(b:Bool):dz n (bq n b)=fun _=>b:=by
 funext x
 unfold dz bq
 have hx:x%2^n<2^n:=Nat.mod_lt _ (Nat.two_pow_pos n)
 rw[xF _ hx,jI,List.getD_eq_getElem?_getD,List.getElem?_replicate,if_pos hx];rfl
theorem I2(h:∀v,v<n→¬eE (dz n ws) v)(x:Nat):dz n ws x=dz n ws 0:=by
 have key:∀k,k≤n→dz n ws (x%2^k)=dz n ws 0:=fun k=>by
  induction k with
  |zero=>intro _;rw[show x%2^0=0 from Nat.mod_one x]
  |succ k ih=>
   intro hk
   rw[←ih (by omega)]
   have e:x%2^(k+1)=au (x%2^k) k (x.testBit k):=by
    apply Nat.eq_of_testBit_eq;intro i
    rw[ai,Nat.testBit_mod_two_pow,Nat.testBit_mod_two_pow]
    by_cases e:i=k
    ·subst e;simp
    ·rw[if_neg e]
     congr 1
     exact decide_eq_decide.2 (by omega)
   rw[e,iD (h k (by omega))]
 have:=key n (Nat.le_refl _)
 rw[←this]
 unfold dz
 rw[Nat.mod_mod]
theorem mz(hn:n≤16)(hf:bO n ws)(b:Bool):ws=bq n b↔dz n ws=fun _=>b:=by
 constructor
 ·rintro rfl;exact lJ n b
 ·intro h;exact fm hf (zG hn b) (h.trans (lJ n b).symm)
theorem Vz:bit ws 0=dz n ws 0:=by unfold dz;rw[Nat.zero_mod]
end
end aU
