import Derived.Test.YtfgkdmbicjdeoaaGreatU2
import Derived.RangeFuncIn
import Derived.RangeFuncLeaves
import Derived.RangeFuncRecord
import Derived.RangeFuncSeq
set_option linter.unusedVariables false
set_option linter.unusedSimpArgs false
set_option linter.unusedSectionVars false
namespace aT
open af
variable {n:Nat} {ak:Nat→Nat} {N:fj} {S:Nat→Fn} {ord:List Nat} {K:Kd}
def pl(N:fj)(y r:Nat):Nat:=match N r with|some e=>if e.v=y then e.lo else r|none=>r
def ph(N:fj)(y r:Nat):Nat:=match N r with|some e=>if e.v=y then e.hi else r|none=>r
theorem Jh{y r:Nat}{e:Nd}(h:N r=some e)(hv:e.v=y):pl N y r=e.lo∧ph N y r=e.hi:=by simp[pl,ph,h,hv]
theorem Ji{y r:Nat}(h:∀e,N r=some e→e.v≠y):pl N y r=r∧ph N y r=r:=by
 unfold pl ph
 cases hr:N r with
 |none=>exact⟨rfl,rfl⟩
 |some e=>simp[h e hr]
theorem WF.half(h:WF n ak N)(hl:rW n ak)(hi:Interp N S){y l r:Nat}(hy:y<n∧ak y=l+1)(hr:live N r)(hd:l<dep n ak N r):
  (live N (pl N y r)∧l+1<dep n ak N (pl N y r))∧(live N (ph N y r)∧l+1<dep n ak N (ph N y r))∧∀z,S r z=if z.testBit y then S (ph N y r) z else S (pl N y r) z:=by
 by_cases e:∃e,N r=some e∧e.v=y
 ·obtain⟨e,he,hv⟩:=e
  obtain⟨p1,p2⟩:=Jh he hv
  rw[p1,p2]
  have h1:=h.lo he
  have h2:=h.hi he
  rw[hv,hy.2]at h1 h2
  exact⟨h1,h2,fun z=>by rw[hi.node he,hv]⟩
 ·have ho:∀e',N r=some e'→e'.v≠y:=fun e' h1 h2=>e ⟨e',h1,h2⟩
  obtain⟨p1,p2⟩:=Ji ho
  rw[p1,p2]
  have pK:l+1<dep n ak N r:=by
   rcases hr with hr|⟨e',he⟩
   ·rw[cg (h.const hr)]
    have:=hl.lt y hy.1;omega
   ·rw[aE he]at hd⊢
    have h1:=ho e' he
    refine Nat.lt_of_le_of_ne hd fun e2=>h1 (hl.inj _ _ (h.var he) hy.1 (by omega))
  exact⟨⟨hr,pK⟩,⟨hr,pK⟩,fun z=>by split<;>rfl⟩
theorem WF.Kc(h:WF n ak N)(hl:rW n ak)(hi:Interp N S){y l a b:Nat}(hy:y<n∧ak y=l+1)(ha:live N a)(hb:live N b)(da:l<dep n ak N a)(db:l<dep n ak N b)
 (h1:pl N y a=pl N y b)(h2:ph N y a=ph N y b):a=b:=by
 refine h.same hl hi ha hb fun z=>?_
 rw[(h.half hl hi hy ha da).2.2 z,(h.half hl hi hy hb db).2.2 z,h1,h2]
structure Cx where
 r:Nat
 d:Nd
 su:Nat
 sr:Nat
 pE:Nat
 pD:Nat
def jg(N:fj)(x y r:Nat)(d:Nd):Prop:=N r=some d∧d.v=x∧((∃e,N d.lo=some e∧e.v=y)∨∃e,N d.hi=some e∧e.v=y)
def j6(N:fj)(y r:Nat)(d:Nd):Cx:=⟨r,d,pl N y d.lo,ph N y d.lo,pl N y d.hi,ph N y d.hi⟩
structure Cw(N:fj)(x y:Nat)(l:List Cx):Prop where
 nd:(l.map Cx.r).Nodup
 mem:∀c,c∈l↔jg N x y c.r c.d∧c=j6 N y c.r c.d
def keys(x:Nat)(c:Cx):List Nd:=[⟨x,c.su,c.pE⟩,⟨x,c.sr,c.pD⟩]
structure Made(K:Kd)(x:Nat)(l:List Cx)(made:List Nd):Prop where
 nd:made.Nodup
 mem:∀k,k∈made↔(∃c∈l,k∈keys x c)∧K.T k=none∧k.lo≠k.hi
structure Nb(n:Nat)(ak:Nat→Nat)(x y l:Nat):Prop where
 xn:x<n
 yn:y<n
 lx:ak x=l
 ly:ak y=l+1
variable {x y l:Nat}
theorem Nb.ne(h:Nb n ak x y l):x≠y:=fun e=>by have h1:=h.lx;have h2:=h.ly;rw[e]at h1;omega
theorem Nb.yy(h:Nb n ak x y l):y<n∧ak y=l+1:=⟨h.yn,h.ly⟩
theorem iC(h:WF n ak N)(hl:rW n ak)(hi:Interp N S)(hb:Nb n ak x y l){r:Nat}{d:Nd}(hd:N r=some d)(hx:d.v=x){k:Nd}(hk:k∈keys x (j6 N y r d)):
  k.v=x∧(live N k.lo∧l+1<dep n ak N k.lo)∧(live N k.hi∧l+1<dep n ak N k.hi):=by
 have h1:=h.lo hd
 have h2:=h.hi hd
 rw[hx,hb.lx]at h1 h2
 have a:=h.half hl hi hb.yy h1.1 h1.2
 have b:=h.half hl hi hb.yy h2.1 h2.2
 simp only[keys,j6,List.mem_cons,List.not_mem_nil,or_false]at hk
 rcases hk with rfl|rfl
 ·exact⟨rfl,a.1,b.1⟩
 ·exact⟨rfl,a.2.1,b.2.1⟩
theorem q9(h:WF n ak N)(hl:rW n ak)(hi:Interp N S)(hb:Nb n ak x y l){r:Nat}{d:Nd}(hd:N r=some d)(hx:d.v=x)(z:Nat):
  S r z=if z.testBit y then ite S ⟨x,ph N y d.lo,ph N y d.hi⟩ z else ite S ⟨x,pl N y d.lo,pl N y d.hi⟩ z:=by
 have h1:=h.lo hd
 have h2:=h.hi hd
 rw[hx,hb.lx]at h1 h2
 have a:=(h.half hl hi hb.yy h1.1 h1.2).2.2 z
 have b:=(h.half hl hi hb.yy h2.1 h2.2).2.2 z
 rw[hi.node hd,hx,a,b]
 unfold ite
 simp only
 cases z.testBit x<;>cases z.testBit y<;>rfl
theorem gg(h:WF n ak N)(hl:rW n ak)(hi:Interp N S)(hb:Nb n ak x y l){k:Nd}(hk:k.v=x)(h1:live N k.lo∧l+1<dep n ak N k.lo)(h2:live N k.hi∧l+1<dep n ak N k.hi)(z:Nat)(b:Bool):
  ite S k (au z x b)=S (if b then k.hi else k.lo) z:=by
 unfold ite
 rw[hk,ai,if_pos rfl]
 cases b
 ·simp only[Bool.false_eq_true,if_false];exact h.cC hl hi h1.1 hb.xn (by rw[hb.lx];omega) z false
 ·simp only[if_true];exact h.cC hl hi h2.1 hb.xn (by rw[hb.lx];omega) z true
theorem gp(h:WF n ak N)(hl:rW n ak)(hi:Interp N S)(hb:Nb n ak x y l){k:Nd}(hk:k.v=x)(h1:live N k.lo∧l+1<dep n ak N k.lo)(h2:live N k.hi∧l+1<dep n ak N k.hi){u:Nat}(hu:u<n)(vU:ak u≤l+1)(hne:u≠x)(z:Nat)(b:Bool):
  ite S k (au z u b)=ite S k z:=by
 unfold ite
 rw[hk,ai,if_neg (Ne.symm hne),h.cC hl hi h1.1 hu (by omega),h.cC hl hi h2.1 hu (by omega)]
theorem mG(h:WF n ak N)(hl:rW n ak)(hi:Interp N S){r:Nat}{d:Nd}(hd:N r=some d):∃z,S r (au z d.v false)≠S r (au z d.v true):=by
 refine Classical.byContradiction fun hno=>h.ne hd (h.same hl hi (h.lo hd).1 (h.hi hd).1 fun z=>?_)
 have c1:=h.child hl hi hd z false
 have c2:=h.child hl hi hd z true
 simp only[Bool.false_eq_true,if_false,if_true]at c1 c2
 rw[←c1,←c2]
 exact Classical.byContradiction fun hne=>hno ⟨z,hne⟩
theorem Gu(h:WF n ak N)(hl:rW n ak)(hi:Interp N S)(hb:Nb n ak x y l){k:Nd}(hk:k.v=x)(hne:k.lo≠k.hi)(h1:live N k.lo∧l+1<dep n ak N k.lo)(h2:live N k.hi∧l+1<dep n ak N k.hi)
 {r:Nat}{d:Nd}(hd:N r=some d)(he:ite S k=S r):d=k:=by
 have hv:=h.var hd
 have W7:d.v=x:=by
  rcases Nat.lt_trichotomy (ak d.v) l with hlt|heq|hgt
  ·obtain⟨z,hz⟩:=mG h hl hi hd
   have PE:d.v≠x:=fun e=>by rw[e,hb.lx]at hlt;omega
   rw[←he,gp h hl hi hb hk h1 h2 hv (by omega) PE,gp h hl hi hb hk h1 h2 hv (by omega) PE]at hz
   exact absurd rfl hz
  ·exact hl.inj _ _ hv hb.xn (by rw[hb.lx];exact heq)
  ·refine absurd (h.same hl hi h1.1 h2.1 fun z=>?_) hne
   have c1:=gg h hl hi hb hk h1 h2 z false
   have c2:=gg h hl hi hb hk h1 h2 z true
   simp only[Bool.false_eq_true,if_false,if_true]at c1 c2
   have Vq:ak x<dep n ak N r:=by rw[aE hd,hb.lx];exact hgt
   rw[←c1,←c2,he,h.cC hl hi (.inr ⟨d,hd⟩) hb.xn Vq,h.cC hl hi (.inr ⟨d,hd⟩) hb.xn Vq]
 have c:∀(b:Bool) z,S (if b then k.hi else k.lo) z=S (if b then d.hi else d.lo) z:=fun(b:Bool) z=>by
  rw[←gg h hl hi hb hk h1 h2 z b,he,←W7,h.child hl hi hd z b]
 have e1:=h.same hl hi h1.1 (h.lo hd).1 (fun z=>by simpa using c false z)
 have e2:=h.same hl hi h2.1 (h.hi hd).1 (fun z=>by simpa using c true z)
 cases d;cases k;simp_all
theorem JL(h:WF n ak N)(hl:rW n ak)(hi:Interp N S)(hb:Nb n ak x y l){k k':Nd}(hk:k.v=x)(hk':k'.v=x)(h1:live N k.lo∧l+1<dep n ak N k.lo)(h2:live N k.hi∧l+1<dep n ak N k.hi)
 (rV:live N k'.lo∧l+1<dep n ak N k'.lo)(mR:live N k'.hi∧l+1<dep n ak N k'.hi)(he:ite S k=ite S k'):k=k':=by
 have c:∀(b:Bool) z,S (if b then k.hi else k.lo) z=S (if b then k'.hi else k'.lo) z:=fun(b:Bool) z=>by
  rw[←gg h hl hi hb hk h1 h2 z b,he,gg h hl hi hb hk' rV mR z b]
 have e1:=h.same hl hi h1.1 rV.1 (fun z=>by simpa using c false z)
 have e2:=h.same hl hi h2.1 mR.1 (fun z=>by simpa using c true z)
 cases k;cases k';simp_all
def ew(ord:List Nat)(l:Nat):List Nat:=(ord.set l (ord.getD (l+1) 0)).set (l+1) (ord.getD l 0)
theorem gS(ord:List Nat)(l:Nat):(ew ord l).length=ord.length:=by simp[ew]
theorem dD{i:Nat}(hl:l+1<ord.length):(ew ord l).getD i 0=if i=l then ord.getD (l+1) 0 else if i=l+1 then ord.getD l 0 else ord.getD i 0:=by
 unfold ew
 rw[List.getD_eq_getElem?_getD,List.getElem?_set,List.getElem?_set]
 by_cases e1:l+1=i
 ·subst e1
  rw[if_pos rfl,if_pos (by simp;omega),if_neg (by omega),if_pos rfl];rfl
 ·rw[if_neg e1]
  by_cases e2:l=i
  ·subst e2;rw[if_pos rfl,if_pos (by omega),if_pos rfl];rfl
  ·rw[if_neg e2,if_neg (fun e=>e2 e.symm),if_neg (fun e=>e1 e.symm),←List.getD_eq_getElem?_getD]
def pn(ak:Nat→Nat)(x y l:Nat):Nat→Nat:=fun v=>if v=x then l+1 else if v=y then l else ak v
theorem I3(hl:rW n ak)(hb:Nb n ak x y l):rW n (pn ak x y l):=by
 have MJ:=hl.lt y hb.yn
 rw[hb.ly]at MJ
 have key:∀v,v<n→v≠x→v≠y→ak v≠l∧ak v≠l+1:=fun v hv h1 h2=>⟨fun e=>h1 (hl.inj _ _ hv hb.xn (by rw[hb.lx];exact e)),fun e=>h2 (hl.inj _ _ hv hb.yn (by rw[hb.ly];exact e))⟩
 refine⟨fun v hv=>?_,fun u v hu hv he=>?_⟩
 ·unfold pn
  split
  ·exact MJ
  ·split
   ·omega
   ·exact hl.lt v hv
 ·unfold pn at he
  by_cases u1:u=x
  ·by_cases v1:v=x
   ·rw[u1,v1]
   ·rw[if_pos u1,if_neg v1]at he
    by_cases v2:v=y
    ·rw[if_pos v2]at he;omega
    ·rw[if_neg v2]at he;exact absurd he.symm (key v hv v1 v2).2
  ·rw[if_neg u1]at he
   by_cases u2:u=y
   ·rw[if_pos u2]at he
    by_cases v1:v=x
    ·rw[if_pos v1]at he;omega
    ·rw[if_neg v1]at he
     by_cases v2:v=y
     ·rw[u2,v2]
     ·rw[if_neg v2]at he;exact absurd he.symm (key v hv v1 v2).1
   ·rw[if_neg u2]at he
    by_cases v1:v=x
    ·rw[if_pos v1]at he;exact absurd he (key u hu u1 u2).2
    ·rw[if_neg v1]at he
     by_cases v2:v=y
     ·rw[if_pos v2]at he;exact absurd he (key u hu u1 u2).1
     ·rw[if_neg v2]at he;exact hl.inj _ _ hu hv he
theorem Ord.nb(ho:Ord n ak ord)(hl:l+1<n):Nb n ak (ord.getD l 0) (ord.getD (l+1) 0) l:=
 ⟨(ho.aS l (by omega)).1,(ho.aS (l+1) hl).1,(ho.aS l (by omega)).2,(ho.aS (l+1) hl).2⟩
theorem I2(ho:Ord n ak ord)(hl:l+1<n):Ord n (pn ak (ord.getD l 0) (ord.getD (l+1) 0) l) (ew ord l):=by
 have hb:=ho.nb hl
 refine⟨by rw[gS,ho.len],fun i hi=>?_⟩
 rw[dD (by rw[ho.len];exact hl)]
 unfold pn
 by_cases e1:i=l
 ·subst e1;rw[if_pos rfl];refine⟨hb.yn,?_⟩;rw[if_neg (Ne.symm hb.ne),if_pos rfl]
 ·rw[if_neg e1]
  by_cases e2:i=l+1
  ·subst e2;rw[if_pos rfl];refine⟨hb.xn,?_⟩;rw[if_pos rfl]
  ·rw[if_neg e2]
   obtain⟨h1,h2⟩:=ho.aS i hi
   refine⟨h1,?_⟩
   rw[if_neg,if_neg]
   ·exact h2
   ·intro e;rw[e,hb.ly]at h2;omega
   ·intro e;rw[e,hb.lx]at h2;omega
variable {F:Fn→Prop}
theorem yJ(hl:l+1<ord.length)(hne:ord.getD l 0≠ord.getD (l+1) 0):∀m,m≠l+1→∀g,fs (ew ord l) F m g↔fs ord F m g
 |0,_,g=>Iff.rfl
 |m+1,hm,g=>by
  by_cases e:m=l+1
  ·subst e
   have g1:(ew ord l).getD (l+1) 0=ord.getD l 0:=by rw[dD hl,if_neg (by omega),if_pos rfl]
   have g2:(ew ord l).getD l 0=ord.getD (l+1) 0:=by rw[dD hl,if_pos rfl]
   have ih:=yJ hl hne l (by omega)
   constructor
   ·rintro⟨f,⟨f',h,b,rfl⟩,b',rfl⟩
    refine⟨_,⟨f',(ih f').1 h,b',rfl⟩,b,?_⟩
    funext z
    rw[g1,g2]
    show f' _=f' _
    rw[dy hne]
   ·rintro⟨f,⟨f',h,b,rfl⟩,b',rfl⟩
    refine⟨_,⟨f',(ih f').2 h,b',rfl⟩,b,?_⟩
    funext z
    rw[g1,g2]
    show f' _=f' _
    rw[dy (Ne.symm hne)]
  ·have ih:=yJ hl hne m e
   have hg:(ew ord l).getD m 0=ord.getD m 0:=by rw[dD hl,if_neg (by omega),if_neg e]
   constructor
   ·rintro⟨f,h,b,rfl⟩;exact⟨f,(ih f).1 h,b,by rw[hg]⟩
   ·rintro⟨f,h,b,rfl⟩;exact⟨f,(ih f).2 h,b,by rw[hg]⟩
theorem Fw(h:Ok K S ak)(ho:Ord K.n ak ord)(yp:l+1<K.n){all:List Cx}(hc:Cw K.N (ord.getD l 0) (ord.getD (l+1) 0) all){made:List Nd}(hm:Made K (ord.getD l 0) all made):
  oH (fun g=>bq K.n ord (K.held S) g∨bq K.n (ew ord l) (K.held S) g) (K.used-2+made.length):=by
 have hb:=ho.nb yp
 have hlen:l+1<ord.length:=by rw[ho.len];exact yp
 have hw:=h.wf
 have hlv:=h.lv
 have hi:=h.mid.int
 have hR:∀r,K.hold r≠0→live K.N r:=fun r hr=>.inr (h.mid.held r hr)
 generalize hx:ord.getD l 0=x at*
 generalize hy:ord.getD (l+1) 0=y at*
 have jc:∀k∈made,k.v=x∧(live K.N k.lo∧l+1<dep K.n ak K.N k.lo)∧(live K.N k.hi∧l+1<dep K.n ak K.N k.hi):=fun k hk=>by
  obtain⟨⟨c,G9,hkc⟩,_⟩:=(hm.mem k).1 hk
  obtain⟨⟨hd,G6,_⟩,e⟩:=(hc.mem c).1 G9
  rw[e]at hkc
  exact iC hw hlv hi hb hd G6 hkc
 obtain⟨dom,d1,d2,d3⟩:=h.dom
 have c1:=tA hw hlv hi d1 d3
 rw[show dom.length=K.used-2 by omega]at c1
 have c2:oH (fun g=>∃k∈made,g=ite S k) made.length:=by
  refine⟨made.map (ite S),?_,by simp,fun g=>?_⟩
  ·refine List.pairwise_map.2 (hm.nd.imp_of_mem fun{a b} ha hb' hne heq=>hne ?_)
   obtain⟨a1,a2,a3⟩:=jc a ha
   obtain⟨b1,b2,b3⟩:=jc b hb'
   exact JL hw hlv hi hb a1 b1 a2 a3 b2 b3 heq
  ·rw[List.mem_map]
   constructor
   ·rintro⟨k,hk,rfl⟩;exact⟨k,hk,rfl⟩
   ·rintro⟨k,hk,rfl⟩;exact⟨k,hk,rfl⟩
 refine(c1.or c2 ?_).congr fun g=>?_
 ·rintro g ⟨r,d,hd,rfl⟩ ⟨k,hk,he⟩
  obtain⟨a1,a2,a3⟩:=jc k hk
  obtain⟨_,hT,hne⟩:=(hm.mem k).1 hk
  have:=Gu hw hlv hi hb a1 hne a2 a3 hd he.symm
  subst this
  rw[(h.mid.gj d r).2 ⟨hd,fun x=>x⟩]at hT;cases hT
 ·have Ti:=jQ hw hlv ho hi hR h.reach
  have mQ:=fun m (hmn:m≤K.n) g=>Ku hw hlv ho hi hR m hmn g
  have hne:ord.getD l 0≠ord.getD (l+1) 0:=by rw[hx,hy];exact hb.ne
  have MO:=yJ (F:=K.held S) hlen hne
  have gl:(ew ord l).getD l 0=y:=by rw[dD hlen,if_pos rfl,hy]
  have VQ:(ew ord l).getD (l+1) 0=x:=by rw[dD hlen,if_neg (by omega),if_pos rfl,hx]
  have go:∀m,m≠l→m≠l+1→(ew ord l).getD m 0=ord.getD m 0:=fun m h1 h2=>by rw[dD hlen,if_neg h1,if_neg h2]
  constructor
  ·rintro(⟨r,d,hd,rfl⟩|⟨k,hk,rfl⟩)
   ·exact .inl ((Ti _).2 ⟨r,d,hd,rfl⟩)
   ·obtain⟨a1,a2,a3⟩:=jc k hk
    obtain⟨⟨c,G9,hkc⟩,hT,M0⟩:=(hm.mem k).1 hk
    obtain⟨⟨hd,G6,_⟩,e⟩:=(hc.mem c).1 G9
    refine .inr ⟨l+1,yp,?_,?_⟩
    ·have hA:=Mb hw h.reach _ c.r c.d hd (Nat.le_refl _)
     rw[G6,hb.lx]at hA
     refine⟨S c.r,(MO l (by omega) _).2 ((mQ l (by omega) _).2 ⟨c.r,hA,rfl⟩),?_⟩
     have LG:=q9 hw hlv hi hb hd G6
     rw[e]at hkc
     simp only[keys,j6,List.mem_cons,List.not_mem_nil,or_false]at hkc
     rw[gl]
     rcases hkc with rfl|rfl
     ·refine⟨false,?_⟩
      funext z
      rw[LG,ai,if_pos rfl,if_neg (by simp),gp hw hlv hi hb rfl a2 a3 hb.yn (by rw[hb.ly];exact Nat.le_refl _) (Ne.symm hb.ne)]
     ·refine⟨true,?_⟩
      funext z
      rw[LG,ai,if_pos rfl,if_pos rfl,gp hw hlv hi hb rfl a2 a3 hb.yn (by rw[hb.ly];exact Nat.le_refl _) (Ne.symm hb.ne)]
    ·rw[VQ]
     refine Classical.byContradiction fun hno=>M0 (hw.same hlv hi a2.1 a3.1 fun z=>?_)
     have c1:=gg hw hlv hi hb a1 a2 a3 z false
     have c2:=gg hw hlv hi hb a1 a2 a3 z true
     simp only[Bool.false_eq_true,if_false,if_true]at c1 c2
     rw[←c1,←c2]
     exact Classical.byContradiction fun hne=>hno ⟨z,hne⟩
  ·rintro(hg|⟨m,hmn,hf,hh⟩)
   ·exact .inl ((Ti g).1 hg)
   ·by_cases e1:m=l+1
    ·subst e1
     rw[VQ]at hh
     obtain⟨f,hf,b,rfl⟩:=hf
     rw[gl]at hh⊢
     obtain⟨r,hA,rfl⟩:=(mQ l (by omega) f).1 ((MO l (by omega) f).1 hf)
     obtain⟨hlr,hle⟩:=oI hw hR l r hA
     have hgt:dep K.n ak K.N r=l:=by
      refine Nat.le_antisymm (Nat.le_of_not_lt fun hlt=>?_) hle
      obtain⟨z,hz⟩:=hh
      refine hz ?_
      show S r (au (au z x false) y b)=S r (au (au z x true) y b)
      rw[dy hb.ne,dy hb.ne,hw.cC hlv hi hlr hb.xn (by rw[hb.lx];exact hlt),hw.cC hlv hi hlr hb.xn (by rw[hb.lx];exact hlt)]
     rcases hlr with oq|⟨d,hd⟩
     ·rw[cg (hw.const oq)]at hgt;omega
     ·rw[aE hd]at hgt
      have G6:d.v=x:=hlv.inj _ _ (hw.var hd) hb.xn (by rw[hb.lx];exact hgt)
      have LG:=q9 hw hlv hi hb hd G6
      have hkk:∃k∈keys x (j6 K.N y r d),(fun z=>S r (au z y b))=ite S k:=by
       cases b
       ·refine⟨_,List.mem_cons_self,?_⟩
        obtain⟨a1,a2,a3⟩:=iC hw hlv hi hb hd G6 (k:=⟨x,pl K.N y d.lo,pl K.N y d.hi⟩) List.mem_cons_self
        funext z
        rw[LG,ai,if_pos rfl,if_neg (by simp),gp hw hlv hi hb rfl a2 a3 hb.yn (by rw[hb.ly];exact Nat.le_refl _) (Ne.symm hb.ne)];rfl
       ·refine⟨_,List.mem_cons_of_mem _ List.mem_cons_self,?_⟩
        obtain⟨a1,a2,a3⟩:=iC hw hlv hi hb hd G6 (k:=⟨x,ph K.N y d.lo,ph K.N y d.hi⟩) (List.mem_cons_of_mem _ List.mem_cons_self)
        funext z
        rw[LG,ai,if_pos rfl,if_pos rfl,gp hw hlv hi hb rfl a2 a3 hb.yn (by rw[hb.ly];exact Nat.le_refl _) (Ne.symm hb.ne)];rfl
      obtain⟨k,hkm,XD⟩:=hkk
      obtain⟨a1,a2,a3⟩:=iC hw hlv hi hb hd G6 hkm
      rw[XD]at hh⊢
      have M0:k.lo≠k.hi:=fun e=>by
       obtain⟨z,hz⟩:=hh
       have c1:=gg hw hlv hi hb a1 a2 a3 z false
       have c2:=gg hw hlv hi hb a1 a2 a3 z true
       simp only[Bool.false_eq_true,if_false,if_true]at c1 c2
       rw[c1,c2,e]at hz;exact hz rfl
      cases hT:K.T k with
      |some s=>
       have hs:=((h.mid.gj k s).1 hT).1
       refine .inl ⟨s,k,hs,?_⟩
       funext z
       exact(hi.node hs z).symm
      |none=>
       by_cases Ni:jg K.N x y r d
       ·exact .inr ⟨k,(hm.mem k).2 ⟨⟨j6 K.N y r d,(hc.mem _).2 ⟨Ni,rfl⟩,hkm⟩,hT,M0⟩,rfl⟩
       ·have hno:∀t,t=d.lo∨t=d.hi→pl K.N y t=t∧ph K.N y t=t:=fun t ht=>Ji fun e he hv=>Ni ⟨hd,G6,by
         rcases ht with rfl|rfl
         ·exact .inl ⟨e,he,hv⟩
         ·exact .inr ⟨e,he,hv⟩⟩
        have e1:=hno d.lo (.inl rfl)
        have e2:=hno d.hi (.inr rfl)
        have:k=d:=by
         simp only[keys,j6,e1.1,e1.2,e2.1,e2.2,List.mem_cons,List.not_mem_nil,or_false,or_self]at hkm
         rw[hkm,←G6]
        rw[this,(h.mid.gj d r).2 ⟨hd,fun x=>x⟩]at hT;cases hT
    ·by_cases e2:m=l
     ·subst e2
      rw[gl]at hh
      obtain⟨r,hA,rfl⟩:=(mQ m (by omega) g).1 ((MO m e1 g).1 hf)
      obtain⟨hlr,hle⟩:=oI hw hR m r hA
      rcases hlr with oq|⟨d,hd⟩
      ·obtain⟨z,hz⟩:=hh
       have:∀z,S r z=S r 0:=fun z=>by
        have:r=0∨r=1:=by omega
        rcases this with rfl|rfl
        ·rw[hi.zero,hi.zero]
        ·rw[hi.one,hi.one]
       rw[this (au z y false),this (au z y true)]at hz
       exact absurd rfl hz
      ·exact .inl ⟨r,d,hd,rfl⟩
     ·refine .inl ((Ti g).1 ⟨m,hmn,(MO m e1 g).1 hf,?_⟩)
      rw[go m e2 e1]at hh;exact hh
end aT
namespace aT
open af
def pc(K:Kd)(ak:Nat→Nat)(l t:Nat):Prop:=live K.N t∧l+1<dep K.n ak K.N t
def sC(K0 K:Kd)(ak:Nat→Nat)(x l t:Nat):Prop:=pc K0 ak l t∨∃e,K.N t=some e∧e.v=x∧pc K0 ak l e.lo∧pc K0 ak l e.hi
structure TI(K0:Kd)(S0:Nat→Fn)(ak:Nat→Nat)(x y l:Nat)(made:List Nd)(K:Kd)(S:Nat→Fn)(done rest:List Cx)(P:Nat→Nat):Prop where
 mid:gK K S (fun s=>∃c∈rest,s=c.r) P
 n:K.n=K0.n
 cap:K.cap=K0.cap
 hold:∀r,K.hold r=K0.hold r
 ext:∀r,live K0.N r→S r=S0 r
 old:∀{r d},K0.N r=some d→r∉done.map Cx.r→K.N r=some d
 kept:∀{r d},K0.N r=some d→∃d',K.N r=some d'
 new:∀{r d},K.N r=some d→(K0.N r=some d∧r∉done.map Cx.r)∨(r∈done.map Cx.r∧d.v=y∧sC K0 K ak x l d.lo∧sC K0 K ak x l d.hi)∨(K0.N r=none∧d.v=x∧pc K0 ak l d.lo∧pc K0 ak l d.hi)
 used:K.used=K0.used+(made.filter fun k=>(K.T k).isSome).length
structure TB(K0:Kd)(S0:Nat→Fn)(ak:Nat→Nat)(x y l:Nat)(all:List Cx)(made:List Nd):Prop where
 ok:Ok K0 S0 ak
 nb:Nb K0.n ak x y l
 cx:Cw K0.N x y all
 OZ:Made K0 x all made
 room:K0.used+made.length≤K0.cap
section
variable {K0 K:Kd} {S0 S:Nat→Fn} {ak:Nat→Nat} {x y l:Nat} {made:List Nd} {done rest all:List Cx} {P:Nat→Nat}
theorem TB.j7(b:TB K0 S0 ak x y l all made){c:Cx}(hc:c∈all):K0.N c.r=some c.d∧c.d.v=x∧c=j6 K0.N y c.r c.d:=by
 obtain⟨⟨h1,h2,_⟩,h3⟩:=(b.cx.mem c).1 hc
 exact⟨h1,h2,h3⟩
theorem TB.Jw(b:TB K0 S0 ak x y l all made){c:Cx}(hc:c∈all):(pc K0 ak l c.su∧pc K0 ak l c.pE)∧(pc K0 ak l c.sr∧pc K0 ak l c.pD):=by
 obtain⟨h1,h2,h3⟩:=b.j7 hc
 have k1:=iC b.ok.wf b.ok.lv b.ok.mid.int b.nb h1 h2 (k:=⟨x,pl K0.N y c.d.lo,pl K0.N y c.d.hi⟩) List.mem_cons_self
 have k2:=iC b.ok.wf b.ok.lv b.ok.mid.int b.nb h1 h2 (k:=⟨x,ph K0.N y c.d.lo,ph K0.N y c.d.hi⟩) (List.mem_cons_of_mem _ List.mem_cons_self)
 rw[h3]
 exact⟨⟨k1.2.1,k1.2.2⟩,⟨k2.2.1,k2.2.2⟩⟩
theorem TB.level(b:TB K0 S0 ak x y l all made){c:Cx}(hc:c∈all):dep K0.n ak K0.N c.r=l:=by
 obtain⟨h1,h2,_⟩:=b.j7 hc
 rw[aE h1,h2,b.nb.lx]
theorem TB.start(b:TB K0 S0 ak x y l all made){T:Nd→Option Nat}(hm:gK {K0 with T:=T} S0 (fun s=>∃c∈all,s=c.r) zero')(hT:∀d,T d=none∨T d=K0.T d):
  TI K0 S0 ak x y l made {K0 with T:=T} S0 [] all zero' where
 mid:=hm
 n:=rfl
 cap:=rfl
 hold:=fun _=>rfl
 ext:=fun _ _=>rfl
 old:=fun h _=>h
 kept:=fun h=>⟨_,h⟩
 new:=fun h=>.inl ⟨h,by simp⟩
 used:=by
  have:made.filter (fun k=>(T k).isSome)=[]:=by
   rw[List.filter_eq_nil_iff]
   intro k hk
   have h1:=((b.OZ.mem k).1 hk).2.1
   rcases hT k with h2|h2
   ·rw[h2];simp
   ·rw[h2,h1];simp
  show K0.used=K0.used+(made.filter (fun k=>(T k).isSome)).length
  rw[this];simp
theorem TI.Jy(b:TB K0 S0 ak x y l all made)(h:TI K0 S0 ak x y l made K S done rest P)(hd:∀c∈done,c∈all){t:Nat}(ht:pc K0 ak l t):K.N t=K0.N t:=by
 rcases ht with⟨ht|⟨d,dh⟩,hlt⟩
 ·cases e:K.N t with
  |none=>rw[b.ok.wf.const ht]
  |some d=>have:=(h.mid.two e).1;omega
 ·rw[dh]
  refine h.old dh fun hm=>?_
  obtain⟨c,hc,e⟩:=List.mem_map.1 hm
  have:=b.level (hd c hc)
  rw[e]at this;omega
theorem TI.ni(b:TB K0 S0 ak x y l all made)(h:TI K0 S0 ak x y l made K S done rest P)(hd:∀c∈done,c∈all){t:Nat}(ht:pc K0 ak l t):live K.N t:=by
 have e:=h.Jy b hd ht
 rcases ht.1 with ht|⟨d,dh⟩
 ·exact .inl ht
 ·exact .inr ⟨d,by rw[e];exact dh⟩
theorem TI.nq(b:TB K0 S0 ak x y l all made)(h:TI K0 S0 ak x y l made K S done rest P)(hd:∀c∈done,c∈all){t:Nat}(ht:sC K0 K ak x l t):live K.N t:=by
 rcases ht with ht|⟨e,he,_⟩
 ·exact h.ni b hd ht
 ·exact .inr ⟨e,he⟩
theorem TI.use(h:TI K0 S0 ak x y l made K S done rest P){r:Nat}{cJ:List Nat}(hl:cJ.length=K.us.length)(h1:cJ.getD r 0=K.use r+1)(h2:∀s,s≠r→cJ.getD s 0=K.use s):
  TI K0 S0 ak x y l made {K with us:=cJ} S done rest (up P r (P r+1)) where
 mid:=h.mid.more hl h1 h2
 n:=h.n
 cap:=h.cap
 hold:=h.hold
 ext:=h.ext
 old:=h.old
 kept:=h.kept
 new:=h.new
 used:=h.used
theorem TI.congr(h:TI K0 S0 ak x y l made K S done rest P){P':Nat→Nat}(hP:∀s,2≤s→P s=P' s):TI K0 S0 ak x y l made K S done rest P' where
 mid:=h.mid.congr (fun _=>Iff.rfl) hP
 n:=h.n
 cap:=h.cap
 hold:=h.hold
 ext:=h.ext
 old:=h.old
 kept:=h.kept
 new:=h.new
 used:=h.used
theorem filter_lt{α:Type}{p:α→Bool}{k:α}:∀{m:List α},k∈m→p k=false→(m.filter p).length<m.length
 | [],h,_=>by simp at h
 |z::m,h,hp=>by
  rcases List.mem_cons.1 h with rfl|h
  ·rw[List.filter_cons,if_neg (by simp[hp])]
   have:=List.length_filter_le p m
   simp;omega
  ·have:=filter_lt h hp
   rw[List.filter_cons]
   split
   ·rw[List.length_cons,List.length_cons];omega
   ·rw[List.length_cons];omega
theorem TI.fits(b:TB K0 S0 ak x y l all made)(h:TI K0 S0 ak x y l made K S done rest P){k:Nd}(hk:k∈made)(hT:K.T k=none):K.used<K.cap:=by
 have h1:=filter_lt (p:=fun k=>(K.T k).isSome) hk (by rw[hT];rfl)
 have h2:=h.used
 have h3:=b.room
 have h4:=h.cap
 omega
theorem j4{T:Nd→Option Nat}{k:Nd}{r:Nat}:∀{m:List Nd},m.Nodup→T k=none→(m.filter fun d=>(mO T k (some r) d).isSome).length=(m.filter fun d=>(T d).isSome).length+(if k∈m then 1 else 0)
 | [],_,_=>rfl
 |z::m,hn,hT=>by
  obtain⟨h1,h2⟩:=List.nodup_cons.1 hn
  have ih:=j4 (r:=r) h2 hT
  rw[List.filter_cons,List.filter_cons]
  by_cases e:z=k
  ·subst e
   rw[gr,hT]
   simp only[Option.isSome_some,if_true,Option.isSome_none,Bool.false_eq_true,if_false,List.length_cons,ih,if_neg h1,List.mem_cons,true_or]
  ·rw[mj e]
   have e2:(k∈z::m)↔k∈m:=by rw[List.mem_cons];exact⟨fun h=>h.resolve_left (fun h=>e h.symm),.inr⟩
   simp only[e2]
   split
   ·simp only[List.length_cons,ih];omega
   ·exact ih
theorem TB.ug(b:TB K0 S0 ak x y l all made){t:Nat}(ht:pc K0 ak l t){e:Nd}(he:K0.N t=some e):l+1<ak e.v:=by
 have:=ht.2
 rwa [aE he]at this
theorem TB.vw(b:TB K0 S0 ak x y l all made){c:Cx}(hc:c∈all)(h1:pc K0 ak l c.d.lo)(h2:pc K0 ak l c.d.hi):False:=by
 obtain⟨⟨_,_,h3⟩,_⟩:=(b.cx.mem c).1 hc
 have hy:=b.nb.ly
 rcases h3 with⟨e,he,hv⟩|⟨e,he,hv⟩
 ·have:=b.ug h1 he;rw[hv]at this;omega
 ·have:=b.ug h2 he;rw[hv]at this;omega
theorem TI.GA(b:TB K0 S0 ak x y l all made)(h:TI K0 S0 ak x y l made K S done rest P)(hd:∀c∈done,c∈all)(hr:∀c∈rest,c∈all){c:Cx}(hc:c∈all){k:Nd}(hk:k∈keys x c)(hne:k.lo≠k.hi)(h1:pc K0 ak l k.lo)(h2:pc K0 ak l k.hi)(hT:K.T k=none):k∈made:=by
 refine(b.OZ.mem k).2 ⟨⟨c,hc,hk⟩,?_,hne⟩
 cases e:K0.T k with
 |none=>rfl
 |some s=>
  have hs:=((b.ok.mid.gj k s).1 e).1
  have hno:∀c'∈all,s≠c'.r:=fun c' jB e'=>by
   have h3:=(b.j7 jB).1
   rw[←e',hs]at h3
   cases h3
   exact b.vw jB h1 h2
  have r8:K.N s=some k:=by
   refine h.old hs fun hm=>?_
   obtain⟨c',jB,e'⟩:=List.mem_map.1 hm
   exact hno c' (hd c' jB) e'.symm
  have:=(h.mid.gj k s).2 ⟨r8,by rintro⟨c',jB,e'⟩;exact hno c' (hr c' jB) e'⟩
  rw[hT]at this;cases this
theorem TI.lay(b:TB K0 S0 ak x y l all made)(h:TI K0 S0 ak x y l made K S done rest P)(hd:∀c∈done,c∈all)(hr:∀c∈rest,c∈all){c:Cx}(hc:c∈all){k:Nd}(hk:k∈keys x c)(hne:k.lo≠k.hi)(hT:K.T k=none)
 {r:Nat}{cJ br:List Nat}(hN:K.N r=none)(h2:2≤r∧r<K.cap)(hl:cJ.length=br.length)(hf:r<cJ.length∧K.us.length≤cJ.length)(u0:cJ.getD r 0=0)(u1:∀s,2≤s→s≠r→cJ.getD s 0=K.use s+e1 (some k) s)(o0:br.getD r 0=0)(o1:∀s,s≠r→br.getD s 0=K.hold s)(hP:P r=0):
  TI K0 S0 ak x y l made {K with N:=up K.N r (some k),T:=mO K.T k (some r),used:=K.used+1,us:=cJ,ho:=br} (up S r (ite S k)) done rest P∧sC K0 {K with N:=up K.N r (some k),T:=mO K.T k (some r),used:=K.used+1,us:=cJ,ho:=br} ak x l r:=by
 have jc:=b.Jw hc
 have hkv:k.v=x∧pc K0 ak l k.lo∧pc K0 ak l k.hi:=by
  simp only[keys,List.mem_cons,List.not_mem_nil,or_false]at hk
  rcases hk with rfl|rfl
  ·exact⟨rfl,jc.1.1,jc.1.2⟩
  ·exact⟨rfl,jc.2.1,jc.2.2⟩
 have PS:K0.N r=none:=by
  cases e:K0.N r with
  |none=>rfl
  |some d=>obtain⟨d',dh⟩:=h.kept e;rw[hN]at dh;cases dh
 have hkm:=h.GA b hd hr hc hk hne hkv.2.1 hkv.2.2 hT
 have hE:¬∃c∈rest,r=c.r:=by
  rintro⟨c',jB,rfl⟩
  have:=(b.j7 (hr c' jB)).1
  rw[PS]at this;cases this
 have yu:∀{t},sC K0 K ak x l t→sC K0 {K with N:=up K.N r (some k),T:=mO K.T k (some r),used:=K.used+1,us:=cJ,ho:=br} ak x l t:=fun ht=>by
  rcases ht with ht|⟨e,he,h3⟩
  ·exact .inl ht
  ·refine .inr ⟨e,?_,h3⟩
   show up K.N r (some k) _=_
   rw[aG (fun e2=>by rw[e2,hN]at he;cases he)];exact he
 refine⟨⟨h.mid.lay hN h2 (by rw[hkv.1,h.n];exact b.nb.xn) hne (h.ni b hd hkv.2.1) (h.ni b hd hkv.2.2) hT hE hP (h.fits b hkm hT) hl hf u0 u1 o0 o1,h.n,h.cap,fun s=>?_,fun s hs=>?_,fun{s d} hs hm=>?_,fun{s d} hs=>?_,fun{s d} hs=>?_,?_⟩,?_⟩
 ·show br.getD s 0=_
  rw[←h.hold]
  by_cases e:s=r
  ·subst e
   rw[o0]
   refine(Classical.byContradiction fun hno=>?_)
   obtain⟨d,dh⟩:=h.mid.held s (fun e=>hno e.symm)
   rw[hN]at dh;cases dh
  ·exact o1 s e
 ·rw[aG (eH hs h2.1 PS)];exact h.ext s hs
 ·show up K.N r (some k) s=_
  rw[aG (fun e=>by rw[e,PS]at hs;cases hs)];exact h.old hs hm
 ·obtain⟨d',dh⟩:=h.kept hs
  exact⟨d',by show up K.N r (some k) s=_;rw[aG (fun e=>by rw[e,PS]at hs;cases hs)];exact dh⟩
 ·have hs':up K.N r (some k) s=some d:=hs
  by_cases e:s=r
  ·subst e
   rw[aF]at hs';cases hs'
   exact .inr (.inr ⟨PS,hkv⟩)
  ·rw[aG e]at hs'
   rcases h.new hs' with h1|⟨h1,mR,h3,h4⟩|h1
   ·exact .inl h1
   ·exact .inr (.inl ⟨h1,mR,yu h3,yu h4⟩)
   ·exact .inr (.inr h1)
 ·show K.used+1=K0.used+(made.filter fun d=>(mO K.T k (some r) d).isSome).length
  rw[j4 b.OZ.nd hT,if_pos hkm,h.used];omega
 ·exact .inr ⟨k,aF,hkv⟩
theorem TI.found(b:TB K0 S0 ak x y l all made)(h:TI K0 S0 ak x y l made K S done rest P){c:Cx}(hc:c∈all){k:Nd}(hk:k∈keys x c){r:Nat}(hT:K.T k=some r):K.N r=some k∧sC K0 K ak x l r:=by
 have jc:=b.Jw hc
 have hN:=((h.mid.gj k r).1 hT).1
 simp only[keys,List.mem_cons,List.not_mem_nil,or_false]at hk
 rcases hk with rfl|rfl
 ·exact⟨hN,.inr ⟨_,hN,rfl,jc.1.1,jc.1.2⟩⟩
 ·exact⟨hN,.inr ⟨_,hN,rfl,jc.2.1,jc.2.2⟩⟩
theorem TI.Lb(b:TB K0 S0 ak x y l all made)(h:TI K0 S0 ak x y l made K S done rest P){a a' t:Nat}(la:pc K0 ak l a)(EX:pc K0 ak l a')(g:(a=a'∧t=a)∨K.N t=some ⟨x,a,a'⟩)(z:Nat):S t z=ite S0 ⟨x,a,a'⟩ z:=by
 rcases g with⟨rfl,rfl⟩|g
 ·rw[h.ext t la.1];unfold ite;simp
 ·rw[h.mid.int.node g]
  unfold ite
  simp only
  rw[h.ext a la.1,h.ext a' EX.1]
theorem TI.Jx(b:TB K0 S0 ak x y l all made)(h:TI K0 S0 ak x y l made K S done rest P)(hd:∀c∈done,c∈all){a a' t:Nat}(ht:pc K0 ak l t)(g:K.N t=some ⟨x,a,a'⟩):False:=by
 rw[h.Jy b hd ht]at g
 have:=b.ug ht g
 have hx:=b.nb.lx
 simp only at this;omega
theorem TI.tO(b:TB K0 S0 ak x y l all made){c:Cx}(h:TI K0 S0 ak x y l made K S done (c::rest) P)(hd:∀c∈done,c∈all)(hr:∀c'∈c::rest,c'∈all)(hn:((done++c::rest).map Cx.r).Nodup){t0 t1:Nat}
 (k0:sC K0 K ak x l t0)(k1:sC K0 K ak x l t1)(g0:(c.su=c.pE∧t0=c.su)∨K.N t0=some ⟨x,c.su,c.pE⟩)(g1:(c.sr=c.pD∧t1=c.sr)∨K.N t1=some ⟨x,c.sr,c.pD⟩){P':Nat→Nat}(hP:∀s,2≤s→P' s+e1 (some ⟨y,t0,t1⟩) s=P s+e1 (some c.d) s):
  K.T ⟨y,t0,t1⟩=none∧TI K0 S0 ak x y l made {K with N:=up K.N c.r (some ⟨y,t0,t1⟩),T:=mO K.T ⟨y,t0,t1⟩ (some c.r)} S (done++[c]) rest P':=by
 have hc:=hr c (by simp)
 obtain⟨uu,DJ,hce⟩:=b.j7 hc
 obtain⟨⟨UQ,WH⟩,⟨UP,WG⟩⟩:=b.Jw hc
 have w:=b.ok.wf
 have hi:=b.ok.mid.int
 have hlo:=w.lo uu
 have hhi:=w.hi uu
 rw[DJ,b.nb.lx]at hlo hhi
 have ep:c.su=pl K0.N y c.d.lo∧c.sr=ph K0.N y c.d.lo∧c.pE=pl K0.N y c.d.hi∧c.pD=ph K0.N y c.d.hi:=by rw[hce];exact⟨rfl,rfl,rfl,rfl⟩
 have both:c.su=c.pE→c.sr=c.pD→False:=fun e1 e2=>by
  rw[ep.1,ep.2.2.1]at e1
  rw[ep.2.1,ep.2.2.2]at e2
  exact w.ne uu (w.Kc b.ok.lv hi b.nb.yy hlo.1 hhi.1 hlo.2 hhi.2 e1 e2)
 have Ry:c.r∉done.map Cx.r:=by
  rw[List.map_append,List.nodup_append]at hn
  intro hm
  exact hn.2.2 _ hm _ (by simp) rfl
 have Vr:=h.old uu Ry
 have fn0:=fun z=>h.Lb b UQ WH g0 z
 have Yw:=fun z=>h.Lb b UP WG g1 z
 have hS:∀z,S c.r z=ite S ⟨y,t0,t1⟩ z:=fun z=>by
  rw[h.ext c.r (.inr ⟨_,uu⟩),q9 w b.ok.lv hi b.nb uu DJ z]
  unfold ite
  simp only
  have a0:=fn0 z
  have a1:=Yw z
  unfold ite at a0 a1
  simp only at a0 a1
  rw[a0,a1,ep.1,ep.2.1,ep.2.2.1,ep.2.2.2]
 have hne:t0≠t1:=fun e=>by
  subst e
  rcases g0 with⟨e1,e2⟩|g0
  ·rcases g1 with⟨e3,e4⟩|g1
   ·exact both e1 e3
   ·rw[e2]at g1;exact h.Jx b hd UQ g1
  ·rcases g1 with⟨e3,e4⟩|g1
   ·rw[e4]at g0;exact h.Jx b hd UP g0
   ·rw[g0]at g1
    simp only[Option.some.injEq,Nd.mk.injEq,true_and]at g1
    obtain⟨q1,q2⟩:=g1
    obtain⟨⟨_,_,Ni⟩,_⟩:=(b.cx.mem c).1 hc
    rw[ep.1,ep.2.1]at q1
    rw[ep.2.2.1,ep.2.2.2]at q2
    rcases Ni with⟨e,he,hv⟩|⟨e,he,hv⟩
    ·have:=Jh he hv
     rw[this.1,this.2]at q1
     exact w.ne he q1
    ·have:=Jh he hv
     rw[this.1,this.2]at q2
     exact w.ne he q2
 have hT:K.T ⟨y,t0,t1⟩=none:=by
  cases e:K.T ⟨y,t0,t1⟩with
  |none=>rfl
  |some s=>
   obtain⟨hs,GG⟩:=(h.mid.gj _ s).1 e
   rcases h.new hs with⟨h1,_⟩|⟨h1,_⟩|⟨_,h1,_⟩
   ·have q1:=w.lo h1
    have q2:=w.hi h1
    simp only at q1 q2
    rw[b.nb.ly]at q1 q2
    have p1:c.su=c.pE:=by
     rcases g0 with⟨e1,_⟩|g0
     ·exact e1
     ·exact(h.Jx b hd q1 g0).elim
    have p2:c.sr=c.pD:=by
     rcases g1 with⟨e1,_⟩|g1
     ·exact e1
     ·exact(h.Jx b hd q2 g1).elim
    exact(both p1 p2).elim
   ·obtain⟨c',jB,e'⟩:=List.mem_map.1 h1
    have Hf:=(b.j7 (hd c' jB)).1
    have:c'.r=c.r:=w.same b.ok.lv hi (.inr ⟨_,Hf⟩) (.inr ⟨_,uu⟩) fun z=>by
     rw[←h.ext c'.r (.inr ⟨_,Hf⟩),←h.ext c.r (.inr ⟨_,uu⟩),hS z,e',h.mid.int.node hs z];rfl
    exact absurd (List.mem_map.2 ⟨c',jB,this⟩) Ry
   ·exact absurd h1 (Ne.symm b.nb.ne)
 have yu:∀{t},sC K0 K ak x l t→sC K0 {K with N:=up K.N c.r (some ⟨y,t0,t1⟩),T:=mO K.T ⟨y,t0,t1⟩ (some c.r)} ak x l t:=fun ht=>by
  rcases ht with ht|⟨e,he,h3⟩
  ·exact .inl ht
  ·refine .inr ⟨e,?_,h3⟩
   show up K.N c.r (some ⟨y,t0,t1⟩) _=_
   refine(aG fun e2=>?_).trans he
   rw[e2,Vr]at he
   cases he
   exact b.vw hc h3.2.1 h3.2.2
 have hml:∀s,s∈(done++[c]).map Cx.r↔s∈done.map Cx.r∨s=c.r:=fun s=>by simp[List.mem_append]
 refine⟨hT,⟨(h.mid.tO Vr ⟨c,by simp,rfl⟩ (by rw[h.n];exact b.nb.yn) hne (h.nq b hd k0) (h.nq b hd k1) hT hS hP).congr (fun s=>?_) (fun _ _=>rfl),h.n,h.cap,h.hold,h.ext,fun{s d} hs hm=>?_,fun{s d} hs=>?_,fun{s d} hs=>?_,?_⟩⟩
 ·constructor
  ·rintro⟨⟨c',jB,rfl⟩,h2⟩
   rcases List.mem_cons.1 jB with rfl|jB
   ·exact absurd rfl h2
   ·exact⟨c',jB,rfl⟩
  ·rintro⟨c',jB,rfl⟩
   refine⟨⟨c',List.mem_cons_of_mem _ jB,rfl⟩,fun e=>?_⟩
   rw[List.map_append,List.nodup_append]at hn
   have:=hn.2.1
   rw[List.map_cons,List.nodup_cons]at this
   exact this.1 (List.mem_map.2 ⟨c',jB,e⟩)
 ·have hm':=fun x=>hm ((hml s).2 x)
  show up K.N c.r _ s=_
  rw[aG (fun e=>hm' (.inr e))];exact h.old hs (fun x=>hm' (.inl x))
 ·by_cases e:s=c.r
  ·exact⟨⟨y,t0,t1⟩,by show up K.N c.r (some _) s=_;rw[e,aF]⟩
  ·obtain⟨d',dh⟩:=h.kept hs
   exact⟨d',by show up K.N c.r (some _) s=_;rw[aG e];exact dh⟩
 ·have hs':up K.N c.r (some ⟨y,t0,t1⟩) s=some d:=hs
  by_cases e:s=c.r
  ·rw[e,aF]at hs';cases hs'
   exact .inr (.inl ⟨(hml s).2 (.inr e),rfl,yu k0,yu k1⟩)
  ·rw[aG e]at hs'
   rcases h.new hs' with⟨h1,h2⟩|⟨h1,h2,h3,h4⟩|h1
   ·exact .inl ⟨h1,fun hm=>((hml s).1 hm).elim h2 e⟩
   ·exact .inr (.inl ⟨(hml s).2 (.inl h1),h2,yu h3,yu h4⟩)
   ·exact .inr (.inr h1)
 ·show K.used=K0.used+(made.filter fun d=>(mO K.T ⟨y,t0,t1⟩ (some c.r) d).isSome).length
  have hnm:(⟨y,t0,t1⟩:Nd)∉made:=fun hm=>by
   obtain⟨⟨c',jB,hk⟩,_⟩:=(b.OZ.mem _).1 hm
   simp only[keys,List.mem_cons,List.not_mem_nil,or_false,Nd.mk.injEq]at hk
   rcases hk with⟨e,_⟩|⟨e,_⟩
   ·exact b.nb.ne e.symm
   ·exact b.nb.ne e.symm
  rw[j4 b.OZ.nd hT,if_neg hnm,h.used];rfl
theorem TI.levels(b:TB K0 S0 ak x y l all made)(h:TI K0 S0 ak x y l made K S all [] P){s:Nat}{d:Nd}(hs:K.N s=some d):
  pn ak x y l d.v<dep K0.n (pn ak x y l) K.N d.lo∧pn ak x y l d.v<dep K0.n (pn ak x y l) K.N d.hi:=by
 have w:=b.ok.wf
 have hd:∀c∈all,c∈all:=fun _ h=>h
 have MJ:l+1<K0.n:=by have:=b.ok.lv.lt y b.nb.yn;rw[b.nb.ly]at this;exact this
 have sx:pn ak x y l x=l+1:=by simp[pn]
 have sy:pn ak x y l y=l:=by unfold pn;rw[if_neg (Ne.symm b.nb.ne),if_pos rfl]
 have so:∀v,v<K0.n→ak v≠l→ak v≠l+1→pn ak x y l v=ak v:=fun v hv h1 h2=>by
  unfold pn
  rw[if_neg (fun e=>h1 (by rw[e];exact b.nb.lx)),if_neg (fun e=>h2 (by rw[e];exact b.nb.ly))]
 have low:∀{t},pc K0 ak l t→l+1<dep K0.n (pn ak x y l) K.N t:=fun{t} ht=>by
  have e:=h.Jy b hd ht
  cases e2:K0.N t with
  |none=>rw[cg (by rw[e,e2])];exact MJ
  |some e'=>
   have:=b.ug ht e2
   rw[aE (by rw[e,e2]),so _ (w.var e2) (by omega) (by omega)];exact this
 have s8:∀{t},sC K0 K ak x l t→l<dep K0.n (pn ak x y l) K.N t:=fun{t} ht=>by
  rcases ht with ht|⟨e,he,hx,_⟩
  ·have:=low ht;omega
  ·rw[aE he,hx,sx];omega
 rcases h.new hs with⟨h1,h2⟩|⟨_,h2,h3,h4⟩|⟨_,h2,h3,h4⟩
 ·have hv:=w.var h1
  have q1:=w.lo h1
  have q2:=w.hi h1
  rcases Nat.lt_trichotomy (ak d.v) l with hlt|heq|hgt
  ·rw[so _ hv (by omega) (by omega)]
   have UK:∀{t},live K0.N t→ak d.v<dep K0.n ak K0.N t→ak d.v<dep K0.n (pn ak x y l) K.N t:=fun{t} ht lj=>by
    cases e:K.N t with
    |none=>rw[cg e];exact Nat.lt_of_lt_of_le lj (w.gH b.ok.lv t)
    |some e'=>
     rw[aE e]
     rcases h.new e with⟨g1,_⟩|⟨_,g2,_⟩|⟨g1,_⟩
     ·rw[aE g1]at lj
      have SH:=w.var g1
      by_cases e1:ak e'.v=l
      ·have:e'.v=x:=b.ok.lv.inj _ _ SH b.nb.xn (by rw[b.nb.lx];exact e1)
       rw[this,sx];omega
      ·by_cases e2:ak e'.v=l+1
       ·have:e'.v=y:=b.ok.lv.inj _ _ SH b.nb.yn (by rw[b.nb.ly];exact e2)
        rw[this,sy];exact hlt
       ·rw[so _ SH e1 e2];exact lj
     ·rw[g2,sy];exact hlt
     ·rcases ht with ht|⟨f,hf⟩
      ·have:=(h.mid.two e).1;omega
      ·rw[g1]at hf;cases hf
   exact⟨UK q1.1 q1.2,UK q2.1 q2.2⟩
  ·have hx:d.v=x:=b.ok.lv.inj _ _ hv b.nb.xn (by rw[b.nb.lx];exact heq)
   rw[hx,sx]
   have nc:∀t,t=d.lo∨t=d.hi→∀e,K0.N t=some e→e.v≠y:=fun t ht e he hv=>h2 (List.mem_map.2 ⟨j6 K0.N y s d,(b.cx.mem _).2 ⟨⟨h1,hx,by
    rcases ht with rfl|rfl
    ·exact .inl ⟨e,he,hv⟩
    ·exact .inr ⟨e,he,hv⟩⟩,rfl⟩,rfl⟩)
   have lw:∀t,t=d.lo∨t=d.hi→live K0.N t→ak d.v<dep K0.n ak K0.N t→pc K0 ak l t:=fun t ht hlv hlt=>by
    refine⟨hlv,?_⟩
    have:=(w.half b.ok.lv b.ok.mid.int b.nb.yy hlv (by omega:l<dep K0.n ak K0.N t)).1.2
    rwa [(Ji (nc t ht)).1]at this
   exact⟨low (lw _ (.inl rfl) q1.1 q1.2),low (lw _ (.inr rfl) q2.1 q2.2)⟩
  ·by_cases e:ak d.v=l+1
   ·have hy:d.v=y:=b.ok.lv.inj _ _ hv b.nb.yn (by rw[b.nb.ly];exact e)
    rw[hy,sy]
    have a1:=low ⟨q1.1,by omega⟩
    have a2:=low ⟨q2.1,by omega⟩
    exact⟨by omega,by omega⟩
   ·rw[so _ hv (by omega) e]
    have deep:∀{t},live K0.N t→ak d.v<dep K0.n ak K0.N t→ak d.v<dep K0.n (pn ak x y l) K.N t:=fun{t} ht lj=>by
     have hl:pc K0 ak l t:=⟨ht,by omega⟩
     have e':=h.Jy b hd hl
     cases e2:K0.N t with
     |none=>rw[cg (by rw[e',e2])];exact b.ok.lv.lt _ hv
     |some f=>
      rw[aE e2]at lj
      rw[aE (by rw[e',e2]),so _ (w.var e2) (by omega) (by omega)];exact lj
    exact⟨deep q1.1 q1.2,deep q2.1 q2.2⟩
 ·rw[h2,sy];exact⟨s8 h3,s8 h4⟩
 ·rw[h2,sx];exact⟨low h3,low h4⟩
theorem TI.fin(b:TB K0 S0 ak x y l all made)(h:TI K0 S0 ak x y l made K S all [] P){K':Kd}(hm:gK K' S fO zero')(hp:Pos K')(hN:∀{s d},K'.N s=some d→K.N s=some d)(hn:K'.n=K.n)(hh:∀r,K'.hold r=K.hold r):
  Ok K' S (pn ak x y l)∧(∀g,K'.held S g↔K0.held S0 g)∧∀r,K0.hold r≠0→S r=S0 r:=by
 have Qr:∀r,K0.hold r≠0→S r=S0 r:=fun r hr=>h.ext r (.inr (b.ok.mid.held r hr))
 refine⟨⟨hm,hp,by rw[hn,h.n];exact I3 b.ok.lv b.nb,hm.wf fun{s d} hs=>?_⟩,fun g=>?_,Qr⟩
 ·have hl:=h.levels b (hN hs)
  have same:∀{t},live K'.N t→dep K'.n (pn ak x y l) K'.N t=dep K0.n (pn ak x y l) K.N t:=fun{t} ht=>by
   cases e:K'.N t with
   |some f=>rw[aE e,aE (hN e)]
   |none=>
    have EY:t<2:=by
     rcases ht with ht|⟨f,hf⟩
     ·exact ht
     ·rw[e]at hf;cases hf
    have:K.N t=none:=by
     cases e2:K.N t with
     |none=>rfl
     |some f=>have:=(h.mid.two e2).1;omega
    rw[cg e,cg this,hn,h.n]
  rw[same (hm.lo hs),same (hm.hi hs)];exact hl
 ·constructor
  ·rintro⟨r,hr,rfl⟩
   have hr':K0.hold r≠0:=by rw[←h.hold,←hh];exact hr
   exact⟨r,hr',Qr r hr'⟩
  ·rintro⟨r,hr,rfl⟩
   exact⟨r,by show K'.hold r≠0;rw[hh,h.hold];exact hr,(Qr r hr).symm⟩
end
end aT
namespace aT
open af
variable {n cap l:Nat} {ord:List Nat} {F G:Fn→Prop}
open Classical in
noncomputable def sz(n:Nat)(ord:List Nat)(F:Fn→Prop):Nat:=if h:∃k,oH (bq n ord F) k then Classical.choose h else 0
theorem KY{k:Nat}(h:oH (bq n ord F) k):sz n ord F=k:=by
 unfold sz
 rw[dif_pos ⟨k,h⟩]
 exact(Classical.choose_spec (⟨k,h⟩:∃k,oH (bq n ord F) k)).uniq h
def Bo(n:Nat)(ord:List Nat)(l:Nat)(F:Fn→Prop):Fn→Prop:=fun g=>bq n ord F g∨bq n (ew ord l) F g
open Classical in
noncomputable def uX(n:Nat)(ord:List Nat)(l:Nat)(F:Fn→Prop):Nat:=if h:∃k,oH (Bo n ord l F) k then Classical.choose h else 0
theorem Fl{k:Nat}(h:oH (Bo n ord l F) k):uX n ord l F=k:=by
 unfold uX
 rw[dif_pos ⟨k,h⟩]
 exact(Classical.choose_spec (⟨k,h⟩:∃k,oH (Bo n ord l F) k)).uniq h
theorem Fz(e:∀g,F g↔G g):sz n ord F=sz n ord G:=by
 have:F=G:=funext fun g=>propext (e g)
 rw[this]
theorem CK(e:∀g,F g↔G g):uX n ord l F=uX n ord l G:=by
 have:F=G:=funext fun g=>propext (e g)
 rw[this]
theorem wH{a b:List Nat}(hl:a.length=b.length)(h:∀i,i<a.length→a.getD i 0=b.getD i 0):a=b:=by
 refine List.ext_getElem hl fun i h1 h2=>?_
 have:=h i h1
 simpa[List.getD,List.getElem?_eq_getElem h1,List.getElem?_eq_getElem h2]using this
theorem tS(hl:l+1<ord.length):ew (ew ord l) l=ord:=by
 refine wH (by rw[gS,gS]) fun i _=>?_
 have h2:l+1<(ew ord l).length:=by rw[gS];exact hl
 rw[dD h2,dD hl,dD hl,dD hl]
 by_cases e:i=l
 ·subst e;simp
 ·by_cases e2:i=l+1
  ·subst e2;simp
  ·simp[e,e2]
theorem IQ(hl:l+1<ord.length):uX n (ew ord l) l F=uX n ord l F:=by
 have:Bo n (ew ord l) l F=Bo n ord l F:=by
  funext g
  unfold Bo
  rw[tS hl]
  exact propext or_comm
 unfold uX
 rw[this]
def sA(n cap:Nat)(F:Fn→Prop):List Nat→List Nat→Prop
 |_,[]=>True
 |ord,l::r=>l+1<n∧uX n ord l F+2≤cap∧sA n cap F (ew ord l) r
theorem sA.congr(e:∀g,F g↔G g):∀{tr ord:List Nat},sA n cap F ord tr→sA n cap G ord tr:=by
 have:F=G:=funext fun g=>propext (e g)
 subst this
 exact fun{tr ord} h=>h
theorem sA.Uq(hlen:ord.length=n)(hl:l+1<n)(hfit:uX n ord l F+2≤cap){tr:List Nat}(h:sA n cap F ord tr.reverse):sA n cap F (ew ord l) (tr++[l]).reverse:=by
 rw[List.reverse_append]
 exact⟨hl,by rw[IQ (by omega)];exact hfit,by rw[tS (by omega)];exact h⟩
end aT
namespace aT
open af
variable {n l:Nat} {ord:List Nat} {L:af.Fs} {F:Fn→Prop}
def dK(n:Nat)(ws:List Nat):Fn:=fun x=>bit ws (x%2^n)
theorem jL{x v n:Nat}{b:Bool}(hv:v<n):au x v b%2^n=au (x%2^n) v b:=by
 apply Nat.eq_of_testBit_eq;intro k
 rw[Nat.testBit_mod_two_pow,ai,ai,Nat.testBit_mod_two_pow]
 by_cases e:k=v
 ·subst e;simp[hv]
 ·simp[e]
theorem gW{v:Nat}{ws:List Nat}(hf:bJ n ws)(hv:v<n)(b:Bool):dK n (c6 n ws v b)=fun x=>dK n ws (au x v b):=by
 funext x
 unfold dK
 rw[dH hf hv (Nat.mod_lt _ (Nat.two_pow_pos n)),jL hv]
theorem HB{ws:List Nat}{x:Nat}(h:x<2^n):dK n ws x=bit ws x:=by unfold dK;rw[Nat.mod_eq_of_lt h]
theorem je{a b:List Nat}(ha:bJ n a)(hb:bJ n b)(h:dK n a=dK n b):a=b:=ha.ext hb fun x hx=>by rw[←HB hx,←HB hx,h]
theorem kU{v:Nat}{ws:List Nat}(hf:bJ n ws)(hv:v<n):fc (dK n ws) v↔af.dep n ws v=true:=by
 rw[pN hf hv]
 constructor
 ·rintro⟨x,hx⟩
  refine⟨x%2^n,Nat.mod_lt _ (Nat.two_pow_pos n),?_⟩
  unfold dK at hx
  rwa [jL hv,jL hv]at hx
 ·rintro⟨x,hx,hne⟩
  refine⟨x,?_⟩
  unfold dK
  rwa [jL hv,jL hv,Nat.mod_eq_of_lt hx]
def cur(n:Nat)(ord:List Nat)(L:af.Fs):Nat→af.Fs
 |0=>cY L
 |k+1=>given n (cur n ord L k) (ord.getD k 0)
def FT(n:Nat)(L:af.Fs):Fn→Prop:=fun g=>∃t∈L,g=dK n t
theorem kY:∀k,(cur n ord L k).Nodup
 |0=>fX L
 |k+1=>j3 _ _ _
theorem kZ(hL:∀t∈L,bJ n t)(hn:n≤16):∀k,∀t∈cur n ord L k,bJ n t
 |0,t,h=>hL t (bW.1 h)
 |k+1,t,h=>by obtain⟨u,_,b,rfl⟩:=bu.1 h;exact bV hn
theorem yK(hL:∀t∈L,bJ n t)(hn:n≤16)(ho:∀i,i<n→ord.getD i 0<n):∀k,k≤n→∀g,fs ord (FT n L) k g↔∃t∈cur n ord L k,g=dK n t
 |0,_,g=>by
  show(∃t∈L,g=dK n t)↔_
  constructor
  ·rintro⟨t,h,e⟩;exact⟨t,bW.2 h,e⟩
  ·rintro⟨t,h,e⟩;exact⟨t,bW.1 h,e⟩
 |k+1,hk,g=>by
  have ih:=yK hL hn ho k (by omega)
  constructor
  ·rintro⟨f,hf,b,rfl⟩
   obtain⟨t,ht,rfl⟩:=(ih f).1 hf
   exact⟨c6 n t (ord.getD k 0) b,bu.2 ⟨t,ht,b,rfl⟩,(gW (kZ hL hn k t ht) (ho k (by omega)) b).symm⟩
  ·rintro⟨t,ht,rfl⟩
   obtain⟨u,hu,b,rfl⟩:=bu.1 ht
   exact⟨dK n u,(ih _).2 ⟨u,hu,rfl⟩,b,gW (kZ hL hn k u hu) (ho k (by omega)) b⟩
theorem qT:∀k g,fs ord F k g→∀j,j<k→¬fc g (ord.getD j 0)
 |0,_,_,_,h=>absurd h (Nat.not_lt_zero _)
 |k+1,g,h,j,hj=>by
  obtain⟨f,hf,b,rfl⟩:=h
  rintro⟨x,hx⟩
  apply hx
  by_cases e:ord.getD j 0=ord.getD k 0
  ·show f (au (au x _ false) _ b)=f (au (au x _ true) _ b)
   congr 1
   apply Nat.eq_of_testBit_eq;intro i
   simp only[ai,e]
   split<;>rfl
  ·have hlt:j<k:=by
    rcases Nat.lt_succ_iff_lt_or_eq.1 hj with h|h
    ·exact h
    ·subst h;exact(e rfl).elim
   have:=qT k f hf j hlt
   show f (au (au x _ false) _ b)=f (au (au x _ true) _ b)
   rw[dy e,dy e]
   exact Classical.byContradiction fun hne=>this ⟨_,hne⟩
def fK(n:Nat)(ord:List Nat)(L:af.Fs)(k:Nat):af.Fs:=nodes n (cur n ord L k) (ord.getD k 0)
def bF(n:Nat)(ord:List Nat)(L:af.Fs):Nat→Nat
 |0=>0
 |k+1=>bF n ord L k+(fK n ord L k).length
def gi(n:Nat)(ord:List Nat)(L:af.Fs):Nat→af.Fs
 |0=>[]
 |k+1=>gi n ord L k++fK n ord L k
theorem kq:∀k,(gi n ord L k).length=bF n ord L k
 |0=>rfl
 |k+1=>by rw[gi,bF,List.length_append,kq k]
theorem ng{k:Nat}{t:List Nat}:t∈fK n ord L k↔t∈cur n ord L k∧af.dep n t (ord.getD k 0)=true:=by
 unfold fK nodes;rw[List.mem_filter]
theorem iJ(hL:∀t∈L,bJ n t)(hn:n≤16):∀k,∀t∈gi n ord L k,bJ n t
 |0,t,h=>by cases h
 |k+1,t,h=>by
  rcases List.mem_append.1 h with h|h
  ·exact iJ hL hn k t h
  ·exact kZ hL hn k t (ng.1 h).1
theorem kj(hL:∀t∈L,bJ n t)(hn:n≤16)(ho:∀i,i<n→ord.getD i 0<n):∀m,m≤n→∀g,(∃k,k<m∧fs ord (FT n L) k g∧fc g (ord.getD k 0))↔∃t∈gi n ord L m,g=dK n t
 |0,_,g=>by simp[gi]
 |m+1,hm,g=>by
  have ih:=kj hL hn ho m (by omega) g
  have ak:(fs ord (FT n L) m g∧fc g (ord.getD m 0))↔∃t∈fK n ord L m,g=dK n t:=by
   rw[yK hL hn ho m (by omega)]
   constructor
   ·rintro⟨⟨t,ht,rfl⟩,hh⟩
    exact⟨t,ng.2 ⟨ht,(kU (kZ hL hn m t ht) (ho m (by omega))).1 hh⟩,rfl⟩
   ·rintro⟨t,ht,rfl⟩
    obtain⟨h1,h2⟩:=ng.1 ht
    exact⟨⟨t,h1,rfl⟩,(kU (kZ hL hn m t h1) (ho m (by omega))).2 h2⟩
  constructor
  ·rintro⟨k,hk,h1,h2⟩
   by_cases e:k=m
   ·subst e
    obtain⟨t,ht,rfl⟩:=ak.1 ⟨h1,h2⟩
    exact⟨t,List.mem_append_right _ ht,rfl⟩
   ·obtain⟨t,ht,rfl⟩:=ih.1 ⟨k,by omega,h1,h2⟩
    exact⟨t,List.mem_append_left _ ht,rfl⟩
  ·rintro⟨t,ht,rfl⟩
   rcases List.mem_append.1 ht with ht|ht
   ·obtain⟨k,hk,h⟩:=ih.2 ⟨t,ht,rfl⟩
    exact⟨k,by omega,h⟩
   ·exact⟨m,by omega,ak.2 ⟨t,ht,rfl⟩⟩
theorem rC(hL:∀t∈L,bJ n t)(hn:n≤16)(ho:∀i,i<n→ord.getD i 0<n):∀m,m≤n→(gi n ord L m).Nodup
 |0,_=>List.nodup_nil
 |m+1,hm=>by
  refine List.nodup_append.2 ⟨rC hL hn ho m (by omega),(kY m).filter _,fun a ha b hb e=>?_⟩
  subst e
  obtain⟨k,hk,h1,h2⟩:=(kj hL hn ho m (by omega) (dK n a)).2 ⟨a,ha,rfl⟩
  have h3:=(yK hL hn ho m (by omega) (dK n a)).2 ⟨a,(ng.1 hb).1,rfl⟩
  exact qT m _ h3 k hk h2
theorem wS{P:Fn→Prop}{l:af.Fs}(hf:∀t∈l,bJ n t)(hn:l.Nodup)(h:∀g,P g↔∃t∈l,g=dK n t):oH P l.length:=by
 refine⟨l.map (dK n),?_,by simp,fun g=>?_⟩
 ·refine List.pairwise_map.2 (hn.imp_of_mem fun{a b} ha hb hne heq=>hne (je (hf a ha) (hf b hb) heq))
 ·rw[h,List.mem_map]
  constructor
  ·rintro⟨t,ht,rfl⟩;exact⟨t,ht,rfl⟩
  ·rintro⟨t,ht,rfl⟩;exact⟨t,ht,rfl⟩
theorem uG(hL:∀t∈L,bJ n t)(hn:n≤16)(ho:∀i,i<n→ord.getD i 0<n):oH (bq n ord (FT n L)) (bF n ord L n):=by
 rw[←kq]
 exact wS (iJ hL hn n) (rC hL hn ho n (Nat.le_refl _)) (kj hL hn ho n (Nat.le_refl _))
theorem Bz(hL:∀t∈L,bJ n t)(hn:n≤16)(ho:∀i,i<n→ord.getD i 0<n):sz n ord (FT n L)=bF n ord L n:=KY (uG hL hn ho)
def o9(n:Nat)(ord:List Nat)(l:Nat)(L:af.Fs):af.Fs:=cY (gi n ord L n++gi n (ew ord l) L n)
theorem FB(hl:l+1<n)(hlen:ord.length=n)(ho:∀i,i<n→ord.getD i 0<n):∀i,i<n→(ew ord l).getD i 0<n:=fun i hi=>by
 rw[dD (by omega)]
 split
 ·exact ho _ hl
 ·split
  ·exact ho _ (by omega)
  ·exact ho i hi
theorem Mg(hL:∀t∈L,bJ n t)(hn:n≤16)(ho:∀i,i<n→ord.getD i 0<n)(hl:l+1<n)(hlen:ord.length=n):uX n ord l (FT n L)=(o9 n ord l L).length:=by
 have br:=FB hl hlen ho
 refine Fl (wS (n:=n) (fun t ht=>?_) (fX _) fun g=>?_)
 ·rcases List.mem_append.1 (bW.1 ht)with h|h
  ·exact iJ hL hn n t h
  ·exact iJ hL hn n t h
 ·unfold Bo o9
  rw[show bq n ord (FT n L) g↔_ from kj hL hn ho n (Nat.le_refl _) g,show bq n (ew ord l) (FT n L) g↔_ from kj hL hn br n (Nat.le_refl _) g]
  constructor
  ·rintro(⟨t,h,rfl⟩|⟨t,h,rfl⟩)
   ·exact⟨t,bW.2 (List.mem_append_left _ h),rfl⟩
   ·exact⟨t,bW.2 (List.mem_append_right _ h),rfl⟩
  ·rintro⟨t,h,rfl⟩
   rcases List.mem_append.1 (bW.1 h)with h|h
   ·exact .inl ⟨t,h,rfl⟩
   ·exact .inr ⟨t,h,rfl⟩
end aT
set_option maxRecDepth 100000
namespace Go.Proofs
open Go Go.Sx
open aT
def u32(r:Nat):Value:=.int .u32 (r:Int)
def bg(d:Nd):List Value:=[.int .i64 (d.v:Int),u32 d.lo,u32 d.hi]
structure lz where
 v:Int
 lo:Nat
 hi:Nat
 tk:Bool
 c:Nat
def lz.row(p:lz):List Value:=[.int .i64 p.v,u32 p.lo,u32 p.hi,.bool p.tk,.int .u8 (p.c:Int)]
def eX(N:fj)(r:Nat):Bool:=decide (r<2)||(N r).isSome
theorem cm{N:fj}{r:Nat}:eX N r=true↔live N r:=by
 unfold eX live
 rw[Bool.or_eq_true,decide_eq_true_eq,Option.isSome_iff_exists]
def got(N:fj)(r:Nat):List Value:=
 if r<2 then [.int .i64 (-1),u32 r,u32 r]else match N r with|some d=>bg d|none=>[.int .i64 0,u32 0,u32 0]
theorem iD{N:fj}{r:Nat}{d:Nd}(h:N r=some d)(h2:2≤r):got N r=bg d:=by unfold got;rw[if_neg (by omega),h]
theorem ot{N:fj}{r:Nat}(h2:r<2):got N r=[.int .i64 (-1),u32 r,u32 r]:=by unfold got;rw[if_pos h2]
theorem wq{N:fj}{r:Nat}(h:eX N r=false):got N r=[.int .i64 0,u32 0,u32 0]:=by
 unfold eX at h
 rw[Bool.or_eq_false_iff,decide_eq_false_iff_not]at h
 unfold got;rw[if_neg h.1]
 cases hN:N r with
 |none=>rfl
 |some d=>rw[hN]at h;simp at h
def Di(p:lz):Option Nd:=if p.tk then some ⟨p.v.toNat,p.lo,p.hi⟩else none
structure uO(l:List lz)(fr:List Nat)(cap used:Nat)(N:fj):Prop where
 cap:l.length≤cap∧cap≤1048576
 two:2≤l.length
 const:∀r,r<2→∃p,l[r]? =some p∧p.v= -1∧p.lo=r∧p.hi=r∧p.tk=true
 nd:∀r,2≤r→N r=(l[r]?).bind Di
 n0:∀r,r<2→N r=none
 nn:∀(r:Nat) p,2≤r→l[r]? =some p→p.tk=true→0≤p.v
 II:fr.Nodup
 jy:∀r,r∈fr↔∃p,l[r]? =some p∧p.tk=false
 used:used+fr.length=l.length
theorem uO.vE{l:List lz}{fr:List Nat}{cap used:Nat}{N:fj}(h:uO l fr cap used N)(r:Nat):eX N r=(match l[r]? with|some p=>p.tk|none=>false):=by
 unfold eX
 by_cases h2:r<2
 ·obtain⟨p,hp,_,_,_,ht⟩:=h.const r h2
  simp[h2,hp,ht]
 ·rw[h.nd r (by omega)]
  cases hl:l[r]? with
  |none=>simp[h2]
  |some p=>cases ht:p.tk<;>simp[h2,Di,ht]
theorem uO.Uo{l:List lz}{fr:List Nat}{cap used:Nat}{N:fj}(h:uO l fr cap used N){r:Nat}{p:lz}(hp:l[r]? =some p)(ht:p.tk=true):got N r=p.row.take 3:=by
 by_cases h2:r<2
 ·obtain⟨p',MS,h1,mR,h3,_⟩:=h.const r h2
  rw[hp]at MS;cases MS
  rw[ot h2];simp[lz.row,h1,mR,h3]
 ·have hn:=h.nn r p (by omega) hp ht
  rw[iD (d:=⟨p.v.toNat,p.lo,p.hi⟩) (by rw[h.nd r (by omega),hp];simp[Di,ht]) (by omega)]
  simp[bg,lz.row,Int.toNat_of_nonneg hn]
theorem uO.lt{l:List lz}{fr:List Nat}{cap used:Nat}{N:fj}(h:uO l fr cap used N){r:Nat}(hr:live N r):r<l.length:=by
 have:=cm.2 hr
 rw[h.vE]at this
 cases hl:l[r]? with
 |none=>rw[hl]at this;simp at this
 |some p=>exact(List.getElem?_eq_some_iff.1 hl).1
def fI(pa cap used:Nat)(N:fj)(C:Hp):Prop:=
 ∃vl vf l fr Cl Cf,C=(pa,.cells #[.int .i64 (cap:Int),vl,vf,.int .i64 (used:Int)] 198 (0,0))::(Cl++Cf)∧
  aN 291 5 vl (l.map lz.row) Cl∧aK 77 .u32 vf (fr.map (Nat.cast:Nat→Int)) Cf∧uO l fr cap used N
abbrev ptr(b:Nat):Value:=.pointer (some ⟨b,0,none⟩)
theorem row_one(p:lz):∀x∈p.row,x.oneCell'=true:=by intro x hx;simp[lz.row,u32]at hx;rcases hx with rfl|rfl|rfl|rfl|rfl<;>rfl
theorem mY{pa cap used r:Nat}{N:fj}{C:Hp}(h:fI pa cap used N C)(hr:r<4294967296):
  Rd Tryz.prog 253 #[ptr pa,u32 r] C (· =.bool (eX N r)):=by
 obtain⟨vl,vf,l,fr,Cl,Cf,rfl,hl,hf,ho⟩:=h
 refine aX fun g=>zG ?_
 refine aY.q ?_
 refine Nil.ptr ?_
 refine ag.mk (Ld.mk zM rfl ?_)
 refine hl.aM ?_
 refine aa.dn ?_
 rw[List.length_map]
 rw[ho.vE r]
 refine dI.and (match l[r]? with|some p=>p.tk|none=>false) (fun hlt=>?_) rfl fun _=>bO.mk (.refl _) ?_
 ·have lj:=of_decide_eq_true hlt
  refine Nil.ptr ?_
  refine ag.mk (Ld.mk zM rfl ?_)
  have hg:l[r]? =some l[r]:=List.getElem?_eq_getElem lj
  refine hl.yd (r:=l[r].row) (x:=.bool l[r].tk) (by rw[List.getElem?_map,hg];rfl) rfl (fun _ h=>by exact .tail _ (List.mem_append_left _ h)) ?_
  exact⟨rfl,by rw[hg]⟩
 ·congr 1
  by_cases hlt:r<l.length
  ·simp[hlt]
  ·rw[List.getElem?_eq_none (by omega)];simp
theorem Hw{pa cap used r:Nat}{N:fj}{C:Hp}(h:fI pa cap used N C)(hr:r<4294967296):
  Rd Tryz.prog 231 #[ptr pa,u32 r] C (· =.tuple #[.agg (got N r).toArray,.int .i64 (if eX N r then 0 else 3)]):=by
 have h0:=h
 obtain⟨vl,vf,l,fr,Cl,Cf,rfl,hl,hf,ho⟩:=h
 refine aX fun g=>zR ?_
 intro b1 _
 refine aa.aB (Br.no ?_)
 refine ae.eq (mY h0 hr) ?_
 refine Un.not ?_
 refine Br.mk (fun hb=>?_) (fun hb=>?_)
 ·have hb':eX N r=false:=by simpa using hb
  refine Build.mk (cs:=[.int .i64 0,.int .u32 0,.int .u32 0]) (by kernel_rfl) ?_
  refine St.q ?_
  refine ax.q ?_
  exact bO.mk .tail (by rw[wq hb',hb'];rfl)
 ·have hb':eX N r=true:=by simpa using hb
  have hx:=hb'
  rw[ho.vE]at hx
  cases hg:l[r]? with
  |none=>rw[hg]at hx;simp at hx
  |some p=>
  rw[hg]at hx
  simp only at hx
  refine Nil.ptr ?_
  refine ag.mk (Ld.mk zM rfl ?_)
  refine hl.Gp (r:=p.row) (by rw[List.getElem?_map,hg];rfl) (by decide) (fun _ h=>by exact .tail _ (.tail _ (List.mem_append_left _ h))) ?_
  refine St.p (fun x hx=>row_one p x (List.mem_of_mem_take hx)) ?_
  refine ax.q ?_
  exact bO.mk .tail (by rw[ho.Uo hg hx,hb'];rfl)
structure Q7(N:fj)(d:Nd):Prop where
 v:d.v<64
 lo:live N d.lo
 hi:live N d.hi
theorem fI.lt{pa cap used r:Nat}{N:fj}{C:Hp}(h:fI pa cap used N C)(hr:live N r):r<cap∧cap≤1048576:=by
 obtain⟨vl,vf,l,fr,Cl,Cf,rfl,hl,hf,ho⟩:=h
 exact⟨Nat.lt_of_lt_of_le (ho.lt hr) ho.cap.1,ho.cap.2⟩
theorem tE{pa cap used:Nat}{N:fj}{C:Hp}{d:Nd}(h:fI pa cap used N C)(hd:Q7 N d):
  Rd Tryz.prog 208 #[ptr pa,.agg (bg d).toArray] C (· =.int .i64 0):=by
 have hlo:=h.lt hd.lo
 have hhi:=h.lt hd.hi
 refine aX fun g=>Aj ?_
 intro b1 _
 refine Ld.f ?_
 refine aa.lss ?_
 refine dI.or (decide (64≤d.v)) (fun _=>?_) rfl fun _=>?_
 ·refine Ld.f ?_
  exact aa.mS (b:=64) ⟨rfl,rfl⟩
 have hv:=hd.v
 refine Br.OW (by simp;omega) ?_
 intro J hJ
 refine Ld.f ?_
 refine ae.eq (mY h (by omega)) ?_
 rw[cm.2 hd.lo]
 refine Un.not (Split.go rfl ?_)
 refine Ld.f ?_
 refine ae.eq (mY h (by omega)) ?_
 rw[cm.2 hd.hi]
 refine Un.not (ay.mk (JE.mk (hJ _ _ fun gs=>Br.no (bO.mk .tail rfl))))
theorem F5{pa cap used r:Nat}{N:fj}{C:Hp}(h:fI pa cap used N C)(hr:∃d,N r=some d)(h2:2≤r):
  Rd Tryz.prog 209 #[ptr pa,u32 r] C (· =.int .i64 0):=by
 have hl:=h.lt (.inr hr)
 refine aX fun g=>Ai ?_
 intro J hJ
 refine aa.BP (b:=1) ?_
 refine Split.go (by simp;omega) ?_
 refine ae.eq (mY h (by omega)) ?_
 rw[cm.2 (.inr hr)]
 refine Un.not (ay.mk (JE.mk (hJ _ _ fun gs=>Br.no (bO.mk (.refl _) rfl))))
theorem wX{pa cap used:Nat}{N:fj}{C:Hp}(h:fI pa cap used N C):Rd Tryz.prog 58 #[ptr pa] C (· =.int .i64 (used:Int)):=by
 obtain⟨vl,vf,l,fr,Cl,Cf,rfl,hl,hf,ho⟩:=h
 refine aX fun g=>EB ?_
 refine aa.aB (Br.no (Nil.ptr ?_))
 refine ag.mk (Ld.mk zM rfl ?_)
 exact bO.mk (.refl _) rfl
theorem y7{pa cap used:Nat}{N:fj}{C:Hp}(h:fI pa cap used N C):Rd Tryz.prog 146 #[ptr pa] C (· =.int .i64 (cap:Int)):=by
 obtain⟨vl,vf,l,fr,Cl,Cf,rfl,hl,hf,ho⟩:=h
 refine aX fun g=>AZ ?_
 refine aa.aB (Br.no (Nil.ptr ?_))
 refine ag.mk (Ld.mk zM rfl ?_)
 exact bO.mk (.refl _) rfl
section
variable {l:List lz} {fr:List Nat} {cap used:Nat} {N:fj}
theorem xZ(d:Nd){c:Nat}:Di ⟨(d.v:Int),d.lo,d.hi,true,c⟩=some d:=by simp[Di]
theorem uO.reuse(h:uO l fr cap used N){r:Nat}(hr:r∈fr){fr':List Nat}(hf:fr.Perm (r::fr'))(d:Nd):
  2≤r∧r<cap∧N r=none∧uO (l.set r ⟨(d.v:Int),d.lo,d.hi,true,0⟩) fr' cap (used+1) (up N r (some d)):=by
 obtain⟨p,hp,ht⟩:=(h.jy r).1 hr
 have hlt:=(List.getElem?_eq_some_iff.1 hp).1
 have h2:2≤r:=by
  apply Decidable.byContradiction
  intro hn
  obtain⟨p',MS,_,_,_,ht'⟩:=h.const r (by omega)
  rw[hp]at MS;cases MS;rw[ht]at ht';cases ht'
 have fT:=hf.nodup_iff.1 h.II
 rw[List.nodup_cons]at fT
 refine⟨h2,Nat.lt_of_lt_of_le hlt h.cap.1,by rw[h.nd r h2,hp];simp[Di,ht],?_⟩
 have fy:∀s,s≠r→(l.set r ⟨(d.v:Int),d.lo,d.hi,true,0⟩)[s]? =l[s]? :=fun s hs=>List.getElem?_set_ne (Ne.symm hs)
 have yx:(l.set r ⟨(d.v:Int),d.lo,d.hi,true,0⟩)[r]? =some ⟨(d.v:Int),d.lo,d.hi,true,0⟩:=List.getElem?_set_self hlt
 exact {
  cap:=by simpa using h.cap
  two:=by simpa using h.two
  const:=fun s hs=>by rw[fy s (by omega)];exact h.const s hs
  nd:=fun s hs=>by
   by_cases e:s=r
   ·subst e;rw[aF,yx];exact(xZ d).symm
   ·rw[aG e,fy s e];exact h.nd s hs
  n0:=fun s hs=>by rw[aG (by omega)];exact h.n0 s hs
  nn:=fun s q hs hq GJ=>by
   by_cases e:s=r
   ·subst e;rw[yx]at hq;cases hq;exact Int.natCast_nonneg _
   ·rw[fy s e]at hq;exact h.nn s q hs hq GJ
  II:=fT.2
  jy:=fun s=>by
   by_cases e:s=r
   ·subst e
    rw[yx]
    simp[fT.1]
   ·rw[fy s e,←h.jy s,hf.mem_iff]
    simp[e]
  used:=by have:=h.used;have:=hf.length_eq;simp only[List.length_cons,List.length_set]at*;omega}
theorem uO.grow(h:uO l [] cap used N)(hlt:l.length<cap)(d:Nd):
  2≤l.length∧N l.length=none∧uO (l++[⟨(d.v:Int),d.lo,d.hi,true,0⟩]) [] cap (used+1) (up N l.length (some d)):=by
 have h2:=h.two
 refine⟨h2,by rw[h.nd _ h2,List.getElem?_eq_none (Nat.le_refl _)];rfl,?_⟩
 have fy:∀s,s≠l.length→(l++[(⟨(d.v:Int),d.lo,d.hi,true,0⟩:lz)])[s]? =l[s]? :=fun s hs=>by
  rw[List.getElem?_append]
  split
  ·rfl
  ·rw[List.getElem?_eq_none (by simp;omega),List.getElem?_eq_none (by omega)]
 have yx:(l++[(⟨(d.v:Int),d.lo,d.hi,true,0⟩:lz)])[l.length]? =some ⟨(d.v:Int),d.lo,d.hi,true,0⟩:=by simp
 exact {
  cap:=by simp;exact⟨hlt,h.cap.2⟩
  two:=by simp;omega
  const:=fun s hs=>by rw[fy s (by omega)];exact h.const s hs
  nd:=fun s hs=>by
   by_cases e:s=l.length
   ·subst e;rw[aF,yx];exact(xZ d).symm
   ·rw[aG e,fy s e];exact h.nd s hs
  n0:=fun s hs=>by rw[aG (by omega)];exact h.n0 s hs
  nn:=fun s q hs hq GJ=>by
   by_cases e:s=l.length
   ·subst e;rw[yx]at hq;cases hq;exact Int.natCast_nonneg _
   ·rw[fy s e]at hq;exact h.nn s q hs hq GJ
  II:=h.II
  jy:=fun s=>by
   by_cases e:s=l.length
   ·subst e
    rw[yx]
    simp
   ·rw[fy s e];exact h.jy s
  used:=by have:=h.used;simp at*;omega}
theorem uO.tO(h:uO l fr cap used N){r:Nat}{p:lz}(h2:2≤r)(hp:l[r]? =some p)(ht:p.tk=true)(d:Nd):
  uO (l.set r ⟨(d.v:Int),d.lo,d.hi,true,p.c⟩) fr cap used (up N r (some d)):=by
 have hlt:=(List.getElem?_eq_some_iff.1 hp).1
 have fy:∀s,s≠r→(l.set r ⟨(d.v:Int),d.lo,d.hi,true,p.c⟩)[s]? =l[s]? :=fun s hs=>List.getElem?_set_ne (Ne.symm hs)
 have yx:(l.set r ⟨(d.v:Int),d.lo,d.hi,true,p.c⟩)[r]? =some ⟨(d.v:Int),d.lo,d.hi,true,p.c⟩:=List.getElem?_set_self hlt
 exact {
  cap:=by simpa using h.cap
  two:=by simpa using h.two
  const:=fun s hs=>by rw[fy s (by omega)];exact h.const s hs
  nd:=fun s hs=>by
   by_cases e:s=r
   ·subst e;rw[aF,yx];exact(xZ d).symm
   ·rw[aG e,fy s e];exact h.nd s hs
  n0:=fun s hs=>by rw[aG (by omega)];exact h.n0 s hs
  nn:=fun s q hs hq GJ=>by
   by_cases e:s=r
   ·subst e;rw[yx]at hq;cases hq;exact Int.natCast_nonneg _
   ·rw[fy s e]at hq;exact h.nn s q hs hq GJ
  II:=h.II
  jy:=fun s=>by
   by_cases e:s=r
   ·subst e
    rw[h.jy,yx,hp]
    simp[ht]
   ·rw[fy s e];exact h.jy s
  used:=by simpa using h.used}
theorem uO.free(h:uO l fr cap used N){r:Nat}{p:lz}(h2:2≤r)(hp:l[r]? =some p)(ht:p.tk=true):
  uO (l.set r ⟨0,0,0,false,0⟩) (fr++[r]) cap (used-1) (up N r none)∧0<used:=by
 have hlt:=(List.getElem?_eq_some_iff.1 hp).1
 have fy:∀s,s≠r→(l.set r ⟨0,0,0,false,0⟩)[s]? =l[s]? :=fun s hs=>List.getElem?_set_ne (Ne.symm hs)
 have yx:(l.set r ⟨0,0,0,false,0⟩)[r]? =some ⟨0,0,0,false,0⟩:=List.getElem?_set_self hlt
 have RB:r∉fr:=fun hm=>by obtain⟨q,hq,GJ⟩:=(h.jy r).1 hm;rw[hp]at hq;cases hq;rw[ht]at GJ;cases GJ
 have hu:fr.length<l.length:=by
  have hn:(r::fr).Nodup:=List.nodup_cons.2 ⟨RB,h.II⟩
  have:=bX (l:=r::fr) (l':=List.range l.length) hn fun s hs=>by
   rw[List.mem_range]
   rcases List.mem_cons.1 hs with rfl|hs
   ·exact hlt
   ·obtain⟨q,hq,_⟩:=(h.jy s).1 hs;exact(List.getElem?_eq_some_iff.1 hq).1
  rw[List.length_range]at this;exact this
 have ZG:=h.used
 refine⟨?_,by omega⟩
 exact {
  cap:=by simpa using h.cap
  two:=by simpa using h.two
  const:=fun s hs=>by rw[fy s (by omega)];exact h.const s hs
  nd:=fun s hs=>by
   by_cases e:s=r
   ·subst e;rw[aF,yx];rfl
   ·rw[aG e,fy s e];exact h.nd s hs
  n0:=fun s hs=>by rw[aG (by omega)];exact h.n0 s hs
  nn:=fun s q hs hq GJ=>by
   by_cases e:s=r
   ·subst e;rw[yx]at hq;cases hq;cases GJ
   ·rw[fy s e]at hq;exact h.nn s q hs hq GJ
  II:=by rw[List.nodup_append];exact⟨h.II,by simp,fun a ha c hc=>by simp at hc;subst hc;intro e;subst e;exact RB ha⟩
  jy:=fun s=>by
   rw[List.mem_append,List.mem_singleton]
   by_cases e:s=r
   ·subst e
    rw[yx]
    simp
   ·rw[fy s e,←h.jy];simp[e]
  used:=by simp;omega}
end
theorem jS(l:List lz)(r:Nat)(p:lz):(l.map lz.row).set r p.row=(l.set r p).map lz.row:=by rw[List.map_set]
theorem H8{pa cap used:Nat}{N:fj}{C:Hp}{d:Nd}(h:fI pa cap used N C)(hd:Q7 N d)(hroom:used<cap):
  Fc Tryz.prog 252 #[ptr pa,.agg (bg d).toArray] C (fun v C'=>∃r,v=.tuple #[u32 r,.int .i64 0]∧2≤r∧r<cap∧N r=none∧fI pa cap (used+1) (up N r (some d)) C'):=by
 have h0:=h
 obtain⟨vl,vf,l,fr,Cl,Cf,rfl,hl,hf,ho⟩:=h
 have hcap:=ho.cap
 have BU:=ho.used
 refine aX fun g=>zI ?_
 intro b1 _
 refine aa.aB (Br.no ?_)
 refine ax.q ?_
 refine ae.eq (tE h0 hd) ?_
 refine aa.gA (Br.F ?_)
 refine Nil.ptr ?_
 refine ag.mk (Ld.mk zM rfl ?_)
 refine hf.aM ?_
 rw[List.length_map]
 refine aa.iR (b:=0) (Br.dec (fun hp=>?_) (fun hp=>?_))
 ·obtain⟨fr',r,rfl⟩:∃fr' r,fr=fr'++[r]:=⟨fr.dropLast,fr.getLast (by intro e;simp[e]at hp),(List.dropLast_concat_getLast _).symm⟩
  simp only[List.length_append,List.length_cons,List.length_nil]at hp BU⊢
  obtain⟨g1,g2,g3,hok⟩:=ho.reuse (r:=r) (by simp) (fr':=fr') (by exact List.perm_append_singleton _ _) d
  refine Nil.ptr ?_
  refine ag.mk (Ld.mk zM rfl ?_)
  refine aa.bS (a:=fr'.length+1) (b:=1) ?_
  rw[Nat.add_sub_cancel]
  refine hf.ld (i:=fr'.length) (x:=(r:Int)) (by simp) (fun _ h=>by exact .tail _ (.tail _ (List.mem_append_right _ h))) ?_
  refine Nil.ptr ?_
  refine ag.mk (Ld.mk zM rfl ?_)
  refine aa.bS (a:=fr'.length+1) (b:=1) ?_
  rw[Nat.add_sub_cancel]
  refine hf.cut (i:=fr'.length) (by simp) fun v' ID=>?_
  have DG:aK 77 .u32 v' (fr'.map (Nat.cast:Nat→Int)) Cf:=by
   rw[List.map_append,List.take_left' (by simp)]at ID;exact ID
  have hone:v'.oneCell'=true:=by obtain⟨a,c,e⟩:=aN.len DG;rw[e];rfl
  refine Nil.ptr (ag.mk ?_)
  refine St.one (by exact .tail (.head _)) hone (by simp) rfl ?_
  refine DR.self ?_
  refine Nil.ptr ?_
  refine Ld.f ?_
  refine ax.q ?_
  refine Build.mk (cs:=(lz.mk (d.v:Int) d.lo d.hi true 0).row) (by kernel_rfl) ?_
  refine hl.FR (A:=[_,_]) (B:=Cf) (i:=r) (by rw[List.length_map];have:=(ho.jy r).1 (by simp);obtain⟨p,hp,_⟩:=this;exact(List.getElem?_eq_some_iff.1 hp).1) rfl (row_one _) fun C' hl'=>?_
  rw[jS]at hl'
  simp only[List.cons_append,List.nil_append]
  refine Nil.ptr ?_
  refine Ld.f ?_
  refine aa.inc ?_
  refine Nil.ptr (ag.mk ?_)
  refine St.one (by exact .tail (.head _)) rfl (by simp) rfl ?_
  exact bN.mk .tail ⟨r,rfl,g1,g2,g3,vl,v',_,fr',C',Cf,rfl,hl',DG,hok⟩
 ·obtain rfl:fr=[]:=List.eq_nil_of_length_eq_zero (by omega)
  simp only[List.length_nil]at BU
  obtain⟨g1,g3,hok⟩:=ho.grow (by omega) d
  refine Nil.ptr ?_
  refine ag.mk (Ld.mk zM rfl ?_)
  refine hl.aM ?_
  rw[List.length_map]
  refine Nil.ptr ?_
  refine ag.mk (Ld.mk zM rfl ?_)
  refine aa.mS (Br.F ?_)
  refine DR.of (R:=(b1,.cells (List.toArray (bg d)) 161 (0,0))::(pa,.cells #[.int .i64 (cap:Int),vl,vf,.int .i64 (used:Int)] 198 (0,0))::[]) (.cons (.cons .nil)) ?_
  refine Nil.ptr ?_
  refine ag.mk (Ld.mk zM rfl ?_)
  refine ax.q ?_
  refine Build.mk (cs:=(lz.mk (d.v:Int) d.lo d.hi true 0).row) (by kernel_rfl) ?_
  refine an.one (z:=.agg #[.int .i64 0,.int .u32 0,.int .u32 0,.bool false,.int .u8 0]) (e:=291) (k:=5) (by kernel_rfl) (by kernel_rfl) (by kernel_rfl) (by decide) rfl fun bx=>?_
  refine⟨.skip (.cons (.cons .nil)),?_⟩
  refine hl.y6 (A:=[_,_,_]) (B:=Cf) (r:=(lz.mk (d.v:Int) d.lo d.hi true 0).row) (by exact .head _) rfl (row_one _) (by exact⟨[.int .i64 0,.int .u32 0,.int .u32 0,.bool false,.int .u8 0],rfl,rfl⟩) (by simp;omega) (by simp;omega) fun v' C' hl'=>?_
  have uQ:aN 291 5 v' ((l++[(⟨(d.v:Int),d.lo,d.hi,true,0⟩:lz)]).map lz.row) C':=by rw[List.map_append];exact hl'
  simp only[List.cons_append,List.nil_append]
  refine⟨.skip (.cons (.cons .nil)),?_⟩
  have hone:v'.oneCell'=true:=by obtain⟨a,c,e⟩:=uQ.len;rw[e];rfl
  refine Nil.ptr (ag.mk ?_)
  refine St.one (by exact .tail (.tail (.head _))) hone (by simp) rfl ?_
  refine Nil.ptr ?_
  refine Ld.f ?_
  refine aa.inc ?_
  refine Nil.ptr (ag.mk ?_)
  refine St.one (by exact .tail (.tail (.head _))) rfl (by simp) rfl ?_
  refine Nil.ptr ?_
  refine Ld.f ?_
  refine uQ.aM ?_
  refine aa.qa (b:=1) (by simp[aW];omega) (by simp) ?_
  refine aY.q ?_
  refine bN.mk (.skip .tail) ⟨l.length,by simp[u32],g1,by omega,g3,v',vf,_,[],C',Cf,rfl,uQ,hf,hok⟩
theorem KI{pa cap used r:Nat}{N:fj}{C:Hp}{d:Nd}(h:fI pa cap used N C)(hd:Q7 N d)(hr:∃e,N r=some e)(h2:2≤r):
  Fc Tryz.prog 140 #[ptr pa,u32 r,.agg (bg d).toArray] C (fun v C'=>v=.int .i64 0∧fI pa cap used (up N r (some d)) C'):=by
 have h0:=h
 obtain⟨vl,vf,l,fr,Cl,Cf,rfl,hl,hf,ho⟩:=h
 have hx:=cm.2 (.inr hr:live N r)
 rw[ho.vE]at hx
 obtain⟨p,hg,hx⟩:∃p,l[r]? =some p∧p.tk=true:=by
  cases hg:l[r]? with
  |none=>rw[hg]at hx;simp at hx
  |some p=>rw[hg]at hx;exact⟨p,rfl,hx⟩
 refine aX fun g=>A4 ?_
 intro b1 _
 refine aa.aB (Br.no ?_)
 refine ax.q ?_
 refine ae.eq (tE h0 hd) ?_
 refine aa.gA (Br.F ?_)
 refine ae.eq (F5 h0 hr h2) ?_
 refine aa.gA (Br.F ?_)
 refine DR.self ?_
 refine Nil.ptr ?_
 refine ag.mk (Ld.mk zM rfl ?_)
 refine ax.q ?_
 refine hl.Jf (A:=[_,_]) (B:=Cf) (r:=p.row) (xs:=bg d) (n:=3) (by rw[List.getElem?_map,hg];rfl) ⟨rfl,by omega⟩ (by intro x hx;simp[bg,u32]at hx;rcases hx with rfl|rfl|rfl<;>rfl) fun C' hl'=>?_
 have e:(bg d++p.row.drop 3)=(lz.mk (d.v:Int) d.lo d.hi true p.c).row:=by simp[bg,lz.row,hx]
 rw[e,jS]at hl'
 exact bN.mk .tail ⟨rfl,vl,vf,_,fr,C',Cf,rfl,hl',hf,ho.tO h2 hg hx d⟩
theorem Ie{pa cap used r:Nat}{N:fj}{C:Hp}(h:fI pa cap used N C)(hr:∃e,N r=some e)(h2:2≤r):
  Fc Tryz.prog 210 #[ptr pa,u32 r] C (fun v C'=>v=.int .i64 0∧fI pa cap (used-1) (up N r none) C'):=by
 have h0:=h
 obtain⟨vl,vf,l,fr,Cl,Cf,rfl,hl,hf,ho⟩:=h
 have hx:=cm.2 (.inr hr:live N r)
 rw[ho.vE]at hx
 obtain⟨p,hg,hx⟩:∃p,l[r]? =some p∧p.tk=true:=by
  cases hg:l[r]? with
  |none=>rw[hg]at hx;simp at hx
  |some p=>rw[hg]at hx;exact⟨p,rfl,hx⟩
 obtain⟨hok,Xe⟩:=ho.free h2 hg hx
 have hcap:=ho.cap
 have BU:=ho.used
 refine aX fun g=>Ah ?_
 refine aa.aB (Br.no ?_)
 refine ae.eq (F5 h0 hr h2) ?_
 refine aa.gA (Br.F ?_)
 refine Nil.ptr ?_
 refine ag.mk (Ld.mk zM rfl ?_)
 refine Build.mk (cs:=(lz.mk 0 0 0 false 0).row) (by kernel_rfl) ?_
 refine hl.FR (A:=[_]) (B:=Cf) (i:=r) (by rw[List.length_map];exact(List.getElem?_eq_some_iff.1 hg).1) rfl (row_one _) fun C' hl'=>?_
 rw[jS]at hl'
 simp only[List.cons_append,List.nil_append]
 refine Nil.ptr ?_
 refine Ld.f ?_
 refine an.int (e:=77) (by kernel_rfl) (by kernel_rfl) (by kernel_rfl) fun bx=>?_
 have e1:(bx,Obj.cells (aC .u32 [(r:Int)]) 77 (0,0))::(pa,Obj.cells #[.int .i64 (cap:Int),vl,vf,.int .i64 (used:Int)] 198 (0,0))::(C'++Cf)=(bx,Obj.cells (aC .u32 [(r:Int)]) 77 (0,0))::(pa,Obj.cells #[.int .i64 (cap:Int),vl,vf,.int .i64 (used:Int)] 198 (0,0))::C'++(Cf++[]):=by simp
 rw[e1]
 refine hf.app (x:=(r:Int)) (B:=[]) (by exact .head _) (by simp;omega) (by simp;omega) fun v' Wf ID=>?_
 have DG:aK 77 .u32 v' ((fr++[r]).map (Nat.cast:Nat→Int)) Wf:=by rw[List.map_append];exact ID
 have hone:v'.oneCell'=true:=by obtain⟨a,c,e⟩:=aN.len DG;rw[e];rfl
 simp only[List.cons_append,List.append_nil]
 refine Nil.ptr (ag.mk ?_)
 refine St.one (by exact .tail (.head _)) hone (by simp) rfl ?_
 refine Nil.ptr ?_
 refine Ld.f ?_
 refine aa.bS (b:=1) ?_
 refine Nil.ptr (ag.mk ?_)
 refine St.one (by exact .tail (.head _)) rfl (by simp) rfl ?_
 exact bN.mk .tail ⟨rfl,vl,v',_,_,C',Wf,rfl,hl',DG,hok⟩
def nK(d:Nd):Value:=.agg (bg d).toArray
abbrev OB(v:Value)(r:Nat):Prop:=v=u32 r
theorem BL:Tryz.prog.underlying 161=some (.struct (Tryz.prog.fieldsOf 161)):=by kernel_rfl
theorem nf(a b:Nd):Bk Tryz.prog 161 (nK a) (nK b) (decide (a=b)):=by
 refine Bk.flat (fs:=#[⟨"Var",3,0,false, "", "",0⟩,⟨"Lo",77,1,false, "", "",8⟩,⟨"Hi",77,2,false, "", "",12⟩]) (by kernel_rfl) (by kernel_rfl) ?_ ?_
 ·intro f hf
  simp only[List.mem_cons,List.not_mem_nil,or_false]at hf
  rcases hf with rfl|rfl|rfl
  ·exact⟨by decide,_,_,rfl,rfl,.inl ⟨.i64,_,_,by kernel_rfl,rfl,rfl⟩⟩
  ·exact⟨by decide,_,_,rfl,rfl,.inl ⟨.u32,_,_,by kernel_rfl,rfl,rfl⟩⟩
  ·exact⟨by decide,_,_,rfl,rfl,.inl ⟨.u32,_,_,by kernel_rfl,rfl,rfl⟩⟩
 ·obtain⟨a1,a2,a3⟩:=a
  obtain⟨b1,b2,b3⟩:=b
  simp[bg,u32]
  omega
theorem iX(a:Nd):lB Tryz.prog 161 (nK a):=by
 refine lB.flat (fs:=#[⟨"Var",3,0,false, "", "",0⟩,⟨"Lo",77,1,false, "", "",8⟩,⟨"Hi",77,2,false, "", "",12⟩]) (by kernel_rfl) ?_
 intro f hf
 simp only[List.mem_cons,List.not_mem_nil,or_false]at hf
 rcases hf with rfl|rfl|rfl
 ·exact⟨by decide,_,rfl,.inl ⟨.i64,_,_,by kernel_rfl,rfl,rfl⟩⟩
 ·exact⟨by decide,_,rfl,.inl ⟨.u32,_,_,by kernel_rfl,rfl,rfl⟩⟩
 ·exact⟨by decide,_,rfl,.inl ⟨.u32,_,_,by kernel_rfl,rfl,rfl⟩⟩
theorem BN(a:Nd):Instr.sameBits 10000 (nK a) (nK a)=true:=rZ 9998 (by intro x hx;simp[bg,u32]at hx;rcases hx with rfl|rfl|rfl<;>exact .inl ⟨_,_,rfl⟩)
structure UM where
 b:Nat
 es:Array MapEntry
 ck:Nat
 l:List (Nd×Nat)
def Dl(ms:List UM):Hp:=ms.map fun m=>(m.b,.map m.es m.ck)
structure IJ(ms:List UM)(n:Nat)(T:Nd→Option Nat):Prop where
 len:ms.length=n
 pC:∀(v:Nat) m,ms[v]? =some m→aR nK OB m.es m.ck m.l
 var:∀(v:Nat) m,ms[v]? =some m→∀x∈m.l,x.1.v=v
 T:∀d,T d=(ms[d.v]?).bind fun m=>dm m.l d
def l9(pt n:Nat)(T:Nd→Option Nat)(C:Hp):Prop:=
 ∃vs Cs ms,C=(pt,.cells #[vs] 265 (0,0))::(Cs++Dl ms)∧aN 266 1 vs (ms.map fun m=>[.map (some m.b)]) Cs∧IJ ms n T
theorem pG{ms:List UM}{v:Nat}{m:UM}(h:ms[v]? =some m):(m.b,Obj.map m.es m.ck)∈Dl ms:=List.mem_map.2 ⟨m,List.mem_of_getElem? h,rfl⟩
theorem uf{es':Array MapEntry}{c8:Nat}{l':List (Nd×Nat)}:∀{ms:List UM} {v:Nat} {m:UM},ms[v]? =some m→cA m.b (.map m.es m.ck) (.map es' c8) (Dl ms) (Dl (ms.set v ⟨m.b,es',c8,l'⟩))
 | [],v,m,h=>by simp at h
 |x::ms,0,m,h=>by simp at h;subst h;exact .head _
 |x::ms,v+1,m,h=>by simp at h;exact .tail (uf h)
theorem sS{ms:List UM}{v:Nat}{m m':UM}(h:ms[v]? =some m)(hb:m'.b=m.b):(ms.set v m').map (fun m=>[Value.map (some m.b)])=ms.map fun m=>[Value.map (some m.b)]:=by
 rw[List.map_set]
 apply List.ext_getElem?
 intro j
 rw[List.getElem?_set]
 split
 ·rename_i e;subst e
  have hlt:=(List.getElem?_eq_some_iff.1 h).1
  have e2:ms[v]=m:=by rw[List.getElem?_eq_getElem hlt]at h;exact Option.some.inj h
  simp[hb,hlt,e2]
 ·rfl
theorem IJ.add{ms:List UM}{n:Nat}{T:Nd→Option Nat}(h:IJ ms n T){d:Nd}{m:UM}(hm:ms[d.v]? =some m){es':Array MapEntry}{c8 r:Nat}(he:aR nK OB es' c8 (e8 m.l d r)):IJ (ms.set d.v ⟨m.b,es',c8,e8 m.l d r⟩) n (mO T d (some r)) where
 len:=by rw[List.length_set];exact h.len
 pC:=fun v m' hm'=>by
  rw[List.getElem?_set]at hm'
  split at hm'
  ·split at hm'
   ·cases hm';exact he
   ·cases hm'
  ·exact h.pC v m' hm'
 var:=fun v m' hm' x hx=>by
  rw[List.getElem?_set]at hm'
  split at hm'
  ·rename_i e
   split at hm'
   ·cases hm'
    subst e
    simp only[e8]at hx
    split at hx
    ·obtain⟨y,hy,rfl⟩:=List.mem_map.1 hx
     split
     ·rfl
     ·exact h.var _ m hm y hy
    ·rcases List.mem_append.1 hx with hx|hx
     ·exact h.var _ m hm x hx
     ·simp at hx;subst hx;rfl
   ·cases hm'
  ·exact h.var v m' hm' x hx
 T:=fun e=>by
  have hlt:=(List.getElem?_eq_some_iff.1 hm).1
  by_cases ee:e=d
  ·subst ee;rw[gr,List.getElem?_set_self hlt];simp[eW]
  ·rw[mj ee,h.T e]
   by_cases ev:d.v=e.v
   ·rw[←ev,List.getElem?_set_self hlt,hm];simp[eW,ee]
   ·rw[List.getElem?_set_ne ev]
theorem IJ.del{ms:List UM}{n:Nat}{T:Nd→Option Nat}(h:IJ ms n T){d:Nd}{m:UM}(hm:ms[d.v]? =some m){es':Array MapEntry}{c8:Nat}(he:aR nK OB es' c8 (r5 m.l d)):IJ (ms.set d.v ⟨m.b,es',c8,r5 m.l d⟩) n (mO T d none) where
 len:=by rw[List.length_set];exact h.len
 pC:=fun v m' hm'=>by
  rw[List.getElem?_set]at hm'
  split at hm'
  ·split at hm'
   ·cases hm';exact he
   ·cases hm'
  ·exact h.pC v m' hm'
 var:=fun v m' hm' x hx=>by
  rw[List.getElem?_set]at hm'
  split at hm'
  ·rename_i e
   split at hm'
   ·cases hm'
    subst e
    exact h.var _ m hm x (List.mem_filter.1 hx|>.1)
   ·cases hm'
  ·exact h.var v m' hm' x hx
 T:=fun e=>by
  have hlt:=(List.getElem?_eq_some_iff.1 hm).1
  by_cases ee:e=d
  ·subst ee;rw[gr,List.getElem?_set_self hlt];simp[sQ]
  ·rw[mj ee,h.T e]
   by_cases ev:d.v=e.v
   ·rw[←ev,List.getElem?_set_self hlt,hm];simp[sQ,ee]
   ·rw[List.getElem?_set_ne ev]
theorem kE{pt n v:Nat}{T:Nd→Option Nat}{C:Hp}(h:l9 pt n T C)(hv:v<n):Rd Tryz.prog 206 #[ptr pt,.int .i64 (v:Int)] C (· =.int .i64 0):=by
 obtain⟨vs,Cs,ms,rfl,hs,ho⟩:=h
 refine aX fun g=>Al ?_
 refine aa.aB (Br.no ?_)
 refine aa.lss ?_
 rw[decide_eq_false (by omega:¬((v:Int)<0))]
 refine dI.or false (fun _=>?_) rfl fun _=>Br.no (bO.mk (.refl _) rfl)
 refine Nil.ptr ?_
 refine ag.mk (Ld.mk zM rfl ?_)
 refine hs.aM ?_
 rw[List.length_map,ho.len]
 exact aa.mS ⟨rfl,by rw[decide_eq_false (by omega)]⟩
theorem pM{pt n:Nat}{T:Nd→Option Nat}{C:Hp}{d:Nd}(h:l9 pt n T C)(hv:d.v<n):
  Rd Tryz.prog 205 #[ptr pt,nK d] C (· =.tuple #[u32 ((T d).getD 0),.bool (T d).isSome]):=by
 have h0:=h
 obtain⟨vs,Cs,ms,rfl,hs,ho⟩:=h
 obtain⟨m,hm⟩:∃m,ms[d.v]? =some m:=⟨_,List.getElem?_eq_getElem (by rw[ho.len];exact hv)⟩
 refine aX fun g=>Am ?_
 intro b1 _
 refine Ld.f ?_
 refine ae.eq (kE h0 hv) ?_
 refine aa.gA (Br.F ?_)
 refine Nil.ptr ?_
 refine ag.mk (Ld.mk zM rfl ?_)
 refine Ld.f ?_
 refine hs.MC (x:=.map (some m.b)) (by rw[List.getElem?_map,hm];rfl) (fun _ h=>by exact .tail _ (.tail _ (List.mem_append_left _ h))) ?_
 refine ax.q ?_
 have hmem:(m.b,Obj.map m.es m.ck)∈(b1,Obj.cells (Value.cells (nK d)) 161 (0,0))::(pt,.cells #[vs] 265 (0,0))::(Cs++Dl ms):=.tail _ (.tail _ (List.mem_append_right _ (pG hm)))
 have hT:T d=dm m.l d:=by rw[ho.T,hm];rfl
 rw[hT]
 cases hg:dm m.l d with
 |some r=>
  refine aR.J0 (ke:=nK) (k:=d) nf iX (ho.pC _ m hm) hmem hg ?_
  rintro v rfl
  exact Ext.mk rfl (Ext.mk rfl (bO.mk .tail rfl))
 |none=>
  refine aR.BO (ke:=nK) (k:=d) nf iX (ho.pC _ m hm) hmem hg ?_
  exact Ext.mk rfl (Ext.mk rfl (bO.mk .tail rfl))
theorem Bu{pt n r:Nat}{T:Nd→Option Nat}{C:Hp}{d:Nd}(h:l9 pt n T C)(hv:d.v<n)(hT:T d=none):
  Fc Tryz.prog 141 #[ptr pt,nK d,u32 r] C (fun v C'=>v=.int .i64 0∧l9 pt n (mO T d (some r)) C'):=by
 have h0:=h
 obtain⟨vs,Cs,ms,rfl,hs,ho⟩:=h
 obtain⟨m,hm⟩:∃m,ms[d.v]? =some m:=⟨_,List.getElem?_eq_getElem (by rw[ho.len];exact hv)⟩
 have TX:dm m.l d=none:=by rw[ho.T,hm]at hT;exact hT
 refine aX fun g=>A3 ?_
 intro b1 _
 refine Ld.f ?_
 refine ae.eq (kE h0 hv) ?_
 refine aa.gA (Br.F ?_)
 refine Nil.ptr ?_
 refine ag.mk (Ld.mk zM rfl ?_)
 refine Ld.f ?_
 refine hs.MC (x:=.map (some m.b)) (by rw[List.getElem?_map,hm];rfl) (fun _ h=>by exact .tail _ (.tail _ (List.mem_append_left _ h))) ?_
 refine ax.q ?_
 have hmem:(m.b,Obj.map m.es m.ck)∈(b1,Obj.cells (Value.cells (nK d)) 161 (0,0))::(pt,.cells #[vs] 265 (0,0))::(Cs++Dl ms):=.tail _ (.tail _ (List.mem_append_right _ (pG hm)))
 refine aR.BO (ke:=nK) (k:=d) nf iX (ho.pC _ m hm) hmem TX ?_
 refine Ext.mk rfl (Ext.mk rfl (Br.no ?_))
 refine DR.self ?_
 refine Nil.ptr ?_
 refine ag.mk (Ld.mk zM rfl ?_)
 refine Ld.f ?_
 refine hs.MC (x:=.map (some m.b)) (by rw[List.getElem?_map,hm];rfl) (fun _ h=>by exact .tail _ (.tail _ (List.mem_append_left _ h))) ?_
 refine ax.q ?_
 refine aR.OC (ke:=nK) (k:=d) (vr:=OB) (x:=r) nf iX BN (ho.pC _ m hm) rfl fun es' c8 he=>⟨_,.tail (.tail ((uf (l':=e8 m.l d r) hm).bU Cs)),?_⟩
 exact bN.mk .tail ⟨rfl,vs,Cs,_,rfl,by rw[sS hm];exact hs;rfl,ho.add hm he⟩
theorem sM{pt n r:Nat}{T:Nd→Option Nat}{C:Hp}{d:Nd}(h:l9 pt n T C)(hv:d.v<n)(hT:T d=some r):
  Fc Tryz.prog 137 #[ptr pt,nK d] C (fun v C'=>v=.int .i64 0∧l9 pt n (mO T d none) C'):=by
 have h0:=h
 obtain⟨vs,Cs,ms,rfl,hs,ho⟩:=h
 obtain⟨m,hm⟩:∃m,ms[d.v]? =some m:=⟨_,List.getElem?_eq_getElem (by rw[ho.len];exact hv)⟩
 have TX:dm m.l d=some r:=by rw[ho.T,hm]at hT;exact hT
 refine aX fun g=>A6 ?_
 intro b1 _
 refine Ld.f ?_
 refine ae.eq (kE h0 hv) ?_
 refine aa.gA (Br.F ?_)
 refine Nil.ptr ?_
 refine ag.mk (Ld.mk zM rfl ?_)
 refine Ld.f ?_
 refine hs.MC (x:=.map (some m.b)) (by rw[List.getElem?_map,hm];rfl) (fun _ h=>by exact .tail _ (.tail _ (List.mem_append_left _ h))) ?_
 refine ax.q ?_
 have hmem:(m.b,Obj.map m.es m.ck)∈(b1,Obj.cells (Value.cells (nK d)) 161 (0,0))::(pt,.cells #[vs] 265 (0,0))::(Cs++Dl ms):=.tail _ (.tail _ (List.mem_append_right _ (pG hm)))
 refine aR.J0 (ke:=nK) (k:=d) nf iX (ho.pC _ m hm) hmem TX ?_
 rintro v rfl
 refine Ext.mk rfl (Ext.mk rfl (Un.not (Br.no ?_)))
 refine DR.of (R:=(b1,Obj.cells (Value.cells (nK d)) 161 (0,0))::(pt,.cells #[vs] 265 (0,0))::Cs) (.cons (.cons .left)) ?_
 refine Nil.ptr ?_
 refine ag.mk (Ld.mk zM rfl ?_)
 refine Ld.f ?_
 refine hs.MC (x:=.map (some m.b)) (by rw[List.getElem?_map,hm];rfl) (fun _ h=>by exact .tail _ (.tail _ h)) ?_
 refine ax.q ?_
 refine aR.Ut (ke:=nK) (k:=d) nf iX (ho.pC _ m hm) hmem fun es' he=>⟨_,.tail (.tail ((uf (l':=r5 m.l d) hm).bU Cs)),?_⟩
 exact⟨.cons (.cons .left),bN.mk .tail ⟨rfl,vs,Cs,_,rfl,by rw[sS hm];exact hs;rfl,ho.del hm he⟩⟩
theorem IJ.start(n:Nat)(bs:List Nat)(h:bs.length=n):IJ (bs.map fun b=>⟨b,#[],0,[]⟩) n (fun _=>none) where
 len:=by simpa using h
 pC:=fun v m hm=>by
  rw[List.getElem?_map]at hm
  obtain⟨b,_,rfl⟩:=Option.map_eq_some_iff.1 hm
  exact aR.empty
 var:=fun v m hm x hx=>by
  rw[List.getElem?_map]at hm
  obtain⟨b,_,rfl⟩:=Option.map_eq_some_iff.1 hm
  simp at hx
 T:=fun d=>by
  rw[List.getElem?_map]
  cases bs[d.v]? <;>simp[dm]
theorem wB(x:Value):∀n:Nat,(List.replicate n [x]).flatten=List.replicate n x
 |0=>rfl
 |n+1=>by rw[List.replicate_succ,List.flatten_cons,List.replicate_succ,wB x n];rfl
theorem IU{n:Nat}(hn:1≤n∧n≤64):Fc Tryz.prog 117 #[.int .i64 (n:Int)] [] (fun v H=>∃pt,v=.tuple #[ptr pt,.int .i64 0]∧l9 pt n (fun _=>none) H):=by
 refine aX fun g=>Bc ?_
 refine aa.lss ?_
 rw[decide_eq_false (by omega)]
 refine dI.or false (fun _=>aa.gtr ⟨rfl,by rw[decide_eq_false (by omega)]⟩) rfl fun _=>Br.no ?_
 refine⟨.i64,.i64,n,n,rfl,rfl,Nat.le_refl _,by omega,by omega,?_⟩
 intro bs _
 refine Build.mk (cs:=[.slice (some ⟨bs,0,none⟩) n n]) (by kernel_rfl) ?_
 intro pt _
 have hz:madeCells (Value.cells (.map none)) (n*1)=rows ((List.replicate n [Value.map none])++[]):=by
  apply Array.ext'
  apply List.ext_getElem?
  intro i
  have:=wB (.map none) n
  simp only[madeCells,rows,Value.cells,Array.toList_map,Array.toList_range,List.getElem?_map,List.toList_toArray,Nat.mul_one,List.append_nil]
  rw[this,List.getElem?_replicate]
  by_cases hi:i<n
  ·simp[hi,Nat.mod_one]
  ·simp[hi]
 rw[hz]
 have hs0:aN 266 1 (.slice (some ⟨bs,0,none⟩) n n) (List.replicate n [Value.map none]) [(bs,.cells (rows ((List.replicate n [Value.map none])++[])) 266 (0,0))]:=
  aN.mk' (fun r hr=>by rw[List.append_nil]at hr;rw[List.eq_of_mem_replicate hr];rfl) (by simp) (by simp)
 refine⟨fun vs H=>∃(j:Nat) (bl:List Nat) (Cs:Hp),vs=[.int .i64 (j:Int)]∧bl.length=j∧j≤n∧H=(pt,.cells #[.slice (some ⟨bs,0,none⟩) n n] 265 (0,0))::(Cs++Dl (bl.map fun b=>⟨b,#[],0,[]⟩))∧
  aN 266 1 (.slice (some ⟨bs,0,none⟩) n n) ((bl.map fun b=>[Value.map (some b)])++List.replicate (n-j) [Value.map none]) Cs,fun vs _=>n-aV vs 0,JE.mk ⟨0,[],_,rfl,rfl,by omega,by simp only[Dl,List.map_nil,List.append_nil];rfl,by simpa using hs0⟩,?_⟩
 rintro w H ⟨j,bl,Cs,hw,LK,hj,rfl,hs⟩ gs
 simp only[List.cons.injEq,and_true]at hw
 subst hw
 refine aa.dn (Br.dec (fun hlt=>?_) (fun hlt=>?_))
 ·refine Nil.ptr ?_
  refine Ld.f ?_
  intro b _
  have hlen:((bl.map fun b=>[Value.map (some b)])++List.replicate (n-j) [Value.map none]).length=n:=by simp;omega
  refine aN.So (A:=[_,_]) (B:=Dl (bl.map fun b=>⟨b,#[],0,[]⟩)) hs (i:=j) (y:=.map none) (by omega) ?_ rfl fun C' hs'=>?_
  ·rw[List.getElem?_append_right (by simp[LK])]
   simp only[List.length_map,LK,Nat.sub_self]
   rw[List.getElem?_replicate,if_pos (by omega)]
  refine aa.inc ?_
  have e:((bl.map fun b=>[Value.map (some b)])++List.replicate (n-j) [Value.map none]).set j [Value.map (some b)]=((bl++[b]).map fun b=>[Value.map (some b)])++List.replicate (n-(j+1)) [Value.map none]:=by
   rw[List.set_append_right _ _ (by simp[LK])]
   simp only[List.length_map,LK,Nat.sub_self]
   rw[show n-j=(n-(j+1))+1 by omega,List.replicate_succ,List.set_cons_zero,List.map_append]
   simp
  rw[e]at hs'
  refine aq.of ?_ ⟨j+1,bl++[b],C',rfl,by simp[LK],by omega,rfl,hs'⟩ (by show n-(((j+1:Nat):Int).toNat)<n-(((j:Nat):Int).toNat);omega)
  refine aJ.perm ?_
  simp only[List.cons_append,List.nil_append,Dl,List.map_append,List.map_map]
  refine(List.Perm.swap _ _ _).trans (.cons _ ?_)
  rw[←List.append_assoc]
  exact(List.perm_append_singleton _ _).symm
 ·obtain rfl:j=n:=by omega
  refine bN.here ⟨pt,rfl,_,Cs,_,rfl,?_,IJ.start _ bl LK⟩
  rw[Nat.sub_self]at hs
  simpa[List.map_map,Function.comp_def]using hs
theorem KK{n:Nat}(hn:2≤n∧n≤1048576):Fc Tryz.prog 186 #[.int .i64 (n:Int)] [] (fun v H=>∃pa,v=.tuple #[ptr pa,.int .i64 0]∧fI pa n 2 (fun _=>none) H):=by
 refine aX fun g=>As ?_
 refine aa.lss ?_
 rw[decide_eq_false (by omega)]
 refine dI.or false (fun _=>aa.gtr ⟨rfl,by rw[decide_eq_false (by omega)]⟩) rfl fun _=>Br.no ?_
 refine Build.mk (cs:=[.int .i64 (n:Int),.slice none 0 0,.slice none 0 0,.int .i64 2]) (by kernel_rfl) ?_
 intro pa _
 refine⟨fun vs H=>∃(j:Nat) (vl:Value) (Cl:Hp),vs=[u32 j]∧j≤2∧H=(pa,.cells #[.int .i64 (n:Int),vl,.slice none 0 0,.int .i64 2] 198 (0,0))::Cl∧
  aN 291 5 vl ((List.range j).map fun r=>(lz.mk (-1) r r true 255).row) Cl,fun vs _=>2-aV vs 0,JE.mk ⟨0,_,[],rfl,by omega,rfl,aN.nil _ _⟩,?_⟩
 rintro w H ⟨j,vl,Cl,hw,hj,rfl,hs⟩ gs
 simp only[List.cons.injEq,and_true]at hw
 subst hw
 refine aa.dn (b:=2) (Br.dec (fun hlt=>?_) (fun hlt=>?_))
 ·refine Nil.ptr ?_
  refine Ld.f ?_
  refine Build.mk (cs:=[.int .i64 (-1),u32 j,u32 j]) (by kernel_rfl) ?_
  refine Build.mk (cs:=(lz.mk (-1) j j true 255).row) (by kernel_rfl) ?_
  refine an.one (z:=.agg #[.int .i64 0,.int .u32 0,.int .u32 0,.bool false,.int .u8 0]) (e:=291) (k:=5) (by kernel_rfl) (by kernel_rfl) (by kernel_rfl) (by decide) rfl fun bx=>?_
  have e1:∀x y:Nat×Obj,x::y::Cl=[x,y]++(Cl++[]):=fun x y=>by simp
  rw[e1]
  refine hs.y6 (A:=[_,_]) (B:=[]) (r:=(lz.mk (-1) j j true 255).row) (by exact .head _) rfl (row_one _) (by exact⟨[.int .i64 0,.int .u32 0,.int .u32 0,.bool false,.int .u8 0],rfl,rfl⟩) (by simp;omega) (by simp;omega) fun v' C' hs'=>?_
  simp only[List.cons_append,List.nil_append,List.append_nil]
  have hone:v'.oneCell'=true:=by obtain⟨a,c,e⟩:=hs'.len;rw[e];rfl
  refine Nil.ptr (ag.mk ?_)
  refine St.one (by exact .tail (.head _)) hone (by simp) rfl ?_
  refine aa.inc ?_
  refine aq.of .tail ⟨j+1,v',C',rfl,by omega,rfl,?_⟩ (by show 2-(((j+1:Nat):Int).toNat)<2-(((j:Nat):Int).toNat);omega)
  rw[List.range_succ,List.map_append];exact hs'
 ·obtain rfl:j=2:=by omega
  refine bN.here ⟨pa,rfl,vl,_,[⟨-1,0,0,true,255⟩,⟨-1,1,1,true,255⟩],[],Cl,[],by rw[List.append_nil];rfl,hs,aK.nil,?_⟩
  exact {
   cap:=by simp;omega
   two:=by simp
   const:=fun r hr=>by
    have:r=0∨r=1:=by omega
    rcases this with rfl|rfl
    ·exact⟨_,rfl,rfl,rfl,rfl,rfl⟩
    ·exact⟨_,rfl,rfl,rfl,rfl,rfl⟩
   nd:=fun r hr=>by rw[List.getElem?_eq_none (by simp;omega)];rfl
   n0:=fun _ _=>rfl
   nn:=fun r p hr hp _=>by rw[List.getElem?_eq_none (by simp;omega)]at hp;cases hp
   II:=by simp
   jy:=fun r=>by
    simp only[List.not_mem_nil,false_iff,not_exists,not_and]
    intro p hp
    have hlt:=(List.getElem?_eq_some_iff.1 hp).1
    simp at hlt
    have:r=0∨r=1:=by omega
    rcases this with rfl|rfl<;>(simp at hp;subst hp;simp)
   used:=rfl}
structure rX where
 pa:Nat
 pt:Nat
 vu:Value
 vh:Value
 vo:Value
 vl:Value
 vt:Value
 CA:Hp
 CT:Hp
 CU:Hp
 CH:Hp
 CO:Hp
 CL:Hp
 CR:Hp
def rX.cells(b:rX)(n:Nat):Array Value:=#[ptr b.pa,ptr b.pt,b.vu,b.vh,.int .i64 (n:Int),b.vo,b.vl,b.vt]
def rX.hp(b:rX)(kp n:Nat):Hp:=(kp,.cells (b.cells n) 117 (0,0))::(b.CA++(b.CT++(b.CU++(b.CH++(b.CO++(b.CL++b.CR))))))
structure NS(b:rX)(K:Kd)(ord ak tr:List Nat):Prop where
 ar:fI b.pa K.cap K.used K.N b.CA
 ut:l9 b.pt K.n K.T b.CT
 us:aK 21 .i32 b.vu (iw K.us) b.CU
 ho:aK 21 .i32 b.vh (iw K.ho) b.CH
 od:aK 3 .i64 b.vo (iw ord) b.CO
 lv:aK 3 .i64 b.vl (iw ak) b.CL
 tr:aK 3 .i64 b.vt (iw tr) b.CR
 ul:K.us.length=K.ho.length∧K.us.length≤1048576
 Ge:K.n≤64
 ol:ord.length=K.n∧ak.length=K.n
def cz(kp:Nat)(K:Kd)(ord ak tr:List Nat)(C:Hp):Prop:=∃b:rX,C=b.hp kp K.n∧NS b K ord ak tr
section
variable {kp:Nat} {K:Kd} {ord ak tr:List Nat} {C:Hp}
theorem cz.cap(h:cz kp K ord ak tr C):K.cap≤1048576:=by
 obtain⟨b,rfl,hb⟩:=h
 exact(hb.ar.lt (r:=0) (.inl (by decide))).2
theorem cz.lt(h:cz kp K ord ak tr C){r:Nat}(hr:live K.N r):r<1048576:=by
 obtain⟨b,rfl,hb⟩:=h
 have:=hb.ar.lt hr
 omega
theorem cQ(N:fj)(r:Nat):(got N r).length=3∧∀x∈got N r,x.oneCell'=true:=by
 unfold got
 split
 ·exact⟨rfl,by intro x hx;simp[u32]at hx;rcases hx with rfl|rfl|rfl<;>rfl⟩
 ·split
  ·exact⟨rfl,by intro x hx;simp[bg,u32]at hx;rcases hx with rfl|rfl|rfl<;>rfl⟩
  ·exact⟨rfl,by intro x hx;simp[u32]at hx;rcases hx with rfl|rfl|rfl<;>rfl⟩
theorem jW(h:cz kp K ord ak tr C){r:Nat}(hr:r<4294967296):Rd Tryz.prog 173 #[ptr kp,u32 r] C (· =.bool (eX K.N r)):=by
 obtain⟨b,rfl,hb⟩:=h
 refine aX fun g=>AB ?_
 refine Nil.ptr ?_
 refine Ld.f ?_
 refine ae.eq (Hw hb.ar hr) ?_
 refine Ext.two ?_
 intro b8 _
 refine St.whole (r:=got K.N r) (by exact .head _) rfl (cQ _ _).1 (cQ _ _).2 ?_
 refine aa.j5 ?_
 refine bO.mk .tail ?_
 cases eX K.N r<;>rfl
theorem jV(h:cz kp K ord ak tr C){r:Nat}(hr:r<4294967296):Rd Tryz.prog 174 #[ptr kp,u32 r] C (· =.agg (got K.N r).toArray):=by
 obtain⟨b,rfl,hb⟩:=h
 refine aX fun g=>AA ?_
 intro b1 _
 refine Nil.ptr ?_
 refine Ld.f ?_
 refine ae.eq (Hw hb.ar hr) ?_
 refine Ext.two ?_
 intro b10 _
 refine St.whole (r:=got K.N r) (by exact .head _) rfl (cQ _ _).1 (cQ _ _).2 ?_
 refine ax.whole (r:=got K.N r) (by exact .head _) (cQ _ _).1 ?_
 refine St.whole (r:=got K.N r) (by exact .tail (.head _)) rfl (cQ _ _).1 (cQ _ _).2 ?_
 refine ax.whole (r:=got K.N r) (by exact .tail _ (.head _)) (cQ _ _).1 ?_
 exact bO.mk (.skip .tail) rfl
theorem vL(h:cz kp K ord ak tr C){m:Nat}(hm:m≤1099511627776)(hu:K.used≤1048576):Rd Tryz.prog 135 #[ptr kp,.int .i64 (m:Int)] C (· =.bool (decide (K.used+m≤K.cap))):=by
 obtain⟨b,rfl,hb⟩:=h
 refine aX fun g=>A8 ?_
 refine DR.self ?_
 refine Nil.ptr ?_
 refine Ld.f ?_
 refine Nil.ptr ?_
 refine Ld.f ?_
 refine ae.eq (wX hb.ar) ?_
 refine⟨.refl _,?_⟩
 refine aa.ef ?_
 refine ae.eq (y7 hb.ar) ?_
 refine⟨.refl _,?_⟩
 refine aa.BP ?_
 exact bO.mk (.refl _) rfl
def oL(K:Kd)(r:Nat):List Nat:=if r<2 then K.us else K.us.set r (K.use r+1)
theorem fW(r:Nat):(oL K r).length=K.us.length:=by unfold oL;split<;>simp
theorem jG{r:Nat}(h2:2≤r)(hr:r<K.us.length):(oL K r).getD r 0=K.use r+1:=by
 unfold oL;rw[if_neg (by omega)];simp[List.getD,hr]
theorem pY{r s:Nat}(h:s≠r):(oL K r).getD s 0=K.use s:=by
 unfold oL Kd.use
 split
 ·rfl
 ·simp[List.getD,List.getElem?_set_ne (Ne.symm h)]
theorem xG(h:cz kp K ord ak tr C){r:Nat}(hr:r<2∨r<K.us.length)(hb:K.use r+1<2147483648):
  Fc Tryz.prog 139 #[ptr kp,u32 r] C (fun v C'=>v=.tuple #[]∧cz kp {K with us:=oL K r} ord ak tr C'):=by
 obtain⟨b,rfl,hO⟩:=h
 refine aX fun g=>A5 ?_
 refine aa.iR (b:=1) (Br.dec (fun h1=>?_) (fun h1=>?_))
 ·have hr':r<K.us.length:=by omega
  refine Nil.ptr ?_
  refine Ld.f ?_
  refine hO.us.ld (x:=((K.use r:Nat):Int)) (bf hr') (aZ.sub (.cons (.app (.app .left)))) ?_
  refine aa.inc ?_
  refine hO.us.gO (.cons (.app (.app .left))) (by simpa using hr') fun C' ho=>?_
  refine bN.here ⟨rfl,{b with CU:=C'},rfl,?_⟩
  have e:oL K r=K.us.set r (K.use r+1):=by unfold oL;rw[if_neg (by omega)]
  exact {hO with us:=by rw[eR]at ho;rw[e];exact ho,ul:=by simp only[e,List.length_set];exact hO.ul}
 ·refine bN.here ⟨rfl,b,rfl,?_⟩
  have e:oL K r=K.us:=by unfold oL;rw[if_pos (by omega)]
  rw[e];exact hO
end
section
variable {kp:Nat} {K:Kd} {ord ak tr:List Nat} {C:Hp}
theorem fG{l:List Nat}{r s x:Nat}(hr:r<l.length):(l.set r x).getD s 0=if s=r then x else l.getD s 0:=by
 simp only[List.getD,List.getElem?_set]
 by_cases e:r=s
 ·subst e;simp[hr]
 ·rw[if_neg e,if_neg (Ne.symm e)]
theorem qS(l:List Nat)(s:Nat):(l++[0]).getD s 0=l.getD s 0:=by
 simp only[List.getD,List.getElem?_append]
 split
 ·rfl
 ·rename_i h
  rw[List.getElem?_eq_none (by omega:l.length≤s)]
  cases hs:s-l.length<;>simp[hs]
def Fp:Hp→Nat
 |_::(_,Obj.cells c _ _)::_=>(match c[2]? with|some (Value.slice _ n _)=>n|_=>0)
 |_=>0
theorem uY{b:rX}{x:Nat×Obj}{n m:Nat}{a:Option Addr}{cp:Nat}(h:b.vu=.slice a m cp):Fp (x::b.hp kp n)=m:=by simp[Fp,rX.hp,rX.cells,h]
theorem By(h:cz kp K ord ak tr C){d:Nd}(hd:Q7 K.N d)(hv:d.v<K.n)(hT:K.T d=none)(hroom:K.used<K.cap)(hlo:d.lo<2∨d.lo<K.us.length)(hhi:d.hi<2∨d.hi<K.us.length)
 (hb:∀s,K.use s+2<2147483648):
  Fc Tryz.prog 207 #[ptr kp,nK d] C (fun v C'=>∃r cJ br,v=u32 r∧K.N r=none∧2≤r∧r<K.cap∧cJ.length=br.length∧r<cJ.length∧K.us.length≤cJ.length∧cJ.getD r 0=0∧
   (∀s,2≤s→s≠r→cJ.getD s 0=K.use s+e1 (some d) s)∧(∀s,s<2→cJ.getD s 0=K.use s)∧br.getD r 0=0∧(∀s,s≠r→br.getD s 0=K.hold s)∧
   cz kp {K with N:=up K.N r (some d),T:=mO K.T d (some r),used:=K.used+1,us:=cJ,ho:=br} ord ak tr C'):=by
 have hcap:=h.cap
 obtain⟨b,rfl,hO⟩:=h
 have vU:=hO.ul
 refine aX fun g=>Ak ?_
 intro b1 _
 refine DR.of (R:=(b1,.cells (Value.cells (nK d)) 161 (0,0))::(kp,.cells (b.cells K.n) 117 (0,0))::[]) (.cons (.cons .nil)) ?_
 refine Nil.ptr ?_
 refine Ld.f ?_
 refine ax.q ?_
 refine ae.fq (H8 hO.ar hd hroom) ?_
 rintro v Rc ⟨r,rfl,h2,hrc,hN,Qi⟩
 refine⟨.cons (.cons .nil),Ext.mk rfl (Ext.mk rfl ?_)⟩
 refine⟨fun _ H=>∃(b':rX) (cJ br:List Nat),H=(b1,.cells (Value.cells (nK d)) 161 (0,0))::b'.hp kp K.n∧NS b' {K with N:=up K.N r (some d),used:=K.used+1,us:=cJ,ho:=br} ord ak tr∧
   K.us.length≤cJ.length∧(∀s,cJ.getD s 0=K.use s)∧∀s,br.getD s 0=K.hold s,
  fun _ H=>r+1-Fp H,JE.mk ⟨{b with CA:=Rc},K.us,K.ho,rfl,{hO with ar:=Qi,ul:=vU},Nat.le_refl _,fun _=>rfl,fun _=>rfl⟩,?_⟩
 rintro H ⟨b',cJ,br,rfl,uy,hle,hu,hh⟩ gs
 have Pj:=uy.ul
 simp only at Pj
 refine aY.q (Nil.ptr ?_)
 refine Ld.f ?_
 refine uy.us.aM ?_
 rw[ah]
 refine aa.mS (Br.dec (fun hge=>?_) (fun hge=>?_))
 ·have hge:cJ.length≤r:=hge
  refine Nil.ptr ?_
  refine Ld.f ?_
  refine an.int (e:=21) (by kernel_rfl) (by kernel_rfl) (by kernel_rfl) fun bx=>?_
  refine uy.us.nO (.cons (.cons (.cons (.app (.app .left))))) (by exact .head _) (by simp;omega) (by simp;omega) fun UH IK uk=>?_
  refine Nil.ptr (ag.mk ?_)
  refine St.one (by exact .tail (.tail (.head _))) uk.one (by simp[rX.cells]) rfl ?_
  refine Nil.ptr ?_
  refine Ld.f ?_
  refine an.int (e:=21) (by kernel_rfl) (by kernel_rfl) (by kernel_rfl) fun by'=>?_
  refine uy.ho.nO (.cons (.cons (.cons (.cons (.app (.app (.app .left))))))) (by exact .head _) (by simp;omega) (by simp;omega) fun UI EV nV=>?_
  refine Nil.ptr (ag.mk ?_)
  refine St.one (by exact .tail (.tail (.tail (.head _)))) nV.one (by simp[rX.cells]) rfl ?_
  have e0:∀l:List Nat,iw l++[0]=iw (l++[0]):=fun l=>by rw[bY];rfl
  rw[e0]at uk nV
  refine aq.of (.skip (.skip (.refl _))) ⟨{b' with vu:=UH,vh:=UI,CU:=IK,CH:=EV},cJ++[0],br++[0],rfl,{uy with us:=uk,ho:=nV,ul:=by simp at Pj⊢;omega},by simp;omega,fun s=>by rw[qS,hu],fun s=>by rw[qS,hh]⟩ ?_
  obtain⟨a1,c1,e1⟩:=aN.len uy.us
  obtain⟨a2,c2,e2⟩:=aN.len uk
  have f1:=uY (b:=b') (x:=(b1,.cells (Value.cells (nK d)) 161 (0,0))) (kp:=kp) (n:=K.n) e1
  have f2:=uY (b:={b' with vu:=UH,vh:=UI,CU:=IK,CH:=EV}) (x:=(b1,.cells (Value.cells (nK d)) 161 (0,0))) (kp:=kp) (n:=K.n) e2
  rw[f1]
  refine Nat.lt_of_le_of_lt (Nat.le_of_eq (congrArg (fun z=>r+1-z) f2)) ?_
  simp
  omega
 ·have hge:¬cJ.length≤r:=hge
  have Ps:r<cJ.length:=by omega
  have jY:r<br.length:=by omega
  refine DR.of (R:=(kp,.cells (b'.cells K.n) 117 (0,0))::[]) (.skip (.cons .nil)) ?_
  refine Nil.ptr ?_
  refine Ld.f ?_
  refine Nil.ptr ?_
  refine Ld.f ?_
  refine uy.us.gO (x:=0) (.cons (.cons (.app (.app .left)))) (by simpa using Ps) fun IK uk=>?_
  refine uy.ho.gO (x:=0) (.cons (.cons (.app (.app (.app .left))))) (by simpa using jY) fun EV nV=>?_
  have e0:∀l:List Nat,(iw l).set r 0=iw (l.set r 0):=fun l=>eR l r 0
  rw[e0]at uk nV
  have lor:d.lo≠r:=eH hd.lo h2 hN
  have Tq:d.hi≠r:=eH hd.hi h2 hN
  refine Ld.f ?_
  have u0:∀s,(cJ.set r 0).getD s 0=if s=r then 0 else K.use s:=fun s=>by rw[fG Ps];split;rfl;exact hu s
  have h0:∀s,(br.set r 0).getD s 0=if s=r then 0 else K.hold s:=fun s=>by rw[fG jY];split;rfl;exact hh s
  have qO:cz kp {K with N:=up K.N r (some d),used:=K.used+1,us:=cJ.set r 0,ho:=br.set r 0} ord ak tr (({b' with CU:=IK,CH:=EV}:rX).hp kp K.n):=⟨_,rfl,{uy with us:=uk,ho:=nV,ul:=by simp;omega}⟩
  refine ae.fq (xG qO (by simp;omega) (by have:=hb d.lo;show(cJ.set r 0).getD d.lo 0+1<_;rw[u0,if_neg lor];omega)) ?_
  rintro v C1 ⟨rfl,oY⟩
  refine Ld.f ?_
  have u1:∀s,(oL {K with N:=up K.N r (some d),used:=K.used+1,us:=cJ.set r 0,ho:=br.set r 0} d.lo).getD s 0=(if s=r then 0 else K.use s)+(if 2≤s∧s=d.lo then 1 else 0):=fun s=>by
   by_cases e:s=d.lo
   ·by_cases h2:2≤s
    ·rw[if_pos (show 2≤s∧s=d.lo from⟨h2,e⟩),e,jG (by omega) (by simp;omega)]
     show(cJ.set r 0).getD d.lo 0+1=_
     rw[u0]
    ·rw[if_neg (show¬(2≤s∧s=d.lo)by omega)]
     unfold oL
     rw[if_pos (by omega)]
     show(cJ.set r 0).getD s 0=_
     rw[u0];rfl
   ·rw[if_neg (show¬(2≤s∧s=d.lo)by omega),pY e]
    show(cJ.set r 0).getD s 0=_
    rw[u0];rfl
  refine ae.fq (xG oY (by rw[fW];simp;omega) (by
   have:=hb d.hi
   show(oL _ d.lo).getD d.hi 0+1<_
   rw[u1,if_neg Tq];split<;>omega)) ?_
  rintro v C2 ⟨rfl,ny⟩
  have Yf:=ny
  obtain⟨b3,rfl,VB⟩:=ny
  refine DR.self ?_
  refine Nil.ptr ?_
  refine Ld.f ?_
  refine ax.q ?_
  refine ae.fq (Bu VB.ut hv hT) ?_
  rintro v IL ⟨rfl,ML⟩
  have u2:∀s,(oL {K with N:=up K.N r (some d),used:=K.used+1,us:=oL {K with N:=up K.N r (some d),used:=K.used+1,us:=cJ.set r 0,ho:=br.set r 0} d.lo,ho:=br.set r 0} d.hi).getD s 0=(if s=r then 0 else K.use s)+(if 2≤s∧s=d.lo then 1 else 0)+(if 2≤s∧s=d.hi then 1 else 0):=fun s=>by
   by_cases e:s=d.hi
   ·by_cases h2:2≤s
    ·rw[if_pos (show 2≤s∧s=d.hi from⟨h2,e⟩),e,jG (by omega) (by rw[fW];simp;omega)]
     show(oL _ d.lo).getD d.hi 0+1=_
     rw[u1]
    ·rw[if_neg (show¬(2≤s∧s=d.hi)by omega)]
     unfold oL
     rw[if_pos (by omega)]
     show(oL _ d.lo).getD s 0=_
     rw[u1];rfl
   ·rw[if_neg (show¬(2≤s∧s=d.hi)by omega),pY e]
    show(oL _ d.lo).getD s 0=_
    rw[u1];rfl
  refine bN.mk .tail ⟨r,_,_,rfl,hN,h2,hrc,?_,?_,?_,?_,?_,?_,?_,?_,{b3 with CT:=IL},rfl,{VB with ut:=ML}⟩
  ·rw[fW,fW];simp;omega
  ·rw[fW,fW];simp;omega
  ·rw[fW,fW];simp;omega
  ·rw[u2,if_pos rfl,if_neg (show¬(2≤r∧r=d.lo)by omega),if_neg (show¬(2≤r∧r=d.hi)by omega)]
  ·intro s Ot hne
   rw[u2,if_neg hne,dg]
   have c1:(2≤s∧s=d.lo)↔d.lo=s:=⟨fun h=>h.2.symm,fun h=>⟨Ot,h.symm⟩⟩
   have c2:(2≤s∧s=d.hi)↔d.hi=s:=⟨fun h=>h.2.symm,fun h=>⟨Ot,h.symm⟩⟩
   simp only[c1,c2]
   omega
  ·intro s hs
   rw[u2,if_neg (show¬s=r by omega),if_neg (show¬(2≤s∧s=d.lo)by omega),if_neg (show¬(2≤s∧s=d.hi)by omega)]
   try simp
  ·rw[h0,if_pos rfl]
  ·intro s hne;rw[h0,if_neg hne]
end
section
variable {kp:Nat} {K:Kd} {ord ak tr:List Nat} {C:Hp} {S:Nat→aT.Fn}
theorem Kq(B:Hp)(v:Int)(r:Nat)(kv:Value):Rd Tryz.prog 138 #[kv,.int .i64 v,u32 r,u32 r] B (· =u32 r):=by
 refine aX fun g=>mN ?_
 exact aa.jC (Br.T (bO.mk (.refl _) rfl))
theorem Ks(h:cz kp K ord ak tr C){v lo hi r:Nat}(hne:lo≠hi)(hv:v<K.n)(hT:K.T ⟨v,lo,hi⟩=some r):
  Rd Tryz.prog 138 #[ptr kp,.int .i64 (v:Int),u32 lo,u32 hi] C (· =u32 r):=by
 obtain⟨b,rfl,hO⟩:=h
 refine aX fun g=>mN ?_
 refine aa.jC (Br.yS hne ?_)
 refine Build.mk (cs:=bg ⟨v,lo,hi⟩) (by kernel_rfl) ?_
 intro b3 _
 refine St.p (fun x hx=>by simp[bg,u32]at hx;rcases hx with rfl|rfl|rfl<;>rfl) ?_
 refine DR.self ?_
 refine Nil.ptr ?_
 refine Ld.f ?_
 refine ax.q ?_
 refine ae.eq (pM (d:=⟨v,lo,hi⟩) hO.ut hv) ?_
 rw[hT]
 exact⟨.refl _,Ext.mk rfl (Ext.mk rfl (Br.yes (bO.mk .tail rfl)))⟩
theorem Kr(h:cz kp K ord ak tr C){d:Nd}(hne:d.lo≠d.hi)(hd:Q7 K.N d)(hv:d.v<K.n)(hT:K.T d=none)(hroom:K.used<K.cap)(hlo:d.lo<2∨d.lo<K.us.length)(hhi:d.hi<2∨d.hi<K.us.length)
 (hb:∀s,K.use s+2<2147483648):
  Fc Tryz.prog 138 #[ptr kp,.int .i64 (d.v:Int),u32 d.lo,u32 d.hi] C (fun v C'=>∃r cJ br,v=u32 r∧K.N r=none∧2≤r∧r<K.cap∧cJ.length=br.length∧r<cJ.length∧K.us.length≤cJ.length∧cJ.getD r 0=0∧
   (∀s,2≤s→s≠r→cJ.getD s 0=K.use s+e1 (some d) s)∧(∀s,s<2→cJ.getD s 0=K.use s)∧br.getD r 0=0∧(∀s,s≠r→br.getD s 0=K.hold s)∧
   cz kp {K with N:=up K.N r (some d),T:=mO K.T d (some r),used:=K.used+1,us:=cJ,ho:=br} ord ak tr C'):=by
 have h0:=h
 obtain⟨b,rfl,hO⟩:=h
 refine aX fun g=>mN ?_
 refine aa.jC (Br.yS hne ?_)
 refine Build.mk (cs:=bg d) (by kernel_rfl) ?_
 intro b3 _
 refine St.p (fun x hx=>by simp[bg,u32]at hx;rcases hx with rfl|rfl|rfl<;>rfl) ?_
 refine DR.self ?_
 refine Nil.ptr ?_
 refine Ld.f ?_
 refine ax.q ?_
 refine ae.eq (pM (d:=d) hO.ut hv) ?_
 rw[hT]
 refine⟨.refl _,Ext.mk rfl (Ext.mk rfl (Br.no ?_))⟩
 refine ax.q ?_
 refine ae.fq (By h0 hd hv hT hroom hlo hhi hb) ?_
 rintro v C' ⟨r,cJ,br,rfl,hh⟩
 exact bN.mk .tail ⟨r,cJ,br,rfl,hh⟩
structure sB(K' K:Kd):Prop where
 N:∀{s d},K'.N s=some d→K.N s=some d
 n:K'.n=K.n
 cap:K'.cap=K.cap
 ho:K'.ho=K.ho
 us:∀s,K'.use s≤K.use s
 idle:(∀s,K.N s=none→K.use s=0)→∀s,K'.N s=none→K'.use s=0
theorem sB.refl(K:Kd):sB K K:=⟨fun h=>h,rfl,rfl,rfl,fun _=>Nat.le_refl _,fun h=>h⟩
theorem sB.trans{A B C:Kd}(h:sB A B)(h':sB B C):sB A C:=⟨fun x=>h'.N (h.N x),h.n.trans h'.n,h.cap.trans h'.cap,h.ho.trans h'.ho,fun s=>Nat.le_trans (h.us s) (h'.us s),fun hi=>h.idle (h'.idle hi)⟩
def PL(P:Nat→Nat)(N:fj):Prop:=∀t,2≤t→0<P t→∃d,N t=some d
def fA(P0:Nat→Nat)(l:List Nat):Nat→Nat:=fun s=>P0 s+l.count s
theorem D5{P0:Nat→Nat}{l:List Nat}{t:Nat}:up (fA P0 (l++[t])) t (fA P0 (l++[t]) t-1)=fA P0 l:=by
 funext s
 unfold up fA
 split
 ·rename_i e;subst e;simp
 ·rename_i e;simp[List.count_append,List.count_singleton,Ne.symm e]
theorem my{P0:Nat→Nat}(h:cz kp K ord ak tr C){r:Nat}(hm:gK K S fO (fA P0 [r]))(hp:Pos K)(hl:PL (fA P0 [r]) K.N)(hr:r<1048576)(XT:∀s,K.use s<2147483648):
  Fc Tryz.prog 142 #[ptr kp,u32 r] C (fun v C'=>v=.tuple #[]∧∃K',cz kp K' ord ak tr C'∧gK K' S fO P0∧Pos K'∧PL P0 K'.N∧sB K' K):=by
 refine aX fun g=>A2 ?_
 refine an.int (e:=77) (by kernel_rfl) (by kernel_rfl) (by kernel_rfl) fun bx=>?_
 refine O0 (fun k vs H=>∃(w:Value) (Ct C':Hp) (todo:List Nat) (K':Kd),vs=[w]∧H=Ct++C'∧aK 77 .u32 w (iw todo) Ct∧cz kp K' ord ak tr C'∧gK K' S fO (fA P0 todo)∧Pos K'∧PL (fA P0 todo) K'.N∧sB K' K∧(∀t∈todo,t<1048576)∧k=3*K'.used+todo.length∧k≤3*K.used+1)
  _ ⟨_,[_],C,[r],K,rfl,rfl,aK.made [(r:Int)],h,hm,hp,hl,.refl K,by simpa using hr,rfl,by simp⟩ ?_
 rintro w H hJ gs
 obtain⟨k,⟨w',Ct,C',todo,K',hw,rfl,ht,hK,hM,Hq,E6,lT,hT,hk,ZQ⟩,hkm⟩:=hJ.open
 simp only[List.cons.injEq,and_true]at hw
 subst hw
 refine ht.aM ?_
 rw[ah]
 refine aa.iR (b:=0) (Br.dec (fun hpos=>?_) (fun hpos=>?_))
 ·have yC:=hm.cap
  obtain⟨pre,t,rfl⟩:∃pre t,todo=pre++[t]:=⟨todo.dropLast,todo.getLast (by intro e;simp[e]at hpos),(List.dropLast_concat_getLast _).symm⟩
  have SO:(pre++[t]).length=pre.length+1:=by simp
  have N6:=hT t (by simp)
  refine ht.aM ?_
  rw[ah,SO]
  refine aa.qa (b:=1) ?_ (by omega) ?_
  ·simp[aW];omega
  rw[Nat.add_sub_cancel]
  refine ht.ld (i:=pre.length) (x:=(t:Int)) (by rw[bY];simp[iw]) (aZ.sub .left) ?_
  refine ht.cut (i:=pre.length) (by simp) fun w' ht'=>?_
  have EY:aK 77 .u32 w' (iw pre) Ct:=by
   rw[bY,List.take_left' (by simp)]at ht';exact ht'
  have TW:∀s∈pre,s<1048576:=fun s hs=>hT s (List.mem_append_left _ hs)
  refine aa.BP (b:=1) (Br.dec (fun h1=>?_) (fun h1=>?_))
  ·have hc:∀s,2≤s→fA P0 (pre++[t]) s=fA P0 pre s:=fun s hs=>by
    unfold fA;rw[List.count_append,List.count_singleton];simp;omega
   exact kz.back (.refl _) hkm (3*K'.used+pre.length) ⟨w',Ct,C',pre,K',rfl,rfl,EY,hK,hM.congr (fun _=>Iff.rfl) hc,Hq,fun s hs h0=>E6 s hs (by rw[hc s hs];exact h0),lT,TW,rfl,by simp at hk;omega⟩ (by rw[hk];simp)
  ·have Vz:0<fA P0 (pre++[t]) t:=by unfold fA;simp;omega
   obtain⟨d,hd⟩:=E6 t (by omega) Vz
   have hfit:=hM.fit hd
   have IB:=Hq t d hd
   obtain⟨b,rfl,hO⟩:=hK
   refine Nil.ptr ?_
   refine Ld.f ?_
   refine hO.us.ld (x:=((K'.use t:Nat):Int)) (bf hfit) (aZ.sub (.app (.cons (.app (.app .left))))) ?_
   refine aa.qa (b:=1) ?_ (by omega) ?_
   ·have:=lT.us t
    have:=XT t
    simp[aW];omega
   refine hO.us.gO (x:=((K'.use t-1:Nat):Int)) (.app (.cons (.app (.app .left)))) (by simpa using hfit) fun IK uk=>?_
   rw[eR]at uk
   have g1:∀s,(K'.us.set t (K'.use t-1)).getD s 0=if s=t then K'.use t-1 else K'.use s:=fun s=>fG hfit
   have DN:=hM.less (r:=t) (cJ:=K'.us.set t (K'.use t-1)) Vz (by simp) (by rw[g1,if_pos rfl];omega) (fun s hs=>by rw[g1,if_neg hs])
   rw[D5]at DN
   have LU:NS {b with CU:=IK} {K' with us:=K'.us.set t (K'.use t-1)} ord ak tr:={hO with us:=uk,ul:=by simp;exact hO.ul}
   have Hr:sB {K' with us:=K'.us.set t (K'.use t-1)} K:=⟨lT.N,lT.n,lT.cap,lT.ho,fun s=>by
    show(K'.us.set t (K'.use t-1)).getD s 0≤_
    rw[g1]
    have:=lT.us s
    split
    ·rename_i e;subst e;omega
    ·exact this,fun hi s hs=>by
    show(K'.us.set t (K'.use t-1)).getD s 0=0
    have hs':K'.N s=none:=hs
    rw[g1,if_neg (fun e=>by subst e;rw[hd]at hs';cases hs')]
    exact lT.idle hi s hs'⟩
   have Qx:PL (fA P0 pre) K'.N:=fun s hs h0=>E6 s hs (by unfold fA at h0⊢;rw[List.count_append];omega)
   refine Nil.ptr ?_
   refine Ld.f ?_
   refine uk.ld (x:=((K'.use t-1:Nat):Int)) (by rw[←eR];simp[hfit]) (aZ.sub (.app (.cons (.app (.app .left))))) ?_
   refine aa.iR (b:=0) (Br.dec (fun h3=>?_) (fun h3=>?_))
   ·refine kz.back (.refl _) hkm (3*K'.used+pre.length) ⟨w',Ct,_,pre,_,rfl,rfl,EY,⟨_,rfl,LU⟩,DN,fun s e hs=>?_,Qx,Hr,TW,rfl,by simp at hk;omega⟩ (by rw[hk];simp)
    show 0<(K'.us.set t (K'.use t-1)).getD s 0
    rw[g1]
    split
    ·exact h3
    ·exact Hq s e hs
   ·have Xe:K'.use t=1:=by omega
    have qO:cz kp {K' with us:=K'.us.set t (K'.use t-1)} ord ak tr (({b with CU:=IK}:rX).hp kp K'.n):=⟨_,rfl,LU⟩
    refine ae.eq (jV qO (by omega)) ?_
    have IG:2≤t:=by omega
    have Tx:got K'.N t=bg d:=iD hd IG
    show dL _ _ _
    intro V0 _
    rw[Tx]
    refine St.p (fun x hx=>by simp[bg,u32]at hx;rcases hx with rfl|rfl|rfl<;>rfl) ?_
    refine DR.self ?_
    refine Nil.ptr ?_
    refine Ld.f ?_
    refine ax.q ?_
    have Nq:K'.T d=some t:=(hM.gj d t).2 ⟨hd,fun h=>h⟩
    refine ae.fq (sM LU.ut (hM.var hd) Nq) ?_
    rintro v IL ⟨rfl,ML⟩
    refine Nil.ptr ?_
    refine Ld.f ?_
    refine ae.fq (Ie LU.ar ⟨d,hd⟩ IG) ?_
    rintro v Rc ⟨rfl,Qi⟩
    refine Ld.f ?_
    refine Ld.f ?_
    refine an.Pb (e:=77) (by kernel_rfl) (by kernel_rfl) (by kernel_rfl) fun bz=>?_
    refine EY.l8 (.cons (.cons .left)) (bL.block (l:=[(d.lo:Int),(d.hi:Int)]) (by exact .head _) (by simp)) (by simp at hk⊢;omega) (by simp at hk⊢;omega) fun w2 Za MN=>?_
    have e0:iw pre++[(d.lo:Int),(d.hi:Int)]=iw (pre++[d.lo,d.hi]):=by rw[bY];rfl
    rw[e0]at MN
    have Rw:({K' with us:=K'.us.set t (K'.use t-1)}:Kd).use t=0:=by show(K'.us.set t (K'.use t-1)).getD t 0=0;rw[g1,if_pos rfl];omega
    have E7:=DN.free (r:=t) (d:=d) hd (fun h=>h) Rw
    have TE:cF K'.N t K'.cap=0:=by have:=DN.use hd;rw[Rw]at this;exact(by have h5:cF K'.N t K'.cap+_+_=0:=this.symm;omega)
    have iQ:=gG TE t (hM.two hd).2 d hd
    have T2:fA P0 pre t=0:=by have:=DN.use hd;rw[Rw]at this;omega
    have hroom:0<K'.used:=by have:=hM.room;omega
    have hlt:∀x,live K'.N x→x<1048576:=fun x hx=>qO.lt hx
    have lp:∀s,2≤s→fA P0 pre s+e1 (some d) s=fA P0 (pre++[d.lo,d.hi]) s:=fun s _=>by
     unfold fA
     rw[dg,List.count_append,List.count_cons,List.count_cons,List.count_nil]
     simp only[beq_iff_eq]
     omega
    refine kz.back (.skip (.skip (.refl _))) hkm (3*(K'.used-1)+(pre++[d.lo,d.hi]).length) ⟨w2,Za,_,pre++[d.lo,d.hi],{K' with us:=K'.us.set t (K'.use t-1),N:=up K'.N t none,T:=mO K'.T d none,used:=K'.used-1},rfl,rfl,MN,
     ⟨{b with CU:=IK,CT:=IL,CA:=Rc},rfl,{LU with ar:=Qi,ut:=ML}⟩,E7.congr (fun _=>Iff.rfl) lp,fun s e hs=>?_,fun s hs h0=>?_,⟨fun{s e} hs=>?_,Hr.n,Hr.cap,Hr.ho,Hr.us,fun hi s hs=>?_⟩,fun s hs=>?_,rfl,by simp at hk⊢;omega⟩ (by simp at hk⊢;omega)
    ·have hne:s≠t:=fun e2=>by subst e2;have qG:up K'.N s none s=some e:=hs;rw[aF]at qG;cases qG
     show 0<(K'.us.set t (K'.use t-1)).getD s 0
     rw[g1,if_neg hne]
     have qG:up K'.N t none s=some e:=hs
     rw[aG hne]at qG
     exact Hq s e qG
    ·have hne:s≠t:=fun e2=>by
      subst e2
      rw[←lp s hs,T2]at h0
      rw[dg,if_neg iQ.1,if_neg iQ.2]at h0
      omega
     show∃e,up K'.N t none s=some e
     rw[aG hne]
     rw[←lp s hs]at h0
     by_cases h5:0<fA P0 pre s
     ·exact Qx s hs h5
     ·rw[dg]at h0
      have:d.lo=s∨d.hi=s:=by
       by_cases h6:d.lo=s
       ·exact .inl h6
       ·by_cases h7:d.hi=s
        ·exact .inr h7
        ·rw[if_neg h6,if_neg h7]at h0;omega
      rcases this with rfl|rfl
      ·rcases hM.lo hd with h8|h8
       ·omega
       ·exact h8
      ·rcases hM.hi hd with h8|h8
       ·omega
       ·exact h8
    ·have qG:up K'.N t none s=some e:=hs
     by_cases e2:s=t
     ·subst e2;rw[aF]at qG;cases qG
     ·rw[aG e2]at qG;exact lT.N qG
    ·have qG:up K'.N t none s=none:=hs
     show(K'.us.set t (K'.use t-1)).getD s 0=0
     by_cases e2:s=t
     ·subst e2;rw[g1,if_pos rfl];omega
     ·rw[aG e2]at qG
      exact Hr.idle hi s qG
    ·rcases List.mem_append.1 hs with hs|hs
     ·exact TW s hs
     ·simp at hs
      rcases hs with rfl|rfl
      ·exact hlt _ (hM.lo hd)
      ·exact hlt _ (hM.hi hd)
 ·obtain rfl:todo=[]:=List.eq_nil_of_length_eq_zero (by omega)
  exact bN.mk .right ⟨rfl,K',hK,hM.congr (fun _=>Iff.rfl) (fun s _=>by simp[fA]),Hq,fun s hs h0=>E6 s hs (by simpa[fA]using h0),lT⟩
end
abbrev lv(ak:List Nat):Nat→Nat:=fun v=>ak.getD v 0
section
variable {kp:Nat} {K:Kd} {ord ak tr:List Nat} {C:Hp} {S:Nat→aT.Fn}
theorem JG(h:cz kp K ord ak tr C)(v:Int):Rd Tryz.prog 113 #[ptr kp,.int .i64 v] C (· =.bool (decide (0≤v∧v<K.n))):=by
 obtain⟨b,rfl,hO⟩:=h
 refine aX fun g=>Be ?_
 refine aa.geq ?_
 refine dI.and (decide (v<K.n)) (fun _=>?_) rfl fun _=>bO.mk (.refl _) (by rw[Bool.decide_and])
 refine Nil.ptr ?_
 refine Ld.f ?_
 exact aa.lss ⟨rfl,rfl⟩
theorem ta(h:cz kp K ord ak tr C){r:Nat}(hl:live K.N r)(hv:∀d,K.N r=some d→d.v<K.n)(Ou:r<2→K.N r=none):Rd Tryz.prog 257 #[ptr kp,u32 r] C (· =.int .i64 ((dep K.n (lv ak) K.N r:Nat):Int)):=by
 have h0:=h
 have hr:=h.lt hl
 obtain⟨b,rfl,hO⟩:=h
 refine aX fun g=>zC ?_
 refine Nil.ptr (ag.mk ?_)
 refine ae.eq (jV h0 (by omega)) ?_
 intro b5 _
 refine St.whole (r:=got K.N r) (by exact .head _) rfl (cQ _ _).1 (cQ _ _).2 ?_
 by_cases h2:r<2
 ·rw[ot h2,cg (Ou h2)]
  refine Ld.f ?_
  refine aa.geq (Br.OW (by decide) ?_)
  refine Nil.ptr ?_
  refine Ld.f ?_
  exact bO.mk .tail rfl
 ·obtain⟨d,hd⟩:∃d,K.N r=some d:=by rcases hl with hl|hl;omega;exact hl
  rw[iD hd (by omega),aE hd]
  have BY:=hv d hd
  have hlen:=hO.ol.2
  refine Ld.f ?_
  refine aa.geq (Br.Sd (by simp) ?_)
  refine Nil.ptr ?_
  refine Ld.f ?_
  refine Ld.f ?_
  refine hO.lv.ld (x:=((ak.getD d.v 0:Nat):Int)) (bf (by omega)) (aZ.sub (.cons (.cons (.app (.app (.app (.app (.app .left)))))))) ?_
  exact bO.mk .tail rfl
def o8(K:Kd)(ak:List Nat)(v:Int)(lo hi:Nat):Int:=
 if¬(0≤v∧v<K.n)then 2 else if eX K.N lo=false∨eX K.N hi=false then 3 else if lo≠hi∧min (dep K.n (lv ak) K.N lo) (dep K.n (lv ak) K.N hi)≤ak.getD v.toNat 0 then 4 else 0
theorem Ky(h:cz kp K ord ak tr C)(v:Int){lo hi:Nat}(hlo:lo<4294967296)(hhi:hi<4294967296)(hv:∀r d,K.N r=some d→d.v<K.n∧2≤r):
  Rd Tryz.prog 225 #[ptr kp,.int .i64 v,u32 lo,u32 hi] C (· =.int .i64 (o8 K ak v lo hi)):=by
 have h0:=h
 have Ou:∀r,r<2→K.N r=none:=fun r hr=>by
  cases e:K.N r with
  |none=>rfl
  |some d=>have:=(hv r d e).2;omega
 obtain⟨b,rfl,hO⟩:=h
 refine aX fun g=>zZ ?_
 refine ae.eq (JG h0 v) ?_
 refine Un.not ?_
 by_cases Iz:0≤v∧v<K.n
 rotate_left
 ·rw[decide_eq_false Iz]
  exact Br.yes (bO.mk (.refl _) (by unfold o8;rw[if_pos Iz]))
 rw[decide_eq_true Iz]
 refine Br.no ?_
 obtain⟨n,rfl⟩:∃n:Nat,v=n:=⟨v.toNat,by omega⟩
 have ZM:n<K.n:=by omega
 intro J hJ
 refine Nil.ptr (ag.mk ?_)
 refine ae.eq (jW h0 hlo) ?_
 refine Un.not ?_
 by_cases BV:eX K.N lo=true
 rotate_left
 ·have PO:eX K.N lo=false:=by simpa using BV
  rw[PO]
  exact Split.xU rfl (ay.mk (JE.mk (hJ _ _ fun gs=>Br.yes (bO.mk (.refl _) (by unfold o8;rw[if_neg (by simpa using Iz),if_pos (.inl PO)])))))
 rw[BV]
 refine Split.go rfl ?_
 refine Nil.ptr (ag.mk ?_)
 refine ae.eq (jW h0 hhi) ?_
 refine Un.not ?_
 by_cases RD:eX K.N hi=true
 rotate_left
 ·have PX:eX K.N hi=false:=by simpa using RD
  rw[PX]
  exact ay.mk (JE.mk (hJ _ _ fun gs=>Br.yes (bO.mk (.refl _) (by unfold o8;rw[if_neg (by simpa using Iz),if_pos (.inr PX)]))))
 rw[RD]
 refine ay.mk (JE.mk (hJ _ _ fun gs=>Br.no ?_))
 intro J2 xy
 have hE:o8 K ak n lo hi=if lo≠hi∧min (dep K.n (lv ak) K.N lo) (dep K.n (lv ak) K.N hi)≤ak.getD n 0 then 4 else 0:=by
  unfold o8
  rw[if_neg (by simpa using Iz),if_neg (by rw[BV,RD];simp)]
  rfl
 refine DR.self ?_
 refine aa.nU ?_
 by_cases hne:lo≠hi
 rotate_left
 ·rw[decide_eq_false hne]
  exact Br.no (JE.mk (xy _ _ fun gs=>Br.no (bO.mk (.refl _) (by rw[hE,if_neg (fun h=>hne h.1)]))))
 rw[decide_eq_true hne]
 refine Br.yes ?_
 refine Nil.ptr ?_
 refine Ld.f ?_
 have hlen:=hO.ol.2
 refine hO.lv.ld (x:=((ak.getD n 0:Nat):Int)) (bf (by omega)) (aZ.sub (.cons (.app (.app (.app (.app (.app .left))))))) ?_
 intro F
 refine ae.eq (ta h0 (cm.1 BV) (fun d hd=>(hv _ _ hd).1) (Ou _)) ?_
 refine⟨.refl _,?_⟩
 intro F2
 refine ae.eq (ta h0 (cm.1 RD) (fun d hd=>(hv _ _ hd).1) (Ou _)) ?_
 refine⟨.refl _,?_⟩
 refine⟨_,_,_,rfl,rfl,?_⟩
 have hmin:(if((dep K.n (lv ak) K.N hi:Nat):Int)<((dep K.n (lv ak) K.N lo:Nat):Int)then((dep K.n (lv ak) K.N hi:Nat):Int)else((dep K.n (lv ak) K.N lo:Nat):Int))=((min (dep K.n (lv ak) K.N lo) (dep K.n (lv ak) K.N hi):Nat):Int):=by
  split<;>omega
 rw[hmin]
 refine aa.mS ?_
 refine ay.mk ?_
 by_cases hm:min (dep K.n (lv ak) K.N lo) (dep K.n (lv ak) K.N hi)≤ak.getD n 0
 ·rw[decide_eq_true hm]
  exact JE.mk (xy _ _ fun gs=>Br.yes (bO.mk (.refl _) (by rw[hE,if_pos ⟨hne,hm⟩])))
 ·rw[decide_eq_false hm]
  exact JE.mk (xy _ _ fun gs=>Br.no (bO.mk (.refl _) (by rw[hE,if_neg (fun h=>hm h.2)])))
theorem Jb(h:cz kp K ord ak tr C){v lo hi:Nat}(hv:v<K.n):
  Rd Tryz.prog 226 #[ptr kp,.int .i64 (v:Int),u32 lo,u32 hi] C (· =if lo=hi then .tuple #[u32 lo,.bool true]else .tuple #[u32 ((K.T ⟨v,lo,hi⟩).getD 0),.bool (K.T ⟨v,lo,hi⟩).isSome]):=by
 obtain⟨b,rfl,hO⟩:=h
 refine aX fun g=>zY ?_
 refine aa.jC (Br.dec (fun he=>bO.mk (.refl _) (by rw[if_pos he])) (fun he=>?_))
 refine Nil.ptr (ag.mk ?_)
 refine Ld.f ?_
 refine Build.mk (cs:=bg ⟨v,lo,hi⟩) (by kernel_rfl) ?_
 refine ae.eq (pM (d:=⟨v,lo,hi⟩) hO.ut hv) ?_
 exact Ext.mk rfl (Ext.mk rfl (bO.mk (.refl _) (by rw[if_neg he];rfl)))
theorem vM(h:cz kp K ord ak tr C){r:Nat}(hr:r<4294967296)(hb:∀s,K.hold s<2147483648):Rd Tryz.prog 95 #[ptr kp,u32 r] C (· =.int .i64 ((K.hold r:Nat):Int)):=by
 obtain⟨b,rfl,hO⟩:=h
 refine aX fun g=>Eh ?_
 refine aa.aB ?_
 refine dI.or (decide (K.ho.length≤r)) (fun _=>?_) (by simp) fun _=>?_
 ·refine aY.q (Nil.ptr (ag.mk ?_))
  refine Ld.f ?_
  refine hO.ho.aM ?_
  rw[ah]
  exact aa.mS ⟨rfl,rfl⟩
 ·rw[Bool.false_or]
  refine Br.dec (fun hge=>?_) (fun hlt=>?_)
  ·refine bO.mk (.refl _) ?_
   unfold Kd.hold;rw[List.getD,List.getElem?_eq_none hge];rfl
  ·refine Nil.ptr (ag.mk ?_)
   refine Ld.f ?_
   refine hO.ho.ld (x:=((K.hold r:Nat):Int)) (bf (by omega)) (aZ.sub (.cons (.app (.app (.app .left))))) ?_
   refine aY.nat (by have:=hb r;simp[aW];omega) ?_
   exact bO.mk (.refl _) rfl
theorem JJ(h:cz kp K ord ak tr C)(h2:2≤K.used)(hu:K.used≤1048576):Rd Tryz.prog 15 #[ptr kp] C (· =.int .i64 ((K.used-2:Nat):Int)):=by
 obtain⟨b,rfl,hO⟩:=h
 refine aX fun g=>ET ?_
 refine aa.aB (Br.no (Nil.ptr (ag.mk ?_)))
 refine Ld.f ?_
 refine ae.eq (wX hO.ar) ?_
 refine aa.qa (b:=2) (by simp[aW];omega) h2 ?_
 exact bO.mk (.refl _) rfl
theorem Du(h:cz kp K ord ak tr C):Rd Tryz.prog 34 #[ptr kp] C (· =.int .i64 ((tr.length:Nat):Int)):=by
 obtain⟨b,rfl,hO⟩:=h
 refine aX fun g=>EI ?_
 refine aa.aB (Br.no (Nil.ptr ?_))
 refine Ld.f ?_
 refine hO.tr.aM ?_
 rw[ah]
 exact bO.mk (.refl _) rfl
theorem vJ(h:cz kp K ord ak tr C):Rd Tryz.prog 61 #[ptr kp] C (· =.int .i64 ((K.n:Nat):Int)):=by
 obtain⟨b,rfl,hO⟩:=h
 refine aX fun g=>Ez ?_
 refine aa.aB (Br.no (Nil.ptr ?_))
 refine Ld.f ?_
 exact bO.mk (.refl _) rfl
theorem qB(h:cz kp K ord ak tr C){r:Nat}(hr:r<4294967296):Rd Tryz.prog 97 #[ptr kp,u32 r] C (· =.tuple #[.agg (got K.N r).toArray,.int .i64 (if eX K.N r then 0 else 3)]):=by
 have h0:=h
 obtain⟨b,rfl,hO⟩:=h
 refine aX fun g=>Ef ?_
 intro b1 _
 refine aa.aB (Br.no (Nil.ptr (ag.mk ?_)))
 refine ae.eq (jW h0 hr) ?_
 refine Un.not ?_
 cases hb:eX K.N r with
 |false=>
  refine Br.yes ?_
  refine Build.mk (cs:=[.int .i64 0,.int .u32 0,.int .u32 0]) (by kernel_rfl) ?_
  refine St.q ?_
  refine ax.q ?_
  exact bO.mk .tail (by rw[wq hb];rfl)
 |true=>
  refine Br.no (Nil.ptr (ag.mk ?_))
  refine ae.eq (jV h0 hr) ?_
  refine St.whole (r:=got K.N r) (by exact .head _) rfl (cQ _ _).1 (cQ _ _).2 ?_
  refine ax.whole (r:=got K.N r) (by exact .head _) (cQ _ _).1 ?_
  exact bO.mk .tail rfl
end
theorem ri{B:Hp}{v:Value}{l:List Int}(h:bL .i64 B v l)(hl:l.length≤1099511627776):Fc Tryz.prog 57 #[v] B (fun r H=>∃C,H=C++B∧aK 3 .i64 r l C):=by
 refine aX fun g=>EC ?_
 obtain⟨a,c,rfl,hc⟩:=h.shape
 refine⟨.bool a.isNone,by simp[eS],?_⟩
 refine Br.mk (fun ha=>?_) (fun ha=>?_)
 ·have:l=[]:=by
   rcases h.2 with⟨_,_,h1,h2⟩|⟨b,o,cap,cs,T,fz,h1,_⟩
   ·simpa using h2
   ·simp at h1;rw[h1.1]at ha;simp at ha
  subst this
  exact bN.here ⟨[],rfl,aK.nil⟩
 ·refine an.none (z:=.int .i64 0) (e:=3) (k:=1) (by kernel_rfl) (by kernel_rfl) (by kernel_rfl) fun b=>?_
  refine(aK.made (T:=3) (kd:=.i64) (b:=b) []).l8 (l2:=l) .left ((show bL .i64 B _ l from h).mono fun _ h=>.tail _ h) (by simp;omega) (by simp;omega) fun v' C' ho=>?_
  exact bN.here ⟨C',rfl,by simpa using ho⟩
theorem sZ{kp:Nat}{K:Kd}{ord ak tr:List Nat}{C:Hp}(h:cz kp K ord ak tr C):Fc Tryz.prog 13 #[ptr kp] C (fun r H=>∃N,H=N++C∧aK 3 .i64 r (iw ord) N):=by
 obtain⟨b,rfl,hO⟩:=h
 refine aX fun g=>EU ?_
 refine aa.aB (Br.no (Nil.ptr ?_))
 refine Ld.f ?_
 refine ae.fq (ri (hO.od.ints.mono (aZ.sub (.cons (.app (.app (.app (.app .left))))))) (by have:=hO.ol.1;have:=hO.Ge;simp;omega)) ?_
 rintro v C' ⟨N,rfl,ho⟩
 exact bN.here ⟨N,rfl,ho⟩
end Go.Proofs
set_option maxRecDepth 100000
namespace Go.Proofs
open Go Go.Sx
def pg(x r:Nat):Prop:=x<2^r∧(r=0∨2^(r-1)≤x)
theorem pg.gt{x r n:Nat}(h:pg x r):n<r↔2^n≤x:=by
 constructor
 ·intro hn
  rcases h.2 with h2|h2
  ·omega
  ·exact Nat.le_trans (Nat.pow_le_pow_right (by decide) (by omega)) h2
 ·intro hn
  have:=Nat.lt_of_le_of_lt hn h.1
  exact(Nat.pow_lt_pow_iff_right (by decide)).1 this
theorem pg.up{x s t:Nat}(h:pg (x>>>s) t)(h0:s=0∨x>>>s≠0):pg x (s+t):=by
 rw[Nat.shiftRight_eq_div_pow]at h h0
 have hp:=Nat.two_pow_pos s
 refine⟨?_,?_⟩
 ·have:=h.1
  rw[Nat.div_lt_iff_lt_mul hp]at this
  rw[Nat.pow_add,Nat.mul_comm];exact this
 ·rcases h.2 with h2|h2
  ·subst h2
   have:=h.1
   rcases h0 with h0|h0
   ·exact .inl (by omega)
   ·rw[Nat.pow_zero]at this;exact absurd (Nat.lt_one_iff.1 this) h0
  ·by_cases ht:t=0
   ·subst ht
    rcases h0 with h0|h0
    ·exact .inl (by omega)
    ·have:=h.1;rw[Nat.pow_zero]at this;exact absurd (Nat.lt_one_iff.1 this) h0
   ·right
    have:=(Nat.le_div_iff_mul_le hp).1 h2
    rw[show s+t-1=(t-1)+s by omega,Nat.pow_add];exact this
theorem JD:∀y:Fin 256,∃b:UInt8,(ByteArray.mk #[0,1,2,2,3,3,3,3,4,4,4,4,4,4,4,4,5,5,5,5,5,5,5,5,5,5,5,5,5,5,5,5,6,6,6,6,6,6,6,6,6,6,6,6,6,6,6,6,6,6,6,6,6,6,6,6,6,6,6,6,6,6,6,6,7,7,7,7,7,7,7,7,7,7,7,7,7,7,7,7,7,7,7,7,7,7,7,7,7,7,7,7,7,7,7,7,7,7,7,7,7,7,7,7,7,7,7,7,7,7,7,7,7,7,7,7,7,7,7,7,7,7,7,7,7,7,7,7,8,8,8,8,8,8,8,8,8,8,8,8,8,8,8,8,8,8,8,8,8,8,8,8,8,8,8,8,8,8,8,8,8,8,8,8,8,8,8,8,8,8,8,8,8,8,8,8,8,8,8,8,8,8,8,8,8,8,8,8,8,8,8,8,8,8,8,8,8,8,8,8,8,8,8,8,8,8,8,8,8,8,8,8,8,8,8,8,8,8,8,8,8,8,8,8,8,8,8,8,8,8,8,8,8,8,8,8,8,8,8,8,8,8,8,8,8,8,8,8,8,8,8,8,8,8,8,8])[y.1]? =some b∧(y.1<2^b.toNat∧(b.toNat=0∨2^(b.toNat-1)≤y.1)):=by
 have h:∀y:Fin 256,(match(ByteArray.mk #[0,1,2,2,3,3,3,3,4,4,4,4,4,4,4,4,5,5,5,5,5,5,5,5,5,5,5,5,5,5,5,5,6,6,6,6,6,6,6,6,6,6,6,6,6,6,6,6,6,6,6,6,6,6,6,6,6,6,6,6,6,6,6,6,7,7,7,7,7,7,7,7,7,7,7,7,7,7,7,7,7,7,7,7,7,7,7,7,7,7,7,7,7,7,7,7,7,7,7,7,7,7,7,7,7,7,7,7,7,7,7,7,7,7,7,7,7,7,7,7,7,7,7,7,7,7,7,7,8,8,8,8,8,8,8,8,8,8,8,8,8,8,8,8,8,8,8,8,8,8,8,8,8,8,8,8,8,8,8,8,8,8,8,8,8,8,8,8,8,8,8,8,8,8,8,8,8,8,8,8,8,8,8,8,8,8,8,8,8,8,8,8,8,8,8,8,8,8,8,8,8,8,8,8,8,8,8,8,8,8,8,8,8,8,8,8,8,8,8,8,8,8,8,8,8,8,8,8,8,8,8,8,8,8,8,8,8,8,8,8,8,8,8,8,8,8,8,8,8,8,8,8,8,8,8,8])[y.1]? with|some b=>decide (y.1<2^b.toNat∧(b.toNat=0∨2^(b.toNat-1)≤y.1))|none=>false)=true:=by decide+kernel
 intro y
 have:=h y
 split at this
 ·rename_i b hb
  exact⟨b,hb,by simpa using this⟩
 ·cases this
theorem vH{x:Nat}(hx:x<18446744073709551616)(B:Hp):Rd Tryz.prog 75 #[.int .u64 (x:Int)] B (fun v=>∃r:Nat,pg x r∧v=.int .i64 (r:Int)):=by
 refine aX fun g=>Et ?_
 intro J1 Ud
 have h1:∀s,s≤32→x>>>s<4294967296→(s=0∨x>>>s≠0)→J1 [.int .u64 ((x>>>s:Nat):Int),.int .i64 (s:Int)] B:=by
  intro s hs hlt h0
  refine Ud _ _ _ fun gs=>?_
  intro J2 xy
  have h2:∀s,s≤48→x>>>s<65536→(s=0∨x>>>s≠0)→J2 [.int .u64 ((x>>>s:Nat):Int),.int .i64 (s:Int)] B:=by
   intro s hs hlt h0
   refine xy _ _ _ fun gs=>?_
   intro J3 RZ
   have h3:∀s,s≤56→x>>>s<256→(s=0∨x>>>s≠0)→J3 [.int .u64 ((x>>>s:Nat):Int),.int .i64 (s:Int)] B:=by
    intro s hs hlt h0
    refine RZ _ _ _ fun gs=>?_
    refine aY.nat (show x>>>s<256 from hlt) ?_
    obtain⟨b,hb,hl⟩:=JD ⟨x>>>s,hlt⟩
    refine⟨_,_,_,b,rfl,rfl,Int.natCast_nonneg _,by rw[Int.toNat_natCast];exact hb,?_⟩
    have LK:b.toNat<256:=b.toNat_lt
    refine aY.q ?_
    refine aa.ef ?_
    exact bO.mk (.refl _) ⟨s+b.toNat,pg.up (t:=b.toNat) hl h0,rfl⟩
   refine aa.mS (b:=256) (Br.dec (fun hge=>?_) (fun hge=>JE.mk (h3 s (by omega) (by omega) h0)))
   refine aa.gN (b:=8) (by simp only[aW];omega) ?_
   refine aa.ef (b:=8) ?_
   rw[←Nat.shiftRight_add]
   have e:x>>>(s+8)=x>>>s/256:=by rw[Nat.shiftRight_add,Nat.shiftRight_eq_div_pow (x>>>s) 8]
   exact JE.mk (h3 (s+8) (by omega) (by omega) (.inr (by omega)))
  refine aa.mS (b:=65536) (Br.dec (fun hge=>?_) (fun hge=>JE.mk (h2 s (by omega) (by omega) h0)))
  refine aa.gN (b:=16) (by simp only[aW];omega) ?_
  refine aa.ef (b:=16) ?_
  rw[←Nat.shiftRight_add]
  have e:x>>>(s+16)=x>>>s/65536:=by rw[Nat.shiftRight_add,Nat.shiftRight_eq_div_pow (x>>>s) 16]
  exact JE.mk (h2 (s+16) (by omega) (by omega) (.inr (by omega)))
 refine aa.mS (b:=4294967296) (Br.dec (fun hge=>?_) (fun hge=>JE.mk (h1 0 (by omega) (by simp;omega) (.inl rfl))))
 refine aa.gN (b:=32) (by simp only[aW];exact hx) ?_
 have e:x>>>32=x/4294967296:=by rw[Nat.shiftRight_eq_div_pow]
 exact JE.mk (h1 32 (by omega) (by omega) (.inr (by omega)))
end Go.Proofs
namespace Go.Sx
open Go
section
variable {P:Program} {H C:Hp} {c:Hp→Hp}
theorem aZ.re(h:aZ C H c)(X:Hp):aZ X (c X) c:=by
 induction h with
 |here=>exact .here
 |left=>exact .left
 |cons _ ih=>exact .cons ih
 |app _ ih=>exact .app ih
def Dt(T:TypeId)(kd:IntKind)(v:Value)(l0:List Int)(C:Hp):Prop:=∃l:List Int,l.Perm l0∧aK T kd v l C
theorem swap_perm{l:List Int}{i j:Nat}{x y:Int}(hi:l[i]? =some x)(hj:l[j]? =some y):((l.set i y).set j x).Perm l:=by
 have h1:=(List.getElem?_eq_some_iff.1 hi).1
 have h2:=(List.getElem?_eq_some_iff.1 hj).1
 rw[List.perm_iff_count]
 intro a
 by_cases e:i=j
 ·subst e
  rw[hi]at hj;cases hj
  rw[List.set_set]
  have:l.set i x=l:=by
   have hx:l[i]=x:=by rw[List.getElem?_eq_getElem h1]at hi;exact Option.some.inj hi
   rw[←hx];exact List.set_getElem_self h1
  rw[this]
 ·have hx:l[i]=x:=by rw[List.getElem?_eq_getElem h1]at hi;exact Option.some.inj hi
  have hy:l[j]=y:=by rw[List.getElem?_eq_getElem h2]at hj;exact Option.some.inj hj
  rw[List.count_set (by simpa using h2),List.count_set h1]
  have:(l.set i y)[j]'(by simpa using h2)=y:=by rw[List.getElem_set_ne e];exact hy
  rw[this,hx]
  have c1:l.count x≥1:=List.one_le_count_iff.2 (hx▸List.getElem_mem h1)
  have c2:l.count y≥1:=List.one_le_count_iff.2 (hy▸List.getElem_mem h2)
  by_cases e1:x=a
  ·subst e1
   by_cases e2:y=x
   ·subst e2;simp<;>omega
   ·simp[e2,Ne.symm e2]<;>omega
  ·by_cases e2:y=a
   ·subst e2;simp[e1]<;>omega
   ·simp[e1,e2]<;>omega
theorem Dt.ld{T:TypeId}{kd r6:IntKind}{v:Value}{l0:List Int}(h:Dt T kd v l0 C)(hC:∀y∈C,y∈H){i:Nat}(hi:i<l0.length){K:Value→Prop}(hk:∀x,K (.int kd x)):aj 1 v (.int r6 (i:Int)) fun p=>Ld H p K:=by
 obtain⟨l,hp,ho⟩:=h
 have:i<l.length:=by rw[hp.length_eq];exact hi
 exact ho.ld (List.getElem?_eq_getElem this) hC (hk _)
theorem Dt.swap{T:TypeId}{kd k1 k2 k3 k4:IntKind}{v:Value}{l0:List Int}(h:Dt T kd v l0 C)(hh:aZ C H c){i j:Nat}(hi:i<l0.length)(hj:j<l0.length){K:Hp→Prop}(hk:∀C',Dt T kd v l0 C'→K (c C')):
  aj 1 v (.int k1 (j:Int)) fun p1=>Ld H p1 fun x=>aj 1 v (.int k2 (i:Int)) fun p2=>Ld H p2 fun y=>aj 1 v (.int k3 (i:Int)) fun p3=>St 1 H p3 x fun H1=>aj 1 v (.int k4 (j:Int)) fun p4=>St 1 H1 p4 y K:=by
 obtain⟨l,hp,ho⟩:=h
 have hl:=hp.length_eq
 have hi':l[i]? =some l[i]:=List.getElem?_eq_getElem (by omega)
 have hj':l[j]? =some l[j]:=List.getElem?_eq_getElem (by omega)
 refine ho.ld hj' hh.sub ?_
 refine ho.ld hi' hh.sub ?_
 refine ho.gO hh (by omega) fun C1 h1=>?_
 refine h1.gO (hh.re C1) (by simp;omega) fun C2 h2=>?_
 exact hk C2 ⟨_,(swap_perm hi' hj').trans hp,h2⟩
theorem Dt.OI{T:TypeId}{kd k1 k2 k3 k4:IntKind}{v:Value}{l0:List Int}(h:Dt T kd v l0 C)(hh:aZ C H c){i j:Nat}(hi:i<l0.length)(hj:j<l0.length){B:(Value→Prop)→Prop}
 (hB:∀k:Value→Prop,k (.int k2 (i:Int))→B k){K:Hp→Prop}(hk:∀C',Dt T kd v l0 C'→K (c C')):
  aj 1 v (.int k1 (j:Int)) fun p1=>Ld H p1 fun x=>B fun u=>aj 1 v u fun p2=>Ld H p2 fun y=>aj 1 v (.int k3 (i:Int)) fun p3=>St 1 H p3 x fun H1=>aj 1 v (.int k4 (j:Int)) fun p4=>St 1 H1 p4 y K:=by
 obtain⟨l,hp,ho⟩:=h
 have hl:=hp.length_eq
 have hi':l[i]? =some l[i]:=List.getElem?_eq_getElem (by omega)
 have hj':l[j]? =some l[j]:=List.getElem?_eq_getElem (by omega)
 refine ho.ld hj' hh.sub (hB _ ?_)
 refine ho.ld hi' hh.sub ?_
 refine ho.gO hh (by omega) fun C1 h1=>?_
 refine h1.gO (hh.re C1) (by simp;omega) fun C2 h2=>?_
 exact hk C2 ⟨_,(swap_perm hi' hj').trans hp,h2⟩
theorem aK.dt{T:TypeId}{kd:IntKind}{v:Value}{l:List Int}(h:aK T kd v l C):Dt T kd v l C:=⟨l,.refl _,h⟩
def Si(vs:List Value):Nat:=match vs with
 | .int _ q::_=>(q+1).toNat
 |_=>0
theorem tN{k:IntKind}{q:Int}{r:List Value}:Si (.int k q::r)=(q+1).toNat:=rfl
end
end Go.Sx
set_option maxRecDepth 100000
namespace Go.Proofs
open Go Go.Sx
abbrev DT(v:Value)(l0:List Int)(C:Hp):Prop:=Dt 77 .u32 v l0 C
def SQ(v:Value)(l0:List Int):Value→Hp→Prop:=fun r C'=>r=.tuple #[]∧DT v l0 C'
section
variable {v:Value} {l0:List Int} {C:Hp}
theorem Mw(x:Int)(B:Hp):Rd Tryz.prog 304 #[.int .u32 x] B (· =.bool false):=by
 refine aX fun g=>zc ?_
 refine aa.gA ?_
 exact bO.mk (.refl _) (by simp)
theorem dG(x y:Int)(B:Hp):Rd Tryz.prog 295 #[.int .u32 x,.int .u32 y] B (· =.bool (decide (x<y))):=by
 refine aX fun g=>zl ?_
 intro J1 Ud
 refine ae.eq (Mw x B) ?_
 refine Split.xU rfl ?_
 refine ay.mk ?_
 refine aa.lss ?_
 refine ay.mk ?_
 exact JE.mk (Ud _ _ fun gs=>bO.mk (.refl _) rfl)
theorem vR(h:DT v l0 C){a b:Nat}(hab:a≤b)(hb:b≤l0.length)(aU:l0.length<1152921504606846976):Fc Tryz.prog 289 #[v,.int .i64 (a:Int),.int .i64 (b:Int)] C (SQ v l0):=by
 refine aX fun g=>zv ?_
 refine aa.inc ?_
 refine⟨fun vs H=>∃i:Nat,vs=[.int .i64 (i:Int)]∧a<i∧DT v l0 H,fun vs _=>l0.length-aV vs 0,JE.mk ⟨a+1,rfl,by omega,h⟩,?_⟩
 rintro w H ⟨i,hw,hi,hd⟩ gs
 simp only[List.cons.injEq,and_true]at hw
 subst hw
 refine aa.dn (Br.dec (fun hlt=>?_) (fun _=>bN.here ⟨rfl,hd⟩))
 refine⟨fun vs H=>∃j:Nat,vs=[.int .i64 (j:Int)]∧a≤j∧j≤i∧DT v l0 H,fun vs _=>aV vs 0,JE.mk ⟨i,rfl,by omega,Nat.le_refl _,hd⟩,?_⟩
 rintro w H ⟨j,hw,LO,M4,hd⟩ gs
 simp only[List.cons.injEq,and_true]at hw
 subst hw
 intro J hJ
 have no:J [.bool false] H:=hJ _ _ fun gs=>Br.no (aa.inc (aq.mk ⟨i+1,rfl,by omega,hd⟩ (by simp[aV];omega)))
 have yes:a<j→J [.bool true] H:=fun LO=>hJ _ _ fun gs=>Br.yes (DR.self (aa.bS (b:=1) (aa.bS (b:=1)
  (hd.swap .here (by omega) (by omega) fun C' dh=>aa.bS (b:=1) (aq.mk ⟨j-1,rfl,by omega,by omega,dh⟩ (by simp[aV];omega))))))
 refine DR.self (aa.iR (Br.dec (fun hgt=>?_) fun _=>JE.mk no))
 refine hd.ld (fun _ h=>h) (by omega) fun x=>?_
 refine aa.bS (b:=1) ?_
 refine hd.ld (fun _ h=>h) (by omega) fun y=>?_
 intro F
 refine ae.eq (dG x y _) ?_
 refine ay.mk ?_
 by_cases e:x<y
 ·rw[decide_eq_true e];exact JE.mk (yes hgt)
 ·rw[decide_eq_false e];exact JE.mk no
theorem Mn(h:DT v l0 C){a b:Nat}(hab:a<b)(hb:b≤l0.length)(aU:l0.length<1152921504606846976):Fc Tryz.prog 293 #[v,.int .i64 (a:Int),.int .i64 (b:Int)] C (SQ v l0):=by
 refine aX fun g=>zn ?_
 refine aa.bS (b:=1) ?_
 refine⟨fun vs H=>∃i j:Nat,vs=[.int .i64 (i:Int),.int .i64 (j:Int)]∧j<l0.length∧DT v l0 H,fun vs _=>aV vs 1-aV vs 0,JE.mk ⟨a,b-1,rfl,by omega,h⟩,?_⟩
 rintro w w' H ⟨i,j,hw,hj,hd⟩ gs
 simp only[List.cons.injEq,and_true]at hw
 obtain⟨rfl,rfl⟩:=hw
 refine aa.dn (Br.dec (fun hlt=>?_) (fun _=>bN.here ⟨rfl,hd⟩))
 refine DR.self (hd.swap .here (by omega) (by omega) fun C' dh=>?_)
 refine aa.inc ?_
 refine aa.bS (b:=1) ?_
 exact aq.mk ⟨i+1,j-1,rfl,by omega,dh⟩ (by simp[aV];omega)
theorem Jj(h:DT v l0 C){a b:Nat}(hab:a<b)(hb:b≤l0.length)(aU:l0.length<1152921504606846976):Fc Tryz.prog 294 #[v,.int .i64 (a:Int),.int .i64 (b:Int)] C (fun r C'=>(∃t,r=.bool t)∧DT v l0 C'):=by
 refine aX fun g=>zm ?_
 refine aa.inc ?_
 refine⟨fun vs H=>∃i k:Nat,vs=[.int .i64 (i:Int),.int .i64 (k:Int)]∧a<i∧i≤b∧DT v l0 H,fun vs _=>5-aV vs 1,JE.mk ⟨a+1,0,rfl,by omega,by omega,h⟩,?_⟩
 rintro w w' H ⟨i,k,hw,IF,qJ,hd⟩ gs
 simp only[List.cons.injEq,and_true]at hw
 obtain⟨rfl,rfl⟩:=hw
 refine aa.dn (b:=5) (Br.dec (fun hk=>?_) (fun _=>bN.here ⟨⟨_,rfl⟩,hd⟩))
 intro J9 Hs
 have next:∀(i':Nat) H',a<i'→i'≤b→DT v l0 H'→J9 [.int .i64 (i':Int)] H':=fun i' H' h1 h2 dh=>Hs _ _ fun gs=>aa.inc (aq.mk ⟨i',k+1,rfl,h1,h2,dh⟩ (by simp[aV];omega))
 refine⟨fun vs H=>∃i:Nat,vs=[.int .i64 (i:Int)]∧a<i∧i≤b∧DT v l0 H,fun vs _=>b-aV vs 0,JE.mk ⟨i,rfl,IF,qJ,hd⟩,?_⟩
 clear hd IF qJ
 rintro w H ⟨i,hw,IF,qJ,hd⟩ gs
 simp only[List.cons.injEq,and_true]at hw
 subst hw
 intro V8 QI
 have yes:i<b→V8 [.bool true] H:=fun hlt=>QI _ _ fun gs=>Br.yes (aa.inc (aq.mk ⟨i+1,rfl,by omega,by omega,hd⟩ (by simp[aV];omega)))
 have no:V8 [.bool false] H:=by
  refine QI _ _ fun gs=>Br.no ?_
  refine aa.jC (Br.dec (fun he=>bN.here ⟨⟨_,rfl⟩,hd⟩) (fun hne=>?_))
  refine aa.bS ?_
  refine aa.dn (b:=50) (Br.dec (fun he=>bN.here ⟨⟨_,rfl⟩,hd⟩) (fun _=>?_))
  refine DR.self ?_
  refine aa.bS (b:=1) ?_
  refine aa.bS (b:=1) ?_
  refine hd.swap .here (by omega) (by omega) fun C1 DI=>?_
  intro YU T6
  have tail:∀H',DT v l0 H'→YU [] H':=fun H' dh=>by
   refine T6 _ fun gs=>?_
   refine aa.bS ?_
   refine aa.mS (b:=2) (Br.dec (fun h2=>?_) (fun _=>JE.mk (next i _ IF qJ dh)))
   refine aa.inc ?_
   refine⟨fun vs H=>∃j:Nat,vs=[.int .i64 (j:Int)]∧0<j∧DT v l0 H,fun vs _=>b-aV vs 0,JE.mk ⟨i+1,rfl,by omega,dh⟩,?_⟩
   rintro w H ⟨j,hw,M5,BZ⟩ gs
   simp only[List.cons.injEq,and_true]at hw
   subst hw
   refine aa.dn (Br.dec (fun hlt=>?_) (fun _=>JE.mk (next i _ IF qJ BZ)))
   refine DR.self ?_
   refine BZ.ld (fun _ h=>h) (by omega) fun x=>?_
   refine aa.bS (b:=1) ?_
   refine BZ.ld (fun _ h=>h) (by omega) fun y=>?_
   refine ae.eq (dG x y _) ?_
   refine Un.not ?_
   refine Br.mk (fun _=>JE.mk (next i _ IF qJ BZ)) (fun _=>?_)
   refine DR.self ?_
   refine aa.bS (b:=1) ?_
   refine aa.bS (b:=1) ?_
   refine BZ.swap .here (by omega) (by omega) fun C2 pK=>?_
   refine aa.inc ?_
   exact aq.mk ⟨j+1,rfl,by omega,pK⟩ (by simp[aV];omega)
  refine aa.bS ?_
  refine aa.mS (b:=2) (Br.dec (fun h2=>?_) (fun _=>JE.mk (tail _ DI)))
  refine aa.bS (b:=1) ?_
  refine⟨fun vs H=>∃j:Nat,vs=[.int .i64 (j:Int)]∧j<l0.length∧DT v l0 H,fun vs _=>aV vs 0,JE.mk ⟨i-1,rfl,by omega,DI⟩,?_⟩
  rintro w H ⟨j,hw,M5,BZ⟩ gs
  simp only[List.cons.injEq,and_true]at hw
  subst hw
  refine aa.mS (b:=1) (Br.dec (fun hlt=>?_) (fun _=>JE.mk (tail _ BZ)))
  refine DR.self ?_
  refine BZ.ld (fun _ h=>h) (by omega) fun x=>?_
  refine aa.bS (b:=1) ?_
  refine BZ.ld (fun _ h=>h) (by omega) fun y=>?_
  refine ae.eq (dG x y _) ?_
  refine Un.not ?_
  refine Br.mk (fun _=>JE.mk (tail _ BZ)) (fun _=>?_)
  refine DR.self ?_
  refine aa.bS (b:=1) ?_
  refine aa.bS (b:=1) ?_
  refine BZ.swap .here (by omega) (by omega) fun C2 pK=>?_
  refine aa.bS (b:=1) ?_
  exact aq.mk ⟨j-1,rfl,by omega,pK⟩ (by simp[aV];omega)
 refine DR.self (aa.dn (Br.dec (fun hlt=>?_) fun _=>JE.mk no))
 refine hd.ld (fun _ h=>h) (by omega) fun x=>?_
 refine aa.bS (b:=1) ?_
 refine hd.ld (fun _ h=>h) (by omega) fun y=>?_
 intro F
 refine ae.eq (dG x y _) ?_
 refine Un.not ?_
 refine ay.mk ?_
 by_cases e:x<y
 ·rw[decide_eq_true e];exact JE.mk no
 ·rw[decide_eq_false e];exact JE.mk (yes hlt)
theorem Dg(h:DT v l0 C){a b p:Nat}(hp:a≤p∧p<b)(hb:b≤l0.length)(aU:l0.length<1152921504606846976):Fc Tryz.prog 296 #[v,.int .i64 (a:Int),.int .i64 (b:Int),.int .i64 (p:Int)] C
  (fun r C'=>(∃m:Nat,r=.int .i64 (m:Int)∧a<m∧m≤b)∧DT v l0 C'):=by
 refine aX fun g=>zk ?_
 refine DR.self (h.swap .here (by omega) (by omega) fun C1 hd=>?_)
 refine aa.inc ?_
 refine aa.bS (b:=1) ?_
 refine⟨fun vs H=>∃i j:Nat,vs=[.int .i64 (i:Int),.int .i64 (j:Int)]∧a<i∧i≤b∧a≤j∧j<b∧DT v l0 H,fun vs _=>b-aV vs 0,JE.mk ⟨a+1,b-1,rfl,by omega,by omega,by omega,by omega,hd⟩,?_⟩
 clear hd
 rintro w w' H0 ⟨i0,j0,hw,IF,qJ,LO,Oh,hd⟩ gs
 simp only[List.cons.injEq,and_true]at hw
 obtain⟨rfl,rfl⟩:=hw
 refine⟨fun vs H=>∃i:Nat,vs=[.int .i64 (i:Int)]∧i0≤i∧i≤b∧DT v l0 H,fun vs _=>b-aV vs 0,JE.mk ⟨i0,rfl,Nat.le_refl _,qJ,hd⟩,?_⟩
 clear hd qJ
 rintro w H ⟨i,hw,DF,qJ,hd⟩ gs
 simp only[List.cons.injEq,and_true]at hw
 subst hw
 intro V7 QG
 have yes:i≤j0→V7 [.bool true] H:=fun hle=>QG _ _ fun gs=>Br.yes (aa.inc (aq.mk ⟨i+1,rfl,by omega,by omega,hd⟩ (by simp[aV];omega)))
 have no:V7 [.bool false] H:=by
  refine QG _ _ fun gs=>Br.no ?_
  refine⟨fun vs H=>∃j:Nat,vs=[.int .i64 (j:Int)]∧a≤j∧j<b∧DT v l0 H,fun vs _=>aV vs 0,JE.mk ⟨j0,rfl,LO,Oh,hd⟩,?_⟩
  rintro w H' ⟨j,hw,Qk,PU,dh⟩ gs
  simp only[List.cons.injEq,and_true]at hw
  subst hw
  intro Sa Kl
  have CB:i≤j→Sa [.bool true] H':=fun hle=>Kl _ _ fun gs=>Br.yes (aa.bS (b:=1) (aq.mk ⟨j-1,rfl,by omega,by omega,dh⟩ (by simp[aV];omega)))
  have K9:Sa [.bool false] H':=by
   refine Kl _ _ fun gs=>Br.no ?_
   refine aa.iR (Br.dec (fun _=>bN.here ⟨⟨i,rfl,by omega,qJ⟩,dh⟩) (fun hle=>?_))
   refine DR.self (dh.swap .here (by omega) (by omega) fun C2 pK=>?_)
   refine aa.inc ?_
   refine aa.bS (b:=1) ?_
   exact aq.mk ⟨i+1,j-1,rfl,by omega,by omega,by omega,by omega,pK⟩ (by simp[aV];omega)
  refine DR.self (aa.BP (Br.dec (fun hle=>?_) fun _=>JE.mk K9))
  refine dh.ld (fun _ h=>h) (by omega) fun x=>?_
  refine dh.ld (fun _ h=>h) (by omega) fun y=>?_
  intro F
  refine ae.eq (dG x y _) ?_
  refine ay.mk ?_
  by_cases e:x<y
  ·rw[decide_eq_true e];exact JE.mk (CB hle)
  ·rw[decide_eq_false e];exact JE.mk K9
 refine DR.self (aa.BP (Br.dec (fun hle=>?_) fun _=>JE.mk no))
 refine hd.ld (fun _ h=>h) (by omega) fun x=>?_
 refine hd.ld (fun _ h=>h) (by omega) fun y=>?_
 intro F
 refine ae.eq (dG x y _) ?_
 refine Un.not ?_
 refine ay.mk ?_
 by_cases e:x<y
 ·rw[decide_eq_true e];exact JE.mk no
 ·rw[decide_eq_false e];exact JE.mk (yes hle)
end
end Go.Proofs
set_option maxRecDepth 100000
namespace Go.Proofs
open Go Go.Sx
section
variable {v:Value} {l0:List Int} {C:Hp}
def PQ(v:Value)(l0:List Int)(a b:Nat):Value→Hp→Prop:=fun r C'=>(∃(m:Nat) (t:Bool),r=.tuple #[.int .i64 (m:Int),.bool t]∧a≤m∧m<b)∧DT v l0 C'
theorem Jn(h:DT v l0 C){a b p:Nat}(hp:a≤p∧p<b)(hb:b≤l0.length)(aU:l0.length<1152921504606846976):Fc Tryz.prog 297 #[v,.int .i64 (a:Int),.int .i64 (b:Int),.int .i64 (p:Int)] C (PQ v l0 a b):=by
 refine aX fun g=>zj ?_
 refine DR.self (h.swap .here (by omega) (by omega) fun C1 hd=>?_)
 refine aa.inc ?_
 refine aa.bS (b:=1) ?_
 refine⟨fun vs H=>∃i:Nat,vs=[.int .i64 (i:Int)]∧a<i∧i≤b∧DT v l0 H,fun vs _=>b-aV vs 0,JE.mk ⟨a+1,rfl,by omega,by omega,hd⟩,?_⟩
 clear hd
 rintro w H ⟨i,hw,IF,qJ,hd⟩ gs
 simp only[List.cons.injEq,and_true]at hw
 subst hw
 intro NT yG
 have yes:i<b→NT [.bool true] H:=fun hle=>yG _ _ fun gs=>Br.yes (aa.inc (aq.mk ⟨i+1,rfl,by omega,by omega,hd⟩ (by simp[aV];omega)))
 have no:NT [.bool false] H:=by
  refine yG _ _ fun gs=>Br.no ?_
  refine⟨fun vs H=>∃j:Nat,vs=[.int .i64 (j:Int)]∧a≤j∧j<b∧DT v l0 H,fun vs _=>aV vs 0,JE.mk ⟨b-1,rfl,by omega,by omega,hd⟩,?_⟩
  clear hd
  rintro w H ⟨j,hw,LO,Oh,hd⟩ gs
  simp only[List.cons.injEq,and_true]at hw
  subst hw
  intro UC ND
  have CB:i≤j→UC [.bool true] H:=fun hle=>ND _ _ fun gs=>Br.yes (aa.bS (b:=1) (aq.mk ⟨j-1,rfl,by omega,by omega,hd⟩ (by simp[aV];omega)))
  have K9:UC [.bool false] H:=by
   refine ND _ _ fun gs=>Br.no ?_
   refine aa.iR (Br.dec (fun _=>?_) (fun hle=>?_))
   ·refine DR.self (hd.swap .here (by omega) (by omega) fun C2 pK=>?_)
    exact bN.here ⟨⟨j,true,rfl,LO,Oh⟩,pK⟩
   ·refine DR.self (hd.swap .here (by omega) (by omega) fun C2 pK=>?_)
    refine aa.inc ?_
    refine aa.bS (b:=1) ?_
    refine⟨fun vs H=>∃i j:Nat,vs=[.int .i64 (i:Int),.int .i64 (j:Int)]∧a<i∧i≤b∧a≤j∧j<b∧DT v l0 H,fun vs _=>b-aV vs 0,JE.mk ⟨i+1,j-1,rfl,by omega,by omega,by omega,by omega,pK⟩,?_⟩
    clear pK hd IF qJ LO Oh hle CB ND UC yG NT yes
    rintro w w' H0 ⟨i0,j0,hw,IF,qJ,LO,Oh,hd⟩ gs
    simp only[List.cons.injEq,and_true]at hw
    obtain⟨rfl,rfl⟩:=hw
    refine⟨fun vs H=>∃i:Nat,vs=[.int .i64 (i:Int)]∧i0≤i∧i≤b∧DT v l0 H,fun vs _=>b-aV vs 0,JE.mk ⟨i0,rfl,Nat.le_refl _,qJ,hd⟩,?_⟩
    clear hd qJ
    rintro w H ⟨i,hw,DF,qJ,hd⟩ gs
    simp only[List.cons.injEq,and_true]at hw
    subst hw
    intro V5 QD
    have yes:i≤j0→V5 [.bool true] H:=fun hle=>QD _ _ fun gs=>Br.yes (aa.inc (aq.mk ⟨i+1,rfl,by omega,by omega,hd⟩ (by simp[aV];omega)))
    have no:V5 [.bool false] H:=by
     refine QD _ _ fun gs=>Br.no ?_
     refine⟨fun vs H=>∃j:Nat,vs=[.int .i64 (j:Int)]∧a≤j∧j<b∧DT v l0 H,fun vs _=>aV vs 0,JE.mk ⟨j0,rfl,LO,Oh,hd⟩,?_⟩
     rintro w H' ⟨j,hw,Qk,PU,dh⟩ gs
     simp only[List.cons.injEq,and_true]at hw
     subst hw
     intro V4 QC
     have CB:i≤j→V4 [.bool true] H':=fun hle=>QC _ _ fun gs=>Br.yes (aa.bS (b:=1) (aq.mk ⟨j-1,rfl,by omega,by omega,dh⟩ (by simp[aV];omega)))
     have K9:V4 [.bool false] H':=by
      refine QC _ _ fun gs=>Br.no ?_
      refine aa.iR (Br.dec (fun _=>?_) (fun hle=>?_))
      ·refine DR.self (dh.swap .here (by omega) (by omega) fun C2 pK=>?_)
       exact bN.here ⟨⟨j,false,rfl,Qk,PU⟩,pK⟩
      ·refine DR.self (dh.swap .here (by omega) (by omega) fun C2 pK=>?_)
       refine aa.inc ?_
       refine aa.bS (b:=1) ?_
       exact aq.mk ⟨i+1,j-1,rfl,by omega,by omega,by omega,by omega,pK⟩ (by simp[aV];omega)
     refine DR.self (aa.BP (Br.dec (fun hle=>?_) fun _=>JE.mk K9))
     refine dh.ld (fun _ h=>h) (by omega) fun x=>?_
     refine dh.ld (fun _ h=>h) (by omega) fun y=>?_
     intro F
     refine ae.eq (dG x y _) ?_
     refine Un.not ?_
     refine ay.mk ?_
     by_cases e:x<y
     ·rw[decide_eq_true e];exact JE.mk K9
     ·rw[decide_eq_false e];exact JE.mk (CB hle)
    refine DR.self (aa.BP (Br.dec (fun hle=>?_) fun _=>JE.mk no))
    refine hd.ld (fun _ h=>h) (by omega) fun x=>?_
    refine hd.ld (fun _ h=>h) (by omega) fun y=>?_
    intro F
    refine ae.eq (dG x y _) ?_
    refine ay.mk ?_
    by_cases e:x<y
    ·rw[decide_eq_true e];exact JE.mk (yes hle)
    ·rw[decide_eq_false e];exact JE.mk no
  refine DR.self (aa.BP (Br.dec (fun hle=>?_) fun _=>JE.mk K9))
  refine hd.ld (fun _ h=>h) (by omega) fun x=>?_
  refine hd.ld (fun _ h=>h) (by omega) fun y=>?_
  intro F
  refine ae.eq (dG x y _) ?_
  refine Un.not ?_
  refine ay.mk ?_
  by_cases e:x<y
  ·rw[decide_eq_true e];exact JE.mk K9
  ·rw[decide_eq_false e];exact JE.mk (CB hle)
 refine DR.self (aa.BP (Br.dec (fun hle=>?_) fun _=>JE.mk no))
 refine hd.ld (fun _ h=>h) (by omega) fun x=>?_
 refine hd.ld (fun _ h=>h) (by omega) fun y=>?_
 intro F
 refine ae.eq (dG x y _) ?_
 refine ay.mk ?_
 by_cases e:x<y
 ·rw[decide_eq_true e];exact JE.mk (yes (by omega))
 ·rw[decide_eq_false e];exact JE.mk no
theorem BD(h:DT v l0 C){lo hi f:Nat}(hlo:lo≤l0.length)(hb:f+hi≤l0.length)(aU:l0.length<1152921504606846976):Fc Tryz.prog 299 #[v,.int .i64 (lo:Int),.int .i64 (hi:Int),.int .i64 (f:Int)] C (SQ v l0):=by
 refine aX fun g=>zi ?_
 refine⟨fun vs H=>∃i:Nat,vs=[.int .i64 (i:Int)]∧i≤l0.length∧DT v l0 H,fun vs _=>l0.length-aV vs 0,JE.mk ⟨lo,rfl,hlo,h⟩,?_⟩
 rintro w H ⟨r,hw,hr,hd⟩ gs
 simp only[List.cons.injEq,and_true]at hw
 subst hw
 refine aa.ud (a:=2) ?_
 refine aa.inc ?_
 refine aa.mS (Br.dec (fun _=>bN.here ⟨rfl,hd⟩) (fun hlt=>?_))
 intro J9 Hs
 have go:∀c:Nat,r<c→c<hi→J9 [.int .i64 (c:Int)] H:=fun c hrc XS=>by
  refine Hs _ _ fun gs=>?_
  refine DR.self ?_
  refine aa.ef ?_
  refine hd.ld (fun _ h=>h) (by omega) fun x=>?_
  refine aa.ef ?_
  refine hd.ld (fun _ h=>h) (by omega) fun y=>?_
  refine ae.eq (dG x y _) ?_
  refine Un.not ?_
  refine Br.mk (fun _=>bN.here ⟨rfl,hd⟩) (fun _=>?_)
  refine DR.self ?_
  refine aa.ef ?_
  refine aa.ef ?_
  refine aa.ef ?_
  refine hd.OI .here (i:=f+r) (j:=f+c) (B:=fun k=>aa .num .add (.int .i64 (f:Int)) (.int .i64 (r:Int)) k) (by omega) (by omega) (fun k hk=>aa.ef hk) fun C1 DI=>?_
  exact aq.mk ⟨c,rfl,by omega,DI⟩ (by simp[aV];omega)
 intro YV QE
 have stay:YV [.bool false] H:=QE _ _ fun gs=>Br.no (JE.mk (go _ (by omega) (by omega)))
 refine DR.self ?_
 refine aa.inc ?_
 refine aa.dn (Br.dec (fun hc=>?_) fun _=>JE.mk stay)
 refine aa.ef ?_
 refine hd.ld (fun _ h=>h) (by omega) fun x=>?_
 refine aa.ef ?_
 refine aa.inc ?_
 refine hd.ld (fun _ h=>h) (by omega) fun y=>?_
 intro F
 refine ae.eq (dG x y _) ?_
 refine ay.mk ?_
 by_cases e:x<y
 ·rw[decide_eq_true e]
  exact JE.mk (QE _ _ fun gs=>Br.yes (aa.inc (JE.mk (go _ (by omega) hc))))
 ·rw[decide_eq_false e];exact JE.mk stay
theorem GH(h:DT v l0 C){a b:Nat}(hab:a<b)(hb:b≤l0.length)(aU:l0.length<1152921504606846976):Fc Tryz.prog 290 #[v,.int .i64 (a:Int),.int .i64 (b:Int)] C (SQ v l0):=by
 refine aX fun g=>zu ?_
 refine aa.bS ?_
 refine aa.bS (b:=1) ?_
 refine aa.sn (b:=2) (by simp[aW];omega) (by omega) ?_
 refine⟨fun vs H=>∃q:Int,vs=[.int .i64 q]∧ -1≤q∧q<(b:Int) -a∧DT v l0 H,fun vs _=>Si vs,JE.mk ⟨(((b-a-1) /2:Nat):Int),rfl,by omega,by omega,h⟩,?_⟩
 rintro w H ⟨q,hw,GK,Pv,hd⟩ gs
 simp only[List.cons.injEq,and_true]at hw
 subst hw
 refine aa.geq (Br.dec (fun h0=>?_) (fun _=>?_))
 ·obtain⟨i,rfl⟩:∃i:Nat,q=i:=⟨q.toNat,by omega⟩
  refine ae.fq (BD hd (by omega) (by omega) aU) ?_
  rintro w C1 ⟨rfl,DI⟩
  refine aa.jm (c:=(i:Int) -1) rfl (by omega) ?_
  exact aq.mk ⟨(i:Int) -1,rfl,by omega,by omega,DI⟩ (by rw[tN,tN];omega)
 ·refine aa.bS (b:=1) ?_
  refine⟨fun vs H=>∃q:Int,vs=[.int .i64 q]∧ -1≤q∧q<(b:Int) -a∧DT v l0 H,fun vs _=>Si vs,JE.mk ⟨((b-a-1:Nat):Int),rfl,by omega,by omega,hd⟩,?_⟩
  clear hd
  rintro w H ⟨q,hw,GK,Pv,hd⟩ gs
  simp only[List.cons.injEq,and_true]at hw
  subst hw
  refine aa.geq (Br.dec (fun h0=>?_) (fun _=>bN.here ⟨rfl,hd⟩))
  obtain⟨i,rfl⟩:∃i:Nat,q=i:=⟨q.toNat,by omega⟩
  refine DR.self ?_
  refine aa.ef ?_
  refine aa.ef ?_
  refine hd.swap .here (by omega) (by omega) fun C1 DI=>?_
  refine ae.fq (BD DI (lo:=0) (by omega) (by omega) aU) ?_
  rintro w C2 ⟨rfl,pK⟩
  refine aa.jm (c:=(i:Int) -1) rfl (by omega) ?_
  exact aq.mk ⟨(i:Int) -1,rfl,by omega,by omega,pK⟩ (by rw[tN,tN];omega)
end
section
variable {v:Value} {l0:List Int} {C:Hp}
theorem Se{a b:Nat}(ha:a<18446744073709551616)(hb:b<18446744073709551616):a^^^b<18446744073709551616:=Nat.xor_lt_two_pow (n:=64) ha hb
theorem Fg(b x:Nat)(hx:x<18446744073709551616):Fc Tryz.prog 301 #[ptr b] [(b,.cells #[.int .u64 (x:Int)] 373 (0,0))]
  (fun r H=>∃y:Nat,y<18446744073709551616∧r=.int .u64 (y:Int)∧H=[(b,.cells #[.int .u64 (y:Int)] 373 (0,0))]):=by
 refine aX fun g=>zg ?_
 refine DR.self ?_
 refine Nil.ptr (Ld.q ?_)
 refine Nil.ptr (Ld.q ?_)
 refine aa.m0 (b:=13) ?_
 refine aa.Mc hx (Nat.mod_lt _ (by decide)) ?_
 have h1:=Se hx (Nat.mod_lt (x<<<13) (show 0<18446744073709551616 by decide))
 generalize x^^^x<<<13%18446744073709551616=x1 at h1
 refine Nil.ptr (St.one (by exact .head _) rfl (by simp) rfl ?_)
 refine DR.self ?_
 refine Nil.ptr (Ld.q ?_)
 refine Nil.ptr (Ld.q ?_)
 refine aa.gN (b:=7) h1 ?_
 have h2:x1>>>7<18446744073709551616:=by rw[Nat.shiftRight_eq_div_pow];omega
 refine aa.Mc h1 h2 ?_
 have h3:=Se h1 h2
 generalize x1^^^x1>>>7=x2 at h3
 refine Nil.ptr (St.one (by exact .head _) rfl (by simp) rfl ?_)
 refine DR.self ?_
 refine Nil.ptr (Ld.q ?_)
 refine Nil.ptr (Ld.q ?_)
 refine aa.m0 (b:=17) ?_
 refine aa.Mc h3 (Nat.mod_lt _ (by decide)) ?_
 have h4:=Se h3 (Nat.mod_lt (x2<<<17) (show 0<18446744073709551616 by decide))
 generalize x2^^^x2<<<17%18446744073709551616=x3 at h4
 refine Nil.ptr (St.one (by exact .head _) rfl (by simp) rfl ?_)
 refine Nil.ptr (Ld.q ?_)
 exact bN.here ⟨x3,h4,rfl,rfl⟩
theorem Ce{x:Nat}(hx:x<18446744073709551616)(B:Hp):Rd Tryz.prog 286 #[.int .u64 (x:Int)] B (fun v=>∃r:Nat,pg x r∧v=.int .i64 (r:Int)):=by
 refine aX fun g=>zw ?_
 refine Br.no ?_
 refine ae.rq (vH hx B) ?_
 rintro w hw
 exact bO.mk (.refl _) hw
theorem Jp{x:Nat}(h0:0<x)(hx:x<1152921504606846976)(B:Hp):Rd Tryz.prog 300 #[.int .i64 (x:Int)] B (fun v=>∃r:Nat,0<r∧r≤2*x∧v=.int .u64 (r:Int)):=by
 refine aX fun g=>zh ?_
 refine aY.q ?_
 refine ae.rq (Ce (by omega) B) ?_
 rintro w ⟨r,hr,rfl⟩
 have Ps:0<r:=by
  rcases Nat.eq_zero_or_pos r with e|e
  ·subst e;have:=hr.1;omega
  ·exact e
 have h2:2^(r-1)≤x:=by
  rcases hr.2 with e|e
  ·omega
  ·exact e
 have h3:2^r=2*2^(r-1):=by
  obtain⟨k,rfl⟩:∃k,r=k+1:=⟨r-1,by omega⟩
  rw[Nat.add_sub_cancel,Nat.pow_succ];omega
 refine aa.m0 (a:=1) ?_
 have e:1<<<r%18446744073709551616=2^r:=by
  rw[Nat.shiftLeft_eq,Nat.one_mul]
  exact Nat.mod_eq_of_lt (by omega)
 rw[e]
 exact bO.mk (.refl _) ⟨2^r,Nat.two_pow_pos r,by omega,rfl⟩
theorem NH(h:DT v l0 C){a b:Nat}(hab:a<b)(hb:b≤l0.length)(aU:l0.length<1152921504606846976):Fc Tryz.prog 291 #[v,.int .i64 (a:Int),.int .i64 (b:Int)] C (SQ v l0):=by
 refine aX fun g=>zq ?_
 refine aa.bS ?_
 refine aa.mS (b:=8) (Br.dec (fun h8=>?_) (fun _=>bN.here ⟨rfl,h⟩))
 refine aY.q ?_
 intro b4 _
 refine St.one (by exact .head _) rfl (by simp) rfl ?_
 refine ae.rq (Jp (by omega) (by omega) C) ?_
 rintro w ⟨m,hm0,hm,rfl⟩
 refine aa.sn (b:=4) (by simp[aW];omega) (by omega) ?_
 refine aa.ud (b:=2) ?_
 refine aa.ef ?_
 refine aa.bS (b:=1) ?_
 refine⟨fun vs H=>∃(i x:Nat) (C':Hp),vs=[.int .i64 (i:Int)]∧x<18446744073709551616∧H=(b4,.cells #[.int .u64 (x:Int)] 373 (0,0))::C'∧DT v l0 C',fun vs _=>b-aV vs 0,
  JE.mk ⟨_,b-a,C,rfl,by omega,rfl,h⟩,?_⟩
 rintro w H ⟨i,x,C',hw,hx,rfl,hd⟩ gs
 simp only[List.cons.injEq,and_true]at hw
 subst hw
 refine aa.sn (b:=4) (by simp[aW];omega) (by omega) ?_
 refine aa.ud (b:=2) ?_
 refine aa.ef ?_
 refine aa.inc ?_
 refine aa.BP (Br.dec (fun hle=>?_) (fun _=>bN.mk .tail ⟨rfl,hd⟩))
 refine ae.fn (.left (A:=C')) (Fg b4 x hx) ?_
 rintro w H' ⟨y,hy,rfl,rfl⟩
 refine aa.bS (b:=1) ?_
 refine aa.gI (by simp[aW];omega) (by simp[aW];omega) ?_
 have hand:y&&& (m-1)<m:=by have:=Nat.and_le_right (n:=y) (m:=m-1);omega
 generalize y&&& (m-1)=z at hand
 refine aY.q ?_
 intro YY T9
 have go:∀o:Nat,o<b-a→YY [.int .i64 (o:Int)] ([(b4,Obj.cells #[.int .u64 (y:Int)] 373 (0,0))]++C'):=fun o ho=>by
  refine T9 _ _ fun gs=>?_
  refine DR.self ?_
  refine aa.ef ?_
  refine aa.ef ?_
  refine hd.swap (.cons .here) (by omega) (by omega) fun C1 DI=>?_
  refine aa.inc ?_
  exact aq.mk ⟨i+1,y,C1,rfl,hy,rfl,DI⟩ (by simp[aV];omega)
 refine aa.mS (Br.dec (fun hge=>?_) (fun hlt=>JE.mk (go z (by omega))))
 refine aa.bS ?_
 exact JE.mk (go _ (by omega))
def OQ(b:Nat)(C:Hp)(i j:Nat):Value→Hp→Prop:=fun r H=>(r=.tuple #[.int .i64 (i:Int),.int .i64 (j:Int)]∨r=.tuple #[.int .i64 (j:Int),.int .i64 (i:Int)])∧∃z:Int,H=(b,.cells #[.int .i64 z] 3 (0,0))::C
theorem tZ(h:DT v l0 C){b:Nat}{z:Int}{i j:Nat}(hi:i<l0.length)(hj:j<l0.length):
  Fc Tryz.prog 305 #[v,.int .i64 (i:Int),.int .i64 (j:Int),ptr b] ((b,.cells #[.int .i64 z] 3 (0,0))::C) (OQ b C i j):=by
 refine aX fun g=>zb ?_
 refine DR.self ?_
 refine h.ld (fun _ h=>.tail _ h) hj fun x=>?_
 refine h.ld (fun _ h=>.tail _ h) hi fun y=>?_
 refine ae.eq (dG x y _) ?_
 refine Br.mk (fun _=>?_) (fun _=>bN.here ⟨.inl rfl,z,rfl⟩)
 refine Nil.ptr (Ld.q ?_)
 refine aa.add ?_
 refine Nil.ptr (St.one (by exact .head _) rfl (by simp) rfl ?_)
 exact bN.here ⟨.inr rfl,_,rfl⟩
def MQ(b:Nat)(C:Hp)(p:Nat→Prop):Value→Hp→Prop:=fun r H=>(∃m:Nat,r=.int .i64 (m:Int)∧p m)∧∃z:Int,H=(b,.cells #[.int .i64 z] 3 (0,0))::C
theorem Gj(h:DT v l0 C){b:Nat}{z:Int}{i j k:Nat}(hi:i<l0.length)(hj:j<l0.length)(hk:k<l0.length):
  Fc Tryz.prog 303 #[v,.int .i64 (i:Int),.int .i64 (j:Int),.int .i64 (k:Int),ptr b] ((b,.cells #[.int .i64 z] 3 (0,0))::C) (MQ b C fun m=>m=i∨m=j∨m=k):=by
 refine aX fun g=>ze ?_
 refine ae.fq (tZ h hi hj) ?_
 rintro w H ⟨hw,z1,rfl⟩
 obtain⟨i1,j1,rfl,hij⟩:∃i1 j1:Nat,w=.tuple #[.int .i64 (i1:Int),.int .i64 (j1:Int)]∧((i1=i∧j1=j)∨(i1=j∧j1=i)):=by
  rcases hw with rfl|rfl
  ·exact⟨i,j,rfl,.inl ⟨rfl,rfl⟩⟩
  ·exact⟨j,i,rfl,.inr ⟨rfl,rfl⟩⟩
 refine Ext.two ?_
 refine ae.fq (tZ h (i:=j1) (j:=k) (by omega) hk) ?_
 rintro w H ⟨hw,z2,rfl⟩
 obtain⟨j2,k2,rfl,JZ⟩:∃j2 k2:Nat,w=.tuple #[.int .i64 (j2:Int),.int .i64 (k2:Int)]∧((j2=j1∧k2=k)∨(j2=k∧k2=j1)):=by
  rcases hw with rfl|rfl
  ·exact⟨_,_,rfl,.inl ⟨rfl,rfl⟩⟩
  ·exact⟨_,_,rfl,.inr ⟨rfl,rfl⟩⟩
 refine Ext.two ?_
 refine ae.fq (tZ h (i:=i1) (j:=j2) (by omega) (by omega)) ?_
 rintro w H ⟨hw,z3,rfl⟩
 rcases hw with rfl|rfl
 ·exact Ext.mk rfl (Ext.mk rfl (bN.here ⟨⟨_,rfl,by omega⟩,_,rfl⟩))
 ·exact Ext.mk rfl (Ext.mk rfl (bN.here ⟨⟨_,rfl,by omega⟩,_,rfl⟩))
theorem ue(h:DT v l0 C){b:Nat}{z:Int}{i:Nat}(h0:0<i)(hi:i+1<l0.length)(aU:l0.length<1152921504606846976):
  Fc Tryz.prog 302 #[v,.int .i64 (i:Int),ptr b] ((b,.cells #[.int .i64 z] 3 (0,0))::C) (MQ b C fun m=>i≤m+1∧m≤i+1):=by
 refine aX fun g=>zf ?_
 refine aa.bS (b:=1) ?_
 refine aa.inc ?_
 refine ae.fq (Gj h (by omega) (by omega) hi) ?_
 rintro w H ⟨⟨m,rfl,hm⟩,z',rfl⟩
 exact bN.here ⟨⟨m,rfl,by omega⟩,z',rfl⟩
theorem Mp(h:DT v l0 C){a b:Nat}(hab:a<b)(hb:b≤l0.length)(aU:l0.length<1152921504606846976):
  Rd Tryz.prog 292 #[v,.int .i64 (a:Int),.int .i64 (b:Int)] C (fun r=>∃(p:Nat) (q:Int),r=.tuple #[.int .i64 (p:Int),.int .i64 q]∧a≤p∧p<b):=by
 refine aX fun g=>zo ?_
 refine aa.bS ?_
 intro b2 _
 refine aa.sn (b:=4) (by simp[aW];omega) (by omega) ?_
 refine aa.ud (b:=1) ?_
 refine aa.ef ?_
 refine aa.sn (b:=4) (by simp[aW];omega) (by omega) ?_
 refine aa.ud (b:=2) ?_
 refine aa.ef ?_
 refine aa.sn (b:=4) (by simp[aW];omega) (by omega) ?_
 refine aa.ud (b:=3) ?_
 refine aa.ef ?_
 intro Y7 Uc
 have fin:∀(p:Nat) (z:Int),a≤p→p<b→Y7 [.int .i64 (p:Int)] ((b2,.cells #[.int .i64 z] 3 (0,0))::C):=fun p z r9 iP=>by
  refine Uc _ _ fun gs=>?_
  refine Ld.q ?_
  refine aa.j5 (Br.dec (fun _=>bO.mk .tail ⟨p,_,rfl,r9,iP⟩) (fun _=>?_))
  exact aa.j5 (Br.dec (fun _=>bO.mk .tail ⟨p,_,rfl,r9,iP⟩) (fun _=>bO.mk .tail ⟨p,_,rfl,r9,iP⟩))
 refine aa.mS (b:=8) (Br.dec (fun h8=>?_) (fun _=>JE.mk (fin _ _ (by omega) (by omega))))
 intro Y6 Ub
 have three:∀(x y u:Nat) (z:Int),a≤x∧x<b→a≤y∧y<b→a≤u∧u<b→Y6 [.int .i64 (x:Int),.int .i64 (y:Int),.int .i64 (u:Int)] ((b2,.cells #[.int .i64 z] 3 (0,0))::C):=fun x y u z hx hy hu=>by
  refine Ub _ _ _ _ fun gs=>?_
  refine ae.fq (Gj h (by omega) (by omega) (by omega)) ?_
  rintro w H ⟨⟨m,rfl,hm⟩,z',rfl⟩
  exact JE.mk (fin _ _ (by omega) (by omega))
 refine aa.mS (b:=50) (Br.dec (fun ZX=>?_) (fun _=>JE.mk (three _ _ _ _ (by omega) (by omega) (by omega))))
 refine ae.fq (ue h (by omega) (by omega) aU) ?_
 rintro w H ⟨⟨m1,rfl,xw⟩,z1,rfl⟩
 refine ae.fq (ue h (by omega) (by omega) aU) ?_
 rintro w H ⟨⟨m2,rfl,uo⟩,z2,rfl⟩
 refine ae.fq (ue h (by omega) (by omega) aU) ?_
 rintro w H ⟨⟨m3,rfl,ZO⟩,z3,rfl⟩
 exact JE.mk (three _ _ _ _ (by omega) (by omega) (by omega))
theorem Mq:∀(N:Nat) {C:Hp} (h:DT v l0 C) {a b:Nat} (hN:b-a≤N) (hab:a≤b) (hb:b≤l0.length) (aU:l0.length<1152921504606846976) (z:Int),Fc Tryz.prog 285 #[v,.int .i64 (a:Int),.int .i64 (b:Int),.int .i64 z] C (SQ v l0):=by
 intro N
 induction N with
 |zero=>
  intro C h a b hN hab hb aU z g
  refine rL (R:=bN _) ?_
  unfold L285
  refine⟨fun vs H=>vs=[.int .i64 (a:Int),.int .i64 (b:Int),.int .i64 z,.bool true,.bool true]∧H=C,fun _ _=>0,JE.mk ⟨rfl,rfl⟩,?_⟩
  rintro w1 w2 w3 w4 w5 H ⟨hw,rfl⟩ gs
  simp only[List.cons.injEq,and_true]at hw
  obtain⟨rfl,rfl,rfl,rfl,rfl⟩:=hw
  refine aa.bS ?_
  refine aa.BP (b:=12) (Br.T ?_)
  refine ae.fq (vR h hab hb aU) ?_
  rintro w C' ⟨rfl,hd⟩
  exact bN.here ⟨rfl,hd⟩
 |succ N ih=>
  intro C h a b hN hab hb aU z g
  refine rL (R:=bN _) ?_
  unfold L285
  refine⟨fun vs H=>∃(a b:Nat) (z:Int) (t1 t2:Bool),vs=[.int .i64 (a:Int),.int .i64 (b:Int),.int .i64 z,.bool t1,.bool t2]∧b-a≤N+1∧a≤b∧b≤l0.length∧DT v l0 H,fun vs _=>aV vs 1-aV vs 0,JE.mk ⟨a,b,z,true,true,rfl,hN,hab,hb,h⟩,?_⟩
  clear h hN hab hb
  rintro w1 w2 w3 w4 w5 H ⟨a,b,z,t1,t2,hw,hN,hab,hb,h⟩ gs
  simp only[List.cons.injEq,and_true]at hw
  obtain⟨rfl,rfl,rfl,rfl,rfl⟩:=hw
  refine aa.bS ?_
  refine aa.BP (b:=12) (Br.dec (fun Kp=>?_) (fun Kp=>?_))
  ·refine ae.fq (vR h hab hb aU) ?_
   rintro w C' ⟨rfl,hd⟩
   exact bN.here ⟨rfl,hd⟩
  refine aa.j5 (Br.dec (fun _=>?_) (fun _=>?_))
  ·refine ae.fq (GH h (by omega) hb aU) ?_
   rintro w C' ⟨rfl,hd⟩
   exact bN.here ⟨rfl,hd⟩
  intro NT yG
  have UT:∀(z1:Int) H1,DT v l0 H1→NT [.int .i64 z1] H1:=fun z1 H1 h1=>by
   refine yG _ _ fun gs=>?_
   refine ae.rq (Mp h1 (a:=a) (b:=b) (by omega) hb aU) ?_
   rintro w ⟨p,q,rfl,r9,iP⟩
   refine Ext.two ?_
   intro YZ Ua
   have US:∀(p:Nat) (q:Int) H2,a≤p→p<b→DT v l0 H2→YZ [.int .i64 (p:Int),.int .i64 q] H2:=fun p q H2 r9 iP h2=>by
    refine Ua _ _ _ fun gs=>?_
    intro YX T8
    have UR:∀H3,DT v l0 H3→YX [] H3:=fun H3 h3=>by
     refine T8 _ fun gs=>?_
     intro Sa Kl
     have Ro:∀(t:Bool),Sa [.bool t] H3:=fun t=>by
      refine Kl _ _ fun gs=>?_
      refine Br.mk (fun _=>?_) (fun _=>?_)
      ·refine ae.fq (Dg h3 ⟨r9,iP⟩ hb aU) ?_
       rintro w C' ⟨⟨m,rfl,xw,uo⟩,hd⟩
       exact aq.mk ⟨m,b,z1,t1,t2,rfl,by omega,by omega,hb,hd⟩ (by simp[aV];omega)
      ·refine ae.fq (Jn h3 ⟨r9,iP⟩ hb aU) ?_
       rintro w C' ⟨⟨m,t,rfl,xw,uo⟩,hd⟩
       refine Ext.two ?_
       refine aa.bS ?_
       refine aa.bS ?_
       refine aa.sn (b:=8) (by simp[aW];omega) (by omega) ?_
       refine aa.dn (Br.dec (fun _=>?_) (fun _=>?_))
       ·refine aa.mS ?_
        refine ae.fq (ih hd (a:=a) (b:=m) (by omega) (by omega) (by omega) aU z1) ?_
        rintro w C' ⟨rfl,dh⟩
        refine aa.inc ?_
        exact aq.mk ⟨m+1,b,z1,_,t,rfl,by omega,by omega,hb,dh⟩ (by simp[aV];omega)
       ·refine aa.mS ?_
        refine aa.inc ?_
        refine ae.fq (ih hd (a:=m+1) (b:=b) (by omega) (by omega) (by omega) aU z1) ?_
        rintro w C' ⟨rfl,dh⟩
        exact aq.mk ⟨a,m,z1,_,t,rfl,by omega,by omega,by omega,dh⟩ (by simp[aV];omega)
     refine DR.self ?_
     refine aa.iR (b:=0) (Br.dec (fun h0=>?_) (fun _=>JE.mk (Ro false)))
     refine aa.bS (b:=1) ?_
     refine h3.ld (fun _ h=>h) (by omega) fun x=>?_
     refine h3.ld (fun _ h=>h) (by omega) fun y=>?_
     intro F
     refine ae.eq (dG x y _) ?_
     exact Un.not (ay.mk (JE.mk (Ro _)))
    refine dI.and t2 (fun _=>⟨rfl,rfl⟩) rfl fun gs=>?_
    refine dI.and (decide (q=1)) (fun _=>aa.j5 ⟨rfl,rfl⟩) rfl fun gs=>?_
    refine Br.mk (fun _=>?_) (fun _=>JE.mk (UR _ h2))
    refine ae.fq (Jj h2 (by omega) hb aU) ?_
    rintro w C' ⟨⟨t,rfl⟩,hd⟩
    exact Br.mk (fun _=>bN.here ⟨rfl,hd⟩) (fun _=>JE.mk (UR _ hd))
   refine aa.j5 (Br.dec (fun _=>?_) (fun _=>JE.mk (US p q _ r9 iP h1)))
   refine ae.fq (Mn h1 (a:=a) (b:=b) (by omega) hb aU) ?_
   rintro w C' ⟨rfl,hd⟩
   refine aa.bS (b:=1) ?_
   refine aa.bS ?_
   refine aa.bS ?_
   exact JE.mk (US _ _ _ (by omega) (by omega) hd)
  refine Un.not ?_
  refine Br.mk (fun _=>?_) (fun _=>JE.mk (UT _ _ h))
  refine ae.fq (NH h (a:=a) (b:=b) (by omega) hb aU) ?_
  rintro w C' ⟨rfl,hd⟩
  exact aa.sub (JE.mk (UT _ _ hd))
theorem I8{l:List Int}(h:aK 77 .u32 v l C)(aU:l.length<1152921504606846976):Fc Tryz.prog 274 #[v] C (fun r C'=>r=.tuple #[]∧∃l',l'.Perm l∧aK 77 .u32 v l' C'):=by
 refine aX fun g=>zx ?_
 refine h.aM ?_
 refine aY.q ?_
 refine ae.rq (Ce (by omega) C) ?_
 rintro w ⟨r,_,rfl⟩
 refine ae.fq (Mq l.length h.dt (a:=0) (b:=l.length) (by omega) (by omega) (Nat.le_refl _) aU _) ?_
 rintro w C' ⟨rfl,hd⟩
 exact bN.here ⟨rfl,hd⟩
end
end Go.Proofs
namespace Go.Sx
open Go
section
variable {P:Program} {g:Gh} {F:Fence} {n:Nat} {ops:Array Oper} {Q:Exit→Act→World→Prop} {rest:List Oper} {o:Oper} {a:Act} {fr:Fr} {w:World} {H:Hp}
abbrev xj(ds:List Deferred)(n:Nat)(a:Act)(fr:Fr):Prop:=bQ ds n a fr
variable {ds:List Deferred}
theorem xj.put(h:xj ds n a fr){d:Option Nat}(hd:dk n d=true)(v:Value):xj ds n (a.put d v) (bM fr d v):=bQ.put h hd v
theorem gu{v0:Value}(hF:∀f,F.fn f)(hg:o.guard=none)(fT:∀c,o.op≠.defer c)(hd:dk n o.dst=true)(ha:xj ds n a fr)(hw:Own g H w)(h:xm P g o (ev fr) H (· =v0))
 (k:∀a',xj ds n a' (bM fr o.dst v0)→wpListIn F 0 P ops Q rest a' w):wpListIn F 0 P ops Q (o::rest) a w:=by
 refine wpListIn_plain hg fun K hK=>⟨fun f _=>hF f,?_⟩
 rw[Oper.semAt_eq _ _ _ fT,ha.eval]
 obtain⟨v,hv,hr,_⟩:=kL h
 rw[hr w hw]
 subst hv
 exact hK _ _ (k _ (ha.put hd _))
theorem BB{s:Sem Value}{K:Value→Hp→Prop}(hF:∀f,F.fn f)(hg:o.guard=none)(fT:∀c,o.op≠.defer c)(hd:dk n o.dst=true)(ha:xj ds n a fr)(he:execOp (ev fr) o=(do pure (.value (←s))))
 (h:∃v w' H',s.run P w=.ok v w'∧Own g H' w'∧K v H')
 (k:∀v H' w' a',K v H'→Own g H' w'→xj ds n a' (bM fr o.dst v)→wpListIn F 0 P ops Q rest a' w'):wpListIn F 0 P ops Q (o::rest) a w:=by
 refine wpListIn_plain hg fun K hK=>⟨fun f _=>hF f,?_⟩
 rw[Oper.semAt_eq _ _ _ fT,ha.eval,he]
 obtain⟨v,w',H',hr,ho,hk⟩:=h
 simp only[Sem.run_bind,hr,Result.andThen_ok,Sem.run_pure]
 exact hK _ _ (k v H' w' _ hk ho (ha.put hd _))
theorem FG{s:Sem Value}{K:Value→Hp→Prop}(hF:∀f,F.fn f)(hg:o.guard=none)(fT:∀c,o.op≠.defer c)(hd:dk n o.dst=true)(ha:xj ds n a fr)(hw:Own g H w)(he:execOp (ev fr) o=(do pure (.value (←s))))
 (h:Iv P g o (ev fr) H K (fun _ _=>False))
 (k:∀v H' w' a',K v H'→Own g H' w'→xj ds n a' (bM fr o.dst v)→wpListIn F 0 P ops Q rest a' w'):wpListIn F 0 P ops Q (o::rest) a w:=by
 have h1:=qq (kW fr) h w hw
 rw[he]at h1
 refine BB (g:=g) (K:=K) hF hg fT hd ha he ?_ k
 cases hs:s.run P w with
 |ok v w'=>
  simp only[Sem.run_bind,hs,Result.andThen_ok,Sem.run_pure,kC]at h1
  obtain⟨H',ho,hk⟩:=h1
  exact⟨v,w',H',rfl,ho,hk⟩
 |halt x w'=>
  simp only[Sem.run_bind,hs,Result.andThen]at h1
  cases x<;>simp only[kC]at h1
  obtain⟨_,_,hk⟩:=h1;exact hk.elim
theorem OM{s:Sem Unit}{K:Value→Hp→Prop}(hF:∀f,F.fn f)(hg:o.guard=none)(fT:∀c,o.op≠.defer c)(hd:dk n o.dst=true)(ha:xj ds n a fr)(hw:Own g H w)(he:execOp (ev fr) o=(do s;pure .skip))
 (h:Iv P g o (ev fr) H K (fun _ _=>False))
 (k:∀H' w' a',K undef H'→Own g H' w'→xj ds n a' (bM fr o.dst undef)→wpListIn F 0 P ops Q rest a' w'):wpListIn F 0 P ops Q (o::rest) a w:=by
 have h1:=qq (kW fr) h w hw
 rw[he]at h1
 refine wpListIn_plain hg fun K hK=>⟨fun f _=>hF f,?_⟩
 rw[Oper.semAt_eq _ _ _ fT,ha.eval,he]
 cases hs:s.run P w with
 |ok v w'=>
  simp only[Sem.run_bind,hs,Result.andThen_ok,Sem.run_pure,kC]at h1⊢
  obtain⟨H',ho,hk⟩:=h1
  exact hK _ _ (k H' w' _ hk ho (ha.put hd _))
 |halt x w'=>
  simp only[Sem.run_bind,hs,Result.andThen]at h1
  cases x<;>simp only[kC]at h1
  obtain⟨_,_,hk⟩:=h1;exact hk.elim
theorem rG{m:Nat}{args:List Value}(hl:args.length≤m):xj [] m {tmps:=args.toArray++Array.replicate (m-args.toArray.size) undef,defers:=[]} (gB args 0):=by
 refine⟨rfl,by simp;omega,fun s=>?_⟩
 rw[iZ,Array.getD_eq_getD_getElem?,Array.getElem?_append]
 simp only[List.size_toArray,Nat.not_lt_zero,if_false,Nat.sub_zero]
 by_cases hs:s<args.length
 ·simp[hs,List.getD]
 ·rw[if_neg hs,Array.getElem?_replicate]
  have:args.getD s undef=undef:=by simp[List.getD,List.getElem?_eq_none (Nat.le_of_not_lt hs)]
  rw[this]
  split<;>rfl
theorem Own.putObj{g:Gh}{H H':Hp}{w:World}{b:Nat}{o o':Obj}(h:Own g H w)(u:cA b o o' H H'):Own g H' (w.putObj b o'):=by
 have hb:=h.lt u.mem
 exact h.bM u rfl rfl rfl (World.putObj_heap_same hb) fun c hc=>World.putObj_heap_other hc
def Cv{α:Type}(P:Program)(f:FuncId)(cap:Array Value)(B:Hp)(enc:α→Value)(N:Nat)(S:List α→Prop):Prop:=
 ∀(g:Gh) (l:Nat) (G:List α→Hp→Prop),
  (∀ss x A X W,G ss A→ss.length<N→Own g (A++X) W→YieldAt Fence.wide 0 P l #[enc x] W (fun e W'=>e=.returned (.bool true)∧∃A',G (ss++[x]) A'∧Own g (A'++X) W'))→
  ∀A W,G [] A→Own g (A++B) W→CallsIn Fence.wide 0 P f (#[.func (.yield l) #[] #[]]++cap) W (fun e W'=>(∃v,e=.returned v)∧∃ss A',S ss∧G ss A'∧Own g (A'++B) W')
open Classical in
noncomputable def nj(p:Nat→Prop):Nat:=if h:∃k,p k then Classical.choose (iz h)else 0
theorem ya{p:Nat→Prop}{k:Nat}(h:p k):nj p≤k:=by
 unfold nj
 rw[dif_pos ⟨k,h⟩]
 exact(Classical.choose_spec (iz ⟨k,h⟩)).2 k h
theorem uh{p:Nat→Prop}(h:∃k,p k):p (nj p):=by
 unfold nj
 rw[dif_pos h]
 exact(Classical.choose_spec (iz h)).1
theorem xB{c:Code}(J:Nat→Act→World→Prop){k:Nat}(h0:J k a w)
 (round:∀k a w,J k a w→c.wpIn F 0 P (Exit.then (fun a' w'=>∃k',k'<k∧J k' a' w') Q) a w):(Code.loop c).wpIn F 0 P Q a w:=by
 refine wpIn_loop (fun a w=>∃k,J k a w) (fun a w=>nj fun k=>J k a w) ⟨k,h0⟩ fun a w h=>?_
 refine Code.wpIn_mono (fun e a' w' hq=>?_) (round _ a w (uh h))
 cases e with
 |normal=>
  obtain⟨k',hlt,hj⟩:=hq
  exact⟨⟨k',hj⟩,Nat.lt_of_le_of_lt (ya hj) hlt⟩
 |_=>exact hq
end
end Go.Sx
set_option maxRecDepth 100000
namespace Go.Proofs
open Go Go.Sx
open aT
section
variable {es:Array MapEntry} {ck b:Nat} {m:List (Nd×Nat)}
theorem CJ(B:Hp):Fc Tryz.prog 251 #[.map (some b)] B
  (fun v H=>∃bm,v=.func (.func 275) #[] #[ptr bm]∧H=(bm,.cells #[.map (some b)] 266 (0,0))::B):=by
 refine aX fun g=>zJ ?_
 intro b1 _
 exact bN.here ⟨b1,rfl,rfl⟩
noncomputable abbrev VF:Func:=Tryz.f275
def YO(g:Gh)(bi b:Nat)(l:Nat)(es:Array MapEntry)(ck:Nat)(m:List (Nd×Nat))(G:List Nat→Hp→Prop)(B:Hp)(k:Nat)(a:Act)(w:World):Prop:=
 ∃(fr:Fr) (ss:List Nat) (A:Hp) (seen:Array Nat),xj [] 15 a fr∧fr 0=.func (.yield l) #[] #[]∧fr 6=ptr bi∧G ss A∧Own g (A++((bi,.mapIter (some b) ck seen ck)::B)) w∧
  (ss++(cS es m seen).map Prod.snd).Perm (m.map Prod.snd)∧k=(cS es m seen).length
theorem xE{bm:Nat}{fz:Nat×Nat}(h:aR nK OB es ck m):Cv Tryz.prog 275 #[ptr bm] [(bm,.cells #[.map (some b)] 266 fz),(b,.map es ck)] u32 m.length
  (fun ss=>ss.Perm (m.map Prod.snd)):=by
 intro g l G hY A W h0 hW
 have hF:∀f,Fence.wide.fn f:=fun _=>trivial
 refine callsIn_of_wp Tryz.func275 rfl trivial ?_
 have ha:=rG (m:=15) (args:=[.func (.yield l) #[] #[],ptr bm]) (by simp)
 refine wpIn_seq ?_
 refine wpIn_region_lit ?_
 obtain⟨B,hB⟩:∃B,B=[(bm,Obj.cells #[.map (some b)] 266 fz),(b,.map es ck)]:=⟨_,rfl⟩
 rw[←hB]at hW
 have xw:(bm,Obj.cells #[.map (some b)] 266 fz)∈A++B:=by rw[hB];exact List.mem_append_right _ (.head _)
 have uo:(b,Obj.map es ck)∈A++B:=by rw[hB];exact List.mem_append_right _ (.tail _ (.head _))
 have ZN:∀{X:Hp},(b,Obj.map es ck)∈X++B:=by intro X;rw[hB];exact List.mem_append_right _ (.tail _ (.head _))
 rw[←hB]
 have e0:xm Tryz.prog g (fk VF 0 0) (ev (gB [.func (.yield l) #[] #[],ptr bm] 0)) (A++B) (fun x=>x=.map (some b))=Ld (A++B) (ptr bm) (fun x=>x=.map (some b)):=by kernel_rfl
 refine gu (g:=g) (n:=15) (v0:=.map (some b)) hF rfl (by intro c h;cases h) rfl ha hW (e0.mpr (Ld.mk xw rfl rfl)) fun a1 B2=>?_
 refine BB (g:=g) (n:=15) (s:=Instr.range 266 (.map (some b))) (K:=fun v H=>∃bi,v=ptr bi∧H=(bi,.mapIter (some b) ck #[] ck)::(A++B)) hF rfl (by intro c h;cases h) rfl B2 rfl
  (Q5.run (.inr ⟨b,es,ck,rfl,uo,fun bi _=>⟨bi,rfl,rfl⟩⟩) hW (t:=266) (kt:=161) (e:=77) (by kernel_rfl)) fun v H' w1 a2 hv gC yE=>?_
 obtain⟨bi,rfl,rfl⟩:=hv
 refine wpListIn_nil ?_
 have kR:Own g (A++((bi,.mapIter (some b) ck #[] ck)::B)) w1:=gC.perm (List.perm_middle).symm
 clear gC B2 ha hW xw uo
 refine wpIn_block ?_
 refine xB (YO g bi b l es ck m G B) (k:=(cS es m #[]).length) ⟨_,[],A,#[],yE,rfl,rfl,h0,kR,by rw[p5 h];exact .refl _,rfl⟩ ?_
 clear yE kR h0 e0 A
 rintro k a w ⟨fr,ss,A,seen,ha,f0,f6,hG,hw,cD,hk⟩
 refine wpIn_seq ?_
 refine wpIn_region_lit ?_
 have e6:ev fr (.tmp 6)=ptr bi:=f6
 refine BB (g:=g) (n:=15) (s:=Instr.next (ptr bi) false 0)
  (K:=fun v H=>(cS es m seen=[]∧v=.tuple #[.bool false]∧H=A++((bi,.mapIter (some b) ck seen ck)::B))∨
   ∃(e:MapEntry) (x:Nd×Nat) (seen':Array Nat),v=.tuple #[.bool true,e.key,e.val]∧e.val=u32 x.2∧(cS es m seen).Perm (x::cS es m seen')∧seen'.back?=some e.born∧es.find? (·.born==e.born)=some e∧
    H=A++((bi,.mapIter (some b) ck seen' ck)::B)) hF rfl (by intro c h;cases h) rfl ha ?_
  (Ov.run (h.next (bi:=bi) (bm:=b) (seen:=seen) (H:=A++((bi,.mapIter (some b) ck seen ck)::B)) (List.mem_append_right _ (.tail _ (by rw[hB];exact .tail _ (.head _)))) (List.mem_append_right _ (.head _))
   (fun e x seen' he hk hv hp hb hf=>⟨_,(cA.head _).bU A,.inr ⟨e,x,seen',rfl,hv,hp,hb,hf,rfl⟩⟩) (fun hu=>.inl ⟨hu,rfl,rfl⟩)) hw) fun v H' w1 a1 hv gC B2=>?_
 ·rw[e6.symm];rfl
 rcases hv with⟨hu,rfl,rfl⟩|⟨e,x,seen',rfl,RJ,hp,Om,M9,rfl⟩
 ·refine gu (g:=g) (n:=15) (v0:=.bool false) hF rfl (by intro c h;cases h) rfl B2 gC ⟨_,_,rfl,rfl,rfl⟩ fun a2 yE=>?_
  refine wpListIn_nil ?_
  refine wpIn_seq ?_
  refine wpIn_cond_false (by rw[yE.eval];rfl) ?_
  refine wpIn_exit ?_
  simp only[Exit.then,Exit.inBlock,if_true,bodyPost]
  refine⟨yE.defers,_,results_none rfl _ _ _,⟨_,rfl⟩,ss,A,?_,hG,(gC.perm List.perm_middle).tail⟩
  rw[hu,List.map_nil,List.append_nil]at cD
  exact cD
 ·refine gu (g:=g) (n:=15) (v0:=.bool true) hF rfl (by intro c h;cases h) rfl B2 gC ⟨_,_,rfl,rfl,rfl⟩ fun a2 yE=>?_
  refine wpListIn_nil ?_
  refine wpIn_seq ?_
  refine wpIn_cond_true (by rw[yE.eval];rfl) ?_
  refine wpIn_skip ?_
  refine wpIn_block ?_
  refine wpIn_seq ?_
  refine wpIn_region_lit ?_
  refine BB (g:=g) (n:=15) (s:=Instr.entry (ptr bi)) (K:=fun v H=>v=.tuple #[e.key,e.val]∧H=A++((bi,.mapIter (some b) ck seen' ck)::B)) hF rfl (by intro c h;cases h) rfl yE ?_ ?_ fun v H' w2 a3 hv kR DL=>?_
  ·rw[e6.symm];rfl
  ·obtain⟨v,hr,hv⟩:=Iq.run (P:=Tryz.prog) (k:=fun v=>v=.tuple #[e.key,e.val]) ⟨bi,b,ck,seen',e.born,ck,es,e,rfl,List.mem_append_right _ (.head _),Om,List.mem_append_right _ (.tail _ (by rw[hB];exact .tail _ (.head _))),M9,rfl⟩ gC
   exact⟨v,w1,_,hr,gC,hv,rfl⟩
  obtain⟨rfl,rfl⟩:=hv
  refine gu (g:=g) (n:=15) (v0:=u32 x.2) hF rfl (by intro c h;cases h) rfl DL kR ⟨_,_,rfl,rfl,RJ⟩ fun a4 Kg=>?_
  refine gu (g:=g) (n:=15) (v0:=u32 x.2) hF rfl (by intro c h;cases h) rfl Kg kR (show u32 x.2=u32 x.2 from rfl) fun a5 Kf=>?_
  refine wpListIn_nil ?_
  refine wpIn_seq ?_
  refine wpIn_region_lit ?_
  refine gu (g:=g) (n:=15) (v0:=.func (.yield l) #[] #[]) hF rfl (by intro c h;cases h) rfl Kf kR f0 fun a6 Ke=>?_
  refine gu (g:=g) (n:=15) (v0:=u32 x.2) hF rfl (by intro c h;cases h) rfl Ke kR (show u32 x.2=u32 x.2 from rfl) fun a7 Oo=>?_
  have hlen:(cS es m seen).length=(cS es m seen').length+1:=by rw[hp.length_eq];rfl
  have hlt:ss.length<m.length:=by
   have:=cD.length_eq
   simp only[List.length_append,List.length_map]at this⊢
   omega
  obtain⟨fn,tmps,assign,body,hy,hR⟩:=hY _ x.2 A _ w2 hG hlt kR
  refine wpListIn_plain rfl fun K hK=>⟨fun _ _=>trivial,?_⟩
  rw[Oper.semAt_eq _ _ _ (by intro c h;cases h),Oo.eval]
  have hex:∀F7:Fr,F7=bM (bM (bM (bM (bM (bM (bM fr (some 7) (.tuple #[.bool true,e.key,e.val])) (some 8) (.bool true)) (some 9) (.tuple #[e.key,e.val])) (some 10) (u32 x.2)) (some 4) (u32 x.2)) (some 11) (.func (.yield l) #[] #[])) (some 12) (u32 x.2)→(execOp (ev F7) (fk VF 3 2)).run Tryz.prog w2=.ok (.round l fn tmps assign body) w2:=fun F7 VH=>by
   have v11:ev F7 (.tmp 11)=.func (.yield l) #[] #[]:=by rw[VH];rfl
   have Wv:ev F7 (.tmp 12)=u32 x.2:=by rw[VH];rfl
   have Yz:execOp (ev F7) (fk VF 3 2)=(do let d ←resolve (ev F7) {callee:=.value (.tmp 11),args:=#[.tmp 12],argTypes:=#[77]} 4;invoke d.target d.args):=rfl
   rw[Yz]
   simp[resolve,Deferred.ofValue,v11,Wv,invoke,go_sem,hy]
  refine(congrArg (Oper.uponIn Fence.wide 0 Tryz.prog (fk VF 3 2) a7 K _) (hex _ rfl)).mpr ⟨fun h=>(by cases h),hR.mono ?_⟩
  rintro e' w3 ⟨rfl,A',Yi,Ru⟩
  refine hK _ _ ?_
  have XW:=Oo.put (d:=some 13) rfl (.bool true)
  refine gu (g:=g) (n:=15) (v0:=.bool false) hF rfl (by intro c h;cases h) rfl XW Ru ⟨_,rfl,rfl⟩ fun a9 Vt=>?_
  refine wpListIn_nil ?_
  refine wpIn_cond_false (by rw[Vt.eval];rfl) ?_
  refine wpIn_skip ?_
  refine⟨(cS es m seen').length,by omega,_,ss++[x.2],A',seen',Vt,f0,f6,Yi,Ru,?_,rfl⟩
  rw[List.append_assoc]
  exact((hp.map Prod.snd).append_left ss).symm.trans cD
end
end Go.Proofs
set_option maxRecDepth 100000
namespace Go.Proofs
open Go Go.Sx
open aT
section
noncomputable abbrev AF:Func:=Tryz.f284
variable {f:FuncId} {cap:Array Value} {B:Hp} {N:Nat} {S:List Nat→Prop}
noncomputable def cG:Code:=match AF.body with|some (.seq _ (.seq (.seq _ (.block _ (.rangeFunc _ _ c _))) _))=>c|_=>.skip
noncomputable def er:Code:=match AF.body with|some (.seq _ (.seq (.seq _ (.block _ (.rangeFunc _ _ _ c))) _))=>c|_=>.skip
noncomputable def KJ(i:Nat):Oper:=match er with| .block _ (.region _ ops _)=>(match ops[i]? with|some o=>o|none=>default)|_=>default
def iH(fn:FuncId)(tmps:Array Value)(assign body:Code)(D:Nat):Loop:={state:=.ready,pending:=none,fn,tmps,params:=#[7],assign,body,defers:=D}
def UE(l D bs:Nat)(fn:FuncId)(tmps:Array Value)(assign body:Code)(ss:List Nat)(A:Hp):Prop:=
 ∃v C',A=(l,.loop (iH fn tmps assign body D))::(D,.deferred (some []))::(bs,.cells #[v] 27 (0,0))::C'∧aK 77 .u32 v (iw ss) C'
theorem H7{g:Gh}{l D bs:Nat}{fn:FuncId}{tmps:Array Value}{fr:Fr}(hsz:tmps.size=13)(fy:∀s,tmps.getD s undef=fr s)(f2:fr 2=ptr bs){ss:List Nat}{x:Nat}{A X:Hp}{W:World}
 (hG:UE l D bs fn tmps cG er ss A)(hl:ss.length<1099511627776)(hW:Own g (A++X) W):
  YieldAt Fence.wide 0 Tryz.prog l #[u32 x] W (fun e W'=>e=.returned (.bool true)∧∃A',UE l D bs fn tmps cG er (ss++[x]) A'∧Own g (A'++X) W'):=by
 obtain⟨v,C',rfl,ho⟩:=hG
 have hF:∀f,(Fence.wide.inRound l).fn f:=fun _=>trivial
 have hL:W.heap[l]? =some (.loop (iH fn tmps cG er D)):=hW.has _ (.head _)
 refine⟨fn,_,cG,er,run_yield hL rfl,roundIn_of_wpIn trivial ?_⟩
 have ha:xj [] 13 {tmps:=tmps.setIfInBounds 7 (u32 x),defers:=[]} (bM fr (some 7) (u32 x)):=(xj.put (a:={tmps:=tmps,defers:=[]}) (d:=some 7) ⟨rfl,hsz,fy⟩ rfl (u32 x))
 have ha:xj [] 13 {tmps:=(#[7].zip #[u32 x]).foldl (fun tmps (t,a)=>tmps.setIfInBounds t a) tmps,defers:=[]} (bM fr (some 7) (u32 x)):=by simpa using ha
 change Code.wpIn _ 0 Tryz.prog (.region _ #[_] false) _ _ _
 refine wpIn_region_lit ?_
 refine gu (g:=g) (n:=13) (v0:=u32 x) hF rfl (by intro c h;cases h) rfl ha hW rfl fun a1 B2=>?_
 refine wpListIn_nil ?_
 have XV:=run_beginRound (P:=Tryz.prog) hL rfl
 refine⟨_,XV,?_⟩
 have LQ:=hW.putObj (o':=.loop {iH fn tmps cG er D with state:=.busy}) (.head _)
 change Code.wpIn _ 0 Tryz.prog (.block _ (.region _ #[_,_,_,_,_] false)) _ _ _
 refine wpIn_block ?_
 refine wpIn_region_lit ?_
 obtain⟨H1,Uf⟩:∃H1,H1=(l,Obj.loop {iH fn tmps cG er D with state:=.busy})::(((D,.deferred (some []))::(bs,.cells #[v] 27 (0,0))::C')++X):=⟨_,rfl⟩
 replace LQ:Own g H1 (W.putObj l (.loop {iH fn tmps cG er D with state:=.busy})):=by rw[Uf];exact LQ
 have e0:xm Tryz.prog g (KJ 0) (ev (bM (bM fr (some 7) (u32 x)) (some 5) (u32 x))) H1 (fun z=>z=v)=Ld H1 (fr 2) (fun z=>z=v):=by kernel_rfl
 refine gu (g:=g) (n:=13) (v0:=v) hF rfl (by intro c h;cases h) rfl B2 LQ (e0.mpr (by rw[f2];exact Ld.mk (by rw[Uf];exact .tail _ (.tail _ (.head _))) rfl rfl)) fun a2 yE=>?_
 refine gu (g:=g) (n:=13) (v0:=u32 x) hF rfl (by intro c h;cases h) rfl yE LQ rfl fun a3 DL=>?_
 have eb:∀K:Value→Hp→Prop,an Tryz.prog 27 1 [(0,.int .u32 (x:Int))] H1 K=Iv Tryz.prog g (KJ 2) (ev (bM (bM (bM (bM fr (some 7) (u32 x)) (some 5) (u32 x)) (some 8) v) (some 9) (u32 x))) H1 K (fun _ _=>False):=fun K=>by kernel_rfl
 refine FG (g:=g) (n:=13) (s:=_) (K:=fun v H=>∃b,v=.slice (some ⟨b,0,none⟩) 1 1∧H=(b,.cells (aC .u32 [(x:Int)]) 77 (0,0))::H1) hF rfl (by intro c h;cases h) rfl DL LQ rfl
  ((eb _).mp (an.int (by kernel_rfl) (by kernel_rfl) (by kernel_rfl) fun b=>⟨b,rfl,rfl⟩)) fun v1 H2 w2 a4 hv Qn Kg=>?_
 obtain⟨b,rfl,rfl⟩:=hv
 have hn:(iw ss).length=ss.length:=ah ss
 obtain⟨H2,VG⟩:∃H2,H2=(b,Obj.cells (aC .u32 [(x:Int)]) 77 (0,0))::H1:=⟨_,rfl⟩
 rw[←VG]at Qn
 refine FG (g:=g) (n:=13) (s:=_) (K:=fun v' H=>∃C2,aK 77 .u32 v' (iw (ss++[x])) C2∧H=(b,Obj.cells (aC .u32 [(x:Int)]) 77 (0,0))::(l,Obj.loop {iH fn tmps cG er D with state:=.busy})::(D,.deferred (some []))::(bs,.cells #[v] 27 (0,0))::(C2++X))
  hF rfl (by intro c h;cases h) rfl Kg Qn (by simp only[execOp,resolve,invoke,builtin];simp[bind,Sem.bind];rfl) ?_ fun v2 H3 w3 a5 hv Kh Kf=>?_
 ·have e1:∀K:Value→Hp→Prop,App Tryz.prog 77 1 4 (.int .u32 0) H2 v (.slice (some ⟨b,0,none⟩) 1 1) K=
   Iv Tryz.prog g (KJ 3) (ev (bM (bM (bM (bM (bM fr (some 7) (u32 x)) (some 5) (u32 x)) (some 8) v) (some 9) (u32 x)) (some 10) (.slice (some ⟨b,0,none⟩) 1 1))) H2 K (fun _ _=>False):=fun K=>by kernel_rfl
  refine(e1 _).mp ?_
  rw[VG,Uf]
  refine ho.nO (.cons (.cons (.cons (.cons .left)))) (by exact .head _) (by omega) (by omega) fun v' C2 lg=>⟨C2,?_,rfl⟩
  rw[bY];exact lg
 obtain⟨C2,lg,rfl⟩:=hv
 have es:∀(H:Hp) (K:Value→Hp→Prop),St 1 H (fr 2) v2 (fun H'=>K undef H')=Iv Tryz.prog g (KJ 4) (ev (bM (bM (bM (bM (bM (bM fr (some 7) (u32 x)) (some 5) (u32 x)) (some 8) v) (some 9) (u32 x)) (some 10) (.slice (some ⟨b,0,none⟩) 1 1)) (some 11) v2)) H K (fun _ _=>False):=fun H K=>by kernel_rfl
 refine OM (g:=g) (n:=13) (s:=_) (K:=fun _ H=>H=(b,Obj.cells (aC .u32 [(x:Int)]) 77 (0,0))::(l,Obj.loop {iH fn tmps cG er D with state:=.busy})::(D,.deferred (some []))::(bs,.cells #[v2] 27 (0,0))::(C2++X))
  hF rfl (by intro c h;cases h) rfl Kf Kh rfl ((es _ _).mp ?_) fun H4 w4 a6 hv RP Ke=>?_
 ·rw[f2]
  exact St.one (.tail (.tail (.tail (.head _)))) lg.one (by simp) rfl rfl
 subst hv
 refine wpListIn_nil ?_
 simp only[Exit.inBlock,roundPost]
 refine⟨_,_,run_endRound none (RP.has _ (.tail _ (.head _))),rfl,_,⟨v2,C2,rfl,lg⟩,?_⟩
 exact(RP.putObj (.tail (.head _))).tail
theorem D8(hg:Cv Tryz.prog f cap B u32 N S)(hc:ct Tryz.prog f=true)(hN:N≤1099511627776):
  Fc Tryz.prog 284 #[.slice none 0 0,.func (.func f) #[] cap] B (fun v H=>∃ss C',S ss∧H=C'++B∧aK 77 .u32 v (iw ss) C'):=by
 intro g w hw
 rw[←callsIn_wide (n:=0)]
 have hF:∀f,Fence.wide.fn f:=fun _=>trivial
 refine callsIn_of_wp_marks Tryz.func284 rfl trivial ?_
 have ha:=rG (m:=13) (args:=[.slice none 0 0,.func (.func f) #[] cap]) (by simp)
 refine wpIn_seq ?_
 refine wpIn_region_lit ?_
 refine FG (g:=g) (n:=13) (s:=_) (K:=fun v H=>∃bs,v=ptr bs∧H=(bs,.cells #[.slice none 0 0] 27 (0,0))::B) hF rfl (by intro c h;cases h) rfl ha hw rfl (fun bs _=>⟨bs,rfl,rfl⟩) fun v H1 w1 a1 hv gC B2=>?_
 obtain⟨bs,rfl,rfl⟩:=hv
 refine gu (g:=g) (n:=13) (v0:=.slice none 0 0) hF rfl (by intro c h;cases h) rfl B2 gC rfl fun a2 yE=>?_
 refine wpListIn_nil ?_
 refine wpIn_seq ?_
 refine wpIn_seq ?_
 refine wpIn_region_lit ?_
 refine gu (g:=g) (n:=13) (v0:=.func (.func f) #[] cap) hF rfl (by intro c h;cases h) rfl yE gC rfl fun a3 DL=>?_
 refine wpListIn_nil ?_
 refine wpIn_block ?_
 refine wpIn_rangeFunc fun fn hfn=>?_
 have xu:=(gC.alloc (.deferred (some []))).alloc (.loop (iH fn a3.tmps cG er w1.heap.size))
 have f6:a3.tmps[6]?.getD undef=.func (.func f) #[] cap:=by have:=DL.get 6;rw[Array.getD_eq_getD_getElem?]at this;exact this
 obtain⟨W1,LQ⟩:∃W1,W1=(w1.alloc (.deferred (some []))).alloc (.loop (iH fn a3.tmps cG er w1.heap.size)):=⟨_,rfl⟩
 rw[←LQ]at xu
 refine⟨w1.heap.size+1,[{target:=.collected w1.heap.size,args:=#[]}],W1,{target:=.fn (.func f) cap,args:=#[.func (.yield (w1.heap.size+1)) #[] #[]]},W1,f,#[.func (.yield (w1.heap.size+1)) #[] #[]]++cap,W1,?_,?_,fun _ _=>trivial,?_,fun h=>(by cases h),?_⟩
 ·rw[LQ];exact run_enterLoop_outer fn a3.tmps #[7] _ _
 ·simp[resolve,Deferred.ofValue,f6,go_sem]
 ·simp[invoke,go_sem]
  exact ed hc _ _
 have hsz:(w1.alloc (.deferred (some []))).heap.size=w1.heap.size+1:=by simp
 rw[hsz]at xu
 refine CallsIn.mono (hg g (w1.heap.size+1) (UE (w1.heap.size+1) w1.heap.size bs fn a3.tmps cG er) (fun ss x A X W hG hl hW=>H7 DL.size DL.get rfl hG (by omega) hW) [_,_,_] W1 ⟨_,[],rfl,aK.nil⟩ xu) ?_
 rintro e W2 ⟨⟨v0,rfl⟩,ss,A',hS,⟨v,C',rfl,ho⟩,Qn⟩
 refine⟨none,_,run_endLoop (Qn.has _ (.head _)) (by simp[iH]),?_⟩
 have Kh:=Qn.putObj (o':=.loop {iH fn a3.tmps cG er w1.heap.size with state:=.exhausted}) (.head _)
 simp only[Exit.then,Exit.inBlock]
 have Kg:xj [{target:=.collected w1.heap.size,args:=#[]}] 13 {a3 with defers:=[{target:=.collected w1.heap.size,args:=#[]}]++a3.defers} (bM (bM (bM (gB [.slice none 0 0,.func (.func f) #[] cap] 0) (some 2) (ptr bs)) (some 4) (.slice none 0 0)) (some 6) (.func (.func f) #[] cap)):=
  ⟨by rw[DL.defers];rfl,DL.size,DL.get⟩
 refine wpIn_seq ?_
 refine wpIn_region_lit ?_
 obtain⟨H3,Ue⟩:∃H3,H3=(w1.heap.size+1,Obj.loop {iH fn a3.tmps cG er w1.heap.size with state:=.exhausted})::(((w1.heap.size,.deferred (some []))::(bs,.cells #[v] 27 (0,0))::C')++B):=⟨_,rfl⟩
 replace Kh:Own g H3 (W2.putObj (w1.heap.size+1) (.loop {iH fn a3.tmps cG er w1.heap.size with state:=.exhausted})):=by rw[Ue];exact Kh
 have e0:xm Tryz.prog g (fk AF 4 0) (ev (bM (bM (bM (gB [.slice none 0 0,.func (.func f) #[] cap] 0) (some 2) (ptr bs)) (some 4) (.slice none 0 0)) (some 6) (.func (.func f) #[] cap))) H3 (fun z=>z=v)=Ld H3 (ptr bs) (fun z=>z=v):=by kernel_rfl
 refine gu (g:=g) (n:=13) (v0:=v) hF rfl (by intro c h;cases h) rfl Kg Kh (e0.mpr (Ld.mk (by rw[Ue];exact .tail _ (.tail _ (.head _))) rfl rfl)) fun a5 Kf=>?_
 refine gu (g:=g) (n:=13) (v0:=v) hF rfl (by intro c h;cases h) rfl Kf Kh rfl fun a6 Ke=>?_
 refine wpListIn_nil ?_
 refine wpIn_ret ?_
 simp only[Exit.then,bodyPostM]
 rw[Ke.defers]
 rw[Ue]at Kh
 refine⟨by simp,.inl ⟨w1.heap.size,_,rfl,run_takeDeferred (Kh.has _ (.tail _ (.head _))),?_⟩⟩
 have RP:=Kh.putObj (o':=.deferred none) (.tail (.head _))
 refine⟨_,results_tmp rfl _ _ _,C'++B,RP.tail.tail.tail,v,C'++B,?_,.refl _,ss,C',hS,rfl,ho⟩
 have:=Ke.get 4
 rw[this]
 rfl
end
section
variable {f:FuncId} {cap:Array Value} {B:Hp} {N:Nat} {S:List Nat→Prop}
theorem yU(hg:Cv Tryz.prog f cap B u32 N S)(hc:ct Tryz.prog f=true)(hN:N≤1099511627776):
  Fc Tryz.prog 273 #[.func (.func f) #[] cap] B (fun v H=>∃ss C',S ss∧H=C'++B∧aK 77 .u32 v (iw ss) C'):=by
 refine aX fun g=>zy ?_
 refine ae.fq (D8 hg hc hN) ?_
 rintro v H h
 exact bN.here h
theorem Jl{l':List Int}{ss:List Nat}(h:l'.Perm (iw ss)):∃l:List Nat,l.Perm ss∧l'=iw l:=by
 refine⟨l'.map Int.toNat,?_,?_⟩
 ·have:=h.map Int.toNat
  rw[iw,List.map_map]at this
  have e:(Int.toNat∘(Nat.cast:Nat→Int))=id:=by funext x;simp
  rw[e,List.map_id]at this
  exact this
 ·unfold iw
  rw[List.map_map]
  have:∀x∈l',((Nat.cast:Nat→Int)∘Int.toNat) x=x:=fun x hx=>by
   obtain⟨n,_,rfl⟩:=List.mem_map.1 (h.mem_iff.1 hx)
   simp
  rw[List.map_congr_left this,List.map_id']
theorem CV(hg:Cv Tryz.prog f cap B u32 N S)(hS:∀ss,S ss→ss.length≤N)(hc:ct Tryz.prog f=true)(hN:N≤1099511627776):
  Fc Tryz.prog 250 #[.func (.func f) #[] cap] B (fun v H=>∃ss l C',S ss∧l.Perm ss∧H=C'++B∧aK 77 .u32 v (iw l) C'):=by
 refine aX fun g=>zK ?_
 refine ae.fq (yU hg hc hN) ?_
 rintro v H ⟨ss,C',hs,rfl,ho⟩
 have hlen:=hS ss hs
 refine ae.fn (.left (A:=B)) (I8 ho (by rw[ah];omega)) ?_
 rintro w C2 ⟨rfl,l',hp,br⟩
 obtain⟨l,hl,rfl⟩:=Jl hp
 exact bN.here ⟨ss,l,C2,hs,hl,rfl,br⟩
end
theorem Je{pt n v:Nat}{T:Nd→Option Nat}{C:Hp}(h:l9 pt n T C)(hv:v<n)(hinj:∀d d' r,T d=some r→T d'=some r→d=d')(hb:∀d r,T d=some r→r<1048576):
  Fc Tryz.prog 203 #[ptr pt,.int .i64 (v:Int)] C (fun r H=>∃w l N,r=.tuple #[w,.int .i64 0]∧H=N++C∧aK 77 .u32 w (iw l) N∧l.Nodup∧∀r,r∈l↔∃d,T d=some r∧d.v=v):=by
 have h0:=h
 obtain⟨vs,Cs,ms,rfl,hs,ho⟩:=h
 obtain⟨m,hm⟩:∃m,ms[v]? =some m:=⟨_,List.getElem?_eq_getElem (by rw[ho.len];exact hv)⟩
 have he:=ho.pC v m hm
 have hT:∀d:Nd,d.v=v→T d=dm m.l d:=fun d hd=>by rw[ho.T,hd,hm];rfl
 have hmem:∀d r,(d,r)∈m.l↔T d=some r∧d.v=v:=fun d r=>by
  constructor
  ·intro hx
   have hd:=ho.var v m hm _ hx
   exact⟨by rw[hT d hd];exact(iu he.nd).2 hx,hd⟩
  ·rintro⟨h1,h2⟩
   rw[hT d h2]at h1
   exact(iu he.nd).1 h1
 have fT:(m.l.map Prod.snd).Nodup:=by
  refine List.pairwise_map.2 ((List.pairwise_map.1 he.nd).imp_of_mem fun{a b} ha hb' hne e=>hne ?_)
  have h1:=((hmem a.1 a.2).1 ha).1
  have h2:=((hmem b.1 b.2).1 hb').1
  rw[←e]at h2
  exact hinj _ _ _ h1 h2
 have hlen:m.l.length≤1048576:=by
  have:=bX (l':=List.range 1048576) fT fun x hx=>by
   obtain⟨y,hy,rfl⟩:=List.mem_map.1 hx
   exact List.mem_range.2 (hb _ _ ((hmem y.1 y.2).1 hy).1)
  simpa using this
 refine aX fun g=>Ao ?_
 refine ae.eq (kE h0 hv) ?_
 refine aa.gA (Br.F ?_)
 refine Nil.ptr ?_
 refine ag.mk (Ld.mk zM rfl ?_)
 refine hs.MC (x:=.map (some m.b)) (by rw[List.getElem?_map,hm];rfl) (fun _ h=>by exact .tail _ (List.mem_append_left _ h)) ?_
 refine ae.fq (CJ (b:=m.b) _) ?_
 rintro w H ⟨bm,rfl,rfl⟩
 obtain⟨X,Y,XY⟩:=List.append_of_mem (pG hm)
 have cD:((bm,Obj.cells #[.map (some m.b)] 266 (0,0))::(pt,.cells #[vs] 265 (0,0))::(Cs++Dl ms)).Perm
   ([(bm,.cells #[.map (some m.b)] 266 (0,0)),(m.b,.map m.es m.ck)]++((pt,.cells #[vs] 265 (0,0))::(Cs++(X++Y)))):=by
  rw[XY]
  refine .cons _ ?_
  show((pt,_)::(Cs++(X++(m.b,_)::Y))).Perm ((m.b,_)::(pt,_)::(Cs++(X++Y)))
  refine .trans (.cons _ ?_) (.swap _ _ _)
  rw[←List.append_assoc,←List.append_assoc]
  exact List.perm_middle
 refine ae.pre (.perm cD) ?_
 refine ae.fq (CV (xE he) (fun ss SU=>by rw[SU.length_eq,List.length_map];exact Nat.le_refl _) (by kernel_rfl) (by omega)) ?_
 rintro w H ⟨ss,l,C',SU,hl,rfl,hown⟩
 have uQ:l.Perm (m.l.map Prod.snd):=hl.trans SU
 refine bN.mk (jD:=C'++((pt,.cells #[vs] 265 (0,0))::(Cs++Dl ms))) ?_ ⟨w,l,C',rfl,rfl,hown,uQ.nodup_iff.2 fT,fun r=>?_⟩
 ·rw[List.append_assoc]
  refine aJ.cV ?_ C'
  exact(aJ.perm cD.symm).trans .tail
 ·rw[uQ.mem_iff,List.mem_map]
  constructor
  ·rintro⟨y,hy,rfl⟩;exact⟨y.1,(hmem y.1 y.2).1 hy⟩
  ·rintro⟨d,hd⟩;exact⟨(d,r),(hmem d r).2 hd,rfl⟩
end Go.Proofs
namespace Go.Sx
open Go
section
variable {P:Program} {g:Gh} {H:Hp} {κ β:Type} [DecidableEq κ] {ke:κ→Value} {vr:Value→β→Prop} {es:Array MapEntry} {ck b:Nat} {m:List (κ×β)} {K:Value→Hp→Prop} {KP:List PanicEntry→Hp→Prop}
omit [DecidableEq κ] in
theorem aR.sameKey(h:aR ke vr es ck m){i:Nat}{k:κ}{x:β}(hi:m[i]? =some (k,x)):es.modify i (fun e=>{e with key:=ke k})=es:=by
 apply Array.ext_getElem?
 intro j
 rw[Array.getElem?_modify]
 split
 ·rename_i e;subst e
  cases he:es[i]? with
  |none=>rfl
  |some e0=>rw[Option.map_some,←(h.key i e0 _ he hi).1]
 ·rfl
theorem aR.KA{o:Oper}{ρ:Operand→Value}{t kt e:TypeId}{kd:TypeDesc}{mo ko:Operand}{z:Value}{k:κ}{y0:β}(hk:∀a b,Bk P kt (ke a) (ke b) (decide (a=b)))(hc:∀a,lB P kt (ke a))(hb:∀a,Instr.sameBits 10000 (ke a) (ke a)=true)
 (ho:o.op=.mapEntry t mo ko)(hm':ρ mo=.map (some b))(hk':ρ ko=ke k)(ht:P.underlying t=some (.map kt e))(BX:P.underlying kt=some kd)(Ql:cf kd=true)(hzd:dM P e=some z)(W6:vr z y0)
 (h:aR ke vr es ck m){c:Obj→Hp}(G8:∀o o',cA b o o' (c o) (c o'))
 (h1:∀es' c8 v st,aR ke vr es' c8 (if k∈m.map Prod.fst then m else m++[(k,y0)])→(∃e∈es'.toList,e.born=st)→K (.tuple #[v,.int .i64 (st:Int)]) (c (.map es' c8))):kA P g o ρ (c (.map es ck)) K KP:=by
 have IC:(b,Obj.map es ck)∈c (.map es ck):=(G8 _ (.map es ck)).mem
 obtain⟨i,hi,si⟩:=cB hzd
 refine kA.ofValue (s:=Instr.mapEntry t (.map (some b)) (ke k)) (by simp only[execOp,ho,hm',hk']) fun w hw=>?_
 have dZ:=fun b=>hc k b w
 rcases h.wC hk k with⟨j,x,e0,g1,g2,g3,g4⟩|⟨g1,g2⟩
 ·have gQ:=e7 (P:=P) BX Ql g4 w
  have hj:=(Array.getElem?_eq_some_iff.1 g1).1
  have hkey:es[j].key=ke k:=(h.key j _ _ (Array.getElem?_eq_getElem hj) g2).1
  have hmem:k∈m.map Prod.fst:=List.mem_map.2 ⟨_,List.mem_of_getElem? g2,rfl⟩
  obtain⟨w',hs,hown⟩:=bB (P:=P) hw (es.modify j fun e=>{e with key:=ke k}) ck (by rw[h.sameKey g2];exact G8 _ (.map es ck))
  refine⟨.tuple #[e0.val,.int .i64 (es[j].born:Int)],w',_,?_,hown,h1 es ck e0.val es[j].born (by rw[if_pos hmem];exact h) ⟨es[j],by simp,rfl⟩⟩
  simp[Instr.mapEntry,run_underlying ht,aO hw IC,dZ,gQ,hj,Instr.keyThatStays,hkey,hb k,hs,goInt]
 ·have gQ:=e7 (P:=P) BX Ql g2 w
  obtain⟨w',hs,hown⟩:=bB (P:=P) hw (es.push {key:=ke k,val:=z,born:=ck}) (ck+1) (G8 _ _)
  have uo:=h.more (k:=k) g1 W6
  have e2:e8 m k y0=m++[(k,y0)]:=by unfold e8;rw[if_neg g1]
  rw[e2]at uo
  refine⟨.tuple #[z,.int .i64 (ck:Int)],w',_,?_,hown,h1 _ _ z ck (by rw[if_neg g1];exact uo) ⟨_,by rw[Array.toList_push];exact List.mem_append_right _ (.head _),rfl⟩⟩
  simp[Instr.mapEntry,run_underlying ht,aO hw IC,dZ,gQ,dO hi si,hs,goInt]
omit [DecidableEq κ] in
theorem aR.I6{o:Oper}{ρ:Operand→Value}{t:TypeId}{mo so xo:Operand}{st:Nat}(ho:o.op=.entryStore t mo so xo)(hm':ρ mo=.map (some b))(hs':ρ so=.int .i64 (st:Int))
 (h:aR ke vr es ck m)(hst:∃e∈es.toList,e.born=st)(hv:∀x,vr (ρ xo) x){c:Obj→Hp}(G8:∀o o',cA b o o' (c o) (c o'))
 (h1:∀es',aR ke vr es' ck m→K undef (c (.map es' ck))):kA P g o ρ (c (.map es ck)) K KP:=by
 have IC:(b,Obj.map es ck)∈c (.map es ck):=(G8 _ (.map es ck)).mem
 refine kA.n9 (s:=Instr.entryStore t (.map (some b)) (.int .i64 (st:Int)) (ρ xo)) (by simp only[execOp,ho,hm',hs']) fun w hw=>?_
 obtain⟨i,hi⟩:∃i,es.findIdx? (fun e=>(e.born:Int)==(st:Int))=some i:=by
  obtain⟨e,he,rfl⟩:=hst
  rw[←Option.isSome_iff_exists,Array.findIdx?_isSome]
  rw[Array.any_eq_true']
  exact⟨e,by simpa using he,by simp⟩
 obtain⟨w',hs,hown⟩:=bB (P:=P) hw (es.modify i fun e=>{e with val:=ρ xo}) ck (G8 _ _)
 have Ol:((es.modify i fun e=>{e with val:=ρ xo}).toList.map MapEntry.born)=es.toList.map MapEntry.born:=by
  apply List.ext_getElem?;intro j
  simp only[List.getElem?_map,Array.getElem?_toList,Array.getElem?_modify]
  split
  ·cases es[j]? <;>rfl
  ·rfl
 refine⟨w',_,?_,hown,h1 _ ⟨by simp[h.len],fun j e x he hx=>?_,h.nd,by rw[Ol];exact h.born,fun e he=>?_⟩⟩
 ·simp only[Instr.entryStore,Sem.run_bind,aO hw IC,Result.andThen_ok,asInt,asIntOf,Sem.run_pure]
  simp only[hi,hs]
 ·rw[Array.getElem?_modify]at he
  split at he
  ·cases h0:es[j]? with
   |none=>rw[h0]at he;simp at he
   |some e0=>
    rw[h0]at he
    simp only[Option.map_some,Option.some.injEq]at he
    subst he
    exact⟨(h.key j _ _ h0 hx).1,hv _⟩
  ·exact h.key j _ _ he hx
 ·have:e.born∈(es.modify i fun e=>{e with val:=ρ xo}).toList.map MapEntry.born:=List.mem_map_of_mem he
  rw[Ol]at this
  obtain⟨e0,h1,h2⟩:=List.mem_map.1 this
  rw[←h2];exact h.lt e0 h1
end
theorem aZ.out{C H:Hp}{c:Hp→Hp}(h:aZ C H c)(N:Hp):aJ (c (N++C)) (N++H):=by
 obtain⟨e,F,hp⟩:=h.spec
 refine .perm ((hp (N++C)).trans ?_)
 rw[List.append_assoc]
 refine List.Perm.append_left N ?_
 have:=hp C
 rw[←e]at this
 exact this.symm
end Go.Sx
set_option maxRecDepth 100000
namespace Go.Proofs
open Go Go.Sx
open aT
section
variable {kp:Nat} {K:Kd} {ord ak tr:List Nat} {C:Hp} {S:Nat→aT.Fn}
def uP(N:fj)(r:Nat):Int:=match N r with|some d=>(d.v:Int)|none=> -1
theorem wu{N:fj}{r:Nat}(hl:live N r)(h2:∀d,N r=some d→2≤r):∃lo hi,got N r=[.int .i64 (uP N r),u32 lo,u32 hi]∧∀e,N r=some e→lo=e.lo∧hi=e.hi:=by
 cases h:N r with
 |some d=>
  refine⟨d.lo,d.hi,?_,fun e he=>by cases he;exact⟨rfl,rfl⟩⟩
  rw[iD h (h2 d h)];simp[bg,uP,h]
 |none=>
  have hr:r<2:=by
   rcases hl with hl|⟨d,hd⟩
   ·exact hl
   ·rw[h]at hd;cases hd
  refine⟨r,r,?_,fun e he=>by cases he⟩
  rw[ot hr];simp[uP,h]
theorem vj(h:cz kp K ord ak tr C){r:Nat}(hr:r<4294967296)(hl:live K.N r)(h2:∀d,K.N r=some d→2≤r)(y:Nat):
  Rd Tryz.prog 204 #[ptr kp,u32 r,.int .i64 (y:Int)] C (· =.tuple #[u32 (pl K.N y r),u32 (ph K.N y r)]):=by
 have h0:=h
 obtain⟨b,rfl,hO⟩:=h
 obtain⟨lo,hi,hg,he⟩:=wu hl h2
 refine aX fun g=>An ?_
 refine Nil.ptr (ag.mk ?_)
 refine ae.eq (jV h0 hr) ?_
 intro b5 _
 refine St.whole (r:=got K.N r) (by exact .head _) rfl (cQ _ _).1 (cQ _ _).2 ?_
 rw[hg]
 refine Ld.f ?_
 refine aa.j5 (Br.dec (fun e=>?_) (fun e=>?_))
 ·refine Ld.f ?_
  refine Ld.f ?_
  cases hN:K.N r with
  |none=>simp[uP,hN]at e<;>omega
  |some d=>
   obtain⟨rfl,rfl⟩:=he d hN
   have hv:d.v=y:=by simp[uP,hN]at e;omega
   obtain⟨e1,e2⟩:=Jh hN hv
   exact bO.mk .tail (by rw[e1,e2];rfl)
 ·obtain⟨e1,e2⟩:=Ji (N:=K.N) (y:=y) (r:=r) fun d hd=>by simp[uP,hd]at e<;>omega
  exact bO.mk .tail (by rw[e1,e2])
def iN(c:Cx):List Value:=[u32 c.r,.int .i64 (c.d.v:Int),u32 c.d.lo,u32 c.d.hi,u32 c.su,u32 c.sr,u32 c.pE,u32 c.pD]
theorem iG(c:Cx):∀x∈iN c,x.oneCell'=true:=by intro x hx;simp[iN,u32]at hx;rcases hx with rfl|rfl|rfl|rfl|rfl|rfl|rfl|rfl<;>rfl
structure sD(N:fj)(x y:Nat)(l:List Nat)(all:List Cx):Prop where
 nd:(all.map Cx.r).Nodup
 mem:∀c,c∈all↔c.r∈l∧jg N x y c.r c.d∧c=j6 N y c.r c.d
theorem sD.skip{N:fj}{x y r:Nat}{l:List Nat}{all:List Cx}{d:Nd}(h:sD N x y l all)(hd:N r=some d)(hn:¬jg N x y r d):sD N x y (l++[r]) all where
 nd:=h.nd
 mem:=fun c=>by
  rw[h.mem,List.mem_append]
  constructor
  ·rintro⟨h1,h2⟩;exact⟨.inl h1,h2⟩
  ·rintro⟨h1|h1,h2,h3⟩
   ·exact⟨h1,h2,h3⟩
   ·simp at h1
    have:=h2.1
    rw[h1,hd]at this;cases this
    rw[h1]at h2;exact absurd h2 hn
theorem sD.more{N:fj}{x y r:Nat}{l:List Nat}{all:List Cx}{d:Nd}(h:sD N x y l all)(hr:r∉l)(hn:jg N x y r d):sD N x y (l++[r]) (all++[j6 N y r d]) where
 nd:=by
  rw[List.map_append]
  refine List.nodup_append.2 ⟨h.nd,by simp,fun a ha b hb e=>?_⟩
  simp[j6]at hb
  subst e
  obtain⟨c,hc,rfl⟩:=List.mem_map.1 ha
  exact hr (hb▸((h.mem c).1 hc).1)
 mem:=fun c=>by
  rw[List.mem_append,h.mem,List.mem_append,List.mem_singleton,List.mem_singleton]
  constructor
  ·rintro(⟨h1,h2⟩|rfl)
   ·exact⟨.inl h1,h2⟩
   ·exact⟨.inr rfl,hn,rfl⟩
  ·rintro⟨h1|h1,h2,h3⟩
   ·exact .inl ⟨h1,h2,h3⟩
   ·right
    have h4:=h2.1
    rw[h1,hn.1]at h4;cases h4
    exact h3.trans (by rw[h1])
theorem sD.all{N:fj}{x y:Nat}{l:List Nat}{all:List Cx}(h:sD N x y l all)(hl:∀r d,N r=some d→d.v=x→r∈l):Cw N x y all where
 nd:=h.nd
 mem:=fun c=>by
  rw[h.mem]
  exact⟨fun h=>h.2,fun h=>⟨hl _ _ h.1.1 h.1.2.1,h⟩⟩
theorem uc(h:cz kp K ord ak tr C){r:Nat}(hl:live K.N r)(h2:∀d,K.N r=some d→2≤r){H:Hp}{c:Hp→Hp}(hh:aZ C H c){g:Gh}{Q:Value→Hp→Prop}{KP:List PanicEntry→Hp→Prop}
 (hk:∀lo hi,got K.N r=[.int .i64 (uP K.N r),u32 lo,u32 hi]→(∀e,K.N r=some e→lo=e.lo∧hi=e.hi)→Q (.agg #[.int .i64 (uP K.N r),u32 lo,u32 hi]) H):ae Tryz.prog g 174 #[ptr kp,u32 r] H Q KP:=by
 have hr:=h.lt hl
 obtain⟨lo,hi,hg,he⟩:=wu hl h2
 refine ae.eh hh (jV h (by omega)) ?_
 have:=hk lo hi hg he
 rw[hg]
 exact this
theorem uD(h:cz kp K ord ak tr C)(hok:Ok K S (lv ak)){x y:Nat}(hx:x<K.n):
  Fc Tryz.prog 134 #[ptr kp,.int .i64 (x:Int),.int .i64 (y:Int)] C (fun r H=>∃all Na,H=Na++C∧aN 203 8 r (all.map iN) Na∧Cw K.N x y all∧all.length≤1048576):=by
 have hcap:=h.cap
 have h0:=h
 obtain⟨b,hC,hO⟩:=h
 have JQ:∀d r,K.T d=some r↔K.N r=some d:=fun d r=>by rw[hok.mid.gj];exact⟨fun h=>h.1,fun h=>⟨h,fun x=>x⟩⟩
 have two:∀{r d},K.N r=some d→2≤r:=fun hd=>(hok.mid.two hd).1
 refine aX fun g=>A9 ?_
 rw[hC]
 refine Nil.ptr (ag.mk (ag.mk ?_))
 refine Ld.q ?_
 refine ae.fq (Je hO.ut hx (fun d d' r h1 h2=>by rw[JQ]at h1 h2;rw[h1]at h2;cases h2;rfl) (fun d r h1=>by have:=(hok.mid.two ((JQ d r).1 h1)).2;omega)) ?_
 rintro w H ⟨sl,l,Nr,rfl,rfl,E0,fT,hmem⟩
 refine Ext.two ?_
 refine E0.aM ?_
 rw[ah]
 have hl:∀r∈l,∃d,K.N r=some d∧d.v=x:=fun r hr=>by obtain⟨d,h1,h2⟩:=(hmem r).1 hr;exact⟨d,(JQ d r).1 h1,h2⟩
 have hlen:l.length≤1048576:=by
  have:=bX (l':=List.range 1048576) fT fun r hr=>by
   obtain⟨d,hd,_⟩:=hl r hr
   have:=(hok.mid.two hd).2
   exact List.mem_range.2 (by omega)
  simpa using this
 refine⟨fun vs H=>∃(v:Value) (i:Nat) (all:List Cx) (Na:Hp),vs=[v,.int .i64 (i:Int)]∧H=Na++(Nr++C)∧i≤l.length∧aN 203 8 v (all.map iN) Na∧sD K.N x y (l.take i) all∧all.length≤i,
  fun vs _=>l.length-aV vs 1,JE.of (aZ.out (C:=b.CT) (.cons (.app .left)) Nr) ⟨_,0,[],[],rfl,by rw[hC];rfl,Nat.zero_le _,aN.nil _ _,⟨by simp,by simp⟩,Nat.le_refl _⟩,?_⟩
 rintro w w' H ⟨v,i,all,Na,hw,rfl,hi,ho,DJ,IE⟩ gs
 simp only[List.cons.injEq,and_true]at hw
 obtain⟨rfl,rfl⟩:=hw
 refine aa.dn (Br.dec (fun hlt=>?_) (fun hge=>?_))
 rotate_left
 ·have:i=l.length:=by omega
  subst this
  rw[List.take_length]at DJ
  refine bN.mk (jD:=Na++C) ?_ ⟨all,Na,by rw[hC],ho,DJ.all fun r d hd hv=>(hmem r).2 ⟨d,(JQ d r).2 hd,hv⟩,by omega⟩
  exact aJ.cV .right Na
 obtain⟨r,qH⟩:∃r,l[i]? =some r:=⟨_,List.getElem?_eq_getElem hlt⟩
 have lP:l.take (i+1)=l.take i++[r]:=by rw[List.take_add_one,qH];rfl
 have Ry:r∉l.take i:=fun hm=>by
  have:(l.take (i+1)).Nodup:=fT.sublist (List.take_sublist _ _)
  rw[lP]at this
  exact(List.nodup_append.1 this).2.2 r hm r (by simp) rfl
 obtain⟨d,hd,BY⟩:=hl r (List.mem_of_getElem? qH)
 have Ng:=hok.mid.lo hd
 have Nh:=hok.mid.hi hd
 intro NT yG
 have next:∀v' Ib Ow,aN 203 8 v' (Ib.map iN) Ow→sD K.N x y (l.take (i+1)) Ib→Ib.length≤i+1→NT [v'] (Ow++(Nr++C)):=fun v' Ib Ow h1 h2 h3=>
  yG _ _ fun gs=>aa.inc (aq.mk ⟨v',i+1,Ib,Ow,rfl,rfl,by omega,h1,h2,h3⟩ (by simp[aV];omega))
 refine E0.ld (x:=(r:Int)) (bT qH) (fun y hy=>List.mem_append_right _ (List.mem_append_left _ hy)) ?_
 refine Nil.ptr (ag.mk ?_)
 refine uc h0 (.inr ⟨d,hd⟩) (fun _ h=>two h) (.app (.app .here)) fun lo hi hg he=>?_
 obtain⟨rfl,rfl⟩:=he d hd
 have Rv:uP K.N r=(x:Int):=by simp[uP,hd,BY]
 rw[Rv]
 intro QV _
 refine St.p (by intro z hz;simp[u32]at hz;rcases hz with rfl|rfl|rfl<;>rfl) ?_
 obtain⟨H0,Km⟩:∃H0,H0=(QV,Obj.cells #[.int .i64 (x:Int),u32 d.lo,u32 d.hi] 161 (0,0))::(Na++(Nr++C)):=⟨_,rfl⟩
 have Yj:((QV,Obj.cells [Value.int .i64 (x:Int),u32 d.lo,u32 d.hi].toArray 161 (0,0))::(Na++(Nr++C)))=H0:=Km.symm
 rw[Yj]
 intro V6 QF
 have skip:¬jg K.N x y r d→V6 [.bool true] H0:=fun hn=>QF _ _ fun gs=>Br.yes (JE.of (by rw[Km];exact .tail) (next w all Na ho (by rw[lP];exact DJ.skip hd hn) (by omega)))
 have take:jg K.N x y r d→V6 [.bool false] H0:=fun hn=>by
  refine QF _ _ fun gs=>Br.no ?_
  rw[Km]
  refine ax.q ?_
  refine Build.mk (cs:=iN ⟨r,⟨x,d.lo,d.hi⟩,0,0,0,0⟩) (by kernel_rfl) ?_
  intro b37 _
  refine St.p (iG _) ?_
  refine Ld.f ?_
  refine ae.eq (vj h0 (by have:=h0.lt Ng;omega) Ng (fun _ h=>two h) y) ?_
  refine Ext.two ?_
  refine ag.mk (St.one (by exact .head _) rfl (by simp[iN]) rfl ?_)
  refine ag.mk (St.one (by exact .head _) rfl (by simp[iN]) rfl ?_)
  refine Ld.f ?_
  refine ae.eq (vj h0 (by have:=h0.lt Nh;omega) Nh (fun _ h=>two h) y) ?_
  refine Ext.two ?_
  refine ag.mk (St.one (by exact .head _) rfl (by simp[iN]) rfl ?_)
  refine ag.mk (St.one (by exact .head _) rfl (by simp[iN]) rfl ?_)
  have dh:d=⟨x,d.lo,d.hi⟩:=by cases d;simp at BY;subst BY;rfl
  have hcell:iN (j6 K.N y r d)=[u32 r,.int .i64 (x:Int),u32 d.lo,u32 d.hi,u32 (pl K.N y d.lo),u32 (ph K.N y d.lo),u32 (pl K.N y d.hi),u32 (ph K.N y d.hi)]:=by
   simp[iN,j6,BY]
  refine ax.whole (r:=iN (j6 K.N y r d)) (by rw[hcell];exact .head _) rfl ?_
  refine an.one (e:=203) (z:=.agg #[.int .u32 0,.int .i64 0,.int .u32 0,.int .u32 0,.int .u32 0,.int .u32 0,.int .u32 0,.int .u32 0]) (k:=8) (r:=iN (j6 K.N y r d)) (by kernel_rfl) (by kernel_rfl) (by kernel_rfl) (by decide) rfl fun xb=>?_
  refine ho.nO (.cons (.cons (.cons .left))) (by exact .head _) rfl (iG _) ⟨_,rfl,rfl⟩ (by simp;omega) (by simp;omega) fun v' Ow br=>?_
  refine JE.of (.skip (.skip .tail)) (next v' (all++[j6 K.N y r d]) Ow (by rw[List.map_append];exact br) (by rw[lP];exact DJ.more Ry hn) (by simp;omega))
 refine DR.of (R:=[(QV,Obj.cells #[.int .i64 (x:Int),u32 d.lo,u32 d.hi] 161 (0,0))]) (by rw[Km];exact .left (A:=[_])) ?_
 refine Nil.ptr (ag.mk (Ld.f ?_))
 have Vp:aJ H0 [(QV,Obj.cells #[.int .i64 (x:Int),u32 d.lo,u32 d.hi] 161 (0,0))]:=by rw[Km];exact .left (A:=[_])
 intro F
 rw[Km]
 refine uc h0 Ng (fun _ h=>two h) (.cons (.app (.app .here))) fun ZC PW ZR RL=>?_
 rw[←Km]
 refine⟨Vp,xA.mk rfl (aa.gA (Br.dec (fun hne=>?_) (fun he=>?_)))⟩
 ·refine Nil.ptr (ag.mk (Ld.f ?_))
  intro F2
  rw[Km]
  refine uc h0 Nh (fun _ h=>two h) (.cons (.app (.app .here))) fun ZB kT Lz RK=>?_
  rw[←Km]
  refine⟨Vp,xA.mk rfl (aa.gA (ay.mk ?_))⟩
  by_cases e2:uP K.N d.hi=(y:Int)
  ·rw[decide_eq_false (by simpa using e2)]
   refine JE.mk (take ⟨hd,BY,.inr ?_⟩)
   cases hN:K.N d.hi with
   |none=>simp[uP,hN]at e2<;>omega
   |some f=>exact⟨f,rfl,by simp[uP,hN]at e2;omega⟩
  ·rw[decide_eq_true (by simpa using e2)]
   refine JE.mk (skip ?_)
   rintro⟨_,_,⟨f,hf,P1⟩|⟨f,hf,P1⟩⟩
   ·exact hne (by simp[uP,hf,P1])
   ·exact e2 (by simp[uP,hf,P1])
 ·have e1:uP K.N d.lo=(y:Int):=by simpa using he
  refine JE.mk (take ⟨hd,BY,.inl ?_⟩)
  cases hN:K.N d.lo with
  |none=>simp[uP,hN]at e1<;>omega
  |some f=>exact⟨f,rfl,by simp[uP,hN]at e1;omega⟩
end
end Go.Proofs
set_option maxRecDepth 100000
namespace Go.Proofs
open Go Go.Sx
open aT
section
def Sb:Value→Int
 | .int _ z=>z
 |_=>0
abbrev Sf(v:Value)(z:Int):Prop:=v=.int .i64 z
def rJ(es:Array MapEntry)(ck:Nat)(ks:List Nd):Prop:=∃m:List (Nd×Int),aR nK Sf es ck m∧m.map Prod.fst=ks
theorem rJ.empty:rJ #[] 0 []:=⟨[],aR.empty,rfl⟩
theorem rJ.of{es:Array MapEntry}{ck:Nat}{m:List (Nd×Int)}(h:aR nK (fun v _=>∃z,v=.int .i64 z) es ck m):rJ es ck (m.map Prod.fst):=by
 have hlen:es.toList.length=m.length:=by simpa using h.len
 have hz:((es.toList.zip m).map fun p=>((p.2.1,Sb p.1.val):Nd×Int)).map Prod.fst=m.map Prod.fst:=by
  rw[List.map_map]
  have:(Prod.fst∘fun(p:MapEntry×(Nd×Int))=>((p.2.1,Sb p.1.val):Nd×Int))=Prod.fst∘Prod.snd:=rfl
  rw[this,←List.map_map,List.map_snd_zip (by omega)]
 refine⟨_,⟨?_,fun i e x he hx=>?_,by rw[hz];exact h.nd,h.born,h.lt⟩,hz⟩
 ·simp[h.len]
 ·have hi:=(Array.getElem?_eq_some_iff.1 he).1
  have kT:i<m.length:=by rw[←h.len];exact hi
  have hm:m[i]? =some m[i]:=List.getElem?_eq_getElem kT
  obtain⟨h1,z,h2⟩:=h.key i e _ he hm
  have hx':x=(m[i].1,Sb e.val):=by
   have e1:es.toList[i]? =some e:=by rw[Array.getElem?_toList];exact he
   rw[List.getElem?_map,(List.getElem?_zip_eq_some (z:=(e,m[i]))).2 ⟨e1,hm⟩]at hx
   simpa using hx.symm
  subst hx'
  exact⟨h1,by rw[h2];rfl⟩
theorem Own.sub{g:Gh}{H:Hp}{w:World}(h:Own g H w){y:Nat×Obj}(hy:y∈H):Own g [y] w:=by
 obtain⟨X,Y,rfl⟩:=List.append_of_mem hy
 exact(h.perm List.perm_middle).left (A:=[y])
noncomputable abbrev FF:Func:=Tryz.f136
theorem Wz{i:Nat}(hi:i<6):¬Ga .any (k9 FF 10) i 6:=fun h=>by
 have e6:(k9 FF 10)[6]? =some (fk FF 10 6):=by kernel_rfl
 have:=h _ e6
 have hm:(⟨i,.phase⟩:Edge)∈(fk FF 10 6).after:=by
  have ea:(fk FF 10 6).after=#[⟨0,.data⟩,⟨5,.data⟩,⟨3,.data⟩,⟨4,.chain⟩,⟨0,.phase⟩,⟨1,.phase⟩,⟨2,.phase⟩,⟨3,.phase⟩,⟨4,.phase⟩,⟨5,.phase⟩]:=by kernel_rfl
  rw[ea]
  rcases i with _|_|_|_|_|_|i
  all_goals first|omega|simp
 exact this _ hm rfl rfl
end
section
def Cb(ops:Array Oper)(listed:Array Bool):Bool:=(List.range ops.size).all fun j=>match ops[j]? with
 |some oj=> !listed.getD j true||oj.after.toList.all fun e=> !Region.binds .any e||listed.getD e.on true
 |none=>true
theorem fh{ops:Array Oper}{listed:Array Bool}(h:Cb ops listed=true):dV .any ops listed:=by
 intro j oj hj hl e he hb
 unfold Cb at h
 have h1:=List.all_eq_true.1 h j (List.mem_range.2 (Array.getElem?_eq_some_iff.1 hj).1)
 simp only[hj,hl,Bool.not_true,Bool.false_or]at h1
 have h2:=List.all_eq_true.1 h1 e (Array.mem_toList_iff.2 he)
 rw[hb]at h2
 simpa using h2
theorem JM{g:Gh}{mb nb:Nat}{es:Array MapEntry}{ck:Nat}{ks:List Nd}{d:Nd}(hmk:rJ es ck ks){c:Obj→Hp}(G8:∀o o',cA mb o o' (c o) (c o'))(Qb:∀o,(nb,Obj.cells (bg d).toArray 161 (0,0))∈c o){K:Hp→Prop}
 (hk:∀es' c8,rJ es' c8 (if d∈ks then ks else ks++[d])→K (c (.map es' c8))):
  NM Tryz.prog g 10 (k9 FF 10) [7,11] [.map (some mb),ptr nb] (c (.map es ck)) K:=by
 have hm:(mb,Obj.map es ck)∈c (.map es ck):=(G8 _ (.map es ck)).mem
 have hn:=Qb (.map es ck)
 obtain⟨m,hE,rfl⟩:=hmk
 intro a w hok hvs hw
 simp only[List.map_cons,List.map_nil,List.cons.injEq,and_true]at hvs
 obtain⟨h7,Yq⟩:=hvs
 obtain⟨n,RA⟩:∃n,n=a.tmps.size:=⟨_,rfl⟩
 obtain⟨fr,hfr⟩:∃fr:Fr,fr=fun s=>a.tmps.getD s undef:=⟨_,rfl⟩
 have ha:bQ a.defers n a fr:=⟨rfl,RA.symm,fun s=>by rw[hfr]⟩
 have f7:fr 7=.map (some mb):=by rw[hfr];exact h7
 have f11:fr 11=ptr nb:=by rw[hfr];exact Yq
 rw[←RA]at hok
 have Yx:fJ n (k9 FF 10).toList=(Nat.blt 58 n&& (Nat.blt 59 n&& (Nat.blt 60 n&& (Nat.blt 61 n&& (Nat.blt 62 n&& (Nat.blt 63 n&& (true&&true))))))):=by kernel_rfl
 rw[Yx]at hok
 simp only[Bool.and_eq_true,Bool.and_true]at hok
 obtain⟨WQ,WO,WN,WM,WL,WK⟩:=hok
 refine wp_region_any (by kernel_rfl) ?_
 obtain⟨z0,Rr⟩:∃z0:Int,z0=(dm m d).getD 0:=⟨_,rfl⟩
 obtain⟨S0,Oq⟩:∃S0:World→Prop,S0=fun w=>Own g [(nb,Obj.cells (bg d).toArray 161 (0,0))] w∧(Instr.lookup 285 (.map (some mb)) (nK d) false).run Tryz.prog w=.ok (.int .i64 z0) w:=⟨_,rfl⟩
 have look:∀{es':Array MapEntry} {c8:Nat} {m':List (Nd×Int)} {H':Hp} {w':World},aR nK Sf es' c8 m'→(mb,Obj.map es' c8)∈H'→Own g H' w'→(dm m' d).getD 0=z0→(Instr.lookup 285 (.map (some mb)) (nK d) false).run Tryz.prog w'=.ok (.int .i64 z0) w':=by
  intro es' c8 m' H' w' h1 h2 h3 h4
  have hL:iK Tryz.prog 161 (.int .i64 0) false H' (.map (some mb)) (nK d) (· =.int .i64 z0):=by
   cases hg:dm m' d with
   |some z=>exact aR.J0 (ke:=nK) (k:=d) nf iX h1 h2 hg (by rintro v rfl;rw[hg]at h4;simp at h4;rw[h4];rfl)
   |none=>exact aR.BO (ke:=nK) (k:=d) nf iX h1 h2 hg (by rw[hg]at h4;simp at h4;rw[←h4];rfl)
  obtain⟨v,hr,rfl⟩:=hL.run (P:=Tryz.prog) h3 (t:=285) (kt:=161) (e:=3) (kd:=.struct (Tryz.prog.fieldsOf 161)) (i:=(Tryz.prog.info? 3).get (by kernel_rfl)) (by kernel_rfl) BL rfl (by kernel_rfl) (by kernel_rfl)
  exact hr
 have nr:=hw.tt
 have s0:S0 {w with drawn:=w.drawn+1}:=by rw[Oq];exact⟨Own.sub nr hn,look hE hm nr Rr.symm⟩
 have Qu:∀{o:Oper} {v:Value} (c:List PanicEntry) (a':Act) (w':World),(fun(e:Exit) (a':Act) (w':World)=>e=.normal∧a'.defers=a.defers∧a'.tmps.size=a.tmps.size∧(∀s,bj (k9 FF 10).toList s=false→a'.tmps.getD s undef=a.tmps.getD s undef)∧∃H',Own g H' w'∧K H') (.panic c) (a'.put o.dst v) w'→
   (fun(e:Exit) (a':Act) (w':World)=>e=.normal∧a'.defers=a.defers∧a'.tmps.size=a.tmps.size∧(∀s,bj (k9 FF 10).toList s=false→a'.tmps.getD s undef=a.tmps.getD s undef)∧∃H',Own g H' w'∧K H') (.panic c) a' w':=by
  rintro _ _ _ _ _ ⟨h,_⟩;cases h
 have hsel:Region.noSelect (k9 FF 10)=true:=by kernel_rfl
 have hkeep:∀i,i<6→∀(j:Nat) (oj:Oper) (w w':World),(k9 FF 10)[j]? =some oj→j≠i→¬kx .any (k9 FF 10) i j→S0 w→(j≠6→S0 w→S0 w')→S0 w':=fun i hi j oj w w' _ _ hno h0 hs=>by
  by_cases e:j=6
  ·subst e;exact absurd (fun oj fS e he hb heq=>hno (.one fS he hb heq)) (Wz hi)
  ·exact hs e h0
 refine cH.any (S:=fun j w w'=>j≠6→S0 w→S0 w') ?_
 have hsz:(k9 FF 10).size=7:=by kernel_rfl
 rw[hsz]
 refine cH.take (fh (by kernel_rfl)) (S0:=S0) (i:=0) (oi:=fk FF 10 0) (v:=.map (some mb)) (by kernel_rfl) hsel (by kernel_rfl) (by kernel_rfl) Qu (fun _ h _ _=>h) (hkeep 0 (by decide)) (.inl ⟨rfl,fun w hw=>?_⟩) s0 ?_
 ·rw[ha.eval];have:(execOp (ev fr) (fk FF 10 0))=pure (.value (fr 7)):=rfl
  rw[this,f7];rfl
 have B2:=ha.put (d:=some 58) WQ (.map (some mb))
 change cH _ _ _ _ _ 6 _ (a.put (some 58) (.map (some mb))) _
 refine cH.take (fh (by kernel_rfl)) (S0:=S0) (i:=1) (oi:=fk FF 10 1) (v:=nK d) (by kernel_rfl) hsel (by kernel_rfl) (by kernel_rfl) Qu (fun _ h _ _=>h) (hkeep 1 (by decide)) (.inl ⟨rfl,fun w hw=>?_⟩) s0 ?_
 ·rw[B2.eval]
  have e:xm Tryz.prog g (fk FF 10 1) (ev (bM fr (some 58) (.map (some mb)))) [(nb,Obj.cells (bg d).toArray 161 (0,0))] (fun v=>v=nK d)=ax 3 [(nb,Obj.cells (bg d).toArray 161 (0,0))] (fr 11) (fun v=>v=nK d):=by kernel_rfl
  obtain⟨v,rfl,hr,_⟩:=kL (e.mpr (by rw[f11];exact ax.q rfl))
  rw[Oq]at hw
  exact hr _ hw.1
 have yE:=B2.put (d:=some 59) WO (nK d)
 change cH _ _ _ _ _ 5 _ ((a.put (some 58) (.map (some mb))).put (some 59) (nK d)) _
 refine cH.take (fh (by kernel_rfl)) (S0:=S0) (i:=2) (oi:=fk FF 10 2) (v:=.int .i64 z0) (by kernel_rfl) hsel (by kernel_rfl) (by kernel_rfl) Qu (fun _ h _ _=>h) (hkeep 2 (by decide)) (.inl ⟨rfl,fun w hw=>?_⟩) s0 ?_
 ·rw[yE.eval]
  have e:execOp (ev (bM (bM fr (some 58) (.map (some mb))) (some 59) (nK d))) (fk FF 10 2)=(do pure (.value (←Instr.lookup 285 (.map (some mb)) (nK d) false))):=rfl
  rw[Oq]at hw
  rw[e]
  simp only[Sem.run_bind,hw.2,Result.andThen_ok,Sem.run_pure]
 have DL:=yE.put (d:=some 60) WN (.int .i64 z0)
 change cH _ _ _ _ _ 4 _ (((a.put (some 58) (.map (some mb))).put (some 59) (nK d)).put (some 60) (.int .i64 z0)) _
 refine cH.take (fh (by kernel_rfl)) (S0:=S0) (i:=3) (oi:=fk FF 10 3) (v:=.int .i64 (IntKind.i64.wrap (z0+1))) (by kernel_rfl) hsel (by kernel_rfl) (by kernel_rfl) Qu (fun _ h _ _=>h) (hkeep 3 (by decide)) (.inl ⟨rfl,fun w hw=>?_⟩) s0 ?_
 ·rw[DL.eval]
  have e:xm Tryz.prog g (fk FF 10 3) (ev (bM (bM (bM fr (some 58) (.map (some mb))) (some 59) (nK d)) (some 60) (.int .i64 z0))) [(nb,Obj.cells (bg d).toArray 161 (0,0))] (fun v=>v=.int .i64 (IntKind.i64.wrap (z0+1)))=aa .num .add (.int .i64 z0) (.int .i64 1) (fun v=>v=.int .i64 (IntKind.i64.wrap (z0+1))):=by kernel_rfl
  obtain⟨v,rfl,hr,_⟩:=kL (e.mpr (aa.add rfl))
  rw[Oq]at hw
  exact hr _ hw.1
 have Kg:=DL.put (d:=some 61) WM (.int .i64 (IntKind.i64.wrap (z0+1)))
 change cH _ _ _ _ _ 3 _ ((((a.put (some 58) (.map (some mb))).put (some 59) (nK d)).put (some 60) (.int .i64 z0)).put (some 61) (.int .i64 (IntKind.i64.wrap (z0+1)))) _
 generalize (((a.put (some 58) (.map (some mb))).put (some 59) (nK d)).put (some 60) (.int .i64 z0)).put (some 61) (.int .i64 (IntKind.i64.wrap (z0+1)))=a4 at Kg
 refine cH.all (rs:=[4]) (by kernel_rfl) (by simp) fun i hi=>?_
 simp only[List.mem_singleton]at hi
 subst hi
 have e4:(k9 FF 10)[4]? =some (fk FF 10 4):=by kernel_rfl
 unfold wpOp
 rw[e4]
 simp only
 rw[if_pos (show Region.wanted (fk FF 10 4) (yielded (k9 FF 10) a4.tmps)=true from rfl)]
 refine .inl ?_
 show(fk FF 10 4).upon Tryz.prog a4 _ _ ((execOp a4.eval (fk FF 10 4)).run Tryz.prog _)
 rw[Kg.eval]
 refine kC.upon (g:=g) (KP:=fun _ _=>False) (aR.KA (K:=fun v H'=>∃es' c8 v0 st,aR nK Sf es' c8 (if d∈m.map Prod.fst then m else m++[(d,0)])∧(∃e∈es'.toList,e.born=st)∧H'=c (.map es' c8)∧v=.tuple #[v0,.int .i64 (st:Int)])
  (t:=285) (kt:=161) (e:=3) (z:=.int .i64 0) (k:=d) (y0:=(0:Int)) nf iX BN (o:=fk FF 10 4) (mo:=.tmp 58) (ko:=.tmp 59) rfl rfl rfl (by kernel_rfl) BL rfl (by kernel_rfl) rfl hE G8
  (fun es' c8 v st h1 h2=>⟨es',c8,v,st,h1,h2,rfl,rfl⟩) _ nr) ?_ (fun _ _ _ _ h=>h.elim)
 rintro v H1 w1 gC ⟨nE,l7,v0,st,LW,hst,rfl,rfl⟩
 have Lt:(nb,Obj.cells (bg d).toArray 161 (0,0))∈c (.map nE l7):=Qb _
 have xw:(mb,Obj.map nE l7)∈c (.map nE l7):=(G8 _ (.map nE l7)).mem
 have s1:S0 w1:=by
  rw[Oq]
  refine⟨Own.sub gC Lt,look LW xw gC ?_⟩
  rw[Rr]
  split
  ·rfl
  ·rename_i dh
   have e1:=gn.2 dh
   have e2:dm (m++[(d,0)]) d=some 0:=(iu (by
    have:=LW.nd;rw[if_neg dh]at this;exact this)).2 (by simp)
   rw[e1,e2];rfl
 refine⟨fun _ _=>s1,?_⟩
 have Kf:=Kg.put (d:=some 62) WL (.tuple #[v0,.int .i64 (st:Int)])
 change cH _ _ _ _ _ 2 _ (a4.put (some 62) (.tuple #[v0,.int .i64 (st:Int)])) _
 generalize a4.put (some 62) (.tuple #[v0,.int .i64 (st:Int)])=a5 at Kf
 refine cH.take (fh (by kernel_rfl)) (S0:=S0) (i:=5) (oi:=fk FF 10 5) (v:=.int .i64 (st:Int)) (by kernel_rfl) hsel (by kernel_rfl) (by kernel_rfl) Qu (fun _ h _ _=>h) (hkeep 5 (by decide)) (.inl ⟨rfl,fun w hw=>?_⟩) s1 ?_
 ·rw[Kf.eval]
  obtain⟨v,rfl,hr,_⟩:=kL (P:=Tryz.prog) (g:=g) (o:=fk FF 10 5) (H:=[(nb,Obj.cells (bg d).toArray 161 (0,0))]) (k:=fun v=>v=.int .i64 (st:Int))
   (ρ:=ev (bM (bM (bM (bM (bM fr (some 58) (.map (some mb))) (some 59) (nK d)) (some 60) (.int .i64 z0)) (some 61) (.int .i64 (IntKind.i64.wrap (z0+1)))) (some 62) (.tuple #[v0,.int .i64 (st:Int)]))) ⟨_,_,rfl,rfl,rfl⟩
  rw[Oq]at hw
  exact hr _ hw.1
 have Ke:=Kf.put (d:=some 63) WK (.int .i64 (st:Int))
 change cH _ _ _ _ _ 1 _ (a5.put (some 63) (.int .i64 (st:Int))) _
 generalize a5.put (some 63) (.int .i64 (st:Int))=a6 at Ke
 refine cH.all (rs:=[6]) (by kernel_rfl) (by simp) fun i hi=>?_
 simp only[List.mem_singleton]at hi
 subst hi
 have e6:(k9 FF 10)[6]? =some (fk FF 10 6):=by kernel_rfl
 unfold wpOp
 rw[e6]
 simp only
 rw[if_pos (show Region.wanted (fk FF 10 6) (yielded (k9 FF 10) a6.tmps)=true from rfl)]
 refine .inl ?_
 show(fk FF 10 6).upon Tryz.prog a6 _ _ ((execOp a6.eval (fk FF 10 6)).run Tryz.prog _)
 rw[Ke.eval]
 refine kC.upon (g:=g) (KP:=fun _ _=>False) (aR.I6 (vr:=fun v _=>∃z:Int,v=.int .i64 z) (K:=fun _ H'=>∃es',aR nK (fun v _=>∃z:Int,v=.int .i64 z) es' l7 (if d∈m.map Prod.fst then m else m++[(d,0)])∧H'=c (.map es' l7))
  (o:=fk FF 10 6) (t:=285) (mo:=.tmp 58) (so:=.tmp 63) (xo:=.tmp 61) rfl rfl rfl (LW.mono fun v z h=>⟨z,h⟩) hst (fun _=>⟨_,rfl⟩) G8
  (fun es' h1=>⟨es',h1,rfl⟩) _ gC) ?_ (fun _ _ _ _ h=>h.elim)
 rintro v H2 w2 kR ⟨mI,wm,rfl⟩
 refine⟨fun h=>absurd rfl h,?_⟩
 have Oo:bQ a.defers n a6 _:=Ke
 change cH _ _ _ _ _ 0 _ a6 _
 refine cH.done (by kernel_rfl) ⟨rfl,Oo.defers,by rw[Oo.size,RA],fun s hs=>?_,_,kR,hk mI l7 ?_⟩ 0
 ·have eD:bj (k9 FF 10).toList s=(Nat.beq s 58||(Nat.beq s 59||(Nat.beq s 60||(Nat.beq s 61||(Nat.beq s 62||(Nat.beq s 63||(false||false))))))):=by kernel_rfl
  rw[eD]at hs
  simp only[Bool.or_eq_false_iff]at hs
  rw[Oo.get]
  simp only[bM,hs,cond_false]
  rw[hfr]
 ·have:=rJ.of wm
  have e:(if d∈m.map Prod.fst then m else m++[(d,(0:Int))]).map Prod.fst=if d∈m.map Prod.fst then m.map Prod.fst else m.map Prod.fst++[d]:=by
   split<;>simp
  rw[e]at this
  exact this
end
section
variable {kp:Nat} {K:Kd} {ord ak tr:List Nat} {C:Hp} {S:Nat→aT.Fn}
theorem HT{H:Hp}(a b:Nd){K:Value→Hp→Prop}(h:∀x,K (.slice (some ⟨x,0,none⟩) 2 2) ((x,.cells (rows [bg a,bg b]) 161 (0,0))::H)):
  an Tryz.prog 286 2 [(0,nK a),(1,nK b)] H K:=by
 refine⟨rows [bg a,bg b],161,3,.agg #[.int .i64 0,.int .u32 0,.int .u32 0],by kernel_rfl,by kernel_rfl,by kernel_rfl,by decide,?_,fun x _=>h x⟩
 have e1:Array.range (2*3)=#[0,1,2,3,4,5]:=rfl
 simp[Instr.fill,Value.cells,nK,bg,e1,rows,u32]
def fB(K:Kd)(x:Nat)(l:List Cx)(ks:List Nd)(m:List Nd):Prop:=m.Nodup∧∀k,k∈m↔((∃c∈l,k∈keys x c)∨k∈ks)∧K.T k=none∧k.lo≠k.hi
theorem fB.step{x:Nat}{l:List Cx}{ks m:List Nd}{d:Nd}(h:fB K x l ks m)(hd:K.T d=none∧d.lo≠d.hi):fB K x l (ks++[d]) (if d∈m then m else m++[d]):=by
 obtain⟨h1,h2⟩:=h
 constructor
 ·split
  ·exact h1
  ·rename_i hn
   exact List.nodup_append.2 ⟨h1,by simp,fun a ha b hb e=>by simp at hb;subst hb;subst e;exact hn ha⟩
 ·intro k
  by_cases hm:d∈m
  ·rw[if_pos hm,h2,List.mem_append,List.mem_singleton]
   constructor
   ·rintro⟨h3|h3,h4⟩
    ·exact⟨.inl h3,h4⟩
    ·exact⟨.inr (.inl h3),h4⟩
   ·rintro⟨h3|h3|rfl,h4⟩
    ·exact⟨.inl h3,h4⟩
    ·exact⟨.inr h3,h4⟩
    ·exact(h2 _).1 hm
  ·rw[if_neg hm,List.mem_append,List.mem_singleton,h2,List.mem_append,List.mem_singleton]
   constructor
   ·rintro(⟨h3|h3,h4⟩|rfl)
    ·exact⟨.inl h3,h4⟩
    ·exact⟨.inr (.inl h3),h4⟩
    ·exact⟨.inr (.inr rfl),hd⟩
   ·rintro⟨h3|h3|rfl,h4⟩
    ·exact .inl ⟨.inl h3,h4⟩
    ·exact .inl ⟨.inr h3,h4⟩
    ·exact .inr rfl
theorem fB.skip{x:Nat}{l:List Cx}{ks m:List Nd}{d:Nd}(h:fB K x l ks m)(hd:¬(K.T d=none∧d.lo≠d.hi)):fB K x l (ks++[d]) m:=by
 obtain⟨h1,h2⟩:=h
 refine⟨h1,fun k=>?_⟩
 rw[h2,List.mem_append,List.mem_singleton]
 constructor
 ·rintro⟨h3|h3,h4⟩
  ·exact⟨.inl h3,h4⟩
  ·exact⟨.inr (.inl h3),h4⟩
 ·rintro⟨h3|h3|rfl,h4⟩
  ·exact⟨.inl h3,h4⟩
  ·exact⟨.inr h3,h4⟩
  ·exact absurd h4 hd
theorem fB.tO{x:Nat}{l:List Cx}{c:Cx}{m:List Nd}(h:fB K x l (keys x c) m):fB K x (l++[c]) [] m:=by
 obtain⟨h1,h2⟩:=h
 refine⟨h1,fun k=>?_⟩
 rw[h2]
 constructor
 ·rintro⟨⟨c',hc,hk⟩|h3,h4⟩
  ·exact⟨.inl ⟨c',List.mem_append_left _ hc,hk⟩,h4⟩
  ·exact⟨.inl ⟨c,by simp,h3⟩,h4⟩
 ·rintro⟨⟨c',hc,hk⟩|h3,h4⟩
  ·rcases List.mem_append.1 hc with hc|hc
   ·exact⟨.inl ⟨c',hc,hk⟩,h4⟩
   ·simp at hc;subst hc;exact⟨.inr hk,h4⟩
  ·cases h3
theorem Hy(h:cz kp K ord ak tr C){x:Nat}(hx:x<K.n){v:Value}{all:List Cx}{Na:Hp}(ha:aN 203 8 v (all.map iN) Na)(hlen:all.length≤1048576):
  Rd Tryz.prog 136 #[ptr kp,.int .i64 (x:Int),v] (Na++C) (fun r=>∃made,r=.int .i64 ((made.length:Nat):Int)∧Made K x all made):=by
 have h0:=h
 obtain⟨b,hC,hO⟩:=h
 refine aX fun g=>A7 ?_
 intro mb _
 refine ha.aM ?_
 rw[List.length_map]
 refine⟨fun vs H=>∃(i:Nat) (es:Array MapEntry) (ck:Nat) (m:List Nd),vs=[.int .i64 (i:Int)]∧H=(mb,.map es ck)::(Na++C)∧i≤all.length∧rJ es ck m∧fB K x (all.take i) [] m,
  fun vs _=>all.length-aV vs 0,JE.mk ⟨0,_,_,[],rfl,rfl,Nat.zero_le _,rJ.empty,by simp,by simp⟩,?_⟩
 rintro w H ⟨i,es,ck,m,hw,rfl,hi,hmk,JW⟩ gs
 simp only[List.cons.injEq,and_true]at hw
 subst hw
 refine aa.dn (Br.dec (fun hlt=>?_) (fun hge=>?_))
 rotate_left
 ·have:i=all.length:=by omega
  subst this
  rw[List.take_length]at JW
  obtain⟨m',he,rfl⟩:=hmk
  refine aR.MA he (.head _) ?_
  refine bO.mk .tail ⟨m'.map Prod.fst,by rw[List.length_map],JW.1,fun k=>?_⟩
  rw[JW.2]
  constructor
  ·rintro⟨h3|h3,h4⟩
   ·exact⟨h3,h4⟩
   ·cases h3
  ·rintro⟨h3,h4⟩;exact⟨.inl h3,h4⟩
 obtain⟨c,nW⟩:∃c,all[i]? =some c:=⟨_,List.getElem?_eq_getElem hlt⟩
 have lP:all.take (i+1)=all.take i++[c]:=by rw[List.take_add_one,nW];rfl
 refine ha.BQ (r:=iN c) (by rw[List.getElem?_map,nW];rfl) (fun y hy=>.tail _ (List.mem_append_left _ hy)) ?_
 intro UA _
 refine St.p (iG _) ?_
 refine Ld.f ?_
 refine Ld.f ?_
 refine Build.mk (cs:=bg ⟨x,c.su,c.pE⟩) (by kernel_rfl) ?_
 refine Ld.f ?_
 refine Ld.f ?_
 refine Build.mk (cs:=bg ⟨x,c.sr,c.pD⟩) (by kernel_rfl) ?_
 refine HT _ _ fun xb=>?_
 refine az.mk ?_
 refine⟨fun vs H=>∃(j:Nat) (es:Array MapEntry) (ck:Nat) (m:List Nd),vs=[.int .i64 (j:Int)]∧H=(xb,.cells (rows [bg ⟨x,c.su,c.pE⟩,bg ⟨x,c.sr,c.pD⟩]) 161 (0,0))::(mb,.map es ck)::(Na++C)∧j≤2∧rJ es ck m∧fB K x (all.take i) ((keys x c).take j) m,
  fun vs _=>2-aV vs 0,JE.of (.cons .tail) ⟨0,es,ck,m,rfl,rfl,Nat.zero_le _,hmk,JW⟩,?_⟩
 clear hmk JW
 rintro w H ⟨j,es,ck,m,hw,rfl,hj,hmk,JW⟩ gs
 simp only[List.cons.injEq,and_true]at hw
 subst hw
 refine aa.dn (b:=2) (Br.dec (fun ei=>?_) (fun hge=>?_))
 rotate_left
 ·have:j=2:=by omega
  subst this
  refine aa.inc ?_
  refine aq.of .tail ⟨i+1,es,ck,m,rfl,rfl,by omega,hmk,?_⟩ (by simp[aV];omega)
  rw[lP]
  exact fB.tO JW
 obtain⟨d,BZ,BY⟩:∃d,(keys x c)[j]? =some d∧d.v=x:=by
  rcases j with _|_|j
  ·exact⟨_,rfl,rfl⟩
  ·exact⟨_,rfl,rfl⟩
  ·omega
 have U2:(keys x c).take (j+1)=(keys x c).take j++[d]:=by rw[List.take_add_one,BZ];rfl
 have hrow:[bg ⟨x,c.su,c.pE⟩,bg ⟨x,c.sr,c.pD⟩][j]? =some (bg d):=by
  have:[bg ⟨x,c.su,c.pE⟩,bg ⟨x,c.sr,c.pD⟩]=(keys x c).map bg:=rfl
  rw[this,List.getElem?_map,BZ];rfl
 intro YW T7
 have next:∀es' c8 m' H',rJ es' c8 m'→fB K x (all.take i) ((keys x c).take (j+1)) m'→aJ H' ((xb,.cells (rows [bg ⟨x,c.su,c.pE⟩,bg ⟨x,c.sr,c.pD⟩]) 161 (0,0))::(mb,.map es' c8)::(Na++C))→JE YW [] H':=fun es' c8 m' H' h1 h2 h3=>
  JE.mk (T7 _ fun gs=>aa.inc (aq.of h3 ⟨j+1,es',c8,m',rfl,rfl,by omega,h1,h2⟩ (by simp[aV];omega)))
 refine aj.nat ei ?_
 have hmem:(xb,Obj.cells (rows [bg ⟨x,c.su,c.pE⟩,bg ⟨x,c.sr,c.pD⟩]) 161 (0,0))∈(xb,Obj.cells (rows [bg ⟨x,c.su,c.pE⟩,bg ⟨x,c.sr,c.pD⟩]) 161 (0,0))::(mb,.map es ck)::(Na++C):=.head _
 refine ax.row (k:=3) hmem (by simp[bg]) hrow ?_
 intro YE _
 refine St.p (fun z hz=>by simp[bg,u32]at hz;rcases hz with rfl|rfl|rfl<;>rfl) ?_
 refine DR.self ?_
 rw[hC]
 refine Nil.ptr (ag.mk (Ld.f ?_))
 refine ax.q ?_
 refine ae.eq (pM (d:=d) hO.ut (by rw[BY];exact hx)) ?_
 refine⟨.refl _,Ext.mk rfl (Ext.mk rfl (Un.not ?_))⟩
 have Ll:(!(K.T d).isSome)=decide (K.T d=none):=by cases K.T d<;>simp
 rw[Ll]
 refine dI.and (decide (d.lo≠d.hi)) (fun _=>?_) rfl fun gs=>?_
 ·refine Ld.f ?_
  refine Ld.f ?_
  exact aa.nU ⟨rfl,rfl⟩
 rw[←Bool.decide_and]
 rw[←hC]
 refine Br.dec (fun hd=>?_) (fun hd=>?_)
 ·refine JM hmk (c:=fun o=>(YE,.cells (bg d).toArray 161 (0,0))::(xb,.cells (rows [bg ⟨x,c.su,c.pE⟩,bg ⟨x,c.sr,c.pD⟩]) 161 (0,0))::(mb,o)::(Na++C)) (fun o o'=>.tail (.tail (.head _))) (fun o=>.head _) fun es' c8 h1 gs=>?_
  exact next es' c8 _ _ h1 (by rw[U2];exact JW.step hd) .tail
 ·exact next es ck m _ hmk (by rw[U2];exact JW.skip hd) .tail
end
def gP(l:List Cx):Nat→Nat:=fun s=>(l.map fun c=>e1 (some c.d) s).sum
theorem kK(c:Cx)(l:List Cx)(s:Nat):gP (c::l) s=e1 (some c.d) s+gP l s:=by simp[gP]
theorem Df(c:Cx)(l:List Cx)(s:Nat):gP (l++[c]) s=gP l s+e1 (some c.d) s:=by simp[gP]
theorem QR(d:Nd)(s:Nat):e1 (some d) s≤2:=by rw[dg];split<;>split<;>omega
theorem tY(s:Nat):∀l:List Cx,gP l s≤2*l.length
 | []=>Nat.le_refl _
 |c::l=>by rw[kK,List.length_cons];have:=tY s l;have:=QR c.d s;omega
theorem vi{s:Nat}:∀{l:List Cx},0<gP l s→∃c∈l,c.d.lo=s∨c.d.hi=s
 | [],h=>by simp[gP]at h
 |c::l,h=>by
  rw[kK]at h
  by_cases h0:0<e1 (some c.d) s
  ·refine⟨c,by simp,?_⟩
   rw[dg]at h0
   by_cases h1:c.d.lo=s
   ·exact .inl h1
   ·by_cases h2:c.d.hi=s
    ·exact .inr h2
    ·simp[h1,h2]at h0
  ·obtain⟨c',hc,h1⟩:=vi (s:=s) (l:=l) (by omega)
   exact⟨c',by simp[hc],h1⟩
theorem BF{s:Nat}{c:Cx}(hs:c.d.lo=s∨c.d.hi=s):∀{l:List Cx},c∈l→0<gP l s
 |c'::l,h=>by
  rw[kK]
  rcases List.mem_cons.1 h with rfl|h
  ·rw[dg]
   rcases hs with hs|hs
   ·rw[if_pos hs];omega
   ·rw[if_pos hs];omega
  ·have:=BF hs h;omega
def Idle(K:Kd):Prop:=∀s,K.N s=none→K.use s=0
theorem pX{K:Kd}{S:Nat→aT.Fn}{E:Nat→Prop}{P:Nat→Nat}(hm:gK K S E P)(hi:Idle K){M:Nat}(hP:∀s,P s≤M)(s:Nat):K.use s≤2097153+M:=by
 cases h:K.N s with
 |none=>rw[hi s h];omega
 |some d=>
  rw[hm.use h]
  have:=wJ (N:=K.N) (r:=s) K.cap
  have:=hm.cap.2
  have:=hP s
  split<;>omega
section
variable {kp:Nat} {K K0:Kd} {ord ak tr:List Nat} {C:Hp} {S S0:Nat→aT.Fn} {Iw:Nat→Nat} {x y l:Nat} {all done rest:List Cx} {made:List Nd} {P:Nat→Nat}
theorem Hv(b:TB K0 S0 Iw x y l all made)(h:cz kp K ord ak tr C)(ht:TI K0 S0 Iw x y l made K S done rest P)(hd:∀c∈done,c∈all)(hr:∀c∈rest,c∈all){c:Cx}(hc:c∈all){k:Nd}(hk:k∈keys x c)
 (E6:PL P K.N)(G2:Idle K)(hP:∀s,P s≤4194304):
  Fc Tryz.prog 138 #[ptr kp,.int .i64 (k.v:Int),u32 k.lo,u32 k.hi] C (fun v C'=>∃r K' S',v=u32 r∧cz kp K' ord ak tr C'∧TI K0 S0 Iw x y l made K' S' done rest P∧sC K0 K' Iw x l r∧
   ((k.lo=k.hi∧r=k.lo)∨K'.N r=some k)∧PL P K'.N∧Idle K'∧(∀s d,K.N s=some d→K'.N s=some d)∧(∀s d,K'.N s=some d→s=r∨(K.N s=some d∧K.use s≤K'.use s))):=by
 have PG:K.n≤64:=by obtain⟨_,_,hO⟩:=h;exact hO.Ge
 have jc:=b.Jw hc
 have hkv:k.v=x∧pc K0 Iw l k.lo∧pc K0 Iw l k.hi:=by
  simp only[keys,List.mem_cons,List.not_mem_nil,or_false]at hk
  rcases hk with rfl|rfl
  ·exact⟨rfl,jc.1.1,jc.1.2⟩
  ·exact⟨rfl,jc.2.1,jc.2.2⟩
 have yq:=ht.ni b hd hkv.2.1
 have uQ:=ht.ni b hd hkv.2.2
 have SC:k.v<K.n:=by rw[hkv.1,ht.n];exact b.nb.xn
 by_cases he:k.lo=k.hi
 ·refine Fc.mono (by rw[←he];exact Kq C _ k.lo _) ?_
  rintro v C' ⟨rfl,rfl⟩
  exact⟨k.lo,K,S,rfl,h,ht,.inl hkv.2.1,.inl ⟨he,rfl⟩,E6,G2,fun _ _ h=>h,fun s d h=>.inr ⟨h,Nat.le_refl _⟩⟩
 cases hT:K.T k with
 |some r=>
  obtain⟨h1,h2⟩:=ht.found b hc hk hT
  refine Fc.mono (Ks h he SC hT) ?_
  rintro v C' ⟨rfl,rfl⟩
  exact⟨r,K,S,rfl,h,ht,h2,.inr h1,E6,G2,fun _ _ h=>h,fun s d h=>.inr ⟨h,Nat.le_refl _⟩⟩
 |none=>
  have hfit:∀{t:Nat},live K.N t→t<2∨t<K.us.length:=fun ht'=>by
   rcases ht' with ht'|⟨d,dh⟩
   ·exact .inl ht'
   ·exact .inr (ht.mid.fit dh)
  have hkm:=ht.GA b hd hr hc hk he hkv.2.1 hkv.2.2 hT
  refine Fc.mono (Kr h (d:=k) he ⟨by omega,yq,uQ⟩ SC hT (ht.fits b hkm hT) (hfit yq) (hfit uQ) (fun s=>by have:=pX ht.mid G2 hP s;omega)) ?_
  rintro v C' ⟨r,cJ,br,rfl,hN,h2,hrc,hlen,SY,vU,u0,u1,u2,o0,o1,qP⟩
  have X9:P r=0:=by
   apply Decidable.byContradiction
   intro hne
   obtain⟨d,dh⟩:=E6 r h2 (by omega)
   rw[hN]at dh;cases dh
  obtain⟨g1,g2⟩:=ht.lay b hd hr hc hk he hT hN ⟨h2,hrc⟩ hlen ⟨SY,vU⟩ u0 u1 o0 o1 X9
  have U1:∀s d,K.N s=some d→up K.N r (some k) s=some d:=fun s d hs=>by
   rw[aG (fun e=>by rw[e,hN]at hs;cases hs)];exact hs
  refine⟨r,_,_,rfl,qP,g1,g2,.inr aF,fun t IG h0=>?_,fun s hs=>?_,U1,fun s d hs=>?_⟩
  ·obtain⟨d,dh⟩:=E6 t IG h0
   exact⟨d,U1 t d dh⟩
  ·have hs':up K.N r (some k) s=none:=hs
   have hne:s≠r:=fun e=>by subst e;rw[aF]at hs';cases hs'
   rw[aG hne]at hs'
   show cJ.getD s 0=0
   by_cases Ot:2≤s
   ·rw[u1 s Ot hne,G2 s hs',dg]
    have a1:k.lo≠s:=fun e=>by
     rcases yq with h5|⟨d,h5⟩
     ·omega
     ·rw[e,hs']at h5;cases h5
    have a2:k.hi≠s:=fun e=>by
     rcases uQ with h5|⟨d,h5⟩
     ·omega
     ·rw[e,hs']at h5;cases h5
    simp[a1,a2]
   ·rw[u2 s (by omega),G2 s hs']
  ·have hs':up K.N r (some k) s=some d:=hs
   by_cases e:s=r
   ·exact .inl e
   ·rw[aG e]at hs'
    refine .inr ⟨hs',?_⟩
    show K.use s≤cJ.getD s 0
    rw[u1 s (ht.mid.two hs').1 e];omega
theorem Fm(h:cz kp K ord ak tr C)(ht:TI K0 S0 Iw x y l made K S done rest P)(E6:PL P K.N)(G2:Idle K)(hP:∀s,P s≤4194304){r:Nat}(hr:live K.N r):
  Fc Tryz.prog 139 #[ptr kp,u32 r] C (fun v C'=>∃K',v=.tuple #[]∧cz kp K' ord ak tr C'∧TI K0 S0 Iw x y l made K' S done rest (fun s=>P s+if s=r then 1 else 0)∧PL (fun s=>P s+if s=r then 1 else 0) K'.N∧Idle K'∧
   K'.N=K.N∧(∀s,K.use s≤K'.use s)∧(2≤r→0<K'.use r)):=by
 have hfit:r<2∨r<K.us.length:=by
  rcases hr with hr|⟨d,hd⟩
  ·exact .inl hr
  ·exact .inr (ht.mid.fit hd)
 refine Fc.mono (xG h hfit (by have:=pX ht.mid G2 hP r;omega)) ?_
 rintro v C' ⟨rfl,qP⟩
 by_cases h2:2≤r
 ·have hrd:∃d,K.N r=some d:=by
   rcases hr with hr|hr
   ·omega
   ·exact hr
  have hlt:r<K.us.length:=by omega
  refine⟨_,rfl,qP,(ht.use (fW r) (jG h2 hlt) (fun s hs=>pY hs)).congr (fun s _=>?_),fun t IG h0=>?_,fun s hs=>?_,rfl,fun s=>?_,fun _=>?_⟩
  ·unfold up
   split
   ·rename_i e;subst e;rfl
   ·rfl
  ·by_cases e:t=r
   ·subst e;exact hrd
   ·simp[e]at h0;exact E6 t IG h0
  ·show(oL K r).getD s 0=0
   have hne:s≠r:=fun e=>by
    obtain⟨d,hd⟩:=hrd
    have hs':K.N s=none:=hs
    rw[e,hd]at hs';cases hs'
   rw[pY hne];exact G2 s hs
  ·show K.use s≤(oL K r).getD s 0
   by_cases e:s=r
   ·subst e;rw[jG h2 hlt];omega
   ·rw[pY e];exact Nat.le_refl _
  ·show 0<(oL K r).getD r 0
   rw[jG h2 hlt];omega
 ·have e:oL K r=K.us:=by unfold oL;rw[if_pos (by omega)]
  have eK:({K with us:=oL K r}:Kd)=K:=by rw[e]
  rw[eK]at qP
  refine⟨K,rfl,qP,ht.congr (fun s hs=>?_),fun t IG h0=>?_,G2,rfl,fun _=>Nat.le_refl _,fun h=>absurd h h2⟩
  ·rw[if_neg (by omega)];rfl
  ·have R5:0<P t+if t=r then 1 else 0:=h0
   rw[if_neg (by omega)]at R5;exact E6 t IG R5
theorem sC.mono{K K':Kd}(h:sC K0 K Iw x l y)(hm:∀s d,K.N s=some d→K'.N s=some d):sC K0 K' Iw x l y:=by
 rcases h with h|⟨e,h1,h2⟩
 ·exact .inl h
 ·exact .inr ⟨e,hm _ _ h1,h2⟩
end
section
variable {kp:Nat} {K:Kd} {ord ak tr:List Nat} {C:Hp} {S:Nat→aT.Fn}
structure Kept(K:Kd)(S:Nat→aT.Fn)(K':Kd)(S':Nat→aT.Fn):Prop where
 n:K'.n=K.n
 cap:K'.cap=K.cap
 hold:∀r,K'.hold r=K.hold r
 held:∀g,K'.held S' g↔K.held S g
 fn:∀r,K.hold r≠0→S' r=S r
theorem My{x y l:Nat}(hne:x≠y)(hx:x<ak.length)(hy:y<ak.length):lv ((ak.set x (l+1)).set y l)=pn (lv ak) x y l:=by
 funext v
 show((ak.set x (l+1)).set y l).getD v 0=_
 rw[fG (by simpa using hy),fG hx]
 unfold pn
 by_cases e:v=y
 ·rw[if_pos e,if_neg (by rw[e];exact Ne.symm hne),if_pos e]
 ·rw[if_neg e,if_neg e]
theorem FY(c:Cx)(rest:List Cx):gP (c::rest)=fA (fA (gP rest) [c.d.hi]) [c.d.lo]:=by
 funext s
 rw[kK,dg]
 unfold fA
 simp only[List.count_cons,List.count_nil,beq_iff_eq]
 omega
theorem Gk{x:Nat}{all:List Cx}{made:List Nd}(h:Made K x all made):made.length≤2*all.length:=by
 have h1:=bX (l':=all.flatMap (keys x)) h.nd fun k hk=>by
  obtain⟨⟨c,hc,hk'⟩,_⟩:=(h.mem k).1 hk
  exact List.mem_flatMap.2 ⟨c,hc,hk'⟩
 have h2:(all.flatMap (keys x)).length=2*all.length:=by
  clear h1 h
  induction all with
  |nil=>rfl
  |cons c all ih=>rw[List.flatMap_cons,List.length_append,ih,List.length_cons];simp[keys];omega
 omega
theorem Fv{x y l:Nat}{K1:Kd}{S1:Nat→aT.Fn}{all:List Cx}{made:List Nd}(b:TB K S (lv ak) x y l all made)(h:TI K S (lv ak) x y l made K1 S1 all [] (gP all))(hnew:∀r d,K.N r=none→K1.N r=some d→0<K1.use r):Pos K1:=by
 intro r d hd
 cases hN:K.N r with
 |none=>exact hnew r d hN hd
 |some d0=>
  rw[h.mid.use hd]
  rcases b.ok.reach r d0 hN with hh|⟨p,e,hp,Oa⟩
  ·have nV:K1.hold r≠0:=by rw[h.hold];exact hh
   rw[if_neg nV];omega
  ·by_cases hm:p∈all.map Cx.r
   ·obtain⟨c,hc,rfl⟩:=List.mem_map.1 hm
    have hcd:=(b.j7 hc).1
    rw[hp]at hcd;cases hcd
    have:=BF (s:=r) Oa hc
    omega
   ·have r9:=h.old hp hm
    have:cF K1.N r K1.cap≠0:=fun he=>by
     have:=gG he p (h.mid.two r9).2 e r9
     rcases Oa with Oa|Oa
     ·exact this.1 Oa
     ·exact this.2 Oa
    omega
theorem Bv(h:cz kp K ord ak tr C)(hok:Ok K S (lv ak))(ho:Ord K.n (lv ak) ord)(G2:Idle K){l:Nat}(hl:l+1<K.n):
  Fc Tryz.prog 59 #[ptr kp,.int .i64 (l:Int)] C (fun r C'=>
   (uX K.n ord l (K.held S)+2≤K.cap∧r=.bool true∧∃K' S' eP,cz kp K' (ew ord l) eP tr C'∧Ok K' S' (lv eP)∧Ord K'.n (lv eP) (ew ord l)∧Idle K'∧Kept K S K' S')∨
   (K.cap<uX K.n ord l (K.held S)+2∧r=.bool false∧C'=C)):=by
 have h0:=h
 have hcap:=h.cap
 obtain⟨b,hC,hO⟩:=h
 have sg:=hO.ol
 have PG:=hO.Ge
 have nb:=ho.nb hl
 obtain⟨x,hx⟩:∃x,x=ord.getD l 0:=⟨_,rfl⟩
 obtain⟨y,hy⟩:∃y,y=ord.getD (l+1) 0:=⟨_,rfl⟩
 rw[←hx,←hy]at nb
 refine aX fun g=>EA ?_
 have hmk:(kp,Obj.cells (b.cells K.n) 117 (0,0))∈C:=by rw[hC];exact .head _
 have Lk:∀z∈b.CO,z∈C:=by rw[hC];exact aZ.sub (.cons (.app (.app (.app (.app .left)))))
 refine Ld.v hmk ?_
 refine hO.od.ld (x:=(x:Int)) (by rw[hx];exact bf (by omega)) Lk ?_
 refine Ld.v hmk ?_
 refine aa.inc ?_
 refine hO.od.ld (x:=(y:Int)) (by rw[hy];exact bf (by omega)) Lk ?_
 refine ae.fq (uD h0 hok nb.xn) ?_
 rintro w H ⟨all,Na,rfl,aA,DJ,hlen⟩
 refine DR.self (Nil.ptr (ag.mk ?_))
 refine ae.rq (Hy h0 nb.xn aA hlen) ?_
 rintro w ⟨made,rfl,GS⟩
 have hml:=Gk GS
 have BU:=hok.mid.cap
 have SI:=hok.mid.room
 refine ae.eq (vL h0 (m:=made.length) (by omega) (by omega)) ?_
 have Xc:uX K.n ord l (K.held S)=K.used-2+made.length:=Fl (Fw hok ho hl (by rw[←hx,←hy];exact DJ) (by rw[←hx];exact GS))
 refine Un.not ?_
 by_cases hroom:K.used+made.length≤K.cap
 rotate_left
 ·rw[decide_eq_false hroom]
  exact Br.yes (bN.mk .right (.inr ⟨by omega,rfl,rfl⟩))
 rw[decide_eq_true hroom]
 refine Br.no ?_
 have tb:TB K S (lv ak) x y l all made:=⟨hok,nb,DJ,GS,hroom⟩
 have fT:=DJ.nd
 have hge:∀{i:Nat} {c:Cx},all[i]? =some c→c.r∉(all.take i).map Cx.r:=fun{i c} nW hm=>by
  have h1:(all.take (i+1)).map Cx.r=(all.take i).map Cx.r++[c.r]:=by rw[List.take_add_one,nW,List.map_append];rfl
  have h2:((all.take (i+1)).map Cx.r).Nodup:=fT.sublist ((List.take_sublist _ _).map _)
  rw[h1]at h2
  exact(List.nodup_append.1 h2).2.2 _ hm _ (by simp) rfl
 have lP:∀{i:Nat} {c:Cx},all[i]? =some c→all.take (i+1)=all.take i++[c]:=fun nW=>by rw[List.take_add_one,nW];rfl
 have RM:∀{i:Nat} {c:Cx},all[i]? =some c→all.drop i=c::all.drop (i+1):=fun{i c} nW=>by
  obtain⟨hi,e⟩:=List.getElem?_eq_some_iff.1 nW
  rw[List.drop_eq_getElem_cons hi,e]
 have MX:∀{i:Nat},∀c∈all.take i,c∈all:=fun c hc=>List.mem_of_mem_take hc
 have Xv:∀{i:Nat},∀c∈all.drop i,c∈all:=fun c hc=>List.mem_of_mem_drop hc
 refine aA.aM ?_
 rw[List.length_map]
 refine⟨fun vs H=>∃(i:Nat) (T':Nd→Option Nat) (C1:Hp),vs=[.int .i64 (i:Int)]∧H=Na++C1∧i≤all.length∧cz kp {K with T:=T'} ord ak tr C1∧gK {K with T:=T'} S (fun s=>∃c∈all.take i,s=c.r) zero'∧(∀d,T' d=none∨T' d=K.T d),
  fun vs _=>all.length-aV vs 0,JE.mk ⟨0,K.T,C,rfl,rfl,Nat.zero_le _,h0,hok.mid.congr (fun s=>by simp[fO]) (fun _ _=>rfl),fun _=>.inr rfl⟩,?_⟩
 rintro w H ⟨i,T',C1,hw,rfl,hi,qO,DN,DM⟩ gs
 simp only[List.cons.injEq,and_true]at hw
 subst hw
 refine aa.dn (Br.dec (fun hlt=>?_) (fun J6=>?_))
 ·obtain⟨c,nW⟩:∃c,all[i]? =some c:=⟨_,List.getElem?_eq_getElem hlt⟩
  have G9:c∈all:=List.mem_of_getElem? nW
  obtain⟨uu,P8,hce⟩:=tb.j7 G9
  refine aA.BQ (r:=iN c) (by rw[List.getElem?_map,nW];rfl) (fun z hz=>List.mem_append_left _ hz) ?_
  intro b31 _
  refine St.p (iG _) ?_
  obtain⟨b1,rfl,LU⟩:=qO
  refine DR.self (Nil.ptr (ag.mk (Ld.f ?_)))
  refine ag.mk (ax.mk (vs:=(bg c.d).toArray) (.head _) (by simp[iN]) rfl ?_)
  have X1:T' c.d=some c.r:=(DN.gj c.d c.r).2 ⟨uu,by rintro⟨c',jB,e⟩;exact hge nW (e▸List.mem_map_of_mem jB)⟩
  refine ae.fq (sM (d:=c.d) LU.ut (hok.mid.var uu) X1) ?_
  rintro v IL ⟨rfl,ML⟩
  refine aa.inc ?_
  refine aq.of .tail ⟨i+1,mO T' c.d none,_,rfl,rfl,by omega,⟨{b1 with CT:=IL},rfl,{LU with ut:=ML}⟩,(DN.Ts (r:=c.r) (d:=c.d) uu ?_).congr (fun s=>?_) (fun _ _=>rfl),fun d=>?_⟩ (by simp[aV];omega)
  ·rintro⟨c',jB,e⟩;exact hge nW (e▸List.mem_map_of_mem jB)
  ·rw[lP nW]
   constructor
   ·rintro(⟨c',jB,e⟩|e)
    ·exact⟨c',List.mem_append_left _ jB,e⟩
    ·exact⟨c,by simp,e⟩
   ·rintro⟨c',jB,e⟩
    rcases List.mem_append.1 jB with jB|jB
    ·exact .inl ⟨c',jB,e⟩
    ·simp at jB;subst jB;exact .inr e
  ·unfold mO
   split
   ·exact .inl rfl
   ·exact DM d
 have hi':i=all.length:=by omega
 subst hi'
 rw[List.take_length]at DN
 have Vx:=tb.start DN DM
 refine aA.aM ?_
 rw[List.length_map]
 refine⟨fun vs H=>∃(i:Nat) (K1:Kd) (S1:Nat→aT.Fn) (C1:Hp),vs=[.int .i64 (i:Int)]∧H=Na++C1∧i≤all.length∧cz kp K1 ord ak tr C1∧TI K S (lv ak) x y l made K1 S1 (all.take i) (all.drop i) (gP (all.take i))∧
   PL (gP (all.take i)) K1.N∧Idle K1∧(∀r d,K.N r=none→K1.N r=some d→0<K1.use r),
  fun vs _=>all.length-aV vs 0,JE.mk ⟨0,_,S,C1,rfl,rfl,Nat.zero_le _,qO,Vx,fun t _ h=>by simp[gP]at h,G2,fun r d h1 h2=>by rw[h1]at h2;cases h2⟩,?_⟩
 clear Vx DN DM qO T' C1 J6 hi
 rintro w H ⟨i,K1,S1,C1,hw,rfl,hi,qO,DM,Kk,G1,Ls⟩ gs
 simp only[List.cons.injEq,and_true]at hw
 subst hw
 refine aa.dn (Br.dec (fun hlt=>?_) (fun J6=>?_))
 ·obtain⟨c,nW⟩:∃c,all[i]? =some c:=⟨_,List.getElem?_eq_getElem hlt⟩
  have G9:c∈all:=List.mem_of_getElem? nW
  obtain⟨uu,P8,hce⟩:=tb.j7 G9
  rw[RM nW]at DM
  have fR:∀c'∈c::all.drop (i+1),c'∈all:=by rw[←RM nW];exact Xv
  have Qw:∀s,gP (all.take i) s≤2097152:=fun s=>by have:=tY s (all.take i);rw[List.length_take]at this;omega
  refine aA.BQ (r:=iN c) (by rw[List.getElem?_map,nW];rfl) (fun z hz=>List.mem_append_left _ hz) ?_
  intro b53 _
  refine St.p (iG _) ?_
  refine DR.self (Nil.ptr (ag.mk ?_))
  refine Ld.f ?_
  refine Ld.f ?_
  refine ae.fq (Hv tb qO DM MX fR G9 (k:=⟨x,c.su,c.pE⟩) (by simp[keys]) Kk G1 (fun s=>by have:=Qw s;omega)) ?_
  rintro w C2 ⟨t0,K2,S2,rfl,oY,Qq,O4,g0,Kj,yw,UO,Sv⟩
  refine Nil.ptr (ag.mk ?_)
  refine ae.fq (Fm oY Qq Kj yw (fun s=>by have:=Qw s;omega) (Qq.nq tb MX O4)) ?_
  rintro w C3 ⟨K3,rfl,ny,X3,Nx,Tv,T4,SK,Pz⟩
  have Qv:∀s,(gP (all.take i) s+if s=t0 then 1 else 0)≤2097153:=fun s=>by have:=Qw s;split<;>omega
  refine DR.self (Nil.ptr (ag.mk ?_))
  refine Ld.f ?_
  refine Ld.f ?_
  refine ae.fq (Hv tb ny X3 MX fR G9 (k:=⟨x,c.sr,c.pD⟩) (by simp[keys]) Nx Tv (fun s=>by have:=Qv s;omega)) ?_
  rintro w C4 ⟨t1,K4,S4,rfl,NA,T0,O3,g1,Nw,Tu,La,Su⟩
  refine Nil.ptr (ag.mk ?_)
  refine ae.fq (Fm NA T0 Nw Tu (fun s=>by have:=Qv s;omega) (T0.nq tb MX O3)) ?_
  rintro w C5 ⟨K5,rfl,E8,RR,Ya,Tt,Qz,SJ,Py⟩
  have Le:sC K K5 (lv ak) x l t0:=sC.mono O4 (fun s d hs=>by rw[Qz];exact La s d (by rw[T4];exact hs))
  have Lc:sC K K5 (lv ak) x l t1:=sC.mono O3 (fun s d hs=>by rw[Qz];exact hs)
  have Yv:(c.su=c.pE∧t0=c.su)∨K5.N t0=some ⟨x,c.su,c.pE⟩:=by
   rcases g0 with g0|g0
   ·exact .inl g0
   ·exact .inr (by rw[Qz];exact La _ _ (by rw[T4];exact g0))
  have Yu:(c.sr=c.pD∧t1=c.sr)∨K5.N t1=some ⟨x,c.sr,c.pD⟩:=by
   rcases g1 with g1|g1
   ·exact .inl g1
   ·exact .inr (by rw[Qz];exact g1)
  have Tj:((all.take i++c::all.drop (i+1)).map Cx.r).Nodup:=by rw[←RM nW,List.take_append_drop];exact fT
  obtain⟨X0,TZ⟩:=RR.tO tb MX fR Tj Le Lc Yv Yu (P':=gP (all.take (i+1))) (fun s _=>by
   rw[lP nW,Df,dg ⟨y,t0,t1⟩]
   have YA:(if t0=s then 1 else 0)=(if s=t0 then 1 else 0:Nat):=by split<;>split<;>first|rfl|(exfalso;omega)
   have Yy:(if t1=s then 1 else 0)=(if s=t1 then 1 else 0:Nat):=by split<;>split<;>first|rfl|(exfalso;omega)
   simp only[YA,Yy]
   omega)
  have GV:∀{t:Nat},sC K K5 (lv ak) x l t→live K5.N t:=fun hk=>RR.nq tb MX hk
  have Ni:∃e,K5.N c.r=some e:=RR.kept uu
  refine Build.mk (cs:=bg ⟨y,t0,t1⟩) (by kernel_rfl) ?_
  intro b83 _
  refine St.p (fun z hz=>by simp[bg,u32]at hz;rcases hz with rfl|rfl|rfl<;>rfl) ?_
  obtain⟨b5,rfl,RU⟩:=E8
  refine DR.self (Nil.ptr (ag.mk (Ld.f ?_)))
  refine Ld.f ?_
  refine ax.q ?_
  have MJ:y<K5.n:=by rw[RR.n];exact nb.yn
  refine ae.fq (KI (d:=⟨y,t0,t1⟩) RU.ar ⟨by show y<64;have:=RU.Ge;omega,GV Le,GV Lc⟩ Ni (tb.ok.mid.two uu).1) ?_
  rintro w Rc ⟨rfl,Qi⟩
  refine DR.self (Nil.ptr (ag.mk (Ld.f ?_)))
  refine ax.q ?_
  refine Ld.f ?_
  refine ae.fq (Bu (d:=⟨y,t0,t1⟩) (r:=c.r) RU.ut MJ X0) ?_
  rintro w IL ⟨rfl,ML⟩
  refine aa.inc ?_
  refine aq.of (.skip .tail) ⟨i+1,{K5 with N:=up K5.N c.r (some ⟨y,t0,t1⟩),T:=mO K5.T ⟨y,t0,t1⟩ (some c.r)},S4,_,rfl,rfl,by omega,⟨{b5 with CA:=Rc,CT:=IL},rfl,{RU with ar:=Qi,ut:=ML}⟩,by rw[lP nW]at TZ⊢;exact TZ,fun t IG hp=>?_,fun s hs=>?_,fun r d Dy hrd=>?_⟩ (by simp[aV];omega)
  ·obtain⟨c',jB,jd⟩:=vi hp
   have TL:=MX c' jB
   have Hf:=(tb.j7 TL).1
   have hlv:live K.N t:=by
    rcases jd with rfl|rfl
    ·exact tb.ok.mid.lo Hf
    ·exact tb.ok.mid.hi Hf
   rcases hlv with hlv|⟨d,hd⟩
   ·omega
   ·exact TZ.kept hd
  ·have hs':up K5.N c.r (some ⟨y,t0,t1⟩) s=none:=hs
   have hne:s≠c.r:=fun e=>by subst e;rw[aF]at hs';cases hs'
   rw[aG hne]at hs'
   exact Tt s hs'
  ·have MR:up K5.N c.r (some ⟨y,t0,t1⟩) r=some d:=hrd
   have hne:r≠c.r:=fun e=>by rw[e,uu]at Dy;cases Dy
   rw[aG hne,Qz]at MR
   have R3:2≤r:=(T0.mid.two MR).1
   show 0<K5.use r
   rcases Su r d MR with e|⟨h3,Xd⟩
   ·rw[e]at R3⊢;exact Py R3
   ·rw[T4]at h3
    have h5:=SJ r
    rcases Sv r d h3 with e|⟨h1,Rw⟩
    ·rw[e]at R3⊢h5 Xd;have:=Pz R3;omega
    ·have:=Ls r d Dy h1
     have:=SK r
     omega
 have hi':i=all.length:=by omega
 subst hi'
 rw[List.take_length,List.drop_length]at DM
 rw[List.take_length]at Kk
 have r9:=Fv tb DM Ls
 refine aA.aM ?_
 rw[List.length_map]
 refine⟨fun vs H=>∃(i:Nat) (K2:Kd) (C2:Hp),vs=[.int .i64 (i:Int)]∧H=Na++C2∧i≤all.length∧cz kp K2 ord ak tr C2∧gK K2 S1 fO (gP (all.drop i))∧Pos K2∧PL (gP (all.drop i)) K2.N∧sB K2 K1,
  fun vs _=>all.length-aV vs 0,JE.mk ⟨0,K1,C1,rfl,rfl,Nat.zero_le _,qO,DM.mid.congr (fun s=>by simp[fO]) (fun _ _=>rfl),r9,Kk,.refl K1⟩,?_⟩
 clear qO Kk hi J6 C1
 rintro w H ⟨i,K2,C2,hw,rfl,hi,oY,E7,iP,Kj,fu⟩ gs
 simp only[List.cons.injEq,and_true]at hw
 subst hw
 refine aa.dn (Br.dec (fun hlt=>?_) (fun J6=>?_))
 ·obtain⟨c,nW⟩:∃c,all[i]? =some c:=⟨_,List.getElem?_eq_getElem hlt⟩
  have G9:c∈all:=List.mem_of_getElem? nW
  obtain⟨uu,P8,hce⟩:=tb.j7 G9
  have Qw:∀s,gP (all.drop i) s≤2097152:=fun s=>by have:=tY s (all.drop i);rw[List.length_drop]at this;omega
  have hlo:=h0.lt (hok.mid.lo uu)
  have hhi:=h0.lt (hok.mid.hi uu)
  refine aA.BQ (r:=iN c) (by rw[List.getElem?_map,nW];rfl) (fun z hz=>List.mem_append_left _ hz) ?_
  intro YK _
  refine St.p (iG _) ?_
  refine DR.self (Nil.ptr (ag.mk ?_))
  refine ag.mk (Ld.f ?_)
  have yw:Idle K2:=fu.idle G1
  have SL:∀s,K2.use s<2147483648:=fun s=>by have:=pX E7 yw Qw s;omega
  rw[RM nW,FY]at E7 Kj
  refine ae.fq (my oY E7 iP Kj hlo SL) ?_
  rintro w C3 ⟨rfl,K3,ny,RV,Lp,Nx,GY⟩
  refine DR.self (Nil.ptr (ag.mk ?_))
  refine ag.mk (Ld.f ?_)
  refine ae.fq (my ny RV Lp Nx hhi (fun s=>Nat.lt_of_le_of_lt (GY.us s) (SL s))) ?_
  rintro w C4 ⟨rfl,K4,NA,Yd,Ob,Nw,MY⟩
  refine aa.inc ?_
  exact aq.of .tail ⟨i+1,K4,C4,rfl,rfl,by omega,NA,Yd,Ob,Nw,MY.trans (GY.trans fu)⟩ (by simp[aV];omega)
 have hi':i=all.length:=by omega
 subst hi'
 rw[List.drop_length]at E7
 have yw:Idle K2:=fu.idle G1
 obtain⟨f1,f2,f3⟩:=DM.fin tb (K':=K2) (E7.congr (fun _=>Iff.rfl) (fun _ _=>rfl)) iP (fun h=>fu.N h) fu.n (fun r=>by show K2.ho.getD r 0=K1.ho.getD r 0;rw[fu.ho])
 have JV:K2.n=K.n:=by rw[fu.n,DM.n]
 obtain⟨b2,rfl,LS⟩:=oY
 refine DR.self (Ld.n ?_)
 refine Ld.n ?_
 refine aa.inc ?_
 refine LS.od.gO (x:=(y:Int)) (.app (.cons (.app (.app (.app (.app .left)))))) (by rw[ah];omega) fun CO1 xu=>?_
 refine xu.gO (x:=(x:Int)) (.app (.cons (.app (.app (.app (.app .left)))))) (by rw[List.length_set,ah];omega) fun Zc lg=>?_
 refine DR.self (Ld.n ?_)
 refine Ld.n ?_
 refine aa.inc ?_
 have BV:=LS.ol.2
 have SC:=nb.xn
 have MJ:=nb.yn
 refine LS.lv.gO (x:=((l+1:Nat):Int)) (.app (.cons (.app (.app (.app (.app (.app .left))))))) (by rw[ah];omega) fun CL1 yq=>?_
 refine yq.gO (x:=(l:Int)) (.app (.cons (.app (.app (.app (.app (.app .left))))))) (by rw[List.length_set,ah];omega) fun Ze uQ=>?_
 rw[eR,eR]at lg uQ
 have MO:(ord.set l y).set (l+1) x=ew ord l:=by rw[hx,hy];rfl
 rw[MO]at lg
 have hlv:lv ((ak.set x (l+1)).set y l)=pn (lv ak) x y l:=My nb.ne (by omega) (by omega)
 refine bN.mk .right (.inl ⟨by omega,rfl,K2,S1,_,⟨{b2 with CO:=Zc,CL:=Ze},rfl,{LS with od:=lg,lv:=uQ,ol:=?_}⟩,by rw[hlv];exact f1,by rw[hlv,JV,hx,hy];exact I2 ho hl,yw,JV,by rw[fu.cap,DM.cap],fun r=>?_,f2,f3⟩)
 ·rw[gS];simp;exact LS.ol
 ·show K2.ho.getD r 0=K.hold r
  rw[fu.ho];exact DM.hold r
end
structure gM(kp:Nat)(K:Kd)(S:Nat→aT.Fn)(ord ak tr:List Nat)(C:Hp):Prop where
 rep:cz kp K ord ak tr C
 ok:Ok K S (lv ak)
 od:Ord K.n (lv ak) ord
 idle:Idle K
 tr:sA K.n K.cap (K.held S) ord tr.reverse
theorem Kept.refl(K:Kd)(S:Nat→aT.Fn):Kept K S K S:=⟨rfl,rfl,fun _=>rfl,fun _=>Iff.rfl,fun _ _=>rfl⟩
theorem Kept.trans{K K' K2:Kd}{S S' S2:Nat→aT.Fn}(h:Kept K S K' S')(h':Kept K' S' K2 S2):Kept K S K2 S2:=
 ⟨h'.n.trans h.n,h'.cap.trans h.cap,fun r=>(h'.hold r).trans (h.hold r),fun g=>(h'.held g).trans (h.held g),fun r hr=>(h'.fn r (by rw[h.hold];exact hr)).trans (h.fn r hr)⟩
section
variable {kp:Nat} {K:Kd} {ord ak tr:List Nat} {C:Hp} {S:Nat→aT.Fn}
theorem HD(h:gM kp K S ord ak tr C){l:Int}(hl:¬(0≤l∧l+1<K.n)):Rd Tryz.prog 17 #[ptr kp,.int .i64 l] C (· =.int .i64 1):=by
 obtain⟨b,rfl,hO⟩:=h.rep
 have hn:=hO.Ge
 refine aX fun g=>tK ?_
 refine aa.aB (Br.no (aa.lss ?_))
 refine dI.or (decide ((K.n:Int) -2<l)) (fun _=>?_) (by simp) fun gs=>?_
 ·refine Ld.n ?_
  refine aa.jm (c:=(K.n:Int) -2) rfl (by omega) ?_
  exact aa.gtr ⟨rfl,rfl⟩
 ·rw[←Bool.decide_or]
  exact Br.T (bO.mk (.refl _) rfl)
theorem B8(h:gM kp K S ord ak tr C){l:Nat}(hl:l+1<K.n)(pz:tr.length<1099511627776):Fc Tryz.prog 17 #[ptr kp,.int .i64 (l:Int)] C (fun r C'=>
   (uX K.n ord l (K.held S)+2≤K.cap∧r=.int .i64 0∧∃K' S' eP,gM kp K' S' (ew ord l) eP (tr++[l]) C'∧Kept K S K' S')∨
   (K.cap<uX K.n ord l (K.held S)+2∧r=.int .i64 9∧C'=C)):=by
 have h0:=h
 obtain⟨b,hC,hO⟩:=h.rep
 have hn:=hO.Ge
 refine aX fun g=>tK ?_
 refine aa.aB (Br.no (aa.lss ?_))
 refine dI.or (decide ((K.n:Int) -2<l)) (fun _=>?_) (by simp) fun gs=>?_
 ·refine Ld.v (by rw[hC];exact .head _) ?_
  refine aa.jm (c:=(K.n:Int) -2) rfl (by omega) ?_
  exact aa.gtr ⟨rfl,rfl⟩
 ·rw[←Bool.decide_or]
  refine Br.F ?_
  refine ae.fq (Bv h.rep h.ok h.od h.idle hl) ?_
  rintro w C' (⟨hfit,rfl,K',S',eP,qP,qI,MU,ur,nx⟩|⟨hno,rfl,rfl⟩)
  ·refine Un.not (Br.no ?_)
   obtain⟨b',rfl,uy⟩:=qP
   refine Ld.n ?_
   refine an.int (e:=3) (by kernel_rfl) (by kernel_rfl) (by kernel_rfl) fun bx=>?_
   refine uy.tr.nO (.cons (.cons (.app (.app (.app (.app (.app (.app .here)))))))) (by exact .head _) (by rw[ah];omega) (by rw[ah];omega) fun v' IM br=>?_
   refine Nil.ptr (ag.mk (St.one (by exact .tail (.head _)) br.one (by simp[rX.cells]) rfl ?_))
   refine bN.mk .tail (.inl ⟨hfit,rfl,K',S',eP,⟨⟨{b' with vt:=v',CR:=IM},rfl,{uy with tr:=by rw[bY];exact br}⟩,qI,MU,ur,?_⟩,nx⟩)
   rw[nx.n,nx.cap]
   exact(sA.Uq hO.ol.1 hl hfit h.tr).congr fun g=>(nx.held g).symm
  ·exact Un.not (Br.yes (bN.here (.inr ⟨hno,rfl,rfl⟩)))
theorem IV{l:Nat}(h:gM kp K S ord ak (tr++[l]) C)(pz:tr.length<1099511627776):Fc Tryz.prog 18 #[ptr kp] C (fun r C'=>
   r=.tuple #[.int .i64 (l:Int),.int .i64 0]∧l+1<K.n∧∃K' S' eP,gM kp K' S' (ew ord l) eP tr C'∧Kept K S K' S'):=by
 have h0:=h
 obtain⟨b,hC,hO⟩:=h.rep
 have hn:=hO.Ge
 have MM:=h.tr
 rw[List.reverse_append]at MM
 obtain⟨hl,hfit,SM⟩:l+1<K.n∧uX K.n ord l (K.held S)+2≤K.cap∧sA K.n K.cap (K.held S) (ew ord l) tr.reverse:=MM
 have hmk:(kp,Obj.cells (b.cells K.n) 117 (0,0))∈C:=by rw[hC];exact .head _
 refine aX fun g=>ES ?_
 refine aa.aB ?_
 refine dI.or false (fun _=>?_) rfl fun gs=>Br.no ?_
 ·refine Ld.v hmk ?_
  refine hO.tr.aM ?_
  refine aa.j5 ⟨rfl,?_⟩
  rw[decide_eq_false]
  rw[ah,List.length_append];simp;omega
 refine Ld.v hmk ?_
 refine hO.tr.aM ?_
 rw[ah,List.length_append]
 refine aa.bS (a:=tr.length+1) (b:=1) ?_
 rw[Nat.add_sub_cancel]
 refine Ld.v hmk ?_
 refine hO.tr.ld (i:=tr.length) (x:=(l:Int)) (by rw[bY];simp[iw]) (by rw[hC];exact aZ.sub (.cons (.app (.app (.app (.app (.app (.app .here)))))))) ?_
 refine ae.fq (Bv h.rep h.ok h.od h.idle hl) ?_
 rintro w C' (⟨_,rfl,K',S',eP,qP,qI,MU,ur,nx⟩|⟨hno,rfl,rfl⟩)
 rotate_left
 ·omega
 obtain⟨b',rfl,uy⟩:=qP
 refine Ld.n ?_
 refine uy.tr.cut (i:=tr.length) (by rw[ah];simp) fun v' BT=>?_
 refine Nil.ptr (ag.mk (St.one (by exact .head _) BT.one (by simp[rX.cells]) rfl ?_))
 refine bN.here ⟨rfl,hl,K',S',eP,⟨⟨{b' with vt:=v'},rfl,{uy with tr:=by rw[bY,List.take_left' (by simp)]at BT;exact BT}⟩,qI,MU,ur,?_⟩,nx⟩
 rw[nx.n,nx.cap]
 exact SM.congr fun g=>(nx.held g).symm
theorem gM.eI(h:gM kp K S ord ak tr C){r:Nat}(hl:live K.N r):r<1048576:=h.rep.lt hl
theorem gM.kS(h:gM kp K S ord ak tr C)(r:Nat):K.hold r≤65535:=h.ok.mid.mx r
theorem gM.Fo(h:gM kp K S ord ak tr C)(r:Nat):K.use r≤2097153:=by have:=pX h.ok.mid h.idle (M:=0) (fun _=>Nat.le_refl _) r;omega
structure NO(K K':Kd)(r:Nat):Prop where
 n:K'.n=K.n
 cap:K'.cap=K.cap
 used:K'.used=K.used
 N:K'.N=K.N
 hold:∀s,K'.hold s=if s=r∧2≤r then K.hold s+1 else K.hold s
theorem Dv(h:gM kp K S ord ak tr C){r:Nat}(hl:live K.N r)(h2:2≤r)(hf:K.hold r=65535):Rd Tryz.prog 121 #[ptr kp,u32 r] C (· =.int .i64 8):=by
 have hr:=h.eI hl
 obtain⟨b,hC,hO⟩:=h.rep
 have hfit:r<K.ho.length:=by
  rcases hl with hl|⟨d,hd⟩
  ·omega
  ·rw[←hO.ul.1];exact h.ok.mid.fit hd
 refine aX fun g=>rP ?_
 refine aa.aB (Br.no (Nil.ptr (ag.mk ?_)))
 refine ae.eq (jW h.rep (by omega)) ?_
 rw[cm.2 hl]
 refine Un.not (Br.no ?_)
 intro J7 _
 refine aa.iR (b:=1) (Br.T ?_)
 refine Nil.ptr (ag.mk (Ld.u (by rw[hC];exact .head _) ?_))
 refine hO.ho.ld (x:=((K.hold r:Nat):Int)) (bf hfit) (by rw[hC];exact aZ.sub (.cons (.app (.app (.app .left))))) ?_
 rw[hf]
 exact aa.j5 (Br.T (bO.mk (.refl _) rfl))
theorem vP(h:cz kp K ord ak tr C)(LV:gK K S fO zero')(J5:Idle K){r:Nat}(hl:live K.N r)(hf:2≤r→K.hold r<65535):Fc Tryz.prog 121 #[ptr kp,u32 r] C (fun v C'=>v=.int .i64 0∧∃K',cz kp K' ord ak [] C'∧
  gK K' S fO zero'∧Idle K'∧NO K K' r∧(∀s,K.use s≤K'.use s)∧(2≤r→0<K'.use r)):=by
 have hr:=h.lt hl
 have h0:=h
 obtain⟨b,hC,hO⟩:=h
 refine aX fun g=>rP ?_
 refine aa.aB (Br.no (Nil.ptr (ag.mk ?_)))
 refine ae.eq (jW h0 (by omega)) ?_
 rw[cm.2 hl]
 refine Un.not (Br.no ?_)
 intro J7 Yh
 have fin:∀(K':Kd) C1,cz kp K' ord ak tr C1→gK K' S fO zero'→Idle K'→NO K K' r→(∀s,K.use s≤K'.use s)→(2≤r→0<K'.use r)→J7 [] C1:=fun K' C1 qP qI ur hm hu hp=>by
  refine Yh _ fun gs=>?_
  obtain⟨b',rfl,uy⟩:=qP
  refine Nil.ptr (ag.mk (St.one (by exact .head _) rfl (by simp[rX.cells]) rfl ?_))
  refine bN.mk (jD:=({b' with vt:=.slice none 0 0,CR:=[]}:rX).hp kp K'.n) ?_ ⟨rfl,K',⟨{b' with vt:=.slice none 0 0,CR:=[]},rfl,{uy with tr:=aK.nil}⟩,qI,ur,hm,hu,hp⟩
  refine .cons (.cV (.cV (.cV (.cV (.cV (.cV .nil _) _) _) _) _) _)
 refine aa.iR (b:=1) (Br.dec (fun h2=>?_) (fun h2=>?_))
 rotate_left
 ·refine JE.mk (fin K C h0 LV J5 ⟨rfl,rfl,rfl,rfl,fun s=>?_⟩ (fun _=>Nat.le_refl _) (fun h=>by omega))
  rw[if_neg (by omega)]
 have mR:2≤r:=by omega
 have ID:=hf mR
 obtain⟨d,hd⟩:∃d,K.N r=some d:=by
  rcases hl with hl|hl
  ·omega
  ·exact hl
 have RH:=LV.fit hd
 have vU:=hO.ul
 have hfit:r<K.ho.length:=by omega
 subst hC
 refine Nil.ptr (ag.mk (Ld.f ?_))
 refine hO.ho.ld (x:=((K.hold r:Nat):Int)) (bf hfit) (aZ.sub (.cons (.app (.app (.app .left))))) ?_
 refine aa.j5 (Br.F ?_)
 refine Nil.ptr (ag.mk (Ld.f ?_))
 refine hO.ho.ld (x:=((K.hold r:Nat):Int)) (bf hfit) (aZ.sub (.cons (.app (.app (.app .left))))) ?_
 refine aa.inc ?_
 refine hO.ho.gO (x:=((K.hold r+1:Nat):Int)) (.cons (.app (.app (.app .left)))) (by rw[ah];exact hfit) fun EV nV=>?_
 rw[eR]at nV
 have g1:∀s,(K.ho.set r (K.hold r+1)).getD s 0=if s=r then K.hold r+1 else K.hold s:=fun s=>fG hfit
 refine Nil.ptr (ag.mk (Ld.f ?_))
 refine nV.ld (x:=((K.hold r+1:Nat):Int)) (by rw[bf (by simpa using hfit),g1,if_pos rfl]) (aZ.sub (.cons (.app (.app (.app .left))))) ?_
 refine aa.jC (b:=1) (Br.dec (fun h3=>?_) (fun h3=>?_))
 ·refine Nil.ptr (ag.mk (Ld.f ?_))
  refine hO.us.ld (x:=((K.use r:Nat):Int)) (bf RH) (aZ.sub (.cons (.app (.app .left)))) ?_
  have SL:=pX LV J5 (M:=0) (fun _=>Nat.le_refl _) r
  refine aa.inc ?_
  refine hO.us.gO (x:=((K.use r+1:Nat):Int)) (.cons (.app (.app .left))) (by rw[ah];exact RH) fun IK uk=>?_
  rw[eR]at uk
  have g2:∀s,(K.us.set r (K.use r+1)).getD s 0=if s=r then K.use r+1 else K.use s:=fun s=>fG RH
  have hM:=LV.keep (r:=r) (cJ:=K.us.set r (K.use r+1)) (br:=K.ho.set r (K.hold r+1)) ⟨d,hd⟩ ID (by simp) (by rw[g1,if_pos rfl]) (fun s hs=>by rw[g1,if_neg hs]) (by rw[g2,if_pos rfl,if_pos (by omega)]) (fun s hs=>by rw[g2,if_neg hs])
  refine JE.mk (fin {K with us:=K.us.set r (K.use r+1),ho:=K.ho.set r (K.hold r+1)} _ ⟨{b with CU:=IK,CH:=EV},rfl,{hO with us:=uk,ho:=nV,ul:=by simp;exact vU}⟩ hM (fun s hs=>?_) ⟨rfl,rfl,rfl,rfl,fun s=>?_⟩ (fun s=>?_) (fun _=>?_))
  ·show(K.us.set r (K.use r+1)).getD s 0=0
   have hs':K.N s=none:=hs
   rw[g2,if_neg (fun e=>by rw[e,hd]at hs';cases hs')];exact J5 s hs'
  ·show(K.ho.set r (K.hold r+1)).getD s 0=_
   rw[g1]
   by_cases e:s=r
   ·subst e;rw[if_pos rfl,if_pos ⟨rfl,mR⟩]
   ·rw[if_neg e,if_neg (fun h=>e h.1)]
  ·show K.use s≤(K.us.set r (K.use r+1)).getD s 0
   rw[g2];split
   ·rename_i e;subst e;omega
   ·exact Nat.le_refl _
  ·show 0<(K.us.set r (K.use r+1)).getD r 0
   rw[g2,if_pos rfl];omega
 ·have hM:=LV.keep (r:=r) (cJ:=K.us) (br:=K.ho.set r (K.hold r+1)) ⟨d,hd⟩ ID (by simp) (by rw[g1,if_pos rfl]) (fun s hs=>by rw[g1,if_neg hs]) (by show K.use r=_;rw[if_neg (by omega)];rfl) (fun s hs=>rfl)
  refine JE.mk (fin {K with ho:=K.ho.set r (K.hold r+1)} _ ⟨{b with CH:=EV},rfl,{hO with ho:=nV,ul:=by simp;exact vU}⟩ hM J5 ⟨rfl,rfl,rfl,rfl,fun s=>?_⟩ (fun _=>Nat.le_refl _) (fun _=>?_))
  rotate_left
  ·show 0<K.use r
   rw[LV.use hd,if_neg (by omega)];omega
  show(K.ho.set r (K.hold r+1)).getD s 0=_
  rw[g1]
  by_cases e:s=r
  ·subst e;rw[if_pos rfl,if_pos ⟨rfl,mR⟩]
  ·rw[if_neg e,if_neg (fun h=>e h.1)]
theorem JK(h:gM kp K S ord ak tr C){r:Nat}(hl:live K.N r)(hf:2≤r→K.hold r<65535):Fc Tryz.prog 121 #[ptr kp,u32 r] C (fun v C'=>v=.int .i64 0∧∃K',gM kp K' S ord ak [] C'∧NO K K' r):=by
 refine(vP h.rep h.ok.mid h.idle hl hf).mono ?_
 rintro v C' ⟨rfl,K',qP,RW,ur,hm,hu,hp⟩
 refine⟨rfl,K',⟨qP,⟨RW,fun s d hs=>?_,by rw[hm.n];exact h.ok.lv,by rw[hm.n,hm.N];exact h.ok.wf⟩,by rw[hm.n];exact h.od,ur,trivial⟩,hm⟩
 rw[hm.N]at hs
 exact Nat.lt_of_lt_of_le (h.ok.pos s d hs) (hu s)
end
section
variable {kp:Nat} {K:Kd} {ord ak tr:List Nat} {C:Hp} {S:Nat→aT.Fn}
theorem JC{K':Kd}{P:Nat→Nat}(hw:WF K.n (lv ak) K.N)(hM:gK K' S fO P)(hN:∀{s d},K'.N s=some d→K.N s=some d)(hn:K'.n=K.n):WF K'.n (lv ak) K'.N:=by
 have same:∀{t},live K'.N t→dep K'.n (lv ak) K'.N t=dep K.n (lv ak) K.N t:=fun{t} ht=>by
  cases e:K'.N t with
  |some f=>rw[aE e,aE (hN e)]
  |none=>
   have EY:t<2:=by
    rcases ht with ht|⟨f,hf⟩
    ·exact ht
    ·rw[e]at hf;cases hf
   rw[cg e,cg (hw.const EY),hn]
 refine hM.wf fun{s d} hs=>?_
 rw[same (hM.lo hs),same (hM.hi hs)]
 exact⟨(hw.lo (hN hs)).2,(hw.hi (hN hs)).2⟩
structure L8(K K':Kd)(r:Nat):Prop where
 n:K'.n=K.n
 cap:K'.cap=K.cap
 N:∀s d,K'.N s=some d→K.N s=some d
 hold:∀s,K'.hold s=if s=r∧2≤r then K.hold s-1 else K.hold s
theorem QS(h:gM kp K S ord ak tr C){r:Nat}(hr:r<4294967296)(h2:2≤r)(h0:K.hold r=0):Rd Tryz.prog 131 #[ptr kp,u32 r] C (· =.int .i64 3):=by
 refine aX fun g=>rN ?_
 refine aa.aB (Br.no ?_)
 intro J2 _
 refine aa.iR (b:=1) (Br.T ?_)
 refine ae.eq (vM h.rep hr (fun s=>by have:=h.kS s;omega)) ?_
 rw[h0]
 exact aa.j5 (Br.T (bO.mk (.refl _) rfl))
theorem nG(h:gM kp K S ord ak tr C){r:Nat}(hr:r<4294967296)(hh:2≤r→K.hold r≠0):Fc Tryz.prog 131 #[ptr kp,u32 r] C (fun v C'=>v=.int .i64 0∧∃K',gM kp K' S ord ak [] C'∧L8 K K' r):=by
 have h0:=h
 obtain⟨b,hC,hO⟩:=h.rep
 refine aX fun g=>rN ?_
 refine aa.aB (Br.no ?_)
 intro J2 xy
 have fin:∀(K':Kd) C1,cz kp K' ord ak tr C1→Ok K' S (lv ak)→Idle K'→L8 K K' r→J2 [] C1:=fun K' C1 qP qI ur hm=>by
  refine xy _ fun gs=>?_
  obtain⟨b',rfl,uy⟩:=qP
  refine Nil.ptr (ag.mk (St.one (by exact .head _) rfl (by simp[rX.cells]) rfl ?_))
  have Xq:Ord K'.n (lv ak) ord:=by rw[hm.n];exact h.od
  refine bN.mk (jD:=({b' with vt:=.slice none 0 0,CR:=[]}:rX).hp kp K'.n) ?_ ⟨rfl,K',⟨⟨{b' with vt:=.slice none 0 0,CR:=[]},rfl,{uy with tr:=aK.nil}⟩,qI,Xq,ur,trivial⟩,hm⟩
  refine .cons (.cV (.cV (.cV (.cV (.cV (.cV .nil _) _) _) _) _) _)
 refine aa.iR (b:=1) (Br.dec (fun h2=>?_) (fun h2=>?_))
 rotate_left
 ·exact JE.mk (fin K C h.rep h.ok h.idle ⟨rfl,rfl,fun _ _ h=>h,fun s=>by rw[if_neg (by omega)]⟩)
 have mR:2≤r:=by omega
 have nV:=hh mR
 obtain⟨d,hd⟩:=h.ok.mid.held r nV
 have RH:=h.ok.mid.fit hd
 have vU:=hO.ul
 have hfit:r<K.ho.length:=by omega
 have hle:=h.kS r
 refine ae.eq (vM h.rep hr (fun s=>by have:=h.kS s;omega)) ?_
 refine aa.j5 (Br.F ?_)
 subst hC
 refine Nil.ptr (ag.mk (Ld.f ?_))
 refine hO.ho.ld (x:=((K.hold r:Nat):Int)) (bf hfit) (aZ.sub (.cons (.app (.app (.app .left))))) ?_
 refine aa.bS (b:=1) ?_
 refine hO.ho.gO (x:=((K.hold r-1:Nat):Int)) (.cons (.app (.app (.app .left)))) (by rw[ah];exact hfit) fun EV Tw=>?_
 rw[eR]at Tw
 have g1:∀s,(K.ho.set r (K.hold r-1)).getD s 0=if s=r then K.hold r-1 else K.hold s:=fun s=>fG hfit
 have hM:=h.ok.mid.drop (r:=r) (br:=K.ho.set r (K.hold r-1)) (by omega) (by simp) (by rw[g1,if_pos rfl];omega) (fun s hs=>by rw[g1,if_neg hs])
 have qO:cz kp {K with ho:=K.ho.set r (K.hold r-1)} ord ak tr (({b with CH:=EV}:rX).hp kp K.n):=⟨_,rfl,{hO with ho:=Tw,ul:=by simp;exact vU}⟩
 have Vk:∀s,(K.ho.set r (K.hold r-1)).getD s 0=if s=r∧2≤r then K.hold s-1 else K.hold s:=fun s=>by
  rw[g1]
  by_cases e:s=r
  ·subst e;rw[if_pos rfl,if_pos ⟨rfl,mR⟩]
  ·rw[if_neg e,if_neg (fun h=>e h.1)]
 refine Nil.ptr (ag.mk (Ld.f ?_))
 refine Tw.ld (x:=((K.hold r-1:Nat):Int)) (by rw[bf (by simpa using hfit),g1,if_pos rfl]) (aZ.sub (.cons (.app (.app (.app .left))))) ?_
 refine aa.jC (b:=0) (Br.dec (fun h3=>?_) (fun h3=>?_))
 rotate_left
 ·rw[if_neg (by omega)]at hM
  exact JE.mk (fin {K with ho:=K.ho.set r (K.hold r-1)} _ qO ⟨hM,h.ok.pos,h.ok.lv,h.ok.wf⟩ h.idle ⟨rfl,rfl,fun _ _ h=>h,Vk⟩)
 rw[if_pos (by omega)]at hM
 refine Nil.ptr (ag.mk ?_)
 have E7:gK {K with ho:=K.ho.set r (K.hold r-1)} S fO (fA zero' [r]):=hM.congr (fun _=>Iff.rfl) fun s _=>by
  unfold up fA zero'
  by_cases e:s=r
  ·subst e;simp
  ·simp[e,Ne.symm e]
 refine ae.fq (my (P0:=zero') qO E7 h.ok.pos (fun t IG h0=>?_) (h.eI (.inr ⟨d,hd⟩)) (fun s=>by have:=h.Fo s;show K.use s<_;omega)) ?_
 ·by_cases e:t=r
  ·subst e;exact⟨d,hd⟩
  ·have R5:0<zero' t+[r].count t:=h0
   simp[zero',Ne.symm e]at R5
 rintro w C2 ⟨rfl,K2,oY,RV,Lp,_,fu⟩
 refine JE.mk (fin K2 _ oY ⟨RV,Lp,by rw[fu.n];exact h.ok.lv,JC h.ok.wf RV (fun h=>fu.N h) fu.n⟩ (fu.idle h.idle) ⟨fu.n,fu.cap,fun s e hs=>fu.N hs,fun s=>?_⟩)
 show K2.ho.getD s 0=_
 rw[fu.ho]
 exact Vk s
structure Cr(K:Kd)(S:Nat→aT.Fn)(K':Kd)(S':Nat→aT.Fn)(f:aT.Fn)(r:Nat):Prop where
 n:K'.n=K.n
 cap:K'.cap=K.cap
 used:K'.used≤K.used+1
 N:∀s d,K.N s=some d→K'.N s=some d
 fn:∀s,live K.N s→S' s=S s
 live:live K'.N r
 is:S' r=f
 hold:∀s,K'.hold s=if s=r∧2≤r then K.hold s+1 else K.hold s
theorem Jv(h:gM kp K S ord ak tr C){v lo hi:Nat}(hv:v<K.n)(hlo:live K.N lo)(hhi:live K.N hi)(hlt:lo=hi∨(lv ak v<dep K.n (lv ak) K.N lo∧lv ak v<dep K.n (lv ak) K.N hi)):
  Fc Tryz.prog 164 #[ptr kp,.int .i64 (v:Int),u32 lo,u32 hi] C (fun w C'=>
   (∃r K' S',w=.tuple #[u32 r,.int .i64 0]∧gM kp K' S' ord ak [] C'∧Cr K S K' S' (ite S ⟨v,lo,hi⟩) r)∨
   (∃r,w=.tuple #[u32 0,.int .i64 8]∧C'=C∧live K.N r∧2≤r∧K.hold r=65535∧S r=ite S ⟨v,lo,hi⟩)∨
   (w=.tuple #[u32 0,.int .i64 9]∧C'=C∧K.cap≤K.used∧lo≠hi∧K.T ⟨v,lo,hi⟩=none)):=by
 have h0:=h
 have Xw:=h.eI hlo
 have XG:=h.eI hhi
 have yq:=cm.2 hlo
 have uQ:=cm.2 hhi
 have XL:o8 K ak (v:Int) lo hi=0:=by
  unfold o8
  rw[if_neg (by omega),if_neg (by rw[yq,uQ];simp),if_neg]
  rintro⟨hne,hmin⟩
  rcases hlt with e|⟨a,b⟩
  ·exact hne e
  ·simp only[Int.toNat_natCast,lv]at hmin a b;omega
 refine aX fun g=>AI ?_
 refine aa.aB (Br.no ?_)
 refine ae.eq (Ky h.rep (v:Int) (by omega) (by omega) (fun r d hd=>⟨h.ok.mid.var hd,(h.ok.mid.two hd).1⟩)) ?_
 rw[XL]
 refine aa.gA (Br.F ?_)
 refine ae.rq (Jb h.rep (lo:=lo) (hi:=hi) hv) ?_
 rintro w hw
 have there:∀(J9:List Value→Hp→Prop),(∀Ri:Value,∀Wc:Hp,(∀Yt:Fr,ae Tryz.prog g 121 #[ptr kp,Ri] Wc (fun UJ Wb=>aa .num .neq UJ (Value.int .i64 0) fun Wu=>Br Wu
   (bN (fun w C'=>(∃r K' S',w=.tuple #[u32 r,.int .i64 0]∧gM kp K' S' ord ak [] C'∧Cr K S K' S' (ite S ⟨v,lo,hi⟩) r)∨
   (∃r,w=.tuple #[u32 0,.int .i64 8]∧C'=C∧live K.N r∧2≤r∧K.hold r=65535∧S r=ite S ⟨v,lo,hi⟩)∨
   (w=.tuple #[u32 0,.int .i64 9]∧C'=C∧K.cap≤K.used∧lo≠hi∧K.T ⟨v,lo,hi⟩=none)) (.returned (.tuple #[(Value.int .u32 0),UJ])) Wb) (bN (fun w C'=>(∃r K' S',w=.tuple #[u32 r,.int .i64 0]∧gM kp K' S' ord ak [] C'∧Cr K S K' S' (ite S ⟨v,lo,hi⟩) r)∨
   (∃r,w=.tuple #[u32 0,.int .i64 8]∧C'=C∧live K.N r∧2≤r∧K.hold r=65535∧S r=ite S ⟨v,lo,hi⟩)∨
   (w=.tuple #[u32 0,.int .i64 9]∧C'=C∧K.cap≤K.used∧lo≠hi∧K.T ⟨v,lo,hi⟩=none)) (.returned (.tuple #[Ri,(Value.int .i64 0)])) Wb)) (NN (bN (fun w C'=>(∃r K' S',w=.tuple #[u32 r,.int .i64 0]∧gM kp K' S' ord ak [] C'∧Cr K S K' S' (ite S ⟨v,lo,hi⟩) r)∨
   (∃r,w=.tuple #[u32 0,.int .i64 8]∧C'=C∧live K.N r∧2≤r∧K.hold r=65535∧S r=ite S ⟨v,lo,hi⟩)∨
   (w=.tuple #[u32 0,.int .i64 9]∧C'=C∧K.cap≤K.used∧lo≠hi∧K.T ⟨v,lo,hi⟩=none)))))→J9 [Ri] Wc)→
   ∀r,live K.N r→S r=ite S ⟨v,lo,hi⟩→J9 [u32 r] C:=fun J9 Hs r hr hS=>by
  refine Hs _ _ fun gs=>?_
  by_cases hf:2≤r∧K.hold r=65535
  ·refine ae.eq (Dv h hr hf.1 hf.2) ?_
   exact aa.gA (Br.T (bN.here (.inr (.inl ⟨r,rfl,rfl,hr,hf.1,hf.2,hS⟩))))
  ·refine ae.fq (JK h hr (fun h2=>by have:=h.kS r;omega)) ?_
   rintro w C' ⟨rfl,K',qP,hm⟩
   refine aa.gA (Br.F (bN.here (.inl ⟨r,K',S,rfl,qP,⟨hm.n,hm.cap,by rw[hm.used];omega,fun s d hs=>by rw[hm.N];exact hs,fun _ _=>rfl,by rw[hm.N];exact hr,hS,hm.hold⟩⟩)))
 by_cases he:lo=hi
 ·rw[if_pos he]at hw
  subst hw
  refine Ext.two ?_
  intro J9 Hs
  refine Un.not (Br.no (JE.mk (there J9 Hs lo hlo ?_)))
  funext z
  unfold aT.ite
  simp[he]
 rw[if_neg he]at hw
 have lj:lv ak v<dep K.n (lv ak) K.N lo∧lv ak v<dep K.n (lv ak) K.N hi:=by
  rcases hlt with e|e
  ·exact absurd e he
  ·exact e
 obtain⟨o,ho⟩:∃o,o=K.T ⟨v,lo,hi⟩:=⟨_,rfl⟩
 cases o with
 |some r=>
  have hT:K.T ⟨v,lo,hi⟩=some r:=ho.symm
  rw[hT]at hw
  subst hw
  refine Ext.two ?_
  intro J9 Hs
  have hN:=((h.ok.mid.gj _ r).1 hT).1
  refine Un.not (Br.no (JE.mk (there J9 Hs r (.inr ⟨_,hN⟩) ?_)))
  funext z
  rw[h.ok.mid.int.node hN]
  rfl
 |none=>
  have hT:K.T ⟨v,lo,hi⟩=none:=ho.symm
  rw[hT]at hw
  subst hw
  refine Ext.two ?_
  intro J9 Hs
  refine Un.not (Br.yes (Nil.ptr (ag.mk ?_)))
  have hcap:=h.ok.mid.cap
  refine ae.eq (vL h.rep (m:=1) (by omega) (by omega)) ?_
  refine Un.not ?_
  by_cases hroom:K.used+1≤K.cap
  rotate_left
  ·rw[decide_eq_false hroom]
   exact Br.yes (bN.here (.inr (.inr ⟨rfl,rfl,by omega,he,hT⟩)))
  rw[decide_eq_true hroom]
  refine Br.no (Nil.ptr (ag.mk ?_))
  refine Build.mk (cs:=bg ⟨v,lo,hi⟩) (by kernel_rfl) ?_
  have hfit:∀{t:Nat},live K.N t→t<2∨t<K.us.length:=fun ht'=>by
   rcases ht' with ht'|⟨d,dh⟩
   ·exact .inl ht'
   ·exact .inr (h.ok.mid.fit dh)
  have PG:K.n≤64:=by obtain⟨_,_,hO⟩:=h.rep;exact hO.Ge
  refine ae.fq (By h.rep (d:=⟨v,lo,hi⟩) ⟨by show v<64;omega,hlo,hhi⟩ hv hT (by omega) (hfit hlo) (hfit hhi) (fun s=>by have:=h.Fo s;omega)) ?_
  rintro w C1 ⟨r,cJ,br,rfl,hN,h2,hrc,hlen,SY,vU,u0,u1,u2,o0,o1,qO⟩
  have DN:=h.ok.mid.lay (r:=r) (d:=⟨v,lo,hi⟩) hN ⟨h2,hrc⟩ hv he hlo hhi hT (fun h=>h) rfl (by omega) hlen ⟨SY,vU⟩ u0 u1 o0 o1
  have T3:∀s d,K.N s=some d→up K.N r (some ⟨v,lo,hi⟩) s=some d:=fun s d hs=>by rw[aG (fun e=>by rw[e,hN]at hs;cases hs)];exact hs
  have hne:∀{t:Nat},live K.N t→t≠r:=fun ht=>eH ht h2 hN
  have G1:Idle {K with N:=up K.N r (some ⟨v,lo,hi⟩),T:=mO K.T ⟨v,lo,hi⟩ (some r),used:=K.used+1,us:=cJ,ho:=br}:=fun s hs=>by
   have hs':up K.N r (some ⟨v,lo,hi⟩) s=none:=hs
   have GG:s≠r:=fun e=>by subst e;rw[aF]at hs';cases hs'
   rw[aG GG]at hs'
   show cJ.getD s 0=0
   by_cases Ot:2≤s
   ·rw[u1 s Ot GG,h.idle s hs',dg]
    have a1:lo≠s:=fun e=>by
     rcases hlo with h5|⟨d,h5⟩
     ·omega
     ·rw[e,hs']at h5;cases h5
    have a2:hi≠s:=fun e=>by
     rcases hhi with h5|⟨d,h5⟩
     ·omega
     ·rw[e,hs']at h5;cases h5
    simp[a1,a2]
   ·rw[u2 s (by omega),h.idle s hs']
  refine JE.mk (Hs _ _ fun gs=>?_)
  refine ae.fq (vP qO DN G1 (r:=r) (.inr ⟨_,aF⟩) (fun _=>by show br.getD r 0<65535;rw[o0];omega)) ?_
  rintro w C2 ⟨rfl,K2,oY,E7,yw,hm,hu,hp⟩
  refine aa.gA (Br.F ?_)
  have JV:K2.n=K.n:=hm.n
  have QA:K2.N=up K.N r (some ⟨v,lo,hi⟩):=hm.N
  have hpos:Pos K2:=fun s d hs=>by
   by_cases e:s=r
   ·rw[e];exact hp h2
   ·rw[QA,aG e]at hs
    have h3:=hu s
    have h4:({K with N:=up K.N r (some ⟨v,lo,hi⟩),T:=mO K.T ⟨v,lo,hi⟩ (some r),used:=K.used+1,us:=cJ,ho:=br}:Kd).use s=cJ.getD s 0:=rfl
    rw[h4,u1 s (h.ok.mid.two hs).1 e]at h3
    have:=h.ok.pos s d hs
    omega
  have yB:∀{t:Nat},live K.N t→dep K2.n (lv ak) K2.N t=dep K.n (lv ak) K.N t:=fun{t} ht=>by
   rw[QA,JV]
   unfold dep
   rw[aG (hne ht)]
  have SE:WF K2.n (lv ak) K2.N:=E7.wf fun{s d} hs=>by
   rw[QA]at hs
   by_cases e:s=r
   ·rw[e,aF]at hs;cases hs
    rw[yB hlo,yB hhi];exact lj
   ·rw[aG e]at hs
    rw[yB (h.ok.wf.lo hs).1,yB (h.ok.wf.hi hs).1]
    exact⟨(h.ok.wf.lo hs).2,(h.ok.wf.hi hs).2⟩
  have hS:∀s,live K.N s→up S r (ite S ⟨v,lo,hi⟩) s=S s:=fun s hs=>aG (hne hs)
  refine bN.here (.inl ⟨r,K2,up S r (ite S ⟨v,lo,hi⟩),rfl,⟨oY,⟨E7,hpos,by rw[JV];exact h.ok.lv,SE⟩,by rw[JV];exact h.od,yw,trivial⟩,⟨JV,hm.cap,by rw[hm.used];exact Nat.le_refl _,fun s d hs=>by rw[QA];exact T3 s d hs,hS,.inr ⟨_,by rw[QA];exact aF⟩,aF,fun s=>?_⟩⟩)
  rw[hm.hold]
  show(if s=r∧2≤r then br.getD s 0+1 else br.getD s 0)=_
  by_cases e:s=r
  ·subst e
   rw[if_pos ⟨rfl,h2⟩,if_pos ⟨rfl,h2⟩,o0]
   have:K.hold s=0:=by
    apply Decidable.byContradiction
    intro hne
    obtain⟨d,hd⟩:=h.ok.mid.held s hne
    rw[hN]at hd;cases hd
   omega
  ·rw[if_neg (fun h=>e h.1),if_neg (fun h=>e h.1),o1 s e]
end
theorem hnew{H:Hp}:aZ [] H (fun X=>X++H):=aZ.left
theorem GC{n:Nat}(hn:n≤64):Fc Tryz.prog 185 #[.int .i64 (n:Int)] [] (fun v H=>aK 3 .i64 v (iw (List.range n)) H):=by
 refine aX fun g=>Au ?_
 refine bD.ints (by omega) (by omega) fun b=>?_
 have h0:aK 3 .i64 (.slice (some ⟨b,0,none⟩) n n) (List.replicate n 0) [(b,.cells (aC .i64 (List.replicate n 0)) 3 (0,0))]:=by
  have:=aK.made (T:=3) (kd:=.i64) (b:=b) (List.replicate n (0:Int))
  rw[List.length_replicate]at this;exact this
 refine⟨fun vs H=>∃j:Nat,vs=[.int .i64 (j:Int)]∧j≤n∧aK 3 .i64 (.slice (some ⟨b,0,none⟩) n n) (iw (List.range j)++List.replicate (n-j) 0) H,fun vs _=>n-aV vs 0,JE.mk ⟨0,rfl,by omega,by simpa[iw]using h0⟩,?_⟩
 rintro w H ⟨j,hw,hj,hs⟩ gs
 simp only[List.cons.injEq,and_true]at hw
 subst hw
 refine aa.dn (Br.dec (fun hlt=>?_) (fun hlt=>?_))
 ·refine hs.gO (x:=(j:Int)) .here (by simp;omega) fun C' hs'=>?_
  refine aa.inc ?_
  have e:(iw (List.range j)++List.replicate (n-j) 0).set j (j:Int)=iw (List.range (j+1))++List.replicate (n-(j+1)) 0:=by
   rw[List.set_append_right _ _ (by simp)]
   rw[show n-j=(n-(j+1))+1 by omega,List.replicate_succ,List.range_succ,bY]
   simp[iw]
  rw[e]at hs'
  exact aq.of (.refl _) ⟨j+1,rfl,by omega,hs'⟩ (by show n-(((j+1:Nat):Int).toNat)<n-(((j:Nat):Int).toNat);omega)
 ·obtain rfl:j=n:=by omega
  exact bN.here (by simpa using hs)
theorem vS{n:Nat}(hn:n≤64):Fc Tryz.prog 116 #[.int .i64 (n:Int)] [] (fun v H=>∃s,v=.tuple #[s,.int .i64 0]∧aK 3 .i64 s (iw (List.range n)) H):=by
 refine aX fun g=>Bd ?_
 refine aa.lss ?_
 rw[decide_eq_false (by omega)]
 refine dI.or false (fun _=>aa.gtr ⟨rfl,by rw[decide_eq_false (by omega)]⟩) rfl fun _=>Br.no ?_
 refine ae.fq (GC hn) ?_
 intro s H hs
 exact bN.here ⟨s,rfl,hs⟩
def K0(n cap:Nat):Kd:=⟨n,cap,2,fun _=>none,fun _=>none,[],[]⟩
def S0:Nat→aT.Fn:=fun r _=>decide (r=1)
theorem jT{n v:Nat}(hv:v<n):lv (List.range n) v=v:=by
 show(List.range n).getD v 0=v
 simp[List.getD,hv]
theorem Ra{n cap:Nat}(hc:2≤cap∧cap≤1048576):Ok (K0 n cap) S0 (lv (List.range n)):=by
 have c0:∀k,jz (fun _=>none) k=0:=fun k=>by induction k with|zero=>rfl|succ k ih=>rw[jz,ih];rfl
 have hm:gK (K0 n cap) S0 fO zero':={
  two:=fun h=>nomatch h
  var:=fun h=>nomatch h
  ne:=fun h=>nomatch h
  lo:=fun h=>nomatch h
  hi:=fun h=>nomatch h
  int:=⟨fun _=>rfl,fun _=>rfl,fun h=>nomatch h⟩
  gj:=fun d r=>⟨fun h=>(nomatch h),fun h=>nomatch h.1⟩
  use:=fun h=>nomatch h
  len:=rfl
  fit:=fun h=>nomatch h
  held:=fun r h=>absurd (by simp[Kd.hold,K0]) h
  mx:=fun r=>by simp[Kd.hold,K0]
  room:=by show 2=2+jz (fun _=>none) _;rw[c0]
  cap:=hc}
 refine⟨hm,fun r d h=>(nomatch h),⟨fun v hv=>?_,fun u v hu hv h=>?_⟩,⟨fun h=>(nomatch h),fun h=>(nomatch h),fun h=>(nomatch h),fun h=>(nomatch h),fun h=>(nomatch h),fun h=>(nomatch h)⟩⟩
 ·have BT:v<n:=hv
  rw[jT BT];exact hv
 ·have uk:u<n:=hu
  have BT:v<n:=hv
  rwa [jT uk,jT BT]at h
theorem vy{pt n cap:Nat}{CT:Hp}(hu:l9 pt n (fun _=>none) CT)(hc:2≤cap∧cap≤1048576):Fc Tryz.prog 118 #[.int .i64 (cap:Int),ptr pt] CT (fun v H=>∃pa CA,v=.tuple #[.agg #[ptr pa,ptr pt,.slice none 0 0,.slice none 0 0],.int .i64 0]∧fI pa cap 2 (fun _=>none) CA∧H=CA++CT):=by
 refine aX fun g=>Bb ?_
 intro b1 _
 refine ae.fn hnew (KK hc) ?_
 rintro v C ⟨pa,rfl,hA⟩
 refine Ext.two ?_
 refine Build.mk (cs:=[ptr pa,ptr pt,.slice none 0 0,.slice none 0 0]) (by kernel_rfl) ?_
 refine St.q ?_
 refine ax.q ?_
 exact bN.mk (.cV .tail _) ⟨pa,C,rfl,hA,rfl⟩
theorem Mu{n cap:Nat}(hn:1≤n∧n≤64)(hc:2≤cap∧cap≤1048576):Fc Tryz.prog 51 #[.int .i64 (n:Int),.int .i64 (cap:Int)] [] (fun v C=>∃kp,v=.tuple #[ptr kp,.int .i64 0]∧gM kp (K0 n cap) S0 (List.range n) (List.range n) [] C):=by
 refine aX fun g=>ED ?_
 refine ae.fq (vS hn.2) ?_
 rintro v CO ⟨s,rfl,hO⟩
 obtain⟨sa,sl,sc,SV⟩:∃a l c,s=Value.slice a l c:=by obtain⟨a,c,h⟩:=aN.len hO;exact⟨a,_,c,h⟩
 refine Ext.two ?_
 refine aa.gA ?_
 refine dI.or false (fun _=>aa.lss ⟨rfl,by rw[decide_eq_false (by omega)]⟩) rfl fun gs=>?_
 refine dI.or false (fun _=>aa.lss ⟨rfl,by rw[decide_eq_false (by omega)]⟩) rfl fun gs=>?_
 refine dI.or false (fun _=>aa.gtr ⟨rfl,by rw[decide_eq_false (by omega)]⟩) rfl fun gs=>Br.no ?_
 refine ae.fn hnew (IU hn) ?_
 rintro v CT ⟨pt,rfl,hT⟩
 refine Ext.two ?_
 refine aa.gA (Br.no ?_)
 refine ae.fq (vy hT hc) ?_
 rintro v H ⟨pa,CA,rfl,hA,rfl⟩
 refine Ext.two ?_
 intro b24 _
 refine St.q ?_
 refine aa.gA (Br.no (DR.self ?_))
 refine ax.q ?_
 refine ae.fq (ri (hO.ints.mono fun _ h=>h) (by simp;omega)) ?_
 rintro v H ⟨CL,rfl,hL⟩
 obtain⟨la,ll,lc,hle⟩:∃a l c,v=Value.slice a l c:=by obtain⟨a,c,h⟩:=aN.len hL;exact⟨a,_,c,h⟩
 refine⟨(.cons (.cV .right _)),?_⟩
 subst SV hle
 refine Build.mk (cs:=[ptr pa,ptr pt,.slice none 0 0,.slice none 0 0,.int .i64 (n:Int),.slice sa sl sc,.slice la ll lc,.slice none 0 0]) (by kernel_rfl) ?_
 intro R9 _
 refine⟨(.skip (.cons (.cV .right _))),?_⟩
 let kb:rX:=⟨pa,pt,.slice none 0 0,.slice none 0 0,.slice sa sl sc,.slice la ll lc,.slice none 0 0,CA,CT,[],[],CO,CL,[]⟩
 refine bN.mk (jD:=kb.hp R9 n) ?_ ⟨R9,rfl,⟨kb,rfl,⟨hA,hT,aK.nil,aK.nil,hO,hL,aK.nil,⟨rfl,by simp[K0]⟩,hn.2,by simp[K0]⟩⟩,Ra hc,⟨by simp[K0],fun l hl=>?_⟩,fun s _=>by simp[Kd.use,K0],trivial⟩
 ·refine .cons (.skip ((aJ.assoc).trans ?_))
  show aJ (CA++(CT++(CL++CO))) (CA++(CT++([]++([]++(CO++(CL++[]))))))
  simp only[List.nil_append,List.append_nil]
  exact .cV (.cV (.perm List.perm_append_comm) _) _
 ·have hl':l<n:=hl
  have e:(List.range n).getD l 0=l:=jT hl'
  rw[e];exact⟨hl,jT hl'⟩
end Go.Proofs
namespace aT
def cj(ord path:List Nat):List Nat:=path.foldl ew ord
theorem n5{ord path:List Nat}{l:Nat}:cj ord (path++[l])=ew (cj ord path) l:=by simp[cj]
theorem FA{ord path q:List Nat}:cj ord (path++q)=cj (cj ord path) q:=by simp[cj]
theorem fD{ord:List Nat}:∀{path:List Nat},(cj ord path).length=ord.length:=by
 intro path
 unfold cj
 induction path generalizing ord with
 |nil=>rfl
 |cons l r ih=>rw[List.foldl_cons,ih];simp[ew]
structure Rm where
 n:Nat
 size:List Nat→Nat
 fit:List Nat→Nat→Bool
def Rm.dJ(m:Rm)(p:Nat):List Nat→List Nat→List Nat
 | [],_=>[]
 |c::cs,ord=>if m.fit ord (p+c)then(p+c)::m.dJ p cs (ew ord (p+c))else []
theorem Rm.qQ(m:Rm)(p:Nat):∀cs ord,(m.dJ p cs ord).length≤cs.length
 | [],_=>by simp[dJ]
 |c::cs,ord=>by
  rw[dJ]
  split
  ·have:=m.qQ p cs (ew ord (p+c));simp only[List.length_cons];omega
  ·simp
theorem Rm.wv(m:Rm)(p:Nat):∀cs ord i,i<(m.dJ p cs ord).length→(m.dJ p cs ord)[i]? =(cs[i]?).map (p+ ·)∧∃c,cs[i]? =some c∧m.fit (cj ord ((m.dJ p cs ord).take i)) (p+c)=true
 | [],_,i,h=>by simp[dJ]at h
 |c::cs,ord,i,h=>by
  by_cases hf:m.fit ord (p+c)=true
  ·rw[dJ,if_pos hf]at h⊢
   cases i with
   |zero=>exact⟨by simp,c,rfl,hf⟩
   |succ i=>
    obtain⟨h1,c',h2,h3⟩:=m.wv p cs (ew ord (p+c)) i (by simpa using h)
    exact⟨by simpa using h1,c',by simpa using h2,by simpa[cj]using h3⟩
  ·rw[dJ,if_neg hf]at h;simp at h
theorem Rm.wx(m:Rm)(p:Nat):∀cs ord c,cs[(m.dJ p cs ord).length]? =some c→m.fit (cj ord (m.dJ p cs ord)) (p+c)=false
 | [],_,c,h=>by simp at h
 |c'::cs,ord,c,h=>by
  by_cases hf:m.fit ord (p+c')=true
  ·rw[dJ,if_pos hf]at h⊢
   have:=m.wx p cs (ew ord (p+c')) c (by simpa using h)
   simpa[cj]using this
  ·rw[dJ,if_neg hf]at h⊢
   simp only[List.length_nil,List.getElem?_cons_zero,Option.some.injEq]at h
   subst h
   simpa[cj]using hf
end aT
set_option maxRecDepth 100000
namespace Go.Proofs
open Go Go.Sx
open aT
def At(kp:Nat)(K:Kd)(S:Nat→aT.Fn)(ord tr:List Nat)(C:Hp):Prop:=∃K' S' eP,gM kp K' S' ord eP tr C∧Kept K S K' S'
noncomputable def fQ(K:Kd)(S:Nat→aT.Fn)(ord:List Nat):Nat:=sz K.n ord (K.held S)
def jw(K:Kd)(S:Nat→aT.Fn)(ord:List Nat)(l:Nat):Prop:=uX K.n ord l (K.held S)+2≤K.cap
section
variable {kp:Nat} {K:Kd} {S:Nat→aT.Fn} {ord tr:List Nat} {C:Hp}
theorem gM.aS{ak:List Nat}(h:gM kp K S ord ak tr C):At kp K S ord tr C:=⟨K,S,ak,h,.refl _ _⟩
theorem vK{ak:List Nat}(h:gM kp K S ord ak tr C):K.used=fQ K S ord+2:=by
 have h1:=KY (h.ok.size h.od)
 have h2:=h.ok.mid.room
 unfold fQ
 omega
theorem vO{K':Kd}{S':Nat→aT.Fn}(h:Kept K S K' S')(ord:List Nat):fQ K' S' ord=fQ K S ord:=by
 unfold fQ;rw[h.n];exact Fz h.held
theorem s9{K':Kd}{S':Nat→aT.Fn}(h:Kept K S K' S')(ord:List Nat)(l:Nat):jw K' S' ord l↔jw K S ord l:=by
 unfold jw;rw[h.n,h.cap,CK h.held]
theorem At.len(h:At kp K S ord tr C):ord.length=K.n:=by
 obtain⟨K',S',eP,h,hk⟩:=h
 rw[←hk.n];exact h.od.len
theorem rz(h:At kp K S ord tr C):fQ K S ord≤1048574:=by
 obtain⟨K',S',eP,h,hk⟩:=h
 rw[←vO hk];have:=vK h;have:=h.ok.mid.cap;omega
theorem At.Ge(h:At kp K S ord tr C):K.n≤64:=by
 obtain⟨K',S',eP,h,hk⟩:=h
 obtain⟨b,_,hO⟩:=h.rep
 rw[←hk.n];exact hO.Ge
theorem nN(h:At kp K S ord tr C):Rd Tryz.prog 15 #[ptr kp] C (· =.int .i64 ((fQ K S ord:Nat):Int)):=by
 obtain⟨K',S',eP,h,hk⟩:=h
 have hs:=vK h
 have hc:=h.ok.mid.cap
 refine(JJ h.rep (by omega) (by omega)).mono ?_
 rintro v H ⟨rfl,rfl⟩
 exact⟨rfl,by rw[hs,vO hk];rfl⟩
theorem ry(h:At kp K S ord tr C):Rd Tryz.prog 34 #[ptr kp] C (· =.int .i64 ((tr.length:Nat):Int)):=by
 obtain⟨K',S',eP,h,hk⟩:=h
 exact Du h.rep
theorem Ch(h:At kp K S ord tr C):Rd Tryz.prog 61 #[ptr kp] C (· =.int .i64 ((K.n:Nat):Int)):=by
 obtain⟨K',S',eP,h,hk⟩:=h
 rw[←hk.n];exact vJ h.rep
theorem rA(h:At kp K S ord tr C):Fc Tryz.prog 13 #[ptr kp] C (fun r H=>∃N,H=N++C∧aK 3 .i64 r (iw ord) N):=by
 obtain⟨K',S',eP,h,hk⟩:=h
 exact sZ h.rep
theorem Cj(h:At kp K S ord tr C){l:Nat}(hl:l+1<K.n)(pz:tr.length<1099511627776)(hf:jw K S ord l):Fc Tryz.prog 17 #[ptr kp,.int .i64 (l:Int)] C (fun r C'=>r=.int .i64 0∧At kp K S (ew ord l) (tr++[l]) C'):=by
 obtain⟨K',S',eP,h,hk⟩:=h
 refine(B8 h (by rw[hk.n];exact hl) pz).mono ?_
 rintro v C' (⟨_,rfl,K2,S2,Mz,h2,rU⟩|⟨hno,_,_⟩)
 ·exact⟨rfl,K2,S2,Mz,h2,hk.trans rU⟩
 ·have:=(s9 hk ord l).2 hf
  unfold jw at this;omega
theorem rB(h:At kp K S ord tr C){l:Nat}(hl:l+1<K.n)(pz:tr.length<1099511627776)(hf:¬jw K S ord l):Rd Tryz.prog 17 #[ptr kp,.int .i64 (l:Int)] C (· =.int .i64 9):=by
 obtain⟨K',S',eP,h,hk⟩:=h
 refine(B8 h (by rw[hk.n];exact hl) pz).mono ?_
 rintro v C' (⟨SB,_⟩|⟨hno,rfl,rfl⟩)
 ·exact absurd ((s9 hk ord l).1 SB) hf
 ·exact⟨rfl,rfl⟩
theorem KH{l:Nat}(h:At kp K S ord (tr++[l]) C)(pz:tr.length<1099511627776):Fc Tryz.prog 18 #[ptr kp] C (fun r C'=>r=.tuple #[.int .i64 (l:Int),.int .i64 0]∧At kp K S (ew ord l) tr C'):=by
 obtain⟨K',S',eP,h,hk⟩:=h
 refine(IV h pz).mono ?_
 rintro v C' ⟨rfl,_,K2,S2,Mz,h2,rU⟩
 exact⟨rfl,K2,S2,Mz,h2,hk.trans rU⟩
theorem KG{path:List Nat}(h:At kp K S (cj ord path) (tr++path) C)(hp:∀l∈path,l+1<K.n){k:Nat}(hk:k≤path.length)(pz:(tr++path).length<1099511627776):Fc Tryz.prog 145 #[ptr kp,.int .i64 ((tr.length+k:Nat):Int)] C (fun r C'=>
   r=.tuple #[.int .i64 ((path.length-k:Nat):Int),.int .i64 0]∧At kp K S (cj ord (path.take k)) (tr++path.take k) C'):=by
 have hlen:=h.len
 rw[fD]at hlen
 rw[List.length_append]at pz
 refine aX fun g=>A1 ?_
 refine aa.aB (Br.no ?_)
 intro J2 xy
 refine aa.lss ?_
 rw[decide_eq_false (by omega)]
 refine Split.go rfl ?_
 refine ae.eq (ry h) ?_
 refine aa.gtr ?_
 rw[decide_eq_false (by rw[List.length_append];omega)]
 refine ay.mk ?_
 refine JE.mk (xy _ _ fun gs=>Br.no ?_)
 refine⟨fun vs H=>∃m,m≤path.length∧k≤m∧vs=[.int .i64 ((path.length-m:Nat):Int)]∧At kp K S (cj ord (path.take m)) (tr++path.take m) H,fun vs _=>path.length-aV vs 0,JE.mk ⟨path.length,Nat.le_refl _,hk,by simp,by simpa using h⟩,?_⟩
 rintro w H ⟨m,hm,hkm,hw,oW⟩ gs
 simp only[List.cons.injEq,and_true]at hw
 subst hw
 refine ae.eq (ry oW) ?_
 refine aa.iR (Br.dec (fun hlt=>?_) (fun hlt=>?_))
 ·rw[List.length_append,List.length_take]at hlt
  obtain⟨m,rfl⟩:∃m',m=m'+1:=⟨m-1,by omega⟩
  have e:path.take (m+1)=path.take m++[path[m]]:=by rw[List.take_add_one,List.getElem?_eq_getElem (by omega)];rfl
  rw[e,←List.append_assoc,n5]at oW
  refine ae.fq (KH oW (by simp;omega)) ?_
  rintro v C' ⟨rfl,h'⟩
  rw[tS (by rw[fD,hlen];exact hp _ (List.getElem_mem _))]at h'
  refine aa.inc ?_
  refine aq.of (.refl _) ⟨m,by omega,by omega,by rw[show path.length-(m+1)+1=path.length-m by omega],h'⟩ ?_
  show path.length-(((path.length-(m+1)+1:Nat):Int).toNat)<path.length-(((path.length-(m+1):Nat):Int).toNat)
  omega
 ·rw[List.length_append,List.length_take]at hlt
  obtain rfl:m=k:=by omega
  exact bN.here ⟨rfl,oW⟩
end
end Go.Proofs
set_option maxRecDepth 100000
namespace Go.Proofs
open Go Go.Sx
open aT
noncomputable instance {K:Kd}{S:Nat→aT.Fn}{ord:List Nat}{l:Nat}:Decidable (jw K S ord l):=Nat.decLe _ _
noncomputable def rm(K:Kd)(S:Nat→aT.Fn):Rm:=⟨K.n,fQ K S,fun ord l=>decide (jw K S ord l)⟩
theorem xO{K:Kd}{S:Nat→aT.Fn}{ord:List Nat}{l:Nat}:(rm K S).fit ord l=true↔jw K S ord l:=by
 show decide (jw K S ord l)=true↔_
 exact decide_eq_true_iff
end Go.Proofs
namespace aT
open af
def YB(m v:Nat):Nat:=if m.testBit v then m^^^2^v else m
def rest(m:Nat)(ord:List Nat):Nat→Nat
 |0=>m
 |k+1=>YB (rest m ord k) (ord.getD k 0)
section
variable {n m o:Nat} {ord:List Nat} {F:Fn→Prop}
theorem getD_inj(hn:ord.Nodup){i j:Nat}(hi:i<ord.length)(hj:j<ord.length)(e:ord.getD i 0=ord.getD j 0):i=j:=by
 rw[List.getD_eq_getElem?_getD,List.getD_eq_getElem?_getD,List.getElem?_eq_getElem hi,List.getElem?_eq_getElem hj]at e
 exact(List.getElem_inj hn).1 e
theorem p8{l:Nat}(hl:l+1<ord.length):(ew ord l).Perm ord:=by
 unfold ew
 have e1:ord=ord.take l++ord.getD l 0::ord.getD (l+1) 0::ord.drop (l+2):=by
  conv=>lhs;rw[←List.take_append_drop l ord]
  congr 1
  rw[List.drop_eq_getElem_cons (by omega),List.drop_eq_getElem_cons (by omega)]
  simp[List.getD,List.getElem?_eq_getElem (show l<ord.length by omega),List.getElem?_eq_getElem hl]
 have ht:(ord.take l).length=l:=by simp;omega
 have e2:(ord.set l (ord.getD (l+1) 0)).set (l+1) (ord.getD l 0)=ord.take l++ord.getD (l+1) 0::ord.getD l 0::ord.drop (l+2):=by
  generalize hx:ord.getD l 0=x at*
  generalize hy:ord.getD (l+1) 0=y at*
  conv=>lhs;rw[e1]
  rw[List.set_append_right _ _ (by omega),ht,Nat.sub_self,List.set_cons_zero,List.set_append_right _ _ (by omega),ht,Nat.add_sub_cancel_left,List.set_cons_succ,List.set_cons_zero]
 rw[e2]
 conv=>rhs;rw[e1]
 exact List.Perm.append_left _ (List.Perm.swap _ _ _)
theorem kF:∀{path:List Nat} {ord:List Nat},(∀l∈path,l+1<ord.length)→(cj ord path).Perm ord
 | [],_,_=>.refl _
 |l::r,ord,h=>by
  show(cj (ew ord l) r).Perm ord
  have h1:=h l (by simp)
  exact(kF fun x hx=>by rw[gS];exact h x (by simp[hx])).trans (p8 h1)
end
section
variable {A B:Rm} {Q:List Nat→Prop}
structure Alike(A B:Rm)(Q:List Nat→Prop):Prop where
 n:A.n=B.n
 size:∀ord,Q ord→A.size ord=B.size ord
 fit:∀ord l,Q ord→l+1<A.n→A.fit ord l=B.fit ord l
 ew:∀ord l,Q ord→l+1<A.n→Q (ew ord l)
end
def flat(n s:Nat):Rm:=⟨n,fun _=>s,fun _ _=>true⟩
def WC(n cap:Nat)(L:af.Fs):Rm:=⟨n,fun ord=>bF n ord L n,fun ord l=>decide ((o9 n ord l L).length+2≤cap)⟩
end aT
set_option maxRecDepth 100000
namespace Go.Proofs
open Go Go.Sx
open aT
def rep(b a s:Nat):Value:=.agg #[.int .i64 (b:Int),.int .i64 (a:Int),.int .i64 (s:Int),.bool false]
end Go.Proofs
namespace aT
def yX(i:Nat):Nat→List Nat
 |0=>[]
 |j+1=>if i≤j then j::yX i j else []
theorem uI{i j:Nat}(h:j≤i):yX i j=[]:=by
 cases j with
 |zero=>rfl
 |succ j=>rw[yX,if_neg (by omega)]
theorem nL{i j:Nat}(h:i≤j):yX i (j+1)=j::yX i j:=by rw[yX,if_pos h]
theorem Cc{i l:Nat}:∀{j},l∈yX i j→i≤l∧l<j
 |0,h=>by simp[yX]at h
 |j+1,h=>by
  by_cases e:i≤j
  ·rw[nL e]at h
   rcases List.mem_cons.1 h with rfl|h
   ·omega
   ·have:=Cc h;omega
  ·rw[uI (by omega)]at h;simp at h
theorem uH(i:Nat):∀j,(yX i j).length=j-i
 |0=>by simp[yX]
 |j+1=>by
  by_cases e:i≤j
  ·rw[nL e,List.length_cons,uH i j];omega
  ·rw[uI (by omega)];simp;omega
theorem Cd{i k:Nat}:∀{j:Nat} {a:List Nat},i≤j→j<a.length→(k≤i→(cj a (yX i j)).getD k 0=if k=i then a.getD j 0 else a.getD k 0)
 |0,a,hi,hj,hk=>by
  obtain rfl:i=0:=by omega
  obtain rfl:k=0:=by omega
  simp[yX,cj]
 |j+1,a,hi,hj,hk=>by
  by_cases e:i≤j
  ·rw[nL e]
   show(cj (ew a j) (yX i j)).getD k 0=_
   rw[Cd (j:=j) e (by rw[gS];omega) hk,dD (by omega),dD (by omega)]
   by_cases h:k=i
   ·subst h;simp
   ·rw[if_neg h,if_neg h,if_neg (by omega),if_neg (by omega)]
  ·obtain rfl:i=j+1:=by omega
   rw[uI (Nat.le_refl _)]
   show a.getD k 0=_
   split
   ·rename_i h;rw[h]
   ·rfl
def NY(p:List Nat)(x:Nat):Nat:=p.idxOf x
def de(p q:List Nat):Nat→List Nat
 |0=>[]
 |i+1=>de p q i++yX i (NY (cj p (de p q i)) (q.getD i 0))
def path(p q:List Nat):List Nat:=de p q q.length
theorem FX{p:List Nat}{x:Nat}(h:x∈p):NY p x<p.length:=List.idxOf_lt_length_iff.2 h
theorem BE{p:List Nat}{x:Nat}(h:x∈p):p.getD (NY p x) 0=x:=by
 have h1:=FX h
 rw[List.getD_eq_getElem?_getD,List.getElem?_eq_getElem h1]
 show p[p.idxOf x]=x
 exact List.getElem_idxOf h1
section
variable {p q:List Nat}
theorem gx(hq:q.Nodup)(hp:p.Perm q):∀i,i≤q.length→(∀l∈de p q i,l+1<p.length)∧(∀k,k<i→(cj p (de p q i)).getD k 0=q.getD k 0)∧(i<q.length→i≤NY (cj p (de p q i)) (q.getD i 0)∧NY (cj p (de p q i)) (q.getD i 0)<p.length)
 |i,hi=>by
  have hlen:=hp.length_eq
  have base:(∀l∈de p q i,l+1<p.length)∧(∀k,k<i→(cj p (de p q i)).getD k 0=q.getD k 0):=by
   cases i with
   |zero=>exact⟨fun l hl=>by simp[de]at hl,fun k hk=>absurd hk (Nat.not_lt_zero _)⟩
   |succ i=>
    obtain⟨h1,h2,h3⟩:=gx hq hp i (by omega)
    obtain⟨h4,h5⟩:=h3 (by omega)
    have hm:q.getD i 0∈cj p (de p q i):=by
     have:q.getD i 0∈q:=by rw[List.getD_eq_getElem?_getD,List.getElem?_eq_getElem (show i<q.length by omega)];exact List.getElem_mem _
     exact((kF h1).trans hp).mem_iff.2 this
    refine⟨fun l hl=>?_,fun k hk=>?_⟩
    ·rcases List.mem_append.1 hl with hl|hl
     ·exact h1 l hl
     ·have:=Cc hl;omega
    ·rw[de,FA,Cd h4 (by rw[fD];exact h5) (by omega)]
     split
     ·rename_i e;subst e;exact BE hm
     ·exact h2 k (by omega)
  refine⟨base.1,base.2,fun hlt=>?_⟩
  have hm:q.getD i 0∈cj p (de p q i):=by
   have:q.getD i 0∈q:=by rw[List.getD_eq_getElem?_getD,List.getElem?_eq_getElem hlt];exact List.getElem_mem _
   exact((kF base.1).trans hp).mem_iff.2 this
  have h5:=FX hm
  rw[fD]at h5
  refine⟨?_,h5⟩
  refine Classical.byContradiction fun ei=>?_
  have:=base.2 _ (Nat.lt_of_not_le ei)
  rw[BE hm]at this
  have:=getD_inj hq hlt (by omega) this
  omega
theorem BG(hq:q.Nodup)(hp:p.Perm q):cj p (path p q)=q∧∀l∈path p q,l+1<p.length:=by
 obtain⟨h1,h2,_⟩:=gx hq hp q.length (Nat.le_refl _)
 refine⟨wH (by rw[fD];exact hp.length_eq) fun i hi=>h2 i ?_,h1⟩
 rw[fD,hp.length_eq]at hi;exact hi
theorem n8(hq:q.Nodup)(hp:p.Perm q):∀i,i≤q.length→(de p q i).length≤i*p.length
 |0,_=>by simp[de]
 |i+1,hi=>by
  have:=n8 hq hp i (by omega)
  obtain⟨_,_,h3⟩:=gx hq hp i (by omega)
  rw[de,List.length_append,uH,Nat.succ_mul]
  have:=(h3 (by omega)).2
  omega
end
end aT
namespace aT
open af
section
variable {n l:Nat} {ord:List Nat} {F G:Fn→Prop} {f c:Fn}
theorem th:∀l g,fs ord (fun g=>F g∨G g) l g↔fs ord F l g∨fs ord G l g
 |0,g=>Iff.rfl
 |l+1,g=>by
  constructor
  ·rintro⟨f,hf,b,rfl⟩
   rcases(th l f).1 hf with h|h
   ·exact .inl ⟨f,h,b,rfl⟩
   ·exact .inr ⟨f,h,b,rfl⟩
  ·rintro(⟨f,hf,b,rfl⟩|⟨f,hf,b,rfl⟩)
   ·exact⟨f,(th l f).2 (.inl hf),b,rfl⟩
   ·exact⟨f,(th l f).2 (.inr hf),b,rfl⟩
theorem cZ(g:Fn):bq n ord (fun g=>F g∨G g) g↔bq n ord F g∨bq n ord G g:=by
 constructor
 ·rintro⟨l,hl,hf,hh⟩
  rcases(th l g).1 hf with h|h
  ·exact .inl ⟨l,hl,h,hh⟩
  ·exact .inr ⟨l,hl,h,hh⟩
 ·rintro(⟨l,hl,hf,hh⟩|⟨l,hl,hf,hh⟩)
  ·exact⟨l,hl,(th l g).2 (.inl hf),hh⟩
  ·exact⟨l,hl,(th l g).2 (.inr hf),hh⟩
theorem g8{v:Nat}(h:¬fc f v)(x:Nat)(b:Bool):f (au x v b)=f x:=by
 have h0:f (au x v false)=f (au x v true):=Classical.byContradiction fun hne=>h ⟨x,hne⟩
 have h1:=kH x v
 conv=>rhs;rw[←h1]
 cases b<;>cases x.testBit v<;>simp[h0]
theorem uB(hi:∀j,j<l→¬fc f (ord.getD j 0)):∀k,k≤l→fs ord (fun g=>g=f) k f
 |0,_=>rfl
 |k+1,hk=>⟨f,uB hi k (by omega),false,funext fun x=>(g8 (hi k (by omega)) x false).symm⟩
theorem pL(hi:∀j,j<l→¬fc f (ord.getD j 0)):∀k,k≤l→∀g,fs ord (fun g=>g=f) k g→g=f
 |0,_,g,h=>h
 |k+1,hk,g,h=>by
  obtain⟨f',hf,b,rfl⟩:=h
  obtain rfl:=pL hi k (by omega) f' hf
  exact funext fun x=>g8 (hi k (by omega)) x b
theorem sG(hi:∀j,j<l→¬fc f (ord.getD j 0)){b:Bool}(hc:c=fun x=>f (au x (ord.getD l 0) b)):
  (∀j,j<l+1→¬fc c (ord.getD j 0))∧∀g,bq n ord (fun g=>g=c) g→bq n ord (fun g=>g=f) g:=by
 have h1:fs ord (fun g=>g=f) (l+1) c:=⟨f,uB hi l (Nat.le_refl _),b,hc⟩
 have h2:∀j,j<l+1→¬fc c (ord.getD j 0):=fun j hj=>qT (l+1) c h1 j hj
 refine⟨h2,?_⟩
 rintro g ⟨m,hm,hf,hh⟩
 by_cases e:m<l+1
 ·obtain rfl:=pL h2 m (by omega) g hf
  exact absurd hh (h2 m e)
 ·have key:∀d g,fs ord (fun g=>g=c) (l+1+d) g→fs ord (fun g=>g=f) (l+1+d) g:=fun d=>by
   induction d with
   |zero=>intro g hg;obtain rfl:=pL h2 (l+1) (Nat.le_refl _) g hg;exact h1
   |succ d ih=>rintro g ⟨f',ID,b',rfl⟩;exact⟨f',ih f' ID,b',rfl⟩
  obtain⟨d,rfl⟩:∃d,m=l+1+d:=⟨m-(l+1),by omega⟩
  exact⟨_,hm,key d g hf,hh⟩
theorem CX(hi:∀j,j<l→¬fc f (ord.getD j 0))(hl:l<n)(hh:fc f (ord.getD l 0)):bq n ord (fun g=>g=f) f:=⟨l,hl,uB hi l (Nat.le_refl _),hh⟩
end
section
variable {K:Kd} {S:Nat→Fn} {ak:Nat→Nat} {ord:List Nat}
theorem Ok.below(h:Ok K S ak)(ho:Ord K.n ak ord){r l:Nat}(hr:live K.N r)(hl:l≤K.n)(hi:∀j,j<l→¬fc (S r) (ord.getD j 0)):l≤dep K.n ak K.N r:=by
 cases e:K.N r with
 |none=>rw[cg e];exact hl
 |some d=>
  rw[aE e]
  refine Classical.byContradiction fun hlt=>?_
  have lj:ak d.v<l:=Nat.lt_of_not_le hlt
  have:=hi _ lj
  rw[ho.of h.lv (h.mid.var e)]at this
  exact this (mG h.wf h.lv h.mid.int e)
theorem Ok.roomFor(h:Ok K S ak)(ho:Ord K.n ak ord){U:Fn→Prop}{k:Nat}(hk:oH U k)(hfit:k+2≤K.cap)(hU:∀g,bq K.n ord (K.held S) g→U g){d:Nd}
 (hlo:live K.N d.lo)(hhi:live K.N d.hi)(hne:d.lo≠d.hi)(hv:d.v<K.n)(hlt:ak d.v<dep K.n ak K.N d.lo∧ak d.v<dep K.n ak K.N d.hi)(hg:U (ite S d))(hT:K.T d=none):K.used<K.cap:=by
 have hs:=h.size ho
 have hu:=h.mid.room
 obtain⟨l1,a1,a2,a3⟩:=hs
 have MV:ite S d∉l1:=fun hm=>by
  obtain⟨r,e,hr,he⟩:=(jQ h.wf h.lv ho h.mid.int (fun r hr=>.inr (h.mid.held r hr)) h.reach (ite S d)).1 ((a3 _).2 hm)
  have Nq:¬K.N r=some d:=fun hN=>by
   have:=(h.mid.gj d r).2 ⟨hN,fun x=>x⟩
   rw[hT]at this;cases this
  apply Nq
  have GG:S r=ite S d:=he.symm
  have Pf:e.v=d.v:=by
   have e1:=h.lv.lt e.v (h.mid.var hr)
   have e2:=h.lv.lt d.v hv
   rcases Nat.lt_trichotomy (ak e.v) (ak d.v)with hh|hh|hh
   ·exfalso
    obtain⟨z,hz⟩:=mG h.wf h.lv h.mid.int hr
    rw[GG]at hz
    apply hz
    unfold ite
    have i1:=h.wf.cC h.lv h.mid.int hlo (h.mid.var hr) (by omega)
    have i2:=h.wf.cC h.lv h.mid.int hhi (h.mid.var hr) (by omega)
    have RJ:d.v≠e.v:=fun nV=>by rw[nV]at hh;omega
    simp only[ai,if_neg RJ,i1,i2]
   ·exact h.lv.inj _ _ (h.mid.var hr) hv hh
   ·exfalso
    have hx:=h.wf.cC h.lv h.mid.int (r:=r) (.inr ⟨e,hr⟩) hv (by rw[aE hr];exact hh)
    apply hne
    refine h.wf.same h.lv h.mid.int hlo hhi fun x=>?_
    have i1:=h.wf.cC h.lv h.mid.int hlo hv hlt.1
    have i2:=h.wf.cC h.lv h.mid.int hhi hv hlt.2
    have q1:=hx x false
    have q2:=hx x true
    rw[GG]at q1 q2
    have q3:=q1.trans q2.symm
    unfold ite at q3
    simp only[ai,if_true,i1,i2,Bool.false_eq_true,if_false]at q3
    exact q3
  have jd:∀(b:Bool) x,S (if b then e.hi else e.lo) x=S (if b then d.hi else d.lo) x:=fun b x=>by
   rw[←h.wf.child h.lv h.mid.int hr x b,GG,Pf]
   have i1:=h.wf.cC h.lv h.mid.int hlo hv hlt.1
   have i2:=h.wf.cC h.lv h.mid.int hhi hv hlt.2
   unfold ite
   rw[ai,if_pos rfl,i1,i2]
   cases b<;>rfl
  have e1:e.lo=d.lo:=h.wf.same h.lv h.mid.int (h.mid.lo hr) hlo fun x=>jd false x
  have e2:e.hi=d.hi:=h.wf.same h.lv h.mid.int (h.mid.hi hr) hhi fun x=>jd true x
  have TE:∀a b:Nd,a.v=b.v→a.lo=b.lo→a.hi=b.hi→a=b:=fun a b h1 h2 h3=>by
   cases a;cases b;cases h1;cases h2;cases h3;rfl
  rw[hr,TE e d Pf e1 e2]
 obtain⟨l2,b1,b2,b3⟩:=hk
 have:=bX (l:=ite S d::l1) (l':=l2) (List.nodup_cons.2 ⟨MV,a1⟩) fun g M7=>by
  rcases List.mem_cons.1 M7 with rfl|M7
  ·exact(b3 _).1 hg
  ·exact(b3 _).1 (hU g ((a3 g).2 M7))
 rw[List.length_cons]at this
 omega
end
end aT
namespace aT
open af
section
variable {n v:Nat} {bs:List Bool} {lo hi ws:List Nat}
theorem wF(x:Nat)(hx:x<2^n):bit (gE n bs) x=bs.getD x false:=by
 unfold bit gE
 have h:=nh hx
 rw[List.getD_eq_getElem?_getD,List.getElem?_map,List.getElem?_range h]
 show(dN bs (x/64) 64).testBit (x%64)=_
 rw[cv,decide_eq_true (Nat.mod_lt _ (by decide)),Bool.true_and,Nat.div_add_mod]
theorem wE(hn:n≤16)(hl:bs.length=2^n):bJ n (gE n bs):=by
 refine⟨hn,by simp[gE],fun w hw=>?_⟩
 obtain⟨i,hi,rfl⟩:=List.mem_map.1 hw
 rw[List.mem_range]at hi
 have:dN bs i 64&&&bI n=dN bs i 64:=by
  apply Nat.eq_of_testBit_eq;intro j
  rw[Nat.testBit_and,dW,cv]
  by_cases h6:6≤n
  ·rw[if_pos h6]
   cases bs.getD (64*i+j) false<;>simp
  ·rw[if_neg h6]
   have DF:i=0:=by rw[pU (by omega)]at hi;omega
   subst DF
   by_cases hj:j<2^n
   ·simp[hj]
   ·have:bs.getD (64*0+j) false=false:=by
     rw[List.getD_eq_getElem?_getD,List.getElem?_eq_none (by omega)];rfl
    rw[this];simp
 rw[←this];exact Nat.and_le_right
def jh(n:Nat)(b:Bool):List Bool:=List.replicate (2^n) b
def bc(n:Nat)(b:Bool):List Nat:=gE n (jh n b)
theorem yT(hn:n≤16)(b:Bool):bJ n (bc n b):=wE hn (by simp[jh])
theorem kV(n:Nat)(b:Bool):dK n (bc n b)=fun _=>b:=by
 funext x
 unfold dK bc
 have hx:x%2^n<2^n:=Nat.mod_lt _ (Nat.two_pow_pos n)
 rw[wF _ hx,jh,List.getD_eq_getElem?_getD,List.getElem?_replicate,if_pos hx];rfl
theorem HC(h:∀v,v<n→¬fc (dK n ws) v)(x:Nat):dK n ws x=dK n ws 0:=by
 have key:∀k,k≤n→dK n ws (x%2^k)=dK n ws 0:=fun k=>by
  induction k with
  |zero=>intro _;rw[show x%2^0=0 from Nat.mod_one x]
  |succ k ih=>
   intro hk
   rw[←ih (by omega)]
   have e:x%2^(k+1)=au (x%2^k) k (x.testBit k):=by
    apply Nat.eq_of_testBit_eq;intro i
    rw[ai,Nat.testBit_mod_two_pow,Nat.testBit_mod_two_pow]
    by_cases e:i=k
    ·subst e;simp
    ·rw[if_neg e]
     congr 1
     exact decide_eq_decide.2 (by omega)
   rw[e,g8 (h k (by omega))]
 have:=key n (Nat.le_refl _)
 rw[←this]
 unfold dK
 rw[Nat.mod_mod]
theorem lZ(hn:n≤16)(hf:bJ n ws)(b:Bool):ws=bc n b↔dK n ws=fun _=>b:=by
 constructor
 ·rintro rfl;exact kV n b
 ·intro h;exact je hf (yT hn b) (h.trans (kV n b).symm)
theorem Uw:bit ws 0=dK n ws 0:=by unfold dK;rw[Nat.zero_mod]
end
end aT
