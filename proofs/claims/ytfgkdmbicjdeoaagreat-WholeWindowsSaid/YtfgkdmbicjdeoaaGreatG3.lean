import Derived.Test.YtfgkdmbicjdeoaaGreatG2
import Derived.Test.YtfgkdmbicjdeoaaGreatG1
import Derived.RangeFuncIn
import Derived.RangeFuncLeaves
import Derived.RangeFuncRecord
import Derived.RangeFuncSeq
set_option linter.unusedVariables false
set_option linter.unusedSimpArgs false
set_option linter.unusedSectionVars false
namespace aE
open aD
def pq(K:Kd)(ah:Nat→Nat)(l t:Nat):Prop:=live K.N t∧l+1<dep K.n ah K.N t
def sK(K0 K:Kd)(ah:Nat→Nat)(x l t:Nat):Prop:=pq K0 ah l t∨∃e,K.N t=some e∧e.v=x∧pq K0 ah l e.lo∧pq K0 ah l e.hi
structure TI(K0:Kd)(S0:Nat→Fn)(ah:Nat→Nat)(x y l:Nat)(made:List Nd)(K:Kd)(S:Nat→Fn)(done rest:List Cx)(P:Nat→Nat):Prop where
 mid:gF K S (fun s=>∃c∈rest,s=c.r) P
 n:K.n=K0.n
 cap:K.cap=K0.cap
 hold:∀r,K.hold r=K0.hold r
 ext:∀r,live K0.N r→S r=S0 r
 old:∀{r d},K0.N r=some d→r∉done.map Cx.r→K.N r=some d
 kept:∀{r d},K0.N r=some d→∃d',K.N r=some d'
 new:∀{r d},K.N r=some d→(K0.N r=some d∧r∉done.map Cx.r)∨(r∈done.map Cx.r∧d.v=y∧sK K0 K ah x l d.lo∧sK K0 K ah x l d.hi)∨(K0.N r=none∧d.v=x∧pq K0 ah l d.lo∧pq K0 ah l d.hi)
 used:K.used=K0.used+(made.filter fun k=>(K.T k).isSome).length
structure TB(K0:Kd)(S0:Nat→Fn)(ah:Nat→Nat)(x y l:Nat)(all:List Cx)(made:List Nd):Prop where
 ok:Ok K0 S0 ah
 nb:Nb K0.n ah x y l
 cx:DB K0.N x y all
 Ry:Made K0 x all made
 room:K0.used+made.length≤K0.cap
section
variable {K0 K:Kd} {S0 S:Nat→Fn} {ah:Nat→Nat} {x y l:Nat} {made:List Nd} {done rest all:List Cx} {P:Nat→Nat}
theorem TB.kX(b:TB K0 S0 ah x y l all made){c:Cx}(hc:c∈all):K0.N c.r=some c.d∧c.d.v=x∧c=kW K0.N y c.r c.d:=by
 obtain⟨⟨h1,h2,_⟩,h3⟩:=(b.cx.mem c).1 hc
 exact⟨h1,h2,h3⟩
theorem TB.KH(b:TB K0 S0 ah x y l all made){c:Cx}(hc:c∈all):(pq K0 ah l c.sG∧pq K0 ah l c.pI)∧(pq K0 ah l c.sF∧pq K0 ah l c.pH):=by
 obtain⟨h1,h2,h3⟩:=b.kX hc
 have k1:=je b.ok.wf b.ok.lv b.ok.mid.int b.nb h1 h2 (k:=⟨x,pl K0.N y c.d.lo,pl K0.N y c.d.hi⟩) List.mem_cons_self
 have k2:=je b.ok.wf b.ok.lv b.ok.mid.int b.nb h1 h2 (k:=⟨x,ph K0.N y c.d.lo,ph K0.N y c.d.hi⟩) (List.mem_cons_of_mem _ List.mem_cons_self)
 rw[h3]
 exact⟨⟨k1.2.1,k1.2.2⟩,⟨k2.2.1,k2.2.2⟩⟩
theorem TB.level(b:TB K0 S0 ah x y l all made){c:Cx}(hc:c∈all):dep K0.n ah K0.N c.r=l:=by
 obtain⟨h1,h2,_⟩:=b.kX hc
 rw[av h1,h2,b.nb.lx]
theorem TB.start(b:TB K0 S0 ah x y l all made){T:Nd→Option Nat}(hm:gF {K0 with T:=T} S0 (fun s=>∃c∈all,s=c.r) zero')(hT:∀d,T d=none∨T d=K0.T d):
  TI K0 S0 ah x y l made {K0 with T:=T} S0 [] all zero' where
 mid:=hm
 n:=rfl
 cap:=rfl
 hold:=fun _=>rfl
 ext:=fun _ _=>rfl
 old:=fun h _=>h
 kept:=fun h=>⟨_,h⟩
 new:=fun h=>.inl ⟨h,by simp⟩
 used:=by
  have:made.filter (fun k=>(T k).isSome)=[]:=by
   rw[List.filter_eq_nil_iff]
   intro k hk
   have h1:=((b.Ry.mem k).1 hk).2.1
   rcases hT k with h2|h2
   ·rw[h2];simp
   ·rw[h2,h1];simp
  show K0.used=K0.used+(made.filter (fun k=>(T k).isSome)).length
  rw[this];simp
theorem TI.KJ(b:TB K0 S0 ah x y l all made)(h:TI K0 S0 ah x y l made K S done rest P)(hd:∀c∈done,c∈all){t:Nat}(ht:pq K0 ah l t):K.N t=K0.N t:=by
 rcases ht with⟨ht|⟨d,cI⟩,hlt⟩
 ·cases e:K.N t with
  |none=>rw[b.ok.wf.const ht]
  |some d=>have:=(h.mid.two e).1;omega
 ·rw[cI]
  refine h.old cI fun hm=>?_
  obtain⟨c,hc,e⟩:=List.mem_map.1 hm
  have:=b.level (hd c hc)
  rw[e]at this;omega
theorem TI.nE(b:TB K0 S0 ah x y l all made)(h:TI K0 S0 ah x y l made K S done rest P)(hd:∀c∈done,c∈all){t:Nat}(ht:pq K0 ah l t):live K.N t:=by
 have e:=h.KJ b hd ht
 rcases ht.1 with ht|⟨d,cI⟩
 ·exact .inl ht
 ·exact .inr ⟨d,by rw[e];exact cI⟩
theorem TI.nH(b:TB K0 S0 ah x y l all made)(h:TI K0 S0 ah x y l made K S done rest P)(hd:∀c∈done,c∈all){t:Nat}(ht:sK K0 K ah x l t):live K.N t:=by
 rcases ht with ht|⟨e,he,_⟩
 ·exact h.nE b hd ht
 ·exact .inr ⟨e,he⟩
theorem TI.use(h:TI K0 S0 ah x y l made K S done rest P){r:Nat}{cJ:List Nat}(hl:cJ.length=K.us.length)(h1:cJ.getD r 0=K.use r+1)(h2:∀s,s≠r→cJ.getD s 0=K.use s):
  TI K0 S0 ah x y l made {K with us:=cJ} S done rest (up P r (P r+1)) where
 mid:=h.mid.more hl h1 h2
 n:=h.n
 cap:=h.cap
 hold:=h.hold
 ext:=h.ext
 old:=h.old
 kept:=h.kept
 new:=h.new
 used:=h.used
theorem TI.congr(h:TI K0 S0 ah x y l made K S done rest P){P':Nat→Nat}(hP:∀s,2≤s→P s=P' s):TI K0 S0 ah x y l made K S done rest P' where
 mid:=h.mid.congr (fun _=>Iff.rfl) hP
 n:=h.n
 cap:=h.cap
 hold:=h.hold
 ext:=h.ext
 old:=h.old
 kept:=h.kept
 new:=h.new
 used:=h.used
theorem filter_lt{α:Type}{p:α→Bool}{k:α}:∀{m:List α},k∈m→p k=false→(m.filter p).length<m.length
 | [],h,_=>by simp at h
 |z::m,h,hp=>by
  rcases List.mem_cons.1 h with rfl|h
  ·rw[List.filter_cons,if_neg (by simp[hp])]
   have:=List.length_filter_le p m
   simp;omega
  ·have:=filter_lt h hp
   rw[List.filter_cons]
   split
   ·rw[List.length_cons,List.length_cons];omega
   ·rw[List.length_cons];omega
theorem TI.fits(b:TB K0 S0 ah x y l all made)(h:TI K0 S0 ah x y l made K S done rest P){k:Nd}(hk:k∈made)(hT:K.T k=none):K.used<K.cap:=by
 have h1:=filter_lt (p:=fun k=>(K.T k).isSome) hk (by rw[hT];rfl)
 have h2:=h.used
 have h3:=b.room
 have h4:=h.cap
 omega
theorem kT{T:Nd→Option Nat}{k:Nd}{r:Nat}:∀{m:List Nd},m.Nodup→T k=none→(m.filter fun d=>(nf T k (some r) d).isSome).length=(m.filter fun d=>(T d).isSome).length+(if k∈m then 1 else 0)
 | [],_,_=>rfl
 |z::m,hn,hT=>by
  obtain⟨h1,h2⟩:=List.nodup_cons.1 hn
  have ih:=kT (r:=r) h2 hT
  rw[List.filter_cons,List.filter_cons]
  by_cases e:z=k
  ·subst e
   rw[gJ,hT]
   simp only[Option.isSome_some,if_true,Option.isSome_none,Bool.false_eq_true,if_false,List.length_cons,ih,if_neg h1,List.mem_cons,true_or]
  ·rw[mF e]
   have e2:(k∈z::m)↔k∈m:=by rw[List.mem_cons];exact⟨fun h=>h.resolve_left (fun h=>e h.symm),.inr⟩
   simp only[e2]
   split
   ·simp only[List.length_cons,ih];omega
   ·exact ih
theorem TB.uM(b:TB K0 S0 ah x y l all made){t:Nat}(ht:pq K0 ah l t){e:Nd}(he:K0.N t=some e):l+1<ah e.v:=by
 have:=ht.2
 rwa [av he]at this
theorem TB.wu(b:TB K0 S0 ah x y l all made){c:Cx}(hc:c∈all)(h1:pq K0 ah l c.d.lo)(h2:pq K0 ah l c.d.hi):False:=by
 obtain⟨⟨_,_,h3⟩,_⟩:=(b.cx.mem c).1 hc
 have hy:=b.nb.ly
 rcases h3 with⟨e,he,hv⟩|⟨e,he,hv⟩
 ·have:=b.uM h1 he;rw[hv]at this;omega
 ·have:=b.uM h2 he;rw[hv]at this;omega
theorem TI.Ht(b:TB K0 S0 ah x y l all made)(h:TI K0 S0 ah x y l made K S done rest P)(hd:∀c∈done,c∈all)(hr:∀c∈rest,c∈all){c:Cx}(hc:c∈all){k:Nd}(hk:k∈keys x c)(hne:k.lo≠k.hi)(h1:pq K0 ah l k.lo)(h2:pq K0 ah l k.hi)(hT:K.T k=none):k∈made:=by
 refine(b.Ry.mem k).2 ⟨⟨c,hc,hk⟩,?_,hne⟩
 cases e:K0.T k with
 |none=>rfl
 |some s=>
  have hs:=((b.ok.mid.iD k s).1 e).1
  have hno:∀c'∈all,s≠c'.r:=fun c' gU e'=>by
   have h3:=(b.kX gU).1
   rw[←e',hs]at h3
   cases h3
   exact b.wu gU h1 h2
  have yZ:K.N s=some k:=by
   refine h.old hs fun hm=>?_
   obtain⟨c',gU,e'⟩:=List.mem_map.1 hm
   exact hno c' (hd c' gU) e'.symm
  have:=(h.mid.iD k s).2 ⟨yZ,by rintro⟨c',gU,e'⟩;exact hno c' (hr c' gU) e'⟩
  rw[hT]at this;cases this
theorem TI.lay(b:TB K0 S0 ah x y l all made)(h:TI K0 S0 ah x y l made K S done rest P)(hd:∀c∈done,c∈all)(hr:∀c∈rest,c∈all){c:Cx}(hc:c∈all){k:Nd}(hk:k∈keys x c)(hne:k.lo≠k.hi)(hT:K.T k=none)
 {r:Nat}{cJ ct:List Nat}(hN:K.N r=none)(h2:2≤r∧r<K.cap)(hl:cJ.length=ct.length)(hf:r<cJ.length∧K.us.length≤cJ.length)(u0:cJ.getD r 0=0)(u1:∀s,2≤s→s≠r→cJ.getD s 0=K.use s+e1 (some k) s)(o0:ct.getD r 0=0)(o1:∀s,s≠r→ct.getD s 0=K.hold s)(hP:P r=0):
  TI K0 S0 ah x y l made {K with N:=up K.N r (some k),T:=nf K.T k (some r),used:=K.used+1,us:=cJ,ho:=ct} (up S r (ite S k)) done rest P∧sK K0 {K with N:=up K.N r (some k),T:=nf K.T k (some r),used:=K.used+1,us:=cJ,ho:=ct} ah x l r:=by
 have jK:=b.KH hc
 have hkv:k.v=x∧pq K0 ah l k.lo∧pq K0 ah l k.hi:=by
  simp only[keys,List.mem_cons,List.not_mem_nil,or_false]at hk
  rcases hk with rfl|rfl
  ·exact⟨rfl,jK.1.1,jK.1.2⟩
  ·exact⟨rfl,jK.2.1,jK.2.2⟩
 have Sj:K0.N r=none:=by
  cases e:K0.N r with
  |none=>rfl
  |some d=>obtain⟨d',cI⟩:=h.kept e;rw[hN]at cI;cases cI
 have hkm:=h.Ht b hd hr hc hk hne hkv.2.1 hkv.2.2 hT
 have hE:¬∃c∈rest,r=c.r:=by
  rintro⟨c',gU,rfl⟩
  have:=(b.kX (hr c' gU)).1
  rw[Sj]at this;cases this
 have y5:∀{t},sK K0 K ah x l t→sK K0 {K with N:=up K.N r (some k),T:=nf K.T k (some r),used:=K.used+1,us:=cJ,ho:=ct} ah x l t:=fun ht=>by
  rcases ht with ht|⟨e,he,h3⟩
  ·exact .inl ht
  ·refine .inr ⟨e,?_,h3⟩
   show up K.N r (some k) _=_
   rw[aL (fun e2=>by rw[e2,hN]at he;cases he)];exact he
 refine⟨⟨h.mid.lay hN h2 (by rw[hkv.1,h.n];exact b.nb.xn) hne (h.nE b hd hkv.2.1) (h.nE b hd hkv.2.2) hT hE hP (h.fits b hkm hT) hl hf u0 u1 o0 o1,h.n,h.cap,fun s=>?_,fun s hs=>?_,fun{s d} hs hm=>?_,fun{s d} hs=>?_,fun{s d} hs=>?_,?_⟩,?_⟩
 ·show ct.getD s 0=_
  rw[←h.hold]
  by_cases e:s=r
  ·subst e
   rw[o0]
   refine(Classical.byContradiction fun hno=>?_)
   obtain⟨d,cI⟩:=h.mid.held s (fun e=>hno e.symm)
   rw[hN]at cI;cases cI
  ·exact o1 s e
 ·rw[aL (eA hs h2.1 Sj)];exact h.ext s hs
 ·show up K.N r (some k) s=_
  rw[aL (fun e=>by rw[e,Sj]at hs;cases hs)];exact h.old hs hm
 ·obtain⟨d',cI⟩:=h.kept hs
  exact⟨d',by show up K.N r (some k) s=_;rw[aL (fun e=>by rw[e,Sj]at hs;cases hs)];exact cI⟩
 ·have hs':up K.N r (some k) s=some d:=hs
  by_cases e:s=r
  ·subst e
   rw[aH]at hs';cases hs'
   exact .inr (.inr ⟨Sj,hkv⟩)
  ·rw[aL e]at hs'
   rcases h.new hs' with h1|⟨h1,kQ,h3,h4⟩|h1
   ·exact .inl h1
   ·exact .inr (.inl ⟨h1,kQ,y5 h3,y5 h4⟩)
   ·exact .inr (.inr h1)
 ·show K.used+1=K0.used+(made.filter fun d=>(nf K.T k (some r) d).isSome).length
  rw[kT b.Ry.nd hT,if_pos hkm,h.used];omega
 ·exact .inr ⟨k,aH,hkv⟩
theorem TI.found(b:TB K0 S0 ah x y l all made)(h:TI K0 S0 ah x y l made K S done rest P){c:Cx}(hc:c∈all){k:Nd}(hk:k∈keys x c){r:Nat}(hT:K.T k=some r):K.N r=some k∧sK K0 K ah x l r:=by
 have jK:=b.KH hc
 have hN:=((h.mid.iD k r).1 hT).1
 simp only[keys,List.mem_cons,List.not_mem_nil,or_false]at hk
 rcases hk with rfl|rfl
 ·exact⟨hN,.inr ⟨_,hN,rfl,jK.1.1,jK.1.2⟩⟩
 ·exact⟨hN,.inr ⟨_,hN,rfl,jK.2.1,jK.2.2⟩⟩
theorem TI.Mp(b:TB K0 S0 ah x y l all made)(h:TI K0 S0 ah x y l made K S done rest P){a a' t:Nat}(la:pq K0 ah l a)(G7:pq K0 ah l a')(g:(a=a'∧t=a)∨K.N t=some ⟨x,a,a'⟩)(z:Nat):S t z=ite S0 ⟨x,a,a'⟩ z:=by
 rcases g with⟨rfl,rfl⟩|g
 ·rw[h.ext t la.1];unfold ite;simp
 ·rw[h.mid.int.node g]
  unfold ite
  simp only
  rw[h.ext a la.1,h.ext a' G7.1]
theorem TI.KI(b:TB K0 S0 ah x y l all made)(h:TI K0 S0 ah x y l made K S done rest P)(hd:∀c∈done,c∈all){a a' t:Nat}(ht:pq K0 ah l t)(g:K.N t=some ⟨x,a,a'⟩):False:=by
 rw[h.KJ b hd ht]at g
 have:=b.uM ht g
 have hx:=b.nb.lx
 simp only at this;omega
theorem TI.uu(b:TB K0 S0 ah x y l all made){c:Cx}(h:TI K0 S0 ah x y l made K S done (c::rest) P)(hd:∀c∈done,c∈all)(hr:∀c'∈c::rest,c'∈all)(hn:((done++c::rest).map Cx.r).Nodup){t0 t1:Nat}
 (k0:sK K0 K ah x l t0)(k1:sK K0 K ah x l t1)(g0:(c.sG=c.pI∧t0=c.sG)∨K.N t0=some ⟨x,c.sG,c.pI⟩)(g1:(c.sF=c.pH∧t1=c.sF)∨K.N t1=some ⟨x,c.sF,c.pH⟩){P':Nat→Nat}(hP:∀s,2≤s→P' s+e1 (some ⟨y,t0,t1⟩) s=P s+e1 (some c.d) s):
  K.T ⟨y,t0,t1⟩=none∧TI K0 S0 ah x y l made {K with N:=up K.N c.r (some ⟨y,t0,t1⟩),T:=nf K.T ⟨y,t0,t1⟩ (some c.r)} S (done++[c]) rest P':=by
 have hc:=hr c (by simp)
 obtain⟨uW,CP,hce⟩:=b.kX hc
 obtain⟨⟨l00,l10⟩,⟨l01,WT⟩⟩:=b.KH hc
 have w:=b.ok.wf
 have hi:=b.ok.mid.int
 have hlo:=w.lo uW
 have hhi:=w.hi uW
 rw[CP,b.nb.lx]at hlo hhi
 have ep:c.sG=pl K0.N y c.d.lo∧c.sF=ph K0.N y c.d.lo∧c.pI=pl K0.N y c.d.hi∧c.pH=ph K0.N y c.d.hi:=by rw[hce];exact⟨rfl,rfl,rfl,rfl⟩
 have both:c.sG=c.pI→c.sF=c.pH→False:=fun e1 e2=>by
  rw[ep.1,ep.2.2.1]at e1
  rw[ep.2.1,ep.2.2.2]at e2
  exact w.ne uW (w.Lc b.ok.lv hi b.nb.yy hlo.1 hhi.1 hlo.2 hhi.2 e1 e2)
 have Qs:c.r∉done.map Cx.r:=by
  rw[List.map_append,List.nodup_append]at hn
  intro hm
  exact hn.2.2 _ hm _ (by simp) rfl
 have CV:=h.old uW Qs
 have fn0:=fun z=>h.Mp b l00 l10 g0 z
 have fn1:=fun z=>h.Mp b l01 WT g1 z
 have hS:∀z,S c.r z=ite S ⟨y,t0,t1⟩ z:=fun z=>by
  rw[h.ext c.r (.inr ⟨_,uW⟩),q9 w b.ok.lv hi b.nb uW CP z]
  unfold ite
  simp only
  have a0:=fn0 z
  have a1:=fn1 z
  unfold ite at a0 a1
  simp only at a0 a1
  rw[a0,a1,ep.1,ep.2.1,ep.2.2.1,ep.2.2.2]
 have hne:t0≠t1:=fun e=>by
  subst e
  rcases g0 with⟨e1,e2⟩|g0
  ·rcases g1 with⟨e3,e4⟩|g1
   ·exact both e1 e3
   ·rw[e2]at g1;exact h.KI b hd l00 g1
  ·rcases g1 with⟨e3,e4⟩|g1
   ·rw[e4]at g0;exact h.KI b hd l01 g0
   ·rw[g0]at g1
    simp only[Option.some.injEq,Nd.mk.injEq,true_and]at g1
    obtain⟨q1,q2⟩:=g1
    obtain⟨⟨_,_,O9⟩,_⟩:=(b.cx.mem c).1 hc
    rw[ep.1,ep.2.1]at q1
    rw[ep.2.2.1,ep.2.2.2]at q2
    rcases O9 with⟨e,he,hv⟩|⟨e,he,hv⟩
    ·have:=Kx he hv
     rw[this.1,this.2]at q1
     exact w.ne he q1
    ·have:=Kx he hv
     rw[this.1,this.2]at q2
     exact w.ne he q2
 have hT:K.T ⟨y,t0,t1⟩=none:=by
  cases e:K.T ⟨y,t0,t1⟩with
  |none=>rfl
  |some s=>
   obtain⟨hs,OG⟩:=(h.mid.iD _ s).1 e
   rcases h.new hs with⟨h1,_⟩|⟨h1,_⟩|⟨_,h1,_⟩
   ·have q1:=w.lo h1
    have q2:=w.hi h1
    simp only at q1 q2
    rw[b.nb.ly]at q1 q2
    have p1:c.sG=c.pI:=by
     rcases g0 with⟨e1,_⟩|g0
     ·exact e1
     ·exact(h.KI b hd q1 g0).elim
    have p2:c.sF=c.pH:=by
     rcases g1 with⟨e1,_⟩|g1
     ·exact e1
     ·exact(h.KI b hd q2 g1).elim
    exact(both p1 p2).elim
   ·obtain⟨c',gU,e'⟩:=List.mem_map.1 h1
    have HV:=(b.kX (hd c' gU)).1
    have:c'.r=c.r:=w.same b.ok.lv hi (.inr ⟨_,HV⟩) (.inr ⟨_,uW⟩) fun z=>by
     rw[←h.ext c'.r (.inr ⟨_,HV⟩),←h.ext c.r (.inr ⟨_,uW⟩),hS z,e',h.mid.int.node hs z];rfl
    exact absurd (List.mem_map.2 ⟨c',gU,this⟩) Qs
   ·exact absurd h1 (Ne.symm b.nb.ne)
 have y5:∀{t},sK K0 K ah x l t→sK K0 {K with N:=up K.N c.r (some ⟨y,t0,t1⟩),T:=nf K.T ⟨y,t0,t1⟩ (some c.r)} ah x l t:=fun ht=>by
  rcases ht with ht|⟨e,he,h3⟩
  ·exact .inl ht
  ·refine .inr ⟨e,?_,h3⟩
   show up K.N c.r (some ⟨y,t0,t1⟩) _=_
   refine(aL fun e2=>?_).trans he
   rw[e2,CV]at he
   cases he
   exact b.wu hc h3.2.1 h3.2.2
 have hml:∀s,s∈(done++[c]).map Cx.r↔s∈done.map Cx.r∨s=c.r:=fun s=>by simp[List.mem_append]
 refine⟨hT,⟨(h.mid.uu CV ⟨c,by simp,rfl⟩ (by rw[h.n];exact b.nb.yn) hne (h.nH b hd k0) (h.nH b hd k1) hT hS hP).congr (fun s=>?_) (fun _ _=>rfl),h.n,h.cap,h.hold,h.ext,fun{s d} hs hm=>?_,fun{s d} hs=>?_,fun{s d} hs=>?_,?_⟩⟩
 ·constructor
  ·rintro⟨⟨c',gU,rfl⟩,h2⟩
   rcases List.mem_cons.1 gU with rfl|gU
   ·exact absurd rfl h2
   ·exact⟨c',gU,rfl⟩
  ·rintro⟨c',gU,rfl⟩
   refine⟨⟨c',List.mem_cons_of_mem _ gU,rfl⟩,fun e=>?_⟩
   rw[List.map_append,List.nodup_append]at hn
   have:=hn.2.1
   rw[List.map_cons,List.nodup_cons]at this
   exact this.1 (List.mem_map.2 ⟨c',gU,e⟩)
 ·have hm':=fun x=>hm ((hml s).2 x)
  show up K.N c.r _ s=_
  rw[aL (fun e=>hm' (.inr e))];exact h.old hs (fun x=>hm' (.inl x))
 ·by_cases e:s=c.r
  ·exact⟨⟨y,t0,t1⟩,by show up K.N c.r (some _) s=_;rw[e,aH]⟩
  ·obtain⟨d',cI⟩:=h.kept hs
   exact⟨d',by show up K.N c.r (some _) s=_;rw[aL e];exact cI⟩
 ·have hs':up K.N c.r (some ⟨y,t0,t1⟩) s=some d:=hs
  by_cases e:s=c.r
  ·rw[e,aH]at hs';cases hs'
   exact .inr (.inl ⟨(hml s).2 (.inr e),rfl,y5 k0,y5 k1⟩)
  ·rw[aL e]at hs'
   rcases h.new hs' with⟨h1,h2⟩|⟨h1,h2,h3,h4⟩|h1
   ·exact .inl ⟨h1,fun hm=>((hml s).1 hm).elim h2 e⟩
   ·exact .inr (.inl ⟨(hml s).2 (.inl h1),h2,y5 h3,y5 h4⟩)
   ·exact .inr (.inr h1)
 ·show K.used=K0.used+(made.filter fun d=>(nf K.T ⟨y,t0,t1⟩ (some c.r) d).isSome).length
  have hnm:(⟨y,t0,t1⟩:Nd)∉made:=fun hm=>by
   obtain⟨⟨c',gU,hk⟩,_⟩:=(b.Ry.mem _).1 hm
   simp only[keys,List.mem_cons,List.not_mem_nil,or_false,Nd.mk.injEq]at hk
   rcases hk with⟨e,_⟩|⟨e,_⟩
   ·exact b.nb.ne e.symm
   ·exact b.nb.ne e.symm
  rw[kT b.Ry.nd hT,if_neg hnm,h.used];rfl
theorem TI.levels(b:TB K0 S0 ah x y l all made)(h:TI K0 S0 ah x y l made K S all [] P){s:Nat}{d:Nd}(hs:K.N s=some d):
  pA ah x y l d.v<dep K0.n (pA ah x y l) K.N d.lo∧pA ah x y l d.v<dep K0.n (pA ah x y l) K.N d.hi:=by
 have w:=b.ok.wf
 have hd:∀c∈all,c∈all:=fun _ h=>h
 have Oz:l+1<K0.n:=by have:=b.ok.lv.lt y b.nb.yn;rw[b.nb.ly]at this;exact this
 have sx:pA ah x y l x=l+1:=by simp[pA]
 have sy:pA ah x y l y=l:=by unfold pA;rw[if_neg (Ne.symm b.nb.ne),if_pos rfl]
 have so:∀v,v<K0.n→ah v≠l→ah v≠l+1→pA ah x y l v=ah v:=fun v hv h1 h2=>by
  unfold pA
  rw[if_neg (fun e=>h1 (by rw[e];exact b.nb.lx)),if_neg (fun e=>h2 (by rw[e];exact b.nb.ly))]
 have low:∀{t},pq K0 ah l t→l+1<dep K0.n (pA ah x y l) K.N t:=fun{t} ht=>by
  have e:=h.KJ b hd ht
  cases e2:K0.N t with
  |none=>rw[aT (by rw[e,e2])];exact Oz
  |some e'=>
   have:=b.uM ht e2
   rw[av (by rw[e,e2]),so _ (w.var e2) (by omega) (by omega)];exact this
 have kid:∀{t},sK K0 K ah x l t→l<dep K0.n (pA ah x y l) K.N t:=fun{t} ht=>by
  rcases ht with ht|⟨e,he,hx,_⟩
  ·have:=low ht;omega
  ·rw[av he,hx,sx];omega
 rcases h.new hs with⟨h1,h2⟩|⟨_,h2,h3,h4⟩|⟨_,h2,h3,h4⟩
 ·have hv:=w.var h1
  have q1:=w.lo h1
  have q2:=w.hi h1
  rcases Nat.lt_trichotomy (ah d.v) l with hlt|heq|hgt
  ·rw[so _ hv (by omega) (by omega)]
   have up':∀{t},live K0.N t→ah d.v<dep K0.n ah K0.N t→ah d.v<dep K0.n (pA ah x y l) K.N t:=fun{t} ht fV=>by
    cases e:K.N t with
    |none=>rw[aT e];exact Nat.lt_of_lt_of_le fV (w.kV b.ok.lv t)
    |some e'=>
     rw[av e]
     rcases h.new e with⟨g1,_⟩|⟨_,g2,_⟩|⟨g1,_⟩
     ·rw[av g1]at fV
      have W7:=w.var g1
      by_cases e1:ah e'.v=l
      ·have:e'.v=x:=b.ok.lv.inj _ _ W7 b.nb.xn (by rw[b.nb.lx];exact e1)
       rw[this,sx];omega
      ·by_cases e2:ah e'.v=l+1
       ·have:e'.v=y:=b.ok.lv.inj _ _ W7 b.nb.yn (by rw[b.nb.ly];exact e2)
        rw[this,sy];exact hlt
       ·rw[so _ W7 e1 e2];exact fV
     ·rw[g2,sy];exact hlt
     ·rcases ht with ht|⟨f,hf⟩
      ·have:=(h.mid.two e).1;omega
      ·rw[g1]at hf;cases hf
   exact⟨up' q1.1 q1.2,up' q2.1 q2.2⟩
  ·have hx:d.v=x:=b.ok.lv.inj _ _ hv b.nb.xn (by rw[b.nb.lx];exact heq)
   rw[hx,sx]
   have nc:∀t,t=d.lo∨t=d.hi→∀e,K0.N t=some e→e.v≠y:=fun t ht e he hv=>h2 (List.mem_map.2 ⟨kW K0.N y s d,(b.cx.mem _).2 ⟨⟨h1,hx,by
    rcases ht with rfl|rfl
    ·exact .inl ⟨e,he,hv⟩
    ·exact .inr ⟨e,he,hv⟩⟩,rfl⟩,rfl⟩)
   have lw:∀t,t=d.lo∨t=d.hi→live K0.N t→ah d.v<dep K0.n ah K0.N t→pq K0 ah l t:=fun t ht hlv hlt=>by
    refine⟨hlv,?_⟩
    have:=(w.half b.ok.lv b.ok.mid.int b.nb.yy hlv (by omega:l<dep K0.n ah K0.N t)).1.2
    rwa [(Ky (nc t ht)).1]at this
   exact⟨low (lw _ (.inl rfl) q1.1 q1.2),low (lw _ (.inr rfl) q2.1 q2.2)⟩
  ·by_cases e:ah d.v=l+1
   ·have hy:d.v=y:=b.ok.lv.inj _ _ hv b.nb.yn (by rw[b.nb.ly];exact e)
    rw[hy,sy]
    have a1:=low ⟨q1.1,by omega⟩
    have a2:=low ⟨q2.1,by omega⟩
    exact⟨by omega,by omega⟩
   ·rw[so _ hv (by omega) e]
    have deep:∀{t},live K0.N t→ah d.v<dep K0.n ah K0.N t→ah d.v<dep K0.n (pA ah x y l) K.N t:=fun{t} ht fV=>by
     have hl:pq K0 ah l t:=⟨ht,by omega⟩
     have e':=h.KJ b hd hl
     cases e2:K0.N t with
     |none=>rw[aT (by rw[e',e2])];exact b.ok.lv.lt _ hv
     |some f=>
      rw[av e2]at fV
      rw[av (by rw[e',e2]),so _ (w.var e2) (by omega) (by omega)];exact fV
    exact⟨deep q1.1 q1.2,deep q2.1 q2.2⟩
 ·rw[h2,sy];exact⟨kid h3,kid h4⟩
 ·rw[h2,sx];exact⟨low h3,low h4⟩
theorem TI.fin(b:TB K0 S0 ah x y l all made)(h:TI K0 S0 ah x y l made K S all [] P){K':Kd}(hm:gF K' S fM zero')(hp:Pos K')(hN:∀{s d},K'.N s=some d→K.N s=some d)(hn:K'.n=K.n)(hh:∀r,K'.hold r=K.hold r):
  Ok K' S (pA ah x y l)∧(∀g,K'.held S g↔K0.held S0 g)∧∀r,K0.hold r≠0→S r=S0 r:=by
 have X8:∀r,K0.hold r≠0→S r=S0 r:=fun r hr=>h.ext r (.inr (b.ok.mid.held r hr))
 refine⟨⟨hm,hp,by rw[hn,h.n];exact Ko b.ok.lv b.nb,hm.wf fun{s d} hs=>?_⟩,fun g=>?_,X8⟩
 ·have hl:=h.levels b (hN hs)
  have same:∀{t},live K'.N t→dep K'.n (pA ah x y l) K'.N t=dep K0.n (pA ah x y l) K.N t:=fun{t} ht=>by
   cases e:K'.N t with
   |some f=>rw[av e,av (hN e)]
   |none=>
    have MA:t<2:=by
     rcases ht with ht|⟨f,hf⟩
     ·exact ht
     ·rw[e]at hf;cases hf
    have:K.N t=none:=by
     cases e2:K.N t with
     |none=>rfl
     |some f=>have:=(h.mid.two e2).1;omega
    rw[aT e,aT this,hn,h.n]
  rw[same (hm.lo hs),same (hm.hi hs)];exact hl
 ·constructor
  ·rintro⟨r,hr,rfl⟩
   have hr':K0.hold r≠0:=by rw[←h.hold,←hh];exact hr
   exact⟨r,hr',X8 r hr'⟩
  ·rintro⟨r,hr,rfl⟩
   exact⟨r,by show K'.hold r≠0;rw[hh,h.hold];exact hr,(X8 r hr).symm⟩
end
end aE
namespace aE
open aD
variable {n cap l:Nat} {ord:List Nat} {F G:Fn→Prop}
open Classical in
noncomputable def sz(n:Nat)(ord:List Nat)(F:Fn→Prop):Nat:=if h:∃k,oV (aM n ord F) k then Classical.choose h else 0
theorem Rg{k:Nat}(h:oV (aM n ord F) k):sz n ord F=k:=by
 unfold sz
 rw[dif_pos ⟨k,h⟩]
 exact(Classical.choose_spec (⟨k,h⟩:∃k,oV (aM n ord F) k)).uniq h
def BS(n:Nat)(ord:List Nat)(l:Nat)(F:Fn→Prop):Fn→Prop:=fun g=>aM n ord F g∨aM n (fy ord l) F g
open Classical in
noncomputable def vT(n:Nat)(ord:List Nat)(l:Nat)(F:Fn→Prop):Nat:=if h:∃k,oV (BS n ord l F) k then Classical.choose h else 0
theorem Gp{k:Nat}(h:oV (BS n ord l F) k):vT n ord l F=k:=by
 unfold vT
 rw[dif_pos ⟨k,h⟩]
 exact(Classical.choose_spec (⟨k,h⟩:∃k,oV (BS n ord l F) k)).uniq h
theorem GB(e:∀g,F g↔G g):sz n ord F=sz n ord G:=by
 have:F=G:=funext fun g=>propext (e g)
 rw[this]
theorem DL(e:∀g,F g↔G g):vT n ord l F=vT n ord l G:=by
 have:F=G:=funext fun g=>propext (e g)
 rw[this]
theorem Iw{a b:List Nat}(hl:a.length=b.length)(h:∀i,i<a.length→a.getD i 0=b.getD i 0):a=b:=by
 refine List.ext_getElem hl fun i h1 h2=>?_
 have:=h i h1
 simpa[List.getD,List.getElem?_eq_getElem h1,List.getElem?_eq_getElem h2]using this
theorem pQ(hl:l+1<ord.length):fy (fy ord l) l=ord:=by
 refine Iw (by rw[lC,lC]) fun i _=>?_
 have h2:l+1<(fy ord l).length:=by rw[lC];exact hl
 rw[ez h2,ez hl,ez hl,ez hl]
 by_cases e:i=l
 ·subst e;simp
 ·by_cases e2:i=l+1
  ·subst e2;simp
  ·simp[e,e2]
theorem Kb(hl:l+1<ord.length):vT n (fy ord l) l F=vT n ord l F:=by
 have:BS n (fy ord l) l F=BS n ord l F:=by
  funext g
  unfold BS
  rw[pQ hl]
  exact propext or_comm
 unfold vT
 rw[this]
def sH(n cap:Nat)(F:Fn→Prop):List Nat→List Nat→Prop
 |_,[]=>True
 |ord,l::r=>l+1<n∧vT n ord l F+2≤cap∧sH n cap F (fy ord l) r
theorem sH.congr(e:∀g,F g↔G g):∀{tr ord:List Nat},sH n cap F ord tr→sH n cap G ord tr:=by
 have:F=G:=funext fun g=>propext (e g)
 subst this
 exact fun{tr ord} h=>h
theorem sH.YP(hlen:ord.length=n)(hl:l+1<n)(hfit:vT n ord l F+2≤cap){tr:List Nat}(h:sH n cap F ord tr.reverse):sH n cap F (fy ord l) (tr++[l]).reverse:=by
 rw[List.reverse_append]
 exact⟨hl,by rw[Kb (by omega)];exact hfit,by rw[pQ (by omega)];exact h⟩
end aE
namespace aE
open aD
variable {n l:Nat} {ord:List Nat} {L:aD.Fs} {F:Fn→Prop}
def eo(n:Nat)(ws:List Nat):Fn:=fun x=>bit ws (x%2^n)
theorem kB{x v n:Nat}{b:Bool}(hv:v<n):aI x v b%2^n=aI (x%2^n) v b:=by
 apply Nat.eq_of_testBit_eq;intro k
 rw[Nat.testBit_mod_two_pow,ay,ay,Nat.testBit_mod_two_pow]
 by_cases e:k=v
 ·subst e;simp[hv]
 ·simp[e]
theorem lQ{v:Nat}{ws:List Nat}(hf:eE n ws)(hv:v<n)(b:Bool):eo n (jl n ws v b)=fun x=>eo n ws (aI x v b):=by
 funext x
 unfold eo
 rw[nX hf hv (Nat.mod_lt _ (Nat.two_pow_pos n)),kB hv]
theorem It{ws:List Nat}{x:Nat}(h:x<2^n):eo n ws x=bit ws x:=by unfold eo;rw[Nat.mod_eq_of_lt h]
theorem u7{a b:List Nat}(ha:eE n a)(hb:eE n b)(h:eo n a=eo n b):a=b:=ha.ext hb fun x hx=>by rw[←It hx,←It hx,h]
theorem oL{v:Nat}{ws:List Nat}(hf:eE n ws)(hv:v<n):cR (eo n ws) v↔aD.dep n ws v=true:=by
 rw[LJ hf hv]
 constructor
 ·rintro⟨x,hx⟩
  refine⟨x%2^n,Nat.mod_lt _ (Nat.two_pow_pos n),?_⟩
  unfold eo at hx
  rwa [kB hv,kB hv]at hx
 ·rintro⟨x,hx,hne⟩
  refine⟨x,?_⟩
  unfold eo
  rwa [kB hv,kB hv,Nat.mod_eq_of_lt hx]
def cur(n:Nat)(ord:List Nat)(L:aD.Fs):Nat→aD.Fs
 |0=>kr L
 |k+1=>given n (cur n ord L k) (ord.getD k 0)
def FT(n:Nat)(L:aD.Fs):Fn→Prop:=fun g=>∃t∈L,g=eo n t
theorem lS:∀k,(cur n ord L k).Nodup
 |0=>jz L
 |k+1=>xh _ _ _
theorem lT(hL:∀t∈L,eE n t)(hn:n≤16):∀k,∀t∈cur n ord L k,eE n t
 |0,t,h=>hL t (dc.1 h)
 |k+1,t,h=>by obtain⟨u,_,b,rfl⟩:=lJ.1 h;exact ir hn
theorem u5(hL:∀t∈L,eE n t)(hn:n≤16)(ho:∀i,i<n→ord.getD i 0<n):∀k,k≤n→∀g,fs ord (FT n L) k g↔∃t∈cur n ord L k,g=eo n t
 |0,_,g=>by
  show(∃t∈L,g=eo n t)↔_
  constructor
  ·rintro⟨t,h,e⟩;exact⟨t,dc.2 h,e⟩
  ·rintro⟨t,h,e⟩;exact⟨t,dc.1 h,e⟩
 |k+1,hk,g=>by
  have ih:=u5 hL hn ho k (by omega)
  constructor
  ·rintro⟨f,hf,b,rfl⟩
   obtain⟨t,ht,rfl⟩:=(ih f).1 hf
   exact⟨jl n t (ord.getD k 0) b,lJ.2 ⟨t,ht,b,rfl⟩,(lQ (lT hL hn k t ht) (ho k (by omega)) b).symm⟩
  ·rintro⟨t,ht,rfl⟩
   obtain⟨u,hu,b,rfl⟩:=lJ.1 ht
   exact⟨eo n u,(ih _).2 ⟨u,hu,rfl⟩,b,lQ (lT hL hn k u hu) (ho k (by omega)) b⟩
theorem nR:∀k g,fs ord F k g→∀j,j<k→¬cR g (ord.getD j 0)
 |0,_,_,_,h=>absurd h (Nat.not_lt_zero _)
 |k+1,g,h,j,hj=>by
  obtain⟨f,hf,b,rfl⟩:=h
  rintro⟨x,hx⟩
  apply hx
  by_cases e:ord.getD j 0=ord.getD k 0
  ·show f (aI (aI x _ false) _ b)=f (aI (aI x _ true) _ b)
   congr 1
   apply Nat.eq_of_testBit_eq;intro i
   simp only[ay,e]
   split<;>rfl
  ·have hlt:j<k:=by
    rcases Nat.lt_succ_iff_lt_or_eq.1 hj with h|h
    ·exact h
    ·subst h;exact(e rfl).elim
   have:=nR k f hf j hlt
   show f (aI (aI x _ false) _ b)=f (aI (aI x _ true) _ b)
   rw[dw e,dw e]
   exact Classical.byContradiction fun hne=>this ⟨_,hne⟩
def iZ(n:Nat)(ord:List Nat)(L:aD.Fs)(k:Nat):aD.Fs:=nodes n (cur n ord L k) (ord.getD k 0)
def gf(n:Nat)(ord:List Nat)(L:aD.Fs):Nat→Nat
 |0=>0
 |k+1=>gf n ord L k+(iZ n ord L k).length
def rC(n:Nat)(ord:List Nat)(L:aD.Fs):Nat→aD.Fs
 |0=>[]
 |k+1=>rC n ord L k++iZ n ord L k
theorem iy:∀k,(rC n ord L k).length=gf n ord L k
 |0=>rfl
 |k+1=>by rw[rC,gf,List.length_append,iy k]
theorem kH{k:Nat}{t:List Nat}:t∈iZ n ord L k↔t∈cur n ord L k∧aD.dep n t (ord.getD k 0)=true:=by
 unfold iZ nodes;rw[List.mem_filter]
theorem n6(hL:∀t∈L,eE n t)(hn:n≤16):∀k,∀t∈rC n ord L k,eE n t
 |0,t,h=>by cases h
 |k+1,t,h=>by
  rcases List.mem_append.1 h with h|h
  ·exact n6 hL hn k t h
  ·exact lT hL hn k t (kH.1 h).1
theorem k7(hL:∀t∈L,eE n t)(hn:n≤16)(ho:∀i,i<n→ord.getD i 0<n):∀m,m≤n→∀g,(∃k,k<m∧fs ord (FT n L) k g∧cR g (ord.getD k 0))↔∃t∈rC n ord L m,g=eo n t
 |0,_,g=>by simp[rC]
 |m+1,hm,g=>by
  have ih:=k7 hL hn ho m (by omega) g
  have ah:(fs ord (FT n L) m g∧cR g (ord.getD m 0))↔∃t∈iZ n ord L m,g=eo n t:=by
   rw[u5 hL hn ho m (by omega)]
   constructor
   ·rintro⟨⟨t,ht,rfl⟩,hh⟩
    exact⟨t,kH.2 ⟨ht,(oL (lT hL hn m t ht) (ho m (by omega))).1 hh⟩,rfl⟩
   ·rintro⟨t,ht,rfl⟩
    obtain⟨h1,h2⟩:=kH.1 ht
    exact⟨⟨t,h1,rfl⟩,(oL (lT hL hn m t h1) (ho m (by omega))).2 h2⟩
  constructor
  ·rintro⟨k,hk,h1,h2⟩
   by_cases e:k=m
   ·subst e
    obtain⟨t,ht,rfl⟩:=ah.1 ⟨h1,h2⟩
    exact⟨t,List.mem_append_right _ ht,rfl⟩
   ·obtain⟨t,ht,rfl⟩:=ih.1 ⟨k,by omega,h1,h2⟩
    exact⟨t,List.mem_append_left _ ht,rfl⟩
  ·rintro⟨t,ht,rfl⟩
   rcases List.mem_append.1 ht with ht|ht
   ·obtain⟨k,hk,h⟩:=ih.2 ⟨t,ht,rfl⟩
    exact⟨k,by omega,h⟩
   ·exact⟨m,by omega,ah.2 ⟨t,ht,rfl⟩⟩
theorem rB(hL:∀t∈L,eE n t)(hn:n≤16)(ho:∀i,i<n→ord.getD i 0<n):∀m,m≤n→(rC n ord L m).Nodup
 |0,_=>List.nodup_nil
 |m+1,hm=>by
  refine List.nodup_append.2 ⟨rB hL hn ho m (by omega),(lS m).filter _,fun a ha b hb e=>?_⟩
  subst e
  obtain⟨k,hk,h1,h2⟩:=(k7 hL hn ho m (by omega) (eo n a)).2 ⟨a,ha,rfl⟩
  have h3:=(u5 hL hn ho m (by omega) (eo n a)).2 ⟨a,(kH.1 hb).1,rfl⟩
  exact nR m _ h3 k hk h2
theorem xy{P:Fn→Prop}{l:aD.Fs}(hf:∀t∈l,eE n t)(hn:l.Nodup)(h:∀g,P g↔∃t∈l,g=eo n t):oV P l.length:=by
 refine⟨l.map (eo n),?_,by simp,fun g=>?_⟩
 ·refine List.pairwise_map.2 (hn.imp_of_mem fun{a b} ha hb hne heq=>hne (u7 (hf a ha) (hf b hb) heq))
 ·rw[h,List.mem_map]
  constructor
  ·rintro⟨t,ht,rfl⟩;exact⟨t,ht,rfl⟩
  ·rintro⟨t,ht,rfl⟩;exact⟨t,ht,rfl⟩
theorem IE(hL:∀t∈L,eE n t)(hn:n≤16)(ho:∀i,i<n→ord.getD i 0<n):oV (aM n ord (FT n L)) (gf n ord L n):=by
 rw[←iy]
 exact xy (n6 hL hn n) (rB hL hn ho n (Nat.le_refl _)) (k7 hL hn ho n (Nat.le_refl _))
def IJ(n:Nat)(ord:List Nat)(l:Nat)(L:aD.Fs):aD.Fs:=kr (rC n ord L n++rC n (fy ord l) L n)
theorem NO(hl:l+1<n)(hlen:ord.length=n)(ho:∀i,i<n→ord.getD i 0<n):∀i,i<n→(fy ord l).getD i 0<n:=fun i hi=>by
 rw[ez (by omega)]
 split
 ·exact ho _ hl
 ·split
  ·exact ho _ (by omega)
  ·exact ho i hi
theorem NH(hL:∀t∈L,eE n t)(hn:n≤16)(ho:∀i,i<n→ord.getD i 0<n)(hl:l+1<n)(hlen:ord.length=n):vT n ord l (FT n L)=(IJ n ord l L).length:=by
 have ct:=NO hl hlen ho
 refine Gp (xy (n:=n) (fun t ht=>?_) (jz _) fun g=>?_)
 ·rcases List.mem_append.1 (dc.1 ht)with h|h
  ·exact n6 hL hn n t h
  ·exact n6 hL hn n t h
 ·unfold BS IJ
  rw[show aM n ord (FT n L) g↔_ from k7 hL hn ho n (Nat.le_refl _) g,show aM n (fy ord l) (FT n L) g↔_ from k7 hL hn ct n (Nat.le_refl _) g]
  constructor
  ·rintro(⟨t,h,rfl⟩|⟨t,h,rfl⟩)
   ·exact⟨t,dc.2 (List.mem_append_left _ h),rfl⟩
   ·exact⟨t,dc.2 (List.mem_append_right _ h),rfl⟩
  ·rintro⟨t,h,rfl⟩
   rcases List.mem_append.1 (dc.1 h)with h|h
   ·exact .inl ⟨t,h,rfl⟩
   ·exact .inr ⟨t,h,rfl⟩
end aE
set_option maxRecDepth 100000
namespace Go.Proofs
open Go Go.Sx
open aE
def u32(r:Nat):Value:=.int .u32 (r:Int)
def aV(d:Nd):List Value:=[.int .i64 (d.v:Int),u32 d.lo,u32 d.hi]
structure l8 where
 v:Int
 lo:Nat
 hi:Nat
 tk:Bool
 c:Nat
def l8.row(p:l8):List Value:=[.int .i64 p.v,u32 p.lo,u32 p.hi,.bool p.tk,.int .u8 (p.c:Int)]
def eS(N:dJ)(r:Nat):Bool:=decide (r<2)||(N r).isSome
theorem bI{N:dJ}{r:Nat}:eS N r=true↔live N r:=by
 unfold eS live
 rw[Bool.or_eq_true,decide_eq_true_eq,Option.isSome_iff_exists]
def got(N:dJ)(r:Nat):List Value:=
 if r<2 then [.int .i64 (-1),u32 r,u32 r]else match N r with|some d=>aV d|none=>[.int .i64 0,u32 0,u32 0]
theorem cY{N:dJ}{r:Nat}{d:Nd}(h:N r=some d)(h2:2≤r):got N r=aV d:=by unfold got;rw[if_neg (by omega),h]
theorem dx{N:dJ}{r:Nat}(h2:r<2):got N r=[.int .i64 (-1),u32 r,u32 r]:=by unfold got;rw[if_pos h2]
theorem xd{N:dJ}{r:Nat}(h:eS N r=false):got N r=[.int .i64 0,u32 0,u32 0]:=by
 unfold eS at h
 rw[Bool.or_eq_false_iff,decide_eq_false_iff_not]at h
 unfold got;rw[if_neg h.1]
 cases hN:N r with
 |none=>rfl
 |some d=>rw[hN]at h;simp at h
def D6(p:l8):Option Nd:=if p.tk then some ⟨p.v.toNat,p.lo,p.hi⟩else none
structure vB(l:List l8)(fr:List Nat)(cap used:Nat)(N:dJ):Prop where
 cap:l.length≤cap∧cap≤1048576
 two:2≤l.length
 const:∀r,r<2→∃p,l[r]? =some p∧p.v= -1∧p.lo=r∧p.hi=r∧p.tk=true
 nd:∀r,2≤r→N r=(l[r]?).bind D6
 n0:∀r,r<2→N r=none
 nn:∀(r:Nat) p,2≤r→l[r]? =some p→p.tk=true→0≤p.v
 JM:fr.Nodup
 oJ:∀r,r∈fr↔∃p,l[r]? =some p∧p.tk=false
 used:used+fr.length=l.length
theorem vB.wA{l:List l8}{fr:List Nat}{cap used:Nat}{N:dJ}(h:vB l fr cap used N)(r:Nat):eS N r=(match l[r]? with|some p=>p.tk|none=>false):=by
 unfold eS
 by_cases h2:r<2
 ·obtain⟨p,hp,_,_,_,ht⟩:=h.const r h2
  simp[h2,hp,ht]
 ·rw[h.nd r (by omega)]
  cases hl:l[r]? with
  |none=>simp[h2]
  |some p=>cases ht:p.tk<;>simp[h2,D6,ht]
theorem vB.YL{l:List l8}{fr:List Nat}{cap used:Nat}{N:dJ}(h:vB l fr cap used N){r:Nat}{p:l8}(hp:l[r]? =some p)(ht:p.tk=true):got N r=p.row.take 3:=by
 by_cases h2:r<2
 ·obtain⟨p',R4,h1,kQ,h3,_⟩:=h.const r h2
  rw[hp]at R4;cases R4
  rw[dx h2];simp[l8.row,h1,kQ,h3]
 ·have hn:=h.nn r p (by omega) hp ht
  rw[cY (d:=⟨p.v.toNat,p.lo,p.hi⟩) (by rw[h.nd r (by omega),hp];simp[D6,ht]) (by omega)]
  simp[aV,l8.row,Int.toNat_of_nonneg hn]
theorem vB.lt{l:List l8}{fr:List Nat}{cap used:Nat}{N:dJ}(h:vB l fr cap used N){r:Nat}(hr:live N r):r<l.length:=by
 have:=bI.2 hr
 rw[h.wA]at this
 cases hl:l[r]? with
 |none=>rw[hl]at this;simp at this
 |some p=>exact(List.getElem?_eq_some_iff.1 hl).1
def fQ(pa cap used:Nat)(N:dJ)(C:Hp):Prop:=
 ∃vl vf l fr Cl Cf,C=(pa,.cells #[.int .i64 (cap:Int),vl,vf,.int .i64 (used:Int)] 198 (0,0))::(Cl++Cf)∧
  aQ 291 5 vl (l.map l8.row) Cl∧aN 77 .u32 vf (fr.map (Nat.cast:Nat→Int)) Cf∧vB l fr cap used N
abbrev ptr(b:Nat):Value:=.pointer (some ⟨b,0,none⟩)
theorem row_one(p:l8):∀x∈p.row,x.oneCell'=true:=by intro x hx;simp[l8.row,u32]at hx;rcases hx with rfl|rfl|rfl|rfl|rfl<;>rfl
theorem nq{pa cap used r:Nat}{N:dJ}{C:Hp}(h:fQ pa cap used N C)(hr:r<4294967296):
  Rd Tryz.prog 253 #[ptr pa,u32 r] C (· =.bool (eS N r)):=by
 obtain⟨vl,vf,l,fr,Cl,Cf,rfl,hl,hf,ho⟩:=h
 intro g
 refine An (R:=az _) ?_
 unfold L253
 refine aW.nat (by simp[aB];omega) ?_
 refine Nil.ptr ?_
 refine aa.mk (Ld.mk (by repeat (first|assumption|exact List.Mem.head _|apply List.Mem.tail|apply List.mem_append_right)) rfl ?_)
 refine hl.bS ?_
 refine ae.fq ?_
 rw[List.length_map]
 rw[ho.wA r]
 refine cw.and (match l[r]? with|some p=>p.tk|none=>false) (fun hlt=>?_) rfl fun _=>cr.mk (.refl _) ?_
 ·have fV:=of_decide_eq_true hlt
  refine Nil.ptr ?_
  refine aa.mk (Ld.mk (by repeat (first|assumption|exact List.Mem.head _|apply List.Mem.tail|apply List.mem_append_right)) rfl ?_)
  have hg:l[r]? =some l[r]:=List.getElem?_eq_getElem fV
  refine hl.Oj (r:=l[r].row) (x:=.bool l[r].tk) (by rw[List.getElem?_map,hg];rfl) rfl (fun _ h=>by exact .tail _ (List.mem_append_left _ h)) ?_
  exact⟨rfl,by rw[hg]⟩
 ·congr 1
  by_cases hlt:r<l.length
  ·simp[hlt]
  ·rw[List.getElem?_eq_none (by omega)];simp
theorem Io{pa cap used r:Nat}{N:dJ}{C:Hp}(h:fQ pa cap used N C)(hr:r<4294967296):
  Rd Tryz.prog 231 #[ptr pa,u32 r] C (· =.tuple #[.agg (got N r).toArray,.int .i64 (if eS N r then 0 else 3)]):=by
 have h0:=h
 obtain⟨vl,vf,l,fr,Cl,Cf,rfl,hl,hf,ho⟩:=h
 intro g
 refine AI (R:=az _) ?_
 unfold L231
 intro b1 _
 refine ae.bK (Br.no ?_)
 refine ag.rd (.cons .here) (nq h0 hr) ?_
 rintro v rfl
 refine Un.not ?_
 refine Br.mk (fun hb=>?_) (fun hb=>?_)
 ·have hb':eS N r=false:=by simpa using hb
  refine Build.mk (cs:=[.int .i64 0,.int .u32 0,.int .u32 0]) (by kernel_rfl) ?_
  refine St.whole (r:=[.int .i64 0,.int .u32 0,.int .u32 0]) (by exact .head _) rfl rfl (by simp[Value.oneCell']) ?_
  refine aC.whole (r:=[.int .i64 0,.int .u32 0,.int .u32 0]) (by exact .head _) rfl ?_
  exact cr.mk .tail (by rw[xd hb',hb'];rfl)
 ·have hb':eS N r=true:=by simpa using hb
  have hx:=hb'
  rw[ho.wA]at hx
  cases hg:l[r]? with
  |none=>rw[hg]at hx;simp at hx
  |some p=>
  rw[hg]at hx
  simp only at hx
  refine Nil.ptr ?_
  refine aa.mk (Ld.mk (by repeat (first|assumption|exact List.Mem.head _|apply List.Mem.tail|apply List.mem_append_right)) rfl ?_)
  refine hl.Oi (r:=p.row) (by rw[List.getElem?_map,hg];rfl) (by decide) (fun _ h=>by exact .tail _ (.tail _ (List.mem_append_left _ h))) ?_
  refine St.whole (r:=p.row.take 3) (by exact .head _) rfl rfl (fun x hx=>row_one p x (List.mem_of_mem_take hx)) ?_
  refine aC.whole (r:=p.row.take 3) (by exact .head _) rfl ?_
  exact cr.mk .tail (by rw[ho.YL hg hx,hb'];rfl)
structure T3(N:dJ)(d:Nd):Prop where
 v:d.v<64
 lo:live N d.lo
 hi:live N d.hi
theorem fQ.lt{pa cap used r:Nat}{N:dJ}{C:Hp}(h:fQ pa cap used N C)(hr:live N r):r<cap∧cap≤1048576:=by
 obtain⟨vl,vf,l,fr,Cl,Cf,rfl,hl,hf,ho⟩:=h
 exact⟨Nat.lt_of_lt_of_le (ho.lt hr) ho.cap.1,ho.cap.2⟩
theorem tO{pa cap used:Nat}{N:dJ}{C:Hp}{d:Nd}(h:fQ pa cap used N C)(hd:T3 N d):
  Rd Tryz.prog 208 #[ptr pa,.agg (aV d).toArray] C (· =.int .i64 0):=by
 have hlo:=h.lt hd.lo
 have hhi:=h.lt hd.hi
 intro g
 refine AW (R:=az _) ?_
 unfold L208
 intro b1 _
 refine aa.mk (Ld.mk (v:=.int .i64 (d.v:Int)) (by exact .head _) rfl ?_)
 refine ae.lss ?_
 refine cw.or (decide (64≤d.v)) (fun _=>?_) rfl fun _=>?_
 ·refine aa.mk (Ld.mk (v:=.int .i64 (d.v:Int)) (by exact .head _) rfl ?_)
  exact ae.pe (b:=64) ⟨rfl,rfl⟩
 have hv:=hd.v
 refine Br.Rx (by simp;omega) ?_
 intro J hJ
 refine aa.mk (Ld.mk (v:=u32 d.lo) (by exact .head _) rfl ?_)
 refine ag.rd (.cons .here) (nq h (by omega)) ?_
 rintro v rfl
 rw[bI.2 hd.lo]
 refine Un.not (Split.go rfl ?_)
 refine aa.mk (Ld.mk (v:=u32 d.hi) (by exact .head _) rfl ?_)
 refine ag.rd (.cons .here) (nq h (by omega)) ?_
 rintro v rfl
 rw[bI.2 hd.hi]
 refine Un.not (aA.mk (JE.mk (hJ _ _ fun gs=>Br.no (cr.mk .tail rfl))))
theorem GO{pa cap used r:Nat}{N:dJ}{C:Hp}(h:fQ pa cap used N C)(hr:∃d,N r=some d)(h2:2≤r):
  Rd Tryz.prog 209 #[ptr pa,u32 r] C (· =.int .i64 0):=by
 have hl:=h.lt (.inr hr)
 intro g
 refine AV (R:=az _) ?_
 unfold L209
 intro J hJ
 refine ae.wD (b:=1) ?_
 refine Split.go (by simp;omega) ?_
 refine ag.rd .here (nq h (by omega)) ?_
 rintro v rfl
 rw[bI.2 (.inr hr)]
 refine Un.not (aA.mk (JE.mk (hJ _ _ fun gs=>Br.no (cr.mk (.refl _) rfl))))
theorem xF{pa cap used:Nat}{N:dJ}{C:Hp}(h:fQ pa cap used N C):Rd Tryz.prog 58 #[ptr pa] C (· =.int .i64 (used:Int)):=by
 obtain⟨vl,vf,l,fr,Cl,Cf,rfl,hl,hf,ho⟩:=h
 intro g
 refine E7 (R:=az _) ?_
 unfold L58
 refine ae.bK (Br.no (Nil.ptr ?_))
 refine aa.mk (Ld.mk (by repeat (first|assumption|exact List.Mem.head _|apply List.Mem.tail|apply List.mem_append_right)) rfl ?_)
 exact cr.mk (.refl _) rfl
theorem rz{pa cap used:Nat}{N:dJ}{C:Hp}(h:fQ pa cap used N C):Rd Tryz.prog 146 #[ptr pa] C (· =.int .i64 (cap:Int)):=by
 obtain⟨vl,vf,l,fr,Cl,Cf,rfl,hl,hf,ho⟩:=h
 intro g
 refine Bp (R:=az _) ?_
 unfold L146
 refine ae.bK (Br.no (Nil.ptr ?_))
 refine aa.mk (Ld.mk (by repeat (first|assumption|exact List.Mem.head _|apply List.Mem.tail|apply List.mem_append_right)) rfl ?_)
 exact cr.mk (.refl _) rfl
end Go.Proofs
set_option maxRecDepth 100000
namespace Go.Proofs
open Go Go.Sx
open aE
section
variable {l:List l8} {fr:List Nat} {cap used:Nat} {N:dJ}
theorem yR(d:Nd){c:Nat}:D6 ⟨(d.v:Int),d.lo,d.hi,true,c⟩=some d:=by simp[D6]
theorem vB.reuse(h:vB l fr cap used N){r:Nat}(hr:r∈fr){fr':List Nat}(hf:fr.Perm (r::fr'))(d:Nd):
  2≤r∧r<cap∧N r=none∧vB (l.set r ⟨(d.v:Int),d.lo,d.hi,true,0⟩) fr' cap (used+1) (up N r (some d)):=by
 obtain⟨p,hp,ht⟩:=(h.oJ r).1 hr
 have hlt:=(List.getElem?_eq_some_iff.1 hp).1
 have h2:2≤r:=by
  apply Decidable.byContradiction
  intro hn
  obtain⟨p',R4,_,_,_,ht'⟩:=h.const r (by omega)
  rw[hp]at R4;cases R4;rw[ht]at ht';cases ht'
 have iO:=hf.nodup_iff.1 h.JM
 rw[List.nodup_cons]at iO
 refine⟨h2,Nat.lt_of_lt_of_le hlt h.cap.1,by rw[h.nd r h2,hp];simp[D6,ht],?_⟩
 have fC:∀s,s≠r→(l.set r ⟨(d.v:Int),d.lo,d.hi,true,0⟩)[s]? =l[s]? :=fun s hs=>List.getElem?_set_ne (Ne.symm hs)
 have g6:(l.set r ⟨(d.v:Int),d.lo,d.hi,true,0⟩)[r]? =some ⟨(d.v:Int),d.lo,d.hi,true,0⟩:=List.getElem?_set_self hlt
 exact {
  cap:=by simpa using h.cap
  two:=by simpa using h.two
  const:=fun s hs=>by rw[fC s (by omega)];exact h.const s hs
  nd:=fun s hs=>by
   by_cases e:s=r
   ·subst e;rw[aH,g6];exact(yR d).symm
   ·rw[aL e,fC s e];exact h.nd s hs
  n0:=fun s hs=>by rw[aL (by omega)];exact h.n0 s hs
  nn:=fun s q hs hq Hz=>by
   by_cases e:s=r
   ·subst e;rw[g6]at hq;cases hq;exact Int.natCast_nonneg _
   ·rw[fC s e]at hq;exact h.nn s q hs hq Hz
  JM:=iO.2
  oJ:=fun s=>by
   by_cases e:s=r
   ·subst e
    rw[g6]
    simp[iO.1]
   ·rw[fC s e,←h.oJ s,hf.mem_iff]
    simp[e]
  used:=by have:=h.used;have:=hf.length_eq;simp only[List.length_cons,List.length_set]at*;omega}
theorem vB.grow(h:vB l [] cap used N)(hlt:l.length<cap)(d:Nd):
  2≤l.length∧N l.length=none∧vB (l++[⟨(d.v:Int),d.lo,d.hi,true,0⟩]) [] cap (used+1) (up N l.length (some d)):=by
 have h2:=h.two
 refine⟨h2,by rw[h.nd _ h2,List.getElem?_eq_none (Nat.le_refl _)];rfl,?_⟩
 have fC:∀s,s≠l.length→(l++[(⟨(d.v:Int),d.lo,d.hi,true,0⟩:l8)])[s]? =l[s]? :=fun s hs=>by
  rw[List.getElem?_append]
  split
  ·rfl
  ·rw[List.getElem?_eq_none (by simp;omega),List.getElem?_eq_none (by omega)]
 have g6:(l++[(⟨(d.v:Int),d.lo,d.hi,true,0⟩:l8)])[l.length]? =some ⟨(d.v:Int),d.lo,d.hi,true,0⟩:=by simp
 exact {
  cap:=by simp;exact⟨hlt,h.cap.2⟩
  two:=by simp;omega
  const:=fun s hs=>by rw[fC s (by omega)];exact h.const s hs
  nd:=fun s hs=>by
   by_cases e:s=l.length
   ·subst e;rw[aH,g6];exact(yR d).symm
   ·rw[aL e,fC s e];exact h.nd s hs
  n0:=fun s hs=>by rw[aL (by omega)];exact h.n0 s hs
  nn:=fun s q hs hq Hz=>by
   by_cases e:s=l.length
   ·subst e;rw[g6]at hq;cases hq;exact Int.natCast_nonneg _
   ·rw[fC s e]at hq;exact h.nn s q hs hq Hz
  JM:=h.JM
  oJ:=fun s=>by
   by_cases e:s=l.length
   ·subst e
    rw[g6]
    simp
   ·rw[fC s e];exact h.oJ s
  used:=by have:=h.used;simp at*;omega}
theorem vB.uu(h:vB l fr cap used N){r:Nat}{p:l8}(h2:2≤r)(hp:l[r]? =some p)(ht:p.tk=true)(d:Nd):
  vB (l.set r ⟨(d.v:Int),d.lo,d.hi,true,p.c⟩) fr cap used (up N r (some d)):=by
 have hlt:=(List.getElem?_eq_some_iff.1 hp).1
 have fC:∀s,s≠r→(l.set r ⟨(d.v:Int),d.lo,d.hi,true,p.c⟩)[s]? =l[s]? :=fun s hs=>List.getElem?_set_ne (Ne.symm hs)
 have g6:(l.set r ⟨(d.v:Int),d.lo,d.hi,true,p.c⟩)[r]? =some ⟨(d.v:Int),d.lo,d.hi,true,p.c⟩:=List.getElem?_set_self hlt
 exact {
  cap:=by simpa using h.cap
  two:=by simpa using h.two
  const:=fun s hs=>by rw[fC s (by omega)];exact h.const s hs
  nd:=fun s hs=>by
   by_cases e:s=r
   ·subst e;rw[aH,g6];exact(yR d).symm
   ·rw[aL e,fC s e];exact h.nd s hs
  n0:=fun s hs=>by rw[aL (by omega)];exact h.n0 s hs
  nn:=fun s q hs hq Hz=>by
   by_cases e:s=r
   ·subst e;rw[g6]at hq;cases hq;exact Int.natCast_nonneg _
   ·rw[fC s e]at hq;exact h.nn s q hs hq Hz
  JM:=h.JM
  oJ:=fun s=>by
   by_cases e:s=r
   ·subst e
    rw[h.oJ,g6,hp]
    simp[ht]
   ·rw[fC s e];exact h.oJ s
  used:=by simpa using h.used}
theorem vB.free(h:vB l fr cap used N){r:Nat}{p:l8}(h2:2≤r)(hp:l[r]? =some p)(ht:p.tk=true):
  vB (l.set r ⟨0,0,0,false,0⟩) (fr++[r]) cap (used-1) (up N r none)∧0<used:=by
 have hlt:=(List.getElem?_eq_some_iff.1 hp).1
 have fC:∀s,s≠r→(l.set r ⟨0,0,0,false,0⟩)[s]? =l[s]? :=fun s hs=>List.getElem?_set_ne (Ne.symm hs)
 have g6:(l.set r ⟨0,0,0,false,0⟩)[r]? =some ⟨0,0,0,false,0⟩:=List.getElem?_set_self hlt
 have hnf:r∉fr:=fun hm=>by obtain⟨q,hq,Hz⟩:=(h.oJ r).1 hm;rw[hp]at hq;cases hq;rw[ht]at Hz;cases Hz
 have hu:fr.length<l.length:=by
  have hn:(r::fr).Nodup:=List.nodup_cons.2 ⟨hnf,h.JM⟩
  have:=bE (l:=r::fr) (l':=List.range l.length) hn fun s hs=>by
   rw[List.mem_range]
   rcases List.mem_cons.1 hs with rfl|hs
   ·exact hlt
   ·obtain⟨q,hq,_⟩:=(h.oJ s).1 hs;exact(List.getElem?_eq_some_iff.1 hq).1
  rw[List.length_range]at this;exact this
 have hu2:=h.used
 refine⟨?_,by omega⟩
 exact {
  cap:=by simpa using h.cap
  two:=by simpa using h.two
  const:=fun s hs=>by rw[fC s (by omega)];exact h.const s hs
  nd:=fun s hs=>by
   by_cases e:s=r
   ·subst e;rw[aH,g6];rfl
   ·rw[aL e,fC s e];exact h.nd s hs
  n0:=fun s hs=>by rw[aL (by omega)];exact h.n0 s hs
  nn:=fun s q hs hq Hz=>by
   by_cases e:s=r
   ·subst e;rw[g6]at hq;cases hq;cases Hz
   ·rw[fC s e]at hq;exact h.nn s q hs hq Hz
  JM:=by rw[List.nodup_append];exact⟨h.JM,by simp,fun a ha c hc=>by simp at hc;subst hc;intro e;subst e;exact hnf ha⟩
  oJ:=fun s=>by
   rw[List.mem_append,List.mem_singleton]
   by_cases e:s=r
   ·subst e
    rw[g6]
    simp
   ·rw[fC s e,←h.oJ];simp[e]
  used:=by simp;omega}
end
theorem kI(l:List l8)(r:Nat)(p:l8):(l.map l8.row).set r p.row=(l.set r p).map l8.row:=by rw[List.map_set]
theorem IX{pa cap used:Nat}{N:dJ}{C:Hp}{d:Nd}(h:fQ pa cap used N C)(hd:T3 N d)(hroom:used<cap):
  Fc Tryz.prog 252 #[ptr pa,.agg (aV d).toArray] C (fun v C'=>∃r,v=.tuple #[u32 r,.int .i64 0]∧2≤r∧r<cap∧N r=none∧fQ pa cap (used+1) (up N r (some d)) C'):=by
 have h0:=h
 obtain⟨vl,vf,l,fr,Cl,Cf,rfl,hl,hf,ho⟩:=h
 have hcap:=ho.cap
 have Cw:=ho.used
 intro g
 refine Ao (R:=az _) ?_
 unfold L252
 intro b1 _
 refine ae.bK (Br.no ?_)
 refine aC.whole (r:=aV d) (by exact .head _) rfl ?_
 refine ag.rd (.cons .here) (tO h0 hd) ?_
 rintro v rfl
 refine ae.c7 (Br.aX (by simp) ?_)
 refine Nil.ptr ?_
 refine aa.mk (Ld.mk (by repeat (first|assumption|exact List.Mem.head _|apply List.Mem.tail|apply List.mem_append_right)) rfl ?_)
 refine hf.bS ?_
 rw[List.length_map]
 refine ae.nP (b:=0) (Br.dec (fun hp=>?_) (fun hp=>?_))
 ·obtain⟨fr',r,rfl⟩:∃fr' r,fr=fr'++[r]:=⟨fr.dropLast,fr.getLast (by intro e;simp[e]at hp),(List.dropLast_concat_getLast _).symm⟩
  simp only[List.length_append,List.length_cons,List.length_nil]at hp Cw⊢
  obtain⟨g1,g2,g3,hok⟩:=ho.reuse (r:=r) (by simp) (fr':=fr') (by exact List.perm_append_singleton _ _) d
  refine Nil.ptr ?_
  refine aa.mk (Ld.mk (by repeat (first|assumption|exact List.Mem.head _|apply List.Mem.tail|apply List.mem_append_right)) rfl ?_)
  refine ae.bJ (a:=fr'.length+1) (b:=1) (by simp[aB];omega) (by omega) ?_
  rw[Nat.add_sub_cancel]
  refine hf.ld (i:=fr'.length) (x:=(r:Int)) (by simp) (fun _ h=>by exact .tail _ (.tail _ (List.mem_append_right _ h))) ?_
  refine Nil.ptr ?_
  refine aa.mk (Ld.mk (by repeat (first|assumption|exact List.Mem.head _|apply List.Mem.tail|apply List.mem_append_right)) rfl ?_)
  refine ae.bJ (a:=fr'.length+1) (b:=1) (by simp[aB];omega) (by omega) ?_
  rw[Nat.add_sub_cancel]
  refine hf.cut (i:=fr'.length) (by simp) fun v' wW=>?_
  have FK:aN 77 .u32 v' (fr'.map (Nat.cast:Nat→Int)) Cf:=by
   rw[List.map_append,List.take_left' (by simp)]at wW;exact wW
  have hone:v'.oneCell'=true:=by obtain⟨a,c,e⟩:=aQ.len FK;rw[e];rfl
  refine Nil.ptr (aa.mk ?_)
  refine St.one (by exact .tail (.head _)) hone (by simp) rfl ?_
  refine DR.self ?_
  refine Nil.ptr ?_
  refine aa.mk (Ld.mk (by exact .tail _ (.head _)) rfl ?_)
  refine aC.whole (r:=aV d) (by exact .head _) rfl ?_
  refine Build.mk (cs:=(l8.mk (d.v:Int) d.lo d.hi true 0).row) (by kernel_rfl) ?_
  refine hl.GK (A:=[_,_]) (B:=Cf) (i:=r) (by rw[List.length_map];have:=(ho.oJ r).1 (by simp);obtain⟨p,hp,_⟩:=this;exact(List.getElem?_eq_some_iff.1 hp).1) rfl (row_one _) fun C' hl'=>?_
  rw[kI]at hl'
  simp only[List.cons_append,List.nil_append]
  refine Nil.ptr ?_
  refine aa.mk (Ld.mk (by exact .tail _ (.head _)) rfl ?_)
  refine ae.aK (b:=1) (by simp[aB];omega) ?_
  refine Nil.ptr (aa.mk ?_)
  refine St.one (by exact .tail (.head _)) rfl (by simp) rfl ?_
  exact az.mk .tail ⟨r,rfl,g1,g2,g3,vl,v',_,fr',C',Cf,rfl,hl',FK,hok⟩
 ·obtain rfl:fr=[]:=List.eq_nil_of_length_eq_zero (by omega)
  simp only[List.length_nil]at Cw
  obtain⟨g1,g3,hok⟩:=ho.grow (by omega) d
  refine Nil.ptr ?_
  refine aa.mk (Ld.mk (by repeat (first|assumption|exact List.Mem.head _|apply List.Mem.tail|apply List.mem_append_right)) rfl ?_)
  refine hl.bS ?_
  rw[List.length_map]
  refine Nil.ptr ?_
  refine aa.mk (Ld.mk (by repeat (first|assumption|exact List.Mem.head _|apply List.Mem.tail|apply List.mem_append_right)) rfl ?_)
  refine ae.pe (Br.aX (by omega) ?_)
  refine DR.of (R:=(b1,.cells (List.toArray (aV d)) 161 (0,0))::(pa,.cells #[.int .i64 (cap:Int),vl,vf,.int .i64 (used:Int)] 198 (0,0))::[]) (.cons (.cons .nil)) ?_
  refine Nil.ptr ?_
  refine aa.mk (Ld.mk (by repeat (first|assumption|exact List.Mem.head _|apply List.Mem.tail|apply List.mem_append_right)) rfl ?_)
  refine aC.whole (r:=aV d) (by exact .head _) rfl ?_
  refine Build.mk (cs:=(l8.mk (d.v:Int) d.lo d.hi true 0).row) (by kernel_rfl) ?_
  refine au.one (z:=.agg #[.int .i64 0,.int .u32 0,.int .u32 0,.bool false,.int .u8 0]) (e:=291) (k:=5) (by kernel_rfl) (by kernel_rfl) (by kernel_rfl) (by decide) rfl fun bx=>?_
  refine⟨.skip (.cons (.cons .nil)),?_⟩
  refine hl.IT (A:=[_,_,_]) (B:=Cf) (r:=(l8.mk (d.v:Int) d.lo d.hi true 0).row) (by exact .head _) rfl (row_one _) (by exact⟨[.int .i64 0,.int .u32 0,.int .u32 0,.bool false,.int .u8 0],rfl,rfl⟩) (by simp;omega) (by simp;omega) fun v' C' hl'=>?_
  have vH:aQ 291 5 v' ((l++[(⟨(d.v:Int),d.lo,d.hi,true,0⟩:l8)]).map l8.row) C':=by rw[List.map_append];exact hl'
  simp only[List.cons_append,List.nil_append]
  refine⟨.skip (.cons (.cons .nil)),?_⟩
  have hone:v'.oneCell'=true:=by obtain⟨a,c,e⟩:=vH.len;rw[e];rfl
  refine Nil.ptr (aa.mk ?_)
  refine St.one (by exact .tail (.tail (.head _))) hone (by simp) rfl ?_
  refine Nil.ptr ?_
  refine aa.mk (Ld.mk (by exact .tail _ (.tail _ (.head _))) rfl ?_)
  refine ae.aK (b:=1) (by simp[aB];omega) ?_
  refine Nil.ptr (aa.mk ?_)
  refine St.one (by exact .tail (.tail (.head _))) rfl (by simp) rfl ?_
  refine Nil.ptr ?_
  refine aa.mk (Ld.mk (by exact .tail _ (.tail _ (.head _))) rfl ?_)
  refine vH.bS ?_
  refine ae.bJ (b:=1) (by simp[aB];omega) (by simp) ?_
  refine aW.nat (by simp[aB];omega) ?_
  refine az.mk (.skip .tail) ⟨l.length,by simp[u32],g1,by omega,g3,v',vf,_,[],C',Cf,rfl,vH,hf,hok⟩
theorem LR{pa cap used r:Nat}{N:dJ}{C:Hp}{d:Nd}(h:fQ pa cap used N C)(hd:T3 N d)(hr:∃e,N r=some e)(h2:2≤r):
  Fc Tryz.prog 140 #[ptr pa,u32 r,.agg (aV d).toArray] C (fun v C'=>v=.int .i64 0∧fQ pa cap used (up N r (some d)) C'):=by
 have h0:=h
 obtain⟨vl,vf,l,fr,Cl,Cf,rfl,hl,hf,ho⟩:=h
 have hx:=bI.2 (.inr hr:live N r)
 rw[ho.wA]at hx
 obtain⟨p,hg,hx⟩:∃p,l[r]? =some p∧p.tk=true:=by
  cases hg:l[r]? with
  |none=>rw[hg]at hx;simp at hx
  |some p=>rw[hg]at hx;exact⟨p,rfl,hx⟩
 intro g
 refine Bv (R:=az _) ?_
 unfold L140
 intro b1 _
 refine ae.bK (Br.no ?_)
 refine aC.whole (r:=aV d) (by exact .head _) rfl ?_
 refine ag.rd (.cons .here) (tO h0 hd) ?_
 rintro v rfl
 refine ae.c7 (Br.aX (by simp) ?_)
 refine ag.rd (.cons .here) (GO h0 hr h2) ?_
 rintro v rfl
 refine ae.c7 (Br.aX (by simp) ?_)
 refine DR.self ?_
 refine Nil.ptr ?_
 refine aa.mk (Ld.mk (by repeat (first|assumption|exact List.Mem.head _|apply List.Mem.tail|apply List.mem_append_right)) rfl ?_)
 refine aC.whole (r:=aV d) (by exact .head _) rfl ?_
 refine hl.Kw (A:=[_,_]) (B:=Cf) (r:=p.row) (xs:=aV d) (n:=3) (by rw[List.getElem?_map,hg];rfl) ⟨rfl,by omega⟩ (by intro x hx;simp[aV,u32]at hx;rcases hx with rfl|rfl|rfl<;>rfl) fun C' hl'=>?_
 have e:(aV d++p.row.drop 3)=(l8.mk (d.v:Int) d.lo d.hi true p.c).row:=by simp[aV,l8.row,hx]
 rw[e,kI]at hl'
 exact az.mk .tail ⟨rfl,vl,vf,_,fr,C',Cf,rfl,hl',hf,ho.uu h2 hg hx d⟩
theorem Ja{pa cap used r:Nat}{N:dJ}{C:Hp}(h:fQ pa cap used N C)(hr:∃e,N r=some e)(h2:2≤r):
  Fc Tryz.prog 210 #[ptr pa,u32 r] C (fun v C'=>v=.int .i64 0∧fQ pa cap (used-1) (up N r none) C'):=by
 have h0:=h
 obtain⟨vl,vf,l,fr,Cl,Cf,rfl,hl,hf,ho⟩:=h
 have hx:=bI.2 (.inr hr:live N r)
 rw[ho.wA]at hx
 obtain⟨p,hg,hx⟩:∃p,l[r]? =some p∧p.tk=true:=by
  cases hg:l[r]? with
  |none=>rw[hg]at hx;simp at hx
  |some p=>rw[hg]at hx;exact⟨p,rfl,hx⟩
 obtain⟨hok,hu0⟩:=ho.free h2 hg hx
 have hcap:=ho.cap
 have Cw:=ho.used
 intro g
 refine AU (R:=az _) ?_
 unfold L210
 refine ae.bK (Br.no ?_)
 refine ag.rd .here (GO h0 hr h2) ?_
 rintro v rfl
 refine ae.c7 (Br.aX (by simp) ?_)
 refine Nil.ptr ?_
 refine aa.mk (Ld.mk (by repeat (first|assumption|exact List.Mem.head _|apply List.Mem.tail|apply List.mem_append_right)) rfl ?_)
 refine Build.mk (cs:=(l8.mk 0 0 0 false 0).row) (by kernel_rfl) ?_
 refine hl.GK (A:=[_]) (B:=Cf) (i:=r) (by rw[List.length_map];exact(List.getElem?_eq_some_iff.1 hg).1) rfl (row_one _) fun C' hl'=>?_
 rw[kI]at hl'
 simp only[List.cons_append,List.nil_append]
 refine Nil.ptr ?_
 refine aa.mk (Ld.mk (by exact .head _) rfl ?_)
 refine au.int (e:=77) (by kernel_rfl) (by kernel_rfl) (by kernel_rfl) fun bx=>?_
 have e1:(bx,Obj.cells (ax .u32 [(r:Int)]) 77 (0,0))::(pa,Obj.cells #[.int .i64 (cap:Int),vl,vf,.int .i64 (used:Int)] 198 (0,0))::(C'++Cf)=(bx,Obj.cells (ax .u32 [(r:Int)]) 77 (0,0))::(pa,Obj.cells #[.int .i64 (cap:Int),vl,vf,.int .i64 (used:Int)] 198 (0,0))::C'++(Cf++[]):=by simp
 rw[e1]
 refine hf.app (x:=(r:Int)) (B:=[]) (by exact .head _) (by simp;omega) (by simp;omega) fun v' Cf' wW=>?_
 have FK:aN 77 .u32 v' ((fr++[r]).map (Nat.cast:Nat→Int)) Cf':=by rw[List.map_append];exact wW
 have hone:v'.oneCell'=true:=by obtain⟨a,c,e⟩:=aQ.len FK;rw[e];rfl
 simp only[List.cons_append,List.append_nil]
 refine Nil.ptr (aa.mk ?_)
 refine St.one (by exact .tail (.head _)) hone (by simp) rfl ?_
 refine Nil.ptr ?_
 refine aa.mk (Ld.mk (by exact .tail _ (.head _)) rfl ?_)
 refine ae.bJ (b:=1) (by simp[aB];omega) (by omega) ?_
 refine Nil.ptr (aa.mk ?_)
 refine St.one (by exact .tail (.head _)) rfl (by simp) rfl ?_
 exact az.mk .tail ⟨rfl,vl,v',_,_,C',Cf',rfl,hl',FK,hok⟩
end Go.Proofs
set_option maxRecDepth 100000
namespace Go.Proofs
open Go Go.Sx
open aE
def nK(d:Nd):Value:=.agg (aV d).toArray
abbrev F8(v:Value)(r:Nat):Prop:=v=u32 r
theorem Ck:Tryz.prog.underlying 161=some (.struct (Tryz.prog.fieldsOf 161)):=by kernel_rfl
theorem nB(a b:Nd):xS Tryz.prog 161 (nK a) (nK b) (decide (a=b)):=by
 refine xS.flat (fs:=#[⟨"Var",3,0,false, "", "",0⟩,⟨"Lo",77,1,false, "", "",8⟩,⟨"Hi",77,2,false, "", "",12⟩]) (by kernel_rfl) (by kernel_rfl) ?_ ?_
 ·intro f hf
  simp only[List.mem_cons,List.not_mem_nil,or_false]at hf
  rcases hf with rfl|rfl|rfl
  ·exact⟨by decide,_,_,rfl,rfl,.inl ⟨.i64,_,_,by kernel_rfl,rfl,rfl⟩⟩
  ·exact⟨by decide,_,_,rfl,rfl,.inl ⟨.u32,_,_,by kernel_rfl,rfl,rfl⟩⟩
  ·exact⟨by decide,_,_,rfl,rfl,.inl ⟨.u32,_,_,by kernel_rfl,rfl,rfl⟩⟩
 ·obtain⟨a1,a2,a3⟩:=a
  obtain⟨b1,b2,b3⟩:=b
  simp[aV,u32]
  omega
theorem jE(a:Nd):j7 Tryz.prog 161 (nK a):=by
 refine j7.flat (fs:=#[⟨"Var",3,0,false, "", "",0⟩,⟨"Lo",77,1,false, "", "",8⟩,⟨"Hi",77,2,false, "", "",12⟩]) (by kernel_rfl) ?_
 intro f hf
 simp only[List.mem_cons,List.not_mem_nil,or_false]at hf
 rcases hf with rfl|rfl|rfl
 ·exact⟨by decide,_,rfl,.inl ⟨.i64,_,_,by kernel_rfl,rfl,rfl⟩⟩
 ·exact⟨by decide,_,rfl,.inl ⟨.u32,_,_,by kernel_rfl,rfl,rfl⟩⟩
 ·exact⟨by decide,_,rfl,.inl ⟨.u32,_,_,by kernel_rfl,rfl,rfl⟩⟩
theorem Cn(a:Nd):Instr.sameBits 10000 (nK a) (nK a)=true:=iE 9998 (by intro x hx;simp[aV,u32]at hx;rcases hx with rfl|rfl|rfl<;>exact .inl ⟨_,_,rfl⟩)
structure UM where
 b:Nat
 es:Array MapEntry
 ck:Nat
 l:List (Nd×Nat)
def D9(ms:List UM):Hp:=ms.map fun m=>(m.b,.map m.es m.ck)
structure JN(ms:List UM)(n:Nat)(T:Nd→Option Nat):Prop where
 len:ms.length=n
 iQ:∀(v:Nat) m,ms[v]? =some m→aR nK F8 m.es m.ck m.l
 var:∀(v:Nat) m,ms[v]? =some m→∀x∈m.l,x.1.v=v
 T:∀d,T d=(ms[d.v]?).bind fun m=>dK m.l d
def mz(pt n:Nat)(T:Nd→Option Nat)(C:Hp):Prop:=
 ∃vs Cs ms,C=(pt,.cells #[vs] 265 (0,0))::(Cs++D9 ms)∧aQ 266 1 vs (ms.map fun m=>[.map (some m.b)]) Cs∧JN ms n T
theorem pT{ms:List UM}{v:Nat}{m:UM}(h:ms[v]? =some m):(m.b,Obj.map m.es m.ck)∈D9 ms:=List.mem_map.2 ⟨m,List.mem_of_getElem? h,rfl⟩
theorem uK{es':Array MapEntry}{cu:Nat}{l':List (Nd×Nat)}:∀{ms:List UM} {v:Nat} {m:UM},ms[v]? =some m→dH m.b (.map m.es m.ck) (.map es' cu) (D9 ms) (D9 (ms.set v ⟨m.b,es',cu,l'⟩))
 | [],v,m,h=>by simp at h
 |x::ms,0,m,h=>by simp at h;subst h;exact .head _
 |x::ms,v+1,m,h=>by simp at h;exact .tail (uK h)
theorem tj{ms:List UM}{v:Nat}{m m':UM}(h:ms[v]? =some m)(hb:m'.b=m.b):(ms.set v m').map (fun m=>[Value.map (some m.b)])=ms.map fun m=>[Value.map (some m.b)]:=by
 rw[List.map_set]
 apply List.ext_getElem?
 intro j
 rw[List.getElem?_set]
 split
 ·rename_i e;subst e
  have hlt:=(List.getElem?_eq_some_iff.1 h).1
  have e2:ms[v]=m:=by rw[List.getElem?_eq_getElem hlt]at h;exact Option.some.inj h
  simp[hb,hlt,e2]
 ·rfl
theorem JN.add{ms:List UM}{n:Nat}{T:Nd→Option Nat}(h:JN ms n T){d:Nd}{m:UM}(hm:ms[d.v]? =some m){es':Array MapEntry}{cu r:Nat}(he:aR nK F8 es' cu (fU m.l d r)):JN (ms.set d.v ⟨m.b,es',cu,fU m.l d r⟩) n (nf T d (some r)) where
 len:=by rw[List.length_set];exact h.len
 iQ:=fun v m' hm'=>by
  rw[List.getElem?_set]at hm'
  split at hm'
  ·split at hm'
   ·cases hm';exact he
   ·cases hm'
  ·exact h.iQ v m' hm'
 var:=fun v m' hm' x hx=>by
  rw[List.getElem?_set]at hm'
  split at hm'
  ·rename_i e
   split at hm'
   ·cases hm'
    subst e
    simp only[fU]at hx
    split at hx
    ·obtain⟨y,hy,rfl⟩:=List.mem_map.1 hx
     split
     ·rfl
     ·exact h.var _ m hm y hy
    ·rcases List.mem_append.1 hx with hx|hx
     ·exact h.var _ m hm x hx
     ·simp at hx;subst hx;rfl
   ·cases hm'
  ·exact h.var v m' hm' x hx
 T:=fun e=>by
  have hlt:=(List.getElem?_eq_some_iff.1 hm).1
  by_cases ee:e=d
  ·subst ee;rw[gJ,List.getElem?_set_self hlt];simp[tg]
  ·rw[mF ee,h.T e]
   by_cases ev:d.v=e.v
   ·rw[←ev,List.getElem?_set_self hlt,hm];simp[tg,ee]
   ·rw[List.getElem?_set_ne ev]
theorem JN.del{ms:List UM}{n:Nat}{T:Nd→Option Nat}(h:JN ms n T){d:Nd}{m:UM}(hm:ms[d.v]? =some m){es':Array MapEntry}{cu:Nat}(he:aR nK F8 es' cu (mP m.l d)):JN (ms.set d.v ⟨m.b,es',cu,mP m.l d⟩) n (nf T d none) where
 len:=by rw[List.length_set];exact h.len
 iQ:=fun v m' hm'=>by
  rw[List.getElem?_set]at hm'
  split at hm'
  ·split at hm'
   ·cases hm';exact he
   ·cases hm'
  ·exact h.iQ v m' hm'
 var:=fun v m' hm' x hx=>by
  rw[List.getElem?_set]at hm'
  split at hm'
  ·rename_i e
   split at hm'
   ·cases hm'
    subst e
    exact h.var _ m hm x (List.mem_filter.1 hx|>.1)
   ·cases hm'
  ·exact h.var v m' hm' x hx
 T:=fun e=>by
  have hlt:=(List.getElem?_eq_some_iff.1 hm).1
  by_cases ee:e=d
  ·subst ee;rw[gJ,List.getElem?_set_self hlt];simp[th]
  ·rw[mF ee,h.T e]
   by_cases ev:d.v=e.v
   ·rw[←ev,List.getElem?_set_self hlt,hm];simp[th,ee]
   ·rw[List.getElem?_set_ne ev]
theorem lB{pt n v:Nat}{T:Nd→Option Nat}{C:Hp}(h:mz pt n T C)(hv:v<n):Rd Tryz.prog 206 #[ptr pt,.int .i64 (v:Int)] C (· =.int .i64 0):=by
 obtain⟨vs,Cs,ms,rfl,hs,ho⟩:=h
 intro g
 refine AY (R:=az _) ?_
 unfold L206
 refine ae.bK (Br.no ?_)
 refine ae.lss ?_
 rw[decide_eq_false (by omega:¬((v:Int)<0))]
 refine cw.or false (fun _=>?_) rfl fun _=>Br.no (cr.mk (.refl _) rfl)
 refine Nil.ptr ?_
 refine aa.mk (Ld.mk (by repeat (first|assumption|exact List.Mem.head _|apply List.Mem.tail|apply List.mem_append_right)) rfl ?_)
 refine hs.bS ?_
 rw[List.length_map,ho.len]
 exact ae.pe ⟨rfl,by rw[decide_eq_false (by omega)]⟩
end Go.Proofs
set_option maxRecDepth 100000
namespace Go.Proofs
open Go Go.Sx
open aE
theorem pY{pt n:Nat}{T:Nd→Option Nat}{C:Hp}{d:Nd}(h:mz pt n T C)(hv:d.v<n):
  Rd Tryz.prog 205 #[ptr pt,nK d] C (· =.tuple #[u32 ((T d).getD 0),.bool (T d).isSome]):=by
 have h0:=h
 obtain⟨vs,Cs,ms,rfl,hs,ho⟩:=h
 obtain⟨m,hm⟩:∃m,ms[d.v]? =some m:=⟨_,List.getElem?_eq_getElem (by rw[ho.len];exact hv)⟩
 intro g
 refine AZ (R:=az _) ?_
 unfold L205
 intro b1 _
 refine aa.mk (Ld.mk (v:=.int .i64 (d.v:Int)) (by exact .head _) rfl ?_)
 refine ag.rd (.cons .here) (lB h0 hv) ?_
 rintro v rfl
 refine ae.c7 (Br.aX (by simp) ?_)
 refine Nil.ptr ?_
 refine aa.mk (Ld.mk (by repeat (first|assumption|exact List.Mem.head _|apply List.Mem.tail|apply List.mem_append_right)) rfl ?_)
 refine aa.mk (Ld.mk (v:=.int .i64 (d.v:Int)) (by exact .head _) rfl ?_)
 refine hs.On (x:=.map (some m.b)) (by rw[List.getElem?_map,hm];rfl) (fun _ h=>by exact .tail _ (.tail _ (List.mem_append_left _ h))) ?_
 refine aC.whole (r:=aV d) (by exact .head _) rfl ?_
 have hmem:(m.b,Obj.map m.es m.ck)∈(b1,Obj.cells (Value.cells (nK d)) 161 (0,0))::(pt,.cells #[vs] 265 (0,0))::(Cs++D9 ms):=.tail _ (.tail _ (List.mem_append_right _ (pT hm)))
 have hT:T d=dK m.l d:=by rw[ho.T,hm];rfl
 rw[hT]
 cases hg:dK m.l d with
 |some r=>
  refine aR.Er (ke:=nK) (k:=d) nB jE (ho.iQ _ m hm) hmem hg ?_
  rintro v rfl
  exact Ext.mk rfl (Ext.mk rfl (cr.mk .tail rfl))
 |none=>
  refine aR.tf (ke:=nK) (k:=d) nB jE (ho.iQ _ m hm) hmem hg ?_
  exact Ext.mk rfl (Ext.mk rfl (cr.mk .tail rfl))
theorem B4{pt n r:Nat}{T:Nd→Option Nat}{C:Hp}{d:Nd}(h:mz pt n T C)(hv:d.v<n)(hT:T d=none):
  Fc Tryz.prog 141 #[ptr pt,nK d,u32 r] C (fun v C'=>v=.int .i64 0∧mz pt n (nf T d (some r)) C'):=by
 have h0:=h
 obtain⟨vs,Cs,ms,rfl,hs,ho⟩:=h
 obtain⟨m,hm⟩:∃m,ms[d.v]? =some m:=⟨_,List.getElem?_eq_getElem (by rw[ho.len];exact hv)⟩
 have X3:dK m.l d=none:=by rw[ho.T,hm]at hT;exact hT
 intro g
 refine Bu (R:=az _) ?_
 unfold L141
 intro b1 _
 refine aa.mk (Ld.mk (v:=.int .i64 (d.v:Int)) (by exact .head _) rfl ?_)
 refine ag.rd (.cons .here) (lB h0 hv) ?_
 rintro v rfl
 refine ae.c7 (Br.aX (by simp) ?_)
 refine Nil.ptr ?_
 refine aa.mk (Ld.mk (by repeat (first|assumption|exact List.Mem.head _|apply List.Mem.tail|apply List.mem_append_right)) rfl ?_)
 refine aa.mk (Ld.mk (v:=.int .i64 (d.v:Int)) (by exact .head _) rfl ?_)
 refine hs.On (x:=.map (some m.b)) (by rw[List.getElem?_map,hm];rfl) (fun _ h=>by exact .tail _ (.tail _ (List.mem_append_left _ h))) ?_
 refine aC.whole (r:=aV d) (by exact .head _) rfl ?_
 have hmem:(m.b,Obj.map m.es m.ck)∈(b1,Obj.cells (Value.cells (nK d)) 161 (0,0))::(pt,.cells #[vs] 265 (0,0))::(Cs++D9 ms):=.tail _ (.tail _ (List.mem_append_right _ (pT hm)))
 refine aR.tf (ke:=nK) (k:=d) nB jE (ho.iQ _ m hm) hmem X3 ?_
 refine Ext.mk rfl (Ext.mk rfl (Br.no ?_))
 refine DR.self ?_
 refine Nil.ptr ?_
 refine aa.mk (Ld.mk (by repeat (first|assumption|exact List.Mem.head _|apply List.Mem.tail|apply List.mem_append_right)) rfl ?_)
 refine aa.mk (Ld.mk (v:=.int .i64 (d.v:Int)) (by exact .head _) rfl ?_)
 refine hs.On (x:=.map (some m.b)) (by rw[List.getElem?_map,hm];rfl) (fun _ h=>by exact .tail _ (.tail _ (List.mem_append_left _ h))) ?_
 refine aC.whole (r:=aV d) (by exact .head _) rfl ?_
 refine aR.Ke (ke:=nK) (k:=d) (vr:=F8) (x:=r) nB jE Cn (ho.iQ _ m hm) rfl fun es' cu he=>⟨_,.tail (.tail ((uK (l':=fU m.l d r) hm).dD Cs)),?_⟩
 exact az.mk .tail ⟨rfl,vs,Cs,_,rfl,by rw[tj hm];exact hs;rfl,ho.add hm he⟩
theorem sZ{pt n r:Nat}{T:Nd→Option Nat}{C:Hp}{d:Nd}(h:mz pt n T C)(hv:d.v<n)(hT:T d=some r):
  Fc Tryz.prog 137 #[ptr pt,nK d] C (fun v C'=>v=.int .i64 0∧mz pt n (nf T d none) C'):=by
 have h0:=h
 obtain⟨vs,Cs,ms,rfl,hs,ho⟩:=h
 obtain⟨m,hm⟩:∃m,ms[d.v]? =some m:=⟨_,List.getElem?_eq_getElem (by rw[ho.len];exact hv)⟩
 have X3:dK m.l d=some r:=by rw[ho.T,hm]at hT;exact hT
 intro g
 refine Bx (R:=az _) ?_
 unfold L137
 intro b1 _
 refine aa.mk (Ld.mk (v:=.int .i64 (d.v:Int)) (by exact .head _) rfl ?_)
 refine ag.rd (.cons .here) (lB h0 hv) ?_
 rintro v rfl
 refine ae.c7 (Br.aX (by simp) ?_)
 refine Nil.ptr ?_
 refine aa.mk (Ld.mk (by repeat (first|assumption|exact List.Mem.head _|apply List.Mem.tail|apply List.mem_append_right)) rfl ?_)
 refine aa.mk (Ld.mk (v:=.int .i64 (d.v:Int)) (by exact .head _) rfl ?_)
 refine hs.On (x:=.map (some m.b)) (by rw[List.getElem?_map,hm];rfl) (fun _ h=>by exact .tail _ (.tail _ (List.mem_append_left _ h))) ?_
 refine aC.whole (r:=aV d) (by exact .head _) rfl ?_
 have hmem:(m.b,Obj.map m.es m.ck)∈(b1,Obj.cells (Value.cells (nK d)) 161 (0,0))::(pt,.cells #[vs] 265 (0,0))::(Cs++D9 ms):=.tail _ (.tail _ (List.mem_append_right _ (pT hm)))
 refine aR.Er (ke:=nK) (k:=d) nB jE (ho.iQ _ m hm) hmem X3 ?_
 rintro v rfl
 refine Ext.mk rfl (Ext.mk rfl (Un.not (Br.no ?_)))
 refine DR.of (R:=(b1,Obj.cells (Value.cells (nK d)) 161 (0,0))::(pt,.cells #[vs] 265 (0,0))::Cs) (.cons (.cons .left)) ?_
 refine Nil.ptr ?_
 refine aa.mk (Ld.mk (by repeat (first|assumption|exact List.Mem.head _|apply List.Mem.tail|apply List.mem_append_right)) rfl ?_)
 refine aa.mk (Ld.mk (v:=.int .i64 (d.v:Int)) (by exact .head _) rfl ?_)
 refine hs.On (x:=.map (some m.b)) (by rw[List.getElem?_map,hm];rfl) (fun _ h=>by exact .tail _ (.tail _ h)) ?_
 refine aC.whole (r:=aV d) (by exact .head _) rfl ?_
 refine aR.YU (ke:=nK) (k:=d) nB jE (ho.iQ _ m hm) hmem fun es' he=>⟨_,.tail (.tail ((uK (l':=mP m.l d) hm).dD Cs)),?_⟩
 exact⟨.cons (.cons .left),az.mk .tail ⟨rfl,vs,Cs,_,rfl,by rw[tj hm];exact hs;rfl,ho.del hm he⟩⟩
theorem JN.start(n:Nat)(bs:List Nat)(h:bs.length=n):JN (bs.map fun b=>⟨b,#[],0,[]⟩) n (fun _=>none) where
 len:=by simpa using h
 iQ:=fun v m hm=>by
  rw[List.getElem?_map]at hm
  obtain⟨b,_,rfl⟩:=Option.map_eq_some_iff.1 hm
  exact aR.empty
 var:=fun v m hm x hx=>by
  rw[List.getElem?_map]at hm
  obtain⟨b,_,rfl⟩:=Option.map_eq_some_iff.1 hm
  simp at hx
 T:=fun d=>by
  rw[List.getElem?_map]
  cases bs[d.v]? <;>simp[dK]
theorem xk(x:Value):∀n:Nat,(List.replicate n [x]).flatten=List.replicate n x
 |0=>rfl
 |n+1=>by rw[List.replicate_succ,List.flatten_cons,List.replicate_succ,xk x n];rfl
theorem Kf{n:Nat}(hn:1≤n∧n≤64):Fc Tryz.prog 117 #[.int .i64 (n:Int)] [] (fun v H=>∃pt,v=.tuple #[ptr pt,.int .i64 0]∧mz pt n (fun _=>none) H):=by
 intro g
 refine BF (R:=az _) ?_
 unfold L117
 refine ae.lss ?_
 rw[decide_eq_false (by omega)]
 refine cw.or false (fun _=>ae.gtr ⟨rfl,by rw[decide_eq_false (by omega)]⟩) rfl fun _=>Br.no ?_
 refine⟨.i64,.i64,n,n,rfl,rfl,Nat.le_refl _,by omega,by omega,?_⟩
 intro bs _
 refine Build.mk (cs:=[.slice (some ⟨bs,0,none⟩) n n]) (by kernel_rfl) ?_
 intro pt _
 have hz:madeCells (Value.cells (.map none)) (n*1)=rows ((List.replicate n [Value.map none])++[]):=by
  apply Array.ext'
  apply List.ext_getElem?
  intro i
  have:=xk (.map none) n
  simp only[madeCells,rows,Value.cells,Array.toList_map,Array.toList_range,List.getElem?_map,List.toList_toArray,Nat.mul_one,List.append_nil]
  rw[this,List.getElem?_replicate]
  by_cases hi:i<n
  ·simp[hi,Nat.mod_one]
  ·simp[hi]
 rw[hz]
 have hs0:aQ 266 1 (.slice (some ⟨bs,0,none⟩) n n) (List.replicate n [Value.map none]) [(bs,.cells (rows ((List.replicate n [Value.map none])++[])) 266 (0,0))]:=
  aQ.mk' (fun r hr=>by rw[List.append_nil]at hr;rw[List.eq_of_mem_replicate hr];rfl) (by simp) (by simp)
 refine⟨fun vs H=>∃(j:Nat) (bl:List Nat) (Cs:Hp),vs=[.int .i64 (j:Int)]∧bl.length=j∧j≤n∧H=(pt,.cells #[.slice (some ⟨bs,0,none⟩) n n] 265 (0,0))::(Cs++D9 (bl.map fun b=>⟨b,#[],0,[]⟩))∧
  aQ 266 1 (.slice (some ⟨bs,0,none⟩) n n) ((bl.map fun b=>[Value.map (some b)])++List.replicate (n-j) [Value.map none]) Cs,fun vs _=>n-bR vs 0,JE.mk ⟨0,[],_,rfl,rfl,by omega,by simp only[D9,List.map_nil,List.append_nil];rfl,by simpa using hs0⟩,?_⟩
 rintro w H ⟨j,bl,Cs,hw,JG,hj,rfl,hs⟩ gs
 simp only[List.cons.injEq,and_true]at hw
 subst hw
 refine ae.fq (Br.dec (fun hlt=>?_) (fun hlt=>?_))
 ·refine Nil.ptr ?_
  refine aa.mk (Ld.mk (by exact .head _) rfl ?_)
  intro b _
  have hlen:((bl.map fun b=>[Value.map (some b)])++List.replicate (n-j) [Value.map none]).length=n:=by simp;omega
  refine aQ.Wy (A:=[_,_]) (B:=D9 (bl.map fun b=>⟨b,#[],0,[]⟩)) hs (i:=j) (y:=.map none) (by omega) ?_ rfl fun C' hs'=>?_
  ·rw[List.getElem?_append_right (by simp[JG])]
   simp only[List.length_map,JG,Nat.sub_self]
   rw[List.getElem?_replicate,if_pos (by omega)]
  refine ae.aK (b:=1) (by simp[aB];omega) ?_
  have e:((bl.map fun b=>[Value.map (some b)])++List.replicate (n-j) [Value.map none]).set j [Value.map (some b)]=((bl++[b]).map fun b=>[Value.map (some b)])++List.replicate (n-(j+1)) [Value.map none]:=by
   rw[List.set_append_right _ _ (by simp[JG])]
   simp only[List.length_map,JG,Nat.sub_self]
   rw[show n-j=(n-(j+1))+1 by omega,List.replicate_succ,List.set_cons_zero,List.map_append]
   simp
  rw[e]at hs'
  refine aF.of ?_ ⟨j+1,bl++[b],C',rfl,by simp[JG],by omega,rfl,hs'⟩ (by show n-(((j+1:Nat):Int).toNat)<n-(((j:Nat):Int).toNat);omega)
  refine aU.perm ?_
  simp only[List.cons_append,List.nil_append,D9,List.map_append,List.map_map]
  refine(List.Perm.swap _ _ _).trans (.cons _ ?_)
  rw[←List.append_assoc]
  exact(List.perm_append_singleton _ _).symm
 ·obtain rfl:j=n:=by omega
  refine az.here ⟨pt,rfl,_,Cs,_,rfl,?_,JN.start _ bl JG⟩
  rw[Nat.sub_self]at hs
  simpa[List.map_map,Function.comp_def]using hs
theorem LV{n:Nat}(hn:2≤n∧n≤1048576):Fc Tryz.prog 186 #[.int .i64 (n:Int)] [] (fun v H=>∃pa,v=.tuple #[ptr pa,.int .i64 0]∧fQ pa n 2 (fun _=>none) H):=by
 intro g
 refine Bc (R:=az _) ?_
 unfold L186
 refine ae.lss ?_
 rw[decide_eq_false (by omega)]
 refine cw.or false (fun _=>ae.gtr ⟨rfl,by rw[decide_eq_false (by omega)]⟩) rfl fun _=>Br.no ?_
 refine Build.mk (cs:=[.int .i64 (n:Int),.slice none 0 0,.slice none 0 0,.int .i64 2]) (by kernel_rfl) ?_
 intro pa _
 refine⟨fun vs H=>∃(j:Nat) (vl:Value) (Cl:Hp),vs=[u32 j]∧j≤2∧H=(pa,.cells #[.int .i64 (n:Int),vl,.slice none 0 0,.int .i64 2] 198 (0,0))::Cl∧
  aQ 291 5 vl ((List.range j).map fun r=>(l8.mk (-1) r r true 255).row) Cl,fun vs _=>2-bR vs 0,JE.mk ⟨0,_,[],rfl,by omega,rfl,aQ.nil _ _⟩,?_⟩
 rintro w H ⟨j,vl,Cl,hw,hj,rfl,hs⟩ gs
 simp only[List.cons.injEq,and_true]at hw
 subst hw
 refine ae.fq (b:=2) (Br.dec (fun hlt=>?_) (fun hlt=>?_))
 ·refine Nil.ptr ?_
  refine aa.mk (Ld.mk (by exact .head _) rfl ?_)
  refine Build.mk (cs:=[.int .i64 (-1),u32 j,u32 j]) (by kernel_rfl) ?_
  refine Build.mk (cs:=(l8.mk (-1) j j true 255).row) (by kernel_rfl) ?_
  refine au.one (z:=.agg #[.int .i64 0,.int .u32 0,.int .u32 0,.bool false,.int .u8 0]) (e:=291) (k:=5) (by kernel_rfl) (by kernel_rfl) (by kernel_rfl) (by decide) rfl fun bx=>?_
  have e1:∀x y:Nat×Obj,x::y::Cl=[x,y]++(Cl++[]):=fun x y=>by simp
  rw[e1]
  refine hs.IT (A:=[_,_]) (B:=[]) (r:=(l8.mk (-1) j j true 255).row) (by exact .head _) rfl (row_one _) (by exact⟨[.int .i64 0,.int .u32 0,.int .u32 0,.bool false,.int .u8 0],rfl,rfl⟩) (by simp;omega) (by simp;omega) fun v' C' hs'=>?_
  simp only[List.cons_append,List.nil_append,List.append_nil]
  have hone:v'.oneCell'=true:=by obtain⟨a,c,e⟩:=hs'.len;rw[e];rfl
  refine Nil.ptr (aa.mk ?_)
  refine St.one (by exact .tail (.head _)) hone (by simp) rfl ?_
  refine ae.aK (b:=1) (by simp[aB];omega) ?_
  refine aF.of .tail ⟨j+1,v',C',rfl,by omega,rfl,?_⟩ (by show 2-(((j+1:Nat):Int).toNat)<2-(((j:Nat):Int).toNat);omega)
  rw[List.range_succ,List.map_append];exact hs'
 ·obtain rfl:j=2:=by omega
  refine az.here ⟨pa,rfl,vl,_,[⟨-1,0,0,true,255⟩,⟨-1,1,1,true,255⟩],[],Cl,[],by rw[List.append_nil];rfl,hs,aN.nil,?_⟩
  exact {
   cap:=by simp;omega
   two:=by simp
   const:=fun r hr=>by
    have:r=0∨r=1:=by omega
    rcases this with rfl|rfl
    ·exact⟨_,rfl,rfl,rfl,rfl,rfl⟩
    ·exact⟨_,rfl,rfl,rfl,rfl,rfl⟩
   nd:=fun r hr=>by rw[List.getElem?_eq_none (by simp;omega)];rfl
   n0:=fun _ _=>rfl
   nn:=fun r p hr hp _=>by rw[List.getElem?_eq_none (by simp;omega)]at hp;cases hp
   JM:=by simp
   oJ:=fun r=>by
    simp only[List.not_mem_nil,false_iff,not_exists,not_and]
    intro p hp
    have hlt:=(List.getElem?_eq_some_iff.1 hp).1
    simp at hlt
    have:r=0∨r=1:=by omega
    rcases this with rfl|rfl<;>(simp at hp;subst hp;simp)
   used:=rfl}
end Go.Proofs
set_option maxRecDepth 100000
namespace Go.Proofs
open Go Go.Sx
open aE
structure pK where
 pa:Nat
 pt:Nat
 vu:Value
 vh:Value
 vo:Value
 vl:Value
 vt:Value
 CA:Hp
 CT:Hp
 CU:Hp
 CH:Hp
 CO:Hp
 CL:Hp
 CR:Hp
def pK.cells(b:pK)(n:Nat):Array Value:=#[ptr b.pa,ptr b.pt,b.vu,b.vh,.int .i64 (n:Int),b.vo,b.vl,b.vt]
def pK.hp(b:pK)(kp n:Nat):Hp:=(kp,.cells (b.cells n) 117 (0,0))::(b.CA++(b.CT++(b.CU++(b.CH++(b.CO++(b.CL++b.CR))))))
structure PZ(b:pK)(K:Kd)(ord ah tr:List Nat):Prop where
 ar:fQ b.pa K.cap K.used K.N b.CA
 ut:mz b.pt K.n K.T b.CT
 us:aN 21 .i32 b.vu (iw K.us) b.CU
 ho:aN 21 .i32 b.vh (iw K.ho) b.CH
 od:aN 3 .i64 b.vo (iw ord) b.CO
 lv:aN 3 .i64 b.vl (iw ah) b.CL
 tr:aN 3 .i64 b.vt (iw tr) b.CR
 ul:K.us.length=K.ho.length∧K.us.length≤1048576
 ta:K.n≤64
 ol:ord.length=K.n∧ah.length=K.n
def cc(kp:Nat)(K:Kd)(ord ah tr:List Nat)(C:Hp):Prop:=∃b:pK,C=b.hp kp K.n∧PZ b K ord ah tr
section
variable {kp:Nat} {K:Kd} {ord ah tr:List Nat} {C:Hp}
theorem cc.cap(h:cc kp K ord ah tr C):K.cap≤1048576:=by
 obtain⟨b,rfl,hb⟩:=h
 exact(hb.ar.lt (r:=0) (.inl (by decide))).2
theorem cc.lt(h:cc kp K ord ah tr C){r:Nat}(hr:live K.N r):r<1048576:=by
 obtain⟨b,rfl,hb⟩:=h
 have:=hb.ar.lt hr
 omega
theorem aJ(N:dJ)(r:Nat):(got N r).length=3∧∀x∈got N r,x.oneCell'=true:=by
 unfold got
 split
 ·exact⟨rfl,by intro x hx;simp[u32]at hx;rcases hx with rfl|rfl|rfl<;>rfl⟩
 ·split
  ·exact⟨rfl,by intro x hx;simp[aV,u32]at hx;rcases hx with rfl|rfl|rfl<;>rfl⟩
  ·exact⟨rfl,by intro x hx;simp[u32]at hx;rcases hx with rfl|rfl|rfl<;>rfl⟩
theorem kM(h:cc kp K ord ah tr C){r:Nat}(hr:r<4294967296):Rd Tryz.prog 173 #[ptr kp,u32 r] C (· =.bool (eS K.N r)):=by
 obtain⟨b,rfl,hb⟩:=h
 intro g
 refine Bi (R:=az _) ?_
 unfold L173
 refine Nil.ptr ?_
 refine aa.mk (Ld.mk (v:=ptr b.pa) (by exact .head _) rfl ?_)
 refine ag.rd (.cons .left) (Io hb.ar hr) ?_
 rintro v rfl
 refine Ext.mk rfl (Ext.mk rfl ?_)
 intro b8 _
 refine St.whole (r:=got K.N r) (by exact .head _) rfl (aJ _ _).1 (aJ _ _).2 ?_
 refine ae.jt ?_
 refine cr.mk .tail ?_
 cases eS K.N r<;>rfl
theorem kL(h:cc kp K ord ah tr C){r:Nat}(hr:r<4294967296):Rd Tryz.prog 174 #[ptr kp,u32 r] C (· =.agg (got K.N r).toArray):=by
 obtain⟨b,rfl,hb⟩:=h
 intro g
 refine Bh (R:=az _) ?_
 unfold L174
 intro b1 _
 refine Nil.ptr ?_
 refine aa.mk (Ld.mk (v:=ptr b.pa) (by exact .tail _ (.head _)) rfl ?_)
 refine ag.rd (.cons (.cons .left)) (Io hb.ar hr) ?_
 rintro v rfl
 refine Ext.mk rfl (Ext.mk rfl ?_)
 intro vp _
 refine St.whole (r:=got K.N r) (by exact .head _) rfl (aJ _ _).1 (aJ _ _).2 ?_
 refine aC.whole (r:=got K.N r) (by exact .head _) (aJ _ _).1 ?_
 refine St.whole (r:=got K.N r) (by exact .tail (.head _)) rfl (aJ _ _).1 (aJ _ _).2 ?_
 refine aC.whole (r:=got K.N r) (by exact .tail _ (.head _)) (aJ _ _).1 ?_
 exact cr.mk (.skip .tail) rfl
theorem wF(h:cc kp K ord ah tr C){m:Nat}(hm:m≤1099511627776)(hu:K.used≤1048576):Rd Tryz.prog 135 #[ptr kp,.int .i64 (m:Int)] C (· =.bool (decide (K.used+m≤K.cap))):=by
 obtain⟨b,rfl,hb⟩:=h
 intro g
 refine Bz (R:=az _) ?_
 unfold L135
 refine DR.self ?_
 refine Nil.ptr ?_
 refine aa.mk (Ld.mk (v:=ptr b.pa) (by exact .head _) rfl ?_)
 refine Nil.ptr ?_
 refine aa.mk (Ld.mk (v:=ptr b.pa) (by exact .head _) rfl ?_)
 refine ag.rd (.cons .left) (xF hb.ar) ?_
 rintro v rfl
 refine⟨.refl _,?_⟩
 refine ae.aK (by simp[aB];omega) ?_
 refine ag.rd (.cons .left) (rz hb.ar) ?_
 rintro v rfl
 refine⟨.refl _,?_⟩
 refine ae.wD ?_
 exact cr.mk (.refl _) rfl
def oY(K:Kd)(r:Nat):List Nat:=if r<2 then K.us else K.us.set r (K.use r+1)
theorem gn(r:Nat):(oY K r).length=K.us.length:=by unfold oY;split<;>simp
theorem kj{r:Nat}(h2:2≤r)(hr:r<K.us.length):(oY K r).getD r 0=K.use r+1:=by
 unfold oY;rw[if_neg (by omega)];simp[List.getD,hr]
theorem qs{r s:Nat}(h:s≠r):(oY K r).getD s 0=K.use s:=by
 unfold oY Kd.use
 split
 ·rfl
 ·simp[List.getD,List.getElem?_set_ne (Ne.symm h)]
theorem yx(h:cc kp K ord ah tr C){r:Nat}(hr:r<2∨r<K.us.length)(hb:K.use r+1<2147483648):
  Fc Tryz.prog 139 #[ptr kp,u32 r] C (fun v C'=>v=.tuple #[]∧cc kp {K with us:=oY K r} ord ah tr C'):=by
 obtain⟨b,rfl,hO⟩:=h
 intro g
 refine Bw (R:=az _) ?_
 unfold L139
 refine ae.nP (b:=1) (Br.dec (fun h1=>?_) (fun h1=>?_))
 ·have hr':r<K.us.length:=by omega
  refine Nil.ptr ?_
  refine aa.mk (Ld.mk (v:=b.vu) (by exact .head _) rfl ?_)
  refine hO.us.ld (x:=((K.use r:Nat):Int)) (bc hr') (bP.sub (.cons (.app (.app .left)))) ?_
  refine ae.aK (b:=1) (by simp[aB];omega) ?_
  refine hO.us.iX (.cons (.app (.app .left))) (by simpa using hr') fun C' ho=>?_
  refine az.here ⟨rfl,{b with CU:=C'},rfl,?_⟩
  have e:oY K r=K.us.set r (K.use r+1):=by unfold oY;rw[if_neg (by omega)]
  exact {hO with us:=by rw[eM]at ho;rw[e];exact ho,ul:=by simp only[e,List.length_set];exact hO.ul}
 ·refine az.here ⟨rfl,b,rfl,?_⟩
  have e:oY K r=K.us:=by unfold oY;rw[if_pos (by omega)]
  rw[e];exact hO
end
end Go.Proofs
set_option maxRecDepth 100000
namespace Go.Proofs
open Go Go.Sx
open aE
section
variable {kp:Nat} {K:Kd} {ord ah tr:List Nat} {C:Hp}
theorem fe{l:List Nat}{r s x:Nat}(hr:r<l.length):(l.set r x).getD s 0=if s=r then x else l.getD s 0:=by
 simp only[List.getD,List.getElem?_set]
 by_cases e:r=s
 ·subst e;simp[hr]
 ·rw[if_neg e,if_neg (Ne.symm e)]
theorem qV(l:List Nat)(s:Nat):(l++[0]).getD s 0=l.getD s 0:=by
 simp only[List.getD,List.getElem?_append]
 split
 ·rfl
 ·rename_i h
  rw[List.getElem?_eq_none (by omega:l.length≤s)]
  cases hs:s-l.length<;>simp[hs]
def Gr:Hp→Nat
 |_::(_,Obj.cells c _ _)::_=>(match c[2]? with|some (Value.slice _ n _)=>n|_=>0)
 |_=>0
theorem vU{b:pK}{x:Nat×Obj}{n m:Nat}{a:Option Addr}{cp:Nat}(h:b.vu=.slice a m cp):Gr (x::b.hp kp n)=m:=by simp[Gr,pK.hp,pK.cells,h]
theorem B7(h:cc kp K ord ah tr C){d:Nd}(hd:T3 K.N d)(hv:d.v<K.n)(hT:K.T d=none)(hroom:K.used<K.cap)(hlo:d.lo<2∨d.lo<K.us.length)(hhi:d.hi<2∨d.hi<K.us.length)
 (hb:∀s,K.use s+2<2147483648):
  Fc Tryz.prog 207 #[ptr kp,nK d] C (fun v C'=>∃r cJ ct,v=u32 r∧K.N r=none∧2≤r∧r<K.cap∧cJ.length=ct.length∧r<cJ.length∧K.us.length≤cJ.length∧cJ.getD r 0=0∧
   (∀s,2≤s→s≠r→cJ.getD s 0=K.use s+e1 (some d) s)∧(∀s,s<2→cJ.getD s 0=K.use s)∧ct.getD r 0=0∧(∀s,s≠r→ct.getD s 0=K.hold s)∧
   cc kp {K with N:=up K.N r (some d),T:=nf K.T d (some r),used:=K.used+1,us:=cJ,ho:=ct} ord ah tr C'):=by
 have hcap:=h.cap
 obtain⟨b,rfl,hO⟩:=h
 have Ek:=hO.ul
 intro g
 refine AX (R:=az _) ?_
 unfold L207
 intro b1 _
 refine DR.of (R:=(b1,.cells (Value.cells (nK d)) 161 (0,0))::(kp,.cells (b.cells K.n) 117 (0,0))::[]) (.cons (.cons .nil)) ?_
 refine Nil.ptr ?_
 refine aa.mk (Ld.mk (v:=ptr b.pa) (by exact .tail _ (.head _)) rfl ?_)
 refine aC.whole (r:=aV d) (by exact .head _) rfl ?_
 refine ag.fn (.cons (.cons .left)) (IX hO.ar hd hroom) ?_
 rintro v Ut ⟨r,rfl,h2,hrc,hN,SL⟩
 refine⟨.cons (.cons .nil),Ext.mk rfl (Ext.mk rfl ?_)⟩
 refine⟨fun _ H=>∃(b':pK) (cJ ct:List Nat),H=(b1,.cells (Value.cells (nK d)) 161 (0,0))::b'.hp kp K.n∧PZ b' {K with N:=up K.N r (some d),used:=K.used+1,us:=cJ,ho:=ct} ord ah tr∧
   K.us.length≤cJ.length∧(∀s,cJ.getD s 0=K.use s)∧∀s,ct.getD s 0=K.hold s,
  fun _ H=>r+1-Gr H,JE.mk ⟨{b with CA:=Ut},K.us,K.ho,rfl,{hO with ar:=SL,ul:=Ek},Nat.le_refl _,fun _=>rfl,fun _=>rfl⟩,?_⟩
 rintro H ⟨b',cJ,ct,rfl,sD,hle,hu,hh⟩ gs
 have RO:=sD.ul
 simp only at RO
 refine aW.nat (by simp[aB];omega) (Nil.ptr ?_)
 refine aa.mk (Ld.mk (v:=b'.vu) (by exact .tail _ (.head _)) rfl ?_)
 refine sD.us.bS ?_
 rw[aq]
 refine ae.pe (Br.dec (fun hge=>?_) (fun hge=>?_))
 ·have hge:cJ.length≤r:=hge
  refine Nil.ptr ?_
  refine aa.mk (Ld.mk (v:=b'.vu) (by exact .tail _ (.head _)) rfl ?_)
  refine au.int (e:=21) (by kernel_rfl) (by kernel_rfl) (by kernel_rfl) fun bx=>?_
  refine sD.us.pG (.cons (.cons (.cons (.app (.app .left))))) (by exact .head _) (by simp;omega) (by simp;omega) fun vu' JV x6=>?_
  refine Nil.ptr (aa.mk ?_)
  refine St.one (by exact .tail (.tail (.head _))) x6.one (by simp[pK.cells]) rfl ?_
  refine Nil.ptr ?_
  refine aa.mk (Ld.mk (v:=b'.vh) (by exact .tail _ (.tail _ (.head _))) rfl ?_)
  refine au.int (e:=21) (by kernel_rfl) (by kernel_rfl) (by kernel_rfl) fun by'=>?_
  refine sD.ho.pG (.cons (.cons (.cons (.cons (.app (.app (.app .left))))))) (by exact .head _) (by simp;omega) (by simp;omega) fun vh' Jm ni=>?_
  refine Nil.ptr (aa.mk ?_)
  refine St.one (by exact .tail (.tail (.tail (.head _)))) ni.one (by simp[pK.cells]) rfl ?_
  have e0:∀l:List Nat,iw l++[0]=iw (l++[0]):=fun l=>by rw[cL];rfl
  rw[e0]at x6 ni
  refine aF.of (.skip (.skip (.refl _))) ⟨{b' with vu:=vu',vh:=vh',CU:=JV,CH:=Jm},cJ++[0],ct++[0],rfl,{sD with us:=x6,ho:=ni,ul:=by simp at RO⊢;omega},by simp;omega,fun s=>by rw[qV,hu],fun s=>by rw[qV,hh]⟩ ?_
  obtain⟨a1,c1,e1⟩:=aQ.len sD.us
  obtain⟨a2,c2,e2⟩:=aQ.len x6
  have f1:=vU (b:=b') (x:=(b1,.cells (Value.cells (nK d)) 161 (0,0))) (kp:=kp) (n:=K.n) e1
  have f2:=vU (b:={b' with vu:=vu',vh:=vh',CU:=JV,CH:=Jm}) (x:=(b1,.cells (Value.cells (nK d)) 161 (0,0))) (kp:=kp) (n:=K.n) e2
  rw[f1]
  refine Nat.lt_of_le_of_lt (Nat.le_of_eq (congrArg (fun z=>r+1-z) f2)) ?_
  simp
  omega
 ·have hge:¬cJ.length≤r:=hge
  have CB:r<cJ.length:=by omega
  have Cz:r<ct.length:=by omega
  refine DR.of (R:=(kp,.cells (b'.cells K.n) 117 (0,0))::[]) (.skip (.cons .nil)) ?_
  refine Nil.ptr ?_
  refine aa.mk (Ld.mk (v:=b'.vu) (by exact .head _) rfl ?_)
  refine Nil.ptr ?_
  refine aa.mk (Ld.mk (v:=b'.vh) (by exact .head _) rfl ?_)
  refine sD.us.iX (x:=0) (.cons (.cons (.app (.app .left)))) (by simpa using CB) fun JV x6=>?_
  refine sD.ho.iX (x:=0) (.cons (.cons (.app (.app (.app .left))))) (by simpa using Cz) fun Jm ni=>?_
  have e0:∀l:List Nat,(iw l).set r 0=iw (l.set r 0):=fun l=>eM l r 0
  rw[e0]at x6 ni
  have lor:d.lo≠r:=eA hd.lo h2 hN
  have hir:d.hi≠r:=eA hd.hi h2 hN
  refine aa.mk (Ld.mk (v:=u32 d.lo) (by exact .head _) rfl ?_)
  have u0:∀s,(cJ.set r 0).getD s 0=if s=r then 0 else K.use s:=fun s=>by rw[fe CB];split;rfl;exact hu s
  have h0:∀s,(ct.set r 0).getD s 0=if s=r then 0 else K.hold s:=fun s=>by rw[fe Cz];split;rfl;exact hh s
  have eB:cc kp {K with N:=up K.N r (some d),used:=K.used+1,us:=cJ.set r 0,ho:=ct.set r 0} ord ah tr (({b' with CU:=JV,CH:=Jm}:pK).hp kp K.n):=⟨_,rfl,{sD with us:=x6,ho:=ni,ul:=by simp;omega}⟩
  refine ag.fn (.cons .here) (yx eB (by simp;omega) (by have:=hb d.lo;show(cJ.set r 0).getD d.lo 0+1<_;rw[u0,if_neg lor];omega)) ?_
  rintro v C1 ⟨rfl,de⟩
  refine aa.mk (Ld.mk (v:=u32 d.hi) (by exact .head _) rfl ?_)
  have u1:∀s,(oY {K with N:=up K.N r (some d),used:=K.used+1,us:=cJ.set r 0,ho:=ct.set r 0} d.lo).getD s 0=(if s=r then 0 else K.use s)+(if 2≤s∧s=d.lo then 1 else 0):=fun s=>by
   by_cases e:s=d.lo
   ·by_cases h2:2≤s
    ·rw[if_pos (show 2≤s∧s=d.lo from⟨h2,e⟩),e,kj (by omega) (by simp;omega)]
     show(cJ.set r 0).getD d.lo 0+1=_
     rw[u0]
    ·rw[if_neg (show¬(2≤s∧s=d.lo)by omega)]
     unfold oY
     rw[if_pos (by omega)]
     show(cJ.set r 0).getD s 0=_
     rw[u0];rfl
   ·rw[if_neg (show¬(2≤s∧s=d.lo)by omega),qs e]
    show(cJ.set r 0).getD s 0=_
    rw[u0];rfl
  refine ag.fn (.cons .here) (yx de (by rw[gn];simp;omega) (by
   have:=hb d.hi
   show(oY _ d.lo).getD d.hi 0+1<_
   rw[u1,if_neg hir];split<;>omega)) ?_
  rintro v C2 ⟨rfl,l5⟩
  have ad3:=l5
  obtain⟨b3,rfl,hO3⟩:=l5
  refine DR.self ?_
  refine Nil.ptr ?_
  refine aa.mk (Ld.mk (v:=ptr b3.pt) (by exact .tail _ (.head _)) rfl ?_)
  refine aC.whole (r:=aV d) (by exact .head _) rfl ?_
  refine ag.fn (.cons (.cons (.app .left))) (B4 hO3.ut hv hT) ?_
  rintro v Qi ⟨rfl,OD⟩
  have u2:∀s,(oY {K with N:=up K.N r (some d),used:=K.used+1,us:=oY {K with N:=up K.N r (some d),used:=K.used+1,us:=cJ.set r 0,ho:=ct.set r 0} d.lo,ho:=ct.set r 0} d.hi).getD s 0=(if s=r then 0 else K.use s)+(if 2≤s∧s=d.lo then 1 else 0)+(if 2≤s∧s=d.hi then 1 else 0):=fun s=>by
   by_cases e:s=d.hi
   ·by_cases h2:2≤s
    ·rw[if_pos (show 2≤s∧s=d.hi from⟨h2,e⟩),e,kj (by omega) (by rw[gn];simp;omega)]
     show(oY _ d.lo).getD d.hi 0+1=_
     rw[u1]
    ·rw[if_neg (show¬(2≤s∧s=d.hi)by omega)]
     unfold oY
     rw[if_pos (by omega)]
     show(oY _ d.lo).getD s 0=_
     rw[u1];rfl
   ·rw[if_neg (show¬(2≤s∧s=d.hi)by omega),qs e]
    show(oY _ d.lo).getD s 0=_
    rw[u1];rfl
  refine az.mk .tail ⟨r,_,_,rfl,hN,h2,hrc,?_,?_,?_,?_,?_,?_,?_,?_,{b3 with CT:=Qi},rfl,{hO3 with ut:=OD}⟩
  ·rw[gn,gn];simp;omega
  ·rw[gn,gn];simp;omega
  ·rw[gn,gn];simp;omega
  ·rw[u2,if_pos rfl,if_neg (show¬(2≤r∧r=d.lo)by omega),if_neg (show¬(2≤r∧r=d.hi)by omega)]
  ·intro s QH hne
   rw[u2,if_neg hne,df]
   have c1:(2≤s∧s=d.lo)↔d.lo=s:=⟨fun h=>h.2.symm,fun h=>⟨QH,h.symm⟩⟩
   have c2:(2≤s∧s=d.hi)↔d.hi=s:=⟨fun h=>h.2.symm,fun h=>⟨QH,h.symm⟩⟩
   simp only[c1,c2]
   omega
  ·intro s hs
   rw[u2,if_neg (show¬s=r by omega),if_neg (show¬(2≤s∧s=d.lo)by omega),if_neg (show¬(2≤s∧s=d.hi)by omega)]
   try simp
  ·rw[h0,if_pos rfl]
  ·intro s hne;rw[h0,if_neg hne]
end
end Go.Proofs
set_option maxRecDepth 100000
namespace Go.Proofs
open Go Go.Sx
open aE
section
variable {kp:Nat} {K:Kd} {ord ah tr:List Nat} {C:Hp} {S:Nat→aE.Fn}
theorem Lt(B:Hp)(v:Int)(r:Nat)(kv:Value):Rd Tryz.prog 138 #[kv,.int .i64 v,u32 r,u32 r] B (· =u32 r):=by
 intro g
 refine mX (R:=az _) ?_
 unfold L138
 exact ae.fO (Br.dS rfl (cr.mk (.refl _) rfl))
theorem Lv(h:cc kp K ord ah tr C){v lo hi r:Nat}(hne:lo≠hi)(hv:v<K.n)(hT:K.T ⟨v,lo,hi⟩=some r):
  Rd Tryz.prog 138 #[ptr kp,.int .i64 (v:Int),u32 lo,u32 hi] C (· =u32 r):=by
 obtain⟨b,rfl,hO⟩:=h
 intro g
 refine mX (R:=az _) ?_
 unfold L138
 refine ae.fO (Br.aX hne ?_)
 refine Build.mk (cs:=aV ⟨v,lo,hi⟩) (by kernel_rfl) ?_
 intro b3 _
 refine St.whole (r:=aV ⟨v,lo,hi⟩) (by exact .head _) rfl rfl (fun x hx=>by simp[aV,u32]at hx;rcases hx with rfl|rfl|rfl<;>rfl) ?_
 refine DR.self ?_
 refine Nil.ptr ?_
 refine aa.mk (Ld.mk (v:=ptr b.pt) (by exact .tail _ (.head _)) rfl ?_)
 refine aC.whole (r:=aV ⟨v,lo,hi⟩) (by exact .head _) rfl ?_
 refine ag.rd (.cons (.cons (.app .left))) (pY (d:=⟨v,lo,hi⟩) hO.ut hv) ?_
 rintro w rfl
 rw[hT]
 exact⟨.refl _,Ext.mk rfl (Ext.mk rfl (Br.yes (cr.mk .tail rfl)))⟩
theorem Lu(h:cc kp K ord ah tr C){d:Nd}(hne:d.lo≠d.hi)(hd:T3 K.N d)(hv:d.v<K.n)(hT:K.T d=none)(hroom:K.used<K.cap)(hlo:d.lo<2∨d.lo<K.us.length)(hhi:d.hi<2∨d.hi<K.us.length)
 (hb:∀s,K.use s+2<2147483648):
  Fc Tryz.prog 138 #[ptr kp,.int .i64 (d.v:Int),u32 d.lo,u32 d.hi] C (fun v C'=>∃r cJ ct,v=u32 r∧K.N r=none∧2≤r∧r<K.cap∧cJ.length=ct.length∧r<cJ.length∧K.us.length≤cJ.length∧cJ.getD r 0=0∧
   (∀s,2≤s→s≠r→cJ.getD s 0=K.use s+e1 (some d) s)∧(∀s,s<2→cJ.getD s 0=K.use s)∧ct.getD r 0=0∧(∀s,s≠r→ct.getD s 0=K.hold s)∧
   cc kp {K with N:=up K.N r (some d),T:=nf K.T d (some r),used:=K.used+1,us:=cJ,ho:=ct} ord ah tr C'):=by
 have h0:=h
 obtain⟨b,rfl,hO⟩:=h
 intro g
 refine mX (R:=az _) ?_
 unfold L138
 refine ae.fO (Br.aX hne ?_)
 refine Build.mk (cs:=aV d) (by kernel_rfl) ?_
 intro b3 _
 refine St.whole (r:=aV d) (by exact .head _) rfl rfl (fun x hx=>by simp[aV,u32]at hx;rcases hx with rfl|rfl|rfl<;>rfl) ?_
 refine DR.self ?_
 refine Nil.ptr ?_
 refine aa.mk (Ld.mk (v:=ptr b.pt) (by exact .tail _ (.head _)) rfl ?_)
 refine aC.whole (r:=aV d) (by exact .head _) rfl ?_
 refine ag.rd (.cons (.cons (.app .left))) (pY (d:=d) hO.ut hv) ?_
 rintro w rfl
 rw[hT]
 refine⟨.refl _,Ext.mk rfl (Ext.mk rfl (Br.no ?_))⟩
 refine aC.whole (r:=aV d) (by exact .head _) rfl ?_
 refine ag.fn (.cons .here) (B7 h0 hd hv hT hroom hlo hhi hb) ?_
 rintro v C' ⟨r,cJ,ct,rfl,hh⟩
 exact az.mk .tail ⟨r,cJ,ct,rfl,hh⟩
structure sJ(K' K:Kd):Prop where
 N:∀{s d},K'.N s=some d→K.N s=some d
 n:K'.n=K.n
 cap:K'.cap=K.cap
 ho:K'.ho=K.ho
 us:∀s,K'.use s≤K.use s
 idle:(∀s,K.N s=none→K.use s=0)→∀s,K'.N s=none→K'.use s=0
theorem sJ.refl(K:Kd):sJ K K:=⟨fun h=>h,rfl,rfl,rfl,fun _=>Nat.le_refl _,fun h=>h⟩
theorem sJ.trans{A B C:Kd}(h:sJ A B)(h':sJ B C):sJ A C:=⟨fun x=>h'.N (h.N x),h.n.trans h'.n,h.cap.trans h'.cap,h.ho.trans h'.ho,fun s=>Nat.le_trans (h.us s) (h'.us s),fun hi=>h.idle (h'.idle hi)⟩
def PL(P:Nat→Nat)(N:dJ):Prop:=∀t,2≤t→0<P t→∃d,N t=some d
def fg(P0:Nat→Nat)(l:List Nat):Nat→Nat:=fun s=>P0 s+l.count s
theorem EJ{P0:Nat→Nat}{l:List Nat}{t:Nat}:up (fg P0 (l++[t])) t (fg P0 (l++[t]) t-1)=fg P0 l:=by
 funext s
 unfold up fg
 split
 ·rename_i e;subst e;simp
 ·rename_i e;simp[List.count_append,List.count_singleton,Ne.symm e]
theorem jC{P0:Nat→Nat}(h:cc kp K ord ah tr C){r:Nat}(hm:gF K S fM (fg P0 [r]))(hp:Pos K)(hl:PL (fg P0 [r]) K.N)(hr:r<1048576)(hbu:∀s,K.use s<2147483648):
  Fc Tryz.prog 142 #[ptr kp,u32 r] C (fun v C'=>v=.tuple #[]∧∃K',cc kp K' ord ah tr C'∧gF K' S fM P0∧Pos K'∧PL P0 K'.N∧sJ K' K):=by
 intro g
 refine Bt (R:=az _) ?_
 unfold L142
 refine au.int (e:=77) (by kernel_rfl) (by kernel_rfl) (by kernel_rfl) fun bx=>?_
 refine RA (fun k vs H=>∃(w:Value) (Ct C':Hp) (todo:List Nat) (K':Kd),vs=[w]∧H=Ct++C'∧aN 77 .u32 w (iw todo) Ct∧cc kp K' ord ah tr C'∧gF K' S fM (fg P0 todo)∧Pos K'∧PL (fg P0 todo) K'.N∧sJ K' K∧(∀t∈todo,t<1048576)∧k=3*K'.used+todo.length∧k≤3*K.used+1)
  _ ⟨_,[_],C,[r],K,rfl,rfl,aN.made [(r:Int)],h,hm,hp,hl,.refl K,by simpa using hr,rfl,by simp⟩ ?_
 rintro w H hJ gs
 obtain⟨k,⟨w',Ct,C',todo,K',hw,rfl,ht,hK,hM,Ib,FM,mv,hT,hk,hkb⟩,hkm⟩:=hJ.open
 simp only[List.cons.injEq,and_true]at hw
 subst hw
 refine ht.bS ?_
 rw[aq]
 refine ae.nP (b:=0) (Br.dec (fun hpos=>?_) (fun hpos=>?_))
 ·have XT:=hm.cap
  obtain⟨pre,t,rfl⟩:∃pre t,todo=pre++[t]:=⟨todo.dropLast,todo.getLast (by intro e;simp[e]at hpos),(List.dropLast_concat_getLast _).symm⟩
  have htl:(pre++[t]).length=pre.length+1:=by simp
  have ht1:=hT t (by simp)
  refine ht.bS ?_
  rw[aq,htl]
  refine ae.bJ (b:=1) ?_ (by omega) ?_
  ·simp[aB];omega
  rw[Nat.add_sub_cancel]
  refine ht.ld (i:=pre.length) (x:=(t:Int)) (by rw[cL];simp[iw]) (bP.sub .left) ?_
  refine ht.cut (i:=pre.length) (by simp) fun w' ht'=>?_
  have MA:aN 77 .u32 w' (iw pre) Ct:=by
   rw[cL,List.take_left' (by simp)]at ht';exact ht'
  have X2:∀s∈pre,s<1048576:=fun s hs=>hT s (List.mem_append_left _ hs)
  refine ae.wD (b:=1) (Br.dec (fun h1=>?_) (fun h1=>?_))
  ·have hc:∀s,2≤s→fg P0 (pre++[t]) s=fg P0 pre s:=fun s hs=>by
    unfold fg;rw[List.count_append,List.count_singleton];simp;omega
   exact lj.back (.refl _) hkm (3*K'.used+pre.length) ⟨w',Ct,C',pre,K',rfl,rfl,MA,hK,hM.congr (fun _=>Iff.rfl) hc,Ib,fun s hs h0=>FM s hs (by rw[hc s hs];exact h0),mv,X2,rfl,by simp at hk;omega⟩ (by rw[hk];simp)
  ·have hPt:0<fg P0 (pre++[t]) t:=by unfold fg;simp;omega
   obtain⟨d,hd⟩:=FM t (by omega) hPt
   have hfit:=hM.fit hd
   have hpo:=Ib t d hd
   obtain⟨b,rfl,hO⟩:=hK
   refine Nil.ptr ?_
   refine aa.mk (Ld.mk (v:=b.vu) (List.mem_append_right _ (by exact .head _)) rfl ?_)
   refine hO.us.ld (x:=((K'.use t:Nat):Int)) (bc hfit) (bP.sub (.app (.cons (.app (.app .left))))) ?_
   refine ae.bJ (b:=1) ?_ (by omega) ?_
   ·have:=mv.us t
    have:=hbu t
    simp[aB];omega
   refine hO.us.iX (x:=((K'.use t-1:Nat):Int)) (.app (.cons (.app (.app .left)))) (by simpa using hfit) fun JV x6=>?_
   rw[eM]at x6
   have g1:∀s,(K'.us.set t (K'.use t-1)).getD s 0=if s=t then K'.use t-1 else K'.use s:=fun s=>fe hfit
   have Ey:=hM.less (r:=t) (cJ:=K'.us.set t (K'.use t-1)) hPt (by simp) (by rw[g1,if_pos rfl];omega) (fun s hs=>by rw[g1,if_neg hs])
   rw[EJ]at Ey
   have MR:PZ {b with CU:=JV} {K' with us:=K'.us.set t (K'.use t-1)} ord ah tr:={hO with us:=x6,ul:=by simp;exact hO.ul}
   have QG:sJ {K' with us:=K'.us.set t (K'.use t-1)} K:=⟨mv.N,mv.n,mv.cap,mv.ho,fun s=>by
    show(K'.us.set t (K'.use t-1)).getD s 0≤_
    rw[g1]
    have:=mv.us s
    split
    ·rename_i e;subst e;omega
    ·exact this,fun hi s hs=>by
    show(K'.us.set t (K'.use t-1)).getD s 0=0
    have hs':K'.N s=none:=hs
    rw[g1,if_neg (fun e=>by subst e;rw[hd]at hs';cases hs')]
    exact mv.idle hi s hs'⟩
   have S6:PL (fg P0 pre) K'.N:=fun s hs h0=>FM s hs (by unfold fg at h0⊢;rw[List.count_append];omega)
   refine Nil.ptr ?_
   refine aa.mk (Ld.mk (v:=b.vu) (List.mem_append_right _ (by exact .head _)) rfl ?_)
   refine x6.ld (x:=((K'.use t-1:Nat):Int)) (by rw[←eM];simp[hfit]) (bP.sub (.app (.cons (.app (.app .left))))) ?_
   refine ae.nP (b:=0) (Br.dec (fun h3=>?_) (fun h3=>?_))
   ·refine lj.back (.refl _) hkm (3*K'.used+pre.length) ⟨w',Ct,_,pre,_,rfl,rfl,MA,⟨_,rfl,MR⟩,Ey,fun s e hs=>?_,S6,QG,X2,rfl,by simp at hk;omega⟩ (by rw[hk];simp)
    show 0<(K'.us.set t (K'.use t-1)).getD s 0
    rw[g1]
    split
    ·exact h3
    ·exact Ib s e hs
   ·have hu0:K'.use t=1:=by omega
    have eB:cc kp {K' with us:=K'.us.set t (K'.use t-1)} ord ah tr (({b with CU:=JV}:pK).hp kp K'.n):=⟨_,rfl,MR⟩
    refine ag.rd (.app .here) (kL eB (by omega)) ?_
    rintro v rfl
    have Ih:2≤t:=by omega
    have XG:got K'.N t=aV d:=cY hd Ih
    show bg _ _ _
    intro TJ _
    rw[XG]
    refine St.whole (r:=aV d) (by exact .head _) rfl rfl (fun x hx=>by simp[aV,u32]at hx;rcases hx with rfl|rfl|rfl<;>rfl) ?_
    refine DR.self ?_
    refine Nil.ptr ?_
    refine aa.mk (Ld.mk (v:=ptr b.pt) (.tail _ (List.mem_append_right _ (by exact .head _))) rfl ?_)
    refine aC.whole (r:=aV d) (by exact .head _) rfl ?_
    have X4:K'.T d=some t:=(hM.iD d t).2 ⟨hd,fun h=>h⟩
    refine ag.fn (.cons (.app (.cons (.app .left)))) (sZ MR.ut (hM.var hd) X4) ?_
    rintro v Qi ⟨rfl,OD⟩
    refine Nil.ptr ?_
    refine aa.mk (Ld.mk (v:=ptr b.pa) (.tail _ (List.mem_append_right _ (by exact .head _))) rfl ?_)
    refine ag.fn (.cons (.app (.cons .left))) (Ja MR.ar ⟨d,hd⟩ Ih) ?_
    rintro v Ut ⟨rfl,SL⟩
    refine aa.mk (Ld.mk (v:=u32 d.lo) (by exact .head _) rfl ?_)
    refine aa.mk (Ld.mk (v:=u32 d.hi) (by exact .head _) rfl ?_)
    refine au.Ho (e:=77) (by kernel_rfl) (by kernel_rfl) (by kernel_rfl) fun bz=>?_
    refine MA.xI (.cons (.cons .left)) (c6.block (l:=[(d.lo:Int),(d.hi:Int)]) (by exact .head _) (by simp)) (by simp at hk⊢;omega) (by simp at hk⊢;omega) fun w2 Ct2 UF=>?_
    have e0:iw pre++[(d.lo:Int),(d.hi:Int)]=iw (pre++[d.lo,d.hi]):=by rw[cL];rfl
    rw[e0]at UF
    have UE:({K' with us:=K'.us.set t (K'.use t-1)}:Kd).use t=0:=by show(K'.us.set t (K'.use t-1)).getD t 0=0;rw[g1,if_pos rfl];omega
    have CY:=Ey.free (r:=t) (d:=d) hd (fun h=>h) UE
    have XQ:cD K'.N t K'.cap=0:=by have:=Ey.use hd;rw[UE]at this;exact(by have h5:cD K'.N t K'.cap+_+_=0:=this.symm;omega)
    have fx:=gX XQ t (hM.two hd).2 d hd
    have X9:fg P0 pre t=0:=by have:=Ey.use hd;rw[UE]at this;omega
    have hroom:0<K'.used:=by have:=hM.room;omega
    have hlt:∀x,live K'.N x→x<1048576:=fun x hx=>eB.lt hx
    have j3:∀s,2≤s→fg P0 pre s+e1 (some d) s=fg P0 (pre++[d.lo,d.hi]) s:=fun s _=>by
     unfold fg
     rw[df,List.count_append,List.count_cons,List.count_cons,List.count_nil]
     simp only[beq_iff_eq]
     omega
    refine lj.back (.skip (.skip (.refl _))) hkm (3*(K'.used-1)+(pre++[d.lo,d.hi]).length) ⟨w2,Ct2,_,pre++[d.lo,d.hi],{K' with us:=K'.us.set t (K'.use t-1),N:=up K'.N t none,T:=nf K'.T d none,used:=K'.used-1},rfl,rfl,UF,
     ⟨{b with CU:=JV,CT:=Qi,CA:=Ut},rfl,{MR with ar:=SL,ut:=OD}⟩,CY.congr (fun _=>Iff.rfl) j3,fun s e hs=>?_,fun s hs h0=>?_,⟨fun{s e} hs=>?_,QG.n,QG.cap,QG.ho,QG.us,fun hi s hs=>?_⟩,fun s hs=>?_,rfl,by simp at hk⊢;omega⟩ (by simp at hk⊢;omega)
    ·have hne:s≠t:=fun e2=>by subst e2;have wR:up K'.N s none s=some e:=hs;rw[aH]at wR;cases wR
     show 0<(K'.us.set t (K'.use t-1)).getD s 0
     rw[g1,if_neg hne]
     have wR:up K'.N t none s=some e:=hs
     rw[aL hne]at wR
     exact Ib s e wR
    ·have hne:s≠t:=fun e2=>by
      subst e2
      rw[←j3 s hs,X9]at h0
      rw[df,if_neg fx.1,if_neg fx.2]at h0
      omega
     show∃e,up K'.N t none s=some e
     rw[aL hne]
     rw[←j3 s hs]at h0
     by_cases h5:0<fg P0 pre s
     ·exact S6 s hs h5
     ·rw[df]at h0
      have:d.lo=s∨d.hi=s:=by
       by_cases h6:d.lo=s
       ·exact .inl h6
       ·by_cases h7:d.hi=s
        ·exact .inr h7
        ·rw[if_neg h6,if_neg h7]at h0;omega
      rcases this with rfl|rfl
      ·rcases hM.lo hd with h8|h8
       ·omega
       ·exact h8
      ·rcases hM.hi hd with h8|h8
       ·omega
       ·exact h8
    ·have wR:up K'.N t none s=some e:=hs
     by_cases e2:s=t
     ·subst e2;rw[aH]at wR;cases wR
     ·rw[aL e2]at wR;exact mv.N wR
    ·have wR:up K'.N t none s=none:=hs
     show(K'.us.set t (K'.use t-1)).getD s 0=0
     by_cases e2:s=t
     ·subst e2;rw[g1,if_pos rfl];omega
     ·rw[aL e2]at wR
      exact QG.idle hi s wR
    ·rcases List.mem_append.1 hs with hs|hs
     ·exact X2 s hs
     ·simp at hs
      rcases hs with rfl|rfl
      ·exact hlt _ (hM.lo hd)
      ·exact hlt _ (hM.hi hd)
 ·obtain rfl:todo=[]:=List.eq_nil_of_length_eq_zero (by omega)
  exact az.mk .right ⟨rfl,K',hK,hM.congr (fun _=>Iff.rfl) (fun s _=>by simp[fg]),Ib,fun s hs h0=>FM s hs (by simpa[fg]using h0),mv⟩
end
end Go.Proofs
set_option maxRecDepth 100000
namespace Go.Proofs
open Go Go.Sx
open aE
abbrev lv(ah:List Nat):Nat→Nat:=fun v=>ah.getD v 0
section
variable {kp:Nat} {K:Kd} {ord ah tr:List Nat} {C:Hp} {S:Nat→aE.Fn}
theorem Cq(h:cc kp K ord ah tr C)(v:Int):Rd Tryz.prog 113 #[ptr kp,.int .i64 v] C (· =.bool (decide (0≤v∧v<K.n))):=by
 obtain⟨b,rfl,hO⟩:=h
 intro g
 refine BH (R:=az _) ?_
 unfold L113
 refine ae.geq ?_
 refine cw.and (decide (v<K.n)) (fun _=>?_) rfl fun _=>cr.mk (.refl _) (by rw[Bool.decide_and])
 refine Nil.ptr ?_
 refine aa.mk (Ld.mk (v:=.int .i64 (K.n:Int)) (by exact .head _) rfl ?_)
 exact ae.lss ⟨rfl,rfl⟩
theorem tA(h:cc kp K ord ah tr C){r:Nat}(hl:live K.N r)(hv:∀d,K.N r=some d→d.v<K.n)(QI:r<2→K.N r=none):Rd Tryz.prog 257 #[ptr kp,u32 r] C (· =.int .i64 ((dep K.n (lv ah) K.N r:Nat):Int)):=by
 have h0:=h
 have hr:=h.lt hl
 obtain⟨b,rfl,hO⟩:=h
 intro g
 refine Aj (R:=az _) ?_
 unfold L257
 refine Nil.ptr (aa.mk ?_)
 refine ag.rd .here (kL h0 (by omega)) ?_
 rintro v rfl
 intro b5 _
 refine St.whole (r:=got K.N r) (by exact .head _) rfl (aJ _ _).1 (aJ _ _).2 ?_
 by_cases h2:r<2
 ·rw[dx h2,aT (QI h2)]
  refine aa.mk (Ld.mk (v:=.int .i64 (-1)) (by exact .head _) rfl ?_)
  refine ae.geq (Br.Rx (by decide) ?_)
  refine Nil.ptr ?_
  refine aa.mk (Ld.mk (v:=.int .i64 (K.n:Int)) (by exact .tail _ (.head _)) rfl ?_)
  exact cr.mk .tail rfl
 ·obtain⟨d,hd⟩:∃d,K.N r=some d:=by rcases hl with hl|hl;omega;exact hl
  rw[cY hd (by omega),av hd]
  have nN:=hv d hd
  have hlen:=hO.ol.2
  refine aa.mk (Ld.mk (v:=.int .i64 (d.v:Int)) (by exact .head _) rfl ?_)
  refine ae.geq (Br.Vf (by simp) ?_)
  refine Nil.ptr ?_
  refine aa.mk (Ld.mk (v:=b.vl) (by exact .tail _ (.head _)) rfl ?_)
  refine aa.mk (Ld.mk (v:=.int .i64 (d.v:Int)) (by exact .head _) rfl ?_)
  refine hO.lv.ld (x:=((ah.getD d.v 0:Nat):Int)) (bc (by omega)) (bP.sub (.cons (.cons (.app (.app (.app (.app (.app .left)))))))) ?_
  exact cr.mk .tail rfl
def po(K:Kd)(ah:List Nat)(v:Int)(lo hi:Nat):Int:=
 if¬(0≤v∧v<K.n)then 2 else if eS K.N lo=false∨eS K.N hi=false then 3 else if lo≠hi∧min (dep K.n (lv ah) K.N lo) (dep K.n (lv ah) K.N hi)≤ah.getD v.toNat 0 then 4 else 0
theorem LD(h:cc kp K ord ah tr C)(v:Int){lo hi:Nat}(hlo:lo<4294967296)(hhi:hi<4294967296)(hv:∀r d,K.N r=some d→d.v<K.n∧2≤r):
  Rd Tryz.prog 225 #[ptr kp,.int .i64 v,u32 lo,u32 hi] C (· =.int .i64 (po K ah v lo hi)):=by
 have h0:=h
 have QI:∀r,r<2→K.N r=none:=fun r hr=>by
  cases e:K.N r with
  |none=>rfl
  |some d=>have:=(hv r d e).2;omega
 obtain⟨b,rfl,hO⟩:=h
 intro g
 refine AK (R:=az _) ?_
 unfold L225
 refine ag.rd .here (Cq h0 v) ?_
 rintro x rfl
 refine Un.not ?_
 by_cases Ej:0≤v∧v<K.n
 rotate_left
 ·rw[decide_eq_false Ej]
  exact Br.yes (cr.mk (.refl _) (by unfold po;rw[if_pos Ej]))
 rw[decide_eq_true Ej]
 refine Br.no ?_
 obtain⟨n,rfl⟩:∃n:Nat,v=n:=⟨v.toNat,by omega⟩
 have hnv:n<K.n:=by omega
 intro J hJ
 refine Nil.ptr (aa.mk ?_)
 refine ag.rd .here (kM h0 hlo) ?_
 rintro x rfl
 refine Un.not ?_
 by_cases uS:eS K.N lo=true
 rotate_left
 ·have Sg:eS K.N lo=false:=by simpa using uS
  rw[Sg]
  exact Split.Ru rfl (aA.mk (JE.mk (hJ _ _ fun gs=>Br.yes (cr.mk (.refl _) (by unfold po;rw[if_neg (by simpa using Ej),if_pos (.inl Sg)])))))
 rw[uS]
 refine Split.go rfl ?_
 refine Nil.ptr (aa.mk ?_)
 refine ag.rd .here (kM h0 hhi) ?_
 rintro x rfl
 refine Un.not ?_
 by_cases UP:eS K.N hi=true
 rotate_left
 ·have Sr:eS K.N hi=false:=by simpa using UP
  rw[Sr]
  exact aA.mk (JE.mk (hJ _ _ fun gs=>Br.yes (cr.mk (.refl _) (by unfold po;rw[if_neg (by simpa using Ej),if_pos (.inr Sr)]))))
 rw[UP]
 refine aA.mk (JE.mk (hJ _ _ fun gs=>Br.no ?_))
 intro J2 y8
 have hE:po K ah n lo hi=if lo≠hi∧min (dep K.n (lv ah) K.N lo) (dep K.n (lv ah) K.N hi)≤ah.getD n 0 then 4 else 0:=by
  unfold po
  rw[if_neg (by simpa using Ej),if_neg (by rw[uS,UP];simp)]
  rfl
 refine DR.self ?_
 refine ae.GX ?_
 by_cases hne:lo≠hi
 rotate_left
 ·rw[decide_eq_false hne]
  exact Br.no (JE.mk (y8 _ _ fun gs=>Br.no (cr.mk (.refl _) (by rw[hE,if_neg (fun h=>hne h.1)]))))
 rw[decide_eq_true hne]
 refine Br.yes ?_
 refine Nil.ptr ?_
 refine aa.mk (Ld.mk (v:=b.vl) (by exact .head _) rfl ?_)
 have hlen:=hO.ol.2
 refine hO.lv.ld (x:=((ah.getD n 0:Nat):Int)) (bc (by omega)) (bP.sub (.cons (.app (.app (.app (.app (.app .left))))))) ?_
 intro F
 refine ag.rd .here (tA h0 (bI.1 uS) (fun d hd=>(hv _ _ hd).1) (QI _)) ?_
 rintro x rfl
 refine⟨.refl _,?_⟩
 intro F2
 refine ag.rd .here (tA h0 (bI.1 UP) (fun d hd=>(hv _ _ hd).1) (QI _)) ?_
 rintro x rfl
 refine⟨.refl _,?_⟩
 refine⟨_,_,_,rfl,rfl,?_⟩
 have hmin:(if((dep K.n (lv ah) K.N hi:Nat):Int)<((dep K.n (lv ah) K.N lo:Nat):Int)then((dep K.n (lv ah) K.N hi:Nat):Int)else((dep K.n (lv ah) K.N lo:Nat):Int))=((min (dep K.n (lv ah) K.N lo) (dep K.n (lv ah) K.N hi):Nat):Int):=by
  split<;>omega
 rw[hmin]
 refine ae.pe ?_
 refine aA.mk ?_
 by_cases hm:min (dep K.n (lv ah) K.N lo) (dep K.n (lv ah) K.N hi)≤ah.getD n 0
 ·rw[decide_eq_true hm]
  exact JE.mk (y8 _ _ fun gs=>Br.yes (cr.mk (.refl _) (by rw[hE,if_pos ⟨hne,hm⟩])))
 ·rw[decide_eq_false hm]
  exact JE.mk (y8 _ _ fun gs=>Br.no (cr.mk (.refl _) (by rw[hE,if_neg (fun h=>hm h.2)])))
theorem Kt(h:cc kp K ord ah tr C){v lo hi:Nat}(hv:v<K.n):
  Rd Tryz.prog 226 #[ptr kp,.int .i64 (v:Int),u32 lo,u32 hi] C (· =if lo=hi then .tuple #[u32 lo,.bool true]else .tuple #[u32 ((K.T ⟨v,lo,hi⟩).getD 0),.bool (K.T ⟨v,lo,hi⟩).isSome]):=by
 obtain⟨b,rfl,hO⟩:=h
 intro g
 refine AJ (R:=az _) ?_
 unfold L226
 refine ae.fO (Br.dec (fun he=>cr.mk (.refl _) (by rw[if_pos he])) (fun he=>?_))
 refine Nil.ptr (aa.mk ?_)
 refine aa.mk (Ld.mk (v:=ptr b.pt) (by exact .head _) rfl ?_)
 refine Build.mk (cs:=aV ⟨v,lo,hi⟩) (by kernel_rfl) ?_
 refine ag.rd (.cons (.app .left)) (pY (d:=⟨v,lo,hi⟩) hO.ut hv) ?_
 rintro x rfl
 exact Ext.mk rfl (Ext.mk rfl (cr.mk (.refl _) (by rw[if_neg he];rfl)))
theorem qF(h:cc kp K ord ah tr C){r:Nat}(hr:r<4294967296)(hb:∀s,K.hold s<2147483648):Rd Tryz.prog 95 #[ptr kp,u32 r] C (· =.int .i64 ((K.hold r:Nat):Int)):=by
 obtain⟨b,rfl,hO⟩:=h
 intro g
 refine EU (R:=az _) ?_
 unfold L95
 refine ae.bK ?_
 refine cw.or (decide (K.ho.length≤r)) (fun _=>?_) (by simp) fun _=>?_
 ·refine aW.nat (by simp[aB];omega) (Nil.ptr (aa.mk ?_))
  refine aa.mk (Ld.mk (v:=b.vh) (by exact .head _) rfl ?_)
  refine hO.ho.bS ?_
  rw[aq]
  exact ae.pe ⟨rfl,rfl⟩
 ·rw[Bool.false_or]
  refine Br.dec (fun hge=>?_) (fun hlt=>?_)
  ·refine cr.mk (.refl _) ?_
   unfold Kd.hold;rw[List.getD,List.getElem?_eq_none hge];rfl
  ·refine Nil.ptr (aa.mk ?_)
   refine aa.mk (Ld.mk (v:=b.vh) (by exact .head _) rfl ?_)
   refine hO.ho.ld (x:=((K.hold r:Nat):Int)) (bc (by omega)) (bP.sub (.cons (.app (.app (.app .left))))) ?_
   refine aW.nat (by have:=hb r;simp[aB];omega) ?_
   exact cr.mk (.refl _) rfl
theorem pU(h:cc kp K ord ah tr C)(h2:2≤K.used)(hu:K.used≤1048576):Rd Tryz.prog 15 #[ptr kp] C (· =.int .i64 ((K.used-2:Nat):Int)):=by
 obtain⟨b,rfl,hO⟩:=h
 intro g
 refine Fq (R:=az _) ?_
 unfold L15
 refine ae.bK (Br.no (Nil.ptr (aa.mk ?_)))
 refine aa.mk (Ld.mk (v:=ptr b.pa) (by exact .head _) rfl ?_)
 refine ag.rd (.cons .left) (xF hO.ar) ?_
 rintro v rfl
 refine ae.bJ (b:=2) (by simp[aB];omega) h2 ?_
 exact cr.mk (.refl _) rfl
theorem Ef(h:cc kp K ord ah tr C):Rd Tryz.prog 34 #[ptr kp] C (· =.int .i64 ((tr.length:Nat):Int)):=by
 obtain⟨b,rfl,hO⟩:=h
 intro g
 refine Fg (R:=az _) ?_
 unfold L34
 refine ae.bK (Br.no (Nil.ptr ?_))
 refine aa.mk (Ld.mk (v:=b.vt) (by exact .head _) rfl ?_)
 refine hO.tr.bS ?_
 rw[aq]
 exact cr.mk (.refl _) rfl
theorem gO(h:cc kp K ord ah tr C):Rd Tryz.prog 61 #[ptr kp] C (· =.int .i64 ((K.n:Nat):Int)):=by
 obtain⟨b,rfl,hO⟩:=h
 intro g
 refine E4 (R:=az _) ?_
 unfold L61
 refine ae.bK (Br.no (Nil.ptr ?_))
 refine aa.mk (Ld.mk (v:=.int .i64 (K.n:Int)) (by exact .head _) rfl ?_)
 exact cr.mk (.refl _) rfl
theorem gR(h:cc kp K ord ah tr C){r:Nat}(hr:r<4294967296):Rd Tryz.prog 97 #[ptr kp,u32 r] C (· =.tuple #[.agg (got K.N r).toArray,.int .i64 (if eS K.N r then 0 else 3)]):=by
 have h0:=h
 obtain⟨b,rfl,hO⟩:=h
 intro g
 refine ET (R:=az _) ?_
 unfold L97
 intro b1 _
 refine ae.bK (Br.no (Nil.ptr (aa.mk ?_)))
 refine ag.rd (.cons .here) (kM h0 hr) ?_
 rintro v rfl
 refine Un.not ?_
 cases hb:eS K.N r with
 |false=>
  refine Br.yes ?_
  refine Build.mk (cs:=[.int .i64 0,.int .u32 0,.int .u32 0]) (by kernel_rfl) ?_
  refine St.whole (r:=[.int .i64 0,.int .u32 0,.int .u32 0]) (by exact .head _) rfl rfl (by simp[Value.oneCell']) ?_
  refine aC.whole (r:=[.int .i64 0,.int .u32 0,.int .u32 0]) (by exact .head _) rfl ?_
  exact cr.mk .tail (by rw[xd hb];rfl)
 |true=>
  refine Br.no (Nil.ptr (aa.mk ?_))
  refine ag.rd (.cons .here) (kL h0 hr) ?_
  rintro v rfl
  refine St.whole (r:=got K.N r) (by exact .head _) rfl (aJ _ _).1 (aJ _ _).2 ?_
  refine aC.whole (r:=got K.N r) (by exact .head _) (aJ _ _).1 ?_
  exact cr.mk .tail rfl
end
theorem xA{B:Hp}{v:Value}{l:List Int}(h:c6 .i64 B v l)(hl:l.length≤1099511627776):Fc Tryz.prog 57 #[v] B (fun r H=>∃C,H=C++B∧aN 3 .i64 r l C):=by
 intro g
 refine E8 (R:=az _) ?_
 unfold L57
 obtain⟨a,c,rfl,hc⟩:=h.shape
 refine⟨.bool a.isNone,by simp[fE],?_⟩
 refine Br.mk (fun ha=>?_) (fun ha=>?_)
 ·have:l=[]:=by
   rcases h.2 with⟨_,_,h1,h2⟩|⟨b,o,cap,cs,T,fz,h1,_⟩
   ·simpa using h2
   ·simp at h1;rw[h1.1]at ha;simp at ha
  subst this
  exact az.here ⟨[],rfl,aN.nil⟩
 ·refine au.none (z:=.int .i64 0) (e:=3) (k:=1) (by kernel_rfl) (by kernel_rfl) (by kernel_rfl) fun b=>?_
  refine(aN.made (T:=3) (kd:=.i64) (b:=b) []).xI (l2:=l) .left ((show c6 .i64 B _ l from h).mono fun _ h=>.tail _ h) (by simp;omega) (by simp;omega) fun v' C' ho=>?_
  exact az.here ⟨C',rfl,by simpa using ho⟩
theorem oA{kp:Nat}{K:Kd}{ord ah tr:List Nat}{C:Hp}(h:cc kp K ord ah tr C):Fc Tryz.prog 13 #[ptr kp] C (fun r H=>∃N,H=N++C∧aN 3 .i64 r (iw ord) N):=by
 obtain⟨b,rfl,hO⟩:=h
 intro g
 refine Fu (R:=az _) ?_
 unfold L13
 refine ae.bK (Br.no (Nil.ptr ?_))
 refine aa.mk (Ld.mk (v:=b.vo) (by exact .head _) rfl ?_)
 refine ag.fn .here (xA (hO.od.ints.mono (bP.sub (.cons (.app (.app (.app (.app .left))))))) (by have:=hO.ol.1;have:=hO.ta;simp;omega)) ?_
 rintro v C' ⟨N,rfl,ho⟩
 exact az.here ⟨N,rfl,ho⟩
end Go.Proofs
set_option maxRecDepth 100000
namespace Go.Proofs
open Go Go.Sx
def tS(x r:Nat):Prop:=x<2^r∧(r=0∨2^(r-1)≤x)
theorem tS.up{x s t:Nat}(h:tS (x>>>s) t)(h0:s=0∨x>>>s≠0):tS x (s+t):=by
 rw[Nat.shiftRight_eq_div_pow]at h h0
 have hp:=Nat.two_pow_pos s
 refine⟨?_,?_⟩
 ·have:=h.1
  rw[Nat.div_lt_iff_lt_mul hp]at this
  rw[Nat.pow_add,Nat.mul_comm];exact this
 ·rcases h.2 with h2|h2
  ·subst h2
   have:=h.1
   rcases h0 with h0|h0
   ·exact .inl (by omega)
   ·rw[Nat.pow_zero]at this;exact absurd (Nat.lt_one_iff.1 this) h0
  ·by_cases ht:t=0
   ·subst ht
    rcases h0 with h0|h0
    ·exact .inl (by omega)
    ·have:=h.1;rw[Nat.pow_zero]at this;exact absurd (Nat.lt_one_iff.1 this) h0
   ·right
    have:=(Nat.le_div_iff_mul_le hp).1 h2
    rw[show s+t-1=(t-1)+s by omega,Nat.pow_add];exact this
theorem KL:∀y:Fin 256,∃b:UInt8,(ByteArray.mk #[0,1,2,2,3,3,3,3,4,4,4,4,4,4,4,4,5,5,5,5,5,5,5,5,5,5,5,5,5,5,5,5,6,6,6,6,6,6,6,6,6,6,6,6,6,6,6,6,6,6,6,6,6,6,6,6,6,6,6,6,6,6,6,6,7,7,7,7,7,7,7,7,7,7,7,7,7,7,7,7,7,7,7,7,7,7,7,7,7,7,7,7,7,7,7,7,7,7,7,7,7,7,7,7,7,7,7,7,7,7,7,7,7,7,7,7,7,7,7,7,7,7,7,7,7,7,7,7,8,8,8,8,8,8,8,8,8,8,8,8,8,8,8,8,8,8,8,8,8,8,8,8,8,8,8,8,8,8,8,8,8,8,8,8,8,8,8,8,8,8,8,8,8,8,8,8,8,8,8,8,8,8,8,8,8,8,8,8,8,8,8,8,8,8,8,8,8,8,8,8,8,8,8,8,8,8,8,8,8,8,8,8,8,8,8,8,8,8,8,8,8,8,8,8,8,8,8,8,8,8,8,8,8,8,8,8,8,8,8,8,8,8,8,8,8,8,8,8,8,8,8,8,8,8,8,8])[y.1]? =some b∧(y.1<2^b.toNat∧(b.toNat=0∨2^(b.toNat-1)≤y.1)):=by
 have h:∀y:Fin 256,(match(ByteArray.mk #[0,1,2,2,3,3,3,3,4,4,4,4,4,4,4,4,5,5,5,5,5,5,5,5,5,5,5,5,5,5,5,5,6,6,6,6,6,6,6,6,6,6,6,6,6,6,6,6,6,6,6,6,6,6,6,6,6,6,6,6,6,6,6,6,7,7,7,7,7,7,7,7,7,7,7,7,7,7,7,7,7,7,7,7,7,7,7,7,7,7,7,7,7,7,7,7,7,7,7,7,7,7,7,7,7,7,7,7,7,7,7,7,7,7,7,7,7,7,7,7,7,7,7,7,7,7,7,7,8,8,8,8,8,8,8,8,8,8,8,8,8,8,8,8,8,8,8,8,8,8,8,8,8,8,8,8,8,8,8,8,8,8,8,8,8,8,8,8,8,8,8,8,8,8,8,8,8,8,8,8,8,8,8,8,8,8,8,8,8,8,8,8,8,8,8,8,8,8,8,8,8,8,8,8,8,8,8,8,8,8,8,8,8,8,8,8,8,8,8,8,8,8,8,8,8,8,8,8,8,8,8,8,8,8,8,8,8,8,8,8,8,8,8,8,8,8,8,8,8,8,8,8,8,8,8,8])[y.1]? with|some b=>decide (y.1<2^b.toNat∧(b.toNat=0∨2^(b.toNat-1)≤y.1))|none=>false)=true:=by decide+kernel
 intro y
 have:=h y
 split at this
 ·rename_i b hb
  exact⟨b,hb,by simpa using this⟩
 ·cases this
theorem G5{x:Nat}(hx:x<18446744073709551616)(B:Hp):Rd Tryz.prog 75 #[.int .u64 (x:Int)] B (fun v=>∃r:Nat,tS x r∧v=.int .i64 (r:Int)):=by
 intro g
 refine EV (R:=az _) ?_
 unfold L75
 intro J1 Pn
 have h1:∀s,s≤32→x>>>s<4294967296→(s=0∨x>>>s≠0)→J1 [.int .u64 ((x>>>s:Nat):Int),.int .i64 (s:Int)] B:=by
  intro s hs hlt h0
  refine Pn _ _ _ fun gs=>?_
  intro J2 y8
  have h2:∀s,s≤48→x>>>s<65536→(s=0∨x>>>s≠0)→J2 [.int .u64 ((x>>>s:Nat):Int),.int .i64 (s:Int)] B:=by
   intro s hs hlt h0
   refine y8 _ _ _ fun gs=>?_
   intro J3 hJ3
   have h3:∀s,s≤56→x>>>s<256→(s=0∨x>>>s≠0)→J3 [.int .u64 ((x>>>s:Nat):Int),.int .i64 (s:Int)] B:=by
    intro s hs hlt h0
    refine hJ3 _ _ _ fun gs=>?_
    refine aW.nat (show x>>>s<256 from hlt) ?_
    obtain⟨b,hb,hl⟩:=KL ⟨x>>>s,hlt⟩
    refine⟨_,_,_,b,rfl,rfl,Int.natCast_nonneg _,by rw[Int.toNat_natCast];exact hb,?_⟩
    have JG:b.toNat<256:=b.toNat_lt
    refine aW.nat (by simp[aB];omega) ?_
    refine ae.aK (by simp[aB];omega) ?_
    exact cr.mk (.refl _) ⟨s+b.toNat,tS.up (t:=b.toNat) hl h0,rfl⟩
   refine ae.pe (b:=256) (Br.dec (fun hge=>?_) (fun hge=>JE.mk (h3 s (by omega) (by omega) h0)))
   refine ae.ot (b:=8) (by simp only[aB];omega) ?_
   refine ae.aK (b:=8) (by simp[aB];omega) ?_
   rw[←Nat.shiftRight_add]
   have e:x>>>(s+8)=x>>>s/256:=by rw[Nat.shiftRight_add,Nat.shiftRight_eq_div_pow (x>>>s) 8]
   exact JE.mk (h3 (s+8) (by omega) (by omega) (.inr (by omega)))
  refine ae.pe (b:=65536) (Br.dec (fun hge=>?_) (fun hge=>JE.mk (h2 s (by omega) (by omega) h0)))
  refine ae.ot (b:=16) (by simp only[aB];omega) ?_
  refine ae.aK (b:=16) (by simp[aB];omega) ?_
  rw[←Nat.shiftRight_add]
  have e:x>>>(s+16)=x>>>s/65536:=by rw[Nat.shiftRight_add,Nat.shiftRight_eq_div_pow (x>>>s) 16]
  exact JE.mk (h2 (s+16) (by omega) (by omega) (.inr (by omega)))
 refine ae.pe (b:=4294967296) (Br.dec (fun hge=>?_) (fun hge=>JE.mk (h1 0 (by omega) (by simp;omega) (.inl rfl))))
 refine ae.ot (b:=32) (by simp only[aB];exact hx) ?_
 have e:x>>>32=x/4294967296:=by rw[Nat.shiftRight_eq_div_pow]
 exact JE.mk (h1 32 (by omega) (by omega) (.inr (by omega)))
end Go.Proofs
namespace Go.Sx
open Go
section
variable {P:Program} {H C:Hp} {c:Hp→Hp}
theorem bP.re(h:bP C H c)(X:Hp):bP X (c X) c:=by
 induction h with
 |here=>exact .here
 |left=>exact .left
 |cons _ ih=>exact .cons ih
 |app _ ih=>exact .app ih
def Dt(T:TypeId)(kd:IntKind)(v:Value)(l0:List Int)(C:Hp):Prop:=∃l:List Int,l.Perm l0∧aN T kd v l C
theorem swap_perm{l:List Int}{i j:Nat}{x y:Int}(hi:l[i]? =some x)(hj:l[j]? =some y):((l.set i y).set j x).Perm l:=by
 have h1:=(List.getElem?_eq_some_iff.1 hi).1
 have h2:=(List.getElem?_eq_some_iff.1 hj).1
 rw[List.perm_iff_count]
 intro a
 by_cases e:i=j
 ·subst e
  rw[hi]at hj;cases hj
  rw[List.set_set]
  have:l.set i x=l:=by
   have hx:l[i]=x:=by rw[List.getElem?_eq_getElem h1]at hi;exact Option.some.inj hi
   rw[←hx];exact List.set_getElem_self h1
  rw[this]
 ·have hx:l[i]=x:=by rw[List.getElem?_eq_getElem h1]at hi;exact Option.some.inj hi
  have hy:l[j]=y:=by rw[List.getElem?_eq_getElem h2]at hj;exact Option.some.inj hj
  rw[List.count_set (by simpa using h2),List.count_set h1]
  have:(l.set i y)[j]'(by simpa using h2)=y:=by rw[List.getElem_set_ne e];exact hy
  rw[this,hx]
  have c1:l.count x≥1:=List.one_le_count_iff.2 (hx▸List.getElem_mem h1)
  have c2:l.count y≥1:=List.one_le_count_iff.2 (hy▸List.getElem_mem h2)
  by_cases e1:x=a
  ·subst e1
   by_cases e2:y=x
   ·subst e2;simp<;>omega
   ·simp[e2,Ne.symm e2]<;>omega
  ·by_cases e2:y=a
   ·subst e2;simp[e1]<;>omega
   ·simp[e1,e2]<;>omega
theorem Dt.ld{T:TypeId}{kd uO:IntKind}{v:Value}{l0:List Int}(h:Dt T kd v l0 C)(hC:∀y∈C,y∈H){i:Nat}(hi:i<l0.length){K:Value→Prop}(hk:∀x,K (.int kd x)):ai 1 v (.int uO (i:Int)) fun p=>Ld H p K:=by
 obtain⟨l,hp,ho⟩:=h
 have:i<l.length:=by rw[hp.length_eq];exact hi
 exact ho.ld (List.getElem?_eq_getElem this) hC (hk _)
theorem Dt.swap{T:TypeId}{kd k1 k2 k3 k4:IntKind}{v:Value}{l0:List Int}(h:Dt T kd v l0 C)(hh:bP C H c){i j:Nat}(hi:i<l0.length)(hj:j<l0.length){K:Hp→Prop}(hk:∀C',Dt T kd v l0 C'→K (c C')):
  ai 1 v (.int k1 (j:Int)) fun p1=>Ld H p1 fun x=>ai 1 v (.int k2 (i:Int)) fun p2=>Ld H p2 fun y=>ai 1 v (.int k3 (i:Int)) fun p3=>St 1 H p3 x fun H1=>ai 1 v (.int k4 (j:Int)) fun p4=>St 1 H1 p4 y K:=by
 obtain⟨l,hp,ho⟩:=h
 have hl:=hp.length_eq
 have hi':l[i]? =some l[i]:=List.getElem?_eq_getElem (by omega)
 have hj':l[j]? =some l[j]:=List.getElem?_eq_getElem (by omega)
 refine ho.ld hj' hh.sub ?_
 refine ho.ld hi' hh.sub ?_
 refine ho.iX hh (by omega) fun C1 h1=>?_
 refine h1.iX (hh.re C1) (by simp;omega) fun C2 h2=>?_
 exact hk C2 ⟨_,(swap_perm hi' hj').trans hp,h2⟩
theorem Dt.Rh{T:TypeId}{kd k1 k2 k3 k4:IntKind}{v:Value}{l0:List Int}(h:Dt T kd v l0 C)(hh:bP C H c){i j:Nat}(hi:i<l0.length)(hj:j<l0.length){B:(Value→Prop)→Prop}
 (hB:∀k:Value→Prop,k (.int k2 (i:Int))→B k){K:Hp→Prop}(hk:∀C',Dt T kd v l0 C'→K (c C')):
  ai 1 v (.int k1 (j:Int)) fun p1=>Ld H p1 fun x=>B fun u=>ai 1 v u fun p2=>Ld H p2 fun y=>ai 1 v (.int k3 (i:Int)) fun p3=>St 1 H p3 x fun H1=>ai 1 v (.int k4 (j:Int)) fun p4=>St 1 H1 p4 y K:=by
 obtain⟨l,hp,ho⟩:=h
 have hl:=hp.length_eq
 have hi':l[i]? =some l[i]:=List.getElem?_eq_getElem (by omega)
 have hj':l[j]? =some l[j]:=List.getElem?_eq_getElem (by omega)
 refine ho.ld hj' hh.sub (hB _ ?_)
 refine ho.ld hi' hh.sub ?_
 refine ho.iX hh (by omega) fun C1 h1=>?_
 refine h1.iX (hh.re C1) (by simp;omega) fun C2 h2=>?_
 exact hk C2 ⟨_,(swap_perm hi' hj').trans hp,h2⟩
theorem aN.dt{T:TypeId}{kd:IntKind}{v:Value}{l:List Int}(h:aN T kd v l C):Dt T kd v l C:=⟨l,.refl _,h⟩
def Wv(vs:List Value):Nat:=match vs with
 | .int _ q::_=>(q+1).toNat
 |_=>0
theorem uo{k:IntKind}{q:Int}{r:List Value}:Wv (.int k q::r)=(q+1).toNat:=rfl
end
end Go.Sx
set_option maxRecDepth 100000
namespace Go.Proofs
open Go Go.Sx
abbrev DT(v:Value)(l0:List Int)(C:Hp):Prop:=Dt 77 .u32 v l0 C
def SQ(v:Value)(l0:List Int):Value→Hp→Prop:=fun r C'=>r=.tuple #[]∧DT v l0 C'
section
variable {v:Value} {l0:List Int} {C:Hp}
theorem Oa(x:Int)(B:Hp):Rd Tryz.prog 304 #[.int .u32 x] B (· =.bool false):=by
 intro g
 refine zG (R:=az _) ?_
 unfold L304
 refine ae.c7 ?_
 exact cr.mk (.refl _) (by simp)
theorem dF(x y:Int)(B:Hp):Rd Tryz.prog 295 #[.int .u32 x,.int .u32 y] B (· =.bool (decide (x<y))):=by
 intro g
 refine zO (R:=az _) ?_
 unfold L295
 intro J1 Pn
 refine ag.rd .here (Oa x B) ?_
 rintro w rfl
 refine Split.Ru rfl ?_
 refine aA.mk ?_
 refine ae.lss ?_
 refine aA.mk ?_
 exact JE.mk (Pn _ _ fun gs=>cr.mk (.refl _) rfl)
theorem wM(h:DT v l0 C){a b:Nat}(hab:a≤b)(hb:b≤l0.length)(bX:l0.length<1152921504606846976):Fc Tryz.prog 289 #[v,.int .i64 (a:Int),.int .i64 (b:Int)] C (SQ v l0):=by
 intro g
 refine zU (R:=az _) ?_
 unfold L289
 refine ae.aK (b:=1) (by simp[aB];omega) ?_
 refine⟨fun vs H=>∃i:Nat,vs=[.int .i64 (i:Int)]∧a<i∧DT v l0 H,fun vs _=>l0.length-bR vs 0,JE.mk ⟨a+1,rfl,by omega,h⟩,?_⟩
 rintro w H ⟨i,hw,hi,hd⟩ gs
 simp only[List.cons.injEq,and_true]at hw
 subst hw
 refine ae.fq (Br.dec (fun hlt=>?_) (fun _=>az.here ⟨rfl,hd⟩))
 refine⟨fun vs H=>∃j:Nat,vs=[.int .i64 (j:Int)]∧a≤j∧j≤i∧DT v l0 H,fun vs _=>bR vs 0,JE.mk ⟨i,rfl,by omega,Nat.le_refl _,hd⟩,?_⟩
 rintro w H ⟨j,hw,MO,Sk,hd⟩ gs
 simp only[List.cons.injEq,and_true]at hw
 subst hw
 intro J hJ
 have no:J [.bool false] H:=hJ _ _ fun gs=>Br.no (ae.aK (b:=1) (by simp[aB];omega) (aF.mk ⟨i+1,rfl,by omega,hd⟩ (by simp[bR];omega)))
 have yes:a<j→J [.bool true] H:=fun MO=>hJ _ _ fun gs=>Br.yes (DR.self (ae.bJ (b:=1) (by simp[aB];omega) (by omega) (ae.bJ (b:=1) (by simp[aB];omega) (by omega)
  (hd.swap .here (by omega) (by omega) fun C' cI=>ae.bJ (b:=1) (by simp[aB];omega) (by omega) (aF.mk ⟨j-1,rfl,by omega,by omega,cI⟩ (by simp[bR];omega))))))
 refine DR.self (ae.nP (Br.dec (fun hgt=>?_) fun _=>JE.mk no))
 refine hd.ld (fun _ h=>h) (by omega) fun x=>?_
 refine ae.bJ (b:=1) (by simp[aB];omega) (by omega) ?_
 refine hd.ld (fun _ h=>h) (by omega) fun y=>?_
 intro F
 refine ag.rd .here (dF x y _) ?_
 rintro w rfl
 refine aA.mk ?_
 by_cases e:x<y
 ·rw[decide_eq_true e];exact JE.mk (yes hgt)
 ·rw[decide_eq_false e];exact JE.mk no
theorem NQ(h:DT v l0 C){a b:Nat}(hab:a<b)(hb:b≤l0.length)(bX:l0.length<1152921504606846976):Fc Tryz.prog 293 #[v,.int .i64 (a:Int),.int .i64 (b:Int)] C (SQ v l0):=by
 intro g
 refine zQ (R:=az _) ?_
 unfold L293
 refine ae.bJ (b:=1) (by simp[aB];omega) (by omega) ?_
 refine⟨fun vs H=>∃i j:Nat,vs=[.int .i64 (i:Int),.int .i64 (j:Int)]∧j<l0.length∧DT v l0 H,fun vs _=>bR vs 1-bR vs 0,JE.mk ⟨a,b-1,rfl,by omega,h⟩,?_⟩
 rintro w w' H ⟨i,j,hw,hj,hd⟩ gs
 simp only[List.cons.injEq,and_true]at hw
 obtain⟨rfl,rfl⟩:=hw
 refine ae.fq (Br.dec (fun hlt=>?_) (fun _=>az.here ⟨rfl,hd⟩))
 refine DR.self (hd.swap .here (by omega) (by omega) fun C' cI=>?_)
 refine ae.aK (b:=1) (by simp[aB];omega) ?_
 refine ae.bJ (b:=1) (by simp[aB];omega) (by omega) ?_
 exact aF.mk ⟨i+1,j-1,rfl,by omega,cI⟩ (by simp[bR];omega)
theorem KA(h:DT v l0 C){a b:Nat}(hab:a<b)(hb:b≤l0.length)(bX:l0.length<1152921504606846976):Fc Tryz.prog 294 #[v,.int .i64 (a:Int),.int .i64 (b:Int)] C (fun r C'=>(∃t,r=.bool t)∧DT v l0 C'):=by
 intro g
 refine zP (R:=az _) ?_
 unfold L294
 refine ae.aK (b:=1) (by simp[aB];omega) ?_
 refine⟨fun vs H=>∃i k:Nat,vs=[.int .i64 (i:Int),.int .i64 (k:Int)]∧a<i∧i≤b∧DT v l0 H,fun vs _=>5-bR vs 1,JE.mk ⟨a+1,0,rfl,by omega,by omega,h⟩,?_⟩
 rintro w w' H ⟨i,k,hw,JH,qM,hd⟩ gs
 simp only[List.cons.injEq,and_true]at hw
 obtain⟨rfl,rfl⟩:=hw
 refine ae.fq (b:=5) (Br.dec (fun hk=>?_) (fun _=>az.here ⟨⟨_,rfl⟩,hd⟩))
 intro J9 Ie
 have next:∀(i':Nat) H',a<i'→i'≤b→DT v l0 H'→J9 [.int .i64 (i':Int)] H':=fun i' H' h1 h2 cI=>Ie _ _ fun gs=>ae.aK (b:=1) (by simp[aB];omega) (aF.mk ⟨i',k+1,rfl,h1,h2,cI⟩ (by simp[bR];omega))
 refine⟨fun vs H=>∃i:Nat,vs=[.int .i64 (i:Int)]∧a<i∧i≤b∧DT v l0 H,fun vs _=>b-bR vs 0,JE.mk ⟨i,rfl,JH,qM,hd⟩,?_⟩
 clear hd JH qM
 rintro w H ⟨i,hw,JH,qM,hd⟩ gs
 simp only[List.cons.injEq,and_true]at hw
 subst hw
 intro QX Th
 have yes:i<b→QX [.bool true] H:=fun hlt=>Th _ _ fun gs=>Br.yes (ae.aK (b:=1) (by simp[aB];omega) (aF.mk ⟨i+1,rfl,by omega,by omega,hd⟩ (by simp[bR];omega)))
 have no:QX [.bool false] H:=by
  refine Th _ _ fun gs=>Br.no ?_
  refine ae.fO (Br.dec (fun he=>az.here ⟨⟨_,rfl⟩,hd⟩) (fun hne=>?_))
  refine ae.bJ (by simp[aB];omega) (by omega) ?_
  refine ae.fq (b:=50) (Br.dec (fun he=>az.here ⟨⟨_,rfl⟩,hd⟩) (fun _=>?_))
  refine DR.self ?_
  refine ae.bJ (b:=1) (by simp[aB];omega) (by omega) ?_
  refine ae.bJ (b:=1) (by simp[aB];omega) (by omega) ?_
  refine hd.swap .here (by omega) (by omega) fun C1 JF=>?_
  intro vK Yd
  have tail:∀H',DT v l0 H'→vK [] H':=fun H' cI=>by
   refine Yd _ fun gs=>?_
   refine ae.bJ (by simp[aB];omega) (by omega) ?_
   refine ae.pe (b:=2) (Br.dec (fun h2=>?_) (fun _=>JE.mk (next i _ JH qM cI)))
   refine ae.aK (b:=1) (by simp[aB];omega) ?_
   refine⟨fun vs H=>∃j:Nat,vs=[.int .i64 (j:Int)]∧0<j∧DT v l0 H,fun vs _=>b-bR vs 0,JE.mk ⟨i+1,rfl,by omega,cI⟩,?_⟩
   rintro w H ⟨j,hw,hj0,CK⟩ gs
   simp only[List.cons.injEq,and_true]at hw
   subst hw
   refine ae.fq (Br.dec (fun hlt=>?_) (fun _=>JE.mk (next i _ JH qM CK)))
   refine DR.self ?_
   refine CK.ld (fun _ h=>h) (by omega) fun x=>?_
   refine ae.bJ (b:=1) (by simp[aB];omega) (by omega) ?_
   refine CK.ld (fun _ h=>h) (by omega) fun y=>?_
   refine ag.rd .here (dF x y _) ?_
   rintro w rfl
   refine Un.not ?_
   refine Br.mk (fun _=>JE.mk (next i _ JH qM CK)) (fun _=>?_)
   refine DR.self ?_
   refine ae.bJ (b:=1) (by simp[aB];omega) (by omega) ?_
   refine ae.bJ (b:=1) (by simp[aB];omega) (by omega) ?_
   refine CK.swap .here (by omega) (by omega) fun C2 uV=>?_
   refine ae.aK (b:=1) (by simp[aB];omega) ?_
   exact aF.mk ⟨j+1,rfl,by omega,uV⟩ (by simp[bR];omega)
  refine ae.bJ (by simp[aB];omega) (by omega) ?_
  refine ae.pe (b:=2) (Br.dec (fun h2=>?_) (fun _=>JE.mk (tail _ JF)))
  refine ae.bJ (b:=1) (by simp[aB];omega) (by omega) ?_
  refine⟨fun vs H=>∃j:Nat,vs=[.int .i64 (j:Int)]∧j<l0.length∧DT v l0 H,fun vs _=>bR vs 0,JE.mk ⟨i-1,rfl,by omega,JF⟩,?_⟩
  rintro w H ⟨j,hw,hj0,CK⟩ gs
  simp only[List.cons.injEq,and_true]at hw
  subst hw
  refine ae.pe (b:=1) (Br.dec (fun hlt=>?_) (fun _=>JE.mk (tail _ CK)))
  refine DR.self ?_
  refine CK.ld (fun _ h=>h) (by omega) fun x=>?_
  refine ae.bJ (b:=1) (by simp[aB];omega) (by omega) ?_
  refine CK.ld (fun _ h=>h) (by omega) fun y=>?_
  refine ag.rd .here (dF x y _) ?_
  rintro w rfl
  refine Un.not ?_
  refine Br.mk (fun _=>JE.mk (tail _ CK)) (fun _=>?_)
  refine DR.self ?_
  refine ae.bJ (b:=1) (by simp[aB];omega) (by omega) ?_
  refine ae.bJ (b:=1) (by simp[aB];omega) (by omega) ?_
  refine CK.swap .here (by omega) (by omega) fun C2 uV=>?_
  refine ae.bJ (b:=1) (by simp[aB];omega) (by omega) ?_
  exact aF.mk ⟨j-1,rfl,by omega,uV⟩ (by simp[bR];omega)
 refine DR.self (ae.fq (Br.dec (fun hlt=>?_) fun _=>JE.mk no))
 refine hd.ld (fun _ h=>h) (by omega) fun x=>?_
 refine ae.bJ (b:=1) (by simp[aB];omega) (by omega) ?_
 refine hd.ld (fun _ h=>h) (by omega) fun y=>?_
 intro F
 refine ag.rd .here (dF x y _) ?_
 rintro w rfl
 refine Un.not ?_
 refine aA.mk ?_
 by_cases e:x<y
 ·rw[decide_eq_true e];exact JE.mk no
 ·rw[decide_eq_false e];exact JE.mk (yes hlt)
theorem D2(h:DT v l0 C){a b p:Nat}(hp:a≤p∧p<b)(hb:b≤l0.length)(bX:l0.length<1152921504606846976):Fc Tryz.prog 296 #[v,.int .i64 (a:Int),.int .i64 (b:Int),.int .i64 (p:Int)] C
  (fun r C'=>(∃m:Nat,r=.int .i64 (m:Int)∧a<m∧m≤b)∧DT v l0 C'):=by
 intro g
 refine zN (R:=az _) ?_
 unfold L296
 refine DR.self (h.swap .here (by omega) (by omega) fun C1 hd=>?_)
 refine ae.aK (b:=1) (by simp[aB];omega) ?_
 refine ae.bJ (b:=1) (by simp[aB];omega) (by omega) ?_
 refine⟨fun vs H=>∃i j:Nat,vs=[.int .i64 (i:Int),.int .i64 (j:Int)]∧a<i∧i≤b∧a≤j∧j<b∧DT v l0 H,fun vs _=>b-bR vs 0,JE.mk ⟨a+1,b-1,rfl,by omega,by omega,by omega,by omega,hd⟩,?_⟩
 clear hd
 rintro w w' H0 ⟨i0,j0,hw,JH,qM,MO,Qw,hd⟩ gs
 simp only[List.cons.injEq,and_true]at hw
 obtain⟨rfl,rfl⟩:=hw
 refine⟨fun vs H=>∃i:Nat,vs=[.int .i64 (i:Int)]∧i0≤i∧i≤b∧DT v l0 H,fun vs _=>b-bR vs 0,JE.mk ⟨i0,rfl,Nat.le_refl _,qM,hd⟩,?_⟩
 clear hd qM
 rintro w H ⟨i,hw,O0,qM,hd⟩ gs
 simp only[List.cons.injEq,and_true]at hw
 subst hw
 intro QW Tg
 have yes:i≤j0→QW [.bool true] H:=fun hle=>Tg _ _ fun gs=>Br.yes (ae.aK (b:=1) (by simp[aB];omega) (aF.mk ⟨i+1,rfl,by omega,by omega,hd⟩ (by simp[bR];omega)))
 have no:QW [.bool false] H:=by
  refine Tg _ _ fun gs=>Br.no ?_
  refine⟨fun vs H=>∃j:Nat,vs=[.int .i64 (j:Int)]∧a≤j∧j<b∧DT v l0 H,fun vs _=>bR vs 0,JE.mk ⟨j0,rfl,MO,Qw,hd⟩,?_⟩
  rintro w H' ⟨j,hw,SO,Sn,cI⟩ gs
  simp only[List.cons.injEq,and_true]at hw
  subst hw
  intro FU Ln
  have DD:i≤j→FU [.bool true] H':=fun hle=>Ln _ _ fun gs=>Br.yes (ae.bJ (b:=1) (by simp[aB];omega) (by omega) (aF.mk ⟨j-1,rfl,by omega,by omega,cI⟩ (by simp[bR];omega)))
  have Mi:FU [.bool false] H':=by
   refine Ln _ _ fun gs=>Br.no ?_
   refine ae.nP (Br.dec (fun _=>az.here ⟨⟨i,rfl,by omega,qM⟩,cI⟩) (fun hle=>?_))
   refine DR.self (cI.swap .here (by omega) (by omega) fun C2 uV=>?_)
   refine ae.aK (b:=1) (by simp[aB];omega) ?_
   refine ae.bJ (b:=1) (by simp[aB];omega) (by omega) ?_
   exact aF.mk ⟨i+1,j-1,rfl,by omega,by omega,by omega,by omega,uV⟩ (by simp[bR];omega)
  refine DR.self (ae.wD (Br.dec (fun hle=>?_) fun _=>JE.mk Mi))
  refine cI.ld (fun _ h=>h) (by omega) fun x=>?_
  refine cI.ld (fun _ h=>h) (by omega) fun y=>?_
  intro F
  refine ag.rd .here (dF x y _) ?_
  rintro w rfl
  refine aA.mk ?_
  by_cases e:x<y
  ·rw[decide_eq_true e];exact JE.mk (DD hle)
  ·rw[decide_eq_false e];exact JE.mk Mi
 refine DR.self (ae.wD (Br.dec (fun hle=>?_) fun _=>JE.mk no))
 refine hd.ld (fun _ h=>h) (by omega) fun x=>?_
 refine hd.ld (fun _ h=>h) (by omega) fun y=>?_
 intro F
 refine ag.rd .here (dF x y _) ?_
 rintro w rfl
 refine Un.not ?_
 refine aA.mk ?_
 by_cases e:x<y
 ·rw[decide_eq_true e];exact JE.mk no
 ·rw[decide_eq_false e];exact JE.mk (yes hle)
end
end Go.Proofs
set_option maxRecDepth 100000
namespace Go.Proofs
open Go Go.Sx
section
variable {v:Value} {l0:List Int} {C:Hp}
def PQ(v:Value)(l0:List Int)(a b:Nat):Value→Hp→Prop:=fun r C'=>(∃(m:Nat) (t:Bool),r=.tuple #[.int .i64 (m:Int),.bool t]∧a≤m∧m<b)∧DT v l0 C'
theorem KD(h:DT v l0 C){a b p:Nat}(hp:a≤p∧p<b)(hb:b≤l0.length)(bX:l0.length<1152921504606846976):Fc Tryz.prog 297 #[v,.int .i64 (a:Int),.int .i64 (b:Int),.int .i64 (p:Int)] C (PQ v l0 a b):=by
 intro g
 refine zM (R:=az _) ?_
 unfold L297
 refine DR.self (h.swap .here (by omega) (by omega) fun C1 hd=>?_)
 refine ae.aK (b:=1) (by simp[aB];omega) ?_
 refine ae.bJ (b:=1) (by simp[aB];omega) (by omega) ?_
 refine⟨fun vs H=>∃i:Nat,vs=[.int .i64 (i:Int)]∧a<i∧i≤b∧DT v l0 H,fun vs _=>b-bR vs 0,JE.mk ⟨a+1,rfl,by omega,by omega,hd⟩,?_⟩
 clear hd
 rintro w H ⟨i,hw,JH,qM,hd⟩ gs
 simp only[List.cons.injEq,and_true]at hw
 subst hw
 intro vx y9
 have yes:i<b→vx [.bool true] H:=fun hle=>y9 _ _ fun gs=>Br.yes (ae.aK (b:=1) (by simp[aB];omega) (aF.mk ⟨i+1,rfl,by omega,by omega,hd⟩ (by simp[bR];omega)))
 have no:vx [.bool false] H:=by
  refine y9 _ _ fun gs=>Br.no ?_
  refine⟨fun vs H=>∃j:Nat,vs=[.int .i64 (j:Int)]∧a≤j∧j<b∧DT v l0 H,fun vs _=>bR vs 0,JE.mk ⟨b-1,rfl,by omega,by omega,hd⟩,?_⟩
  clear hd
  rintro w H ⟨j,hw,MO,Qw,hd⟩ gs
  simp only[List.cons.injEq,and_true]at hw
  subst hw
  intro yb Pm
  have DD:i≤j→yb [.bool true] H:=fun hle=>Pm _ _ fun gs=>Br.yes (ae.bJ (b:=1) (by simp[aB];omega) (by omega) (aF.mk ⟨j-1,rfl,by omega,by omega,hd⟩ (by simp[bR];omega)))
  have Mi:yb [.bool false] H:=by
   refine Pm _ _ fun gs=>Br.no ?_
   refine ae.nP (Br.dec (fun _=>?_) (fun hle=>?_))
   ·refine DR.self (hd.swap .here (by omega) (by omega) fun C2 uV=>?_)
    exact az.here ⟨⟨j,true,rfl,MO,Qw⟩,uV⟩
   ·refine DR.self (hd.swap .here (by omega) (by omega) fun C2 uV=>?_)
    refine ae.aK (b:=1) (by simp[aB];omega) ?_
    refine ae.bJ (b:=1) (by simp[aB];omega) (by omega) ?_
    refine⟨fun vs H=>∃i j:Nat,vs=[.int .i64 (i:Int),.int .i64 (j:Int)]∧a<i∧i≤b∧a≤j∧j<b∧DT v l0 H,fun vs _=>b-bR vs 0,JE.mk ⟨i+1,j-1,rfl,by omega,by omega,by omega,by omega,uV⟩,?_⟩
    clear uV hd JH qM MO Qw hle DD Pm yb y9 vx yes
    rintro w w' H0 ⟨i0,j0,hw,JH,qM,MO,Qw,hd⟩ gs
    simp only[List.cons.injEq,and_true]at hw
    obtain⟨rfl,rfl⟩:=hw
    refine⟨fun vs H=>∃i:Nat,vs=[.int .i64 (i:Int)]∧i0≤i∧i≤b∧DT v l0 H,fun vs _=>b-bR vs 0,JE.mk ⟨i0,rfl,Nat.le_refl _,qM,hd⟩,?_⟩
    clear hd qM
    rintro w H ⟨i,hw,O0,qM,hd⟩ gs
    simp only[List.cons.injEq,and_true]at hw
    subst hw
    intro QV Te
    have yes:i≤j0→QV [.bool true] H:=fun hle=>Te _ _ fun gs=>Br.yes (ae.aK (b:=1) (by simp[aB];omega) (aF.mk ⟨i+1,rfl,by omega,by omega,hd⟩ (by simp[bR];omega)))
    have no:QV [.bool false] H:=by
     refine Te _ _ fun gs=>Br.no ?_
     refine⟨fun vs H=>∃j:Nat,vs=[.int .i64 (j:Int)]∧a≤j∧j<b∧DT v l0 H,fun vs _=>bR vs 0,JE.mk ⟨j0,rfl,MO,Qw,hd⟩,?_⟩
     rintro w H' ⟨j,hw,SO,Sn,cI⟩ gs
     simp only[List.cons.injEq,and_true]at hw
     subst hw
     intro Dx Td
     have DD:i≤j→Dx [.bool true] H':=fun hle=>Td _ _ fun gs=>Br.yes (ae.bJ (b:=1) (by simp[aB];omega) (by omega) (aF.mk ⟨j-1,rfl,by omega,by omega,cI⟩ (by simp[bR];omega)))
     have Mi:Dx [.bool false] H':=by
      refine Td _ _ fun gs=>Br.no ?_
      refine ae.nP (Br.dec (fun _=>?_) (fun hle=>?_))
      ·refine DR.self (cI.swap .here (by omega) (by omega) fun C2 uV=>?_)
       exact az.here ⟨⟨j,false,rfl,SO,Sn⟩,uV⟩
      ·refine DR.self (cI.swap .here (by omega) (by omega) fun C2 uV=>?_)
       refine ae.aK (b:=1) (by simp[aB];omega) ?_
       refine ae.bJ (b:=1) (by simp[aB];omega) (by omega) ?_
       exact aF.mk ⟨i+1,j-1,rfl,by omega,by omega,by omega,by omega,uV⟩ (by simp[bR];omega)
     refine DR.self (ae.wD (Br.dec (fun hle=>?_) fun _=>JE.mk Mi))
     refine cI.ld (fun _ h=>h) (by omega) fun x=>?_
     refine cI.ld (fun _ h=>h) (by omega) fun y=>?_
     intro F
     refine ag.rd .here (dF x y _) ?_
     rintro w rfl
     refine Un.not ?_
     refine aA.mk ?_
     by_cases e:x<y
     ·rw[decide_eq_true e];exact JE.mk Mi
     ·rw[decide_eq_false e];exact JE.mk (DD hle)
    refine DR.self (ae.wD (Br.dec (fun hle=>?_) fun _=>JE.mk no))
    refine hd.ld (fun _ h=>h) (by omega) fun x=>?_
    refine hd.ld (fun _ h=>h) (by omega) fun y=>?_
    intro F
    refine ag.rd .here (dF x y _) ?_
    rintro w rfl
    refine aA.mk ?_
    by_cases e:x<y
    ·rw[decide_eq_true e];exact JE.mk (yes hle)
    ·rw[decide_eq_false e];exact JE.mk no
  refine DR.self (ae.wD (Br.dec (fun hle=>?_) fun _=>JE.mk Mi))
  refine hd.ld (fun _ h=>h) (by omega) fun x=>?_
  refine hd.ld (fun _ h=>h) (by omega) fun y=>?_
  intro F
  refine ag.rd .here (dF x y _) ?_
  rintro w rfl
  refine Un.not ?_
  refine aA.mk ?_
  by_cases e:x<y
  ·rw[decide_eq_true e];exact JE.mk Mi
  ·rw[decide_eq_false e];exact JE.mk (DD hle)
 refine DR.self (ae.wD (Br.dec (fun hle=>?_) fun _=>JE.mk no))
 refine hd.ld (fun _ h=>h) (by omega) fun x=>?_
 refine hd.ld (fun _ h=>h) (by omega) fun y=>?_
 intro F
 refine ag.rd .here (dF x y _) ?_
 rintro w rfl
 refine aA.mk ?_
 by_cases e:x<y
 ·rw[decide_eq_true e];exact JE.mk (yes (by omega))
 ·rw[decide_eq_false e];exact JE.mk no
theorem Ca(h:DT v l0 C){lo hi f:Nat}(hlo:lo≤l0.length)(hb:f+hi≤l0.length)(bX:l0.length<1152921504606846976):Fc Tryz.prog 299 #[v,.int .i64 (lo:Int),.int .i64 (hi:Int),.int .i64 (f:Int)] C (SQ v l0):=by
 intro g
 refine zL (R:=az _) ?_
 unfold L299
 refine⟨fun vs H=>∃i:Nat,vs=[.int .i64 (i:Int)]∧i≤l0.length∧DT v l0 H,fun vs _=>l0.length-bR vs 0,JE.mk ⟨lo,rfl,hlo,h⟩,?_⟩
 rintro w H ⟨r,hw,hr,hd⟩ gs
 simp only[List.cons.injEq,and_true]at hw
 subst hw
 refine ae.uH (a:=2) (by simp[aB];omega) ?_
 refine ae.aK (b:=1) (by simp[aB];omega) ?_
 refine ae.pe (Br.dec (fun _=>az.here ⟨rfl,hd⟩) (fun hlt=>?_))
 intro J9 Ie
 have go:∀c:Nat,r<c→c<hi→J9 [.int .i64 (c:Int)] H:=fun c hrc adM=>by
  refine Ie _ _ fun gs=>?_
  refine DR.self ?_
  refine ae.aK (by simp[aB];omega) ?_
  refine hd.ld (fun _ h=>h) (by omega) fun x=>?_
  refine ae.aK (by simp[aB];omega) ?_
  refine hd.ld (fun _ h=>h) (by omega) fun y=>?_
  refine ag.rd .here (dF x y _) ?_
  rintro w rfl
  refine Un.not ?_
  refine Br.mk (fun _=>az.here ⟨rfl,hd⟩) (fun _=>?_)
  refine DR.self ?_
  refine ae.aK (by simp[aB];omega) ?_
  refine ae.aK (by simp[aB];omega) ?_
  refine ae.aK (by simp[aB];omega) ?_
  refine hd.Rh .here (i:=f+r) (j:=f+c) (B:=fun k=>ae .num .add (.int .i64 (f:Int)) (.int .i64 (r:Int)) k) (by omega) (by omega) (fun k hk=>ae.aK (by simp[aB];omega) hk) fun C1 JF=>?_
  exact aF.mk ⟨c,rfl,by omega,JF⟩ (by simp[bR];omega)
 intro Ub Tf
 have stay:Ub [.bool false] H:=Tf _ _ fun gs=>Br.no (JE.mk (go _ (by omega) (by omega)))
 refine DR.self ?_
 refine ae.aK (b:=1) (by simp[aB];omega) ?_
 refine ae.fq (Br.dec (fun hc=>?_) fun _=>JE.mk stay)
 refine ae.aK (by simp[aB];omega) ?_
 refine hd.ld (fun _ h=>h) (by omega) fun x=>?_
 refine ae.aK (by simp[aB];omega) ?_
 refine ae.aK (b:=1) (by simp[aB];omega) ?_
 refine hd.ld (fun _ h=>h) (by omega) fun y=>?_
 intro F
 refine ag.rd .here (dF x y _) ?_
 rintro w rfl
 refine aA.mk ?_
 by_cases e:x<y
 ·rw[decide_eq_true e]
  exact JE.mk (Tf _ _ fun gs=>Br.yes (ae.aK (b:=1) (by simp[aB];omega) (JE.mk (go _ (by omega) hc))))
 ·rw[decide_eq_false e];exact JE.mk stay
theorem Hx(h:DT v l0 C){a b:Nat}(hab:a<b)(hb:b≤l0.length)(bX:l0.length<1152921504606846976):Fc Tryz.prog 290 #[v,.int .i64 (a:Int),.int .i64 (b:Int)] C (SQ v l0):=by
 intro g
 refine zT (R:=az _) ?_
 unfold L290
 refine ae.bJ (by simp[aB];omega) (by omega) ?_
 refine ae.bJ (b:=1) (by simp[aB];omega) (by omega) ?_
 refine ae.zf (b:=2) (by simp[aB];omega) (by omega) ?_
 refine⟨fun vs H=>∃q:Int,vs=[.int .i64 q]∧ -1≤q∧q<(b:Int) -a∧DT v l0 H,fun vs _=>Wv vs,JE.mk ⟨(((b-a-1) /2:Nat):Int),rfl,by omega,by omega,h⟩,?_⟩
 rintro w H ⟨q,hw,Xj,Xi,hd⟩ gs
 simp only[List.cons.injEq,and_true]at hw
 subst hw
 refine ae.geq (Br.dec (fun h0=>?_) (fun _=>?_))
 ·obtain⟨i,rfl⟩:∃i:Nat,q=i:=⟨q.toNat,by omega⟩
  refine ag.fn .here (Ca hd (by omega) (by omega) bX) ?_
  rintro w C1 ⟨rfl,JF⟩
  refine ae.B8 (c:=(i:Int) -1) rfl (by omega) ?_
  exact aF.mk ⟨(i:Int) -1,rfl,by omega,by omega,JF⟩ (by rw[uo,uo];omega)
 ·refine ae.bJ (b:=1) (by simp[aB];omega) (by omega) ?_
  refine⟨fun vs H=>∃q:Int,vs=[.int .i64 q]∧ -1≤q∧q<(b:Int) -a∧DT v l0 H,fun vs _=>Wv vs,JE.mk ⟨((b-a-1:Nat):Int),rfl,by omega,by omega,hd⟩,?_⟩
  clear hd
  rintro w H ⟨q,hw,Xj,Xi,hd⟩ gs
  simp only[List.cons.injEq,and_true]at hw
  subst hw
  refine ae.geq (Br.dec (fun h0=>?_) (fun _=>az.here ⟨rfl,hd⟩))
  obtain⟨i,rfl⟩:∃i:Nat,q=i:=⟨q.toNat,by omega⟩
  refine DR.self ?_
  refine ae.aK (by simp[aB];omega) ?_
  refine ae.aK (by simp[aB];omega) ?_
  refine hd.swap .here (by omega) (by omega) fun C1 JF=>?_
  refine ag.fn .here (Ca JF (lo:=0) (by omega) (by omega) bX) ?_
  rintro w C2 ⟨rfl,uV⟩
  refine ae.B8 (c:=(i:Int) -1) rfl (by omega) ?_
  exact aF.mk ⟨(i:Int) -1,rfl,by omega,by omega,uV⟩ (by rw[uo,uo];omega)
end
end Go.Proofs
set_option maxRecDepth 100000
namespace Go.Proofs
open Go Go.Sx
section
variable {v:Value} {l0:List Int} {C:Hp}
theorem Vg{a b:Nat}(ha:a<18446744073709551616)(hb:b<18446744073709551616):a^^^b<18446744073709551616:=Nat.xor_lt_two_pow (n:=64) ha hb
theorem F1(b x:Nat)(hx:x<18446744073709551616):Fc Tryz.prog 301 #[ptr b] [(b,.cells #[.int .u64 (x:Int)] 373 (0,0))]
  (fun r H=>∃y:Nat,y<18446744073709551616∧r=.int .u64 (y:Int)∧H=[(b,.cells #[.int .u64 (y:Int)] 373 (0,0))]):=by
 intro g
 refine zJ (R:=az _) ?_
 unfold L301
 refine DR.self ?_
 refine Nil.ptr (Ld.mk (by exact .head _) rfl ?_)
 refine Nil.ptr (Ld.mk (by exact .head _) rfl ?_)
 refine ae.yF (b:=13) ?_
 refine ae.Nm hx (Nat.mod_lt _ (by decide)) ?_
 have h1:=Vg hx (Nat.mod_lt (x<<<13) (show 0<18446744073709551616 by decide))
 generalize x^^^x<<<13%18446744073709551616=x1 at h1
 refine Nil.ptr (St.one (by exact .head _) rfl (by simp) rfl ?_)
 refine DR.self ?_
 refine Nil.ptr (Ld.mk (by exact .head _) rfl ?_)
 refine Nil.ptr (Ld.mk (by exact .head _) rfl ?_)
 refine ae.ot (b:=7) h1 ?_
 have h2:x1>>>7<18446744073709551616:=by rw[Nat.shiftRight_eq_div_pow];omega
 refine ae.Nm h1 h2 ?_
 have h3:=Vg h1 h2
 generalize x1^^^x1>>>7=x2 at h3
 refine Nil.ptr (St.one (by exact .head _) rfl (by simp) rfl ?_)
 refine DR.self ?_
 refine Nil.ptr (Ld.mk (by exact .head _) rfl ?_)
 refine Nil.ptr (Ld.mk (by exact .head _) rfl ?_)
 refine ae.yF (b:=17) ?_
 refine ae.Nm h3 (Nat.mod_lt _ (by decide)) ?_
 have h4:=Vg h3 (Nat.mod_lt (x2<<<17) (show 0<18446744073709551616 by decide))
 generalize x2^^^x2<<<17%18446744073709551616=x3 at h4
 refine Nil.ptr (St.one (by exact .head _) rfl (by simp) rfl ?_)
 refine Nil.ptr (Ld.mk (by exact .head _) rfl ?_)
 exact az.here ⟨x3,h4,rfl,rfl⟩
theorem Dh{x:Nat}(hx:x<18446744073709551616)(B:Hp):Rd Tryz.prog 286 #[.int .u64 (x:Int)] B (fun v=>∃r:Nat,tS x r∧v=.int .i64 (r:Int)):=by
 intro g
 refine zX (R:=az _) ?_
 unfold L286
 refine Br.no ?_
 refine ag.rd .here (G5 hx B) ?_
 rintro w hw
 exact cr.mk (.refl _) hw
theorem KE{x:Nat}(h0:0<x)(hx:x<1152921504606846976)(B:Hp):Rd Tryz.prog 300 #[.int .i64 (x:Int)] B (fun v=>∃r:Nat,0<r∧r≤2*x∧v=.int .u64 (r:Int)):=by
 intro g
 refine zK (R:=az _) ?_
 unfold L300
 refine aW.nat (by simp[aB];omega) ?_
 refine ag.rd .here (Dh (by omega) B) ?_
 rintro w ⟨r,hr,rfl⟩
 have CB:0<r:=by
  rcases Nat.eq_zero_or_pos r with e|e
  ·subst e;have:=hr.1;omega
  ·exact e
 have h2:2^(r-1)≤x:=by
  rcases hr.2 with e|e
  ·omega
  ·exact e
 have h3:2^r=2*2^(r-1):=by
  obtain⟨k,rfl⟩:∃k,r=k+1:=⟨r-1,by omega⟩
  rw[Nat.add_sub_cancel,Nat.pow_succ];omega
 refine ae.yF (a:=1) ?_
 have e:1<<<r%18446744073709551616=2^r:=by
  rw[Nat.shiftLeft_eq,Nat.one_mul]
  exact Nat.mod_eq_of_lt (by omega)
 rw[e]
 exact cr.mk (.refl _) ⟨2^r,Nat.two_pow_pos r,by omega,rfl⟩
theorem PC(h:DT v l0 C){a b:Nat}(hab:a<b)(hb:b≤l0.length)(bX:l0.length<1152921504606846976):Fc Tryz.prog 291 #[v,.int .i64 (a:Int),.int .i64 (b:Int)] C (SQ v l0):=by
 intro g
 refine zS (R:=az _) ?_
 unfold L291
 refine ae.bJ (by simp[aB];omega) (by omega) ?_
 refine ae.pe (b:=8) (Br.dec (fun h8=>?_) (fun _=>az.here ⟨rfl,h⟩))
 refine aW.nat (by simp[aB];omega) ?_
 intro b4 _
 refine St.one (by exact .head _) rfl (by simp) rfl ?_
 refine ag.rd (.cons .here) (KE (by omega) (by omega) C) ?_
 rintro w ⟨m,hm0,hm,rfl⟩
 refine ae.zf (b:=4) (by simp[aB];omega) (by omega) ?_
 refine ae.uH (b:=2) (by simp[aB];omega) ?_
 refine ae.aK (by simp[aB];omega) ?_
 refine ae.bJ (b:=1) (by simp[aB];omega) (by omega) ?_
 refine⟨fun vs H=>∃(i x:Nat) (C':Hp),vs=[.int .i64 (i:Int)]∧x<18446744073709551616∧H=(b4,.cells #[.int .u64 (x:Int)] 373 (0,0))::C'∧DT v l0 C',fun vs _=>b-bR vs 0,
  JE.mk ⟨_,b-a,C,rfl,by omega,rfl,h⟩,?_⟩
 rintro w H ⟨i,x,C',hw,hx,rfl,hd⟩ gs
 simp only[List.cons.injEq,and_true]at hw
 subst hw
 refine ae.zf (b:=4) (by simp[aB];omega) (by omega) ?_
 refine ae.uH (b:=2) (by simp[aB];omega) ?_
 refine ae.aK (by simp[aB];omega) ?_
 refine ae.aK (b:=1) (by simp[aB];omega) ?_
 refine ae.wD (Br.dec (fun hle=>?_) (fun _=>az.mk .tail ⟨rfl,hd⟩))
 refine ag.fn (.left (A:=C')) (F1 b4 x hx) ?_
 rintro w H' ⟨y,hy,rfl,rfl⟩
 refine ae.bJ (b:=1) (by simp[aB];omega) (by omega) ?_
 refine ae.nZ (by simp[aB];omega) (by simp[aB];omega) ?_
 have hand:y&&& (m-1)<m:=by have:=Nat.and_le_right (n:=y) (m:=m-1);omega
 generalize y&&& (m-1)=z at hand
 refine aW.nat (by simp[aB];omega) ?_
 intro Ue Yg
 have go:∀o:Nat,o<b-a→Ue [.int .i64 (o:Int)] ([(b4,Obj.cells #[.int .u64 (y:Int)] 373 (0,0))]++C'):=fun o ho=>by
  refine Yg _ _ fun gs=>?_
  refine DR.self ?_
  refine ae.aK (by simp[aB];omega) ?_
  refine ae.aK (by simp[aB];omega) ?_
  refine hd.swap (.cons .here) (by omega) (by omega) fun C1 JF=>?_
  refine ae.aK (b:=1) (by simp[aB];omega) ?_
  exact aF.mk ⟨i+1,y,C1,rfl,hy,rfl,JF⟩ (by simp[bR];omega)
 refine ae.pe (Br.dec (fun hge=>?_) (fun hlt=>JE.mk (go z (by omega))))
 refine ae.bJ (by simp[aB];omega) (by omega) ?_
 exact JE.mk (go _ (by omega))
def OQ(b:Nat)(C:Hp)(i j:Nat):Value→Hp→Prop:=fun r H=>(r=.tuple #[.int .i64 (i:Int),.int .i64 (j:Int)]∨r=.tuple #[.int .i64 (j:Int),.int .i64 (i:Int)])∧∃z:Int,H=(b,.cells #[.int .i64 z] 3 (0,0))::C
theorem uE(h:DT v l0 C){b:Nat}{z:Int}{i j:Nat}(hi:i<l0.length)(hj:j<l0.length):
  Fc Tryz.prog 305 #[v,.int .i64 (i:Int),.int .i64 (j:Int),ptr b] ((b,.cells #[.int .i64 z] 3 (0,0))::C) (OQ b C i j):=by
 intro g
 refine zF (R:=az _) ?_
 unfold L305
 refine DR.self ?_
 refine h.ld (fun _ h=>.tail _ h) hj fun x=>?_
 refine h.ld (fun _ h=>.tail _ h) hi fun y=>?_
 refine ag.rd .here (dF x y _) ?_
 rintro w rfl
 refine Br.mk (fun _=>?_) (fun _=>az.here ⟨.inl rfl,z,rfl⟩)
 refine Nil.ptr (Ld.mk (by exact .head _) rfl ?_)
 refine ae.add ?_
 refine Nil.ptr (St.one (by exact .head _) rfl (by simp) rfl ?_)
 exact az.here ⟨.inr rfl,_,rfl⟩
def MQ(b:Nat)(C:Hp)(p:Nat→Prop):Value→Hp→Prop:=fun r H=>(∃m:Nat,r=.int .i64 (m:Int)∧p m)∧∃z:Int,H=(b,.cells #[.int .i64 z] 3 (0,0))::C
theorem G1(h:DT v l0 C){b:Nat}{z:Int}{i j k:Nat}(hi:i<l0.length)(hj:j<l0.length)(hk:k<l0.length):
  Fc Tryz.prog 303 #[v,.int .i64 (i:Int),.int .i64 (j:Int),.int .i64 (k:Int),ptr b] ((b,.cells #[.int .i64 z] 3 (0,0))::C) (MQ b C fun m=>m=i∨m=j∨m=k):=by
 intro g
 refine zH (R:=az _) ?_
 unfold L303
 refine ag.fn .here (uE h hi hj) ?_
 rintro w H ⟨hw,z1,rfl⟩
 obtain⟨i1,j1,rfl,hij⟩:∃i1 j1:Nat,w=.tuple #[.int .i64 (i1:Int),.int .i64 (j1:Int)]∧((i1=i∧j1=j)∨(i1=j∧j1=i)):=by
  rcases hw with rfl|rfl
  ·exact⟨i,j,rfl,.inl ⟨rfl,rfl⟩⟩
  ·exact⟨j,i,rfl,.inr ⟨rfl,rfl⟩⟩
 refine Ext.mk rfl (Ext.mk rfl ?_)
 refine ag.fn .here (uE h (i:=j1) (j:=k) (by omega) hk) ?_
 rintro w H ⟨hw,z2,rfl⟩
 obtain⟨j2,k2,rfl,KZ⟩:∃j2 k2:Nat,w=.tuple #[.int .i64 (j2:Int),.int .i64 (k2:Int)]∧((j2=j1∧k2=k)∨(j2=k∧k2=j1)):=by
  rcases hw with rfl|rfl
  ·exact⟨_,_,rfl,.inl ⟨rfl,rfl⟩⟩
  ·exact⟨_,_,rfl,.inr ⟨rfl,rfl⟩⟩
 refine Ext.mk rfl (Ext.mk rfl ?_)
 refine ag.fn .here (uE h (i:=i1) (j:=j2) (by omega) (by omega)) ?_
 rintro w H ⟨hw,z3,rfl⟩
 rcases hw with rfl|rfl
 ·exact Ext.mk rfl (Ext.mk rfl (az.here ⟨⟨_,rfl,by omega⟩,_,rfl⟩))
 ·exact Ext.mk rfl (Ext.mk rfl (az.here ⟨⟨_,rfl,by omega⟩,_,rfl⟩))
theorem uJ(h:DT v l0 C){b:Nat}{z:Int}{i:Nat}(h0:0<i)(hi:i+1<l0.length)(bX:l0.length<1152921504606846976):
  Fc Tryz.prog 302 #[v,.int .i64 (i:Int),ptr b] ((b,.cells #[.int .i64 z] 3 (0,0))::C) (MQ b C fun m=>i≤m+1∧m≤i+1):=by
 intro g
 refine zI (R:=az _) ?_
 unfold L302
 refine ae.bJ (b:=1) (by simp[aB];omega) (by omega) ?_
 refine ae.aK (b:=1) (by simp[aB];omega) ?_
 refine ag.fn .here (G1 h (by omega) (by omega) hi) ?_
 rintro w H ⟨⟨m,rfl,hm⟩,z',rfl⟩
 exact az.here ⟨⟨m,rfl,by omega⟩,z',rfl⟩
theorem NR(h:DT v l0 C){a b:Nat}(hab:a<b)(hb:b≤l0.length)(bX:l0.length<1152921504606846976):
  Rd Tryz.prog 292 #[v,.int .i64 (a:Int),.int .i64 (b:Int)] C (fun r=>∃(p:Nat) (q:Int),r=.tuple #[.int .i64 (p:Int),.int .i64 q]∧a≤p∧p<b):=by
 intro g
 refine zR (R:=az _) ?_
 unfold L292
 refine ae.bJ (by simp[aB];omega) (by omega) ?_
 intro b2 _
 refine ae.zf (b:=4) (by simp[aB];omega) (by omega) ?_
 refine ae.uH (b:=1) (by simp[aB];omega) ?_
 refine ae.aK (by simp[aB];omega) ?_
 refine ae.zf (b:=4) (by simp[aB];omega) (by omega) ?_
 refine ae.uH (b:=2) (by simp[aB];omega) ?_
 refine ae.aK (by simp[aB];omega) ?_
 refine ae.zf (b:=4) (by simp[aB];omega) (by omega) ?_
 refine ae.uH (b:=3) (by simp[aB];omega) ?_
 refine ae.aK (by simp[aB];omega) ?_
 intro xR Yj
 have fin:∀(p:Nat) (z:Int),a≤p→p<b→xR [.int .i64 (p:Int)] ((b2,.cells #[.int .i64 z] 3 (0,0))::C):=fun p z y2 nh=>by
  refine Yj _ _ fun gs=>?_
  refine Ld.mk (by exact .head _) rfl ?_
  refine ae.jt (Br.dec (fun _=>cr.mk .tail ⟨p,_,rfl,y2,nh⟩) (fun _=>?_))
  exact ae.jt (Br.dec (fun _=>cr.mk .tail ⟨p,_,rfl,y2,nh⟩) (fun _=>cr.mk .tail ⟨p,_,rfl,y2,nh⟩))
 refine ae.pe (b:=8) (Br.dec (fun h8=>?_) (fun _=>JE.mk (fin _ _ (by omega) (by omega))))
 intro Ug Yi
 have three:∀(x y u:Nat) (z:Int),a≤x∧x<b→a≤y∧y<b→a≤u∧u<b→Ug [.int .i64 (x:Int),.int .i64 (y:Int),.int .i64 (u:Int)] ((b2,.cells #[.int .i64 z] 3 (0,0))::C):=fun x y u z hx hy hu=>by
  refine Yi _ _ _ _ fun gs=>?_
  refine ag.fn .here (G1 h (by omega) (by omega) (by omega)) ?_
  rintro w H ⟨⟨m,rfl,hm⟩,z',rfl⟩
  exact JE.mk (fin _ _ (by omega) (by omega))
 refine ae.pe (b:=50) (Br.dec (fun h50=>?_) (fun _=>JE.mk (three _ _ _ _ (by omega) (by omega) (by omega))))
 refine ag.fn .here (uJ h (by omega) (by omega) bX) ?_
 rintro w H ⟨⟨m1,rfl,FI⟩,z1,rfl⟩
 refine ag.fn .here (uJ h (by omega) (by omega) bX) ?_
 rintro w H ⟨⟨m2,rfl,HC⟩,z2,rfl⟩
 refine ag.fn .here (uJ h (by omega) (by omega) bX) ?_
 rintro w H ⟨⟨m3,rfl,hm3⟩,z3,rfl⟩
 exact JE.mk (three _ _ _ _ (by omega) (by omega) (by omega))
theorem NS:∀(N:Nat) {C:Hp} (h:DT v l0 C) {a b:Nat} (hN:b-a≤N) (hab:a≤b) (hb:b≤l0.length) (bX:l0.length<1152921504606846976) (z:Int),Fc Tryz.prog 285 #[v,.int .i64 (a:Int),.int .i64 (b:Int),.int .i64 z] C (SQ v l0):=by
 intro N
 induction N with
 |zero=>
  intro C h a b hN hab hb bX z g
  refine rJ (R:=az _) ?_
  unfold L285
  refine⟨fun vs H=>vs=[.int .i64 (a:Int),.int .i64 (b:Int),.int .i64 z,.bool true,.bool true]∧H=C,fun _ _=>0,JE.mk ⟨rfl,rfl⟩,?_⟩
  rintro w1 w2 w3 w4 w5 H ⟨hw,rfl⟩ gs
  simp only[List.cons.injEq,and_true]at hw
  obtain⟨rfl,rfl,rfl,rfl,rfl⟩:=hw
  refine ae.bJ (by simp[aB];omega) (by omega) ?_
  refine ae.wD (b:=12) (Br.dS (by omega) ?_)
  refine ag.fn .here (wM h hab hb bX) ?_
  rintro w C' ⟨rfl,hd⟩
  exact az.here ⟨rfl,hd⟩
 |succ N ih=>
  intro C h a b hN hab hb bX z g
  refine rJ (R:=az _) ?_
  unfold L285
  refine⟨fun vs H=>∃(a b:Nat) (z:Int) (t1 t2:Bool),vs=[.int .i64 (a:Int),.int .i64 (b:Int),.int .i64 z,.bool t1,.bool t2]∧b-a≤N+1∧a≤b∧b≤l0.length∧DT v l0 H,fun vs _=>bR vs 1-bR vs 0,JE.mk ⟨a,b,z,true,true,rfl,hN,hab,hb,h⟩,?_⟩
  clear h hN hab hb
  rintro w1 w2 w3 w4 w5 H ⟨a,b,z,t1,t2,hw,hN,hab,hb,h⟩ gs
  simp only[List.cons.injEq,and_true]at hw
  obtain⟨rfl,rfl,rfl,rfl,rfl⟩:=hw
  refine ae.bJ (by simp[aB];omega) (by omega) ?_
  refine ae.wD (b:=12) (Br.dec (fun Yv=>?_) (fun Yv=>?_))
  ·refine ag.fn .here (wM h hab hb bX) ?_
   rintro w C' ⟨rfl,hd⟩
   exact az.here ⟨rfl,hd⟩
  refine ae.jt (Br.dec (fun _=>?_) (fun _=>?_))
  ·refine ag.fn .here (Hx h (by omega) hb bX) ?_
   rintro w C' ⟨rfl,hd⟩
   exact az.here ⟨rfl,hd⟩
  intro vx y9
  have k17:∀(z1:Int) H1,DT v l0 H1→vx [.int .i64 z1] H1:=fun z1 H1 h1=>by
   refine y9 _ _ fun gs=>?_
   refine ag.rd .here (NR h1 (a:=a) (b:=b) (by omega) hb bX) ?_
   rintro w ⟨p,q,rfl,y2,nh⟩
   refine Ext.mk rfl (Ext.mk rfl ?_)
   intro Uf Yh
   have k25:∀(p:Nat) (q:Int) H2,a≤p→p<b→DT v l0 H2→Uf [.int .i64 (p:Int),.int .i64 q] H2:=fun p q H2 y2 nh h2=>by
    refine Yh _ _ _ fun gs=>?_
    intro Ud Yf
    have k30:∀H3,DT v l0 H3→Ud [] H3:=fun H3 h3=>by
     refine Yf _ fun gs=>?_
     intro FU Ln
     have k33:∀(t:Bool),FU [.bool t] H3:=fun t=>by
      refine Ln _ _ fun gs=>?_
      refine Br.mk (fun _=>?_) (fun _=>?_)
      ·refine ag.fn .here (D2 h3 ⟨y2,nh⟩ hb bX) ?_
       rintro w C' ⟨⟨m,rfl,FI,HC⟩,hd⟩
       exact aF.mk ⟨m,b,z1,t1,t2,rfl,by omega,by omega,hb,hd⟩ (by simp[bR];omega)
      ·refine ag.fn .here (KD h3 ⟨y2,nh⟩ hb bX) ?_
       rintro w C' ⟨⟨m,t,rfl,FI,HC⟩,hd⟩
       refine Ext.mk rfl (Ext.mk rfl ?_)
       refine ae.bJ (by simp[aB];omega) (by omega) ?_
       refine ae.bJ (by simp[aB];omega) (by omega) ?_
       refine ae.zf (b:=8) (by simp[aB];omega) (by omega) ?_
       refine ae.fq (Br.dec (fun _=>?_) (fun _=>?_))
       ·refine ae.pe ?_
        refine ag.fn .here (ih hd (a:=a) (b:=m) (by omega) (by omega) (by omega) bX z1) ?_
        rintro w C' ⟨rfl,cI⟩
        refine ae.aK (b:=1) (by simp[aB];omega) ?_
        exact aF.mk ⟨m+1,b,z1,_,t,rfl,by omega,by omega,hb,cI⟩ (by simp[bR];omega)
       ·refine ae.pe ?_
        refine ae.aK (b:=1) (by simp[aB];omega) ?_
        refine ag.fn .here (ih hd (a:=m+1) (b:=b) (by omega) (by omega) (by omega) bX z1) ?_
        rintro w C' ⟨rfl,cI⟩
        exact aF.mk ⟨a,m,z1,_,t,rfl,by omega,by omega,by omega,cI⟩ (by simp[bR];omega)
     refine DR.self ?_
     refine ae.nP (b:=0) (Br.dec (fun h0=>?_) (fun _=>JE.mk (k33 false)))
     refine ae.bJ (b:=1) (by simp[aB];omega) (by omega) ?_
     refine h3.ld (fun _ h=>h) (by omega) fun x=>?_
     refine h3.ld (fun _ h=>h) (by omega) fun y=>?_
     intro F
     refine ag.rd .here (dF x y _) ?_
     rintro w rfl
     exact Un.not (aA.mk (JE.mk (k33 _)))
    refine cw.and t2 (fun _=>⟨rfl,rfl⟩) rfl fun gs=>?_
    refine cw.and (decide (q=1)) (fun _=>ae.jt ⟨rfl,rfl⟩) rfl fun gs=>?_
    refine Br.mk (fun _=>?_) (fun _=>JE.mk (k30 _ h2))
    refine ag.fn .here (KA h2 (by omega) hb bX) ?_
    rintro w C' ⟨⟨t,rfl⟩,hd⟩
    exact Br.mk (fun _=>az.here ⟨rfl,hd⟩) (fun _=>JE.mk (k30 _ hd))
   refine ae.jt (Br.dec (fun _=>?_) (fun _=>JE.mk (k25 p q _ y2 nh h1)))
   refine ag.fn .here (NQ h1 (a:=a) (b:=b) (by omega) hb bX) ?_
   rintro w C' ⟨rfl,hd⟩
   refine ae.bJ (b:=1) (by simp[aB];omega) (by omega) ?_
   refine ae.bJ (by simp[aB];omega) (by omega) ?_
   refine ae.bJ (by simp[aB];omega) (by omega) ?_
   exact JE.mk (k25 _ _ _ (by omega) (by omega) hd)
  refine Un.not ?_
  refine Br.mk (fun _=>?_) (fun _=>JE.mk (k17 _ _ h))
  refine ag.fn .here (PC h (a:=a) (b:=b) (by omega) hb bX) ?_
  rintro w C' ⟨rfl,hd⟩
  exact ae.sub (JE.mk (k17 _ _ hd))
theorem Kq{l:List Int}(h:aN 77 .u32 v l C)(bX:l.length<1152921504606846976):Fc Tryz.prog 274 #[v] C (fun r C'=>r=.tuple #[]∧∃l',l'.Perm l∧aN 77 .u32 v l' C'):=by
 intro g
 refine z9 (R:=az _) ?_
 unfold L274
 refine h.bS ?_
 refine aW.nat (by simp[aB];omega) ?_
 refine ag.rd .here (Dh (by omega) C) ?_
 rintro w ⟨r,_,rfl⟩
 refine ag.fn .here (NS l.length h.dt (a:=0) (b:=l.length) (by omega) (by omega) (Nat.le_refl _) bX _) ?_
 rintro w C' ⟨rfl,hd⟩
 exact az.here ⟨rfl,hd⟩
end
end Go.Proofs
namespace Go.Sx
open Go
section
variable {P:Program} {g:Gh} {F:Fence} {n:Nat} {ops:Array Oper} {Q:Exit→Act→World→Prop} {rest:List Oper} {o:Oper} {a:Act} {fr:Fr} {w:World} {H:Hp}
abbrev xV(ds:List Deferred)(n:Nat)(a:Act)(fr:Fr):Prop:=bV ds n a fr
variable {ds:List Deferred}
theorem xV.put(h:xV ds n a fr){d:Option Nat}(hd:dk n d=true)(v:Value):xV ds n (a.put d v) (bT fr d v):=bV.put h hd v
theorem gK{v0:Value}(hF:∀f,F.fn f)(hg:o.guard=none)(iO:∀c,o.op≠.defer c)(hd:dk n o.dst=true)(ha:xV ds n a fr)(hw:Own g H w)(h:x4 P g o (ev fr) H (· =v0))
 (k:∀a',xV ds n a' (bT fr o.dst v0)→wpListIn F 0 P ops Q rest a' w):wpListIn F 0 P ops Q (o::rest) a w:=by
 refine wpListIn_plain hg fun K hK=>⟨fun f _=>hF f,?_⟩
 rw[Oper.semAt_eq _ _ _ iO,ha.eval]
 obtain⟨v,hv,hr,_⟩:=lH h
 rw[hr w hw]
 subst hv
 exact hK _ _ (k _ (ha.put hd _))
theorem B9{s:Sem Value}{K:Value→Hp→Prop}(hF:∀f,F.fn f)(hg:o.guard=none)(iO:∀c,o.op≠.defer c)(hd:dk n o.dst=true)(ha:xV ds n a fr)(he:execOp (ev fr) o=(do pure (.value (←s))))
 (h:∃v w' H',s.run P w=.ok v w'∧Own g H' w'∧K v H')
 (k:∀v H' w' a',K v H'→Own g H' w'→xV ds n a' (bT fr o.dst v)→wpListIn F 0 P ops Q rest a' w'):wpListIn F 0 P ops Q (o::rest) a w:=by
 refine wpListIn_plain hg fun K hK=>⟨fun f _=>hF f,?_⟩
 rw[Oper.semAt_eq _ _ _ iO,ha.eval,he]
 obtain⟨v,w',H',hr,ho,hk⟩:=h
 simp only[Sem.run_bind,hr,Result.andThen_ok,Sem.run_pure]
 exact hK _ _ (k v H' w' _ hk ho (ha.put hd _))
theorem GH{s:Sem Value}{K:Value→Hp→Prop}(hF:∀f,F.fn f)(hg:o.guard=none)(iO:∀c,o.op≠.defer c)(hd:dk n o.dst=true)(ha:xV ds n a fr)(hw:Own g H w)(he:execOp (ev fr) o=(do pure (.value (←s))))
 (h:Jx P g o (ev fr) H K (fun _ _=>False))
 (k:∀v H' w' a',K v H'→Own g H' w'→xV ds n a' (bT fr o.dst v)→wpListIn F 0 P ops Q rest a' w'):wpListIn F 0 P ops Q (o::rest) a w:=by
 have h1:=qy (lR fr) h w hw
 rw[he]at h1
 refine B9 (g:=g) (K:=K) hF hg iO hd ha he ?_ k
 cases hs:s.run P w with
 |ok v w'=>
  simp only[Sem.run_bind,hs,Result.andThen_ok,Sem.run_pure,lA]at h1
  obtain⟨H',ho,hk⟩:=h1
  exact⟨v,w',H',rfl,ho,hk⟩
 |halt x w'=>
  simp only[Sem.run_bind,hs,Result.andThen]at h1
  cases x<;>simp only[lA]at h1
  obtain⟨_,_,hk⟩:=h1;exact hk.elim
theorem Rj{s:Sem Unit}{K:Value→Hp→Prop}(hF:∀f,F.fn f)(hg:o.guard=none)(iO:∀c,o.op≠.defer c)(hd:dk n o.dst=true)(ha:xV ds n a fr)(hw:Own g H w)(he:execOp (ev fr) o=(do s;pure .skip))
 (h:Jx P g o (ev fr) H K (fun _ _=>False))
 (k:∀H' w' a',K undef H'→Own g H' w'→xV ds n a' (bT fr o.dst undef)→wpListIn F 0 P ops Q rest a' w'):wpListIn F 0 P ops Q (o::rest) a w:=by
 have h1:=qy (lR fr) h w hw
 rw[he]at h1
 refine wpListIn_plain hg fun K hK=>⟨fun f _=>hF f,?_⟩
 rw[Oper.semAt_eq _ _ _ iO,ha.eval,he]
 cases hs:s.run P w with
 |ok v w'=>
  simp only[Sem.run_bind,hs,Result.andThen_ok,Sem.run_pure,lA]at h1⊢
  obtain⟨H',ho,hk⟩:=h1
  exact hK _ _ (k H' w' _ hk ho (ha.put hd _))
 |halt x w'=>
  simp only[Sem.run_bind,hs,Result.andThen]at h1
  cases x<;>simp only[lA]at h1
  obtain⟨_,_,hk⟩:=h1;exact hk.elim
theorem rD{m:Nat}{args:List Value}(hl:args.length≤m):xV [] m {tmps:=args.toArray++Array.replicate (m-args.toArray.size) undef,defers:=[]} (gS args 0):=by
 refine⟨rfl,by simp;omega,fun s=>?_⟩
 rw[jI,Array.getD_eq_getD_getElem?,Array.getElem?_append]
 simp only[List.size_toArray,Nat.not_lt_zero,if_false,Nat.sub_zero]
 by_cases hs:s<args.length
 ·simp[hs,List.getD]
 ·rw[if_neg hs,Array.getElem?_replicate]
  have:args.getD s undef=undef:=by simp[List.getD,List.getElem?_eq_none (Nat.le_of_not_lt hs)]
  rw[this]
  split<;>rfl
theorem Own.putObj{g:Gh}{H H':Hp}{w:World}{b:Nat}{o o':Obj}(h:Own g H w)(u:dH b o o' H H'):Own g H' (w.putObj b o'):=by
 have hb:=h.lt u.mem
 exact h.bT u rfl rfl rfl (World.putObj_heap_same hb) fun c hc=>World.putObj_heap_other hc
def Dz{α:Type}(P:Program)(f:FuncId)(cap:Array Value)(B:Hp)(enc:α→Value)(N:Nat)(S:List α→Prop):Prop:=
 ∀(g:Gh) (l:Nat) (G:List α→Hp→Prop),
  (∀ss x A X W,G ss A→ss.length<N→Own g (A++X) W→YieldAt Fence.wide 0 P l #[enc x] W (fun e W'=>e=.returned (.bool true)∧∃A',G (ss++[x]) A'∧Own g (A'++X) W'))→
  ∀A W,G [] A→Own g (A++B) W→CallsIn Fence.wide 0 P f (#[.func (.yield l) #[] #[]]++cap) W (fun e W'=>(∃v,e=.returned v)∧∃ss A',S ss∧G ss A'∧Own g (A'++B) W')
open Classical in
noncomputable def nF(p:Nat→Prop):Nat:=if h:∃k,p k then Classical.choose (ja h)else 0
theorem yT{p:Nat→Prop}{k:Nat}(h:p k):nF p≤k:=by
 unfold nF
 rw[dif_pos ⟨k,h⟩]
 exact(Classical.choose_spec (ja ⟨k,h⟩)).2 k h
theorem uN{p:Nat→Prop}(h:∃k,p k):p (nF p):=by
 unfold nF
 rw[dif_pos h]
 exact(Classical.choose_spec (ja h)).1
theorem yf{c:Code}(J:Nat→Act→World→Prop){k:Nat}(h0:J k a w)
 (round:∀k a w,J k a w→c.wpIn F 0 P (Exit.then (fun a' w'=>∃k',k'<k∧J k' a' w') Q) a w):(Code.loop c).wpIn F 0 P Q a w:=by
 refine wpIn_loop (fun a w=>∃k,J k a w) (fun a w=>nF fun k=>J k a w) ⟨k,h0⟩ fun a w h=>?_
 refine Code.wpIn_mono (fun e a' w' hq=>?_) (round _ a w (uN h))
 cases e with
 |normal=>
  obtain⟨k',hlt,hj⟩:=hq
  exact⟨⟨k',hj⟩,Nat.lt_of_le_of_lt (yT hj) hlt⟩
 |_=>exact hq
end
end Go.Sx
set_option maxRecDepth 100000
namespace Go.Proofs
open Go Go.Sx
open aE
section
variable {es:Array MapEntry} {ck b:Nat} {m:List (Nd×Nat)}
theorem DH(B:Hp):Fc Tryz.prog 251 #[.map (some b)] B
  (fun v H=>∃bm,v=.func (.func 275) #[] #[ptr bm]∧H=(bm,.cells #[.map (some b)] 266 (0,0))::B):=by
 intro g
 refine Ap (R:=az _) ?_
 unfold L251
 intro b1 _
 exact az.here ⟨b1,rfl,rfl⟩
noncomputable abbrev VF:Func:=Tryz.f275
def VAt(g:Gh)(bi b:Nat)(l:Nat)(es:Array MapEntry)(ck:Nat)(m:List (Nd×Nat))(G:List Nat→Hp→Prop)(B:Hp)(k:Nat)(a:Act)(w:World):Prop:=
 ∃(fr:Fr) (ss:List Nat) (A:Hp) (seen:Array Nat),xV [] 15 a fr∧fr 0=.func (.yield l) #[] #[]∧fr 6=ptr bi∧G ss A∧Own g (A++((bi,.mapIter (some b) ck seen ck)::B)) w∧
  (ss++(cq es m seen).map Prod.snd).Perm (m.map Prod.snd)∧k=(cq es m seen).length
theorem yh{bm:Nat}{fz:Nat×Nat}(h:aR nK F8 es ck m):Dz Tryz.prog 275 #[ptr bm] [(bm,.cells #[.map (some b)] 266 fz),(b,.map es ck)] u32 m.length
  (fun ss=>ss.Perm (m.map Prod.snd)):=by
 intro g l G hY A W h0 hW
 have hF:∀f,Fence.wide.fn f:=fun _=>trivial
 refine callsIn_of_wp Tryz.func275 rfl trivial ?_
 have ha:=rD (m:=15) (args:=[.func (.yield l) #[] #[],ptr bm]) (by simp)
 refine wpIn_seq ?_
 refine wpIn_region_lit ?_
 obtain⟨B,hB⟩:∃B,B=[(bm,Obj.cells #[.map (some b)] 266 fz),(b,.map es ck)]:=⟨_,rfl⟩
 rw[←hB]at hW
 have FI:(bm,Obj.cells #[.map (some b)] 266 fz)∈A++B:=by rw[hB];exact List.mem_append_right _ (.head _)
 have HC:(b,Obj.map es ck)∈A++B:=by rw[hB];exact List.mem_append_right _ (.tail _ (.head _))
 have hmB:∀{X:Hp},(b,Obj.map es ck)∈X++B:=by intro X;rw[hB];exact List.mem_append_right _ (.tail _ (.head _))
 rw[←hB]
 have e0:x4 Tryz.prog g (e8 VF 0 0) (ev (gS [.func (.yield l) #[] #[],ptr bm] 0)) (A++B) (fun x=>x=.map (some b))=Ld (A++B) (ptr bm) (fun x=>x=.map (some b)):=by kernel_rfl
 refine gK (g:=g) (n:=15) (v0:=.map (some b)) hF rfl (by intro c h;cases h) rfl ha hW (e0.mpr (Ld.mk FI rfl rfl)) fun a1 CX=>?_
 refine B9 (g:=g) (n:=15) (s:=Instr.range 266 (.map (some b))) (K:=fun v H=>∃bi,v=ptr bi∧H=(bi,.mapIter (some b) ck #[] ck)::(A++B)) hF rfl (by intro c h;cases h) rfl CX rfl
  (QM.run (.inr ⟨b,es,ck,rfl,HC,fun bi _=>⟨bi,rfl,rfl⟩⟩) hW (t:=266) (kt:=161) (e:=77) (by kernel_rfl)) fun v H' w1 a2 hv js pX=>?_
 obtain⟨bi,rfl,rfl⟩:=hv
 refine wpListIn_nil ?_
 have pW:Own g (A++((bi,.mapIter (some b) ck #[] ck)::B)) w1:=js.perm (List.perm_middle).symm
 clear js CX ha hW FI HC
 refine wpIn_block ?_
 refine yf (VAt g bi b l es ck m G B) (k:=(cq es m #[]).length) ⟨_,[],A,#[],pX,rfl,rfl,h0,pW,by rw[mG h];exact .refl _,rfl⟩ ?_
 clear pX pW h0 e0 A
 rintro k a w ⟨fr,ss,A,seen,ha,f0,f6,hG,hw,fu,hk⟩
 refine wpIn_seq ?_
 refine wpIn_region_lit ?_
 have e6:ev fr (.tmp 6)=ptr bi:=f6
 refine B9 (g:=g) (n:=15) (s:=Instr.next (ptr bi) false 0)
  (K:=fun v H=>(cq es m seen=[]∧v=.tuple #[.bool false]∧H=A++((bi,.mapIter (some b) ck seen ck)::B))∨
   ∃(e:MapEntry) (x:Nd×Nat) (seen':Array Nat),v=.tuple #[.bool true,e.key,e.val]∧e.val=u32 x.2∧(cq es m seen).Perm (x::cq es m seen')∧seen'.back?=some e.born∧es.find? (·.born==e.born)=some e∧
    H=A++((bi,.mapIter (some b) ck seen' ck)::B)) hF rfl (by intro c h;cases h) rfl ha ?_
  (PV.run (h.next (bi:=bi) (bm:=b) (seen:=seen) (H:=A++((bi,.mapIter (some b) ck seen ck)::B)) (List.mem_append_right _ (.tail _ (by rw[hB];exact .tail _ (.head _)))) (List.mem_append_right _ (.head _))
   (fun e x seen' he hk hv hp hb hf=>⟨_,(dH.head _).dD A,.inr ⟨e,x,seen',rfl,hv,hp,hb,hf,rfl⟩⟩) (fun hu=>.inl ⟨hu,rfl,rfl⟩)) hw) fun v H' w1 a1 hv js CX=>?_
 ·rw[e6.symm];rfl
 rcases hv with⟨hu,rfl,rfl⟩|⟨e,x,seen',rfl,Qy,hp,UT,XN,rfl⟩
 ·refine gK (g:=g) (n:=15) (v0:=.bool false) hF rfl (by intro c h;cases h) rfl CX js ⟨_,_,rfl,rfl,rfl⟩ fun a2 pX=>?_
  refine wpListIn_nil ?_
  refine wpIn_seq ?_
  refine wpIn_cond_false (by rw[pX.eval];rfl) ?_
  refine wpIn_exit ?_
  simp only[Exit.then,Exit.inBlock,if_true,bodyPost]
  refine⟨pX.defers,_,results_none rfl _ _ _,⟨_,rfl⟩,ss,A,?_,hG,(js.perm List.perm_middle).tail⟩
  rw[hu,List.map_nil,List.append_nil]at fu
  exact fu
 ·refine gK (g:=g) (n:=15) (v0:=.bool true) hF rfl (by intro c h;cases h) rfl CX js ⟨_,_,rfl,rfl,rfl⟩ fun a2 pX=>?_
  refine wpListIn_nil ?_
  refine wpIn_seq ?_
  refine wpIn_cond_true (by rw[pX.eval];rfl) ?_
  refine wpIn_skip ?_
  refine wpIn_block ?_
  refine wpIn_seq ?_
  refine wpIn_region_lit ?_
  refine B9 (g:=g) (n:=15) (s:=Instr.entry (ptr bi)) (K:=fun v H=>v=.tuple #[e.key,e.val]∧H=A++((bi,.mapIter (some b) ck seen' ck)::B)) hF rfl (by intro c h;cases h) rfl pX ?_ ?_ fun v H' w2 a3 hv pW Ew=>?_
  ·rw[e6.symm];rfl
  ·obtain⟨v,hr,hv⟩:=FA.run (P:=Tryz.prog) (k:=fun v=>v=.tuple #[e.key,e.val]) ⟨bi,b,ck,seen',e.born,ck,es,e,rfl,List.mem_append_right _ (.head _),UT,List.mem_append_right _ (.tail _ (by rw[hB];exact .tail _ (.head _))),XN,rfl⟩ js
   exact⟨v,w1,_,hr,js,hv,rfl⟩
  obtain⟨rfl,rfl⟩:=hv
  refine gK (g:=g) (n:=15) (v0:=u32 x.2) hF rfl (by intro c h;cases h) rfl Ew pW ⟨_,_,rfl,rfl,Qy⟩ fun a4 Lg=>?_
  refine gK (g:=g) (n:=15) (v0:=u32 x.2) hF rfl (by intro c h;cases h) rfl Lg pW (show u32 x.2=u32 x.2 from rfl) fun a5 Lf=>?_
  refine wpListIn_nil ?_
  refine wpIn_seq ?_
  refine wpIn_region_lit ?_
  refine gK (g:=g) (n:=15) (v0:=.func (.yield l) #[] #[]) hF rfl (by intro c h;cases h) rfl Lf pW f0 fun a6 Le=>?_
  refine gK (g:=g) (n:=15) (v0:=u32 x.2) hF rfl (by intro c h;cases h) rfl Le pW (show u32 x.2=u32 x.2 from rfl) fun a7 QD=>?_
  have hlen:(cq es m seen).length=(cq es m seen').length+1:=by rw[hp.length_eq];rfl
  have hlt:ss.length<m.length:=by
   have:=fu.length_eq
   simp only[List.length_append,List.length_map]at this⊢
   omega
  obtain⟨fn,tmps,assign,body,hy,hR⟩:=hY _ x.2 A _ w2 hG hlt pW
  refine wpListIn_plain rfl fun K hK=>⟨fun _ _=>trivial,?_⟩
  rw[Oper.semAt_eq _ _ _ (by intro c h;cases h),QD.eval]
  have hex:∀F7:Fr,F7=bT (bT (bT (bT (bT (bT (bT fr (some 7) (.tuple #[.bool true,e.key,e.val])) (some 8) (.bool true)) (some 9) (.tuple #[e.key,e.val])) (some 10) (u32 x.2)) (some 4) (u32 x.2)) (some 11) (.func (.yield l) #[] #[])) (some 12) (u32 x.2)→(execOp (ev F7) (e8 VF 3 2)).run Tryz.prog w2=.ok (.round l fn tmps assign body) w2:=fun F7 hF7=>by
   have v11:ev F7 (.tmp 11)=.func (.yield l) #[] #[]:=by rw[hF7];rfl
   have bt:ev F7 (.tmp 12)=u32 x.2:=by rw[hF7];rfl
   have e11:execOp (ev F7) (e8 VF 3 2)=(do let d ←resolve (ev F7) {callee:=.value (.tmp 11),args:=#[.tmp 12],argTypes:=#[77]} 4;invoke d.target d.args):=rfl
   rw[e11]
   simp[resolve,Deferred.ofValue,v11,bt,invoke,go_sem,hy]
  refine(congrArg (Oper.uponIn Fence.wide 0 Tryz.prog (e8 VF 3 2) a7 K _) (hex _ rfl)).mpr ⟨fun h=>(by cases h),hR.mono ?_⟩
  rintro e' w3 ⟨rfl,A',Po,Mx⟩
  refine hK _ _ ?_
  have ha8:=QD.put (d:=some 13) rfl (.bool true)
  refine gK (g:=g) (n:=15) (v0:=.bool false) hF rfl (by intro c h;cases h) rfl ha8 Mx ⟨_,rfl,rfl⟩ fun a9 ha9=>?_
  refine wpListIn_nil ?_
  refine wpIn_cond_false (by rw[ha9.eval];rfl) ?_
  refine wpIn_skip ?_
  refine⟨(cq es m seen').length,by omega,_,ss++[x.2],A',seen',ha9,f0,f6,Po,Mx,?_,rfl⟩
  rw[List.append_assoc]
  exact((hp.map Prod.snd).append_left ss).symm.trans fu
end
end Go.Proofs
set_option maxRecDepth 100000
namespace Go.Proofs
open Go Go.Sx
open aE
section
noncomputable abbrev AF:Func:=Tryz.f284
variable {f:FuncId} {cap:Array Value} {B:Hp} {N:Nat} {S:List Nat→Prop}
noncomputable def cE:Code:=match AF.body with|some (.seq _ (.seq (.seq _ (.block _ (.rangeFunc _ _ c _))) _))=>c|_=>.skip
noncomputable def ei:Code:=match AF.body with|some (.seq _ (.seq (.seq _ (.block _ (.rangeFunc _ _ _ c))) _))=>c|_=>.skip
noncomputable def LS(i:Nat):Oper:=match ei with| .block _ (.region _ ops _)=>(match ops[i]? with|some o=>o|none=>default)|_=>default
def jm(fn:FuncId)(tmps:Array Value)(assign body:Code)(D:Nat):Loop:={state:=.ready,pending:=none,fn,tmps,params:=#[7],assign,body,defers:=D}
def APG(l D bs:Nat)(fn:FuncId)(tmps:Array Value)(assign body:Code)(ss:List Nat)(A:Hp):Prop:=
 ∃v C',A=(l,.loop (jm fn tmps assign body D))::(D,.deferred (some []))::(bs,.cells #[v] 27 (0,0))::C'∧aN 77 .u32 v (iw ss) C'
theorem IU{g:Gh}{l D bs:Nat}{fn:FuncId}{tmps:Array Value}{fr:Fr}(hsz:tmps.size=13)(fC:∀s,tmps.getD s undef=fr s)(f2:fr 2=ptr bs){ss:List Nat}{x:Nat}{A X:Hp}{W:World}
 (hG:APG l D bs fn tmps cE ei ss A)(hl:ss.length<1099511627776)(hW:Own g (A++X) W):
  YieldAt Fence.wide 0 Tryz.prog l #[u32 x] W (fun e W'=>e=.returned (.bool true)∧∃A',APG l D bs fn tmps cE ei (ss++[x]) A'∧Own g (A'++X) W'):=by
 obtain⟨v,C',rfl,ho⟩:=hG
 have hF:∀f,(Fence.wide.inRound l).fn f:=fun _=>trivial
 have hL:W.heap[l]? =some (.loop (jm fn tmps cE ei D)):=hW.has _ (.head _)
 refine⟨fn,_,cE,ei,run_yield hL rfl,roundIn_of_wpIn trivial ?_⟩
 have ha:xV [] 13 {tmps:=tmps.setIfInBounds 7 (u32 x),defers:=[]} (bT fr (some 7) (u32 x)):=(xV.put (a:={tmps:=tmps,defers:=[]}) (d:=some 7) ⟨rfl,hsz,fC⟩ rfl (u32 x))
 have ha:xV [] 13 {tmps:=(#[7].zip #[u32 x]).foldl (fun tmps (t,a)=>tmps.setIfInBounds t a) tmps,defers:=[]} (bT fr (some 7) (u32 x)):=by simpa using ha
 change Code.wpIn _ 0 Tryz.prog (.region _ #[_] false) _ _ _
 refine wpIn_region_lit ?_
 refine gK (g:=g) (n:=13) (v0:=u32 x) hF rfl (by intro c h;cases h) rfl ha hW rfl fun a1 CX=>?_
 refine wpListIn_nil ?_
 have hbr:=run_beginRound (P:=Tryz.prog) hL rfl
 refine⟨_,hbr,?_⟩
 have MP:=hW.putObj (o':=.loop {jm fn tmps cE ei D with state:=.busy}) (.head _)
 change Code.wpIn _ 0 Tryz.prog (.block _ (.region _ #[_,_,_,_,_] false)) _ _ _
 refine wpIn_block ?_
 refine wpIn_region_lit ?_
 obtain⟨H1,Yl⟩:∃H1,H1=(l,Obj.loop {jm fn tmps cE ei D with state:=.busy})::(((D,.deferred (some []))::(bs,.cells #[v] 27 (0,0))::C')++X):=⟨_,rfl⟩
 replace MP:Own g H1 (W.putObj l (.loop {jm fn tmps cE ei D with state:=.busy})):=by rw[Yl];exact MP
 have e0:x4 Tryz.prog g (LS 0) (ev (bT (bT fr (some 7) (u32 x)) (some 5) (u32 x))) H1 (fun z=>z=v)=Ld H1 (fr 2) (fun z=>z=v):=by kernel_rfl
 refine gK (g:=g) (n:=13) (v0:=v) hF rfl (by intro c h;cases h) rfl CX MP (e0.mpr (by rw[f2];exact Ld.mk (by rw[Yl];exact .tail _ (.tail _ (.head _))) rfl rfl)) fun a2 pX=>?_
 refine gK (g:=g) (n:=13) (v0:=u32 x) hF rfl (by intro c h;cases h) rfl pX MP rfl fun a3 Ew=>?_
 have eb:∀K:Value→Hp→Prop,au Tryz.prog 27 1 [(0,.int .u32 (x:Int))] H1 K=Jx Tryz.prog g (LS 2) (ev (bT (bT (bT (bT fr (some 7) (u32 x)) (some 5) (u32 x)) (some 8) v) (some 9) (u32 x))) H1 K (fun _ _=>False):=fun K=>by kernel_rfl
 refine GH (g:=g) (n:=13) (s:=_) (K:=fun v H=>∃b,v=.slice (some ⟨b,0,none⟩) 1 1∧H=(b,.cells (ax .u32 [(x:Int)]) 77 (0,0))::H1) hF rfl (by intro c h;cases h) rfl Ew MP rfl
  ((eb _).mp (au.int (by kernel_rfl) (by kernel_rfl) (by kernel_rfl) fun b=>⟨b,rfl,rfl⟩)) fun v1 H2 w2 a4 hv SU Lg=>?_
 obtain⟨b,rfl,rfl⟩:=hv
 have hn:(iw ss).length=ss.length:=aq ss
 obtain⟨H2,hH2⟩:∃H2,H2=(b,Obj.cells (ax .u32 [(x:Int)]) 77 (0,0))::H1:=⟨_,rfl⟩
 rw[←hH2]at SU
 refine GH (g:=g) (n:=13) (s:=_) (K:=fun v' H=>∃C2,aN 77 .u32 v' (iw (ss++[x])) C2∧H=(b,Obj.cells (ax .u32 [(x:Int)]) 77 (0,0))::(l,Obj.loop {jm fn tmps cE ei D with state:=.busy})::(D,.deferred (some []))::(bs,.cells #[v] 27 (0,0))::(C2++X))
  hF rfl (by intro c h;cases h) rfl Lg SU (by simp only[execOp,resolve,invoke,builtin];simp[bind,Sem.bind];rfl) ?_ fun v2 H3 w3 a5 hv Lh Lf=>?_
 ·have e1:∀K:Value→Hp→Prop,App Tryz.prog 77 1 4 (.int .u32 0) H2 v (.slice (some ⟨b,0,none⟩) 1 1) K=
   Jx Tryz.prog g (LS 3) (ev (bT (bT (bT (bT (bT fr (some 7) (u32 x)) (some 5) (u32 x)) (some 8) v) (some 9) (u32 x)) (some 10) (.slice (some ⟨b,0,none⟩) 1 1))) H2 K (fun _ _=>False):=fun K=>by kernel_rfl
  refine(e1 _).mp ?_
  rw[hH2,Yl]
  refine ho.pG (.cons (.cons (.cons (.cons .left)))) (by exact .head _) (by omega) (by omega) fun v' C2 CC=>⟨C2,?_,rfl⟩
  rw[cL];exact CC
 obtain⟨C2,CC,rfl⟩:=hv
 have es:∀(H:Hp) (K:Value→Hp→Prop),St 1 H (fr 2) v2 (fun H'=>K undef H')=Jx Tryz.prog g (LS 4) (ev (bT (bT (bT (bT (bT (bT fr (some 7) (u32 x)) (some 5) (u32 x)) (some 8) v) (some 9) (u32 x)) (some 10) (.slice (some ⟨b,0,none⟩) 1 1)) (some 11) v2)) H K (fun _ _=>False):=fun H K=>by kernel_rfl
 refine Rj (g:=g) (n:=13) (s:=_) (K:=fun _ H=>H=(b,Obj.cells (ax .u32 [(x:Int)]) 77 (0,0))::(l,Obj.loop {jm fn tmps cE ei D with state:=.busy})::(D,.deferred (some []))::(bs,.cells #[v2] 27 (0,0))::(C2++X))
  hF rfl (by intro c h;cases h) rfl Lf Lh rfl ((es _ _).mp ?_) fun H4 w4 a6 hv UU Le=>?_
 ·rw[f2]
  exact St.one (.tail (.tail (.tail (.head _)))) CC.one (by simp) rfl rfl
 subst hv
 refine wpListIn_nil ?_
 simp only[Exit.inBlock,roundPost]
 refine⟨_,_,run_endRound none (UU.has _ (.tail _ (.head _))),rfl,_,⟨v2,C2,rfl,CC⟩,?_⟩
 exact(UU.putObj (.tail (.head _))).tail
theorem EO(hg:Dz Tryz.prog f cap B u32 N S)(hc:bh Tryz.prog f=true)(hN:N≤1099511627776):
  Fc Tryz.prog 284 #[.slice none 0 0,.func (.func f) #[] cap] B (fun v H=>∃ss C',S ss∧H=C'++B∧aN 77 .u32 v (iw ss) C'):=by
 intro g w hw
 rw[←callsIn_wide (n:=0)]
 have hF:∀f,Fence.wide.fn f:=fun _=>trivial
 refine callsIn_of_wp_marks Tryz.func284 rfl trivial ?_
 have ha:=rD (m:=13) (args:=[.slice none 0 0,.func (.func f) #[] cap]) (by simp)
 refine wpIn_seq ?_
 refine wpIn_region_lit ?_
 refine GH (g:=g) (n:=13) (s:=_) (K:=fun v H=>∃bs,v=ptr bs∧H=(bs,.cells #[.slice none 0 0] 27 (0,0))::B) hF rfl (by intro c h;cases h) rfl ha hw rfl (fun bs _=>⟨bs,rfl,rfl⟩) fun v H1 w1 a1 hv js CX=>?_
 obtain⟨bs,rfl,rfl⟩:=hv
 refine gK (g:=g) (n:=13) (v0:=.slice none 0 0) hF rfl (by intro c h;cases h) rfl CX js rfl fun a2 pX=>?_
 refine wpListIn_nil ?_
 refine wpIn_seq ?_
 refine wpIn_seq ?_
 refine wpIn_region_lit ?_
 refine gK (g:=g) (n:=13) (v0:=.func (.func f) #[] cap) hF rfl (by intro c h;cases h) rfl pX js rfl fun a3 Ew=>?_
 refine wpListIn_nil ?_
 refine wpIn_block ?_
 refine wpIn_rangeFunc fun fn hfn=>?_
 have CD:=(js.alloc (.deferred (some []))).alloc (.loop (jm fn a3.tmps cE ei w1.heap.size))
 have f6:a3.tmps[6]?.getD undef=.func (.func f) #[] cap:=by have:=Ew.get 6;rw[Array.getD_eq_getD_getElem?]at this;exact this
 obtain⟨W1,MP⟩:∃W1,W1=(w1.alloc (.deferred (some []))).alloc (.loop (jm fn a3.tmps cE ei w1.heap.size)):=⟨_,rfl⟩
 rw[←MP]at CD
 refine⟨w1.heap.size+1,[{target:=.collected w1.heap.size,args:=#[]}],W1,{target:=.fn (.func f) cap,args:=#[.func (.yield (w1.heap.size+1)) #[] #[]]},W1,f,#[.func (.yield (w1.heap.size+1)) #[] #[]]++cap,W1,?_,?_,fun _ _=>trivial,?_,fun h=>(by cases h),?_⟩
 ·rw[MP];exact run_enterLoop_outer fn a3.tmps #[7] _ _
 ·simp[resolve,Deferred.ofValue,f6,go_sem]
 ·simp[invoke,go_sem]
  exact dU hc _ _
 have hsz:(w1.alloc (.deferred (some []))).heap.size=w1.heap.size+1:=by simp
 rw[hsz]at CD
 refine CallsIn.mono (hg g (w1.heap.size+1) (APG (w1.heap.size+1) w1.heap.size bs fn a3.tmps cE ei) (fun ss x A X W hG hl hW=>IU Ew.size Ew.get rfl hG (by omega) hW) [_,_,_] W1 ⟨_,[],rfl,aN.nil⟩ CD) ?_
 rintro e W2 ⟨⟨v0,rfl⟩,ss,A',hS,⟨v,C',rfl,ho⟩,SU⟩
 refine⟨none,_,run_endLoop (SU.has _ (.head _)) (by simp[jm]),?_⟩
 have Lh:=SU.putObj (o':=.loop {jm fn a3.tmps cE ei w1.heap.size with state:=.exhausted}) (.head _)
 simp only[Exit.then,Exit.inBlock]
 have Lg:xV [{target:=.collected w1.heap.size,args:=#[]}] 13 {a3 with defers:=[{target:=.collected w1.heap.size,args:=#[]}]++a3.defers} (bT (bT (bT (gS [.slice none 0 0,.func (.func f) #[] cap] 0) (some 2) (ptr bs)) (some 4) (.slice none 0 0)) (some 6) (.func (.func f) #[] cap)):=
  ⟨by rw[Ew.defers];rfl,Ew.size,Ew.get⟩
 refine wpIn_seq ?_
 refine wpIn_region_lit ?_
 obtain⟨H3,Yk⟩:∃H3,H3=(w1.heap.size+1,Obj.loop {jm fn a3.tmps cE ei w1.heap.size with state:=.exhausted})::(((w1.heap.size,.deferred (some []))::(bs,.cells #[v] 27 (0,0))::C')++B):=⟨_,rfl⟩
 replace Lh:Own g H3 (W2.putObj (w1.heap.size+1) (.loop {jm fn a3.tmps cE ei w1.heap.size with state:=.exhausted})):=by rw[Yk];exact Lh
 have e0:x4 Tryz.prog g (e8 AF 4 0) (ev (bT (bT (bT (gS [.slice none 0 0,.func (.func f) #[] cap] 0) (some 2) (ptr bs)) (some 4) (.slice none 0 0)) (some 6) (.func (.func f) #[] cap))) H3 (fun z=>z=v)=Ld H3 (ptr bs) (fun z=>z=v):=by kernel_rfl
 refine gK (g:=g) (n:=13) (v0:=v) hF rfl (by intro c h;cases h) rfl Lg Lh (e0.mpr (Ld.mk (by rw[Yk];exact .tail _ (.tail _ (.head _))) rfl rfl)) fun a5 Lf=>?_
 refine gK (g:=g) (n:=13) (v0:=v) hF rfl (by intro c h;cases h) rfl Lf Lh rfl fun a6 Le=>?_
 refine wpListIn_nil ?_
 refine wpIn_ret ?_
 simp only[Exit.then,bodyPostM]
 rw[Le.defers]
 rw[Yk]at Lh
 refine⟨by simp,.inl ⟨w1.heap.size,_,rfl,run_takeDeferred (Lh.has _ (.tail _ (.head _))),?_⟩⟩
 have UU:=Lh.putObj (o':=.deferred none) (.tail (.head _))
 refine⟨_,results_tmp rfl _ _ _,C'++B,UU.tail.tail.tail,v,C'++B,?_,.refl _,ss,C',hS,rfl,ho⟩
 have:=Le.get 4
 rw[this]
 rfl
end
end Go.Proofs
set_option maxRecDepth 100000
namespace Go.Proofs
open Go Go.Sx
open aE
section
variable {f:FuncId} {cap:Array Value} {B:Hp} {N:Nat} {S:List Nat→Prop}
theorem zj(hg:Dz Tryz.prog f cap B u32 N S)(hc:bh Tryz.prog f=true)(hN:N≤1099511627776):
  Fc Tryz.prog 273 #[.func (.func f) #[] cap] B (fun v H=>∃ss C',S ss∧H=C'++B∧aN 77 .u32 v (iw ss) C'):=by
 intro g
 refine Aa (R:=az _) ?_
 unfold L273
 refine ag.fn .here (EO hg hc hN) ?_
 rintro v H h
 exact az.here h
theorem KC{l':List Int}{ss:List Nat}(h:l'.Perm (iw ss)):∃l:List Nat,l.Perm ss∧l'=iw l:=by
 refine⟨l'.map Int.toNat,?_,?_⟩
 ·have:=h.map Int.toNat
  rw[iw,List.map_map]at this
  have e:(Int.toNat∘(Nat.cast:Nat→Int))=id:=by funext x;simp
  rw[e,List.map_id]at this
  exact this
 ·unfold iw
  rw[List.map_map]
  have:∀x∈l',((Nat.cast:Nat→Int)∘Int.toNat) x=x:=fun x hx=>by
   obtain⟨n,_,rfl⟩:=List.mem_map.1 (h.mem_iff.1 hx)
   simp
  rw[List.map_congr_left this,List.map_id']
theorem DP(hg:Dz Tryz.prog f cap B u32 N S)(hS:∀ss,S ss→ss.length≤N)(hc:bh Tryz.prog f=true)(hN:N≤1099511627776):
  Fc Tryz.prog 250 #[.func (.func f) #[] cap] B (fun v H=>∃ss l C',S ss∧l.Perm ss∧H=C'++B∧aN 77 .u32 v (iw l) C'):=by
 intro g
 refine Aq (R:=az _) ?_
 unfold L250
 refine ag.fn .here (zj hg hc hN) ?_
 rintro v H ⟨ss,C',hs,rfl,ho⟩
 have hlen:=hS ss hs
 refine ag.fn (.left (A:=B)) (Kq ho (by rw[aq];omega)) ?_
 rintro w C2 ⟨rfl,l',hp,ct⟩
 obtain⟨l,hl,rfl⟩:=KC hp
 exact az.here ⟨ss,l,C2,hs,hl,rfl,ct⟩
end
theorem Kv{pt n v:Nat}{T:Nd→Option Nat}{C:Hp}(h:mz pt n T C)(hv:v<n)(hinj:∀d d' r,T d=some r→T d'=some r→d=d')(hb:∀d r,T d=some r→r<1048576):
  Fc Tryz.prog 203 #[ptr pt,.int .i64 (v:Int)] C (fun r H=>∃w l N,r=.tuple #[w,.int .i64 0]∧H=N++C∧aN 77 .u32 w (iw l) N∧l.Nodup∧∀r,r∈l↔∃d,T d=some r∧d.v=v):=by
 have h0:=h
 obtain⟨vs,Cs,ms,rfl,hs,ho⟩:=h
 obtain⟨m,hm⟩:∃m,ms[v]? =some m:=⟨_,List.getElem?_eq_getElem (by rw[ho.len];exact hv)⟩
 have he:=ho.iQ v m hm
 have hT:∀d:Nd,d.v=v→T d=dK m.l d:=fun d hd=>by rw[ho.T,hd,hm];rfl
 have hmem:∀d r,(d,r)∈m.l↔T d=some r∧d.v=v:=fun d r=>by
  constructor
  ·intro hx
   have hd:=ho.var v m hm _ hx
   exact⟨by rw[hT d hd];exact(e9 he.nd).2 hx,hd⟩
  ·rintro⟨h1,h2⟩
   rw[hT d h2]at h1
   exact(e9 he.nd).1 h1
 have iO:(m.l.map Prod.snd).Nodup:=by
  refine List.pairwise_map.2 ((List.pairwise_map.1 he.nd).imp_of_mem fun{a b} ha hb' hne e=>hne ?_)
  have h1:=((hmem a.1 a.2).1 ha).1
  have h2:=((hmem b.1 b.2).1 hb').1
  rw[←e]at h2
  exact hinj _ _ _ h1 h2
 have hlen:m.l.length≤1048576:=by
  have:=bE (l':=List.range 1048576) iO fun x hx=>by
   obtain⟨y,hy,rfl⟩:=List.mem_map.1 hx
   exact List.mem_range.2 (hb _ _ ((hmem y.1 y.2).1 hy).1)
  simpa using this
 intro g
 refine A1 (R:=az _) ?_
 unfold L203
 refine ag.rd .here (lB h0 hv) ?_
 rintro w rfl
 refine ae.c7 (Br.aX (by simp) ?_)
 refine Nil.ptr ?_
 refine aa.mk (Ld.mk (by repeat (first|assumption|exact List.Mem.head _|apply List.Mem.tail|apply List.mem_append_right)) rfl ?_)
 refine hs.On (x:=.map (some m.b)) (by rw[List.getElem?_map,hm];rfl) (fun _ h=>by exact .tail _ (List.mem_append_left _ h)) ?_
 refine ag.fn .here (DH (b:=m.b) _) ?_
 rintro w H ⟨bm,rfl,rfl⟩
 obtain⟨X,Y,hXY⟩:=List.append_of_mem (pT hm)
 have fu:((bm,Obj.cells #[.map (some m.b)] 266 (0,0))::(pt,.cells #[vs] 265 (0,0))::(Cs++D9 ms)).Perm
   ([(bm,.cells #[.map (some m.b)] 266 (0,0)),(m.b,.map m.es m.ck)]++((pt,.cells #[vs] 265 (0,0))::(Cs++(X++Y)))):=by
  rw[hXY]
  refine .cons _ ?_
  show((pt,_)::(Cs++(X++(m.b,_)::Y))).Perm ((m.b,_)::(pt,_)::(Cs++(X++Y)))
  refine .trans (.cons _ ?_) (.swap _ _ _)
  rw[←List.append_assoc,←List.append_assoc]
  exact List.perm_middle
 refine ag.pre (.perm fu) ?_
 refine ag.fn .left (DP (yh he) (fun ss Xe=>by rw[Xe.length_eq,List.length_map];exact Nat.le_refl _) (by kernel_rfl) (by omega)) ?_
 rintro w H ⟨ss,l,C',Xe,hl,rfl,hown⟩
 have vH:l.Perm (m.l.map Prod.snd):=hl.trans Xe
 refine az.mk (j5:=C'++((pt,.cells #[vs] 265 (0,0))::(Cs++D9 ms))) ?_ ⟨w,l,C',rfl,rfl,hown,vH.nodup_iff.2 iO,fun r=>?_⟩
 ·rw[List.append_assoc]
  refine aU.dj ?_ C'
  exact(aU.perm fu.symm).trans .tail
 ·rw[vH.mem_iff,List.mem_map]
  constructor
  ·rintro⟨y,hy,rfl⟩;exact⟨y.1,(hmem y.1 y.2).1 hy⟩
  ·rintro⟨d,hd⟩;exact⟨(d,r),(hmem d r).2 hd,rfl⟩
end Go.Proofs
namespace Go.Sx
open Go
section
variable {P:Program} {g:Gh} {H:Hp} {κ β:Type} [DecidableEq κ] {ke:κ→Value} {vr:Value→β→Prop} {es:Array MapEntry} {ck b:Nat} {m:List (κ×β)} {K:Value→Hp→Prop} {KP:List PanicEntry→Hp→Prop}
omit [DecidableEq κ] in
theorem aR.sameKey(h:aR ke vr es ck m){i:Nat}{k:κ}{x:β}(hi:m[i]? =some (k,x)):es.modify i (fun e=>{e with key:=ke k})=es:=by
 apply Array.ext_getElem?
 intro j
 rw[Array.getElem?_modify]
 split
 ·rename_i e;subst e
  cases he:es[i]? with
  |none=>rfl
  |some e0=>rw[Option.map_some,←(h.key i e0 _ he hi).1]
 ·rfl
theorem aR.LH{o:Oper}{ρ:Operand→Value}{t kt e:TypeId}{kd:TypeDesc}{mo ko:Operand}{z:Value}{k:κ}{y0:β}(hk:∀a b,xS P kt (ke a) (ke b) (decide (a=b)))(hc:∀a,j7 P kt (ke a))(hb:∀a,Instr.sameBits 10000 (ke a) (ke a)=true)
 (ho:o.op=.mapEntry t mo ko)(hm':ρ mo=.map (some b))(hk':ρ ko=ke k)(ht:P.underlying t=some (.map kt e))(CG:P.underlying kt=some kd)(SP:cv kd=true)(hzd:dX P e=some z)(hvz:vr z y0)
 (h:aR ke vr es ck m){c:Obj→Hp}(HS:∀o o',dH b o o' (c o) (c o'))
 (h1:∀es' cu v st,aR ke vr es' cu (if k∈m.map Prod.fst then m else m++[(k,y0)])→(∃e∈es'.toList,e.born=st)→K (.tuple #[v,.int .i64 (st:Int)]) (c (.map es' cu))):mA P g o ρ (c (.map es ck)) K KP:=by
 have sA:(b,Obj.map es ck)∈c (.map es ck):=(HS _ (.map es ck)).mem
 obtain⟨i,hi,sB⟩:=cj hzd
 refine mA.ofValue (s:=Instr.mapEntry t (.map (some b)) (ke k)) (by simp only[execOp,ho,hm',hk']) fun w hw=>?_
 have dR:=fun b=>hc k b w
 rcases h.xl hk k with⟨j,x,e0,g1,g2,g3,g4⟩|⟨g1,g2⟩
 ·have nM:=e7 (P:=P) CG SP g4 w
  have hj:=(Array.getElem?_eq_some_iff.1 g1).1
  have hkey:es[j].key=ke k:=(h.key j _ _ (Array.getElem?_eq_getElem hj) g2).1
  have hmem:k∈m.map Prod.fst:=List.mem_map.2 ⟨_,List.mem_of_getElem? g2,rfl⟩
  obtain⟨w',hs,hown⟩:=bC (P:=P) hw (es.modify j fun e=>{e with key:=ke k}) ck (by rw[h.sameKey g2];exact HS _ (.map es ck))
  refine⟨.tuple #[e0.val,.int .i64 (es[j].born:Int)],w',_,?_,hown,h1 es ck e0.val es[j].born (by rw[if_pos hmem];exact h) ⟨es[j],by simp,rfl⟩⟩
  simp[Instr.mapEntry,run_underlying ht,aS hw sA,dR,nM,hj,Instr.keyThatStays,hkey,hb k,hs,goInt]
 ·have nM:=e7 (P:=P) CG SP g2 w
  obtain⟨w',hs,hown⟩:=bC (P:=P) hw (es.push {key:=ke k,val:=z,born:=ck}) (ck+1) (HS _ _)
  have HC:=h.more (k:=k) g1 hvz
  have e2:fU m k y0=m++[(k,y0)]:=by unfold fU;rw[if_neg g1]
  rw[e2]at HC
  refine⟨.tuple #[z,.int .i64 (ck:Int)],w',_,?_,hown,h1 _ _ z ck (by rw[if_neg g1];exact HC) ⟨_,by rw[Array.toList_push];exact List.mem_append_right _ (.head _),rfl⟩⟩
  simp[Instr.mapEntry,run_underlying ht,aS hw sA,dR,nM,di hi sB,hs,goInt]
omit [DecidableEq κ] in
theorem aR.Kp{o:Oper}{ρ:Operand→Value}{t:TypeId}{mo so xo:Operand}{st:Nat}(ho:o.op=.entryStore t mo so xo)(hm':ρ mo=.map (some b))(hs':ρ so=.int .i64 (st:Int))
 (h:aR ke vr es ck m)(hst:∃e∈es.toList,e.born=st)(hv:∀x,vr (ρ xo) x){c:Obj→Hp}(HS:∀o o',dH b o o' (c o) (c o'))
 (h1:∀es',aR ke vr es' ck m→K undef (c (.map es' ck))):mA P g o ρ (c (.map es ck)) K KP:=by
 have sA:(b,Obj.map es ck)∈c (.map es ck):=(HS _ (.map es ck)).mem
 refine mA.uF (s:=Instr.entryStore t (.map (some b)) (.int .i64 (st:Int)) (ρ xo)) (by simp only[execOp,ho,hm',hs']) fun w hw=>?_
 obtain⟨i,hi⟩:∃i,es.findIdx? (fun e=>(e.born:Int)==(st:Int))=some i:=by
  obtain⟨e,he,rfl⟩:=hst
  rw[←Option.isSome_iff_exists,Array.findIdx?_isSome]
  rw[Array.any_eq_true']
  exact⟨e,by simpa using he,by simp⟩
 obtain⟨w',hs,hown⟩:=bC (P:=P) hw (es.modify i fun e=>{e with val:=ρ xo}) ck (HS _ _)
 have hbn:((es.modify i fun e=>{e with val:=ρ xo}).toList.map MapEntry.born)=es.toList.map MapEntry.born:=by
  apply List.ext_getElem?;intro j
  simp only[List.getElem?_map,Array.getElem?_toList,Array.getElem?_modify]
  split
  ·cases es[j]? <;>rfl
  ·rfl
 refine⟨w',_,?_,hown,h1 _ ⟨by simp[h.len],fun j e x he hx=>?_,h.nd,by rw[hbn];exact h.born,fun e he=>?_⟩⟩
 ·simp only[Instr.entryStore,Sem.run_bind,aS hw sA,Result.andThen_ok,asInt,asIntOf,Sem.run_pure]
  simp only[hi,hs]
 ·rw[Array.getElem?_modify]at he
  split at he
  ·cases h0:es[j]? with
   |none=>rw[h0]at he;simp at he
   |some e0=>
    rw[h0]at he
    simp only[Option.map_some,Option.some.injEq]at he
    subst he
    exact⟨(h.key j _ _ h0 hx).1,hv _⟩
  ·exact h.key j _ _ he hx
 ·have:e.born∈(es.modify i fun e=>{e with val:=ρ xo}).toList.map MapEntry.born:=List.mem_map_of_mem he
  rw[hbn]at this
  obtain⟨e0,h1,h2⟩:=List.mem_map.1 this
  rw[←h2];exact h.lt e0 h1
end
theorem bP.out{C H:Hp}{c:Hp→Hp}(h:bP C H c)(N:Hp):aU (c (N++C)) (N++H):=by
 obtain⟨e,F,hp⟩:=h.spec
 refine .perm ((hp (N++C)).trans ?_)
 rw[List.append_assoc]
 refine List.Perm.append_left N ?_
 have:=hp C
 rw[←e]at this
 exact this.symm
end Go.Sx
set_option maxRecDepth 100000
namespace Go.Proofs
open Go Go.Sx
open aE
section
variable {kp:Nat} {K:Kd} {ord ah tr:List Nat} {C:Hp} {S:Nat→aE.Fn}
def vE(N:dJ)(r:Nat):Int:=match N r with|some d=>(d.v:Int)|none=> -1
theorem xe{N:dJ}{r:Nat}(hl:live N r)(h2:∀d,N r=some d→2≤r):∃lo hi,got N r=[.int .i64 (vE N r),u32 lo,u32 hi]∧∀e,N r=some e→lo=e.lo∧hi=e.hi:=by
 cases h:N r with
 |some d=>
  refine⟨d.lo,d.hi,?_,fun e he=>by cases he;exact⟨rfl,rfl⟩⟩
  rw[cY h (h2 d h)];simp[aV,vE,h]
 |none=>
  have hr:r<2:=by
   rcases hl with hl|⟨d,hd⟩
   ·exact hl
   ·rw[h]at hd;cases hd
  refine⟨r,r,?_,fun e he=>by cases he⟩
  rw[dx hr];simp[vE,h]
theorem wj(h:cc kp K ord ah tr C){r:Nat}(hr:r<4294967296)(hl:live K.N r)(h2:∀d,K.N r=some d→2≤r)(y:Nat):
  Rd Tryz.prog 204 #[ptr kp,u32 r,.int .i64 (y:Int)] C (· =.tuple #[u32 (pl K.N y r),u32 (ph K.N y r)]):=by
 have h0:=h
 obtain⟨b,rfl,hO⟩:=h
 obtain⟨lo,hi,hg,he⟩:=xe hl h2
 intro g
 refine A0 (R:=az _) ?_
 unfold L204
 refine Nil.ptr (aa.mk ?_)
 refine ag.rd .here (kL h0 hr) ?_
 rintro v rfl
 intro b5 _
 refine St.whole (r:=got K.N r) (by exact .head _) rfl (aJ _ _).1 (aJ _ _).2 ?_
 rw[hg]
 refine aa.mk (Ld.mk (by exact .head _) rfl ?_)
 refine ae.jt (Br.dec (fun e=>?_) (fun e=>?_))
 ·refine aa.mk (Ld.mk (by exact .head _) rfl ?_)
  refine aa.mk (Ld.mk (by exact .head _) rfl ?_)
  cases hN:K.N r with
  |none=>simp[vE,hN]at e<;>omega
  |some d=>
   obtain⟨rfl,rfl⟩:=he d hN
   have hv:d.v=y:=by simp[vE,hN]at e;omega
   obtain⟨e1,e2⟩:=Kx hN hv
   exact cr.mk .tail (by rw[e1,e2];rfl)
 ·obtain⟨e1,e2⟩:=Ky (N:=K.N) (y:=y) (r:=r) fun d hd=>by simp[vE,hd]at e<;>omega
  exact cr.mk .tail (by rw[e1,e2])
def fY(c:Cx):List Value:=[u32 c.r,.int .i64 (c.d.v:Int),u32 c.d.lo,u32 c.d.hi,u32 c.sG,u32 c.sF,u32 c.pI,u32 c.pH]
theorem jk(c:Cx):∀x∈fY c,x.oneCell'=true:=by intro x hx;simp[fY,u32]at hx;rcases hx with rfl|rfl|rfl|rfl|rfl|rfl|rfl|rfl<;>rfl
structure sP(N:dJ)(x y:Nat)(l:List Nat)(all:List Cx):Prop where
 nd:(all.map Cx.r).Nodup
 mem:∀c,c∈all↔c.r∈l∧jM N x y c.r c.d∧c=kW N y c.r c.d
theorem sP.skip{N:dJ}{x y r:Nat}{l:List Nat}{all:List Cx}{d:Nd}(h:sP N x y l all)(hd:N r=some d)(hn:¬jM N x y r d):sP N x y (l++[r]) all where
 nd:=h.nd
 mem:=fun c=>by
  rw[h.mem,List.mem_append]
  constructor
  ·rintro⟨h1,h2⟩;exact⟨.inl h1,h2⟩
  ·rintro⟨h1|h1,h2,h3⟩
   ·exact⟨h1,h2,h3⟩
   ·simp at h1
    have:=h2.1
    rw[h1,hd]at this;cases this
    rw[h1]at h2;exact absurd h2 hn
theorem sP.more{N:dJ}{x y r:Nat}{l:List Nat}{all:List Cx}{d:Nd}(h:sP N x y l all)(hr:r∉l)(hn:jM N x y r d):sP N x y (l++[r]) (all++[kW N y r d]) where
 nd:=by
  rw[List.map_append]
  refine List.nodup_append.2 ⟨h.nd,by simp,fun a ha b hb e=>?_⟩
  simp[kW]at hb
  subst e
  obtain⟨c,hc,rfl⟩:=List.mem_map.1 ha
  exact hr (hb▸((h.mem c).1 hc).1)
 mem:=fun c=>by
  rw[List.mem_append,h.mem,List.mem_append,List.mem_singleton,List.mem_singleton]
  constructor
  ·rintro(⟨h1,h2⟩|rfl)
   ·exact⟨.inl h1,h2⟩
   ·exact⟨.inr rfl,hn,rfl⟩
  ·rintro⟨h1|h1,h2,h3⟩
   ·exact .inl ⟨h1,h2,h3⟩
   ·right
    have h4:=h2.1
    rw[h1,hn.1]at h4;cases h4
    exact h3.trans (by rw[h1])
theorem sP.all{N:dJ}{x y:Nat}{l:List Nat}{all:List Cx}(h:sP N x y l all)(hl:∀r d,N r=some d→d.v=x→r∈l):DB N x y all where
 nd:=h.nd
 mem:=fun c=>by
  rw[h.mem]
  exact⟨fun h=>h.2,fun h=>⟨hl _ _ h.1.1 h.1.2.1,h⟩⟩
theorem uG(h:cc kp K ord ah tr C){r:Nat}(hl:live K.N r)(h2:∀d,K.N r=some d→2≤r){H:Hp}{c:Hp→Hp}(hh:bP C H c){g:Gh}{Q:Value→Hp→Prop}{KP:List PanicEntry→Hp→Prop}
 (hk:∀lo hi,got K.N r=[.int .i64 (vE K.N r),u32 lo,u32 hi]→(∀e,K.N r=some e→lo=e.lo∧hi=e.hi)→Q (.agg #[.int .i64 (vE K.N r),u32 lo,u32 hi]) H):ag Tryz.prog g 174 #[ptr kp,u32 r] H Q KP:=by
 have hr:=h.lt hl
 obtain⟨lo,hi,hg,he⟩:=xe hl h2
 refine ag.rd hh (kL h (by omega)) ?_
 rintro v rfl
 have:=hk lo hi hg he
 rw[hg]
 exact this
theorem va(h:cc kp K ord ah tr C)(hok:Ok K S (lv ah)){x y:Nat}(hx:x<K.n):
  Fc Tryz.prog 134 #[ptr kp,.int .i64 (x:Int),.int .i64 (y:Int)] C (fun r H=>∃all Na,H=Na++C∧aQ 203 8 r (all.map fY) Na∧DB K.N x y all∧all.length≤1048576):=by
 have hcap:=h.cap
 have h0:=h
 obtain⟨b,hC,hO⟩:=h
 have KX:∀d r,K.T d=some r↔K.N r=some d:=fun d r=>by rw[hok.mid.iD];exact⟨fun h=>h.1,fun h=>⟨h,fun x=>x⟩⟩
 have two:∀{r d},K.N r=some d→2≤r:=fun hd=>(hok.mid.two hd).1
 intro g
 refine BA (R:=az _) ?_
 unfold L134
 rw[hC]
 refine Nil.ptr (aa.mk (aa.mk ?_))
 refine Ld.mk (v:=ptr b.pt) (by exact .head _) rfl ?_
 refine ag.fn (.cons (.app .left)) (Kv hO.ut hx (fun d d' r h1 h2=>by rw[KX]at h1 h2;rw[h1]at h2;cases h2;rfl) (fun d r h1=>by have:=(hok.mid.two ((KX d r).1 h1)).2;omega)) ?_
 rintro w H ⟨sl,l,Nr,rfl,rfl,OH,iO,hmem⟩
 refine Ext.mk rfl (Ext.mk rfl ?_)
 refine OH.bS ?_
 rw[aq]
 have hl:∀r∈l,∃d,K.N r=some d∧d.v=x:=fun r hr=>by obtain⟨d,h1,h2⟩:=(hmem r).1 hr;exact⟨d,(KX d r).1 h1,h2⟩
 have hlen:l.length≤1048576:=by
  have:=bE (l':=List.range 1048576) iO fun r hr=>by
   obtain⟨d,hd,_⟩:=hl r hr
   have:=(hok.mid.two hd).2
   exact List.mem_range.2 (by omega)
  simpa using this
 refine⟨fun vs H=>∃(v:Value) (i:Nat) (all:List Cx) (Na:Hp),vs=[v,.int .i64 (i:Int)]∧H=Na++(Nr++C)∧i≤l.length∧aQ 203 8 v (all.map fY) Na∧sP K.N x y (l.take i) all∧all.length≤i,
  fun vs _=>l.length-bR vs 1,JE.of (bP.out (C:=b.CT) (.cons (.app .left)) Nr) ⟨_,0,[],[],rfl,by rw[hC];rfl,Nat.zero_le _,aQ.nil _ _,⟨by simp,by simp⟩,Nat.le_refl _⟩,?_⟩
 rintro w w' H ⟨v,i,all,Na,hw,rfl,hi,ho,CP,HZ⟩ gs
 simp only[List.cons.injEq,and_true]at hw
 obtain⟨rfl,rfl⟩:=hw
 refine ae.fq (Br.dec (fun hlt=>?_) (fun hge=>?_))
 rotate_left
 ·have:i=l.length:=by omega
  subst this
  rw[List.take_length]at CP
  refine az.mk (j5:=Na++C) ?_ ⟨all,Na,by rw[hC],ho,CP.all fun r d hd hv=>(hmem r).2 ⟨d,(KX d r).2 hd,hv⟩,by omega⟩
  exact aU.dj .right Na
 obtain⟨r,El⟩:∃r,l[i]? =some r:=⟨_,List.getElem?_eq_getElem hlt⟩
 have gD:l.take (i+1)=l.take i++[r]:=by rw[List.take_add_one,El];rfl
 have Qs:r∉l.take i:=fun hm=>by
  have:(l.take (i+1)).Nodup:=iO.sublist (List.take_sublist _ _)
  rw[gD]at this
  exact(List.nodup_append.1 this).2.2 r hm r (by simp) rfl
 obtain⟨d,hd,nN⟩:=hl r (List.mem_of_getElem? El)
 have O7:=hok.mid.lo hd
 have O8:=hok.mid.hi hd
 intro vx y9
 have next:∀v' I0 QT,aQ 203 8 v' (I0.map fY) QT→sP K.N x y (l.take (i+1)) I0→I0.length≤i+1→vx [v'] (QT++(Nr++C)):=fun v' I0 QT h1 h2 h3=>
  y9 _ _ fun gs=>ae.aK (b:=1) (by simp[aB];omega) (aF.mk ⟨v',i+1,I0,QT,rfl,rfl,by omega,h1,h2,h3⟩ (by simp[bR];omega))
 refine OH.ld (x:=(r:Int)) (cB El) (fun y hy=>List.mem_append_right _ (List.mem_append_left _ hy)) ?_
 refine Nil.ptr (aa.mk ?_)
 refine uG h0 (.inr ⟨d,hd⟩) (fun _ h=>two h) (.app (.app .here)) fun lo hi hg he=>?_
 obtain⟨rfl,rfl⟩:=he d hd
 have hvr:vE K.N r=(x:Int):=by simp[vE,hd,nN]
 rw[hvr]
 intro IQ _
 refine St.whole (r:=[.int .i64 (x:Int),u32 d.lo,u32 d.hi]) (by exact .head _) rfl rfl (by intro z hz;simp[u32]at hz;rcases hz with rfl|rfl|rfl<;>rfl) ?_
 obtain⟨H0,Lo⟩:∃H0,H0=(IQ,Obj.cells #[.int .i64 (x:Int),u32 d.lo,u32 d.hi] 161 (0,0))::(Na++(Nr++C)):=⟨_,rfl⟩
 have hEq:((IQ,Obj.cells [Value.int .i64 (x:Int),u32 d.lo,u32 d.hi].toArray 161 (0,0))::(Na++(Nr++C)))=H0:=Lo.symm
 rw[hEq]
 intro Jh Ig
 have skip:¬jM K.N x y r d→Jh [.bool true] H0:=fun hn=>Ig _ _ fun gs=>Br.yes (JE.of (by rw[Lo];exact .tail) (next w all Na ho (by rw[gD];exact CP.skip hd hn) (by omega)))
 have take:jM K.N x y r d→Jh [.bool false] H0:=fun hn=>by
  refine Ig _ _ fun gs=>Br.no ?_
  rw[Lo]
  refine aC.whole (r:=[.int .i64 (x:Int),u32 d.lo,u32 d.hi]) (by exact .head _) rfl ?_
  refine Build.mk (cs:=fY ⟨r,⟨x,d.lo,d.hi⟩,0,0,0,0⟩) (by kernel_rfl) ?_
  intro PF _
  refine St.whole (r:=fY ⟨r,⟨x,d.lo,d.hi⟩,0,0,0,0⟩) (by exact .head _) rfl rfl (jk _) ?_
  refine aa.mk (Ld.mk (by exact .tail _ (.head _)) rfl ?_)
  refine ag.rd (.cons (.cons (.app (.app .here)))) (wj h0 (by have:=h0.lt O7;omega) O7 (fun _ h=>two h) y) ?_
  rintro w rfl
  refine Ext.mk rfl (Ext.mk rfl ?_)
  refine aa.mk (St.one (by exact .head _) rfl (by simp[fY]) rfl ?_)
  refine aa.mk (St.one (by exact .head _) rfl (by simp[fY]) rfl ?_)
  refine aa.mk (Ld.mk (by exact .tail _ (.head _)) rfl ?_)
  refine ag.rd (.cons (.cons (.app (.app .here)))) (wj h0 (by have:=h0.lt O8;omega) O8 (fun _ h=>two h) y) ?_
  rintro w rfl
  refine Ext.mk rfl (Ext.mk rfl ?_)
  refine aa.mk (St.one (by exact .head _) rfl (by simp[fY]) rfl ?_)
  refine aa.mk (St.one (by exact .head _) rfl (by simp[fY]) rfl ?_)
  have cI:d=⟨x,d.lo,d.hi⟩:=by cases d;simp at nN;subst nN;rfl
  have hcell:fY (kW K.N y r d)=[u32 r,.int .i64 (x:Int),u32 d.lo,u32 d.hi,u32 (pl K.N y d.lo),u32 (ph K.N y d.lo),u32 (pl K.N y d.hi),u32 (ph K.N y d.hi)]:=by
   simp[fY,kW,nN]
  refine aC.whole (r:=fY (kW K.N y r d)) (by rw[hcell];exact .head _) rfl ?_
  refine au.one (e:=203) (z:=.agg #[.int .u32 0,.int .i64 0,.int .u32 0,.int .u32 0,.int .u32 0,.int .u32 0,.int .u32 0,.int .u32 0]) (k:=8) (r:=fY (kW K.N y r d)) (by kernel_rfl) (by kernel_rfl) (by kernel_rfl) (by decide) rfl fun xb=>?_
  refine ho.pG (.cons (.cons (.cons .left))) (by exact .head _) rfl (jk _) ⟨_,rfl,rfl⟩ (by simp;omega) (by simp;omega) fun v' QT ct=>?_
  refine JE.of (.skip (.skip .tail)) (next v' (all++[kW K.N y r d]) QT (by rw[List.map_append];exact ct) (by rw[gD];exact CP.more Qs hn) (by simp;omega))
 refine DR.of (R:=[(IQ,Obj.cells #[.int .i64 (x:Int),u32 d.lo,u32 d.hi] 161 (0,0))]) (by rw[Lo];exact .left (A:=[_])) ?_
 refine Nil.ptr (aa.mk (aa.mk (Ld.mk (by exact .head _) rfl ?_)))
 have heR:aU H0 [(IQ,Obj.cells #[.int .i64 (x:Int),u32 d.lo,u32 d.hi] 161 (0,0))]:=by rw[Lo];exact .left (A:=[_])
 intro F
 rw[Lo]
 refine uG h0 O7 (fun _ h=>two h) (.cons (.app (.app .here))) fun lo1 Sp hg1 JD=>?_
 rw[←Lo]
 refine⟨heR,JU.mk rfl (ae.c7 (Br.dec (fun hne=>?_) (fun he=>?_)))⟩
 ·refine Nil.ptr (aa.mk (aa.mk (Ld.mk (by exact .head _) rfl ?_)))
  intro F2
  rw[Lo]
  refine uG h0 O8 (fun _ h=>two h) (.cons (.app (.app .here))) fun lo2 CJ MI Qz=>?_
  rw[←Lo]
  refine⟨heR,JU.mk rfl (ae.c7 (aA.mk ?_))⟩
  by_cases e2:vE K.N d.hi=(y:Int)
  ·rw[decide_eq_false (by simpa using e2)]
   refine JE.mk (take ⟨hd,nN,.inr ?_⟩)
   cases hN:K.N d.hi with
   |none=>simp[vE,hN]at e2<;>omega
   |some f=>exact⟨f,rfl,by simp[vE,hN]at e2;omega⟩
  ·rw[decide_eq_true (by simpa using e2)]
   refine JE.mk (skip ?_)
   rintro⟨_,_,⟨f,hf,HO⟩|⟨f,hf,HO⟩⟩
   ·exact hne (by simp[vE,hf,HO])
   ·exact e2 (by simp[vE,hf,HO])
 ·have e1:vE K.N d.lo=(y:Int):=by simpa using he
  refine JE.mk (take ⟨hd,nN,.inl ?_⟩)
  cases hN:K.N d.lo with
  |none=>simp[vE,hN]at e1<;>omega
  |some f=>exact⟨f,rfl,by simp[vE,hN]at e1;omega⟩
end
end Go.Proofs
set_option maxRecDepth 100000
namespace Go.Proofs
open Go Go.Sx
open aE
section
def Ve:Value→Int
 | .int _ z=>z
 |_=>0
abbrev Vj(v:Value)(z:Int):Prop:=v=.int .i64 z
def rG(es:Array MapEntry)(ck:Nat)(ks:List Nd):Prop:=∃m:List (Nd×Int),aR nK Vj es ck m∧m.map Prod.fst=ks
theorem rG.empty:rG #[] 0 []:=⟨[],aR.empty,rfl⟩
theorem rG.of{es:Array MapEntry}{ck:Nat}{m:List (Nd×Int)}(h:aR nK (fun v _=>∃z,v=.int .i64 z) es ck m):rG es ck (m.map Prod.fst):=by
 have hlen:es.toList.length=m.length:=by simpa using h.len
 have hz:((es.toList.zip m).map fun p=>((p.2.1,Ve p.1.val):Nd×Int)).map Prod.fst=m.map Prod.fst:=by
  rw[List.map_map]
  have:(Prod.fst∘fun(p:MapEntry×(Nd×Int))=>((p.2.1,Ve p.1.val):Nd×Int))=Prod.fst∘Prod.snd:=rfl
  rw[this,←List.map_map,List.map_snd_zip (by omega)]
 refine⟨_,⟨?_,fun i e x he hx=>?_,by rw[hz];exact h.nd,h.born,h.lt⟩,hz⟩
 ·simp[h.len]
 ·have hi:=(Array.getElem?_eq_some_iff.1 he).1
  have CJ:i<m.length:=by rw[←h.len];exact hi
  have hm:m[i]? =some m[i]:=List.getElem?_eq_getElem CJ
  obtain⟨h1,z,h2⟩:=h.key i e _ he hm
  have hx':x=(m[i].1,Ve e.val):=by
   have e1:es.toList[i]? =some e:=by rw[Array.getElem?_toList];exact he
   rw[List.getElem?_map,(List.getElem?_zip_eq_some (z:=(e,m[i]))).2 ⟨e1,hm⟩]at hx
   simpa using hx.symm
  subst hx'
  exact⟨h1,by rw[h2];rfl⟩
theorem Own.sub{g:Gh}{H:Hp}{w:World}(h:Own g H w){y:Nat×Obj}(hy:y∈H):Own g [y] w:=by
 obtain⟨X,Y,rfl⟩:=List.append_of_mem hy
 exact(h.perm List.perm_middle).left (A:=[y])
noncomputable abbrev FF:Func:=Tryz.f136
theorem six{i:Nat}(hi:i<6):¬GS .any (lY FF 10) i 6:=fun h=>by
 have e6:(lY FF 10)[6]? =some (e8 FF 10 6):=by kernel_rfl
 have:=h _ e6
 have hm:(⟨i,.phase⟩:Edge)∈(e8 FF 10 6).after:=by
  have ea:(e8 FF 10 6).after=#[⟨0,.data⟩,⟨5,.data⟩,⟨3,.data⟩,⟨4,.chain⟩,⟨0,.phase⟩,⟨1,.phase⟩,⟨2,.phase⟩,⟨3,.phase⟩,⟨4,.phase⟩,⟨5,.phase⟩]:=by kernel_rfl
  rw[ea]
  rcases i with _|_|_|_|_|_|i
  all_goals first|omega|simp
 exact this _ hm rfl rfl
end
end Go.Proofs
set_option maxRecDepth 100000
namespace Go.Proofs
open Go Go.Sx
open aE
section
def De(ops:Array Oper)(listed:Array Bool):Bool:=(List.range ops.size).all fun j=>match ops[j]? with
 |some oj=> !listed.getD j true||oj.after.toList.all fun e=> !Region.binds .any e||listed.getD e.on true
 |none=>true
theorem fh{ops:Array Oper}{listed:Array Bool}(h:De ops listed=true):dP .any ops listed:=by
 intro j oj hj hl e he hb
 unfold De at h
 have h1:=List.all_eq_true.1 h j (List.mem_range.2 (Array.getElem?_eq_some_iff.1 hj).1)
 simp only[hj,hl,Bool.not_true,Bool.false_or]at h1
 have h2:=List.all_eq_true.1 h1 e (Array.mem_toList_iff.2 he)
 rw[hb]at h2
 simpa using h2
theorem KU{g:Gh}{mb nb:Nat}{es:Array MapEntry}{ck:Nat}{ks:List Nd}{d:Nd}(hmk:rG es ck ks){c:Obj→Hp}(HS:∀o o',dH mb o o' (c o) (c o'))(SG:∀o,(nb,Obj.cells (aV d).toArray 161 (0,0))∈c o){K:Hp→Prop}
 (hk:∀es' cu,rG es' cu (if d∈ks then ks else ks++[d])→K (c (.map es' cu))):
  PN Tryz.prog g 10 (lY FF 10) [7,11] [.map (some mb),ptr nb] (c (.map es ck)) K:=by
 have hm:(mb,Obj.map es ck)∈c (.map es ck):=(HS _ (.map es ck)).mem
 have hn:=SG (.map es ck)
 obtain⟨m,hE,rfl⟩:=hmk
 intro a w hok hvs hw
 simp only[List.map_cons,List.map_nil,List.cons.injEq,and_true]at hvs
 obtain⟨h7,h11⟩:=hvs
 obtain⟨n,ME⟩:∃n,n=a.tmps.size:=⟨_,rfl⟩
 obtain⟨fr,hfr⟩:∃fr:Fr,fr=fun s=>a.tmps.getD s undef:=⟨_,rfl⟩
 have ha:bV a.defers n a fr:=⟨rfl,ME.symm,fun s=>by rw[hfr]⟩
 have f7:fr 7=.map (some mb):=by rw[hfr];exact h7
 have f11:fr 11=ptr nb:=by rw[hfr];exact h11
 rw[←ME]at hok
 have eok:fT n (lY FF 10).toList=(Nat.blt 58 n&& (Nat.blt 59 n&& (Nat.blt 60 n&& (Nat.blt 61 n&& (Nat.blt 62 n&& (Nat.blt 63 n&& (true&&true))))))):=by kernel_rfl
 rw[eok]at hok
 simp only[Bool.and_eq_true,Bool.and_true]at hok
 obtain⟨k58,k59,k60,k61,k62,k63⟩:=hok
 refine wp_region_any (by kernel_rfl) ?_
 obtain⟨z0,Jz⟩:∃z0:Int,z0=(dK m d).getD 0:=⟨_,rfl⟩
 obtain⟨S0,JI⟩:∃S0:World→Prop,S0=fun w=>Own g [(nb,Obj.cells (aV d).toArray 161 (0,0))] w∧(Instr.lookup 285 (.map (some mb)) (nK d) false).run Tryz.prog w=.ok (.int .i64 z0) w:=⟨_,rfl⟩
 have look:∀{es':Array MapEntry} {cu:Nat} {m':List (Nd×Int)} {H':Hp} {w':World},aR nK Vj es' cu m'→(mb,Obj.map es' cu)∈H'→Own g H' w'→(dK m' d).getD 0=z0→(Instr.lookup 285 (.map (some mb)) (nK d) false).run Tryz.prog w'=.ok (.int .i64 z0) w':=by
  intro es' cu m' H' w' h1 h2 h3 h4
  have hL:iA Tryz.prog 161 (.int .i64 0) false H' (.map (some mb)) (nK d) (· =.int .i64 z0):=by
   cases hg:dK m' d with
   |some z=>exact aR.Er (ke:=nK) (k:=d) nB jE h1 h2 hg (by rintro v rfl;rw[hg]at h4;simp at h4;rw[h4];rfl)
   |none=>exact aR.tf (ke:=nK) (k:=d) nB jE h1 h2 hg (by rw[hg]at h4;simp at h4;rw[←h4];rfl)
  obtain⟨v,hr,rfl⟩:=hL.run (P:=Tryz.prog) h3 (t:=285) (kt:=161) (e:=3) (kd:=.struct (Tryz.prog.fieldsOf 161)) (i:=(Tryz.prog.info? 3).get (by kernel_rfl)) (by kernel_rfl) Ck rfl (by kernel_rfl) (by kernel_rfl)
  exact hr
 have My:=hw.tK
 have s0:S0 {w with drawn:=w.drawn+1}:=by rw[JI];exact⟨Own.sub My hn,look hE hm My Jz.symm⟩
 have SX:∀{o:Oper} {v:Value} (c:List PanicEntry) (a':Act) (w':World),(fun(e:Exit) (a':Act) (w':World)=>e=.normal∧a'.defers=a.defers∧a'.tmps.size=a.tmps.size∧(∀s,bp (lY FF 10).toList s=false→a'.tmps.getD s undef=a.tmps.getD s undef)∧∃H',Own g H' w'∧K H') (.panic c) (a'.put o.dst v) w'→
   (fun(e:Exit) (a':Act) (w':World)=>e=.normal∧a'.defers=a.defers∧a'.tmps.size=a.tmps.size∧(∀s,bp (lY FF 10).toList s=false→a'.tmps.getD s undef=a.tmps.getD s undef)∧∃H',Own g H' w'∧K H') (.panic c) a' w':=by
  rintro _ _ _ _ _ ⟨h,_⟩;cases h
 have hsel:Region.noSelect (lY FF 10)=true:=by kernel_rfl
 have hkeep:∀i,i<6→∀(j:Nat) (oj:Oper) (w w':World),(lY FF 10)[j]? =some oj→j≠i→¬lg .any (lY FF 10) i j→S0 w→(j≠6→S0 w→S0 w')→S0 w':=fun i hi j oj w w' _ _ hno h0 hs=>by
  by_cases e:j=6
  ·subst e;exact absurd (fun oj gh e he hb heq=>hno (.one gh he hb heq)) (six hi)
  ·exact hs e h0
 refine cG.any (S:=fun j w w'=>j≠6→S0 w→S0 w') ?_
 have hsz:(lY FF 10).size=7:=by kernel_rfl
 rw[hsz]
 refine cG.take (fh (by kernel_rfl)) (S0:=S0) (i:=0) (oi:=e8 FF 10 0) (v:=.map (some mb)) (by kernel_rfl) hsel (by kernel_rfl) (by kernel_rfl) SX (fun _ h _ _=>h) (hkeep 0 (by decide)) (.inl ⟨rfl,fun w hw=>?_⟩) s0 ?_
 ·rw[ha.eval];have:(execOp (ev fr) (e8 FF 10 0))=pure (.value (fr 7)):=rfl
  rw[this,f7];rfl
 have CX:=ha.put (d:=some 58) k58 (.map (some mb))
 change cG _ _ _ _ _ 6 _ (a.put (some 58) (.map (some mb))) _
 refine cG.take (fh (by kernel_rfl)) (S0:=S0) (i:=1) (oi:=e8 FF 10 1) (v:=nK d) (by kernel_rfl) hsel (by kernel_rfl) (by kernel_rfl) SX (fun _ h _ _=>h) (hkeep 1 (by decide)) (.inl ⟨rfl,fun w hw=>?_⟩) s0 ?_
 ·rw[CX.eval]
  have e:x4 Tryz.prog g (e8 FF 10 1) (ev (bT fr (some 58) (.map (some mb)))) [(nb,Obj.cells (aV d).toArray 161 (0,0))] (fun v=>v=nK d)=aC 3 [(nb,Obj.cells (aV d).toArray 161 (0,0))] (fr 11) (fun v=>v=nK d):=by kernel_rfl
  obtain⟨v,rfl,hr,_⟩:=lH (e.mpr (by rw[f11];exact aC.whole (r:=aV d) (.head _) rfl rfl))
  rw[JI]at hw
  exact hr _ hw.1
 have pX:=CX.put (d:=some 59) k59 (nK d)
 change cG _ _ _ _ _ 5 _ ((a.put (some 58) (.map (some mb))).put (some 59) (nK d)) _
 refine cG.take (fh (by kernel_rfl)) (S0:=S0) (i:=2) (oi:=e8 FF 10 2) (v:=.int .i64 z0) (by kernel_rfl) hsel (by kernel_rfl) (by kernel_rfl) SX (fun _ h _ _=>h) (hkeep 2 (by decide)) (.inl ⟨rfl,fun w hw=>?_⟩) s0 ?_
 ·rw[pX.eval]
  have e:execOp (ev (bT (bT fr (some 58) (.map (some mb))) (some 59) (nK d))) (e8 FF 10 2)=(do pure (.value (←Instr.lookup 285 (.map (some mb)) (nK d) false))):=rfl
  rw[JI]at hw
  rw[e]
  simp only[Sem.run_bind,hw.2,Result.andThen_ok,Sem.run_pure]
 have Ew:=pX.put (d:=some 60) k60 (.int .i64 z0)
 change cG _ _ _ _ _ 4 _ (((a.put (some 58) (.map (some mb))).put (some 59) (nK d)).put (some 60) (.int .i64 z0)) _
 refine cG.take (fh (by kernel_rfl)) (S0:=S0) (i:=3) (oi:=e8 FF 10 3) (v:=.int .i64 (IntKind.i64.wrap (z0+1))) (by kernel_rfl) hsel (by kernel_rfl) (by kernel_rfl) SX (fun _ h _ _=>h) (hkeep 3 (by decide)) (.inl ⟨rfl,fun w hw=>?_⟩) s0 ?_
 ·rw[Ew.eval]
  have e:x4 Tryz.prog g (e8 FF 10 3) (ev (bT (bT (bT fr (some 58) (.map (some mb))) (some 59) (nK d)) (some 60) (.int .i64 z0))) [(nb,Obj.cells (aV d).toArray 161 (0,0))] (fun v=>v=.int .i64 (IntKind.i64.wrap (z0+1)))=ae .num .add (.int .i64 z0) (.int .i64 1) (fun v=>v=.int .i64 (IntKind.i64.wrap (z0+1))):=by kernel_rfl
  obtain⟨v,rfl,hr,_⟩:=lH (e.mpr (ae.add rfl))
  rw[JI]at hw
  exact hr _ hw.1
 have Lg:=Ew.put (d:=some 61) k61 (.int .i64 (IntKind.i64.wrap (z0+1)))
 change cG _ _ _ _ _ 3 _ ((((a.put (some 58) (.map (some mb))).put (some 59) (nK d)).put (some 60) (.int .i64 z0)).put (some 61) (.int .i64 (IntKind.i64.wrap (z0+1)))) _
 generalize (((a.put (some 58) (.map (some mb))).put (some 59) (nK d)).put (some 60) (.int .i64 z0)).put (some 61) (.int .i64 (IntKind.i64.wrap (z0+1)))=a4 at Lg
 refine cG.all (rs:=[4]) (by kernel_rfl) (by simp) fun i hi=>?_
 simp only[List.mem_singleton]at hi
 subst hi
 have e4:(lY FF 10)[4]? =some (e8 FF 10 4):=by kernel_rfl
 unfold wpOp
 rw[e4]
 simp only
 rw[if_pos (show Region.wanted (e8 FF 10 4) (yielded (lY FF 10) a4.tmps)=true from rfl)]
 refine .inl ?_
 show(e8 FF 10 4).upon Tryz.prog a4 _ _ ((execOp a4.eval (e8 FF 10 4)).run Tryz.prog _)
 rw[Lg.eval]
 refine lA.upon (g:=g) (KP:=fun _ _=>False) (aR.LH (K:=fun v H'=>∃es' cu v0 st,aR nK Vj es' cu (if d∈m.map Prod.fst then m else m++[(d,0)])∧(∃e∈es'.toList,e.born=st)∧H'=c (.map es' cu)∧v=.tuple #[v0,.int .i64 (st:Int)])
  (t:=285) (kt:=161) (e:=3) (z:=.int .i64 0) (k:=d) (y0:=(0:Int)) nB jE Cn (o:=e8 FF 10 4) (mo:=.tmp 58) (ko:=.tmp 59) rfl rfl rfl (by kernel_rfl) Ck rfl (by kernel_rfl) rfl hE HS
  (fun es' cu v st h1 h2=>⟨es',cu,v,st,h1,h2,rfl,rfl⟩) _ My) ?_ (fun _ _ _ _ h=>h.elim)
 rintro v H1 w1 js ⟨Iy,Df,v0,st,Yo,hst,rfl,rfl⟩
 have y4:(nb,Obj.cells (aV d).toArray 161 (0,0))∈c (.map Iy Df):=SG _
 have FI:(mb,Obj.map Iy Df)∈c (.map Iy Df):=(HS _ (.map Iy Df)).mem
 have s1:S0 w1:=by
  rw[JI]
  refine⟨Own.sub js y4,look Yo FI js ?_⟩
  rw[Jz]
  split
  ·rfl
  ·rename_i cI
   have e1:=fA.2 cI
   have e2:dK (m++[(d,0)]) d=some 0:=(e9 (by
    have:=Yo.nd;rw[if_neg cI]at this;exact this)).2 (by simp)
   rw[e1,e2];rfl
 refine⟨fun _ _=>s1,?_⟩
 have Lf:=Lg.put (d:=some 62) k62 (.tuple #[v0,.int .i64 (st:Int)])
 change cG _ _ _ _ _ 2 _ (a4.put (some 62) (.tuple #[v0,.int .i64 (st:Int)])) _
 generalize a4.put (some 62) (.tuple #[v0,.int .i64 (st:Int)])=a5 at Lf
 refine cG.take (fh (by kernel_rfl)) (S0:=S0) (i:=5) (oi:=e8 FF 10 5) (v:=.int .i64 (st:Int)) (by kernel_rfl) hsel (by kernel_rfl) (by kernel_rfl) SX (fun _ h _ _=>h) (hkeep 5 (by decide)) (.inl ⟨rfl,fun w hw=>?_⟩) s1 ?_
 ·rw[Lf.eval]
  obtain⟨v,rfl,hr,_⟩:=lH (P:=Tryz.prog) (g:=g) (o:=e8 FF 10 5) (H:=[(nb,Obj.cells (aV d).toArray 161 (0,0))]) (k:=fun v=>v=.int .i64 (st:Int))
   (ρ:=ev (bT (bT (bT (bT (bT fr (some 58) (.map (some mb))) (some 59) (nK d)) (some 60) (.int .i64 z0)) (some 61) (.int .i64 (IntKind.i64.wrap (z0+1)))) (some 62) (.tuple #[v0,.int .i64 (st:Int)]))) ⟨_,_,rfl,rfl,rfl⟩
  rw[JI]at hw
  exact hr _ hw.1
 have Le:=Lf.put (d:=some 63) k63 (.int .i64 (st:Int))
 change cG _ _ _ _ _ 1 _ (a5.put (some 63) (.int .i64 (st:Int))) _
 generalize a5.put (some 63) (.int .i64 (st:Int))=a6 at Le
 refine cG.all (rs:=[6]) (by kernel_rfl) (by simp) fun i hi=>?_
 simp only[List.mem_singleton]at hi
 subst hi
 have e6:(lY FF 10)[6]? =some (e8 FF 10 6):=by kernel_rfl
 unfold wpOp
 rw[e6]
 simp only
 rw[if_pos (show Region.wanted (e8 FF 10 6) (yielded (lY FF 10) a6.tmps)=true from rfl)]
 refine .inl ?_
 show(e8 FF 10 6).upon Tryz.prog a6 _ _ ((execOp a6.eval (e8 FF 10 6)).run Tryz.prog _)
 rw[Le.eval]
 refine lA.upon (g:=g) (KP:=fun _ _=>False) (aR.Kp (vr:=fun v _=>∃z:Int,v=.int .i64 z) (K:=fun _ H'=>∃es',aR nK (fun v _=>∃z:Int,v=.int .i64 z) es' Df (if d∈m.map Prod.fst then m else m++[(d,0)])∧H'=c (.map es' Df))
  (o:=e8 FF 10 6) (t:=285) (mo:=.tmp 58) (so:=.tmp 63) (xo:=.tmp 61) rfl rfl rfl (Yo.mono fun v z h=>⟨z,h⟩) hst (fun _=>⟨_,rfl⟩) HS
  (fun es' h1=>⟨es',h1,rfl⟩) _ js) ?_ (fun _ _ _ _ h=>h.elim)
 rintro v H2 w2 pW ⟨LG,Lp,rfl⟩
 refine⟨fun h=>absurd rfl h,?_⟩
 have QD:bV a.defers n a6 _:=Le
 change cG _ _ _ _ _ 0 _ a6 _
 refine cG.done (by kernel_rfl) ⟨rfl,QD.defers,by rw[QD.size,ME],fun s hs=>?_,_,pW,hk LG Df ?_⟩ 0
 ·have eD:bp (lY FF 10).toList s=(Nat.beq s 58||(Nat.beq s 59||(Nat.beq s 60||(Nat.beq s 61||(Nat.beq s 62||(Nat.beq s 63||(false||false))))))):=by kernel_rfl
  rw[eD]at hs
  simp only[Bool.or_eq_false_iff]at hs
  rw[QD.get]
  simp only[bT,hs,cond_false]
  rw[hfr]
 ·have:=rG.of Lp
  have e:(if d∈m.map Prod.fst then m else m++[(d,(0:Int))]).map Prod.fst=if d∈m.map Prod.fst then m.map Prod.fst else m.map Prod.fst++[d]:=by
   split<;>simp
  rw[e]at this
  exact this
end
end Go.Proofs
set_option maxRecDepth 100000
namespace Go.Proofs
open Go Go.Sx
open aE
section
variable {kp:Nat} {K:Kd} {ord ah tr:List Nat} {C:Hp} {S:Nat→aE.Fn}
theorem IG{H:Hp}(a b:Nd){K:Value→Hp→Prop}(h:∀x,K (.slice (some ⟨x,0,none⟩) 2 2) ((x,.cells (rows [aV a,aV b]) 161 (0,0))::H)):
  au Tryz.prog 286 2 [(0,nK a),(1,nK b)] H K:=by
 refine⟨rows [aV a,aV b],161,3,.agg #[.int .i64 0,.int .u32 0,.int .u32 0],by kernel_rfl,by kernel_rfl,by kernel_rfl,by decide,?_,fun x _=>h x⟩
 have e1:Array.range (2*3)=#[0,1,2,3,4,5]:=rfl
 simp[Instr.fill,Value.cells,nK,aV,e1,rows,u32]
def fI(K:Kd)(x:Nat)(l:List Cx)(ks:List Nd)(m:List Nd):Prop:=m.Nodup∧∀k,k∈m↔((∃c∈l,k∈keys x c)∨k∈ks)∧K.T k=none∧k.lo≠k.hi
theorem fI.step{x:Nat}{l:List Cx}{ks m:List Nd}{d:Nd}(h:fI K x l ks m)(hd:K.T d=none∧d.lo≠d.hi):fI K x l (ks++[d]) (if d∈m then m else m++[d]):=by
 obtain⟨h1,h2⟩:=h
 constructor
 ·split
  ·exact h1
  ·rename_i hn
   exact List.nodup_append.2 ⟨h1,by simp,fun a ha b hb e=>by simp at hb;subst hb;subst e;exact hn ha⟩
 ·intro k
  by_cases hm:d∈m
  ·rw[if_pos hm,h2,List.mem_append,List.mem_singleton]
   constructor
   ·rintro⟨h3|h3,h4⟩
    ·exact⟨.inl h3,h4⟩
    ·exact⟨.inr (.inl h3),h4⟩
   ·rintro⟨h3|h3|rfl,h4⟩
    ·exact⟨.inl h3,h4⟩
    ·exact⟨.inr h3,h4⟩
    ·exact(h2 _).1 hm
  ·rw[if_neg hm,List.mem_append,List.mem_singleton,h2,List.mem_append,List.mem_singleton]
   constructor
   ·rintro(⟨h3|h3,h4⟩|rfl)
    ·exact⟨.inl h3,h4⟩
    ·exact⟨.inr (.inl h3),h4⟩
    ·exact⟨.inr (.inr rfl),hd⟩
   ·rintro⟨h3|h3|rfl,h4⟩
    ·exact .inl ⟨.inl h3,h4⟩
    ·exact .inl ⟨.inr h3,h4⟩
    ·exact .inr rfl
theorem fI.skip{x:Nat}{l:List Cx}{ks m:List Nd}{d:Nd}(h:fI K x l ks m)(hd:¬(K.T d=none∧d.lo≠d.hi)):fI K x l (ks++[d]) m:=by
 obtain⟨h1,h2⟩:=h
 refine⟨h1,fun k=>?_⟩
 rw[h2,List.mem_append,List.mem_singleton]
 constructor
 ·rintro⟨h3|h3,h4⟩
  ·exact⟨.inl h3,h4⟩
  ·exact⟨.inr (.inl h3),h4⟩
 ·rintro⟨h3|h3|rfl,h4⟩
  ·exact⟨.inl h3,h4⟩
  ·exact⟨.inr h3,h4⟩
  ·exact absurd h4 hd
theorem fI.uu{x:Nat}{l:List Cx}{c:Cx}{m:List Nd}(h:fI K x l (keys x c) m):fI K x (l++[c]) [] m:=by
 obtain⟨h1,h2⟩:=h
 refine⟨h1,fun k=>?_⟩
 rw[h2]
 constructor
 ·rintro⟨⟨c',hc,hk⟩|h3,h4⟩
  ·exact⟨.inl ⟨c',List.mem_append_left _ hc,hk⟩,h4⟩
  ·exact⟨.inl ⟨c,by simp,h3⟩,h4⟩
 ·rintro⟨⟨c',hc,hk⟩|h3,h4⟩
  ·rcases List.mem_append.1 hc with hc|hc
   ·exact⟨.inl ⟨c',hc,hk⟩,h4⟩
   ·simp at hc;subst hc;exact⟨.inr hk,h4⟩
  ·cases h3
theorem Ir(h:cc kp K ord ah tr C){x:Nat}(hx:x<K.n){v:Value}{all:List Cx}{Na:Hp}(ha:aQ 203 8 v (all.map fY) Na)(hlen:all.length≤1048576):
  Rd Tryz.prog 136 #[ptr kp,.int .i64 (x:Int),v] (Na++C) (fun r=>∃made,r=.int .i64 ((made.length:Nat):Int)∧Made K x all made):=by
 have h0:=h
 obtain⟨b,hC,hO⟩:=h
 intro g
 refine By (R:=az _) ?_
 unfold L136
 intro mb _
 refine ha.bS ?_
 rw[List.length_map]
 refine⟨fun vs H=>∃(i:Nat) (es:Array MapEntry) (ck:Nat) (m:List Nd),vs=[.int .i64 (i:Int)]∧H=(mb,.map es ck)::(Na++C)∧i≤all.length∧rG es ck m∧fI K x (all.take i) [] m,
  fun vs _=>all.length-bR vs 0,JE.mk ⟨0,_,_,[],rfl,rfl,Nat.zero_le _,rG.empty,by simp,by simp⟩,?_⟩
 rintro w H ⟨i,es,ck,m,hw,rfl,hi,hmk,KY⟩ gs
 simp only[List.cons.injEq,and_true]at hw
 subst hw
 refine ae.fq (Br.dec (fun hlt=>?_) (fun hge=>?_))
 rotate_left
 ·have:i=all.length:=by omega
  subst this
  rw[List.take_length]at KY
  obtain⟨m',he,rfl⟩:=hmk
  refine aR.Of he (.head _) ?_
  refine cr.mk .tail ⟨m'.map Prod.fst,by rw[List.length_map],KY.1,fun k=>?_⟩
  rw[KY.2]
  constructor
  ·rintro⟨h3|h3,h4⟩
   ·exact⟨h3,h4⟩
   ·cases h3
  ·rintro⟨h3,h4⟩;exact⟨.inl h3,h4⟩
 obtain⟨c,kg⟩:∃c,all[i]? =some c:=⟨_,List.getElem?_eq_getElem hlt⟩
 have gD:all.take (i+1)=all.take i++[c]:=by rw[List.take_add_one,kg];rfl
 refine ha.Cp (r:=fY c) (by rw[List.getElem?_map,kg];rfl) (fun y hy=>.tail _ (List.mem_append_left _ hy)) ?_
 intro zv _
 refine St.whole (r:=fY c) (by exact .head _) rfl rfl (jk _) ?_
 refine aa.mk (Ld.mk (by exact .head _) rfl ?_)
 refine aa.mk (Ld.mk (by exact .head _) rfl ?_)
 refine Build.mk (cs:=aV ⟨x,c.sG,c.pI⟩) (by kernel_rfl) ?_
 refine aa.mk (Ld.mk (by exact .head _) rfl ?_)
 refine aa.mk (Ld.mk (by exact .head _) rfl ?_)
 refine Build.mk (cs:=aV ⟨x,c.sF,c.pH⟩) (by kernel_rfl) ?_
 refine IG _ _ fun xb=>?_
 refine bA.mk ?_
 refine⟨fun vs H=>∃(j:Nat) (es:Array MapEntry) (ck:Nat) (m:List Nd),vs=[.int .i64 (j:Int)]∧H=(xb,.cells (rows [aV ⟨x,c.sG,c.pI⟩,aV ⟨x,c.sF,c.pH⟩]) 161 (0,0))::(mb,.map es ck)::(Na++C)∧j≤2∧rG es ck m∧fI K x (all.take i) ((keys x c).take j) m,
  fun vs _=>2-bR vs 0,JE.of (.cons .tail) ⟨0,es,ck,m,rfl,rfl,Nat.zero_le _,hmk,KY⟩,?_⟩
 clear hmk KY
 rintro w H ⟨j,es,ck,m,hw,rfl,hj,hmk,KY⟩ gs
 simp only[List.cons.injEq,and_true]at hw
 subst hw
 refine ae.fq (b:=2) (Br.dec (fun iG=>?_) (fun hge=>?_))
 rotate_left
 ·have:j=2:=by omega
  subst this
  refine ae.aK (b:=1) (by simp[aB];omega) ?_
  refine aF.of .tail ⟨i+1,es,ck,m,rfl,rfl,by omega,hmk,?_⟩ (by simp[bR];omega)
  rw[gD]
  exact fI.uu KY
 obtain⟨d,CK,nN⟩:∃d,(keys x c)[j]? =some d∧d.v=x:=by
  rcases j with _|_|j
  ·exact⟨_,rfl,rfl⟩
  ·exact⟨_,rfl,rfl⟩
  ·omega
 have htj:(keys x c).take (j+1)=(keys x c).take j++[d]:=by rw[List.take_add_one,CK];rfl
 have hrow:[aV ⟨x,c.sG,c.pI⟩,aV ⟨x,c.sF,c.pH⟩][j]? =some (aV d):=by
  have:[aV ⟨x,c.sG,c.pI⟩,aV ⟨x,c.sF,c.pH⟩]=(keys x c).map aV:=rfl
  rw[this,List.getElem?_map,CK];rfl
 intro Uc Ye
 have next:∀es' cu m' H',rG es' cu m'→fI K x (all.take i) ((keys x c).take (j+1)) m'→aU H' ((xb,.cells (rows [aV ⟨x,c.sG,c.pI⟩,aV ⟨x,c.sF,c.pH⟩]) 161 (0,0))::(mb,.map es' cu)::(Na++C))→JE Uc [] H':=fun es' cu m' H' h1 h2 h3=>
  JE.mk (Ye _ fun gs=>ae.aK (b:=1) (by simp[aB];omega) (aF.of h3 ⟨j+1,es',cu,m',rfl,rfl,by omega,h1,h2⟩ (by simp[bR];omega)))
 refine ai.nat iG ?_
 have hmem:(xb,Obj.cells (rows [aV ⟨x,c.sG,c.pI⟩,aV ⟨x,c.sF,c.pH⟩]) 161 (0,0))∈(xb,Obj.cells (rows [aV ⟨x,c.sG,c.pI⟩,aV ⟨x,c.sF,c.pH⟩]) 161 (0,0))::(mb,.map es ck)::(Na++C):=.head _
 refine aC.row (k:=3) hmem (by simp[aV]) hrow ?_
 intro PD _
 refine St.whole (r:=aV d) (by exact .head _) rfl rfl (fun z hz=>by simp[aV,u32]at hz;rcases hz with rfl|rfl|rfl<;>rfl) ?_
 refine DR.self ?_
 rw[hC]
 refine Nil.ptr (aa.mk (aa.mk (Ld.mk (v:=ptr b.pt) (.tail _ (.tail _ (.tail _ (List.mem_append_right _ (.head _))))) rfl ?_)))
 refine aC.whole (r:=aV d) (by exact .head _) rfl ?_
 refine ag.rd (.cons (.cons (.cons (.app (.cons (.app .left)))))) (pY (d:=d) hO.ut (by rw[nN];exact hx)) ?_
 rintro w rfl
 refine⟨.refl _,Ext.mk rfl (Ext.mk rfl (Un.not ?_))⟩
 have MD:(!(K.T d).isSome)=decide (K.T d=none):=by cases K.T d<;>simp
 rw[MD]
 refine cw.and (decide (d.lo≠d.hi)) (fun _=>?_) rfl fun gs=>?_
 ·refine aa.mk (Ld.mk (by exact .head _) rfl ?_)
  refine aa.mk (Ld.mk (by exact .head _) rfl ?_)
  exact ae.GX ⟨rfl,rfl⟩
 rw[←Bool.decide_and]
 rw[←hC]
 refine Br.dec (fun hd=>?_) (fun hd=>?_)
 ·refine KU hmk (c:=fun o=>(PD,.cells (aV d).toArray 161 (0,0))::(xb,.cells (rows [aV ⟨x,c.sG,c.pI⟩,aV ⟨x,c.sF,c.pH⟩]) 161 (0,0))::(mb,o)::(Na++C)) (fun o o'=>.tail (.tail (.head _))) (fun o=>.head _) fun es' cu h1 gs=>?_
  exact next es' cu _ _ h1 (by rw[htj];exact KY.step hd) .tail
 ·exact next es ck m _ hmk (by rw[htj];exact KY.skip hd) .tail
end
end Go.Proofs
set_option maxRecDepth 100000
namespace Go.Proofs
open Go Go.Sx
open aE
def g8(l:List Cx):Nat→Nat:=fun s=>(l.map fun c=>e1 (some c.d) s).sum
theorem lG(c:Cx)(l:List Cx)(s:Nat):g8 (c::l) s=e1 (some c.d) s+g8 l s:=by simp[g8]
theorem D0(c:Cx)(l:List Cx)(s:Nat):g8 (l++[c]) s=g8 l s+e1 (some c.d) s:=by simp[g8]
theorem Tx(d:Nd)(s:Nat):e1 (some d) s≤2:=by rw[df];split<;>split<;>omega
theorem uD(s:Nat):∀l:List Cx,g8 l s≤2*l.length
 | []=>Nat.le_refl _
 |c::l=>by rw[lG,List.length_cons];have:=uD s l;have:=Tx c.d s;omega
theorem wi{s:Nat}:∀{l:List Cx},0<g8 l s→∃c∈l,c.d.lo=s∨c.d.hi=s
 | [],h=>by simp[g8]at h
 |c::l,h=>by
  rw[lG]at h
  by_cases h0:0<e1 (some c.d) s
  ·refine⟨c,by simp,?_⟩
   rw[df]at h0
   by_cases h1:c.d.lo=s
   ·exact .inl h1
   ·by_cases h2:c.d.hi=s
    ·exact .inr h2
    ·simp[h1,h2]at h0
  ·obtain⟨c',hc,h1⟩:=wi (s:=s) (l:=l) (by omega)
   exact⟨c',by simp[hc],h1⟩
theorem Cg{s:Nat}{c:Cx}(hs:c.d.lo=s∨c.d.hi=s):∀{l:List Cx},c∈l→0<g8 l s
 |c'::l,h=>by
  rw[lG]
  rcases List.mem_cons.1 h with rfl|h
  ·rw[df]
   rcases hs with hs|hs
   ·rw[if_pos hs];omega
   ·rw[if_pos hs];omega
  ·have:=Cg hs h;omega
def Idle(K:Kd):Prop:=∀s,K.N s=none→K.use s=0
theorem qq{K:Kd}{S:Nat→aE.Fn}{E:Nat→Prop}{P:Nat→Nat}(hm:gF K S E P)(hi:Idle K){M:Nat}(hP:∀s,P s≤M)(s:Nat):K.use s≤2097153+M:=by
 cases h:K.N s with
 |none=>rw[hi s h];omega
 |some d=>
  rw[hm.use h]
  have:=xp (N:=K.N) (r:=s) K.cap
  have:=hm.cap.2
  have:=hP s
  split<;>omega
section
variable {kp:Nat} {K K0:Kd} {ord ah tr:List Nat} {C:Hp} {S S0:Nat→aE.Fn} {oc:Nat→Nat} {x y l:Nat} {all done rest:List Cx} {made:List Nd} {P:Nat→Nat}
theorem Im(b:TB K0 S0 oc x y l all made)(h:cc kp K ord ah tr C)(ht:TI K0 S0 oc x y l made K S done rest P)(hd:∀c∈done,c∈all)(hr:∀c∈rest,c∈all){c:Cx}(hc:c∈all){k:Nd}(hk:k∈keys x c)
 (FM:PL P K.N)(HL:Idle K)(hP:∀s,P s≤4194304):
  Fc Tryz.prog 138 #[ptr kp,.int .i64 (k.v:Int),u32 k.lo,u32 k.hi] C (fun v C'=>∃r K' S',v=u32 r∧cc kp K' ord ah tr C'∧TI K0 S0 oc x y l made K' S' done rest P∧sK K0 K' oc x l r∧
   ((k.lo=k.hi∧r=k.lo)∨K'.N r=some k)∧PL P K'.N∧Idle K'∧(∀s d,K.N s=some d→K'.N s=some d)∧(∀s d,K'.N s=some d→s=r∨(K.N s=some d∧K.use s≤K'.use s))):=by
 have wV:K.n≤64:=by obtain⟨_,_,hO⟩:=h;exact hO.ta
 have jK:=b.KH hc
 have hkv:k.v=x∧pq K0 oc l k.lo∧pq K0 oc l k.hi:=by
  simp only[keys,List.mem_cons,List.not_mem_nil,or_false]at hk
  rcases hk with rfl|rfl
  ·exact⟨rfl,jK.1.1,jK.1.2⟩
  ·exact⟨rfl,jK.2.1,jK.2.2⟩
 have JB:=ht.nE b hd hkv.2.1
 have vH:=ht.nE b hd hkv.2.2
 have W0:k.v<K.n:=by rw[hkv.1,ht.n];exact b.nb.xn
 by_cases he:k.lo=k.hi
 ·refine Fc.mono (by rw[←he];exact Lt C _ k.lo _) ?_
  rintro v C' ⟨rfl,rfl⟩
  exact⟨k.lo,K,S,rfl,h,ht,.inl hkv.2.1,.inl ⟨he,rfl⟩,FM,HL,fun _ _ h=>h,fun s d h=>.inr ⟨h,Nat.le_refl _⟩⟩
 cases hT:K.T k with
 |some r=>
  obtain⟨h1,h2⟩:=ht.found b hc hk hT
  refine Fc.mono (Lv h he W0 hT) ?_
  rintro v C' ⟨rfl,rfl⟩
  exact⟨r,K,S,rfl,h,ht,h2,.inr h1,FM,HL,fun _ _ h=>h,fun s d h=>.inr ⟨h,Nat.le_refl _⟩⟩
 |none=>
  have hfit:∀{t:Nat},live K.N t→t<2∨t<K.us.length:=fun ht'=>by
   rcases ht' with ht'|⟨d,cI⟩
   ·exact .inl ht'
   ·exact .inr (ht.mid.fit cI)
  have hkm:=ht.Ht b hd hr hc hk he hkv.2.1 hkv.2.2 hT
  refine Fc.mono (Lu h (d:=k) he ⟨by omega,JB,vH⟩ W0 hT (ht.fits b hkm hT) (hfit JB) (hfit vH) (fun s=>by have:=qq ht.mid HL hP s;omega)) ?_
  rintro v C' ⟨r,cJ,ct,rfl,hN,h2,hrc,hlen,Xg,Ek,u0,u1,u2,o0,o1,gE⟩
  have hPr:P r=0:=by
   apply Decidable.byContradiction
   intro hne
   obtain⟨d,cI⟩:=FM r h2 (by omega)
   rw[hN]at cI;cases cI
  obtain⟨g1,g2⟩:=ht.lay b hd hr hc hk he hT hN ⟨h2,hrc⟩ hlen ⟨Xg,Ek⟩ u0 u1 o0 o1 hPr
  have hup:∀s d,K.N s=some d→up K.N r (some k) s=some d:=fun s d hs=>by
   rw[aL (fun e=>by rw[e,hN]at hs;cases hs)];exact hs
  refine⟨r,_,_,rfl,gE,g1,g2,.inr aH,fun t Ih h0=>?_,fun s hs=>?_,hup,fun s d hs=>?_⟩
  ·obtain⟨d,cI⟩:=FM t Ih h0
   exact⟨d,hup t d cI⟩
  ·have hs':up K.N r (some k) s=none:=hs
   have hne:s≠r:=fun e=>by subst e;rw[aH]at hs';cases hs'
   rw[aL hne]at hs'
   show cJ.getD s 0=0
   by_cases QH:2≤s
   ·rw[u1 s QH hne,HL s hs',df]
    have a1:k.lo≠s:=fun e=>by
     rcases JB with h5|⟨d,h5⟩
     ·omega
     ·rw[e,hs']at h5;cases h5
    have a2:k.hi≠s:=fun e=>by
     rcases vH with h5|⟨d,h5⟩
     ·omega
     ·rw[e,hs']at h5;cases h5
    simp[a1,a2]
   ·rw[u2 s (by omega),HL s hs']
  ·have hs':up K.N r (some k) s=some d:=hs
   by_cases e:s=r
   ·exact .inl e
   ·rw[aL e]at hs'
    refine .inr ⟨hs',?_⟩
    show K.use s≤cJ.getD s 0
    rw[u1 s (ht.mid.two hs').1 e];omega
theorem Gq(h:cc kp K ord ah tr C)(ht:TI K0 S0 oc x y l made K S done rest P)(FM:PL P K.N)(HL:Idle K)(hP:∀s,P s≤4194304){r:Nat}(hr:live K.N r):
  Fc Tryz.prog 139 #[ptr kp,u32 r] C (fun v C'=>∃K',v=.tuple #[]∧cc kp K' ord ah tr C'∧TI K0 S0 oc x y l made K' S done rest (fun s=>P s+if s=r then 1 else 0)∧PL (fun s=>P s+if s=r then 1 else 0) K'.N∧Idle K'∧
   K'.N=K.N∧(∀s,K.use s≤K'.use s)∧(2≤r→0<K'.use r)):=by
 have hfit:r<2∨r<K.us.length:=by
  rcases hr with hr|⟨d,hd⟩
  ·exact .inl hr
  ·exact .inr (ht.mid.fit hd)
 refine Fc.mono (yx h hfit (by have:=qq ht.mid HL hP r;omega)) ?_
 rintro v C' ⟨rfl,gE⟩
 by_cases h2:2≤r
 ·have hrd:∃d,K.N r=some d:=by
   rcases hr with hr|hr
   ·omega
   ·exact hr
  have hlt:r<K.us.length:=by omega
  refine⟨_,rfl,gE,(ht.use (gn r) (kj h2 hlt) (fun s hs=>qs hs)).congr (fun s _=>?_),fun t Ih h0=>?_,fun s hs=>?_,rfl,fun s=>?_,fun _=>?_⟩
  ·unfold up
   split
   ·rename_i e;subst e;rfl
   ·rfl
  ·by_cases e:t=r
   ·subst e;exact hrd
   ·simp[e]at h0;exact FM t Ih h0
  ·show(oY K r).getD s 0=0
   have hne:s≠r:=fun e=>by
    obtain⟨d,hd⟩:=hrd
    have hs':K.N s=none:=hs
    rw[e,hd]at hs';cases hs'
   rw[qs hne];exact HL s hs
  ·show K.use s≤(oY K r).getD s 0
   by_cases e:s=r
   ·subst e;rw[kj h2 hlt];omega
   ·rw[qs e];exact Nat.le_refl _
  ·show 0<(oY K r).getD r 0
   rw[kj h2 hlt];omega
 ·have e:oY K r=K.us:=by unfold oY;rw[if_pos (by omega)]
  have eK:({K with us:=oY K r}:Kd)=K:=by rw[e]
  rw[eK]at gE
  refine⟨K,rfl,gE,ht.congr (fun s hs=>?_),fun t Ih h0=>?_,HL,rfl,fun _=>Nat.le_refl _,fun h=>absurd h h2⟩
  ·rw[if_neg (by omega)];rfl
  ·have QJ:0<P t+if t=r then 1 else 0:=h0
   rw[if_neg (by omega)]at QJ;exact FM t Ih QJ
theorem sK.mono{K K':Kd}(h:sK K0 K oc x l y)(hm:∀s d,K.N s=some d→K'.N s=some d):sK K0 K' oc x l y:=by
 rcases h with h|⟨e,h1,h2⟩
 ·exact .inl h
 ·exact .inr ⟨e,hm _ _ h1,h2⟩
end
end Go.Proofs
set_option maxRecDepth 100000
namespace Go.Proofs
open Go Go.Sx
open aE
section
variable {kp:Nat} {K:Kd} {ord ah tr:List Nat} {C:Hp} {S:Nat→aE.Fn}
structure Kept(K:Kd)(S:Nat→aE.Fn)(K':Kd)(S':Nat→aE.Fn):Prop where
 n:K'.n=K.n
 cap:K'.cap=K.cap
 hold:∀r,K'.hold r=K.hold r
 held:∀g,K'.held S' g↔K.held S g
 fn:∀r,K.hold r≠0→S' r=S r
theorem Od{x y l:Nat}(hne:x≠y)(hx:x<ah.length)(hy:y<ah.length):lv ((ah.set x (l+1)).set y l)=pA (lv ah) x y l:=by
 funext v
 show((ah.set x (l+1)).set y l).getD v 0=_
 rw[fe (by simpa using hy),fe hx]
 unfold pA
 by_cases e:v=y
 ·rw[if_pos e,if_neg (by rw[e];exact Ne.symm hne),if_pos e]
 ·rw[if_neg e,if_neg e]
theorem GM(c:Cx)(rest:List Cx):g8 (c::rest)=fg (fg (g8 rest) [c.d.hi]) [c.d.lo]:=by
 funext s
 rw[lG,df]
 unfold fg
 simp only[List.count_cons,List.count_nil,beq_iff_eq]
 omega
theorem G2{x:Nat}{all:List Cx}{made:List Nd}(h:Made K x all made):made.length≤2*all.length:=by
 have h1:=bE (l':=all.flatMap (keys x)) h.nd fun k hk=>by
  obtain⟨⟨c,hc,hk'⟩,_⟩:=(h.mem k).1 hk
  exact List.mem_flatMap.2 ⟨c,hc,hk'⟩
 have h2:(all.flatMap (keys x)).length=2*all.length:=by
  clear h1 h
  induction all with
  |nil=>rfl
  |cons c all ih=>rw[List.flatMap_cons,List.length_append,ih,List.length_cons];simp[keys];omega
 omega
theorem Gu{x y l:Nat}{K1:Kd}{S1:Nat→aE.Fn}{all:List Cx}{made:List Nd}(b:TB K S (lv ah) x y l all made)(h:TI K S (lv ah) x y l made K1 S1 all [] (g8 all))(hnew:∀r d,K.N r=none→K1.N r=some d→0<K1.use r):Pos K1:=by
 intro r d hd
 cases hN:K.N r with
 |none=>exact hnew r d hN hd
 |some d0=>
  rw[h.mid.use hd]
  rcases b.ok.reach r d0 hN with hh|⟨p,e,hp,Qt⟩
  ·have ni:K1.hold r≠0:=by rw[h.hold];exact hh
   rw[if_neg ni];omega
  ·by_cases hm:p∈all.map Cx.r
   ·obtain⟨c,hc,rfl⟩:=List.mem_map.1 hm
    have hcd:=(b.kX hc).1
    rw[hp]at hcd;cases hcd
    have:=Cg (s:=r) Qt hc
    omega
   ·have y2:=h.old hp hm
    have:cD K1.N r K1.cap≠0:=fun he=>by
     have:=gX he p (h.mid.two y2).2 e y2
     rcases Qt with Qt|Qt
     ·exact this.1 Qt
     ·exact this.2 Qt
    omega
theorem B5(h:cc kp K ord ah tr C)(hok:Ok K S (lv ah))(ho:Ord K.n (lv ah) ord)(HL:Idle K){l:Nat}(hl:l+1<K.n):
  Fc Tryz.prog 59 #[ptr kp,.int .i64 (l:Int)] C (fun r C'=>
   (vT K.n ord l (K.held S)+2≤K.cap∧r=.bool true∧∃K' S' dm,cc kp K' (fy ord l) dm tr C'∧Ok K' S' (lv dm)∧Ord K'.n (lv dm) (fy ord l)∧Idle K'∧Kept K S K' S')∨
   (K.cap<vT K.n ord l (K.held S)+2∧r=.bool false∧C'=C)):=by
 have h0:=h
 have hcap:=h.cap
 obtain⟨b,hC,hO⟩:=h
 have y3:=hO.ol
 have wV:=hO.ta
 have nb:=ho.nb hl
 obtain⟨x,hx⟩:∃x,x=ord.getD l 0:=⟨_,rfl⟩
 obtain⟨y,hy⟩:∃y,y=ord.getD (l+1) 0:=⟨_,rfl⟩
 rw[←hx,←hy]at nb
 intro g
 refine E6 (R:=az _) ?_
 unfold L59
 have hmk:(kp,Obj.cells (b.cells K.n) 117 (0,0))∈C:=by rw[hC];exact .head _
 have MB:∀z∈b.CO,z∈C:=by rw[hC];exact bP.sub (.cons (.app (.app (.app (.app .left)))))
 refine Nil.ptr (aa.mk (Ld.mk (v:=b.vo) hmk rfl ?_))
 refine hO.od.ld (x:=(x:Int)) (by rw[hx];exact bc (by omega)) MB ?_
 refine Nil.ptr (aa.mk (Ld.mk (v:=b.vo) hmk rfl ?_))
 refine ae.aK (b:=1) (by simp[aB];omega) ?_
 refine hO.od.ld (x:=(y:Int)) (by rw[hy];exact bc (by omega)) MB ?_
 refine ag.fn .here (va h0 hok nb.xn) ?_
 rintro w H ⟨all,Na,rfl,aP,CP,hlen⟩
 refine DR.self (Nil.ptr (aa.mk ?_))
 refine ag.rd .here (Ir h0 nb.xn aP hlen) ?_
 rintro w ⟨made,rfl,HB⟩
 have hml:=G2 HB
 have Cw:=hok.mid.cap
 have W8:=hok.mid.room
 refine ag.rd (.app .here) (wF h0 (m:=made.length) (by omega) (by omega)) ?_
 rintro w rfl
 have acV:vT K.n ord l (K.held S)=K.used-2+made.length:=Gp (Gv hok ho hl (by rw[←hx,←hy];exact CP) (by rw[←hx];exact HB))
 refine Un.not ?_
 by_cases hroom:K.used+made.length≤K.cap
 rotate_left
 ·rw[decide_eq_false hroom]
  exact Br.yes (az.mk .right (.inr ⟨by omega,rfl,rfl⟩))
 rw[decide_eq_true hroom]
 refine Br.no ?_
 have tb:TB K S (lv ah) x y l all made:=⟨hok,nb,CP,HB,hroom⟩
 have iO:=CP.nd
 have hge:∀{i:Nat} {c:Cx},all[i]? =some c→c.r∉(all.take i).map Cx.r:=fun{i c} kg hm=>by
  have h1:(all.take (i+1)).map Cx.r=(all.take i).map Cx.r++[c.r]:=by rw[List.take_add_one,kg,List.map_append];rfl
  have h2:((all.take (i+1)).map Cx.r).Nodup:=iO.sublist ((List.take_sublist _ _).map _)
  rw[h1]at h2
  exact(List.nodup_append.1 h2).2.2 _ hm _ (by simp) rfl
 have gD:∀{i:Nat} {c:Cx},all[i]? =some c→all.take (i+1)=all.take i++[c]:=fun kg=>by rw[List.take_add_one,kg];rfl
 have US:∀{i:Nat} {c:Cx},all[i]? =some c→all.drop i=c::all.drop (i+1):=fun{i c} kg=>by
  obtain⟨hi,e⟩:=List.getElem?_eq_some_iff.1 kg
  rw[List.drop_eq_getElem_cons hi,e]
 have OR:∀{i:Nat},∀c∈all.take i,c∈all:=fun c hc=>List.mem_of_mem_take hc
 have hmD:∀{i:Nat},∀c∈all.drop i,c∈all:=fun c hc=>List.mem_of_mem_drop hc
 refine aP.bS ?_
 rw[List.length_map]
 refine⟨fun vs H=>∃(i:Nat) (T':Nd→Option Nat) (C1:Hp),vs=[.int .i64 (i:Int)]∧H=Na++C1∧i≤all.length∧cc kp {K with T:=T'} ord ah tr C1∧gF {K with T:=T'} S (fun s=>∃c∈all.take i,s=c.r) zero'∧(∀d,T' d=none∨T' d=K.T d),
  fun vs _=>all.length-bR vs 0,JE.mk ⟨0,K.T,C,rfl,rfl,Nat.zero_le _,h0,hok.mid.congr (fun s=>by simp[fM]) (fun _ _=>rfl),fun _=>.inr rfl⟩,?_⟩
 rintro w H ⟨i,T',C1,hw,rfl,hi,eB,Ey,Ex⟩ gs
 simp only[List.cons.injEq,and_true]at hw
 subst hw
 refine ae.fq (Br.dec (fun hlt=>?_) (fun K7=>?_))
 ·obtain⟨c,kg⟩:∃c,all[i]? =some c:=⟨_,List.getElem?_eq_getElem hlt⟩
  have CQ:c∈all:=List.mem_of_getElem? kg
  obtain⟨uW,SE,hce⟩:=tb.kX CQ
  refine aP.Cp (r:=fY c) (by rw[List.getElem?_map,kg];rfl) (fun z hz=>List.mem_append_left _ hz) ?_
  intro zu _
  refine St.whole (r:=fY c) (by exact .head _) rfl rfl (jk _) ?_
  obtain⟨b1,rfl,MR⟩:=eB
  refine DR.self (Nil.ptr (aa.mk (aa.mk (Ld.mk (v:=ptr b1.pt) (.tail _ (List.mem_append_right _ (.head _))) rfl ?_))))
  refine aa.mk (aC.mk (vs:=(aV c.d).toArray) (.head _) (by simp[fY]) rfl ?_)
  have hTc:T' c.d=some c.r:=(Ey.iD c.d c.r).2 ⟨uW,by rintro⟨c',gU,e⟩;exact hge kg (e▸List.mem_map_of_mem gU)⟩
  refine ag.fn (.cons (.app (.cons (.app .left)))) (sZ (d:=c.d) MR.ut (hok.mid.var uW) hTc) ?_
  rintro v Qi ⟨rfl,OD⟩
  refine ae.aK (b:=1) (by simp[aB];omega) ?_
  refine aF.of .tail ⟨i+1,nf T' c.d none,_,rfl,rfl,by omega,⟨{b1 with CT:=Qi},rfl,{MR with ut:=OD}⟩,(Ey.XB (r:=c.r) (d:=c.d) uW ?_).congr (fun s=>?_) (fun _ _=>rfl),fun d=>?_⟩ (by simp[bR];omega)
  ·rintro⟨c',gU,e⟩;exact hge kg (e▸List.mem_map_of_mem gU)
  ·rw[gD kg]
   constructor
   ·rintro(⟨c',gU,e⟩|e)
    ·exact⟨c',List.mem_append_left _ gU,e⟩
    ·exact⟨c,by simp,e⟩
   ·rintro⟨c',gU,e⟩
    rcases List.mem_append.1 gU with gU|gU
    ·exact .inl ⟨c',gU,e⟩
    ·simp at gU;subst gU;exact .inr e
  ·unfold nf
   split
   ·exact .inl rfl
   ·exact Ex d
 have hi':i=all.length:=by omega
 subst hi'
 rw[List.take_length]at Ey
 have hTI:=tb.start Ey Ex
 refine aP.bS ?_
 rw[List.length_map]
 refine⟨fun vs H=>∃(i:Nat) (K1:Kd) (S1:Nat→aE.Fn) (C1:Hp),vs=[.int .i64 (i:Int)]∧H=Na++C1∧i≤all.length∧cc kp K1 ord ah tr C1∧TI K S (lv ah) x y l made K1 S1 (all.take i) (all.drop i) (g8 (all.take i))∧
   PL (g8 (all.take i)) K1.N∧Idle K1∧(∀r d,K.N r=none→K1.N r=some d→0<K1.use r),
  fun vs _=>all.length-bR vs 0,JE.mk ⟨0,_,S,C1,rfl,rfl,Nat.zero_le _,eB,hTI,fun t _ h=>by simp[g8]at h,HL,fun r d h1 h2=>by rw[h1]at h2;cases h2⟩,?_⟩
 clear hTI Ey Ex eB T' C1 K7 hi
 rintro w H ⟨i,K1,S1,C1,hw,rfl,hi,eB,Ex,Lk,HK,MF⟩ gs
 simp only[List.cons.injEq,and_true]at hw
 subst hw
 refine ae.fq (Br.dec (fun hlt=>?_) (fun K7=>?_))
 ·obtain⟨c,kg⟩:∃c,all[i]? =some c:=⟨_,List.getElem?_eq_getElem hlt⟩
  have CQ:c∈all:=List.mem_of_getElem? kg
  obtain⟨uW,SE,hce⟩:=tb.kX CQ
  rw[US kg]at Ex
  have wS:∀c'∈c::all.drop (i+1),c'∈all:=by rw[←US kg];exact hmD
  have SZ:∀s,g8 (all.take i) s≤2097152:=fun s=>by have:=uD s (all.take i);rw[List.length_take]at this;omega
  refine aP.Cp (r:=fY c) (by rw[List.getElem?_map,kg];rfl) (fun z hz=>List.mem_append_left _ hz) ?_
  intro M9 _
  refine St.whole (r:=fY c) (by exact .head _) rfl rfl (jk _) ?_
  refine DR.self (Nil.ptr (aa.mk ?_))
  refine aa.mk (Ld.mk (by exact .head _) rfl ?_)
  refine aa.mk (Ld.mk (by exact .head _) rfl ?_)
  refine ag.fn (.cons (.app .here)) (Im tb eB Ex OR wS CQ (k:=⟨x,c.sG,c.pI⟩) (by simp[keys]) Lk HK (fun s=>by have:=SZ s;omega)) ?_
  rintro w C2 ⟨t0,K2,S2,rfl,de,hT2,RD,g0,Lj,y6,aat,WD⟩
  refine Nil.ptr (aa.mk ?_)
  refine ag.fn (.cons (.app .here)) (Gq de hT2 Lj y6 (fun s=>by have:=SZ s;omega) (hT2.nH tb OR RD)) ?_
  rintro w C3 ⟨K3,rfl,l5,hT3,Ph,XE,S9,Xa,RZ⟩
  have SY:∀s,(g8 (all.take i) s+if s=t0 then 1 else 0)≤2097153:=fun s=>by have:=SZ s;split<;>omega
  refine DR.self (Nil.ptr (aa.mk ?_))
  refine aa.mk (Ld.mk (by exact .head _) rfl ?_)
  refine aa.mk (Ld.mk (by exact .head _) rfl ?_)
  refine ag.fn (.cons (.app .here)) (Im tb l5 hT3 OR wS CQ (k:=⟨x,c.sF,c.pH⟩) (by simp[keys]) Ph XE (fun s=>by have:=SY s;omega)) ?_
  rintro w C4 ⟨t1,K4,S4,rfl,Ic,X7,RC,g1,Pg,XD,Mj,WC⟩
  refine Nil.ptr (aa.mk ?_)
  refine ag.fn (.cons (.app .here)) (Gq Ic X7 Pg XD (fun s=>by have:=SY s;omega) (X7.nH tb OR RC)) ?_
  rintro w C5 ⟨K5,rfl,FN,UX,ad0,XC,S8,W9,RY⟩
  have Mr:sK K K5 (lv ah) x l t0:=sK.mono RD (fun s d hs=>by rw[S8];exact Mj s d (by rw[S9];exact hs))
  have Mq:sK K K5 (lv ah) x l t1:=sK.mono RC (fun s d hs=>by rw[S8];exact hs)
  have g0':(c.sG=c.pI∧t0=c.sG)∨K5.N t0=some ⟨x,c.sG,c.pI⟩:=by
   rcases g0 with g0|g0
   ·exact .inl g0
   ·exact .inr (by rw[S8];exact Mj _ _ (by rw[S9];exact g0))
  have g1':(c.sF=c.pH∧t1=c.sF)∨K5.N t1=some ⟨x,c.sF,c.pH⟩:=by
   rcases g1 with g1|g1
   ·exact .inl g1
   ·exact .inr (by rw[S8];exact g1)
  have Xr:((all.take i++c::all.drop (i+1)).map Cx.r).Nodup:=by rw[←US kg,List.take_append_drop];exact iO
  obtain⟨hTn,X6⟩:=UX.uu tb OR wS Xr Mr Mq g0' g1' (P':=g8 (all.take (i+1))) (fun s _=>by
   rw[gD kg,D0,df ⟨y,t0,t1⟩]
   have LI:(if t0=s then 1 else 0)=(if s=t0 then 1 else 0:Nat):=by split<;>split<;>first|rfl|(exfalso;omega)
   have e2':(if t1=s then 1 else 0)=(if s=t1 then 1 else 0:Nat):=by split<;>split<;>first|rfl|(exfalso;omega)
   simp only[LI,e2']
   omega)
  have HE:∀{t:Nat},sK K K5 (lv ah) x l t→live K5.N t:=fun hk=>UX.nH tb OR hk
  have O9:∃e,K5.N c.r=some e:=UX.kept uW
  refine Build.mk (cs:=aV ⟨y,t0,t1⟩) (by kernel_rfl) ?_
  intro U8 _
  refine St.whole (r:=aV ⟨y,t0,t1⟩) (by exact .head _) rfl rfl (fun z hz=>by simp[aV,u32]at hz;rcases hz with rfl|rfl|rfl<;>rfl) ?_
  obtain⟨b5,rfl,UZ⟩:=FN
  refine DR.self (Nil.ptr (aa.mk (aa.mk (Ld.mk (v:=ptr b5.pa) (.tail _ (.tail _ (List.mem_append_right _ (.head _)))) rfl ?_))))
  refine aa.mk (Ld.mk (by exact .tail _ (.head _)) rfl ?_)
  refine aC.whole (r:=aV ⟨y,t0,t1⟩) (by exact .head _) rfl ?_
  have Oz:y<K5.n:=by rw[UX.n];exact nb.yn
  refine ag.fn (.cons (.cons (.app (.cons .left)))) (LR (d:=⟨y,t0,t1⟩) UZ.ar ⟨by show y<64;have:=UZ.ta;omega,HE Mr,HE Mq⟩ O9 (tb.ok.mid.two uW).1) ?_
  rintro w Ut ⟨rfl,SL⟩
  refine DR.self (Nil.ptr (aa.mk (aa.mk (Ld.mk (v:=ptr b5.pt) (.tail _ (.tail _ (List.mem_append_right _ (.head _)))) rfl ?_))))
  refine aC.whole (r:=aV ⟨y,t0,t1⟩) (by exact .head _) rfl ?_
  refine aa.mk (Ld.mk (by exact .tail _ (.head _)) rfl ?_)
  refine ag.fn (.cons (.cons (.app (.cons (.app .left))))) (B4 (d:=⟨y,t0,t1⟩) (r:=c.r) UZ.ut Oz hTn) ?_
  rintro w Qi ⟨rfl,OD⟩
  refine ae.aK (b:=1) (by simp[aB];omega) ?_
  refine aF.of (.skip .tail) ⟨i+1,{K5 with N:=up K5.N c.r (some ⟨y,t0,t1⟩),T:=nf K5.T ⟨y,t0,t1⟩ (some c.r)},S4,_,rfl,rfl,by omega,⟨{b5 with CA:=Ut,CT:=Qi},rfl,{UZ with ar:=SL,ut:=OD}⟩,by rw[gD kg]at X6⊢;exact X6,fun t Ih hp=>?_,fun s hs=>?_,fun r d OK hrd=>?_⟩ (by simp[bR];omega)
  ·obtain⟨c',gU,jU⟩:=wi hp
   have XU:=OR c' gU
   have HV:=(tb.kX XU).1
   have hlv:live K.N t:=by
    rcases jU with rfl|rfl
    ·exact tb.ok.mid.lo HV
    ·exact tb.ok.mid.hi HV
   rcases hlv with hlv|⟨d,hd⟩
   ·omega
   ·exact X6.kept hd
  ·have hs':up K5.N c.r (some ⟨y,t0,t1⟩) s=none:=hs
   have hne:s≠c.r:=fun e=>by subst e;rw[aH]at hs';cases hs'
   rw[aL hne]at hs'
   exact XC s hs'
  ·have OI:up K5.N c.r (some ⟨y,t0,t1⟩) r=some d:=hrd
   have hne:r≠c.r:=fun e=>by rw[e,uW]at OK;cases OK
   rw[aL hne,S8]at OI
   have U5:2≤r:=(X7.mid.two OI).1
   show 0<K5.use r
   rcases WC r d OI with e|⟨h3,hu3⟩
   ·rw[e]at U5⊢;exact RY U5
   ·rw[S9]at h3
    have h5:=W9 r
    rcases WD r d h3 with e|⟨h1,UE⟩
    ·rw[e]at U5⊢h5 hu3;have:=RZ U5;omega
    ·have:=MF r d OK h1
     have:=Xa r
     omega
 have hi':i=all.length:=by omega
 subst hi'
 rw[List.take_length,List.drop_length]at Ex
 rw[List.take_length]at Lk
 have y2:=Gu tb Ex MF
 refine aP.bS ?_
 rw[List.length_map]
 refine⟨fun vs H=>∃(i:Nat) (K2:Kd) (C2:Hp),vs=[.int .i64 (i:Int)]∧H=Na++C2∧i≤all.length∧cc kp K2 ord ah tr C2∧gF K2 S1 fM (g8 (all.drop i))∧Pos K2∧PL (g8 (all.drop i)) K2.N∧sJ K2 K1,
  fun vs _=>all.length-bR vs 0,JE.mk ⟨0,K1,C1,rfl,rfl,Nat.zero_le _,eB,Ex.mid.congr (fun s=>by simp[fM]) (fun _ _=>rfl),y2,Lk,.refl K1⟩,?_⟩
 clear eB Lk hi K7 C1
 rintro w H ⟨i,K2,C2,hw,rfl,hi,de,CY,nh,Lj,cX⟩ gs
 simp only[List.cons.injEq,and_true]at hw
 subst hw
 refine ae.fq (Br.dec (fun hlt=>?_) (fun K7=>?_))
 ·obtain⟨c,kg⟩:∃c,all[i]? =some c:=⟨_,List.getElem?_eq_getElem hlt⟩
  have CQ:c∈all:=List.mem_of_getElem? kg
  obtain⟨uW,SE,hce⟩:=tb.kX CQ
  have SZ:∀s,g8 (all.drop i) s≤2097152:=fun s=>by have:=uD s (all.drop i);rw[List.length_drop]at this;omega
  have hlo:=h0.lt (hok.mid.lo uW)
  have hhi:=h0.lt (hok.mid.hi uW)
  refine aP.Cp (r:=fY c) (by rw[List.getElem?_map,kg];rfl) (fun z hz=>List.mem_append_left _ hz) ?_
  intro LP _
  refine St.whole (r:=fY c) (by exact .head _) rfl rfl (jk _) ?_
  refine DR.self (Nil.ptr (aa.mk ?_))
  refine aa.mk (aa.mk (Ld.mk (by exact .head _) rfl ?_))
  have y6:Idle K2:=cX.idle HK
  have Xb:∀s,K2.use s<2147483648:=fun s=>by have:=qq CY y6 SZ s;omega
  rw[US kg,GM]at CY Lj
  refine ag.fn (.cons (.app .here)) (jC de CY nh Lj hlo Xb) ?_
  rintro w C3 ⟨rfl,K3,l5,Ll,R2,Ph,HF⟩
  refine DR.self (Nil.ptr (aa.mk ?_))
  refine aa.mk (aa.mk (Ld.mk (by exact .head _) rfl ?_))
  refine ag.fn (.cons (.app .here)) (jC l5 Ll R2 Ph hhi (fun s=>Nat.lt_of_le_of_lt (HF.us s) (Xb s))) ?_
  rintro w C4 ⟨rfl,K4,Ic,hM4,hp4,Pg,OS⟩
  refine ae.aK (b:=1) (by simp[aB];omega) ?_
  exact aF.of .tail ⟨i+1,K4,C4,rfl,rfl,by omega,Ic,hM4,hp4,Pg,OS.trans (HF.trans cX)⟩ (by simp[bR];omega)
 have hi':i=all.length:=by omega
 subst hi'
 rw[List.drop_length]at CY
 have y6:Idle K2:=cX.idle HK
 obtain⟨f1,f2,f3⟩:=Ex.fin tb (K':=K2) (CY.congr (fun _=>Iff.rfl) (fun _ _=>rfl)) nh (fun h=>cX.N h) cX.n (fun r=>by show K2.ho.getD r 0=K1.ho.getD r 0;rw[cX.ho])
 have OP:K2.n=K.n:=by rw[cX.n,Ex.n]
 obtain⟨b2,rfl,S7⟩:=de
 refine DR.self (Nil.ptr (aa.mk (Ld.mk (v:=b2.vo) (List.mem_append_right _ (.head _)) rfl ?_)))
 refine Nil.ptr (aa.mk (Ld.mk (v:=b2.vo) (List.mem_append_right _ (.head _)) rfl ?_))
 refine ae.aK (b:=1) (by simp[aB];omega) ?_
 refine S7.od.iX (x:=(y:Int)) (.app (.cons (.app (.app (.app (.app .left)))))) (by rw[aq];omega) fun CO1 CD=>?_
 refine CD.iX (x:=(x:Int)) (.app (.cons (.app (.app (.app (.app .left)))))) (by rw[List.length_set,aq];omega) fun CO2 CC=>?_
 refine DR.self (Nil.ptr (aa.mk (Ld.mk (v:=b2.vl) (List.mem_append_right _ (.head _)) rfl ?_)))
 refine Nil.ptr (aa.mk (Ld.mk (v:=b2.vl) (List.mem_append_right _ (.head _)) rfl ?_))
 refine ae.aK (b:=1) (by simp[aB];omega) ?_
 have uS:=S7.ol.2
 have W0:=nb.xn
 have Oz:=nb.yn
 refine S7.lv.iX (x:=((l+1:Nat):Int)) (.app (.cons (.app (.app (.app (.app (.app .left))))))) (by rw[aq];omega) fun CL1 JB=>?_
 refine JB.iX (x:=(l:Int)) (.app (.cons (.app (.app (.app (.app (.app .left))))))) (by rw[List.length_set,aq];omega) fun CL2 vH=>?_
 rw[eM,eM]at CC vH
 have Qr:(ord.set l y).set (l+1) x=fy ord l:=by rw[hx,hy];rfl
 rw[Qr]at CC
 have hlv:lv ((ah.set x (l+1)).set y l)=pA (lv ah) x y l:=Od nb.ne (by omega) (by omega)
 refine az.mk .right (.inl ⟨by omega,rfl,K2,S1,_,⟨{b2 with CO:=CO2,CL:=CL2},rfl,{S7 with od:=CC,lv:=vH,ol:=?_}⟩,by rw[hlv];exact f1,by rw[hlv,OP,hx,hy];exact Kn ho hl,y6,OP,by rw[cX.cap,Ex.cap],fun r=>?_,f2,f3⟩)
 ·rw[lC];simp;exact S7.ol
 ·show K2.ho.getD r 0=K.hold r
  rw[cX.ho];exact Ex.hold r
end
end Go.Proofs
set_option maxRecDepth 100000
namespace Go.Proofs
open Go Go.Sx
open aE
structure cF(kp:Nat)(K:Kd)(S:Nat→aE.Fn)(ord ah tr:List Nat)(C:Hp):Prop where
 rep:cc kp K ord ah tr C
 ok:Ok K S (lv ah)
 od:Ord K.n (lv ah) ord
 idle:Idle K
 tr:sH K.n K.cap (K.held S) ord tr.reverse
theorem Kept.refl(K:Kd)(S:Nat→aE.Fn):Kept K S K S:=⟨rfl,rfl,fun _=>rfl,fun _=>Iff.rfl,fun _ _=>rfl⟩
theorem Kept.trans{K K' K2:Kd}{S S' S2:Nat→aE.Fn}(h:Kept K S K' S')(h':Kept K' S' K2 S2):Kept K S K2 S2:=
 ⟨h'.n.trans h.n,h'.cap.trans h.cap,fun r=>(h'.hold r).trans (h.hold r),fun g=>(h'.held g).trans (h.held g),fun r hr=>(h'.fn r (by rw[h.hold];exact hr)).trans (h.fn r hr)⟩
section
variable {kp:Nat} {K:Kd} {ord ah tr:List Nat} {C:Hp} {S:Nat→aE.Fn}
theorem C9(h:cF kp K S ord ah tr C){l:Nat}(hl:l+1<K.n)(oF:tr.length<1099511627776):Fc Tryz.prog 17 #[ptr kp,.int .i64 (l:Int)] C (fun r C'=>
   (vT K.n ord l (K.held S)+2≤K.cap∧r=.int .i64 0∧∃K' S' dm,cF kp K' S' (fy ord l) dm (tr++[l]) C'∧Kept K S K' S')∨
   (K.cap<vT K.n ord l (K.held S)+2∧r=.int .i64 9∧C'=C)):=by
 have h0:=h
 obtain⟨b,hC,hO⟩:=h.rep
 have hn:=hO.ta
 intro g
 refine Fo (R:=az _) ?_
 unfold L17
 refine ae.bK (Br.no (ae.lss ?_))
 refine cw.or (decide ((K.n:Int) -2<l)) (fun _=>?_) (by simp) fun gs=>?_
 ·refine Nil.ptr (aa.mk (Ld.mk (v:=.int .i64 (K.n:Int)) (by rw[hC];exact .head _) rfl ?_))
  refine ae.B8 (c:=(K.n:Int) -2) rfl (by omega) ?_
  exact ae.gtr ⟨rfl,rfl⟩
 ·rw[←Bool.decide_or]
  refine Br.aX (by omega) ?_
  refine ag.fn .here (B5 h.rep h.ok h.od h.idle hl) ?_
  rintro w C' (⟨hfit,rfl,K',S',dm,gE,uR,ON,qL,nL⟩|⟨hno,rfl,rfl⟩)
  ·refine Un.not (Br.no ?_)
   obtain⟨b',rfl,sD⟩:=gE
   refine Nil.ptr (aa.mk (Ld.mk (v:=b'.vt) (by exact .head _) rfl ?_))
   refine au.int (e:=3) (by kernel_rfl) (by kernel_rfl) (by kernel_rfl) fun bx=>?_
   refine sD.tr.pG (.cons (.cons (.app (.app (.app (.app (.app (.app .here)))))))) (by exact .head _) (by rw[aq];omega) (by rw[aq];omega) fun v' F0 ct=>?_
   refine Nil.ptr (aa.mk (St.one (by exact .tail (.head _)) ct.one (by simp[pK.cells]) rfl ?_))
   refine az.mk .tail (.inl ⟨hfit,rfl,K',S',dm,⟨⟨{b' with vt:=v',CR:=F0},rfl,{sD with tr:=by rw[cL];exact ct}⟩,uR,ON,qL,?_⟩,nL⟩)
   rw[nL.n,nL.cap]
   exact(sH.YP hO.ol.1 hl hfit h.tr).congr fun g=>(nL.held g).symm
  ·exact Un.not (Br.yes (az.here (.inr ⟨hno,rfl,rfl⟩)))
theorem Kg{l:Nat}(h:cF kp K S ord ah (tr++[l]) C)(oF:tr.length<1099511627776):Fc Tryz.prog 18 #[ptr kp] C (fun r C'=>
   r=.tuple #[.int .i64 (l:Int),.int .i64 0]∧l+1<K.n∧∃K' S' dm,cF kp K' S' (fy ord l) dm tr C'∧Kept K S K' S'):=by
 have h0:=h
 obtain⟨b,hC,hO⟩:=h.rep
 have hn:=hO.ta
 have RP:=h.tr
 rw[List.reverse_append]at RP
 obtain⟨hl,hfit,wP⟩:l+1<K.n∧vT K.n ord l (K.held S)+2≤K.cap∧sH K.n K.cap (K.held S) (fy ord l) tr.reverse:=RP
 have hmk:(kp,Obj.cells (b.cells K.n) 117 (0,0))∈C:=by rw[hC];exact .head _
 intro g
 refine Fm (R:=az _) ?_
 unfold L18
 refine ae.bK ?_
 refine cw.or false (fun _=>?_) rfl fun gs=>Br.no ?_
 ·refine Nil.ptr (aa.mk (Ld.mk (v:=b.vt) hmk rfl ?_))
  refine hO.tr.bS ?_
  refine ae.jt ⟨rfl,?_⟩
  rw[decide_eq_false]
  rw[aq,List.length_append];simp;omega
 refine Nil.ptr (aa.mk (Ld.mk (v:=b.vt) hmk rfl ?_))
 refine hO.tr.bS ?_
 rw[aq,List.length_append]
 refine ae.bJ (a:=tr.length+1) (b:=1) (by simp[aB];omega) (by omega) ?_
 rw[Nat.add_sub_cancel]
 refine Nil.ptr (aa.mk (Ld.mk (v:=b.vt) hmk rfl ?_))
 refine hO.tr.ld (i:=tr.length) (x:=(l:Int)) (by rw[cL];simp[iw]) (by rw[hC];exact bP.sub (.cons (.app (.app (.app (.app (.app (.app .here)))))))) ?_
 refine ag.fn .here (B5 h.rep h.ok h.od h.idle hl) ?_
 rintro w C' (⟨_,rfl,K',S',dm,gE,uR,ON,qL,nL⟩|⟨hno,rfl,rfl⟩)
 rotate_left
 ·omega
 obtain⟨b',rfl,sD⟩:=gE
 refine Nil.ptr (aa.mk (Ld.mk (v:=b'.vt) (by exact .head _) rfl ?_))
 refine sD.tr.cut (i:=tr.length) (by rw[aq];simp) fun v' Hv=>?_
 refine Nil.ptr (aa.mk (St.one (by exact .head _) Hv.one (by simp[pK.cells]) rfl ?_))
 refine az.here ⟨rfl,hl,K',S',dm,⟨⟨{b' with vt:=v'},rfl,{sD with tr:=by rw[cL,List.take_left' (by simp)]at Hv;exact Hv}⟩,uR,ON,qL,?_⟩,nL⟩
 rw[nL.n,nL.cap]
 exact wP.congr fun g=>(nL.held g).symm
theorem cF.bY(h:cF kp K S ord ah tr C){r:Nat}(hl:live K.N r):r<1048576:=h.rep.lt hl
theorem cF.lN(h:cF kp K S ord ah tr C)(r:Nat):K.hold r≤65535:=h.ok.mid.mx r
theorem cF.yz(h:cF kp K S ord ah tr C)(r:Nat):K.use r≤2097153:=by have:=qq h.ok.mid h.idle (M:=0) (fun _=>Nat.le_refl _) r;omega
structure L6(K K':Kd)(r:Nat):Prop where
 n:K'.n=K.n
 cap:K'.cap=K.cap
 used:K'.used=K.used
 N:K'.N=K.N
 hold:∀s,K'.hold s=if s=r∧2≤r then K.hold s+1 else K.hold s
theorem Eg(h:cF kp K S ord ah tr C){r:Nat}(hl:live K.N r)(h2:2≤r)(hf:K.hold r=65535):Rd Tryz.prog 121 #[ptr kp,u32 r] C (· =.int .i64 8):=by
 have hr:=h.bY hl
 obtain⟨b,hC,hO⟩:=h.rep
 have hfit:r<K.ho.length:=by
  rcases hl with hl|⟨d,hd⟩
  ·omega
  ·rw[←hO.ul.1];exact h.ok.mid.fit hd
 intro g
 refine rR (R:=az _) ?_
 unfold L121
 refine ae.bK (Br.no (Nil.ptr (aa.mk ?_)))
 refine ag.rd .here (kM h.rep (by omega)) ?_
 rintro w rfl
 rw[bI.2 hl]
 refine Un.not (Br.no ?_)
 intro J7 _
 refine ae.nP (b:=1) (Br.dS (by omega) ?_)
 refine Nil.ptr (aa.mk (aa.mk (Ld.mk (v:=b.vh) (by rw[hC];exact .head _) rfl ?_)))
 refine hO.ho.ld (x:=((K.hold r:Nat):Int)) (bc hfit) (by rw[hC];exact bP.sub (.cons (.app (.app (.app .left))))) ?_
 rw[hf]
 exact ae.jt (Br.dS rfl (cr.mk (.refl _) rfl))
theorem wK(h:cc kp K ord ah tr C)(QE:gF K S fM zero')(K6:Idle K){r:Nat}(hl:live K.N r)(hf:2≤r→K.hold r<65535):Fc Tryz.prog 121 #[ptr kp,u32 r] C (fun v C'=>v=.int .i64 0∧∃K',cc kp K' ord ah [] C'∧
  gF K' S fM zero'∧Idle K'∧L6 K K' r∧(∀s,K.use s≤K'.use s)∧(2≤r→0<K'.use r)):=by
 have hr:=h.lt hl
 have h0:=h
 obtain⟨b,hC,hO⟩:=h
 intro g
 refine rR (R:=az _) ?_
 unfold L121
 refine ae.bK (Br.no (Nil.ptr (aa.mk ?_)))
 refine ag.rd .here (kM h0 (by omega)) ?_
 rintro w rfl
 rw[bI.2 hl]
 refine Un.not (Br.no ?_)
 intro J7 hJ7
 have fin:∀(K':Kd) C1,cc kp K' ord ah tr C1→gF K' S fM zero'→Idle K'→L6 K K' r→(∀s,K.use s≤K'.use s)→(2≤r→0<K'.use r)→J7 [] C1:=fun K' C1 gE uR qL hm hu hp=>by
  refine hJ7 _ fun gs=>?_
  obtain⟨b',rfl,sD⟩:=gE
  refine Nil.ptr (aa.mk (St.one (by exact .head _) rfl (by simp[pK.cells]) rfl ?_))
  refine az.mk (j5:=({b' with vt:=.slice none 0 0,CR:=[]}:pK).hp kp K'.n) ?_ ⟨rfl,K',⟨{b' with vt:=.slice none 0 0,CR:=[]},rfl,{sD with tr:=aN.nil}⟩,uR,qL,hm,hu,hp⟩
  refine .cons (.dj (.dj (.dj (.dj (.dj (.dj .nil _) _) _) _) _) _)
 refine ae.nP (b:=1) (Br.dec (fun h2=>?_) (fun h2=>?_))
 rotate_left
 ·refine JE.mk (fin K C h0 QE K6 ⟨rfl,rfl,rfl,rfl,fun s=>?_⟩ (fun _=>Nat.le_refl _) (fun h=>by omega))
  rw[if_neg (by omega)]
 have kQ:2≤r:=by omega
 have wW:=hf kQ
 obtain⟨d,hd⟩:∃d,K.N r=some d:=by
  rcases hl with hl|hl
  ·omega
  ·exact hl
 have Sv:=QE.fit hd
 have Ek:=hO.ul
 have hfit:r<K.ho.length:=by omega
 subst hC
 refine Nil.ptr (aa.mk (aa.mk (Ld.mk (v:=b.vh) (by exact .head _) rfl ?_)))
 refine hO.ho.ld (x:=((K.hold r:Nat):Int)) (bc hfit) (bP.sub (.cons (.app (.app (.app .left))))) ?_
 refine ae.jt (Br.aX (by omega) ?_)
 refine Nil.ptr (aa.mk (aa.mk (Ld.mk (v:=b.vh) (by exact .head _) rfl ?_)))
 refine hO.ho.ld (x:=((K.hold r:Nat):Int)) (bc hfit) (bP.sub (.cons (.app (.app (.app .left))))) ?_
 refine ae.aK (b:=1) (by simp[aB];omega) ?_
 refine hO.ho.iX (x:=((K.hold r+1:Nat):Int)) (.cons (.app (.app (.app .left)))) (by rw[aq];exact hfit) fun Jm ni=>?_
 rw[eM]at ni
 have g1:∀s,(K.ho.set r (K.hold r+1)).getD s 0=if s=r then K.hold r+1 else K.hold s:=fun s=>fe hfit
 refine Nil.ptr (aa.mk (aa.mk (Ld.mk (v:=b.vh) (by exact .head _) rfl ?_)))
 refine ni.ld (x:=((K.hold r+1:Nat):Int)) (by rw[bc (by simpa using hfit),g1,if_pos rfl]) (bP.sub (.cons (.app (.app (.app .left))))) ?_
 refine ae.fO (b:=1) (Br.dec (fun h3=>?_) (fun h3=>?_))
 ·refine Nil.ptr (aa.mk (aa.mk (Ld.mk (v:=b.vu) (by exact .head _) rfl ?_)))
  refine hO.us.ld (x:=((K.use r:Nat):Int)) (bc Sv) (bP.sub (.cons (.app (.app .left)))) ?_
  have Xb:=qq QE K6 (M:=0) (fun _=>Nat.le_refl _) r
  refine ae.aK (b:=1) (by simp[aB];omega) ?_
  refine hO.us.iX (x:=((K.use r+1:Nat):Int)) (.cons (.app (.app .left))) (by rw[aq];exact Sv) fun JV x6=>?_
  rw[eM]at x6
  have g2:∀s,(K.us.set r (K.use r+1)).getD s 0=if s=r then K.use r+1 else K.use s:=fun s=>fe Sv
  have hM:=QE.keep (r:=r) (cJ:=K.us.set r (K.use r+1)) (ct:=K.ho.set r (K.hold r+1)) ⟨d,hd⟩ wW (by simp) (by rw[g1,if_pos rfl]) (fun s hs=>by rw[g1,if_neg hs]) (by rw[g2,if_pos rfl,if_pos (by omega)]) (fun s hs=>by rw[g2,if_neg hs])
  refine JE.mk (fin {K with us:=K.us.set r (K.use r+1),ho:=K.ho.set r (K.hold r+1)} _ ⟨{b with CU:=JV,CH:=Jm},rfl,{hO with us:=x6,ho:=ni,ul:=by simp;exact Ek}⟩ hM (fun s hs=>?_) ⟨rfl,rfl,rfl,rfl,fun s=>?_⟩ (fun s=>?_) (fun _=>?_))
  ·show(K.us.set r (K.use r+1)).getD s 0=0
   have hs':K.N s=none:=hs
   rw[g2,if_neg (fun e=>by rw[e,hd]at hs';cases hs')];exact K6 s hs'
  ·show(K.ho.set r (K.hold r+1)).getD s 0=_
   rw[g1]
   by_cases e:s=r
   ·subst e;rw[if_pos rfl,if_pos ⟨rfl,kQ⟩]
   ·rw[if_neg e,if_neg (fun h=>e h.1)]
  ·show K.use s≤(K.us.set r (K.use r+1)).getD s 0
   rw[g2];split
   ·rename_i e;subst e;omega
   ·exact Nat.le_refl _
  ·show 0<(K.us.set r (K.use r+1)).getD r 0
   rw[g2,if_pos rfl];omega
 ·have hM:=QE.keep (r:=r) (cJ:=K.us) (ct:=K.ho.set r (K.hold r+1)) ⟨d,hd⟩ wW (by simp) (by rw[g1,if_pos rfl]) (fun s hs=>by rw[g1,if_neg hs]) (by show K.use r=_;rw[if_neg (by omega)];rfl) (fun s hs=>rfl)
  refine JE.mk (fin {K with ho:=K.ho.set r (K.hold r+1)} _ ⟨{b with CH:=Jm},rfl,{hO with ho:=ni,ul:=by simp;exact Ek}⟩ hM K6 ⟨rfl,rfl,rfl,rfl,fun s=>?_⟩ (fun _=>Nat.le_refl _) (fun _=>?_))
  rotate_left
  ·show 0<K.use r
   rw[QE.use hd,if_neg (by omega)];omega
  show(K.ho.set r (K.hold r+1)).getD s 0=_
  rw[g1]
  by_cases e:s=r
  ·subst e;rw[if_pos rfl,if_pos ⟨rfl,kQ⟩]
  ·rw[if_neg e,if_neg (fun h=>e h.1)]
theorem nI(h:cF kp K S ord ah tr C){r:Nat}(hl:live K.N r)(hf:2≤r→K.hold r<65535):Fc Tryz.prog 121 #[ptr kp,u32 r] C (fun v C'=>v=.int .i64 0∧∃K',cF kp K' S ord ah [] C'∧L6 K K' r):=by
 refine(wK h.rep h.ok.mid h.idle hl hf).mono ?_
 rintro v C' ⟨rfl,K',gE,U0,qL,hm,hu,hp⟩
 refine⟨rfl,K',⟨gE,⟨U0,fun s d hs=>?_,by rw[hm.n];exact h.ok.lv,by rw[hm.n,hm.N];exact h.ok.wf⟩,by rw[hm.n];exact h.od,qL,trivial⟩,hm⟩
 rw[hm.N]at hs
 exact Nat.lt_of_lt_of_le (h.ok.pos s d hs) (hu s)
end
end Go.Proofs
set_option maxRecDepth 100000
namespace Go.Proofs
open Go Go.Sx
open aE
section
variable {kp:Nat} {K:Kd} {ord ah tr:List Nat} {C:Hp} {S:Nat→aE.Fn}
theorem Co{K':Kd}{P:Nat→Nat}(hw:WF K.n (lv ah) K.N)(hM:gF K' S fM P)(hN:∀{s d},K'.N s=some d→K.N s=some d)(hn:K'.n=K.n):WF K'.n (lv ah) K'.N:=by
 have same:∀{t},live K'.N t→dep K'.n (lv ah) K'.N t=dep K.n (lv ah) K.N t:=fun{t} ht=>by
  cases e:K'.N t with
  |some f=>rw[av e,av (hN e)]
  |none=>
   have MA:t<2:=by
    rcases ht with ht|⟨f,hf⟩
    ·exact ht
    ·rw[e]at hf;cases hf
   rw[aT e,aT (hw.const MA),hn]
 refine hM.wf fun{s d} hs=>?_
 rw[same (hM.lo hs),same (hM.hi hs)]
 exact⟨(hw.lo (hN hs)).2,(hw.hi (hN hs)).2⟩
structure tV(K K':Kd)(r:Nat):Prop where
 n:K'.n=K.n
 cap:K'.cap=K.cap
 N:∀s d,K'.N s=some d→K.N s=some d
 hold:∀s,K'.hold s=if s=r∧2≤r then K.hold s-1 else K.hold s
theorem Ty(h:cF kp K S ord ah tr C){r:Nat}(hr:r<4294967296)(h2:2≤r)(h0:K.hold r=0):Rd Tryz.prog 131 #[ptr kp,u32 r] C (· =.int .i64 3):=by
 intro g
 refine rP (R:=az _) ?_
 unfold L131
 refine ae.bK (Br.no ?_)
 intro J2 _
 refine ae.nP (b:=1) (Br.dS (by omega) ?_)
 refine ag.rd .here (qF h.rep hr (fun s=>by have:=h.lN s;omega)) ?_
 rintro w rfl
 rw[h0]
 exact ae.jt (Br.dS rfl (cr.mk (.refl _) rfl))
theorem nT(h:cF kp K S ord ah tr C){r:Nat}(hr:r<4294967296)(hh:2≤r→K.hold r≠0):Fc Tryz.prog 131 #[ptr kp,u32 r] C (fun v C'=>v=.int .i64 0∧∃K',cF kp K' S ord ah [] C'∧tV K K' r):=by
 have h0:=h
 obtain⟨b,hC,hO⟩:=h.rep
 intro g
 refine rP (R:=az _) ?_
 unfold L131
 refine ae.bK (Br.no ?_)
 intro J2 y8
 have fin:∀(K':Kd) C1,cc kp K' ord ah tr C1→Ok K' S (lv ah)→Idle K'→tV K K' r→J2 [] C1:=fun K' C1 gE uR qL hm=>by
  refine y8 _ fun gs=>?_
  obtain⟨b',rfl,sD⟩:=gE
  refine Nil.ptr (aa.mk (St.one (by exact .head _) rfl (by simp[pK.cells]) rfl ?_))
  have iF:Ord K'.n (lv ah) ord:=by rw[hm.n];exact h.od
  refine az.mk (j5:=({b' with vt:=.slice none 0 0,CR:=[]}:pK).hp kp K'.n) ?_ ⟨rfl,K',⟨⟨{b' with vt:=.slice none 0 0,CR:=[]},rfl,{sD with tr:=aN.nil}⟩,uR,iF,qL,trivial⟩,hm⟩
  refine .cons (.dj (.dj (.dj (.dj (.dj (.dj .nil _) _) _) _) _) _)
 refine ae.nP (b:=1) (Br.dec (fun h2=>?_) (fun h2=>?_))
 rotate_left
 ·exact JE.mk (fin K C h.rep h.ok h.idle ⟨rfl,rfl,fun _ _ h=>h,fun s=>by rw[if_neg (by omega)]⟩)
 have kQ:2≤r:=by omega
 have ni:=hh kQ
 obtain⟨d,hd⟩:=h.ok.mid.held r ni
 have Sv:=h.ok.mid.fit hd
 have Ek:=hO.ul
 have hfit:r<K.ho.length:=by omega
 have hle:=h.lN r
 refine ag.rd .here (qF h.rep hr (fun s=>by have:=h.lN s;omega)) ?_
 rintro w rfl
 refine ae.jt (Br.aX (by omega) ?_)
 subst hC
 refine Nil.ptr (aa.mk (aa.mk (Ld.mk (v:=b.vh) (by exact .head _) rfl ?_)))
 refine hO.ho.ld (x:=((K.hold r:Nat):Int)) (bc hfit) (bP.sub (.cons (.app (.app (.app .left))))) ?_
 refine ae.bJ (b:=1) (by simp[aB];omega) (by omega) ?_
 refine hO.ho.iX (x:=((K.hold r-1:Nat):Int)) (.cons (.app (.app (.app .left)))) (by rw[aq];exact hfit) fun Jm O1=>?_
 rw[eM]at O1
 have g1:∀s,(K.ho.set r (K.hold r-1)).getD s 0=if s=r then K.hold r-1 else K.hold s:=fun s=>fe hfit
 have hM:=h.ok.mid.drop (r:=r) (ct:=K.ho.set r (K.hold r-1)) (by omega) (by simp) (by rw[g1,if_pos rfl];omega) (fun s hs=>by rw[g1,if_neg hs])
 have eB:cc kp {K with ho:=K.ho.set r (K.hold r-1)} ord ah tr (({b with CH:=Jm}:pK).hp kp K.n):=⟨_,rfl,{hO with ho:=O1,ul:=by simp;exact Ek}⟩
 have Sq:∀s,(K.ho.set r (K.hold r-1)).getD s 0=if s=r∧2≤r then K.hold s-1 else K.hold s:=fun s=>by
  rw[g1]
  by_cases e:s=r
  ·subst e;rw[if_pos rfl,if_pos ⟨rfl,kQ⟩]
  ·rw[if_neg e,if_neg (fun h=>e h.1)]
 refine Nil.ptr (aa.mk (aa.mk (Ld.mk (v:=b.vh) (by exact .head _) rfl ?_)))
 refine O1.ld (x:=((K.hold r-1:Nat):Int)) (by rw[bc (by simpa using hfit),g1,if_pos rfl]) (bP.sub (.cons (.app (.app (.app .left))))) ?_
 refine ae.fO (b:=0) (Br.dec (fun h3=>?_) (fun h3=>?_))
 rotate_left
 ·rw[if_neg (by omega)]at hM
  exact JE.mk (fin {K with ho:=K.ho.set r (K.hold r-1)} _ eB ⟨hM,h.ok.pos,h.ok.lv,h.ok.wf⟩ h.idle ⟨rfl,rfl,fun _ _ h=>h,Sq⟩)
 rw[if_pos (by omega)]at hM
 refine Nil.ptr (aa.mk ?_)
 have CY:gF {K with ho:=K.ho.set r (K.hold r-1)} S fM (fg zero' [r]):=hM.congr (fun _=>Iff.rfl) fun s _=>by
  unfold up fg zero'
  by_cases e:s=r
  ·subst e;simp
  ·simp[e,Ne.symm e]
 refine ag.fn .here (jC (P0:=zero') eB CY h.ok.pos (fun t Ih h0=>?_) (h.bY (.inr ⟨d,hd⟩)) (fun s=>by have:=h.yz s;show K.use s<_;omega)) ?_
 ·by_cases e:t=r
  ·subst e;exact⟨d,hd⟩
  ·have QJ:0<zero' t+[r].count t:=h0
   simp[zero',Ne.symm e]at QJ
 rintro w C2 ⟨rfl,K2,de,Ll,R2,_,cX⟩
 refine JE.mk (fin K2 _ de ⟨Ll,R2,by rw[cX.n];exact h.ok.lv,Co h.ok.wf Ll (fun h=>cX.N h) cX.n⟩ (cX.idle h.idle) ⟨cX.n,cX.cap,fun s e hs=>cX.N hs,fun s=>?_⟩)
 show K2.ho.getD s 0=_
 rw[cX.ho]
 exact Sq s
structure mB(K:Kd)(S:Nat→aE.Fn)(K':Kd)(S':Nat→aE.Fn)(f:aE.Fn)(r:Nat):Prop where
 n:K'.n=K.n
 cap:K'.cap=K.cap
 used:K'.used≤K.used+1
 N:∀s d,K.N s=some d→K'.N s=some d
 fn:∀s,live K.N s→S' s=S s
 live:live K'.N r
 is:S' r=f
 hold:∀s,K'.hold s=if s=r∧2≤r then K.hold s+1 else K.hold s
theorem uL(h:cF kp K S ord ah tr C){v lo hi:Nat}(hv:v<K.n)(hlo:live K.N lo)(hhi:live K.N hi)(hlt:lo=hi∨(lv ah v<dep K.n (lv ah) K.N lo∧lv ah v<dep K.n (lv ah) K.N hi)):
  Fc Tryz.prog 164 #[ptr kp,.int .i64 (v:Int),u32 lo,u32 hi] C (fun w C'=>
   (∃r K' S',w=.tuple #[u32 r,.int .i64 0]∧cF kp K' S' ord ah [] C'∧mB K S K' S' (ite S ⟨v,lo,hi⟩) r)∨
   (∃r,w=.tuple #[u32 0,.int .i64 8]∧C'=C∧live K.N r∧2≤r∧K.hold r=65535∧S r=ite S ⟨v,lo,hi⟩)∨
   (w=.tuple #[u32 0,.int .i64 9]∧C'=C∧K.cap≤K.used∧lo≠hi∧K.T ⟨v,lo,hi⟩=none)):=by
 have h0:=h
 have adg:=h.bY hlo
 have adt:=h.bY hhi
 have JB:=bI.2 hlo
 have vH:=bI.2 hhi
 have hfe:po K ah (v:Int) lo hi=0:=by
  unfold po
  rw[if_neg (by omega),if_neg (by rw[JB,vH];simp),if_neg]
  rintro⟨hne,hmin⟩
  rcases hlt with e|⟨a,b⟩
  ·exact hne e
  ·simp only[Int.toNat_natCast,lv]at hmin a b;omega
 intro g
 refine Bj (R:=az _) ?_
 unfold L164
 refine ae.bK (Br.no ?_)
 refine ag.rd .here (LD h.rep (v:Int) (by omega) (by omega) (fun r d hd=>⟨h.ok.mid.var hd,(h.ok.mid.two hd).1⟩)) ?_
 rintro w rfl
 rw[hfe]
 refine ae.c7 (Br.aX (by simp) ?_)
 refine ag.rd .here (Kt h.rep (lo:=lo) (hi:=hi) hv) ?_
 rintro w hw
 have there:∀(J9:List Value→Hp→Prop),(∀fZ:Value,∀dB:Hp,(∀qR:Fr,ag Tryz.prog g 121 #[ptr kp,fZ] dB (fun aY iB=>ae .num .neq aY (Value.int .i64 0) fun bD=>Br bD
   (az (fun w C'=>(∃r K' S',w=.tuple #[u32 r,.int .i64 0]∧cF kp K' S' ord ah [] C'∧mB K S K' S' (ite S ⟨v,lo,hi⟩) r)∨
   (∃r,w=.tuple #[u32 0,.int .i64 8]∧C'=C∧live K.N r∧2≤r∧K.hold r=65535∧S r=ite S ⟨v,lo,hi⟩)∨
   (w=.tuple #[u32 0,.int .i64 9]∧C'=C∧K.cap≤K.used∧lo≠hi∧K.T ⟨v,lo,hi⟩=none)) (.returned (.tuple #[(Value.int .u32 0),aY])) iB) (az (fun w C'=>(∃r K' S',w=.tuple #[u32 r,.int .i64 0]∧cF kp K' S' ord ah [] C'∧mB K S K' S' (ite S ⟨v,lo,hi⟩) r)∨
   (∃r,w=.tuple #[u32 0,.int .i64 8]∧C'=C∧live K.N r∧2≤r∧K.hold r=65535∧S r=ite S ⟨v,lo,hi⟩)∨
   (w=.tuple #[u32 0,.int .i64 9]∧C'=C∧K.cap≤K.used∧lo≠hi∧K.T ⟨v,lo,hi⟩=none)) (.returned (.tuple #[fZ,(Value.int .i64 0)])) iB)) (an (az (fun w C'=>(∃r K' S',w=.tuple #[u32 r,.int .i64 0]∧cF kp K' S' ord ah [] C'∧mB K S K' S' (ite S ⟨v,lo,hi⟩) r)∨
   (∃r,w=.tuple #[u32 0,.int .i64 8]∧C'=C∧live K.N r∧2≤r∧K.hold r=65535∧S r=ite S ⟨v,lo,hi⟩)∨
   (w=.tuple #[u32 0,.int .i64 9]∧C'=C∧K.cap≤K.used∧lo≠hi∧K.T ⟨v,lo,hi⟩=none)))))→J9 [fZ] dB)→
   ∀r,live K.N r→S r=ite S ⟨v,lo,hi⟩→J9 [u32 r] C:=fun J9 Ie r hr hS=>by
  refine Ie _ _ fun gs=>?_
  by_cases hf:2≤r∧K.hold r=65535
  ·refine ag.rd .here (Eg h hr hf.1 hf.2) ?_
   rintro w rfl
   exact ae.c7 (Br.dS (by simp) (az.here (.inr (.inl ⟨r,rfl,rfl,hr,hf.1,hf.2,hS⟩))))
  ·refine ag.fn .here (nI h hr (fun h2=>by have:=h.lN r;omega)) ?_
   rintro w C' ⟨rfl,K',gE,hm⟩
   refine ae.c7 (Br.aX (by simp) (az.here (.inl ⟨r,K',S,rfl,gE,⟨hm.n,hm.cap,by rw[hm.used];omega,fun s d hs=>by rw[hm.N];exact hs,fun _ _=>rfl,by rw[hm.N];exact hr,hS,hm.hold⟩⟩)))
 by_cases he:lo=hi
 ·rw[if_pos he]at hw
  subst hw
  refine Ext.mk rfl (Ext.mk rfl ?_)
  intro J9 Ie
  refine Un.not (Br.no (JE.mk (there J9 Ie lo hlo ?_)))
  funext z
  unfold aE.ite
  simp[he]
 rw[if_neg he]at hw
 have fV:lv ah v<dep K.n (lv ah) K.N lo∧lv ah v<dep K.n (lv ah) K.N hi:=by
  rcases hlt with e|e
  ·exact absurd e he
  ·exact e
 obtain⟨o,ho⟩:∃o,o=K.T ⟨v,lo,hi⟩:=⟨_,rfl⟩
 cases o with
 |some r=>
  have hT:K.T ⟨v,lo,hi⟩=some r:=ho.symm
  rw[hT]at hw
  subst hw
  refine Ext.mk rfl (Ext.mk rfl ?_)
  intro J9 Ie
  have hN:=((h.ok.mid.iD _ r).1 hT).1
  refine Un.not (Br.no (JE.mk (there J9 Ie r (.inr ⟨_,hN⟩) ?_)))
  funext z
  rw[h.ok.mid.int.node hN]
  rfl
 |none=>
  have hT:K.T ⟨v,lo,hi⟩=none:=ho.symm
  rw[hT]at hw
  subst hw
  refine Ext.mk rfl (Ext.mk rfl ?_)
  intro J9 Ie
  refine Un.not (Br.yes (Nil.ptr (aa.mk ?_)))
  have hcap:=h.ok.mid.cap
  refine ag.rd .here (wF h.rep (m:=1) (by omega) (by omega)) ?_
  rintro w rfl
  refine Un.not ?_
  by_cases hroom:K.used+1≤K.cap
  rotate_left
  ·rw[decide_eq_false hroom]
   exact Br.yes (az.here (.inr (.inr ⟨rfl,rfl,by omega,he,hT⟩)))
  rw[decide_eq_true hroom]
  refine Br.no (Nil.ptr (aa.mk ?_))
  refine Build.mk (cs:=aV ⟨v,lo,hi⟩) (by kernel_rfl) ?_
  have hfit:∀{t:Nat},live K.N t→t<2∨t<K.us.length:=fun ht'=>by
   rcases ht' with ht'|⟨d,cI⟩
   ·exact .inl ht'
   ·exact .inr (h.ok.mid.fit cI)
  have wV:K.n≤64:=by obtain⟨_,_,hO⟩:=h.rep;exact hO.ta
  refine ag.fn .here (B7 h.rep (d:=⟨v,lo,hi⟩) ⟨by show v<64;omega,hlo,hhi⟩ hv hT (by omega) (hfit hlo) (hfit hhi) (fun s=>by have:=h.yz s;omega)) ?_
  rintro w C1 ⟨r,cJ,ct,rfl,hN,h2,hrc,hlen,Xg,Ek,u0,u1,u2,o0,o1,eB⟩
  have Ey:=h.ok.mid.lay (r:=r) (d:=⟨v,lo,hi⟩) hN ⟨h2,hrc⟩ hv he hlo hhi hT (fun h=>h) rfl (by omega) hlen ⟨Xg,Ek⟩ u0 u1 o0 o1
  have Ya:∀s d,K.N s=some d→up K.N r (some ⟨v,lo,hi⟩) s=some d:=fun s d hs=>by rw[aL (fun e=>by rw[e,hN]at hs;cases hs)];exact hs
  have hne:∀{t:Nat},live K.N t→t≠r:=fun ht=>eA ht h2 hN
  have HK:Idle {K with N:=up K.N r (some ⟨v,lo,hi⟩),T:=nf K.T ⟨v,lo,hi⟩ (some r),used:=K.used+1,us:=cJ,ho:=ct}:=fun s hs=>by
   have hs':up K.N r (some ⟨v,lo,hi⟩) s=none:=hs
   have OG:s≠r:=fun e=>by subst e;rw[aH]at hs';cases hs'
   rw[aL OG]at hs'
   show cJ.getD s 0=0
   by_cases QH:2≤s
   ·rw[u1 s QH OG,h.idle s hs',df]
    have a1:lo≠s:=fun e=>by
     rcases hlo with h5|⟨d,h5⟩
     ·omega
     ·rw[e,hs']at h5;cases h5
    have a2:hi≠s:=fun e=>by
     rcases hhi with h5|⟨d,h5⟩
     ·omega
     ·rw[e,hs']at h5;cases h5
    simp[a1,a2]
   ·rw[u2 s (by omega),h.idle s hs']
  refine JE.mk (Ie _ _ fun gs=>?_)
  refine ag.fn .here (wK eB Ey HK (r:=r) (.inr ⟨_,aH⟩) (fun _=>by show ct.getD r 0<65535;rw[o0];omega)) ?_
  rintro w C2 ⟨rfl,K2,de,CY,y6,hm,hu,hp⟩
  refine ae.c7 (Br.aX (by simp) ?_)
  have OP:K2.n=K.n:=hm.n
  have Pk:K2.N=up K.N r (some ⟨v,lo,hi⟩):=hm.N
  have hpos:Pos K2:=fun s d hs=>by
   by_cases e:s=r
   ·rw[e];exact hp h2
   ·rw[Pk,aL e]at hs
    have h3:=hu s
    have h4:({K with N:=up K.N r (some ⟨v,lo,hi⟩),T:=nf K.T ⟨v,lo,hi⟩ (some r),used:=K.used+1,us:=cJ,ho:=ct}:Kd).use s=cJ.getD s 0:=rfl
    rw[h4,u1 s (h.ok.mid.two hs).1 e]at h3
    have:=h.ok.pos s d hs
    omega
  have uU:∀{t:Nat},live K.N t→dep K2.n (lv ah) K2.N t=dep K.n (lv ah) K.N t:=fun{t} ht=>by
   rw[Pk,OP]
   unfold dep
   rw[aL (hne ht)]
  have W5:WF K2.n (lv ah) K2.N:=CY.wf fun{s d} hs=>by
   rw[Pk]at hs
   by_cases e:s=r
   ·rw[e,aH]at hs;cases hs
    rw[uU hlo,uU hhi];exact fV
   ·rw[aL e]at hs
    rw[uU (h.ok.wf.lo hs).1,uU (h.ok.wf.hi hs).1]
    exact⟨(h.ok.wf.lo hs).2,(h.ok.wf.hi hs).2⟩
  have hS:∀s,live K.N s→up S r (ite S ⟨v,lo,hi⟩) s=S s:=fun s hs=>aL (hne hs)
  refine az.here (.inl ⟨r,K2,up S r (ite S ⟨v,lo,hi⟩),rfl,⟨de,⟨CY,hpos,by rw[OP];exact h.ok.lv,W5⟩,by rw[OP];exact h.od,y6,trivial⟩,⟨OP,hm.cap,by rw[hm.used];exact Nat.le_refl _,fun s d hs=>by rw[Pk];exact Ya s d hs,hS,.inr ⟨_,by rw[Pk];exact aH⟩,aH,fun s=>?_⟩⟩)
  rw[hm.hold]
  show(if s=r∧2≤r then ct.getD s 0+1 else ct.getD s 0)=_
  by_cases e:s=r
  ·subst e
   rw[if_pos ⟨rfl,h2⟩,if_pos ⟨rfl,h2⟩,o0]
   have:K.hold s=0:=by
    apply Decidable.byContradiction
    intro hne
    obtain⟨d,hd⟩:=h.ok.mid.held s hne
    rw[hN]at hd;cases hd
   omega
  ·rw[if_neg (fun h=>e h.1),if_neg (fun h=>e h.1),o1 s e]
end
end Go.Proofs
set_option maxRecDepth 100000
namespace Go.Proofs
open Go Go.Sx
open aE
theorem hnew{H:Hp}:bP [] H (fun X=>X++H):=bP.left
theorem Hu{n:Nat}(hn:n≤64):Fc Tryz.prog 185 #[.int .i64 (n:Int)] [] (fun v H=>aN 3 .i64 v (iw (List.range n)) H):=by
 intro g
 refine Bd (R:=az _) ?_
 unfold L185
 refine cW.ints (by omega) (by omega) fun b=>?_
 have h0:aN 3 .i64 (.slice (some ⟨b,0,none⟩) n n) (List.replicate n 0) [(b,.cells (ax .i64 (List.replicate n 0)) 3 (0,0))]:=by
  have:=aN.made (T:=3) (kd:=.i64) (b:=b) (List.replicate n (0:Int))
  rw[List.length_replicate]at this;exact this
 refine⟨fun vs H=>∃j:Nat,vs=[.int .i64 (j:Int)]∧j≤n∧aN 3 .i64 (.slice (some ⟨b,0,none⟩) n n) (iw (List.range j)++List.replicate (n-j) 0) H,fun vs _=>n-bR vs 0,JE.mk ⟨0,rfl,by omega,by simpa[iw]using h0⟩,?_⟩
 rintro w H ⟨j,hw,hj,hs⟩ gs
 simp only[List.cons.injEq,and_true]at hw
 subst hw
 refine ae.fq (Br.dec (fun hlt=>?_) (fun hlt=>?_))
 ·refine hs.iX (x:=(j:Int)) .here (by simp;omega) fun C' hs'=>?_
  refine ae.aK (b:=1) (by simp[aB];omega) ?_
  have e:(iw (List.range j)++List.replicate (n-j) 0).set j (j:Int)=iw (List.range (j+1))++List.replicate (n-(j+1)) 0:=by
   rw[List.set_append_right _ _ (by simp)]
   rw[show n-j=(n-(j+1))+1 by omega,List.replicate_succ,List.range_succ,cL]
   simp[iw]
  rw[e]at hs'
  exact aF.of (.refl _) ⟨j+1,rfl,by omega,hs'⟩ (by show n-(((j+1:Nat):Int).toNat)<n-(((j:Nat):Int).toNat);omega)
 ·obtain rfl:j=n:=by omega
  exact az.here (by simpa using hs)
theorem wO{n:Nat}(hn:n≤64):Fc Tryz.prog 116 #[.int .i64 (n:Int)] [] (fun v H=>∃s,v=.tuple #[s,.int .i64 0]∧aN 3 .i64 s (iw (List.range n)) H):=by
 intro g
 refine BG (R:=az _) ?_
 unfold L116
 refine ae.lss ?_
 rw[decide_eq_false (by omega)]
 refine cw.or false (fun _=>ae.gtr ⟨rfl,by rw[decide_eq_false (by omega)]⟩) rfl fun _=>Br.no ?_
 refine ag.fn .here (Hu hn) ?_
 intro s H hs
 exact az.here ⟨s,rfl,hs⟩
def K0(n cap:Nat):Kd:=⟨n,cap,2,fun _=>none,fun _=>none,[],[]⟩
def S0:Nat→aE.Fn:=fun r _=>decide (r=1)
theorem kJ{n v:Nat}(hv:v<n):lv (List.range n) v=v:=by
 show(List.range n).getD v 0=v
 simp[List.getD,hv]
theorem T6{n cap:Nat}(hc:2≤cap∧cap≤1048576):Ok (K0 n cap) S0 (lv (List.range n)):=by
 have c0:∀k,j4 (fun _=>none) k=0:=fun k=>by induction k with|zero=>rfl|succ k ih=>rw[j4,ih];rfl
 have hm:gF (K0 n cap) S0 fM zero':={
  two:=fun h=>nomatch h
  var:=fun h=>nomatch h
  ne:=fun h=>nomatch h
  lo:=fun h=>nomatch h
  hi:=fun h=>nomatch h
  int:=⟨fun _=>rfl,fun _=>rfl,fun h=>nomatch h⟩
  iD:=fun d r=>⟨fun h=>(nomatch h),fun h=>nomatch h.1⟩
  use:=fun h=>nomatch h
  len:=rfl
  fit:=fun h=>nomatch h
  held:=fun r h=>absurd (by simp[Kd.hold,K0]) h
  mx:=fun r=>by simp[Kd.hold,K0]
  room:=by show 2=2+j4 (fun _=>none) _;rw[c0]
  cap:=hc}
 refine⟨hm,fun r d h=>(nomatch h),⟨fun v hv=>?_,fun u v hu hv h=>?_⟩,⟨fun h=>(nomatch h),fun h=>(nomatch h),fun h=>(nomatch h),fun h=>(nomatch h),fun h=>(nomatch h),fun h=>(nomatch h)⟩⟩
 ·have Hv:v<n:=hv
  rw[kJ Hv];exact hv
 ·have x6:u<n:=hu
  have Hv:v<n:=hv
  rwa [kJ x6,kJ Hv]at h
theorem wx{pt n cap:Nat}{CT:Hp}(hu:mz pt n (fun _=>none) CT)(hc:2≤cap∧cap≤1048576):Fc Tryz.prog 118 #[.int .i64 (cap:Int),ptr pt] CT (fun v H=>∃pa CA,v=.tuple #[.agg #[ptr pa,ptr pt,.slice none 0 0,.slice none 0 0],.int .i64 0]∧fQ pa cap 2 (fun _=>none) CA∧H=CA++CT):=by
 intro g
 refine BE (R:=az _) ?_
 unfold L118
 intro b1 _
 refine ag.fn hnew (LV hc) ?_
 rintro v C ⟨pa,rfl,hA⟩
 refine Ext.mk rfl (Ext.mk rfl ?_)
 refine Build.mk (cs:=[ptr pa,ptr pt,.slice none 0 0,.slice none 0 0]) (by kernel_rfl) ?_
 refine St.whole (r:=[ptr pa,ptr pt,.slice none 0 0,.slice none 0 0]) (dH.dD (.head _) _) rfl rfl (by simp[Value.oneCell']) ?_
 refine aC.whole (r:=[ptr pa,ptr pt,.slice none 0 0,.slice none 0 0]) (by exact List.mem_append_right _ (.head _)) rfl ?_
 exact az.mk (.dj .tail _) ⟨pa,C,rfl,hA,rfl⟩
theorem N0{n cap:Nat}(hn:1≤n∧n≤64)(hc:2≤cap∧cap≤1048576):Fc Tryz.prog 51 #[.int .i64 (n:Int),.int .i64 (cap:Int)] [] (fun v C=>∃kp,v=.tuple #[ptr kp,.int .i64 0]∧cF kp (K0 n cap) S0 (List.range n) (List.range n) [] C):=by
 intro g
 refine Fb (R:=az _) ?_
 unfold L51
 refine ag.fn .here (wO hn.2) ?_
 rintro v CO ⟨s,rfl,hO⟩
 obtain⟨sa,sl,sc,hse⟩:∃a l c,s=Value.slice a l c:=by obtain⟨a,c,h⟩:=aQ.len hO;exact⟨a,_,c,h⟩
 refine Ext.mk rfl (Ext.mk rfl ?_)
 refine ae.c7 ?_
 refine cw.or false (fun _=>ae.lss ⟨rfl,by rw[decide_eq_false (by omega)]⟩) rfl fun gs=>?_
 refine cw.or false (fun _=>ae.lss ⟨rfl,by rw[decide_eq_false (by omega)]⟩) rfl fun gs=>?_
 refine cw.or false (fun _=>ae.gtr ⟨rfl,by rw[decide_eq_false (by omega)]⟩) rfl fun gs=>Br.no ?_
 refine ag.fn hnew (Kf hn) ?_
 rintro v CT ⟨pt,rfl,hT⟩
 refine Ext.mk rfl (Ext.mk rfl ?_)
 refine ae.c7 (Br.no ?_)
 refine ag.fn .left (wx hT hc) ?_
 rintro v H ⟨pa,CA,rfl,hA,rfl⟩
 refine Ext.mk rfl (Ext.mk rfl ?_)
 intro PG _
 refine St.whole (r:=[ptr pa,ptr pt,.slice none 0 0,.slice none 0 0]) (by exact .head _) rfl rfl (by simp[Value.oneCell']) ?_
 refine ae.c7 (Br.no (DR.self ?_))
 refine aC.whole (r:=[ptr pa,ptr pt,.slice none 0 0,.slice none 0 0]) (by exact .head _) rfl ?_
 refine ag.fn (.cons (.app .here)) (xA (hO.ints.mono fun _ h=>h) (by simp;omega)) ?_
 rintro v H ⟨CL,rfl,hL⟩
 obtain⟨la,ll,lc,hle⟩:∃a l c,v=Value.slice a l c:=by obtain⟨a,c,h⟩:=aQ.len hL;exact⟨a,_,c,h⟩
 refine⟨(.cons (.dj .right _)),?_⟩
 subst hse hle
 refine Build.mk (cs:=[ptr pa,ptr pt,.slice none 0 0,.slice none 0 0,.int .i64 (n:Int),.slice sa sl sc,.slice la ll lc,.slice none 0 0]) (by kernel_rfl) ?_
 intro oQ _
 refine⟨(.skip (.cons (.dj .right _))),?_⟩
 let kb:pK:=⟨pa,pt,.slice none 0 0,.slice none 0 0,.slice sa sl sc,.slice la ll lc,.slice none 0 0,CA,CT,[],[],CO,CL,[]⟩
 refine az.mk (j5:=kb.hp oQ n) ?_ ⟨oQ,rfl,⟨kb,rfl,⟨hA,hT,aN.nil,aN.nil,hO,hL,aN.nil,⟨rfl,by simp[K0]⟩,hn.2,by simp[K0]⟩⟩,T6 hc,⟨by simp[K0],fun l hl=>?_⟩,fun s _=>by simp[Kd.use,K0],trivial⟩
 ·refine .cons (.skip ((aU.assoc).trans ?_))
  show aU (CA++(CT++(CL++CO))) (CA++(CT++([]++([]++(CO++(CL++[]))))))
  simp only[List.nil_append,List.append_nil]
  exact .dj (.dj (.perm List.perm_append_comm) _) _
 ·have hl':l<n:=hl
  have e:(List.range n).getD l 0=l:=kJ hl'
  rw[e];exact⟨hl,kJ hl'⟩
end Go.Proofs
namespace aE
def aG(ord path:List Nat):List Nat:=path.foldl fy ord
theorem gA{ord path:List Nat}{l:Nat}:aG ord (path++[l])=fy (aG ord path) l:=by simp[aG]
theorem kz{ord path q:List Nat}:aG ord (path++q)=aG (aG ord path) q:=by simp[aG]
theorem iU{ord:List Nat}:∀{path:List Nat},(aG ord path).length=ord.length:=by
 intro path
 unfold aG
 induction path generalizing ord with
 |nil=>rfl
 |cons l r ih=>rw[List.foldl_cons,ih];simp[fy]
def gY:Nat→List Nat
 |2=>[0]
 |3=>[1,0,1,0,1]
 |4=>[2,1,0,2,0,1,2,0,2,1,0,2,0,1,2,0,2,1,0,2,0,1,2]
 |_=>[]
structure Rm where
 n:Nat
 size:List Nat→Nat
 fit:List Nat→Nat→Bool
def Rm.dY(m:Rm)(p:Nat):List Nat→List Nat→List Nat
 | [],_=>[]
 |c::cs,ord=>if m.fit ord (p+c)then(p+c)::m.dY p cs (fy ord (p+c))else []
def Rm.keep(m:Rm)(ord path:List Nat):Nat→Nat
 |0=>0
 |i+1=>if m.size (aG ord (path.take (i+1)))<m.size (aG ord (path.take (m.keep ord path i)))then i+1 else m.keep ord path i
def Rm.visit(m:Rm)(w p:Nat)(ord:List Nat):List Nat×Nat:=
 let path:=m.dY p (gY w) ord
 let k:=m.keep ord path path.length
 (path.take k,path.length+(path.length-k))
def Rm.all(m:Rm)(w:Nat)(ord:List Nat):Nat→List Nat×Nat
 |0=>([],0)
 |i+1=>let a:=m.all w ord i;let b:=m.visit w i (aG ord a.1);(a.1++b.1,a.2+b.2)
def Rm.pass(m:Rm)(w:Nat)(ord:List Nat):List Nat×Nat:=m.all w ord (m.n+1-w)
def Rm.rounds(m:Rm)(w:Nat)(ord:List Nat):Nat→List Nat×Nat
 |0=>([],0)
 |r+1=>let a:=m.rounds w ord r;let b:=m.pass w (aG ord a.1);(a.1++b.1,a.2+b.2)
theorem Rm.qT(m:Rm)(p:Nat):∀cs ord,(m.dY p cs ord).length≤cs.length
 | [],_=>by simp[dY]
 |c::cs,ord=>by
  rw[dY]
  split
  ·have:=m.qT p cs (fy ord (p+c));simp only[List.length_cons];omega
  ·simp
theorem Rm.qU(m:Rm)(p:Nat):∀cs ord i,i<(m.dY p cs ord).length→(m.dY p cs ord)[i]? =(cs[i]?).map (p+ ·)∧∃c,cs[i]? =some c∧m.fit (aG ord ((m.dY p cs ord).take i)) (p+c)=true
 | [],_,i,h=>by simp[dY]at h
 |c::cs,ord,i,h=>by
  by_cases hf:m.fit ord (p+c)=true
  ·rw[dY,if_pos hf]at h⊢
   cases i with
   |zero=>exact⟨by simp,c,rfl,hf⟩
   |succ i=>
    obtain⟨h1,c',h2,h3⟩:=m.qU p cs (fy ord (p+c)) i (by simpa using h)
    exact⟨by simpa using h1,c',by simpa using h2,by simpa[aG]using h3⟩
  ·rw[dY,if_neg hf]at h;simp at h
theorem Rm.xg(m:Rm)(p:Nat):∀cs ord c,cs[(m.dY p cs ord).length]? =some c→m.fit (aG ord (m.dY p cs ord)) (p+c)=false
 | [],_,c,h=>by simp at h
 |c'::cs,ord,c,h=>by
  by_cases hf:m.fit ord (p+c')=true
  ·rw[dY,if_pos hf]at h⊢
   have:=m.xg p cs (fy ord (p+c')) c (by simpa using h)
   simpa[aG]using this
  ·rw[dY,if_neg hf]at h⊢
   simp only[List.length_nil,List.getElem?_cons_zero,Option.some.injEq]at h
   subst h
   simpa[aG]using hf
theorem Rm.Ij(m:Rm)(p:Nat){cs ord:List Nat}{l:Nat}(h:l∈m.dY p cs ord):∃c∈cs,l=p+c:=by
 obtain⟨i,hi,e⟩:=List.getElem_of_mem h
 obtain⟨h1,c,h2,_⟩:=m.qU p cs ord i hi
 rw[List.getElem?_eq_getElem hi,e,h2]at h1
 exact⟨c,List.mem_of_getElem? h2,by simpa using h1⟩
theorem Rm.pV(m:Rm)(ord path:List Nat):∀i,m.keep ord path i≤i
 |0=>Nat.le_refl _
 |i+1=>by rw[keep];split;omega;have:=m.pV ord path i;omega
theorem Rm.wJ(m:Rm)(ord path:List Nat):∀i j,j≤i→m.size (aG ord (path.take (m.keep ord path i)))≤m.size (aG ord (path.take j))
 |0,j,h=>by
  obtain rfl:j=0:=by omega
  exact Nat.le_refl _
 |i+1,j,h=>by
  by_cases e:j=i+1
  ·subst e;rw[keep];split<;>omega
  ·have:=m.wJ ord path i j (by omega)
   rw[keep];split<;>omega
theorem vj{w c:Nat}(h:c∈gY w):c+2≤w:=by
 unfold gY at h
 split at h
 ·simp at h;omega
 ·simp at h;omega
 ·simp at h;omega
 ·simp at h
theorem vi(w:Nat):(gY w).length≤23:=by
 unfold gY
 split<;>simp
theorem Rm.om(m:Rm)(w p:Nat)(ord:List Nat):(m.visit w p ord).1.length≤23∧(m.visit w p ord).2≤46:=by
 have h1:=m.qT p (gY w) ord
 have h2:=vi w
 have h3:=m.pV ord (m.dY p (gY w) ord) (m.dY p (gY w) ord).length
 constructor
 ·show(List.take _ _).length≤23
  rw[List.length_take];omega
 ·show _+(_-_)≤46
  omega
theorem Rm.Ga(m:Rm)(w p:Nat)(ord:List Nat):m.size (aG ord (m.visit w p ord).1)≤m.size ord:=by
 have:=m.wJ ord (m.dY p (gY w) ord) (m.dY p (gY w) ord).length 0 (Nat.zero_le _)
 simpa[visit,aG]using this
theorem Rm.zB(m:Rm)(w:Nat)(ord:List Nat):∀i,m.size (aG ord (m.all w ord i).1)≤m.size ord
 |0=>Nat.le_refl _
 |i+1=>by
  have h1:=m.zB w ord i
  have h2:=m.Ga w i (aG ord (m.all w ord i).1)
  show m.size (aG ord (_++_))≤_
  rw[kz]
  exact Nat.le_trans h2 h1
theorem Rm.p8(m:Rm)(w:Nat)(ord:List Nat):∀i,(m.all w ord i).1.length≤23*i∧(m.all w ord i).2≤46*i
 |0=>⟨Nat.le_refl _,Nat.le_refl _⟩
 |i+1=>by
  have h1:=m.p8 w ord i
  have h2:=m.om w i (aG ord (m.all w ord i).1)
  constructor
  ·show((m.all w ord i).1++(m.visit w i (aG ord (m.all w ord i).1)).1).length≤_
   rw[List.length_append];omega
  ·show(m.all w ord i).2+(m.visit w i (aG ord (m.all w ord i).1)).2≤_
   omega
theorem Rm.qv(m:Rm)(w:Nat)(ord:List Nat):∀r,(m.rounds w ord r).1.length≤23*(m.n+1)*r∧(m.rounds w ord r).2≤46*(m.n+1)*r
 |0=>⟨Nat.le_refl _,Nat.le_refl _⟩
 |r+1=>by
  have h1:=m.qv w ord r
  have h2:=m.p8 w (aG ord (m.rounds w ord r).1) (m.n+1-w)
  have e1:23*(m.n+1)*(r+1)=23*(m.n+1)*r+23*(m.n+1):=by rw[Nat.mul_add,Nat.mul_one]
  have e2:46*(m.n+1)*(r+1)=46*(m.n+1)*r+46*(m.n+1):=by rw[Nat.mul_add,Nat.mul_one]
  constructor
  ·show((m.rounds w ord r).1++(m.pass w (aG ord (m.rounds w ord r).1)).1).length≤_
   rw[List.length_append,e1]
   have:(m.pass w (aG ord (m.rounds w ord r).1)).1.length≤23*(m.n+1-w):=h2.1
   omega
  ·show(m.rounds w ord r).2+(m.pass w (aG ord (m.rounds w ord r).1)).2≤_
   rw[e2]
   have:(m.pass w (aG ord (m.rounds w ord r).1)).2≤46*(m.n+1-w):=h2.2
   omega
theorem Rm.rounds_succ(m:Rm)(w:Nat)(ord:List Nat)(r:Nat):m.rounds w ord (r+1)=((m.rounds w ord r).1++(m.pass w (aG ord (m.rounds w ord r).1)).1,(m.rounds w ord r).2+(m.pass w (aG ord (m.rounds w ord r).1)).2):=rfl
theorem Rm.all_succ(m:Rm)(w:Nat)(ord:List Nat)(i:Nat):m.all w ord (i+1)=((m.all w ord i).1++(m.visit w i (aG ord (m.all w ord i).1)).1,(m.all w ord i).2+(m.visit w i (aG ord (m.all w ord i).1)).2):=rfl
end aE
set_option maxRecDepth 100000
namespace Go.Proofs
open Go Go.Sx
open aE
def At(kp:Nat)(K:Kd)(S:Nat→aE.Fn)(ord tr:List Nat)(C:Hp):Prop:=∃K' S' dm,cF kp K' S' ord dm tr C∧Kept K S K' S'
noncomputable def cQ(K:Kd)(S:Nat→aE.Fn)(ord:List Nat):Nat:=sz K.n ord (K.held S)
def kO(K:Kd)(S:Nat→aE.Fn)(ord:List Nat)(l:Nat):Prop:=vT K.n ord l (K.held S)+2≤K.cap
section
variable {kp:Nat} {K:Kd} {S:Nat→aE.Fn} {ord tr:List Nat} {C:Hp}
theorem cF.oS{ah:List Nat}(h:cF kp K S ord ah tr C):At kp K S ord tr C:=⟨K,S,ah,h,.refl _ _⟩
theorem wE{ah:List Nat}(h:cF kp K S ord ah tr C):K.used=cQ K S ord+2:=by
 have h1:=Rg (h.ok.size h.od)
 have h2:=h.ok.mid.room
 unfold cQ
 omega
theorem wI{K':Kd}{S':Nat→aE.Fn}(h:Kept K S K' S')(ord:List Nat):cQ K' S' ord=cQ K S ord:=by
 unfold cQ;rw[h.n];exact GB h.held
theorem tx{K':Kd}{S':Nat→aE.Fn}(h:Kept K S K' S')(ord:List Nat)(l:Nat):kO K' S' ord l↔kO K S ord l:=by
 unfold kO;rw[h.n,h.cap,DL h.held]
theorem At.len(h:At kp K S ord tr C):ord.length=K.n:=by
 obtain⟨K',S',dm,h,hk⟩:=h
 rw[←hk.n];exact h.od.len
theorem zx(h:At kp K S ord tr C):cQ K S ord≤1048574:=by
 obtain⟨K',S',dm,h,hk⟩:=h
 rw[←wI hk];have:=wE h;have:=h.ok.mid.cap;omega
theorem At.ta(h:At kp K S ord tr C):K.n≤64:=by
 obtain⟨K',S',dm,h,hk⟩:=h
 obtain⟨b,_,hO⟩:=h.rep
 rw[←hk.n];exact hO.ta
theorem dV(h:At kp K S ord tr C):Rd Tryz.prog 15 #[ptr kp] C (· =.int .i64 ((cQ K S ord:Nat):Int)):=by
 obtain⟨K',S',dm,h,hk⟩:=h
 have hs:=wE h
 have hc:=h.ok.mid.cap
 refine(pU h.rep (by omega) (by omega)).mono ?_
 rintro v H ⟨rfl,rfl⟩
 exact⟨rfl,by rw[hs,wI hk];rfl⟩
theorem ru(h:At kp K S ord tr C):Rd Tryz.prog 34 #[ptr kp] C (· =.int .i64 ((tr.length:Nat):Int)):=by
 obtain⟨K',S',dm,h,hk⟩:=h
 exact Ef h.rep
theorem Dm(h:At kp K S ord tr C):Rd Tryz.prog 61 #[ptr kp] C (· =.int .i64 ((K.n:Nat):Int)):=by
 obtain⟨K',S',dm,h,hk⟩:=h
 rw[←hk.n];exact gO h.rep
theorem ry(h:At kp K S ord tr C):Fc Tryz.prog 13 #[ptr kp] C (fun r H=>∃N,H=N++C∧aN 3 .i64 r (iw ord) N):=by
 obtain⟨K',S',dm,h,hk⟩:=h
 exact oA h.rep
theorem Dp(h:At kp K S ord tr C){l:Nat}(hl:l+1<K.n)(oF:tr.length<1099511627776)(hf:kO K S ord l):Fc Tryz.prog 17 #[ptr kp,.int .i64 (l:Int)] C (fun r C'=>r=.int .i64 0∧At kp K S (fy ord l) (tr++[l]) C'):=by
 obtain⟨K',S',dm,h,hk⟩:=h
 refine(C9 h (by rw[hk.n];exact hl) oF).mono ?_
 rintro v C' (⟨_,rfl,K2,S2,Oe,h2,qK⟩|⟨hno,_,_⟩)
 ·exact⟨rfl,K2,S2,Oe,h2,hk.trans qK⟩
 ·have:=(tx hk ord l).2 hf
  unfold kO at this;omega
theorem zy(h:At kp K S ord tr C){l:Nat}(hl:l+1<K.n)(oF:tr.length<1099511627776)(hf:¬kO K S ord l):Rd Tryz.prog 17 #[ptr kp,.int .i64 (l:Int)] C (· =.int .i64 9):=by
 obtain⟨K',S',dm,h,hk⟩:=h
 refine(C9 h (by rw[hk.n];exact hl) oF).mono ?_
 rintro v C' (⟨OA,_⟩|⟨hno,rfl,rfl⟩)
 ·exact absurd ((tx hk ord l).1 OA) hf
 ·exact⟨rfl,rfl⟩
theorem Dn{l:Nat}(h:At kp K S ord (tr++[l]) C)(oF:tr.length<1099511627776):Fc Tryz.prog 18 #[ptr kp] C (fun r C'=>r=.tuple #[.int .i64 (l:Int),.int .i64 0]∧At kp K S (fy ord l) tr C'):=by
 obtain⟨K',S',dm,h,hk⟩:=h
 refine(Kg h oF).mono ?_
 rintro v C' ⟨rfl,_,K2,S2,Oe,h2,qK⟩
 exact⟨rfl,K2,S2,Oe,h2,hk.trans qK⟩
theorem NI(h:At kp K S ord tr C){l:Nat}(hl:l+1<K.n)(oF:tr.length<1099511627776)(hf:kO K S ord l):Fc Tryz.prog 144 #[ptr kp,.int .i64 (l:Int)] C (fun r C'=>
   r=.tuple #[.agg #[.int .i64 (l:Int),.int .i64 ((cQ K S ord:Nat):Int),.int .i64 ((cQ K S (fy ord l):Nat):Int)],.int .i64 0]∧At kp K S (fy ord l) (tr++[l]) C'):=by
 intro g
 refine rO (R:=az _) ?_
 unfold L144
 intro b1 _
 refine ag.rd (.cons .here) (dV h) ?_
 rintro v rfl
 refine Build.mk (cs:=[.int .i64 (l:Int),.int .i64 ((cQ K S ord:Nat):Int),.int .i64 0]) (by kernel_rfl) ?_
 intro b6 _
 refine St.whole (r:=[.int .i64 (l:Int),.int .i64 ((cQ K S ord:Nat):Int),.int .i64 0]) (by exact .head _) rfl rfl (by simp[Value.oneCell']) ?_
 refine ag.fn (.cons (.cons .here)) (Dp h hl oF hf) ?_
 rintro v C' ⟨rfl,h'⟩
 refine ae.c7 (Br.aX (by simp) ?_)
 refine ag.rd (.cons (.cons .here)) (dV h') ?_
 rintro v rfl
 refine aa.mk (St.one (by exact .head _) rfl (by simp) rfl ?_)
 refine aC.whole (r:=[.int .i64 (l:Int),.int .i64 ((cQ K S ord:Nat):Int),.int .i64 ((cQ K S (fy ord l):Nat):Int)]) (by exact .head _) rfl ?_
 refine St.whole (r:=[.int .i64 (l:Int),.int .i64 ((cQ K S ord:Nat):Int),.int .i64 ((cQ K S (fy ord l):Nat):Int)]) (by exact .tail (.head _)) rfl rfl (by simp[Value.oneCell']) ?_
 refine aC.whole (r:=[.int .i64 (l:Int),.int .i64 ((cQ K S ord:Nat):Int),.int .i64 ((cQ K S (fy ord l):Nat):Int)]) (by exact .tail _ (.head _)) rfl ?_
 exact az.mk (.skip .tail) ⟨rfl,h'⟩
theorem NJ(h:At kp K S ord tr C){l:Nat}(hl:l+1<K.n)(oF:tr.length<1099511627776)(hf:¬kO K S ord l):Rd Tryz.prog 144 #[ptr kp,.int .i64 (l:Int)] C (· =.tuple #[.agg #[.int .i64 0,.int .i64 0,.int .i64 0],.int .i64 9]):=by
 intro g
 refine rO (R:=az _) ?_
 unfold L144
 intro b1 _
 refine ag.rd (.cons .here) (dV h) ?_
 rintro v rfl
 refine Build.mk (cs:=[.int .i64 (l:Int),.int .i64 ((cQ K S ord:Nat):Int),.int .i64 0]) (by kernel_rfl) ?_
 intro b6 _
 refine St.whole (r:=[.int .i64 (l:Int),.int .i64 ((cQ K S ord:Nat):Int),.int .i64 0]) (by exact .head _) rfl rfl (by simp[Value.oneCell']) ?_
 refine ag.rd (.cons (.cons .here)) (zy h hl oF hf) ?_
 rintro v rfl
 refine ae.c7 (Br.dS (by simp) ?_)
 refine Build.mk (cs:=[.int .i64 0,.int .i64 0,.int .i64 0]) (by kernel_rfl) ?_
 refine St.whole (r:=[.int .i64 0,.int .i64 0,.int .i64 0]) (by exact .tail (.head _)) rfl rfl (by simp[Value.oneCell']) ?_
 refine aC.whole (r:=[.int .i64 0,.int .i64 0,.int .i64 0]) (by exact .tail _ (.head _)) rfl ?_
 exact cr.mk (.skip .tail) rfl
theorem LM{path:List Nat}(h:At kp K S (aG ord path) (tr++path) C)(hp:∀l∈path,l+1<K.n){k:Nat}(hk:k≤path.length)(oF:(tr++path).length<1099511627776):Fc Tryz.prog 145 #[ptr kp,.int .i64 ((tr.length+k:Nat):Int)] C (fun r C'=>
   r=.tuple #[.int .i64 ((path.length-k:Nat):Int),.int .i64 0]∧At kp K S (aG ord (path.take k)) (tr++path.take k) C'):=by
 have hlen:=h.len
 rw[iU]at hlen
 rw[List.length_append]at oF
 intro g
 refine Bq (R:=az _) ?_
 unfold L145
 refine ae.bK (Br.no ?_)
 intro J2 y8
 refine ae.lss ?_
 rw[decide_eq_false (by omega)]
 refine Split.go rfl ?_
 refine ag.rd .here (ru h) ?_
 rintro v rfl
 refine ae.gtr ?_
 rw[decide_eq_false (by rw[List.length_append];omega)]
 refine aA.mk ?_
 refine JE.mk (y8 _ _ fun gs=>Br.no ?_)
 refine⟨fun vs H=>∃m,m≤path.length∧k≤m∧vs=[.int .i64 ((path.length-m:Nat):Int)]∧At kp K S (aG ord (path.take m)) (tr++path.take m) H,fun vs _=>path.length-bR vs 0,JE.mk ⟨path.length,Nat.le_refl _,hk,by simp,by simpa using h⟩,?_⟩
 rintro w H ⟨m,hm,hkm,hw,QC⟩ gs
 simp only[List.cons.injEq,and_true]at hw
 subst hw
 refine ag.rd .here (ru QC) ?_
 rintro v rfl
 refine ae.nP (Br.dec (fun hlt=>?_) (fun hlt=>?_))
 ·rw[List.length_append,List.length_take]at hlt
  obtain⟨m,rfl⟩:∃m',m=m'+1:=⟨m-1,by omega⟩
  have e:path.take (m+1)=path.take m++[path[m]]:=by rw[List.take_add_one,List.getElem?_eq_getElem (by omega)];rfl
  rw[e,←List.append_assoc,gA]at QC
  refine ag.fn .here (Dn QC (by simp;omega)) ?_
  rintro v C' ⟨rfl,h'⟩
  rw[pQ (by rw[iU,hlen];exact hp _ (List.getElem_mem _))]at h'
  refine ae.aK (b:=1) (by simp[aB];omega) ?_
  refine aF.of (.refl _) ⟨m,by omega,by omega,by rw[show path.length-(m+1)+1=path.length-m by omega],h'⟩ ?_
  show path.length-(((path.length-(m+1)+1:Nat):Int).toNat)<path.length-(((path.length-(m+1):Nat):Int).toNat)
  omega
 ·rw[List.length_append,List.length_take]at hlt
  obtain rfl:m=k:=by omega
  exact az.here ⟨rfl,QC⟩
end
theorem ri{w:Nat}(hw:2≤w∧w≤4):Fc Tryz.prog 14 #[.int .i64 (w:Int)] [] (fun v H=>∃s,v=.tuple #[s,.int .i64 0]∧aN 3 .i64 s (iw (gY w)) H):=by
 intro g
 refine Ft (R:=az _) ?_
 unfold L14
 obtain rfl|rfl|rfl:w=2∨w=3∨w=4:=by omega
 ·refine ae.jt (Br.dS rfl ?_)
  refine au.int (e:=3) (by kernel_rfl) (by kernel_rfl) (by kernel_rfl) fun bx=>?_
  exact az.here ⟨_,rfl,aN.made [0]⟩
 ·refine ae.jt (Br.aX (by decide) (ae.jt (Br.dS rfl ?_)))
  refine⟨ax .i64 (iw (gY 3)),3,1,.int .i64 0,by kernel_rfl,by kernel_rfl,by kernel_rfl,by decide,by kernel_rfl,fun bx _=>?_⟩
  exact az.here ⟨_,rfl,aN.made (iw (gY 3))⟩
 ·refine ae.jt (Br.aX (by decide) (ae.jt (Br.aX (by decide) (ae.jt (Br.dS rfl ?_)))))
  refine⟨ax .i64 (iw (gY 4)),3,1,.int .i64 0,by kernel_rfl,by kernel_rfl,by kernel_rfl,by decide,by kernel_rfl,fun bx _=>?_⟩
  exact az.here ⟨_,rfl,aN.made (iw (gY 4))⟩
end Go.Proofs
namespace Go.Sx
open Go
section
variable {P:Program} {g:Gh} {H:Hp}
theorem gm.nat{len size b o j:Nat}{kd:IntKind}{k:Value→Prop}(h1:j<len)(h:k (.pointer (some ⟨b,o+j*size,none⟩))):gm len size (.pointer (some ⟨b,o,none⟩)) (.int kd (j:Int)) k:=
 ⟨b,o,kd,(j:Int),rfl,rfl,by omega,by omega,by simpa using h⟩
theorem jP.TL{o:Oper}{ρ:Operand→Value}{k:Value→Prop}{t e:TypeId}{q kd:IntKind}{n j:Nat}{x i:Operand}{l:List Int}{z:Int}(ho:o.op=.index t x i)(hx:ρ x=.agg (ax q l))(hi:ρ i=.int kd (j:Int))
 (ht:P.underlying t=some (.array n e))(hu:P.underlying e=some (.int q))(hz:cN P e=some 1)(hj:j<n)(hl:l[j]? =some z)(hk:k (.int q z)):jP P g o ρ H k:=by
 obtain⟨inf,XA,hs⟩:=aZ hz
 refine⟨_,fun w _=>?_,hk⟩
 have hp:=ny (P:=P) hu hl w
 have HT:(0:Int)≤(j:Int)∧(j:Int)<(n:Int):=by omega
 simp only[execOp,ho,Instr.index,hx,hi,asIntOf,Sem.run_bind,Sem.run_pure,Result.andThen_ok,run_underlying ht,run_sizeOf XA,hs,if_pos HT,Int.toNat_natCast,Nat.mul_one,hp]
end
end Go.Sx
namespace aE
open aD
def clr(m v:Nat):Nat:=if m.testBit v then m^^^2^v else m
def rest(m:Nat)(ord:List Nat):Nat→Nat
 |0=>m
 |k+1=>clr (rest m ord k) (ord.getD k 0)
section
variable {n m o:Nat} {ord:List Nat} {F:Fn→Prop}
theorem GC{l:Nat}(hl:l+1<ord.length):(fy ord l).Perm ord:=by
 unfold fy
 have e1:ord=ord.take l++ord.getD l 0::ord.getD (l+1) 0::ord.drop (l+2):=by
  conv=>lhs;rw[←List.take_append_drop l ord]
  congr 1
  rw[List.drop_eq_getElem_cons (by omega),List.drop_eq_getElem_cons (by omega)]
  simp[List.getD,List.getElem?_eq_getElem (show l<ord.length by omega),List.getElem?_eq_getElem hl]
 have ht:(ord.take l).length=l:=by simp;omega
 have e2:(ord.set l (ord.getD (l+1) 0)).set (l+1) (ord.getD l 0)=ord.take l++ord.getD (l+1) 0::ord.getD l 0::ord.drop (l+2):=by
  generalize hx:ord.getD l 0=x at*
  generalize hy:ord.getD (l+1) 0=y at*
  conv=>lhs;rw[e1]
  rw[List.set_append_right _ _ (by omega),ht,Nat.sub_self,List.set_cons_zero,List.set_append_right _ _ (by omega),ht,Nat.add_sub_cancel_left,List.set_cons_succ,List.set_cons_zero]
 rw[e2]
 conv=>rhs;rw[e1]
 exact List.Perm.append_left _ (List.Perm.swap _ _ _)
theorem oq:∀{path:List Nat} {ord:List Nat},(∀l∈path,l+1<ord.length)→(aG ord path).Perm ord
 | [],_,_=>.refl _
 |l::r,ord,h=>by
  show(aG (fy ord l) r).Perm ord
  have h1:=h l (by simp)
  exact(oq fun x hx=>by rw[lC];exact h x (by simp[hx])).trans (GC h1)
end
def flat(n s:Nat):Rm:=⟨n,fun _=>s,fun _ _=>true⟩
end aE
namespace aE
def bub(i:Nat):Nat→List Nat
 |0=>[]
 |j+1=>if i≤j then j::bub i j else []
def plc(p:List Nat)(x:Nat):Nat:=p.idxOf x
def GN(p q:List Nat):Nat→List Nat
 |0=>[]
 |i+1=>GN p q i++bub i (plc (aG p (GN p q i)) (q.getD i 0))
def path(p q:List Nat):List Nat:=GN p q q.length
end aE
namespace aE
open aD
section
variable {n l:Nat} {ord:List Nat} {F G:Fn→Prop} {f c:Fn}
theorem tE:∀l g,fs ord (fun g=>F g∨G g) l g↔fs ord F l g∨fs ord G l g
 |0,g=>Iff.rfl
 |l+1,g=>by
  constructor
  ·rintro⟨f,hf,b,rfl⟩
   rcases(tE l f).1 hf with h|h
   ·exact .inl ⟨f,h,b,rfl⟩
   ·exact .inr ⟨f,h,b,rfl⟩
  ·rintro(⟨f,hf,b,rfl⟩|⟨f,hf,b,rfl⟩)
   ·exact⟨f,(tE l f).2 (.inl hf),b,rfl⟩
   ·exact⟨f,(tE l f).2 (.inr hf),b,rfl⟩
theorem GU(g:Fn):aM n ord (fun g=>F g∨G g) g↔aM n ord F g∨aM n ord G g:=by
 constructor
 ·rintro⟨l,hl,hf,hh⟩
  rcases(tE l g).1 hf with h|h
  ·exact .inl ⟨l,hl,h,hh⟩
  ·exact .inr ⟨l,hl,h,hh⟩
 ·rintro(⟨l,hl,hf,hh⟩|⟨l,hl,hf,hh⟩)
  ·exact⟨l,hl,(tE l g).2 (.inl hf),hh⟩
  ·exact⟨l,hl,(tE l g).2 (.inr hf),hh⟩
theorem bU{v:Nat}(h:¬cR f v)(x:Nat)(b:Bool):f (aI x v b)=f x:=by
 have h0:f (aI x v false)=f (aI x v true):=Classical.byContradiction fun hne=>h ⟨x,hne⟩
 have h1:=iW x v
 conv=>rhs;rw[←h1]
 cases b<;>cases x.testBit v<;>simp[h0]
theorem u3(hi:∀j,j<l→¬cR f (ord.getD j 0)):∀k,k≤l→fs ord (fun g=>g=f) k f
 |0,_=>rfl
 |k+1,hk=>⟨f,u3 hi k (by omega),false,funext fun x=>(bU (hi k (by omega)) x false).symm⟩
theorem u4(hi:∀j,j<l→¬cR f (ord.getD j 0)):∀k,k≤l→∀g,fs ord (fun g=>g=f) k g→g=f
 |0,_,g,h=>h
 |k+1,hk,g,h=>by
  obtain⟨f',hf,b,rfl⟩:=h
  obtain rfl:=u4 hi k (by omega) f' hf
  exact funext fun x=>bU (hi k (by omega)) x b
theorem gB(hi:∀j,j<l→¬cR f (ord.getD j 0)){b:Bool}(hc:c=fun x=>f (aI x (ord.getD l 0) b)):
  (∀j,j<l+1→¬cR c (ord.getD j 0))∧∀g,aM n ord (fun g=>g=c) g→aM n ord (fun g=>g=f) g:=by
 have h1:fs ord (fun g=>g=f) (l+1) c:=⟨f,u3 hi l (Nat.le_refl _),b,hc⟩
 have h2:∀j,j<l+1→¬cR c (ord.getD j 0):=fun j hj=>nR (l+1) c h1 j hj
 refine⟨h2,?_⟩
 rintro g ⟨m,hm,hf,hh⟩
 by_cases e:m<l+1
 ·obtain rfl:=u4 h2 m (by omega) g hf
  exact absurd hh (h2 m e)
 ·have key:∀d g,fs ord (fun g=>g=c) (l+1+d) g→fs ord (fun g=>g=f) (l+1+d) g:=fun d=>by
   induction d with
   |zero=>intro g hg;obtain rfl:=u4 h2 (l+1) (Nat.le_refl _) g hg;exact h1
   |succ d ih=>rintro g ⟨f',wW,b',rfl⟩;exact⟨f',ih f' wW,b',rfl⟩
  obtain⟨d,rfl⟩:∃d,m=l+1+d:=⟨m-(l+1),by omega⟩
  exact⟨_,hm,key d g hf,hh⟩
theorem lE(hi:∀j,j<l→¬cR f (ord.getD j 0))(hl:l<n)(hh:cR f (ord.getD l 0)):aM n ord (fun g=>g=f) f:=⟨l,hl,u3 hi l (Nat.le_refl _),hh⟩
end
section
variable {K:Kd} {S:Nat→Fn} {ah:Nat→Nat} {ord:List Nat}
theorem Ok.below(h:Ok K S ah)(ho:Ord K.n ah ord){r l:Nat}(hr:live K.N r)(hl:l≤K.n)(hi:∀j,j<l→¬cR (S r) (ord.getD j 0)):l≤dep K.n ah K.N r:=by
 cases e:K.N r with
 |none=>rw[aT e];exact hl
 |some d=>
  rw[av e]
  refine Classical.byContradiction fun hlt=>?_
  have fV:ah d.v<l:=Nat.lt_of_not_le hlt
  have:=hi _ fV
  rw[ho.of h.lv (h.mid.var e)]at this
  exact this (mO h.wf h.lv h.mid.int e)
theorem Ok.roomFor(h:Ok K S ah)(ho:Ord K.n ah ord){U:Fn→Prop}{k:Nat}(hk:oV U k)(hfit:k+2≤K.cap)(hU:∀g,aM K.n ord (K.held S) g→U g){d:Nd}
 (hlo:live K.N d.lo)(hhi:live K.N d.hi)(hne:d.lo≠d.hi)(hv:d.v<K.n)(hlt:ah d.v<dep K.n ah K.N d.lo∧ah d.v<dep K.n ah K.N d.hi)(hg:U (ite S d))(hT:K.T d=none):K.used<K.cap:=by
 have hs:=h.size ho
 have hu:=h.mid.room
 obtain⟨l1,a1,a2,a3⟩:=hs
 have OO:ite S d∉l1:=fun hm=>by
  obtain⟨r,e,hr,he⟩:=(kG h.wf h.lv ho h.mid.int (fun r hr=>.inr (h.mid.held r hr)) h.reach (ite S d)).1 ((a3 _).2 hm)
  have X4:¬K.N r=some d:=fun hN=>by
   have:=(h.mid.iD d r).2 ⟨hN,fun x=>x⟩
   rw[hT]at this;cases this
  apply X4
  have OG:S r=ite S d:=he.symm
  have RM:e.v=d.v:=by
   have e1:=h.lv.lt e.v (h.mid.var hr)
   have e2:=h.lv.lt d.v hv
   rcases Nat.lt_trichotomy (ah e.v) (ah d.v)with hh|hh|hh
   ·exfalso
    obtain⟨z,hz⟩:=mO h.wf h.lv h.mid.int hr
    rw[OG]at hz
    apply hz
    unfold ite
    have i1:=h.wf.bO h.lv h.mid.int hlo (h.mid.var hr) (by omega)
    have i2:=h.wf.bO h.lv h.mid.int hhi (h.mid.var hr) (by omega)
    have Qy:d.v≠e.v:=fun ni=>by rw[ni]at hh;omega
    simp only[ay,if_neg Qy,i1,i2]
   ·exact h.lv.inj _ _ (h.mid.var hr) hv hh
   ·exfalso
    have hx:=h.wf.bO h.lv h.mid.int (r:=r) (.inr ⟨e,hr⟩) hv (by rw[av hr];exact hh)
    apply hne
    refine h.wf.same h.lv h.mid.int hlo hhi fun x=>?_
    have i1:=h.wf.bO h.lv h.mid.int hlo hv hlt.1
    have i2:=h.wf.bO h.lv h.mid.int hhi hv hlt.2
    have q1:=hx x false
    have q2:=hx x true
    rw[OG]at q1 q2
    have q3:=q1.trans q2.symm
    unfold ite at q3
    simp only[ay,if_true,i1,i2,Bool.false_eq_true,if_false]at q3
    exact q3
  have jU:∀(b:Bool) x,S (if b then e.hi else e.lo) x=S (if b then d.hi else d.lo) x:=fun b x=>by
   rw[←h.wf.child h.lv h.mid.int hr x b,OG,RM]
   have i1:=h.wf.bO h.lv h.mid.int hlo hv hlt.1
   have i2:=h.wf.bO h.lv h.mid.int hhi hv hlt.2
   unfold ite
   rw[ay,if_pos rfl,i1,i2]
   cases b<;>rfl
  have e1:e.lo=d.lo:=h.wf.same h.lv h.mid.int (h.mid.lo hr) hlo fun x=>jU false x
  have e2:e.hi=d.hi:=h.wf.same h.lv h.mid.int (h.mid.hi hr) hhi fun x=>jU true x
  have XQ:∀a b:Nd,a.v=b.v→a.lo=b.lo→a.hi=b.hi→a=b:=fun a b h1 h2 h3=>by
   cases a;cases b;cases h1;cases h2;cases h3;rfl
  rw[hr,XQ e d RM e1 e2]
 obtain⟨l2,b1,b2,b3⟩:=hk
 have:=bE (l:=ite S d::l1) (l':=l2) (List.nodup_cons.2 ⟨OO,a1⟩) fun g O4=>by
  rcases List.mem_cons.1 O4 with rfl|O4
  ·exact(b3 _).1 hg
  ·exact(b3 _).1 (hU g ((a3 g).2 O4))
 rw[List.length_cons]at this
 omega
end
end aE
