import Derived.Test.YtfgkdmbicjdeoaaGreatT2
import Derived.RangeFuncIn
import Derived.RangeFuncLeaves
import Derived.RangeFuncRecord
import Derived.RangeFuncSeq
set_option linter.unusedVariables false
set_option linter.unusedSimpArgs false
set_option linter.unusedSectionVars false
namespace aC
open aj
def q9(K:Kd)(ah:Nat→Nat)(l t:Nat):Prop:=live K.N t∧l+1<dep K.n ah K.N t
def uS(K0 K:Kd)(ah:Nat→Nat)(x l t:Nat):Prop:=q9 K0 ah l t∨∃e,K.N t=some e∧e.v=x∧q9 K0 ah l e.lo∧q9 K0 ah l e.hi
structure TI(K0:Kd)(S0:Nat→Fn)(ah:Nat→Nat)(x y l:Nat)(made:List Nd)(K:Kd)(S:Nat→Fn)(done rest:List Cx)(P:Nat→Nat):Prop where
 mid:ig K S (fun s=>∃c∈rest,s=c.r) P
 n:K.n=K0.n
 cap:K.cap=K0.cap
 hold:∀r,K.hold r=K0.hold r
 ext:∀r,live K0.N r→S r=S0 r
 old:∀{r d},K0.N r=some d→r∉done.map Cx.r→K.N r=some d
 kept:∀{r d},K0.N r=some d→∃d',K.N r=some d'
 new:∀{r d},K.N r=some d→(K0.N r=some d∧r∉done.map Cx.r)∨(r∈done.map Cx.r∧d.v=y∧uS K0 K ah x l d.lo∧uS K0 K ah x l d.hi)∨(K0.N r=none∧d.v=x∧q9 K0 ah l d.lo∧q9 K0 ah l d.hi)
 used:K.used=K0.used+(made.filter fun k=>(K.T k).isSome).length
structure TB(K0:Kd)(S0:Nat→Fn)(ah:Nat→Nat)(x y l:Nat)(all:List Cx)(made:List Nd):Prop where
 ok:Ok K0 S0 ah
 nb:Nb K0.n ah x y l
 cx:Gz K0.N x y all
 Um:Made K0 x all made
 room:K0.used+made.length≤K0.cap
section
variable {K0 K:Kd} {S0 S:Nat→Fn} {ah:Nat→Nat} {x y l:Nat} {made:List Nd} {done rest all:List Cx} {P:Nat→Nat}
theorem TB.my(b:TB K0 S0 ah x y l all made){c:Cx}(hc:c∈all):K0.N c.r=some c.d∧c.d.v=x∧c=mw K0.N y c.r c.d:=by
 obtain⟨⟨h1,h2,_⟩,h3⟩:=(b.cx.mem c).1 hc
 exact⟨h1,h2,h3⟩
theorem TB.Oh(b:TB K0 S0 ah x y l all made){c:Cx}(hc:c∈all):(q9 K0 ah l c.uN∧q9 K0 ah l c.rD)∧(q9 K0 ah l c.uM∧q9 K0 ah l c.rC):=by
 obtain⟨h1,h2,h3⟩:=b.my hc
 have k1:=jD b.ok.wf b.ok.lv b.ok.mid.int b.nb h1 h2 (k:=⟨x,pl K0.N y c.d.lo,pl K0.N y c.d.hi⟩) List.mem_cons_self
 have k2:=jD b.ok.wf b.ok.lv b.ok.mid.int b.nb h1 h2 (k:=⟨x,ph K0.N y c.d.lo,ph K0.N y c.d.hi⟩) (List.mem_cons_of_mem _ List.mem_cons_self)
 rw[h3]
 exact⟨⟨k1.2.1,k1.2.2⟩,⟨k2.2.1,k2.2.2⟩⟩
theorem TB.level(b:TB K0 S0 ah x y l all made){c:Cx}(hc:c∈all):dep K0.n ah K0.N c.r=l:=by
 obtain⟨h1,h2,_⟩:=b.my hc
 rw[az h1,h2,b.nb.lx]
theorem TB.start(b:TB K0 S0 ah x y l all made){T:Nd→Option Nat}(hm:ig {K0 with T:=T} S0 (fun s=>∃c∈all,s=c.r) zero')(hT:∀d,T d=none∨T d=K0.T d):
  TI K0 S0 ah x y l made {K0 with T:=T} S0 [] all zero' where
 mid:=hm
 n:=rfl
 cap:=rfl
 hold:=fun _=>rfl
 ext:=fun _ _=>rfl
 old:=fun h _=>h
 kept:=fun h=>⟨_,h⟩
 new:=fun h=>.inl ⟨h,by simp⟩
 used:=by
  have:made.filter (fun k=>(T k).isSome)=[]:=by
   rw[List.filter_eq_nil_iff]
   intro k hk
   have h1:=((b.Um.mem k).1 hk).2.1
   rcases hT k with h2|h2
   ·rw[h2];simp
   ·rw[h2,h1];simp
  show K0.used=K0.used+(made.filter (fun k=>(T k).isSome)).length
  rw[this];simp
theorem TI.Oj(b:TB K0 S0 ah x y l all made)(h:TI K0 S0 ah x y l made K S done rest P)(hd:∀c∈done,c∈all){t:Nat}(ht:q9 K0 ah l t):K.N t=K0.N t:=by
 rcases ht with⟨ht|⟨d,cN⟩,hlt⟩
 ·cases e:K.N t with
  |none=>rw[b.ok.wf.const ht]
  |some d=>have:=(h.mid.two e).1;omega
 ·rw[cN]
  refine h.old cN fun hm=>?_
  obtain⟨c,hc,e⟩:=List.mem_map.1 hm
  have:=b.level (hd c hc)
  rw[e]at this;omega
theorem TI.pe(b:TB K0 S0 ah x y l all made)(h:TI K0 S0 ah x y l made K S done rest P)(hd:∀c∈done,c∈all){t:Nat}(ht:q9 K0 ah l t):live K.N t:=by
 have e:=h.Oj b hd ht
 rcases ht.1 with ht|⟨d,cN⟩
 ·exact .inl ht
 ·exact .inr ⟨d,by rw[e];exact cN⟩
theorem TI.po(b:TB K0 S0 ah x y l all made)(h:TI K0 S0 ah x y l made K S done rest P)(hd:∀c∈done,c∈all){t:Nat}(ht:uS K0 K ah x l t):live K.N t:=by
 rcases ht with ht|⟨e,he,_⟩
 ·exact h.pe b hd ht
 ·exact .inr ⟨e,he⟩
theorem TI.use(h:TI K0 S0 ah x y l made K S done rest P){r:Nat}{cT:List Nat}(hl:cT.length=K.us.length)(h1:cT.getD r 0=K.use r+1)(h2:∀s,s≠r→cT.getD s 0=K.use s):
  TI K0 S0 ah x y l made {K with us:=cT} S done rest (up P r (P r+1)) where
 mid:=h.mid.more hl h1 h2
 n:=h.n
 cap:=h.cap
 hold:=h.hold
 ext:=h.ext
 old:=h.old
 kept:=h.kept
 new:=h.new
 used:=h.used
theorem TI.congr(h:TI K0 S0 ah x y l made K S done rest P){P':Nat→Nat}(hP:∀s,2≤s→P s=P' s):TI K0 S0 ah x y l made K S done rest P' where
 mid:=h.mid.congr (fun _=>Iff.rfl) hP
 n:=h.n
 cap:=h.cap
 hold:=h.hold
 ext:=h.ext
 old:=h.old
 kept:=h.kept
 new:=h.new
 used:=h.used
theorem filter_lt{α:Type}{p:α→Bool}{k:α}:∀{m:List α},k∈m→p k=false→(m.filter p).length<m.length
 | [],h,_=>by simp at h
 |z::m,h,hp=>by
  rcases List.mem_cons.1 h with rfl|h
  ·rw[List.filter_cons,if_neg (by simp[hp])]
   have:=List.length_filter_le p m
   simp;omega
  ·have:=filter_lt h hp
   rw[List.filter_cons]
   split
   ·rw[List.length_cons,List.length_cons];omega
   ·rw[List.length_cons];omega
theorem TI.fits(b:TB K0 S0 ah x y l all made)(h:TI K0 S0 ah x y l made K S done rest P){k:Nd}(hk:k∈made)(hT:K.T k=none):K.used<K.cap:=by
 have h1:=filter_lt (p:=fun k=>(K.T k).isSome) hk (by rw[hT];rfl)
 have h2:=h.used
 have h3:=b.room
 have h4:=h.cap
 omega
theorem mm{T:Nd→Option Nat}{k:Nd}{r:Nat}:∀{m:List Nd},m.Nodup→T k=none→(m.filter fun d=>(oJ T k (some r) d).isSome).length=(m.filter fun d=>(T d).isSome).length+(if k∈m then 1 else 0)
 | [],_,_=>rfl
 |z::m,hn,hT=>by
  obtain⟨h1,h2⟩:=List.nodup_cons.1 hn
  have ih:=mm (r:=r) h2 hT
  rw[List.filter_cons,List.filter_cons]
  by_cases e:z=k
  ·subst e
   rw[ij,hT]
   simp only[Option.isSome_some,if_true,Option.isSome_none,Bool.false_eq_true,if_false,List.length_cons,ih,if_neg h1,List.mem_cons,true_or]
  ·rw[nT e]
   have e2:(k∈z::m)↔k∈m:=by rw[List.mem_cons];exact⟨fun h=>h.resolve_left (fun h=>e h.symm),.inr⟩
   simp only[e2]
   split
   ·simp only[List.length_cons,ih];omega
   ·exact ih
theorem TB.xh(b:TB K0 S0 ah x y l all made){t:Nat}(ht:q9 K0 ah l t){e:Nd}(he:K0.N t=some e):l+1<ah e.v:=by
 have:=ht.2
 rwa [az he]at this
theorem TB.yO(b:TB K0 S0 ah x y l all made){c:Cx}(hc:c∈all)(h1:q9 K0 ah l c.d.lo)(h2:q9 K0 ah l c.d.hi):False:=by
 obtain⟨⟨_,_,h3⟩,_⟩:=(b.cx.mem c).1 hc
 have hy:=b.nb.ly
 rcases h3 with⟨e,he,hv⟩|⟨e,he,hv⟩
 ·have:=b.xh h1 he;rw[hv]at this;omega
 ·have:=b.xh h2 he;rw[hv]at this;omega
theorem TI.KS(b:TB K0 S0 ah x y l all made)(h:TI K0 S0 ah x y l made K S done rest P)(hd:∀c∈done,c∈all)(hr:∀c∈rest,c∈all){c:Cx}(hc:c∈all){k:Nd}(hk:k∈keys x c)(hne:k.lo≠k.hi)(h1:q9 K0 ah l k.lo)(h2:q9 K0 ah l k.hi)(hT:K.T k=none):k∈made:=by
 refine(b.Um.mem k).2 ⟨⟨c,hc,hk⟩,?_,hne⟩
 cases e:K0.T k with
 |none=>rfl
 |some s=>
  have hs:=((b.ok.mid.g8 k s).1 e).1
  have hno:∀c'∈all,s≠c'.r:=fun c' jc e'=>by
   have h3:=(b.my jc).1
   rw[←e',hs]at h3
   cases h3
   exact b.yO jc h1 h2
  have zj:K.N s=some k:=by
   refine h.old hs fun hm=>?_
   obtain⟨c',jc,e'⟩:=List.mem_map.1 hm
   exact hno c' (hd c' jc) e'.symm
  have:=(h.mid.g8 k s).2 ⟨zj,by rintro⟨c',jc,e'⟩;exact hno c' (hr c' jc) e'⟩
  rw[hT]at this;cases this
theorem TI.lay(b:TB K0 S0 ah x y l all made)(h:TI K0 S0 ah x y l made K S done rest P)(hd:∀c∈done,c∈all)(hr:∀c∈rest,c∈all){c:Cx}(hc:c∈all){k:Nd}(hk:k∈keys x c)(hne:k.lo≠k.hi)(hT:K.T k=none)
 {r:Nat}{cT cj:List Nat}(hN:K.N r=none)(h2:2≤r∧r<K.cap)(hl:cT.length=cj.length)(hf:r<cT.length∧K.us.length≤cT.length)(u0:cT.getD r 0=0)(u1:∀s,2≤s→s≠r→cT.getD s 0=K.use s+e1 (some k) s)(o0:cj.getD r 0=0)(o1:∀s,s≠r→cj.getD s 0=K.hold s)(hP:P r=0):
  TI K0 S0 ah x y l made {K with N:=up K.N r (some k),T:=oJ K.T k (some r),used:=K.used+1,us:=cT,ho:=cj} (up S r (ite S k)) done rest P∧uS K0 {K with N:=up K.N r (some k),T:=oJ K.T k (some r),used:=K.used+1,us:=cT,ho:=cj} ah x l r:=by
 have kG:=b.Oh hc
 have hkv:k.v=x∧q9 K0 ah l k.lo∧q9 K0 ah l k.hi:=by
  simp only[keys,List.mem_cons,List.not_mem_nil,or_false]at hk
  rcases hk with rfl|rfl
  ·exact⟨rfl,kG.1.1,kG.1.2⟩
  ·exact⟨rfl,kG.2.1,kG.2.2⟩
 have U5:K0.N r=none:=by
  cases e:K0.N r with
  |none=>rfl
  |some d=>obtain⟨d',cN⟩:=h.kept e;rw[hN]at cN;cases cN
 have hkm:=h.KS b hd hr hc hk hne hkv.2.1 hkv.2.2 hT
 have hE:¬∃c∈rest,r=c.r:=by
  rintro⟨c',jc,rfl⟩
  have:=(b.my (hr c' jc)).1
  rw[U5]at this;cases this
 have BD:∀{t},uS K0 K ah x l t→uS K0 {K with N:=up K.N r (some k),T:=oJ K.T k (some r),used:=K.used+1,us:=cT,ho:=cj} ah x l t:=fun ht=>by
  rcases ht with ht|⟨e,he,h3⟩
  ·exact .inl ht
  ·refine .inr ⟨e,?_,h3⟩
   show up K.N r (some k) _=_
   rw[aL (fun e2=>by rw[e2,hN]at he;cases he)];exact he
 refine⟨⟨h.mid.lay hN h2 (by rw[hkv.1,h.n];exact b.nb.xn) hne (h.pe b hd hkv.2.1) (h.pe b hd hkv.2.2) hT hE hP (h.fits b hkm hT) hl hf u0 u1 o0 o1,h.n,h.cap,fun s=>?_,fun s hs=>?_,fun{s d} hs hm=>?_,fun{s d} hs=>?_,fun{s d} hs=>?_,?_⟩,?_⟩
 ·show cj.getD s 0=_
  rw[←h.hold]
  by_cases e:s=r
  ·subst e
   rw[o0]
   refine(Classical.byContradiction fun hno=>?_)
   obtain⟨d,cN⟩:=h.mid.held s (fun e=>hno e.symm)
   rw[hN]at cN;cases cN
  ·exact o1 s e
 ·rw[aL (e9 hs h2.1 U5)];exact h.ext s hs
 ·show up K.N r (some k) s=_
  rw[aL (fun e=>by rw[e,U5]at hs;cases hs)];exact h.old hs hm
 ·obtain⟨d',cN⟩:=h.kept hs
  exact⟨d',by show up K.N r (some k) s=_;rw[aL (fun e=>by rw[e,U5]at hs;cases hs)];exact cN⟩
 ·have hs':up K.N r (some k) s=some d:=hs
  by_cases e:s=r
  ·subst e
   rw[aI]at hs';cases hs'
   exact .inr (.inr ⟨U5,hkv⟩)
  ·rw[aL e]at hs'
   rcases h.new hs' with h1|⟨h1,me,h3,h4⟩|h1
   ·exact .inl h1
   ·exact .inr (.inl ⟨h1,me,BD h3,BD h4⟩)
   ·exact .inr (.inr h1)
 ·show K.used+1=K0.used+(made.filter fun d=>(oJ K.T k (some r) d).isSome).length
  rw[mm b.Um.nd hT,if_pos hkm,h.used];omega
 ·exact .inr ⟨k,aI,hkv⟩
theorem TI.found(b:TB K0 S0 ah x y l all made)(h:TI K0 S0 ah x y l made K S done rest P){c:Cx}(hc:c∈all){k:Nd}(hk:k∈keys x c){r:Nat}(hT:K.T k=some r):K.N r=some k∧uS K0 K ah x l r:=by
 have kG:=b.Oh hc
 have hN:=((h.mid.g8 k r).1 hT).1
 simp only[keys,List.mem_cons,List.not_mem_nil,or_false]at hk
 rcases hk with rfl|rfl
 ·exact⟨hN,.inr ⟨_,hN,rfl,kG.1.1,kG.1.2⟩⟩
 ·exact⟨hN,.inr ⟨_,hN,rfl,kG.2.1,kG.2.2⟩⟩
theorem TI.Qd(b:TB K0 S0 ah x y l all made)(h:TI K0 S0 ah x y l made K S done rest P){a a' t:Nat}(la:q9 K0 ah l a)(Bp:q9 K0 ah l a')(g:(a=a'∧t=a)∨K.N t=some ⟨x,a,a'⟩)(z:Nat):S t z=ite S0 ⟨x,a,a'⟩ z:=by
 rcases g with⟨rfl,rfl⟩|g
 ·rw[h.ext t la.1];unfold ite;simp
 ·rw[h.mid.int.node g]
  unfold ite
  simp only
  rw[h.ext a la.1,h.ext a' Bp.1]
theorem TI.Oi(b:TB K0 S0 ah x y l all made)(h:TI K0 S0 ah x y l made K S done rest P)(hd:∀c∈done,c∈all){a a' t:Nat}(ht:q9 K0 ah l t)(g:K.N t=some ⟨x,a,a'⟩):False:=by
 rw[h.Oj b hd ht]at g
 have:=b.xh ht g
 have hx:=b.nb.lx
 simp only at this;omega
theorem TI.wG(b:TB K0 S0 ah x y l all made){c:Cx}(h:TI K0 S0 ah x y l made K S done (c::rest) P)(hd:∀c∈done,c∈all)(hr:∀c'∈c::rest,c'∈all)(hn:((done++c::rest).map Cx.r).Nodup){t0 t1:Nat}
 (k0:uS K0 K ah x l t0)(k1:uS K0 K ah x l t1)(g0:(c.uN=c.rD∧t0=c.uN)∨K.N t0=some ⟨x,c.uN,c.rD⟩)(g1:(c.uM=c.rC∧t1=c.uM)∨K.N t1=some ⟨x,c.uM,c.rC⟩){P':Nat→Nat}(hP:∀s,2≤s→P' s+e1 (some ⟨y,t0,t1⟩) s=P s+e1 (some c.d) s):
  K.T ⟨y,t0,t1⟩=none∧TI K0 S0 ah x y l made {K with N:=up K.N c.r (some ⟨y,t0,t1⟩),T:=oJ K.T ⟨y,t0,t1⟩ (some c.r)} S (done++[c]) rest P':=by
 have hc:=hr c (by simp)
 obtain⟨xy,AH,hce⟩:=b.my hc
 obtain⟨⟨Z4,l10⟩,⟨Z3,XI⟩⟩:=b.Oh hc
 have w:=b.ok.wf
 have hi:=b.ok.mid.int
 have hlo:=w.lo xy
 have hhi:=w.hi xy
 rw[AH,b.nb.lx]at hlo hhi
 have ep:c.uN=pl K0.N y c.d.lo∧c.uM=ph K0.N y c.d.lo∧c.rD=pl K0.N y c.d.hi∧c.rC=ph K0.N y c.d.hi:=by rw[hce];exact⟨rfl,rfl,rfl,rfl⟩
 have both:c.uN=c.rD→c.uM=c.rC→False:=fun e1 e2=>by
  rw[ep.1,ep.2.2.1]at e1
  rw[ep.2.1,ep.2.2.2]at e2
  exact w.ne xy (w.OY b.ok.lv hi b.nb.yy hlo.1 hhi.1 hlo.2 hhi.2 e1 e2)
 have RV:c.r∉done.map Cx.r:=by
  rw[List.map_append,List.nodup_append]at hn
  intro hm
  exact hn.2.2 _ hm _ (by simp) rfl
 have FY:=h.old xy RV
 have fn0:=fun z=>h.Qd b Z4 l10 g0 z
 have fn1:=fun z=>h.Qd b Z3 XI g1 z
 have hS:∀z,S c.r z=ite S ⟨y,t0,t1⟩ z:=fun z=>by
  rw[h.ext c.r (.inr ⟨_,xy⟩),tw w b.ok.lv hi b.nb xy AH z]
  unfold ite
  simp only
  have a0:=fn0 z
  have a1:=fn1 z
  unfold ite at a0 a1
  simp only at a0 a1
  rw[a0,a1,ep.1,ep.2.1,ep.2.2.1,ep.2.2.2]
 have hne:t0≠t1:=fun e=>by
  subst e
  rcases g0 with⟨e1,e2⟩|g0
  ·rcases g1 with⟨e3,e4⟩|g1
   ·exact both e1 e3
   ·rw[e2]at g1;exact h.Oi b hd Z4 g1
  ·rcases g1 with⟨e3,e4⟩|g1
   ·rw[e4]at g0;exact h.Oi b hd Z3 g0
   ·rw[g0]at g1
    simp only[Option.some.injEq,Nd.mk.injEq,true_and]at g1
    obtain⟨q1,q2⟩:=g1
    obtain⟨⟨_,_,Ss⟩,_⟩:=(b.cx.mem c).1 hc
    rw[ep.1,ep.2.1]at q1
    rw[ep.2.2.1,ep.2.2.2]at q2
    rcases Ss with⟨e,he,hv⟩|⟨e,he,hv⟩
    ·have:=NY he hv
     rw[this.1,this.2]at q1
     exact w.ne he q1
    ·have:=NY he hv
     rw[this.1,this.2]at q2
     exact w.ne he q2
 have hT:K.T ⟨y,t0,t1⟩=none:=by
  cases e:K.T ⟨y,t0,t1⟩with
  |none=>rfl
  |some s=>
   obtain⟨hs,RU⟩:=(h.mid.g8 _ s).1 e
   rcases h.new hs with⟨h1,_⟩|⟨h1,_⟩|⟨_,h1,_⟩
   ·have q1:=w.lo h1
    have q2:=w.hi h1
    simp only at q1 q2
    rw[b.nb.ly]at q1 q2
    have p1:c.uN=c.rD:=by
     rcases g0 with⟨e1,_⟩|g0
     ·exact e1
     ·exact(h.Oi b hd q1 g0).elim
    have p2:c.uM=c.rC:=by
     rcases g1 with⟨e1,_⟩|g1
     ·exact e1
     ·exact(h.Oi b hd q2 g1).elim
    exact(both p1 p2).elim
   ·obtain⟨c',jc,e'⟩:=List.mem_map.1 h1
    have LD:=(b.my (hd c' jc)).1
    have:c'.r=c.r:=w.same b.ok.lv hi (.inr ⟨_,LD⟩) (.inr ⟨_,xy⟩) fun z=>by
     rw[←h.ext c'.r (.inr ⟨_,LD⟩),←h.ext c.r (.inr ⟨_,xy⟩),hS z,e',h.mid.int.node hs z];rfl
    exact absurd (List.mem_map.2 ⟨c',jc,this⟩) RV
   ·exact absurd h1 (Ne.symm b.nb.ne)
 have BD:∀{t},uS K0 K ah x l t→uS K0 {K with N:=up K.N c.r (some ⟨y,t0,t1⟩),T:=oJ K.T ⟨y,t0,t1⟩ (some c.r)} ah x l t:=fun ht=>by
  rcases ht with ht|⟨e,he,h3⟩
  ·exact .inl ht
  ·refine .inr ⟨e,?_,h3⟩
   show up K.N c.r (some ⟨y,t0,t1⟩) _=_
   refine(aL fun e2=>?_).trans he
   rw[e2,FY]at he
   cases he
   exact b.yO hc h3.2.1 h3.2.2
 have hml:∀s,s∈(done++[c]).map Cx.r↔s∈done.map Cx.r∨s=c.r:=fun s=>by simp[List.mem_append]
 refine⟨hT,⟨(h.mid.wG FY ⟨c,by simp,rfl⟩ (by rw[h.n];exact b.nb.yn) hne (h.po b hd k0) (h.po b hd k1) hT hS hP).congr (fun s=>?_) (fun _ _=>rfl),h.n,h.cap,h.hold,h.ext,fun{s d} hs hm=>?_,fun{s d} hs=>?_,fun{s d} hs=>?_,?_⟩⟩
 ·constructor
  ·rintro⟨⟨c',jc,rfl⟩,h2⟩
   rcases List.mem_cons.1 jc with rfl|jc
   ·exact absurd rfl h2
   ·exact⟨c',jc,rfl⟩
  ·rintro⟨c',jc,rfl⟩
   refine⟨⟨c',List.mem_cons_of_mem _ jc,rfl⟩,fun e=>?_⟩
   rw[List.map_append,List.nodup_append]at hn
   have:=hn.2.1
   rw[List.map_cons,List.nodup_cons]at this
   exact this.1 (List.mem_map.2 ⟨c',jc,e⟩)
 ·have hm':=fun x=>hm ((hml s).2 x)
  show up K.N c.r _ s=_
  rw[aL (fun e=>hm' (.inr e))];exact h.old hs (fun x=>hm' (.inl x))
 ·by_cases e:s=c.r
  ·exact⟨⟨y,t0,t1⟩,by show up K.N c.r (some _) s=_;rw[e,aI]⟩
  ·obtain⟨d',cN⟩:=h.kept hs
   exact⟨d',by show up K.N c.r (some _) s=_;rw[aL e];exact cN⟩
 ·have hs':up K.N c.r (some ⟨y,t0,t1⟩) s=some d:=hs
  by_cases e:s=c.r
  ·rw[e,aI]at hs';cases hs'
   exact .inr (.inl ⟨(hml s).2 (.inr e),rfl,BD k0,BD k1⟩)
  ·rw[aL e]at hs'
   rcases h.new hs' with⟨h1,h2⟩|⟨h1,h2,h3,h4⟩|h1
   ·exact .inl ⟨h1,fun hm=>((hml s).1 hm).elim h2 e⟩
   ·exact .inr (.inl ⟨(hml s).2 (.inl h1),h2,BD h3,BD h4⟩)
   ·exact .inr (.inr h1)
 ·show K.used=K0.used+(made.filter fun d=>(oJ K.T ⟨y,t0,t1⟩ (some c.r) d).isSome).length
  have hnm:(⟨y,t0,t1⟩:Nd)∉made:=fun hm=>by
   obtain⟨⟨c',jc,hk⟩,_⟩:=(b.Um.mem _).1 hm
   simp only[keys,List.mem_cons,List.not_mem_nil,or_false,Nd.mk.injEq]at hk
   rcases hk with⟨e,_⟩|⟨e,_⟩
   ·exact b.nb.ne e.symm
   ·exact b.nb.ne e.symm
  rw[mm b.Um.nd hT,if_neg hnm,h.used];rfl
theorem TI.levels(b:TB K0 S0 ah x y l all made)(h:TI K0 S0 ah x y l made K S all [] P){s:Nat}{d:Nd}(hs:K.N s=some d):
  ri ah x y l d.v<dep K0.n (ri ah x y l) K.N d.lo∧ri ah x y l d.v<dep K0.n (ri ah x y l) K.N d.hi:=by
 have w:=b.ok.wf
 have hd:∀c∈all,c∈all:=fun _ h=>h
 have RO:l+1<K0.n:=by have:=b.ok.lv.lt y b.nb.yn;rw[b.nb.ly]at this;exact this
 have sx:ri ah x y l x=l+1:=by simp[ri]
 have sy:ri ah x y l y=l:=by unfold ri;rw[if_neg (Ne.symm b.nb.ne),if_pos rfl]
 have so:∀v,v<K0.n→ah v≠l→ah v≠l+1→ri ah x y l v=ah v:=fun v hv h1 h2=>by
  unfold ri
  rw[if_neg (fun e=>h1 (by rw[e];exact b.nb.lx)),if_neg (fun e=>h2 (by rw[e];exact b.nb.ly))]
 have low:∀{t},q9 K0 ah l t→l+1<dep K0.n (ri ah x y l) K.N t:=fun{t} ht=>by
  have e:=h.Oj b hd ht
  cases e2:K0.N t with
  |none=>rw[aW (by rw[e,e2])];exact RO
  |some e'=>
   have:=b.xh ht e2
   rw[az (by rw[e,e2]),so _ (w.var e2) (by omega) (by omega)];exact this
 have vB:∀{t},uS K0 K ah x l t→l<dep K0.n (ri ah x y l) K.N t:=fun{t} ht=>by
  rcases ht with ht|⟨e,he,hx,_⟩
  ·have:=low ht;omega
  ·rw[az he,hx,sx];omega
 rcases h.new hs with⟨h1,h2⟩|⟨_,h2,h3,h4⟩|⟨_,h2,h3,h4⟩
 ·have hv:=w.var h1
  have q1:=w.lo h1
  have q2:=w.hi h1
  rcases Nat.lt_trichotomy (ah d.v) l with hlt|heq|hgt
  ·rw[so _ hv (by omega) (by omega)]
   have ZW:∀{t},live K0.N t→ah d.v<dep K0.n ah K0.N t→ah d.v<dep K0.n (ri ah x y l) K.N t:=fun{t} ht gH=>by
    cases e:K.N t with
    |none=>rw[aW e];exact Nat.lt_of_lt_of_le gH (w.je b.ok.lv t)
    |some e'=>
     rw[az e]
     rcases h.new e with⟨g1,_⟩|⟨_,g2,_⟩|⟨g1,_⟩
     ·rw[az g1]at gH
      have XR:=w.var g1
      by_cases e1:ah e'.v=l
      ·have:e'.v=x:=b.ok.lv.inj _ _ XR b.nb.xn (by rw[b.nb.lx];exact e1)
       rw[this,sx];omega
      ·by_cases e2:ah e'.v=l+1
       ·have:e'.v=y:=b.ok.lv.inj _ _ XR b.nb.yn (by rw[b.nb.ly];exact e2)
        rw[this,sy];exact hlt
       ·rw[so _ XR e1 e2];exact gH
     ·rw[g2,sy];exact hlt
     ·rcases ht with ht|⟨f,hf⟩
      ·have:=(h.mid.two e).1;omega
      ·rw[g1]at hf;cases hf
   exact⟨ZW q1.1 q1.2,ZW q2.1 q2.2⟩
  ·have hx:d.v=x:=b.ok.lv.inj _ _ hv b.nb.xn (by rw[b.nb.lx];exact heq)
   rw[hx,sx]
   have nc:∀t,t=d.lo∨t=d.hi→∀e,K0.N t=some e→e.v≠y:=fun t ht e he hv=>h2 (List.mem_map.2 ⟨mw K0.N y s d,(b.cx.mem _).2 ⟨⟨h1,hx,by
    rcases ht with rfl|rfl
    ·exact .inl ⟨e,he,hv⟩
    ·exact .inr ⟨e,he,hv⟩⟩,rfl⟩,rfl⟩)
   have lw:∀t,t=d.lo∨t=d.hi→live K0.N t→ah d.v<dep K0.n ah K0.N t→q9 K0 ah l t:=fun t ht hlv hlt=>by
    refine⟨hlv,?_⟩
    have:=(w.half b.ok.lv b.ok.mid.int b.nb.yy hlv (by omega:l<dep K0.n ah K0.N t)).1.2
    rwa [(NZ (nc t ht)).1]at this
   exact⟨low (lw _ (.inl rfl) q1.1 q1.2),low (lw _ (.inr rfl) q2.1 q2.2)⟩
  ·by_cases e:ah d.v=l+1
   ·have hy:d.v=y:=b.ok.lv.inj _ _ hv b.nb.yn (by rw[b.nb.ly];exact e)
    rw[hy,sy]
    have a1:=low ⟨q1.1,by omega⟩
    have a2:=low ⟨q2.1,by omega⟩
    exact⟨by omega,by omega⟩
   ·rw[so _ hv (by omega) e]
    have deep:∀{t},live K0.N t→ah d.v<dep K0.n ah K0.N t→ah d.v<dep K0.n (ri ah x y l) K.N t:=fun{t} ht gH=>by
     have hl:q9 K0 ah l t:=⟨ht,by omega⟩
     have e':=h.Oj b hd hl
     cases e2:K0.N t with
     |none=>rw[aW (by rw[e',e2])];exact b.ok.lv.lt _ hv
     |some f=>
      rw[az e2]at gH
      rw[az (by rw[e',e2]),so _ (w.var e2) (by omega) (by omega)];exact gH
    exact⟨deep q1.1 q1.2,deep q2.1 q2.2⟩
 ·rw[h2,sy];exact⟨vB h3,vB h4⟩
 ·rw[h2,sx];exact⟨low h3,low h4⟩
theorem TI.fin(b:TB K0 S0 ah x y l all made)(h:TI K0 S0 ah x y l made K S all [] P){K':Kd}(hm:ig K' S gv zero')(hp:Pos K')(hN:∀{s d},K'.N s=some d→K.N s=some d)(hn:K'.n=K.n)(hh:∀r,K'.hold r=K.hold r):
  Ok K' S (ri ah x y l)∧(∀g,K'.held S g↔K0.held S0 g)∧∀r,K0.hold r≠0→S r=S0 r:=by
 have VD:∀r,K0.hold r≠0→S r=S0 r:=fun r hr=>h.ext r (.inr (b.ok.mid.held r hr))
 refine⟨⟨hm,hp,by rw[hn,h.n];exact NG b.ok.lv b.nb,hm.wf fun{s d} hs=>?_⟩,fun g=>?_,VD⟩
 ·have hl:=h.levels b (hN hs)
  have same:∀{t},live K'.N t→dep K'.n (ri ah x y l) K'.N t=dep K0.n (ri ah x y l) K.N t:=fun{t} ht=>by
   cases e:K'.N t with
   |some f=>rw[az e,az (hN e)]
   |none=>
    have M8:t<2:=by
     rcases ht with ht|⟨f,hf⟩
     ·exact ht
     ·rw[e]at hf;cases hf
    have:K.N t=none:=by
     cases e2:K.N t with
     |none=>rfl
     |some f=>have:=(h.mid.two e2).1;omega
    rw[aW e,aW this,hn,h.n]
  rw[same (hm.lo hs),same (hm.hi hs)];exact hl
 ·constructor
  ·rintro⟨r,hr,rfl⟩
   have hr':K0.hold r≠0:=by rw[←h.hold,←hh];exact hr
   exact⟨r,hr',VD r hr'⟩
  ·rintro⟨r,hr,rfl⟩
   exact⟨r,by show K'.hold r≠0;rw[hh,h.hold];exact hr,(VD r hr).symm⟩
end
end aC
namespace aC
open aj
variable {n cap l:Nat} {ord:List Nat} {F G:Fn→Prop}
open Classical in
noncomputable def sz(n:Nat)(ord:List Nat)(F:Fn→Prop):Nat:=if h:∃k,qC (aP n ord F) k then Classical.choose h else 0
theorem PX{k:Nat}(h:qC (aP n ord F) k):sz n ord F=k:=by
 unfold sz
 rw[dif_pos ⟨k,h⟩]
 exact(Classical.choose_spec (⟨k,h⟩:∃k,qC (aP n ord F) k)).uniq h
def I9(n:Nat)(ord:List Nat)(l:Nat)(F:Fn→Prop):Fn→Prop:=fun g=>aP n ord F g∨aP n (iJ ord l) F g
open Classical in
noncomputable def Ax(n:Nat)(ord:List Nat)(l:Nat)(F:Fn→Prop):Nat:=if h:∃k,qC (I9 n ord l F) k then Classical.choose h else 0
theorem Q8{k:Nat}(h:qC (I9 n ord l F) k):Ax n ord l F=k:=by
 unfold Ax
 rw[dif_pos ⟨k,h⟩]
 exact(Classical.choose_spec (⟨k,h⟩:∃k,qC (I9 n ord l F) k)).uniq h
theorem JJ(e:∀g,F g↔G g):sz n ord F=sz n ord G:=by
 have:F=G:=funext fun g=>propext (e g)
 rw[this]
theorem GM(e:∀g,F g↔G g):Ax n ord l F=Ax n ord l G:=by
 have:F=G:=funext fun g=>propext (e g)
 rw[this]
theorem zR{a b:List Nat}(hl:a.length=b.length)(h:∀i,i<a.length→a.getD i 0=b.getD i 0):a=b:=by
 refine List.ext_getElem hl fun i h1 h2=>?_
 have:=h i h1
 simpa[List.getD,List.getElem?_eq_getElem h1,List.getElem?_eq_getElem h2]using this
theorem oS(hl:l+1<ord.length):iJ (iJ ord l) l=ord:=by
 refine zR (by rw[j6,j6]) fun i _=>?_
 have h2:l+1<(iJ ord l).length:=by rw[j6];exact hl
 rw[eo h2,eo hl,eo hl,eo hl]
 by_cases e:i=l
 ·subst e;simp
 ·by_cases e2:i=l+1
  ·subst e2;simp
  ·simp[e,e2]
theorem Nv(hl:l+1<ord.length):Ax n (iJ ord l) l F=Ax n ord l F:=by
 have:I9 n (iJ ord l) l F=I9 n ord l F:=by
  funext g
  unfold I9
  rw[oS hl]
  exact propext or_comm
 unfold Ax
 rw[this]
def uO(n cap:Nat)(F:Fn→Prop):List Nat→List Nat→Prop
 |_,[]=>True
 |ord,l::r=>l+1<n∧Ax n ord l F+2≤cap∧uO n cap F (iJ ord l) r
theorem uO.congr(e:∀g,F g↔G g):∀{tr ord:List Nat},uO n cap F ord tr→uO n cap G ord tr:=by
 have:F=G:=funext fun g=>propext (e g)
 subst this
 exact fun{tr ord} h=>h
theorem uO.Zr(hlen:ord.length=n)(hl:l+1<n)(hfit:Ax n ord l F+2≤cap){tr:List Nat}(h:uO n cap F ord tr.reverse):uO n cap F (iJ ord l) (tr++[l]).reverse:=by
 rw[List.reverse_append]
 exact⟨hl,by rw[Nv (by omega)];exact hfit,by rw[oS (by omega)];exact h⟩
end aC
namespace aC
open aj
variable {n l:Nat} {ord:List Nat} {L:aj.Fs} {F:Fn→Prop}
def gJ(n:Nat)(ws:List Nat):Fn:=fun x=>bit ws (x%2^n)
theorem lH{x v n:Nat}{b:Bool}(hv:v<n):aA x v b%2^n=aA (x%2^n) v b:=by
 apply Nat.eq_of_testBit_eq;intro k
 rw[Nat.testBit_mod_two_pow,ak,ak,Nat.testBit_mod_two_pow]
 by_cases e:k=v
 ·subst e;simp[hv]
 ·simp[e]
theorem pG{v:Nat}{ws:List Nat}(hf:dh n ws)(hv:v<n)(b:Bool):gJ n (eV n ws v b)=fun x=>gJ n ws (aA x v b):=by
 funext x
 unfold gJ
 rw[dP hf hv (Nat.mod_lt _ (Nat.two_pow_pos n)),lH hv]
theorem L6{ws:List Nat}{x:Nat}(h:x<2^n):gJ n ws x=bit ws x:=by unfold gJ;rw[Nat.mod_eq_of_lt h]
theorem F4{a b:List Nat}(ha:dh n a)(hb:dh n b)(h:gJ n a=gJ n b):a=b:=ha.ext hb fun x hx=>by rw[←L6 hx,←L6 hx,h]
theorem vV{v:Nat}{ws:List Nat}(hf:dh n ws)(hv:v<n):dm (gJ n ws) v↔aj.dep n ws v=true:=by
 rw[rS hf hv]
 constructor
 ·rintro⟨x,hx⟩
  refine⟨x%2^n,Nat.mod_lt _ (Nat.two_pow_pos n),?_⟩
  unfold gJ at hx
  rwa [lH hv,lH hv]at hx
 ·rintro⟨x,hx,hne⟩
  refine⟨x,?_⟩
  unfold gJ
  rwa [lH hv,lH hv,Nat.mod_eq_of_lt hx]
def cur(n:Nat)(ord:List Nat)(L:aj.Fs):Nat→aj.Fs
 |0=>ik L
 |k+1=>given n (cur n ord L k) (ord.getD k 0)
def FT(n:Nat)(L:aj.Fs):Fn→Prop:=fun g=>∃t∈L,g=gJ n t
theorem ni:∀k,(cur n ord L k).Nodup
 |0=>j3 L
 |k+1=>mh _ _ _
theorem pJ(hL:∀t∈L,dh n t)(hn:n≤16):∀k,∀t∈cur n ord L k,dh n t
 |0,t,h=>hL t (dU.1 h)
 |k+1,t,h=>by obtain⟨u,_,b,rfl⟩:=bL.1 h;exact cy hn
theorem BR(hL:∀t∈L,dh n t)(hn:n≤16)(ho:∀i,i<n→ord.getD i 0<n):∀k,k≤n→∀g,fs ord (FT n L) k g↔∃t∈cur n ord L k,g=gJ n t
 |0,_,g=>by
  show(∃t∈L,g=gJ n t)↔_
  constructor
  ·rintro⟨t,h,e⟩;exact⟨t,dU.2 h,e⟩
  ·rintro⟨t,h,e⟩;exact⟨t,dU.1 h,e⟩
 |k+1,hk,g=>by
  have ih:=BR hL hn ho k (by omega)
  constructor
  ·rintro⟨f,hf,b,rfl⟩
   obtain⟨t,ht,rfl⟩:=(ih f).1 hf
   exact⟨eV n t (ord.getD k 0) b,bL.2 ⟨t,ht,b,rfl⟩,(pG (pJ hL hn k t ht) (ho k (by omega)) b).symm⟩
  ·rintro⟨t,ht,rfl⟩
   obtain⟨u,hu,b,rfl⟩:=bL.1 ht
   exact⟨gJ n u,(ih _).2 ⟨u,hu,rfl⟩,b,pG (pJ hL hn k u hu) (ho k (by omega)) b⟩
theorem ti:∀k g,fs ord F k g→∀j,j<k→¬dm g (ord.getD j 0)
 |0,_,_,_,h=>absurd h (Nat.not_lt_zero _)
 |k+1,g,h,j,hj=>by
  obtain⟨f,hf,b,rfl⟩:=h
  rintro⟨x,hx⟩
  apply hx
  by_cases e:ord.getD j 0=ord.getD k 0
  ·show f (aA (aA x _ false) _ b)=f (aA (aA x _ true) _ b)
   congr 1
   apply Nat.eq_of_testBit_eq;intro i
   simp only[ak,e]
   split<;>rfl
  ·have hlt:j<k:=by
    rcases Nat.lt_succ_iff_lt_or_eq.1 hj with h|h
    ·exact h
    ·subst h;exact(e rfl).elim
   have:=ti k f hf j hlt
   show f (aA (aA x _ false) _ b)=f (aA (aA x _ true) _ b)
   rw[cX e,cX e]
   exact Classical.byContradiction fun hne=>this ⟨_,hne⟩
def l5(n:Nat)(ord:List Nat)(L:aj.Fs)(k:Nat):aj.Fs:=nodes n (cur n ord L k) (ord.getD k 0)
def cY(n:Nat)(ord:List Nat)(L:aj.Fs):Nat→Nat
 |0=>0
 |k+1=>cY n ord L k+(l5 n ord L k).length
def Ck(n:Nat)(ord:List Nat)(L:aj.Fs):Nat→aj.Fs
 |0=>[]
 |k+1=>Ck n ord L k++l5 n ord L k
theorem q7:∀k,(Ck n ord L k).length=cY n ord L k
 |0=>rfl
 |k+1=>by rw[Ck,cY,List.length_append,q7 k]
theorem o8{k:Nat}{t:List Nat}:t∈l5 n ord L k↔t∈cur n ord L k∧aj.dep n t (ord.getD k 0)=true:=by
 unfold l5 nodes;rw[List.mem_filter]
theorem Ak(hL:∀t∈L,dh n t)(hn:n≤16):∀k,∀t∈Ck n ord L k,dh n t
 |0,t,h=>by cases h
 |k+1,t,h=>by
  rcases List.mem_append.1 h with h|h
  ·exact Ak hL hn k t h
  ·exact pJ hL hn k t (o8.1 h).1
theorem tG(hL:∀t∈L,dh n t)(hn:n≤16)(ho:∀i,i<n→ord.getD i 0<n):∀m,m≤n→∀g,(∃k,k<m∧fs ord (FT n L) k g∧dm g (ord.getD k 0))↔∃t∈Ck n ord L m,g=gJ n t
 |0,_,g=>by simp[Ck]
 |m+1,hm,g=>by
  have ih:=tG hL hn ho m (by omega) g
  have ah:(fs ord (FT n L) m g∧dm g (ord.getD m 0))↔∃t∈l5 n ord L m,g=gJ n t:=by
   rw[BR hL hn ho m (by omega)]
   constructor
   ·rintro⟨⟨t,ht,rfl⟩,hh⟩
    exact⟨t,o8.2 ⟨ht,(vV (pJ hL hn m t ht) (ho m (by omega))).1 hh⟩,rfl⟩
   ·rintro⟨t,ht,rfl⟩
    obtain⟨h1,h2⟩:=o8.1 ht
    exact⟨⟨t,h1,rfl⟩,(vV (pJ hL hn m t h1) (ho m (by omega))).2 h2⟩
  constructor
  ·rintro⟨k,hk,h1,h2⟩
   by_cases e:k=m
   ·subst e
    obtain⟨t,ht,rfl⟩:=ah.1 ⟨h1,h2⟩
    exact⟨t,List.mem_append_right _ ht,rfl⟩
   ·obtain⟨t,ht,rfl⟩:=ih.1 ⟨k,by omega,h1,h2⟩
    exact⟨t,List.mem_append_left _ ht,rfl⟩
  ·rintro⟨t,ht,rfl⟩
   rcases List.mem_append.1 ht with ht|ht
   ·obtain⟨k,hk,h⟩:=ih.2 ⟨t,ht,rfl⟩
    exact⟨k,by omega,h⟩
   ·exact⟨m,by omega,ah.2 ⟨t,ht,rfl⟩⟩
theorem tF(hL:∀t∈L,dh n t)(hn:n≤16)(ho:∀i,i<n→ord.getD i 0<n):∀m,m≤n→(Ck n ord L m).Nodup
 |0,_=>List.nodup_nil
 |m+1,hm=>by
  refine List.nodup_append.2 ⟨tF hL hn ho m (by omega),(ni m).filter _,fun a ha b hb e=>?_⟩
  subst e
  obtain⟨k,hk,h1,h2⟩:=(tG hL hn ho m (by omega) (gJ n a)).2 ⟨a,ha,rfl⟩
  have h3:=(BR hL hn ho m (by omega) (gJ n a)).2 ⟨a,(o8.1 hb).1,rfl⟩
  exact ti m _ h3 k hk h2
theorem Mi{P:Fn→Prop}{l:aj.Fs}(hf:∀t∈l,dh n t)(hn:l.Nodup)(h:∀g,P g↔∃t∈l,g=gJ n t):qC P l.length:=by
 refine⟨l.map (gJ n),?_,by simp,fun g=>?_⟩
 ·refine List.pairwise_map.2 (hn.imp_of_mem fun{a b} ha hb hne heq=>hne (F4 (hf a ha) (hf b hb) heq))
 ·rw[h,List.mem_map]
  constructor
  ·rintro⟨t,ht,rfl⟩;exact⟨t,ht,rfl⟩
  ·rintro⟨t,ht,rfl⟩;exact⟨t,ht,rfl⟩
theorem xJ(hL:∀t∈L,dh n t)(hn:n≤16)(ho:∀i,i<n→ord.getD i 0<n):qC (aP n ord (FT n L)) (cY n ord L n):=by
 rw[←q7]
 exact Mi (Ak hL hn n) (tF hL hn ho n (Nat.le_refl _)) (tG hL hn ho n (Nat.le_refl _))
theorem PY(hL:∀t∈L,dh n t)(hn:n≤16)(ho:∀i,i<n→ord.getD i 0<n):sz n ord (FT n L)=cY n ord L n:=PX (xJ hL hn ho)
end aC
set_option maxRecDepth 100000
namespace Go.Proofs
open Go Go.Sx
open aC
def u32(r:Nat):Value:=.int .u32 (r:Int)
def bt(d:Nd):List Value:=[.int .i64 (d.v:Int),u32 d.lo,u32 d.hi]
structure nE where
 v:Int
 lo:Nat
 hi:Nat
 tk:Bool
 c:Nat
def nE.row(p:nE):List Value:=[.int .i64 p.v,u32 p.lo,u32 p.hi,.bool p.tk,.int .u8 (p.c:Int)]
def fA(N:dQ)(r:Nat):Bool:=decide (r<2)||(N r).isSome
theorem bM{N:dQ}{r:Nat}:fA N r=true↔live N r:=by
 unfold fA live
 rw[Bool.or_eq_true,decide_eq_true_eq,Option.isSome_iff_exists]
def got(N:dQ)(r:Nat):List Value:=
 if r<2 then [.int .i64 (-1),u32 r,u32 r]else match N r with|some d=>bt d|none=>[.int .i64 0,u32 0,u32 0]
theorem c8{N:dQ}{r:Nat}{d:Nd}(h:N r=some d)(h2:2≤r):got N r=bt d:=by unfold got;rw[if_neg (by omega),h]
theorem dJ{N:dQ}{r:Nat}(h2:r<2):got N r=[.int .i64 (-1),u32 r,u32 r]:=by unfold got;rw[if_pos h2]
theorem zE{N:dQ}{r:Nat}(h:fA N r=false):got N r=[.int .i64 0,u32 0,u32 0]:=by
 unfold fA at h
 rw[Bool.or_eq_false_iff,decide_eq_false_iff_not]at h
 unfold got;rw[if_neg h.1]
 cases hN:N r with
 |none=>rfl
 |some d=>rw[hN]at h;simp at h
def Hl(p:nE):Option Nd:=if p.tk then some ⟨p.v.toNat,p.lo,p.hi⟩else none
structure x5(l:List nE)(fr:List Nat)(cap used:Nat)(N:dQ):Prop where
 cap:l.length≤cap∧cap≤1048576
 two:2≤l.length
 const:∀r,r<2→∃p,l[r]? =some p∧p.v= -1∧p.lo=r∧p.hi=r∧p.tk=true
 nd:∀r,2≤r→N r=(l[r]?).bind Hl
 n0:∀r,r<2→N r=none
 nn:∀(r:Nat) p,2≤r→l[r]? =some p→p.tk=true→0≤p.v
 Nm:fr.Nodup
 oz:∀r,r∈fr↔∃p,l[r]? =some p∧p.tk=false
 used:used+fr.length=l.length
theorem x5.yZ{l:List nE}{fr:List Nat}{cap used:Nat}{N:dQ}(h:x5 l fr cap used N)(r:Nat):fA N r=(match l[r]? with|some p=>p.tk|none=>false):=by
 unfold fA
 by_cases h2:r<2
 ·obtain⟨p,hp,_,_,_,ht⟩:=h.const r h2
  simp[h2,hp,ht]
 ·rw[h.nd r (by omega)]
  cases hl:l[r]? with
  |none=>simp[h2]
  |some p=>cases ht:p.tk<;>simp[h2,Hl,ht]
theorem x5.Zo{l:List nE}{fr:List Nat}{cap used:Nat}{N:dQ}(h:x5 l fr cap used N){r:Nat}{p:nE}(hp:l[r]? =some p)(ht:p.tk=true):got N r=p.row.take 3:=by
 by_cases h2:r<2
 ·obtain⟨p',R4,h1,me,h3,_⟩:=h.const r h2
  rw[hp]at R4;cases R4
  rw[dJ h2];simp[nE.row,h1,me,h3]
 ·have hn:=h.nn r p (by omega) hp ht
  rw[c8 (d:=⟨p.v.toNat,p.lo,p.hi⟩) (by rw[h.nd r (by omega),hp];simp[Hl,ht]) (by omega)]
  simp[bt,nE.row,Int.toNat_of_nonneg hn]
theorem x5.lt{l:List nE}{fr:List Nat}{cap used:Nat}{N:dQ}(h:x5 l fr cap used N){r:Nat}(hr:live N r):r<l.length:=by
 have:=bM.2 hr
 rw[h.yZ]at this
 cases hl:l[r]? with
 |none=>rw[hl]at this;simp at this
 |some p=>exact(List.getElem?_eq_some_iff.1 hl).1
def gC(pa cap used:Nat)(N:dQ)(C:Hp):Prop:=
 ∃vl vf l fr Cl Cf,C=(pa,.cells #[.int .i64 (cap:Int),vl,vf,.int .i64 (used:Int)] 198 (0,0))::(Cl++Cf)∧
  aO 291 5 vl (l.map nE.row) Cl∧aK 77 .u32 vf (fr.map (Nat.cast:Nat→Int)) Cf∧x5 l fr cap used N
abbrev ptr(b:Nat):Value:=.pointer (some ⟨b,0,none⟩)
theorem row_one(p:nE):∀x∈p.row,x.oneCell'=true:=by intro x hx;simp[nE.row,u32]at hx;rcases hx with rfl|rfl|rfl|rfl|rfl<;>rfl
theorem oR{pa cap used r:Nat}{N:dQ}{C:Hp}(h:gC pa cap used N C)(hr:r<4294967296):
  Rd Tryz.prog 253 #[ptr pa,u32 r] C (· =.bool (fA N r)):=by
 obtain⟨vl,vf,l,fr,Cl,Cf,rfl,hl,hf,ho⟩:=h
 refine aR fun g=>Dn ?_
 refine aQ.q ?_
 refine Nil.ptr ?_
 refine ag.mk (Ld.mk zM rfl ?_)
 refine hl.bc ?_
 refine aa.dH ?_
 rw[List.length_map]
 rw[ho.yZ r]
 refine df.and (match l[r]? with|some p=>p.tk|none=>false) (fun hlt=>?_) rfl fun _=>bN.mk (.refl _) ?_
 ·have gH:=of_decide_eq_true hlt
  refine Nil.ptr ?_
  refine ag.mk (Ld.mk zM rfl ?_)
  have hg:l[r]? =some l[r]:=List.getElem?_eq_getElem gH
  refine hl.RC (r:=l[r].row) (x:=.bool l[r].tk) (by rw[List.getElem?_map,hg];rfl) rfl (fun _ h=>by exact .tail _ (List.mem_append_left _ h)) ?_
  exact⟨rfl,by rw[hg]⟩
 ·congr 1
  by_cases hlt:r<l.length
  ·simp[hlt]
  ·rw[List.getElem?_eq_none (by omega)];simp
theorem LZ{pa cap used r:Nat}{N:dQ}{C:Hp}(h:gC pa cap used N C)(hr:r<4294967296):
  Rd Tryz.prog 231 #[ptr pa,u32 r] C (· =.tuple #[.agg (got N r).toArray,.int .i64 (if fA N r then 0 else 3)]):=by
 have h0:=h
 obtain⟨vl,vf,l,fr,Cl,Cf,rfl,hl,hf,ho⟩:=h
 refine aR fun g=>DH ?_
 intro b1 _
 refine aa.aD (Br.no ?_)
 refine ae.eq (oR h0 hr) ?_
 refine Un.not ?_
 refine Br.mk (fun hb=>?_) (fun hb=>?_)
 ·have hb':fA N r=false:=by simpa using hb
  refine Build.mk (cs:=[.int .i64 0,.int .u32 0,.int .u32 0]) (by kernel_rfl) ?_
  refine St.q ?_
  refine av.q ?_
  exact bN.mk .tail (by rw[zE hb',hb'];rfl)
 ·have hb':fA N r=true:=by simpa using hb
  have hx:=hb'
  rw[ho.yZ]at hx
  cases hg:l[r]? with
  |none=>rw[hg]at hx;simp at hx
  |some p=>
  rw[hg]at hx
  simp only at hx
  refine Nil.ptr ?_
  refine ag.mk (Ld.mk zM rfl ?_)
  refine hl.RB (r:=p.row) (by rw[List.getElem?_map,hg];rfl) (by decide) (fun _ h=>by exact .tail _ (.tail _ (List.mem_append_left _ h))) ?_
  refine St.p (fun x hx=>row_one p x (List.mem_of_mem_take hx)) ?_
  refine av.q ?_
  exact bN.mk .tail (by rw[ho.Zo hg hx,hb'];rfl)
structure Wl(N:dQ)(d:Nd):Prop where
 v:d.v<64
 lo:live N d.lo
 hi:live N d.hi
theorem gC.lt{pa cap used r:Nat}{N:dQ}{C:Hp}(h:gC pa cap used N C)(hr:live N r):r<cap∧cap≤1048576:=by
 obtain⟨vl,vf,l,fr,Cl,Cf,rfl,hl,hf,ho⟩:=h
 exact⟨Nat.lt_of_lt_of_le (ho.lt hr) ho.cap.1,ho.cap.2⟩
theorem wq{pa cap used:Nat}{N:dQ}{C:Hp}{d:Nd}(h:gC pa cap used N C)(hd:Wl N d):
  Rd Tryz.prog 208 #[ptr pa,.agg (bt d).toArray] C (· =.int .i64 0):=by
 have hlo:=h.lt hd.lo
 have hhi:=h.lt hd.hi
 refine aR fun g=>D0 ?_
 intro b1 _
 refine Ld.f ?_
 refine aa.lss ?_
 refine df.or (decide (64≤d.v)) (fun _=>?_) rfl fun _=>?_
 ·refine Ld.f ?_
  exact aa.qT (b:=64) ⟨rfl,rfl⟩
 have hv:=hd.v
 refine Br.Xx (by simp;omega) ?_
 intro J hJ
 refine Ld.f ?_
 refine ae.eq (oR h (by omega)) ?_
 rw[bM.2 hd.lo]
 refine Un.not (Split.go rfl ?_)
 refine Ld.f ?_
 refine ae.eq (oR h (by omega)) ?_
 rw[bM.2 hd.hi]
 refine Un.not (ay.mk (JE.mk (hJ _ _ fun gs=>Br.no (bN.mk .tail rfl))))
theorem Kl{pa cap used r:Nat}{N:dQ}{C:Hp}(h:gC pa cap used N C)(hr:∃d,N r=some d)(h2:2≤r):
  Rd Tryz.prog 209 #[ptr pa,u32 r] C (· =.int .i64 0):=by
 have hl:=h.lt (.inr hr)
 refine aR fun g=>DZ ?_
 intro J hJ
 refine aa.y4 (b:=1) ?_
 refine Split.go (by simp;omega) ?_
 refine ae.eq (oR h (by omega)) ?_
 rw[bM.2 (.inr hr)]
 refine Un.not (ay.mk (JE.mk (hJ _ _ fun gs=>Br.no (bN.mk (.refl _) rfl))))
theorem Af{pa cap used:Nat}{N:dQ}{C:Hp}(h:gC pa cap used N C):Rd Tryz.prog 58 #[ptr pa] C (· =.int .i64 (used:Int)):=by
 obtain⟨vl,vf,l,fr,Cl,Cf,rfl,hl,hf,ho⟩:=h
 refine aR fun g=>II ?_
 refine aa.aD (Br.no (Nil.ptr ?_))
 refine ag.mk (Ld.mk zM rfl ?_)
 exact bN.mk (.refl _) rfl
theorem tD{pa cap used:Nat}{N:dQ}{C:Hp}(h:gC pa cap used N C):Rd Tryz.prog 146 #[ptr pa] C (· =.int .i64 (cap:Int)):=by
 obtain⟨vl,vf,l,fr,Cl,Cf,rfl,hl,hf,ho⟩:=h
 refine aR fun g=>EH ?_
 refine aa.aD (Br.no (Nil.ptr ?_))
 refine ag.mk (Ld.mk zM rfl ?_)
 exact bN.mk (.refl _) rfl
section
variable {l:List nE} {fr:List Nat} {cap used:Nat} {N:dQ}
theorem Bi(d:Nd){c:Nat}:Hl ⟨(d.v:Int),d.lo,d.hi,true,c⟩=some d:=by simp[Hl]
theorem x5.reuse(h:x5 l fr cap used N){r:Nat}(hr:r∈fr){fr':List Nat}(hf:fr.Perm (r::fr'))(d:Nd):
  2≤r∧r<cap∧N r=none∧x5 (l.set r ⟨(d.v:Int),d.lo,d.hi,true,0⟩) fr' cap (used+1) (up N r (some d)):=by
 obtain⟨p,hp,ht⟩:=(h.oz r).1 hr
 have hlt:=(List.getElem?_eq_some_iff.1 hp).1
 have h2:2≤r:=by
  apply Decidable.byContradiction
  intro hn
  obtain⟨p',R4,_,_,_,ht'⟩:=h.const r (by omega)
  rw[hp]at R4;cases R4;rw[ht]at ht';cases ht'
 have gE:=hf.nodup_iff.1 h.Nm
 rw[List.nodup_cons]at gE
 refine⟨h2,Nat.lt_of_lt_of_le hlt h.cap.1,by rw[h.nd r h2,hp];simp[Hl,ht],?_⟩
 have gf:∀s,s≠r→(l.set r ⟨(d.v:Int),d.lo,d.hi,true,0⟩)[s]? =l[s]? :=fun s hs=>List.getElem?_set_ne (Ne.symm hs)
 have fc:(l.set r ⟨(d.v:Int),d.lo,d.hi,true,0⟩)[r]? =some ⟨(d.v:Int),d.lo,d.hi,true,0⟩:=List.getElem?_set_self hlt
 exact {
  cap:=by simpa using h.cap
  two:=by simpa using h.two
  const:=fun s hs=>by rw[gf s (by omega)];exact h.const s hs
  nd:=fun s hs=>by
   by_cases e:s=r
   ·subst e;rw[aI,fc];exact(Bi d).symm
   ·rw[aL e,gf s e];exact h.nd s hs
  n0:=fun s hs=>by rw[aL (by omega)];exact h.n0 s hs
  nn:=fun s q hs hq K6=>by
   by_cases e:s=r
   ·subst e;rw[fc]at hq;cases hq;exact Int.natCast_nonneg _
   ·rw[gf s e]at hq;exact h.nn s q hs hq K6
  Nm:=gE.2
  oz:=fun s=>by
   by_cases e:s=r
   ·subst e
    rw[fc]
    simp[gE.1]
   ·rw[gf s e,←h.oz s,hf.mem_iff]
    simp[e]
  used:=by have:=h.used;have:=hf.length_eq;simp only[List.length_cons,List.length_set]at*;omega}
theorem x5.grow(h:x5 l [] cap used N)(hlt:l.length<cap)(d:Nd):
  2≤l.length∧N l.length=none∧x5 (l++[⟨(d.v:Int),d.lo,d.hi,true,0⟩]) [] cap (used+1) (up N l.length (some d)):=by
 have h2:=h.two
 refine⟨h2,by rw[h.nd _ h2,List.getElem?_eq_none (Nat.le_refl _)];rfl,?_⟩
 have gf:∀s,s≠l.length→(l++[(⟨(d.v:Int),d.lo,d.hi,true,0⟩:nE)])[s]? =l[s]? :=fun s hs=>by
  rw[List.getElem?_append]
  split
  ·rfl
  ·rw[List.getElem?_eq_none (by simp;omega),List.getElem?_eq_none (by omega)]
 have fc:(l++[(⟨(d.v:Int),d.lo,d.hi,true,0⟩:nE)])[l.length]? =some ⟨(d.v:Int),d.lo,d.hi,true,0⟩:=by simp
 exact {
  cap:=by simp;exact⟨hlt,h.cap.2⟩
  two:=by simp;omega
  const:=fun s hs=>by rw[gf s (by omega)];exact h.const s hs
  nd:=fun s hs=>by
   by_cases e:s=l.length
   ·subst e;rw[aI,fc];exact(Bi d).symm
   ·rw[aL e,gf s e];exact h.nd s hs
  n0:=fun s hs=>by rw[aL (by omega)];exact h.n0 s hs
  nn:=fun s q hs hq K6=>by
   by_cases e:s=l.length
   ·subst e;rw[fc]at hq;cases hq;exact Int.natCast_nonneg _
   ·rw[gf s e]at hq;exact h.nn s q hs hq K6
  Nm:=h.Nm
  oz:=fun s=>by
   by_cases e:s=l.length
   ·subst e
    rw[fc]
    simp
   ·rw[gf s e];exact h.oz s
  used:=by have:=h.used;simp at*;omega}
theorem x5.wG(h:x5 l fr cap used N){r:Nat}{p:nE}(h2:2≤r)(hp:l[r]? =some p)(ht:p.tk=true)(d:Nd):
  x5 (l.set r ⟨(d.v:Int),d.lo,d.hi,true,p.c⟩) fr cap used (up N r (some d)):=by
 have hlt:=(List.getElem?_eq_some_iff.1 hp).1
 have gf:∀s,s≠r→(l.set r ⟨(d.v:Int),d.lo,d.hi,true,p.c⟩)[s]? =l[s]? :=fun s hs=>List.getElem?_set_ne (Ne.symm hs)
 have fc:(l.set r ⟨(d.v:Int),d.lo,d.hi,true,p.c⟩)[r]? =some ⟨(d.v:Int),d.lo,d.hi,true,p.c⟩:=List.getElem?_set_self hlt
 exact {
  cap:=by simpa using h.cap
  two:=by simpa using h.two
  const:=fun s hs=>by rw[gf s (by omega)];exact h.const s hs
  nd:=fun s hs=>by
   by_cases e:s=r
   ·subst e;rw[aI,fc];exact(Bi d).symm
   ·rw[aL e,gf s e];exact h.nd s hs
  n0:=fun s hs=>by rw[aL (by omega)];exact h.n0 s hs
  nn:=fun s q hs hq K6=>by
   by_cases e:s=r
   ·subst e;rw[fc]at hq;cases hq;exact Int.natCast_nonneg _
   ·rw[gf s e]at hq;exact h.nn s q hs hq K6
  Nm:=h.Nm
  oz:=fun s=>by
   by_cases e:s=r
   ·subst e
    rw[h.oz,fc,hp]
    simp[ht]
   ·rw[gf s e];exact h.oz s
  used:=by simpa using h.used}
theorem x5.free(h:x5 l fr cap used N){r:Nat}{p:nE}(h2:2≤r)(hp:l[r]? =some p)(ht:p.tk=true):
  x5 (l.set r ⟨0,0,0,false,0⟩) (fr++[r]) cap (used-1) (up N r none)∧0<used:=by
 have hlt:=(List.getElem?_eq_some_iff.1 hp).1
 have gf:∀s,s≠r→(l.set r ⟨0,0,0,false,0⟩)[s]? =l[s]? :=fun s hs=>List.getElem?_set_ne (Ne.symm hs)
 have fc:(l.set r ⟨0,0,0,false,0⟩)[r]? =some ⟨0,0,0,false,0⟩:=List.getElem?_set_self hlt
 have WQ:r∉fr:=fun hm=>by obtain⟨q,hq,K6⟩:=(h.oz r).1 hm;rw[hp]at hq;cases hq;rw[ht]at K6;cases K6
 have hu:fr.length<l.length:=by
  have hn:(r::fr).Nodup:=List.nodup_cons.2 ⟨WQ,h.Nm⟩
  have:=cf (l:=r::fr) (l':=List.range l.length) hn fun s hs=>by
   rw[List.mem_range]
   rcases List.mem_cons.1 hs with rfl|hs
   ·exact hlt
   ·obtain⟨q,hq,_⟩:=(h.oz s).1 hs;exact(List.getElem?_eq_some_iff.1 hq).1
  rw[List.length_range]at this;exact this
 have hu2:=h.used
 refine⟨?_,by omega⟩
 exact {
  cap:=by simpa using h.cap
  two:=by simpa using h.two
  const:=fun s hs=>by rw[gf s (by omega)];exact h.const s hs
  nd:=fun s hs=>by
   by_cases e:s=r
   ·subst e;rw[aI,fc];rfl
   ·rw[aL e,gf s e];exact h.nd s hs
  n0:=fun s hs=>by rw[aL (by omega)];exact h.n0 s hs
  nn:=fun s q hs hq K6=>by
   by_cases e:s=r
   ·subst e;rw[fc]at hq;cases hq;cases K6
   ·rw[gf s e]at hq;exact h.nn s q hs hq K6
  Nm:=by rw[List.nodup_append];exact⟨h.Nm,by simp,fun a ha c hc=>by simp at hc;subst hc;intro e;subst e;exact WQ ha⟩
  oz:=fun s=>by
   rw[List.mem_append,List.mem_singleton]
   by_cases e:s=r
   ·subst e
    rw[fc]
    simp
   ·rw[gf s e,←h.oz];simp[e]
  used:=by simp;omega}
end
theorem lY(l:List nE)(r:Nat)(p:nE):(l.map nE.row).set r p.row=(l.set r p).map nE.row:=by rw[List.map_set]
theorem MH{pa cap used:Nat}{N:dQ}{C:Hp}{d:Nd}(h:gC pa cap used N C)(hd:Wl N d)(hroom:used<cap):
  Fc Tryz.prog 252 #[ptr pa,.agg (bt d).toArray] C (fun v C'=>∃r,v=.tuple #[u32 r,.int .i64 0]∧2≤r∧r<cap∧N r=none∧gC pa cap (used+1) (up N r (some d)) C'):=by
 have h0:=h
 obtain⟨vl,vf,l,fr,Cl,Cf,rfl,hl,hf,ho⟩:=h
 have hcap:=ho.cap
 have FV:=ho.used
 refine aR fun g=>Dp ?_
 intro b1 _
 refine aa.aD (Br.no ?_)
 refine av.q ?_
 refine ae.eq (wq h0 hd) ?_
 refine aa.cG (Br.F ?_)
 refine Nil.ptr ?_
 refine ag.mk (Ld.mk zM rfl ?_)
 refine hf.bc ?_
 rw[List.length_map]
 refine aa.iU (b:=0) (Br.dec (fun hp=>?_) (fun hp=>?_))
 ·obtain⟨fr',r,rfl⟩:∃fr' r,fr=fr'++[r]:=⟨fr.dropLast,fr.getLast (by intro e;simp[e]at hp),(List.dropLast_concat_getLast _).symm⟩
  simp only[List.length_append,List.length_cons,List.length_nil]at hp FV⊢
  obtain⟨g1,g2,g3,hok⟩:=ho.reuse (r:=r) (by simp) (fr':=fr') (by exact List.perm_append_singleton _ _) d
  refine Nil.ptr ?_
  refine ag.mk (Ld.mk zM rfl ?_)
  refine aa.bE (a:=fr'.length+1) (b:=1) ?_
  rw[Nat.add_sub_cancel]
  refine hf.ld (i:=fr'.length) (x:=(r:Int)) (by simp) (fun _ h=>by exact .tail _ (.tail _ (List.mem_append_right _ h))) ?_
  refine Nil.ptr ?_
  refine ag.mk (Ld.mk zM rfl ?_)
  refine aa.bE (a:=fr'.length+1) (b:=1) ?_
  rw[Nat.add_sub_cancel]
  refine hf.cut (i:=fr'.length) (by simp) fun v' zx=>?_
  have AG:aK 77 .u32 v' (fr'.map (Nat.cast:Nat→Int)) Cf:=by
   rw[List.map_append,List.take_left' (by simp)]at zx;exact zx
  have hone:v'.oneCell'=true:=by obtain⟨a,c,e⟩:=aO.len AG;rw[e];rfl
  refine Nil.ptr (ag.mk ?_)
  refine St.one (by exact .tail (.head _)) hone (by simp) rfl ?_
  refine DR.self ?_
  refine Nil.ptr ?_
  refine Ld.f ?_
  refine av.q ?_
  refine Build.mk (cs:=(nE.mk (d.v:Int) d.lo d.hi true 0).row) (by kernel_rfl) ?_
  refine hl.Ba (A:=[_,_]) (B:=Cf) (i:=r) (by rw[List.length_map];have:=(ho.oz r).1 (by simp);obtain⟨p,hp,_⟩:=this;exact(List.getElem?_eq_some_iff.1 hp).1) rfl (row_one _) fun C' hl'=>?_
  rw[lY]at hl'
  simp only[List.cons_append,List.nil_append]
  refine Nil.ptr ?_
  refine Ld.f ?_
  refine aa.inc ?_
  refine Nil.ptr (ag.mk ?_)
  refine St.one (by exact .tail (.head _)) rfl (by simp) rfl ?_
  exact aS.mk .tail ⟨r,rfl,g1,g2,g3,vl,v',_,fr',C',Cf,rfl,hl',AG,hok⟩
 ·obtain rfl:fr=[]:=List.eq_nil_of_length_eq_zero (by omega)
  simp only[List.length_nil]at FV
  obtain⟨g1,g3,hok⟩:=ho.grow (by omega) d
  refine Nil.ptr ?_
  refine ag.mk (Ld.mk zM rfl ?_)
  refine hl.bc ?_
  rw[List.length_map]
  refine Nil.ptr ?_
  refine ag.mk (Ld.mk zM rfl ?_)
  refine aa.qT (Br.F ?_)
  refine DR.of (R:=(b1,.cells (List.toArray (bt d)) 161 (0,0))::(pa,.cells #[.int .i64 (cap:Int),vl,vf,.int .i64 (used:Int)] 198 (0,0))::[]) (.cons (.cons .nil)) ?_
  refine Nil.ptr ?_
  refine ag.mk (Ld.mk zM rfl ?_)
  refine av.q ?_
  refine Build.mk (cs:=(nE.mk (d.v:Int) d.lo d.hi true 0).row) (by kernel_rfl) ?_
  refine aq.one (z:=.agg #[.int .i64 0,.int .u32 0,.int .u32 0,.bool false,.int .u8 0]) (e:=291) (k:=5) (by kernel_rfl) (by kernel_rfl) (by kernel_rfl) (by decide) rfl fun bx=>?_
  refine⟨.skip (.cons (.cons .nil)),?_⟩
  refine hl.Ce (A:=[_,_,_]) (B:=Cf) (r:=(nE.mk (d.v:Int) d.lo d.hi true 0).row) (by exact .head _) rfl (row_one _) (by exact⟨[.int .i64 0,.int .u32 0,.int .u32 0,.bool false,.int .u8 0],rfl,rfl⟩) (by simp;omega) (by simp;omega) fun v' C' hl'=>?_
  have qQ:aO 291 5 v' ((l++[(⟨(d.v:Int),d.lo,d.hi,true,0⟩:nE)]).map nE.row) C':=by rw[List.map_append];exact hl'
  simp only[List.cons_append,List.nil_append]
  refine⟨.skip (.cons (.cons .nil)),?_⟩
  have hone:v'.oneCell'=true:=by obtain⟨a,c,e⟩:=qQ.len;rw[e];rfl
  refine Nil.ptr (ag.mk ?_)
  refine St.one (by exact .tail (.tail (.head _))) hone (by simp) rfl ?_
  refine Nil.ptr ?_
  refine Ld.f ?_
  refine aa.inc ?_
  refine Nil.ptr (ag.mk ?_)
  refine St.one (by exact .tail (.tail (.head _))) rfl (by simp) rfl ?_
  refine Nil.ptr ?_
  refine Ld.f ?_
  refine qQ.bc ?_
  refine aa.ux (b:=1) (by simp[bA];omega) (by simp) ?_
  refine aQ.q ?_
  refine aS.mk (.skip .tail) ⟨l.length,by simp[u32],g1,by omega,g3,v',vf,_,[],C',Cf,rfl,qQ,hf,hok⟩
theorem PE{pa cap used r:Nat}{N:dQ}{C:Hp}{d:Nd}(h:gC pa cap used N C)(hd:Wl N d)(hr:∃e,N r=some e)(h2:2≤r):
  Fc Tryz.prog 140 #[ptr pa,u32 r,.agg (bt d).toArray] C (fun v C'=>v=.int .i64 0∧gC pa cap used (up N r (some d)) C'):=by
 have h0:=h
 obtain⟨vl,vf,l,fr,Cl,Cf,rfl,hl,hf,ho⟩:=h
 have hx:=bM.2 (.inr hr:live N r)
 rw[ho.yZ]at hx
 obtain⟨p,hg,hx⟩:∃p,l[r]? =some p∧p.tk=true:=by
  cases hg:l[r]? with
  |none=>rw[hg]at hx;simp at hx
  |some p=>rw[hg]at hx;exact⟨p,rfl,hx⟩
 refine aR fun g=>EM ?_
 intro b1 _
 refine aa.aD (Br.no ?_)
 refine av.q ?_
 refine ae.eq (wq h0 hd) ?_
 refine aa.cG (Br.F ?_)
 refine ae.eq (Kl h0 hr h2) ?_
 refine aa.cG (Br.F ?_)
 refine DR.self ?_
 refine Nil.ptr ?_
 refine ag.mk (Ld.mk zM rfl ?_)
 refine av.q ?_
 refine hl.NW (A:=[_,_]) (B:=Cf) (r:=p.row) (xs:=bt d) (n:=3) (by rw[List.getElem?_map,hg];rfl) ⟨rfl,by omega⟩ (by intro x hx;simp[bt,u32]at hx;rcases hx with rfl|rfl|rfl<;>rfl) fun C' hl'=>?_
 have e:(bt d++p.row.drop 3)=(nE.mk (d.v:Int) d.lo d.hi true p.c).row:=by simp[bt,nE.row,hx]
 rw[e,lY]at hl'
 exact aS.mk .tail ⟨rfl,vl,vf,_,fr,C',Cf,rfl,hl',hf,ho.wG h2 hg hx d⟩
theorem ML{pa cap used r:Nat}{N:dQ}{C:Hp}(h:gC pa cap used N C)(hr:∃e,N r=some e)(h2:2≤r):
  Fc Tryz.prog 210 #[ptr pa,u32 r] C (fun v C'=>v=.int .i64 0∧gC pa cap (used-1) (up N r none) C'):=by
 have h0:=h
 obtain⟨vl,vf,l,fr,Cl,Cf,rfl,hl,hf,ho⟩:=h
 have hx:=bM.2 (.inr hr:live N r)
 rw[ho.yZ]at hx
 obtain⟨p,hg,hx⟩:∃p,l[r]? =some p∧p.tk=true:=by
  cases hg:l[r]? with
  |none=>rw[hg]at hx;simp at hx
  |some p=>rw[hg]at hx;exact⟨p,rfl,hx⟩
 obtain⟨hok,hu0⟩:=ho.free h2 hg hx
 have hcap:=ho.cap
 have FV:=ho.used
 refine aR fun g=>DY ?_
 refine aa.aD (Br.no ?_)
 refine ae.eq (Kl h0 hr h2) ?_
 refine aa.cG (Br.F ?_)
 refine Nil.ptr ?_
 refine ag.mk (Ld.mk zM rfl ?_)
 refine Build.mk (cs:=(nE.mk 0 0 0 false 0).row) (by kernel_rfl) ?_
 refine hl.Ba (A:=[_]) (B:=Cf) (i:=r) (by rw[List.length_map];exact(List.getElem?_eq_some_iff.1 hg).1) rfl (row_one _) fun C' hl'=>?_
 rw[lY]at hl'
 simp only[List.cons_append,List.nil_append]
 refine Nil.ptr ?_
 refine Ld.f ?_
 refine aq.int (e:=77) (by kernel_rfl) (by kernel_rfl) (by kernel_rfl) fun bx=>?_
 have e1:(bx,Obj.cells (ax .u32 [(r:Int)]) 77 (0,0))::(pa,Obj.cells #[.int .i64 (cap:Int),vl,vf,.int .i64 (used:Int)] 198 (0,0))::(C'++Cf)=(bx,Obj.cells (ax .u32 [(r:Int)]) 77 (0,0))::(pa,Obj.cells #[.int .i64 (cap:Int),vl,vf,.int .i64 (used:Int)] 198 (0,0))::C'++(Cf++[]):=by simp
 rw[e1]
 refine hf.app (x:=(r:Int)) (B:=[]) (by exact .head _) (by simp;omega) (by simp;omega) fun v' Cf' zx=>?_
 have AG:aK 77 .u32 v' ((fr++[r]).map (Nat.cast:Nat→Int)) Cf':=by rw[List.map_append];exact zx
 have hone:v'.oneCell'=true:=by obtain⟨a,c,e⟩:=aO.len AG;rw[e];rfl
 simp only[List.cons_append,List.append_nil]
 refine Nil.ptr (ag.mk ?_)
 refine St.one (by exact .tail (.head _)) hone (by simp) rfl ?_
 refine Nil.ptr ?_
 refine Ld.f ?_
 refine aa.bE (b:=1) ?_
 refine Nil.ptr (ag.mk ?_)
 refine St.one (by exact .tail (.head _)) rfl (by simp) rfl ?_
 exact aS.mk .tail ⟨rfl,vl,v',_,_,C',Cf',rfl,hl',AG,hok⟩
def nK(d:Nd):Value:=.agg (bt d).toArray
abbrev Ju(v:Value)(r:Nat):Prop:=v=u32 r
theorem FN:Tryz.prog.underlying 161=some (.struct (Tryz.prog.fieldsOf 161)):=by kernel_rfl
theorem o5(a b:Nd):xY Tryz.prog 161 (nK a) (nK b) (decide (a=b)):=by
 refine xY.flat (fs:=#[⟨"Var",3,0,false, "", "",0⟩,⟨"Lo",77,1,false, "", "",8⟩,⟨"Hi",77,2,false, "", "",12⟩]) (by kernel_rfl) (by kernel_rfl) ?_ ?_
 ·intro f hf
  simp only[List.mem_cons,List.not_mem_nil,or_false]at hf
  rcases hf with rfl|rfl|rfl
  ·exact⟨by decide,_,_,rfl,rfl,.inl ⟨.i64,_,_,by kernel_rfl,rfl,rfl⟩⟩
  ·exact⟨by decide,_,_,rfl,rfl,.inl ⟨.u32,_,_,by kernel_rfl,rfl,rfl⟩⟩
  ·exact⟨by decide,_,_,rfl,rfl,.inl ⟨.u32,_,_,by kernel_rfl,rfl,rfl⟩⟩
 ·obtain⟨a1,a2,a3⟩:=a
  obtain⟨b1,b2,b3⟩:=b
  simp[bt,u32]
  omega
theorem kz(a:Nd):jW Tryz.prog 161 (nK a):=by
 refine jW.flat (fs:=#[⟨"Var",3,0,false, "", "",0⟩,⟨"Lo",77,1,false, "", "",8⟩,⟨"Hi",77,2,false, "", "",12⟩]) (by kernel_rfl) ?_
 intro f hf
 simp only[List.mem_cons,List.not_mem_nil,or_false]at hf
 rcases hf with rfl|rfl|rfl
 ·exact⟨by decide,_,rfl,.inl ⟨.i64,_,_,by kernel_rfl,rfl,rfl⟩⟩
 ·exact⟨by decide,_,rfl,.inl ⟨.u32,_,_,by kernel_rfl,rfl,rfl⟩⟩
 ·exact⟨by decide,_,rfl,.inl ⟨.u32,_,_,by kernel_rfl,rfl,rfl⟩⟩
theorem FP(a:Nd):Instr.sameBits 10000 (nK a) (nK a)=true:=iZ 9998 (by intro x hx;simp[bt,u32]at hx;rcases hx with rfl|rfl|rfl<;>exact .inl ⟨_,_,rfl⟩)
structure UM where
 b:Nat
 es:Array MapEntry
 ck:Nat
 l:List (Nd×Nat)
def Hs(ms:List UM):Hp:=ms.map fun m=>(m.b,.map m.es m.ck)
structure No(ms:List UM)(n:Nat)(T:Nd→Option Nat):Prop where
 len:ms.length=n
 ie:∀(v:Nat) m,ms[v]? =some m→aN nK Ju m.es m.ck m.l
 var:∀(v:Nat) m,ms[v]? =some m→∀x∈m.l,x.1.v=v
 T:∀d,T d=(ms[d.v]?).bind fun m=>cR m.l d
def mH(pt n:Nat)(T:Nd→Option Nat)(C:Hp):Prop:=
 ∃vs Cs ms,C=(pt,.cells #[vs] 265 (0,0))::(Cs++Hs ms)∧aO 266 1 vs (ms.map fun m=>[.map (some m.b)]) Cs∧No ms n T
theorem pc{ms:List UM}{v:Nat}{m:UM}(h:ms[v]? =some m):(m.b,Obj.map m.es m.ck)∈Hs ms:=List.mem_map.2 ⟨m,List.mem_of_getElem? h,rfl⟩
theorem xf{es':Array MapEntry}{ca:Nat}{l':List (Nd×Nat)}:∀{ms:List UM} {v:Nat} {m:UM},ms[v]? =some m→cD m.b (.map m.es m.ck) (.map es' ca) (Hs ms) (Hs (ms.set v ⟨m.b,es',ca,l'⟩))
 | [],v,m,h=>by simp at h
 |x::ms,0,m,h=>by simp at h;subst h;exact .head _
 |x::ms,v+1,m,h=>by simp at h;exact .tail (xf h)
theorem vj{ms:List UM}{v:Nat}{m m':UM}(h:ms[v]? =some m)(hb:m'.b=m.b):(ms.set v m').map (fun m=>[Value.map (some m.b)])=ms.map fun m=>[Value.map (some m.b)]:=by
 rw[List.map_set]
 apply List.ext_getElem?
 intro j
 rw[List.getElem?_set]
 split
 ·rename_i e;subst e
  have hlt:=(List.getElem?_eq_some_iff.1 h).1
  have e2:ms[v]=m:=by rw[List.getElem?_eq_getElem hlt]at h;exact Option.some.inj h
  simp[hb,hlt,e2]
 ·rfl
theorem No.add{ms:List UM}{n:Nat}{T:Nd→Option Nat}(h:No ms n T){d:Nd}{m:UM}(hm:ms[d.v]? =some m){es':Array MapEntry}{ca r:Nat}(he:aN nK Ju es' ca (fm m.l d r)):No (ms.set d.v ⟨m.b,es',ca,fm m.l d r⟩) n (oJ T d (some r)) where
 len:=by rw[List.length_set];exact h.len
 ie:=fun v m' hm'=>by
  rw[List.getElem?_set]at hm'
  split at hm'
  ·split at hm'
   ·cases hm';exact he
   ·cases hm'
  ·exact h.ie v m' hm'
 var:=fun v m' hm' x hx=>by
  rw[List.getElem?_set]at hm'
  split at hm'
  ·rename_i e
   split at hm'
   ·cases hm'
    subst e
    simp only[fm]at hx
    split at hx
    ·obtain⟨y,hy,rfl⟩:=List.mem_map.1 hx
     split
     ·rfl
     ·exact h.var _ m hm y hy
    ·rcases List.mem_append.1 hx with hx|hx
     ·exact h.var _ m hm x hx
     ·simp at hx;subst hx;rfl
   ·cases hm'
  ·exact h.var v m' hm' x hx
 T:=fun e=>by
  have hlt:=(List.getElem?_eq_some_iff.1 hm).1
  by_cases ee:e=d
  ·subst ee;rw[ij,List.getElem?_set_self hlt];simp[fy]
  ·rw[nT ee,h.T e]
   by_cases ev:d.v=e.v
   ·rw[←ev,List.getElem?_set_self hlt,hm];simp[fy,ee]
   ·rw[List.getElem?_set_ne ev]
theorem No.del{ms:List UM}{n:Nat}{T:Nd→Option Nat}(h:No ms n T){d:Nd}{m:UM}(hm:ms[d.v]? =some m){es':Array MapEntry}{ca:Nat}(he:aN nK Ju es' ca (ov m.l d)):No (ms.set d.v ⟨m.b,es',ca,ov m.l d⟩) n (oJ T d none) where
 len:=by rw[List.length_set];exact h.len
 ie:=fun v m' hm'=>by
  rw[List.getElem?_set]at hm'
  split at hm'
  ·split at hm'
   ·cases hm';exact he
   ·cases hm'
  ·exact h.ie v m' hm'
 var:=fun v m' hm' x hx=>by
  rw[List.getElem?_set]at hm'
  split at hm'
  ·rename_i e
   split at hm'
   ·cases hm'
    subst e
    exact h.var _ m hm x (List.mem_filter.1 hx|>.1)
   ·cases hm'
  ·exact h.var v m' hm' x hx
 T:=fun e=>by
  have hlt:=(List.getElem?_eq_some_iff.1 hm).1
  by_cases ee:e=d
  ·subst ee;rw[ij,List.getElem?_set_self hlt];simp[vg]
  ·rw[nT ee,h.T e]
   by_cases ev:d.v=e.v
   ·rw[←ev,List.getElem?_set_self hlt,hm];simp[vg,ee]
   ·rw[List.getElem?_set_ne ev]
theorem jo{pt n v:Nat}{T:Nd→Option Nat}{C:Hp}(h:mH pt n T C)(hv:v<n):Rd Tryz.prog 206 #[ptr pt,.int .i64 (v:Int)] C (· =.int .i64 0):=by
 obtain⟨vs,Cs,ms,rfl,hs,ho⟩:=h
 refine aR fun g=>D2 ?_
 refine aa.aD (Br.no ?_)
 refine aa.lss ?_
 rw[decide_eq_false (by omega:¬((v:Int)<0))]
 refine df.or false (fun _=>?_) rfl fun _=>Br.no (bN.mk (.refl _) rfl)
 refine Nil.ptr ?_
 refine ag.mk (Ld.mk zM rfl ?_)
 refine hs.bc ?_
 rw[List.length_map,ho.len]
 exact aa.qT ⟨rfl,by rw[decide_eq_false (by omega)]⟩
theorem rP{pt n:Nat}{T:Nd→Option Nat}{C:Hp}{d:Nd}(h:mH pt n T C)(hv:d.v<n):
  Rd Tryz.prog 205 #[ptr pt,nK d] C (· =.tuple #[u32 ((T d).getD 0),.bool (T d).isSome]):=by
 have h0:=h
 obtain⟨vs,Cs,ms,rfl,hs,ho⟩:=h
 obtain⟨m,hm⟩:∃m,ms[d.v]? =some m:=⟨_,List.getElem?_eq_getElem (by rw[ho.len];exact hv)⟩
 refine aR fun g=>D3 ?_
 intro b1 _
 refine Ld.f ?_
 refine ae.eq (jo h0 hv) ?_
 refine aa.cG (Br.F ?_)
 refine Nil.ptr ?_
 refine ag.mk (Ld.mk zM rfl ?_)
 refine Ld.f ?_
 refine hs.Qb (x:=.map (some m.b)) (by rw[List.getElem?_map,hm];rfl) (fun _ h=>by exact .tail _ (.tail _ (List.mem_append_left _ h))) ?_
 refine av.q ?_
 have hmem:(m.b,Obj.map m.es m.ck)∈(b1,Obj.cells (Value.cells (nK d)) 161 (0,0))::(pt,.cells #[vs] 265 (0,0))::(Cs++Hs ms):=.tail _ (.tail _ (List.mem_append_right _ (pc hm)))
 have hT:T d=cR m.l d:=by rw[ho.T,hm];rfl
 rw[hT]
 cases hg:cR m.l d with
 |some r=>
  refine aN.BE (ke:=nK) (k:=d) o5 kz (ho.ie _ m hm) hmem hg ?_
  rintro v rfl
  exact Ext.mk rfl (Ext.mk rfl (bN.mk .tail rfl))
 |none=>
  refine aN.sK (ke:=nK) (k:=d) o5 kz (ho.ie _ m hm) hmem hg ?_
  exact Ext.mk rfl (Ext.mk rfl (bN.mk .tail rfl))
theorem Fq{pt n r:Nat}{T:Nd→Option Nat}{C:Hp}{d:Nd}(h:mH pt n T C)(hv:d.v<n)(hT:T d=none):
  Fc Tryz.prog 141 #[ptr pt,nK d,u32 r] C (fun v C'=>v=.int .i64 0∧mH pt n (oJ T d (some r)) C'):=by
 have h0:=h
 obtain⟨vs,Cs,ms,rfl,hs,ho⟩:=h
 obtain⟨m,hm⟩:∃m,ms[d.v]? =some m:=⟨_,List.getElem?_eq_getElem (by rw[ho.len];exact hv)⟩
 have YS:cR m.l d=none:=by rw[ho.T,hm]at hT;exact hT
 refine aR fun g=>EL ?_
 intro b1 _
 refine Ld.f ?_
 refine ae.eq (jo h0 hv) ?_
 refine aa.cG (Br.F ?_)
 refine Nil.ptr ?_
 refine ag.mk (Ld.mk zM rfl ?_)
 refine Ld.f ?_
 refine hs.Qb (x:=.map (some m.b)) (by rw[List.getElem?_map,hm];rfl) (fun _ h=>by exact .tail _ (.tail _ (List.mem_append_left _ h))) ?_
 refine av.q ?_
 have hmem:(m.b,Obj.map m.es m.ck)∈(b1,Obj.cells (Value.cells (nK d)) 161 (0,0))::(pt,.cells #[vs] 265 (0,0))::(Cs++Hs ms):=.tail _ (.tail _ (List.mem_append_right _ (pc hm)))
 refine aN.sK (ke:=nK) (k:=d) o5 kz (ho.ie _ m hm) hmem YS ?_
 refine Ext.mk rfl (Ext.mk rfl (Br.no ?_))
 refine DR.self ?_
 refine Nil.ptr ?_
 refine ag.mk (Ld.mk zM rfl ?_)
 refine Ld.f ?_
 refine hs.Qb (x:=.map (some m.b)) (by rw[List.getElem?_map,hm];rfl) (fun _ h=>by exact .tail _ (.tail _ (List.mem_append_left _ h))) ?_
 refine av.q ?_
 refine aN.Jy (ke:=nK) (k:=d) (vr:=Ju) (x:=r) o5 kz FP (ho.ie _ m hm) rfl fun es' ca he=>⟨_,.tail (.tail ((xf (l':=fm m.l d r) hm).bO Cs)),?_⟩
 exact aS.mk .tail ⟨rfl,vs,Cs,_,rfl,by rw[vj hm];exact hs;rfl,ho.add hm he⟩
theorem u4{pt n r:Nat}{T:Nd→Option Nat}{C:Hp}{d:Nd}(h:mH pt n T C)(hv:d.v<n)(hT:T d=some r):
  Fc Tryz.prog 137 #[ptr pt,nK d] C (fun v C'=>v=.int .i64 0∧mH pt n (oJ T d none) C'):=by
 have h0:=h
 obtain⟨vs,Cs,ms,rfl,hs,ho⟩:=h
 obtain⟨m,hm⟩:∃m,ms[d.v]? =some m:=⟨_,List.getElem?_eq_getElem (by rw[ho.len];exact hv)⟩
 have YS:cR m.l d=some r:=by rw[ho.T,hm]at hT;exact hT
 refine aR fun g=>EO ?_
 intro b1 _
 refine Ld.f ?_
 refine ae.eq (jo h0 hv) ?_
 refine aa.cG (Br.F ?_)
 refine Nil.ptr ?_
 refine ag.mk (Ld.mk zM rfl ?_)
 refine Ld.f ?_
 refine hs.Qb (x:=.map (some m.b)) (by rw[List.getElem?_map,hm];rfl) (fun _ h=>by exact .tail _ (.tail _ (List.mem_append_left _ h))) ?_
 refine av.q ?_
 have hmem:(m.b,Obj.map m.es m.ck)∈(b1,Obj.cells (Value.cells (nK d)) 161 (0,0))::(pt,.cells #[vs] 265 (0,0))::(Cs++Hs ms):=.tail _ (.tail _ (List.mem_append_right _ (pc hm)))
 refine aN.BE (ke:=nK) (k:=d) o5 kz (ho.ie _ m hm) hmem YS ?_
 rintro v rfl
 refine Ext.mk rfl (Ext.mk rfl (Un.not (Br.no ?_)))
 refine DR.of (R:=(b1,Obj.cells (Value.cells (nK d)) 161 (0,0))::(pt,.cells #[vs] 265 (0,0))::Cs) (.cons (.cons .left)) ?_
 refine Nil.ptr ?_
 refine ag.mk (Ld.mk zM rfl ?_)
 refine Ld.f ?_
 refine hs.Qb (x:=.map (some m.b)) (by rw[List.getElem?_map,hm];rfl) (fun _ h=>by exact .tail _ (.tail _ h)) ?_
 refine av.q ?_
 refine aN.Zx (ke:=nK) (k:=d) o5 kz (ho.ie _ m hm) hmem fun es' he=>⟨_,.tail (.tail ((xf (l':=ov m.l d) hm).bO Cs)),?_⟩
 exact⟨.cons (.cons .left),aS.mk .tail ⟨rfl,vs,Cs,_,rfl,by rw[vj hm];exact hs;rfl,ho.del hm he⟩⟩
theorem No.start(n:Nat)(bs:List Nat)(h:bs.length=n):No (bs.map fun b=>⟨b,#[],0,[]⟩) n (fun _=>none) where
 len:=by simpa using h
 ie:=fun v m hm=>by
  rw[List.getElem?_map]at hm
  obtain⟨b,_,rfl⟩:=Option.map_eq_some_iff.1 hm
  exact aN.empty
 var:=fun v m hm x hx=>by
  rw[List.getElem?_map]at hm
  obtain⟨b,_,rfl⟩:=Option.map_eq_some_iff.1 hm
  simp at hx
 T:=fun d=>by
  rw[List.getElem?_map]
  cases bs[d.v]? <;>simp[cR]
theorem zN(x:Value):∀n:Nat,(List.replicate n [x]).flatten=List.replicate n x
 |0=>rfl
 |n+1=>by rw[List.replicate_succ,List.flatten_cons,List.replicate_succ,zN x n];rfl
theorem Ny{n:Nat}(hn:1≤n∧n≤64):Fc Tryz.prog 117 #[.int .i64 (n:Int)] [] (fun v H=>∃pt,v=.tuple #[ptr pt,.int .i64 0]∧mH pt n (fun _=>none) H):=by
 refine aR fun g=>EX ?_
 refine aa.lss ?_
 rw[decide_eq_false (by omega)]
 refine df.or false (fun _=>aa.gtr ⟨rfl,by rw[decide_eq_false (by omega)]⟩) rfl fun _=>Br.no ?_
 refine⟨.i64,.i64,n,n,rfl,rfl,Nat.le_refl _,by omega,by omega,?_⟩
 intro bs _
 refine Build.mk (cs:=[.slice (some ⟨bs,0,none⟩) n n]) (by kernel_rfl) ?_
 intro pt _
 have hz:madeCells (Value.cells (.map none)) (n*1)=rows ((List.replicate n [Value.map none])++[]):=by
  apply Array.ext'
  apply List.ext_getElem?
  intro i
  have:=zN (.map none) n
  simp only[madeCells,rows,Value.cells,Array.toList_map,Array.toList_range,List.getElem?_map,List.toList_toArray,Nat.mul_one,List.append_nil]
  rw[this,List.getElem?_replicate]
  by_cases hi:i<n
  ·simp[hi,Nat.mod_one]
  ·simp[hi]
 rw[hz]
 have hs0:aO 266 1 (.slice (some ⟨bs,0,none⟩) n n) (List.replicate n [Value.map none]) [(bs,.cells (rows ((List.replicate n [Value.map none])++[])) 266 (0,0))]:=
  aO.mk' (fun r hr=>by rw[List.append_nil]at hr;rw[List.eq_of_mem_replicate hr];rfl) (by simp) (by simp)
 refine⟨fun vs H=>∃(j:Nat) (bl:List Nat) (Cs:Hp),vs=[.int .i64 (j:Int)]∧bl.length=j∧j≤n∧H=(pt,.cells #[.slice (some ⟨bs,0,none⟩) n n] 265 (0,0))::(Cs++Hs (bl.map fun b=>⟨b,#[],0,[]⟩))∧
  aO 266 1 (.slice (some ⟨bs,0,none⟩) n n) ((bl.map fun b=>[Value.map (some b)])++List.replicate (n-j) [Value.map none]) Cs,fun vs _=>n-br vs 0,JE.mk ⟨0,[],_,rfl,rfl,by omega,by simp only[Hs,List.map_nil,List.append_nil];rfl,by simpa using hs0⟩,?_⟩
 rintro w H ⟨j,bl,Cs,hw,Sv,hj,rfl,hs⟩ gs
 simp only[List.cons.injEq,and_true]at hw
 subst hw
 refine aa.dH (Br.dec (fun hlt=>?_) (fun hlt=>?_))
 ·refine Nil.ptr ?_
  refine Ld.f ?_
  intro b _
  have hlen:((bl.map fun b=>[Value.map (some b)])++List.replicate (n-j) [Value.map none]).length=n:=by simp;omega
  refine aO.Xt (A:=[_,_]) (B:=Hs (bl.map fun b=>⟨b,#[],0,[]⟩)) hs (i:=j) (y:=.map none) (by omega) ?_ rfl fun C' hs'=>?_
  ·rw[List.getElem?_append_right (by simp[Sv])]
   simp only[List.length_map,Sv,Nat.sub_self]
   rw[List.getElem?_replicate,if_pos (by omega)]
  refine aa.inc ?_
  have e:((bl.map fun b=>[Value.map (some b)])++List.replicate (n-j) [Value.map none]).set j [Value.map (some b)]=((bl++[b]).map fun b=>[Value.map (some b)])++List.replicate (n-(j+1)) [Value.map none]:=by
   rw[List.set_append_right _ _ (by simp[Sv])]
   simp only[List.length_map,Sv,Nat.sub_self]
   rw[show n-j=(n-(j+1))+1 by omega,List.replicate_succ,List.set_cons_zero,List.map_append]
   simp
  rw[e]at hs'
  refine aB.of ?_ ⟨j+1,bl++[b],C',rfl,by simp[Sv],by omega,rfl,hs'⟩ (by show n-(((j+1:Nat):Int).toNat)<n-(((j:Nat):Int).toNat);omega)
  refine aM.perm ?_
  simp only[List.cons_append,List.nil_append,Hs,List.map_append,List.map_map]
  refine(List.Perm.swap _ _ _).trans (.cons _ ?_)
  rw[←List.append_assoc]
  exact(List.perm_append_singleton _ _).symm
 ·obtain rfl:j=n:=by omega
  refine aS.here ⟨pt,rfl,_,Cs,_,rfl,?_,No.start _ bl Sv⟩
  rw[Nat.sub_self]at hs
  simpa[List.map_map,Function.comp_def]using hs
theorem PI{n:Nat}(hn:2≤n∧n≤1048576):Fc Tryz.prog 186 #[.int .i64 (n:Int)] [] (fun v H=>∃pa,v=.tuple #[ptr pa,.int .i64 0]∧gC pa n 2 (fun _=>none) H):=by
 refine aR fun g=>Eg ?_
 refine aa.lss ?_
 rw[decide_eq_false (by omega)]
 refine df.or false (fun _=>aa.gtr ⟨rfl,by rw[decide_eq_false (by omega)]⟩) rfl fun _=>Br.no ?_
 refine Build.mk (cs:=[.int .i64 (n:Int),.slice none 0 0,.slice none 0 0,.int .i64 2]) (by kernel_rfl) ?_
 intro pa _
 refine⟨fun vs H=>∃(j:Nat) (vl:Value) (Cl:Hp),vs=[u32 j]∧j≤2∧H=(pa,.cells #[.int .i64 (n:Int),vl,.slice none 0 0,.int .i64 2] 198 (0,0))::Cl∧
  aO 291 5 vl ((List.range j).map fun r=>(nE.mk (-1) r r true 255).row) Cl,fun vs _=>2-br vs 0,JE.mk ⟨0,_,[],rfl,by omega,rfl,aO.nil _ _⟩,?_⟩
 rintro w H ⟨j,vl,Cl,hw,hj,rfl,hs⟩ gs
 simp only[List.cons.injEq,and_true]at hw
 subst hw
 refine aa.dH (b:=2) (Br.dec (fun hlt=>?_) (fun hlt=>?_))
 ·refine Nil.ptr ?_
  refine Ld.f ?_
  refine Build.mk (cs:=[.int .i64 (-1),u32 j,u32 j]) (by kernel_rfl) ?_
  refine Build.mk (cs:=(nE.mk (-1) j j true 255).row) (by kernel_rfl) ?_
  refine aq.one (z:=.agg #[.int .i64 0,.int .u32 0,.int .u32 0,.bool false,.int .u8 0]) (e:=291) (k:=5) (by kernel_rfl) (by kernel_rfl) (by kernel_rfl) (by decide) rfl fun bx=>?_
  have e1:∀x y:Nat×Obj,x::y::Cl=[x,y]++(Cl++[]):=fun x y=>by simp
  rw[e1]
  refine hs.Ce (A:=[_,_]) (B:=[]) (r:=(nE.mk (-1) j j true 255).row) (by exact .head _) rfl (row_one _) (by exact⟨[.int .i64 0,.int .u32 0,.int .u32 0,.bool false,.int .u8 0],rfl,rfl⟩) (by simp;omega) (by simp;omega) fun v' C' hs'=>?_
  simp only[List.cons_append,List.nil_append,List.append_nil]
  have hone:v'.oneCell'=true:=by obtain⟨a,c,e⟩:=hs'.len;rw[e];rfl
  refine Nil.ptr (ag.mk ?_)
  refine St.one (by exact .tail (.head _)) hone (by simp) rfl ?_
  refine aa.inc ?_
  refine aB.of .tail ⟨j+1,v',C',rfl,by omega,rfl,?_⟩ (by show 2-(((j+1:Nat):Int).toNat)<2-(((j:Nat):Int).toNat);omega)
  rw[List.range_succ,List.map_append];exact hs'
 ·obtain rfl:j=2:=by omega
  refine aS.here ⟨pa,rfl,vl,_,[⟨-1,0,0,true,255⟩,⟨-1,1,1,true,255⟩],[],Cl,[],by rw[List.append_nil];rfl,hs,aK.nil,?_⟩
  exact {
   cap:=by simp;omega
   two:=by simp
   const:=fun r hr=>by
    have:r=0∨r=1:=by omega
    rcases this with rfl|rfl
    ·exact⟨_,rfl,rfl,rfl,rfl,rfl⟩
    ·exact⟨_,rfl,rfl,rfl,rfl,rfl⟩
   nd:=fun r hr=>by rw[List.getElem?_eq_none (by simp;omega)];rfl
   n0:=fun _ _=>rfl
   nn:=fun r p hr hp _=>by rw[List.getElem?_eq_none (by simp;omega)]at hp;cases hp
   Nm:=by simp
   oz:=fun r=>by
    simp only[List.not_mem_nil,false_iff,not_exists,not_and]
    intro p hp
    have hlt:=(List.getElem?_eq_some_iff.1 hp).1
    simp at hlt
    have:r=0∨r=1:=by omega
    rcases this with rfl|rfl<;>(simp at hp;subst hp;simp)
   used:=rfl}
structure rG where
 pa:Nat
 pt:Nat
 vu:Value
 vh:Value
 vo:Value
 vl:Value
 vt:Value
 CA:Hp
 CT:Hp
 CU:Hp
 CH:Hp
 CO:Hp
 CL:Hp
 CR:Hp
def rG.cells(b:rG)(n:Nat):Array Value:=#[ptr b.pa,ptr b.pt,b.vu,b.vh,.int .i64 (n:Int),b.vo,b.vl,b.vt]
def rG.hp(b:rG)(kp n:Nat):Hp:=(kp,.cells (b.cells n) 117 (0,0))::(b.CA++(b.CT++(b.CU++(b.CH++(b.CO++(b.CL++b.CR))))))
structure S9(b:rG)(K:Kd)(ord ah tr:List Nat):Prop where
 ar:gC b.pa K.cap K.used K.N b.CA
 ut:mH b.pt K.n K.T b.CT
 us:aK 21 .i32 b.vu (iw K.us) b.CU
 ho:aK 21 .i32 b.vh (iw K.ho) b.CH
 od:aK 3 .i64 b.vo (iw ord) b.CO
 lv:aK 3 .i64 b.vl (iw ah) b.CL
 tr:aK 3 .i64 b.vt (iw tr) b.CR
 ul:K.us.length=K.ho.length∧K.us.length≤1048576
 oK:K.n≤64
 ol:ord.length=K.n∧ah.length=K.n
def cr(kp:Nat)(K:Kd)(ord ah tr:List Nat)(C:Hp):Prop:=∃b:rG,C=b.hp kp K.n∧S9 b K ord ah tr
section
variable {kp:Nat} {K:Kd} {ord ah tr:List Nat} {C:Hp}
theorem cr.cap(h:cr kp K ord ah tr C):K.cap≤1048576:=by
 obtain⟨b,rfl,hb⟩:=h
 exact(hb.ar.lt (r:=0) (.inl (by decide))).2
theorem cr.lt(h:cr kp K ord ah tr C){r:Nat}(hr:live K.N r):r<1048576:=by
 obtain⟨b,rfl,hb⟩:=h
 have:=hb.ar.lt hr
 omega
theorem aH(N:dQ)(r:Nat):(got N r).length=3∧∀x∈got N r,x.oneCell'=true:=by
 unfold got
 split
 ·exact⟨rfl,by intro x hx;simp[u32]at hx;rcases hx with rfl|rfl|rfl<;>rfl⟩
 ·split
  ·exact⟨rfl,by intro x hx;simp[bt,u32]at hx;rcases hx with rfl|rfl|rfl<;>rfl⟩
  ·exact⟨rfl,by intro x hx;simp[u32]at hx;rcases hx with rfl|rfl|rfl<;>rfl⟩
theorem l8(h:cr kp K ord ah tr C){r:Nat}(hr:r<4294967296):Rd Tryz.prog 173 #[ptr kp,u32 r] C (· =.bool (fA K.N r)):=by
 obtain⟨b,rfl,hb⟩:=h
 refine aR fun g=>Ep ?_
 refine Nil.ptr ?_
 refine Ld.f ?_
 refine ae.eq (LZ hb.ar hr) ?_
 refine Ext.two ?_
 intro b8 _
 refine St.whole (r:=got K.N r) (by exact .head _) rfl (aH _ _).1 (aH _ _).2 ?_
 refine aa.gA ?_
 refine bN.mk .tail ?_
 cases fA K.N r<;>rfl
theorem l7(h:cr kp K ord ah tr C){r:Nat}(hr:r<4294967296):Rd Tryz.prog 174 #[ptr kp,u32 r] C (· =.agg (got K.N r).toArray):=by
 obtain⟨b,rfl,hb⟩:=h
 refine aR fun g=>Eo ?_
 intro b1 _
 refine Nil.ptr ?_
 refine Ld.f ?_
 refine ae.eq (LZ hb.ar hr) ?_
 refine Ext.two ?_
 intro b10 _
 refine St.whole (r:=got K.N r) (by exact .head _) rfl (aH _ _).1 (aH _ _).2 ?_
 refine av.whole (r:=got K.N r) (by exact .head _) (aH _ _).1 ?_
 refine St.whole (r:=got K.N r) (by exact .tail (.head _)) rfl (aH _ _).1 (aH _ _).2 ?_
 refine av.whole (r:=got K.N r) (by exact .tail _ (.head _)) (aH _ _).1 ?_
 exact bN.mk (.skip .tail) rfl
theorem y7(h:cr kp K ord ah tr C){m:Nat}(hm:m≤1099511627776)(hu:K.used≤1048576):Rd Tryz.prog 135 #[ptr kp,.int .i64 (m:Int)] C (· =.bool (decide (K.used+m≤K.cap))):=by
 obtain⟨b,rfl,hb⟩:=h
 refine aR fun g=>ER ?_
 refine DR.self ?_
 refine Nil.ptr ?_
 refine Ld.f ?_
 refine Nil.ptr ?_
 refine Ld.f ?_
 refine ae.eq (Af hb.ar) ?_
 refine⟨.refl _,?_⟩
 refine aa.dx ?_
 refine ae.eq (tD hb.ar) ?_
 refine⟨.refl _,?_⟩
 refine aa.y4 ?_
 exact bN.mk (.refl _) rfl
def qG(K:Kd)(r:Nat):List Nat:=if r<2 then K.us else K.us.set r (K.use r+1)
theorem gS(r:Nat):(qG K r).length=K.us.length:=by unfold qG;split<;>simp
theorem lg{r:Nat}(h2:2≤r)(hr:r<K.us.length):(qG K r).getD r 0=K.use r+1:=by
 unfold qG;rw[if_neg (by omega)];simp[List.getD,hr]
theorem r6{r s:Nat}(h:s≠r):(qG K r).getD s 0=K.use s:=by
 unfold qG Kd.use
 split
 ·rfl
 ·simp[List.getD,List.getElem?_set_ne (Ne.symm h)]
theorem AV(h:cr kp K ord ah tr C){r:Nat}(hr:r<2∨r<K.us.length)(hb:K.use r+1<2147483648):
  Fc Tryz.prog 139 #[ptr kp,u32 r] C (fun v C'=>v=.tuple #[]∧cr kp {K with us:=qG K r} ord ah tr C'):=by
 obtain⟨b,rfl,hO⟩:=h
 refine aR fun g=>EN ?_
 refine aa.iU (b:=1) (Br.dec (fun h1=>?_) (fun h1=>?_))
 ·have hr':r<K.us.length:=by omega
  refine Nil.ptr ?_
  refine Ld.f ?_
  refine hO.us.ld (x:=((K.use r:Nat):Int)) (aX hr') (aZ.sub (.cons (.app (.app .left)))) ?_
  refine aa.inc ?_
  refine hO.us.ja (.cons (.app (.app .left))) (by simpa using hr') fun C' ho=>?_
  refine aS.here ⟨rfl,{b with CU:=C'},rfl,?_⟩
  have e:qG K r=K.us.set r (K.use r+1):=by unfold qG;rw[if_neg (by omega)]
  exact {hO with us:=by rw[eJ]at ho;rw[e];exact ho,ul:=by simp only[e,List.length_set];exact hO.ul}
 ·refine aS.here ⟨rfl,b,rfl,?_⟩
  have e:qG K r=K.us:=by unfold qG;rw[if_pos (by omega)]
  rw[e];exact hO
end
section
variable {kp:Nat} {K:Kd} {ord ah tr:List Nat} {C:Hp}
theorem fN{l:List Nat}{r s x:Nat}(hr:r<l.length):(l.set r x).getD s 0=if s=r then x else l.getD s 0:=by
 simp only[List.getD,List.getElem?_set]
 by_cases e:r=s
 ·subst e;simp[hr]
 ·rw[if_neg e,if_neg (Ne.symm e)]
theorem th(l:List Nat)(s:Nat):(l++[0]).getD s 0=l.getD s 0:=by
 simp only[List.getD,List.getElem?_append]
 split
 ·rfl
 ·rename_i h
  rw[List.getElem?_eq_none (by omega:l.length≤s)]
  cases hs:s-l.length<;>simp[hs]
def Jx:Hp→Nat
 |_::(_,Obj.cells c _ _)::_=>(match c[2]? with|some (Value.slice _ n _)=>n|_=>0)
 |_=>0
theorem yj{b:rG}{x:Nat×Obj}{n m:Nat}{a:Option Addr}{cp:Nat}(h:b.vu=.slice a m cp):Jx (x::b.hp kp n)=m:=by simp[Jx,rG.hp,rG.cells,h]
theorem Fv(h:cr kp K ord ah tr C){d:Nd}(hd:Wl K.N d)(hv:d.v<K.n)(hT:K.T d=none)(hroom:K.used<K.cap)(hlo:d.lo<2∨d.lo<K.us.length)(hhi:d.hi<2∨d.hi<K.us.length)
 (hb:∀s,K.use s+2<2147483648):
  Fc Tryz.prog 207 #[ptr kp,nK d] C (fun v C'=>∃r cT cj,v=u32 r∧K.N r=none∧2≤r∧r<K.cap∧cT.length=cj.length∧r<cT.length∧K.us.length≤cT.length∧cT.getD r 0=0∧
   (∀s,2≤s→s≠r→cT.getD s 0=K.use s+e1 (some d) s)∧(∀s,s<2→cT.getD s 0=K.use s)∧cj.getD r 0=0∧(∀s,s≠r→cj.getD s 0=K.hold s)∧
   cr kp {K with N:=up K.N r (some d),T:=oJ K.T d (some r),used:=K.used+1,us:=cT,ho:=cj} ord ah tr C'):=by
 have hcap:=h.cap
 obtain⟨b,rfl,hO⟩:=h
 have HF:=hO.ul
 refine aR fun g=>D1 ?_
 intro b1 _
 refine DR.of (R:=(b1,.cells (Value.cells (nK d)) 161 (0,0))::(kp,.cells (b.cells K.n) 117 (0,0))::[]) (.cons (.cons .nil)) ?_
 refine Nil.ptr ?_
 refine Ld.f ?_
 refine av.q ?_
 refine ae.fq (MH hO.ar hd hroom) ?_
 rintro v Wt ⟨r,rfl,h2,hrc,hN,Vv⟩
 refine⟨.cons (.cons .nil),Ext.mk rfl (Ext.mk rfl ?_)⟩
 refine⟨fun _ H=>∃(b':rG) (cT cj:List Nat),H=(b1,.cells (Value.cells (nK d)) 161 (0,0))::b'.hp kp K.n∧S9 b' {K with N:=up K.N r (some d),used:=K.used+1,us:=cT,ho:=cj} ord ah tr∧
   K.us.length≤cT.length∧(∀s,cT.getD s 0=K.use s)∧∀s,cj.getD s 0=K.hold s,
  fun _ H=>r+1-Jx H,JE.mk ⟨{b with CA:=Wt},K.us,K.ho,rfl,{hO with ar:=Vv,ul:=HF},Nat.le_refl _,fun _=>rfl,fun _=>rfl⟩,?_⟩
 rintro H ⟨b',cT,cj,rfl,uK,hle,hu,hh⟩ gs
 have UB:=uK.ul
 simp only at UB
 refine aQ.q (Nil.ptr ?_)
 refine Ld.f ?_
 refine uK.us.bc ?_
 rw[ai]
 refine aa.qT (Br.dec (fun hge=>?_) (fun hge=>?_))
 ·have hge:cT.length≤r:=hge
  refine Nil.ptr ?_
  refine Ld.f ?_
  refine aq.int (e:=21) (by kernel_rfl) (by kernel_rfl) (by kernel_rfl) fun bx=>?_
  refine uK.us.pN (.cons (.cons (.cons (.app (.app .left))))) (by exact .head _) (by simp;omega) (by simp;omega) fun ZS Nq xp=>?_
  refine Nil.ptr (ag.mk ?_)
  refine St.one (by exact .tail (.tail (.head _))) xp.one (by simp[rG.cells]) rfl ?_
  refine Nil.ptr ?_
  refine Ld.f ?_
  refine aq.int (e:=21) (by kernel_rfl) (by kernel_rfl) (by kernel_rfl) fun by'=>?_
  refine uK.ho.pN (.cons (.cons (.cons (.cons (.app (.app (.app .left))))))) (by exact .head _) (by simp;omega) (by simp;omega) fun ZU MU oM=>?_
  refine Nil.ptr (ag.mk ?_)
  refine St.one (by exact .tail (.tail (.tail (.head _)))) oM.one (by simp[rG.cells]) rfl ?_
  have e0:∀l:List Nat,iw l++[0]=iw (l++[0]):=fun l=>by rw[bP];rfl
  rw[e0]at xp oM
  refine aB.of (.skip (.skip (.refl _))) ⟨{b' with vu:=ZS,vh:=ZU,CU:=Nq,CH:=MU},cT++[0],cj++[0],rfl,{uK with us:=xp,ho:=oM,ul:=by simp at UB⊢;omega},by simp;omega,fun s=>by rw[th,hu],fun s=>by rw[th,hh]⟩ ?_
  obtain⟨a1,c1,e1⟩:=aO.len uK.us
  obtain⟨a2,c2,e2⟩:=aO.len xp
  have f1:=yj (b:=b') (x:=(b1,.cells (Value.cells (nK d)) 161 (0,0))) (kp:=kp) (n:=K.n) e1
  have f2:=yj (b:={b' with vu:=ZS,vh:=ZU,CU:=Nq,CH:=MU}) (x:=(b1,.cells (Value.cells (nK d)) 161 (0,0))) (kp:=kp) (n:=K.n) e2
  rw[f1]
  refine Nat.lt_of_le_of_lt (Nat.le_of_eq (congrArg (fun z=>r+1-z) f2)) ?_
  simp
  omega
 ·have hge:¬cT.length≤r:=hge
  have BB:r<cT.length:=by omega
  have ry:r<cj.length:=by omega
  refine DR.of (R:=(kp,.cells (b'.cells K.n) 117 (0,0))::[]) (.skip (.cons .nil)) ?_
  refine Nil.ptr ?_
  refine Ld.f ?_
  refine Nil.ptr ?_
  refine Ld.f ?_
  refine uK.us.ja (x:=0) (.cons (.cons (.app (.app .left)))) (by simpa using BB) fun Nq xp=>?_
  refine uK.ho.ja (x:=0) (.cons (.cons (.app (.app (.app .left))))) (by simpa using ry) fun MU oM=>?_
  have e0:∀l:List Nat,(iw l).set r 0=iw (l.set r 0):=fun l=>eJ l r 0
  rw[e0]at xp oM
  have lor:d.lo≠r:=e9 hd.lo h2 hN
  have hir:d.hi≠r:=e9 hd.hi h2 hN
  refine Ld.f ?_
  have u0:∀s,(cT.set r 0).getD s 0=if s=r then 0 else K.use s:=fun s=>by rw[fN BB];split;rfl;exact hu s
  have h0:∀s,(cj.set r 0).getD s 0=if s=r then 0 else K.hold s:=fun s=>by rw[fN ry];split;rfl;exact hh s
  have fe:cr kp {K with N:=up K.N r (some d),used:=K.used+1,us:=cT.set r 0,ho:=cj.set r 0} ord ah tr (({b' with CU:=Nq,CH:=MU}:rG).hp kp K.n):=⟨_,rfl,{uK with us:=xp,ho:=oM,ul:=by simp;omega}⟩
  refine ae.fq (AV fe (by simp;omega) (by have:=hb d.lo;show(cT.set r 0).getD d.lo 0+1<_;rw[u0,if_neg lor];omega)) ?_
  rintro v C1 ⟨rfl,dB⟩
  refine Ld.f ?_
  have u1:∀s,(qG {K with N:=up K.N r (some d),used:=K.used+1,us:=cT.set r 0,ho:=cj.set r 0} d.lo).getD s 0=(if s=r then 0 else K.use s)+(if 2≤s∧s=d.lo then 1 else 0):=fun s=>by
   by_cases e:s=d.lo
   ·by_cases h2:2≤s
    ·rw[if_pos (show 2≤s∧s=d.lo from⟨h2,e⟩),e,lg (by omega) (by simp;omega)]
     show(cT.set r 0).getD d.lo 0+1=_
     rw[u0]
    ·rw[if_neg (show¬(2≤s∧s=d.lo)by omega)]
     unfold qG
     rw[if_pos (by omega)]
     show(cT.set r 0).getD s 0=_
     rw[u0];rfl
   ·rw[if_neg (show¬(2≤s∧s=d.lo)by omega),r6 e]
    show(cT.set r 0).getD s 0=_
    rw[u0];rfl
  refine ae.fq (AV dB (by rw[gS];simp;omega) (by
   have:=hb d.hi
   show(qG _ d.lo).getD d.hi 0+1<_
   rw[u1,if_neg hir];split<;>omega)) ?_
  rintro v C2 ⟨rfl,nA⟩
  have ad2:=nA
  obtain⟨b3,rfl,hO3⟩:=nA
  refine DR.self ?_
  refine Nil.ptr ?_
  refine Ld.f ?_
  refine av.q ?_
  refine ae.fq (Fq hO3.ut hv hT) ?_
  rintro v Tg ⟨rfl,RQ⟩
  have u2:∀s,(qG {K with N:=up K.N r (some d),used:=K.used+1,us:=qG {K with N:=up K.N r (some d),used:=K.used+1,us:=cT.set r 0,ho:=cj.set r 0} d.lo,ho:=cj.set r 0} d.hi).getD s 0=(if s=r then 0 else K.use s)+(if 2≤s∧s=d.lo then 1 else 0)+(if 2≤s∧s=d.hi then 1 else 0):=fun s=>by
   by_cases e:s=d.hi
   ·by_cases h2:2≤s
    ·rw[if_pos (show 2≤s∧s=d.hi from⟨h2,e⟩),e,lg (by omega) (by rw[gS];simp;omega)]
     show(qG _ d.lo).getD d.hi 0+1=_
     rw[u1]
    ·rw[if_neg (show¬(2≤s∧s=d.hi)by omega)]
     unfold qG
     rw[if_pos (by omega)]
     show(qG _ d.lo).getD s 0=_
     rw[u1];rfl
   ·rw[if_neg (show¬(2≤s∧s=d.hi)by omega),r6 e]
    show(qG _ d.lo).getD s 0=_
    rw[u1];rfl
  refine aS.mk .tail ⟨r,_,_,rfl,hN,h2,hrc,?_,?_,?_,?_,?_,?_,?_,?_,{b3 with CT:=Tg},rfl,{hO3 with ut:=RQ}⟩
  ·rw[gS,gS];simp;omega
  ·rw[gS,gS];simp;omega
  ·rw[gS,gS];simp;omega
  ·rw[u2,if_pos rfl,if_neg (show¬(2≤r∧r=d.lo)by omega),if_neg (show¬(2≤r∧r=d.hi)by omega)]
  ·intro s TO hne
   rw[u2,if_neg hne,dD]
   have c1:(2≤s∧s=d.lo)↔d.lo=s:=⟨fun h=>h.2.symm,fun h=>⟨TO,h.symm⟩⟩
   have c2:(2≤s∧s=d.hi)↔d.hi=s:=⟨fun h=>h.2.symm,fun h=>⟨TO,h.symm⟩⟩
   simp only[c1,c2]
   omega
  ·intro s hs
   rw[u2,if_neg (show¬s=r by omega),if_neg (show¬(2≤s∧s=d.lo)by omega),if_neg (show¬(2≤s∧s=d.hi)by omega)]
   try simp
  ·rw[h0,if_pos rfl]
  ·intro s hne;rw[h0,if_neg hne]
end
section
variable {kp:Nat} {K:Kd} {ord ah tr:List Nat} {C:Hp} {S:Nat→aC.Fn}
theorem Pc(B:Hp)(v:Int)(r:Nat)(kv:Value):Rd Tryz.prog 138 #[kv,.int .i64 v,u32 r,u32 r] B (· =u32 r):=by
 refine aR fun g=>oG ?_
 exact aa.cE (Br.T (bN.mk (.refl _) rfl))
theorem Pe(h:cr kp K ord ah tr C){v lo hi r:Nat}(hne:lo≠hi)(hv:v<K.n)(hT:K.T ⟨v,lo,hi⟩=some r):
  Rd Tryz.prog 138 #[ptr kp,.int .i64 (v:Int),u32 lo,u32 hi] C (· =u32 r):=by
 obtain⟨b,rfl,hO⟩:=h
 refine aR fun g=>oG ?_
 refine aa.cE (Br.Md hne ?_)
 refine Build.mk (cs:=bt ⟨v,lo,hi⟩) (by kernel_rfl) ?_
 intro b3 _
 refine St.p (fun x hx=>by simp[bt,u32]at hx;rcases hx with rfl|rfl|rfl<;>rfl) ?_
 refine DR.self ?_
 refine Nil.ptr ?_
 refine Ld.f ?_
 refine av.q ?_
 refine ae.eq (rP (d:=⟨v,lo,hi⟩) hO.ut hv) ?_
 rw[hT]
 exact⟨.refl _,Ext.mk rfl (Ext.mk rfl (Br.yes (bN.mk .tail rfl)))⟩
theorem Pd(h:cr kp K ord ah tr C){d:Nd}(hne:d.lo≠d.hi)(hd:Wl K.N d)(hv:d.v<K.n)(hT:K.T d=none)(hroom:K.used<K.cap)(hlo:d.lo<2∨d.lo<K.us.length)(hhi:d.hi<2∨d.hi<K.us.length)
 (hb:∀s,K.use s+2<2147483648):
  Fc Tryz.prog 138 #[ptr kp,.int .i64 (d.v:Int),u32 d.lo,u32 d.hi] C (fun v C'=>∃r cT cj,v=u32 r∧K.N r=none∧2≤r∧r<K.cap∧cT.length=cj.length∧r<cT.length∧K.us.length≤cT.length∧cT.getD r 0=0∧
   (∀s,2≤s→s≠r→cT.getD s 0=K.use s+e1 (some d) s)∧(∀s,s<2→cT.getD s 0=K.use s)∧cj.getD r 0=0∧(∀s,s≠r→cj.getD s 0=K.hold s)∧
   cr kp {K with N:=up K.N r (some d),T:=oJ K.T d (some r),used:=K.used+1,us:=cT,ho:=cj} ord ah tr C'):=by
 have h0:=h
 obtain⟨b,rfl,hO⟩:=h
 refine aR fun g=>oG ?_
 refine aa.cE (Br.Md hne ?_)
 refine Build.mk (cs:=bt d) (by kernel_rfl) ?_
 intro b3 _
 refine St.p (fun x hx=>by simp[bt,u32]at hx;rcases hx with rfl|rfl|rfl<;>rfl) ?_
 refine DR.self ?_
 refine Nil.ptr ?_
 refine Ld.f ?_
 refine av.q ?_
 refine ae.eq (rP (d:=d) hO.ut hv) ?_
 rw[hT]
 refine⟨.refl _,Ext.mk rfl (Ext.mk rfl (Br.no ?_))⟩
 refine av.q ?_
 refine ae.fq (Fv h0 hd hv hT hroom hlo hhi hb) ?_
 rintro v C' ⟨r,cT,cj,rfl,hh⟩
 exact aS.mk .tail ⟨r,cT,cj,rfl,hh⟩
structure uR(K' K:Kd):Prop where
 N:∀{s d},K'.N s=some d→K.N s=some d
 n:K'.n=K.n
 cap:K'.cap=K.cap
 ho:K'.ho=K.ho
 us:∀s,K'.use s≤K.use s
 idle:(∀s,K.N s=none→K.use s=0)→∀s,K'.N s=none→K'.use s=0
theorem uR.refl(K:Kd):uR K K:=⟨fun h=>h,rfl,rfl,rfl,fun _=>Nat.le_refl _,fun h=>h⟩
theorem uR.trans{A B C:Kd}(h:uR A B)(h':uR B C):uR A C:=⟨fun x=>h'.N (h.N x),h.n.trans h'.n,h.cap.trans h'.cap,h.ho.trans h'.ho,fun s=>Nat.le_trans (h.us s) (h'.us s),fun hi=>h.idle (h'.idle hi)⟩
def PL(P:Nat→Nat)(N:dQ):Prop:=∀t,2≤t→0<P t→∃d,N t=some d
def fP(P0:Nat→Nat)(l:List Nat):Nat→Nat:=fun s=>P0 s+l.count s
theorem Ic{P0:Nat→Nat}{l:List Nat}{t:Nat}:up (fP P0 (l++[t])) t (fP P0 (l++[t]) t-1)=fP P0 l:=by
 funext s
 unfold up fP
 split
 ·rename_i e;subst e;simp
 ·rename_i e;simp[List.count_append,List.count_singleton,Ne.symm e]
theorem kf{P0:Nat→Nat}(h:cr kp K ord ah tr C){r:Nat}(hm:ig K S gv (fP P0 [r]))(hp:Pos K)(hl:PL (fP P0 [r]) K.N)(hr:r<1048576)(hbu:∀s,K.use s<2147483648):
  Fc Tryz.prog 142 #[ptr kp,u32 r] C (fun v C'=>v=.tuple #[]∧∃K',cr kp K' ord ah tr C'∧ig K' S gv P0∧Pos K'∧PL P0 K'.N∧uR K' K):=by
 refine aR fun g=>EK ?_
 refine aq.int (e:=77) (by kernel_rfl) (by kernel_rfl) (by kernel_rfl) fun bx=>?_
 refine Uo (fun k vs H=>∃(w:Value) (Ct C':Hp) (todo:List Nat) (K':Kd),vs=[w]∧H=Ct++C'∧aK 77 .u32 w (iw todo) Ct∧cr kp K' ord ah tr C'∧ig K' S gv (fP P0 todo)∧Pos K'∧PL (fP P0 todo) K'.N∧uR K' K∧(∀t∈todo,t<1048576)∧k=3*K'.used+todo.length∧k≤3*K.used+1)
  _ ⟨_,[_],C,[r],K,rfl,rfl,aK.made [(r:Int)],h,hm,hp,hl,.refl K,by simpa using hr,rfl,by simp⟩ ?_
 rintro w H hJ gs
 obtain⟨k,⟨w',Ct,C',todo,K',hw,rfl,ht,hK,hM,LN,Jg,nN,hT,hk,hkb⟩,hkm⟩:=hJ.open
 simp only[List.cons.injEq,and_true]at hw
 subst hw
 refine ht.bc ?_
 rw[ai]
 refine aa.iU (b:=0) (Br.dec (fun hpos=>?_) (fun hpos=>?_))
 ·have YI:=hm.cap
  obtain⟨pre,t,rfl⟩:∃pre t,todo=pre++[t]:=⟨todo.dropLast,todo.getLast (by intro e;simp[e]at hpos),(List.dropLast_concat_getLast _).symm⟩
  have htl:(pre++[t]).length=pre.length+1:=by simp
  have Ql:=hT t (by simp)
  refine ht.bc ?_
  rw[ai,htl]
  refine aa.ux (b:=1) ?_ (by omega) ?_
  ·simp[bA];omega
  rw[Nat.add_sub_cancel]
  refine ht.ld (i:=pre.length) (x:=(t:Int)) (by rw[bP];simp[iw]) (aZ.sub .left) ?_
  refine ht.cut (i:=pre.length) (by simp) fun w' ht'=>?_
  have M8:aK 77 .u32 w' (iw pre) Ct:=by
   rw[bP,List.take_left' (by simp)]at ht';exact ht'
  have YR:∀s∈pre,s<1048576:=fun s hs=>hT s (List.mem_append_left _ hs)
  refine aa.y4 (b:=1) (Br.dec (fun h1=>?_) (fun h1=>?_))
  ·have hc:∀s,2≤s→fP P0 (pre++[t]) s=fP P0 pre s:=fun s hs=>by
    unfold fP;rw[List.count_append,List.count_singleton];simp;omega
   exact mI.back (.refl _) hkm (3*K'.used+pre.length) ⟨w',Ct,C',pre,K',rfl,rfl,M8,hK,hM.congr (fun _=>Iff.rfl) hc,LN,fun s hs h0=>Jg s hs (by rw[hc s hs];exact h0),nN,YR,rfl,by simp at hk;omega⟩ (by rw[hk];simp)
  ·have hPt:0<fP P0 (pre++[t]) t:=by unfold fP;simp;omega
   obtain⟨d,hd⟩:=Jg t (by omega) hPt
   have hfit:=hM.fit hd
   have R2:=LN t d hd
   obtain⟨b,rfl,hO⟩:=hK
   refine Nil.ptr ?_
   refine Ld.f ?_
   refine hO.us.ld (x:=((K'.use t:Nat):Int)) (aX hfit) (aZ.sub (.app (.cons (.app (.app .left))))) ?_
   refine aa.ux (b:=1) ?_ (by omega) ?_
   ·have:=nN.us t
    have:=hbu t
    simp[bA];omega
   refine hO.us.ja (x:=((K'.use t-1:Nat):Int)) (.app (.cons (.app (.app .left)))) (by simpa using hfit) fun Nq xp=>?_
   rw[eJ]at xp
   have g1:∀s,(K'.us.set t (K'.use t-1)).getD s 0=if s=t then K'.use t-1 else K'.use s:=fun s=>fN hfit
   have HQ:=hM.less (r:=t) (cT:=K'.us.set t (K'.use t-1)) hPt (by simp) (by rw[g1,if_pos rfl];omega) (fun s hs=>by rw[g1,if_neg hs])
   rw[Ic]at HQ
   have QK:S9 {b with CU:=Nq} {K' with us:=K'.us.set t (K'.use t-1)} ord ah tr:={hO with us:=xp,ul:=by simp;exact hO.ul}
   have LO:uR {K' with us:=K'.us.set t (K'.use t-1)} K:=⟨nN.N,nN.n,nN.cap,nN.ho,fun s=>by
    show(K'.us.set t (K'.use t-1)).getD s 0≤_
    rw[g1]
    have:=nN.us s
    split
    ·rename_i e;subst e;omega
    ·exact this,fun hi s hs=>by
    show(K'.us.set t (K'.use t-1)).getD s 0=0
    have hs':K'.N s=none:=hs
    rw[g1,if_neg (fun e=>by subst e;rw[hd]at hs';cases hs')]
    exact nN.idle hi s hs'⟩
   have VJ:PL (fP P0 pre) K'.N:=fun s hs h0=>Jg s hs (by unfold fP at h0⊢;rw[List.count_append];omega)
   refine Nil.ptr ?_
   refine Ld.f ?_
   refine xp.ld (x:=((K'.use t-1:Nat):Int)) (by rw[←eJ];simp[hfit]) (aZ.sub (.app (.cons (.app (.app .left))))) ?_
   refine aa.iU (b:=0) (Br.dec (fun h3=>?_) (fun h3=>?_))
   ·refine mI.back (.refl _) hkm (3*K'.used+pre.length) ⟨w',Ct,_,pre,_,rfl,rfl,M8,⟨_,rfl,QK⟩,HQ,fun s e hs=>?_,VJ,LO,YR,rfl,by simp at hk;omega⟩ (by rw[hk];simp)
    show 0<(K'.us.set t (K'.use t-1)).getD s 0
    rw[g1]
    split
    ·exact h3
    ·exact LN s e hs
   ·have hu0:K'.use t=1:=by omega
    have fe:cr kp {K' with us:=K'.us.set t (K'.use t-1)} ord ah tr (({b with CU:=Nq}:rG).hp kp K'.n):=⟨_,rfl,QK⟩
    refine ae.eq (l7 fe (by omega)) ?_
    have LS:2≤t:=by omega
    have Yt:got K'.N t=bt d:=c8 hd LS
    show cW _ _ _
    intro b32 _
    rw[Yt]
    refine St.p (fun x hx=>by simp[bt,u32]at hx;rcases hx with rfl|rfl|rfl<;>rfl) ?_
    refine DR.self ?_
    refine Nil.ptr ?_
    refine Ld.f ?_
    refine av.q ?_
    have YT:K'.T d=some t:=(hM.g8 d t).2 ⟨hd,fun h=>h⟩
    refine ae.fq (u4 QK.ut (hM.var hd) YT) ?_
    rintro v Tg ⟨rfl,RQ⟩
    refine Nil.ptr ?_
    refine Ld.f ?_
    refine ae.fq (ML QK.ar ⟨d,hd⟩ LS) ?_
    rintro v Wt ⟨rfl,Vv⟩
    refine Ld.f ?_
    refine Ld.f ?_
    refine aq.KN (e:=77) (by kernel_rfl) (by kernel_rfl) (by kernel_rfl) fun bz=>?_
    refine M8.Ai (.cons (.cons .left)) (cS.block (l:=[(d.lo:Int),(d.hi:Int)]) (by exact .head _) (by simp)) (by simp at hk⊢;omega) (by simp at hk⊢;omega) fun w2 Ct2 OF=>?_
    have e0:iw pre++[(d.lo:Int),(d.hi:Int)]=iw (pre++[d.lo,d.hi]):=by rw[bP];rfl
    rw[e0]at OF
    have WN:({K' with us:=K'.us.set t (K'.use t-1)}:Kd).use t=0:=by show(K'.us.set t (K'.use t-1)).getD t 0=0;rw[g1,if_pos rfl];omega
    have F0:=HQ.free (r:=t) (d:=d) hd (fun h=>h) WN
    have YE:cK K'.N t K'.cap=0:=by have:=HQ.use hd;rw[WN]at this;exact(by have h5:cK K'.N t K'.cap+_+_=0:=this.symm;omega)
    have gg:=iF YE t (hM.two hd).2 d hd
    have YX:fP P0 pre t=0:=by have:=HQ.use hd;rw[WN]at this;omega
    have hroom:0<K'.used:=by have:=hM.room;omega
    have hlt:∀x,live K'.N x→x<1048576:=fun x hx=>fe.lt hx
    have kX:∀s,2≤s→fP P0 pre s+e1 (some d) s=fP P0 (pre++[d.lo,d.hi]) s:=fun s _=>by
     unfold fP
     rw[dD,List.count_append,List.count_cons,List.count_cons,List.count_nil]
     simp only[beq_iff_eq]
     omega
    refine mI.back (.skip (.skip (.refl _))) hkm (3*(K'.used-1)+(pre++[d.lo,d.hi]).length) ⟨w2,Ct2,_,pre++[d.lo,d.hi],{K' with us:=K'.us.set t (K'.use t-1),N:=up K'.N t none,T:=oJ K'.T d none,used:=K'.used-1},rfl,rfl,OF,
     ⟨{b with CU:=Nq,CT:=Tg,CA:=Wt},rfl,{QK with ar:=Vv,ut:=RQ}⟩,F0.congr (fun _=>Iff.rfl) kX,fun s e hs=>?_,fun s hs h0=>?_,⟨fun{s e} hs=>?_,LO.n,LO.cap,LO.ho,LO.us,fun hi s hs=>?_⟩,fun s hs=>?_,rfl,by simp at hk⊢;omega⟩ (by simp at hk⊢;omega)
    ·have hne:s≠t:=fun e2=>by subst e2;have uu:up K'.N s none s=some e:=hs;rw[aI]at uu;cases uu
     show 0<(K'.us.set t (K'.use t-1)).getD s 0
     rw[g1,if_neg hne]
     have uu:up K'.N t none s=some e:=hs
     rw[aL hne]at uu
     exact LN s e uu
    ·have hne:s≠t:=fun e2=>by
      subst e2
      rw[←kX s hs,YX]at h0
      rw[dD,if_neg gg.1,if_neg gg.2]at h0
      omega
     show∃e,up K'.N t none s=some e
     rw[aL hne]
     rw[←kX s hs]at h0
     by_cases h5:0<fP P0 pre s
     ·exact VJ s hs h5
     ·rw[dD]at h0
      have:d.lo=s∨d.hi=s:=by
       by_cases h6:d.lo=s
       ·exact .inl h6
       ·by_cases h7:d.hi=s
        ·exact .inr h7
        ·rw[if_neg h6,if_neg h7]at h0;omega
      rcases this with rfl|rfl
      ·rcases hM.lo hd with h8|h8
       ·omega
       ·exact h8
      ·rcases hM.hi hd with h8|h8
       ·omega
       ·exact h8
    ·have uu:up K'.N t none s=some e:=hs
     by_cases e2:s=t
     ·subst e2;rw[aI]at uu;cases uu
     ·rw[aL e2]at uu;exact nN.N uu
    ·have uu:up K'.N t none s=none:=hs
     show(K'.us.set t (K'.use t-1)).getD s 0=0
     by_cases e2:s=t
     ·subst e2;rw[g1,if_pos rfl];omega
     ·rw[aL e2]at uu
      exact LO.idle hi s uu
    ·rcases List.mem_append.1 hs with hs|hs
     ·exact YR s hs
     ·simp at hs
      rcases hs with rfl|rfl
      ·exact hlt _ (hM.lo hd)
      ·exact hlt _ (hM.hi hd)
 ·obtain rfl:todo=[]:=List.eq_nil_of_length_eq_zero (by omega)
  exact aS.mk .right ⟨rfl,K',hK,hM.congr (fun _=>Iff.rfl) (fun s _=>by simp[fP]),LN,fun s hs h0=>Jg s hs (by simpa[fP]using h0),nN⟩
end
abbrev lv(ah:List Nat):Nat→Nat:=fun v=>ah.getD v 0
section
variable {kp:Nat} {K:Kd} {ord ah tr:List Nat} {C:Hp} {S:Nat→aC.Fn}
theorem rL(h:cr kp K ord ah tr C)(v:Int):Rd Tryz.prog 113 #[ptr kp,.int .i64 v] C (· =.bool (decide (0≤v∧v<K.n))):=by
 obtain⟨b,rfl,hO⟩:=h
 refine aR fun g=>E3 ?_
 refine aa.geq ?_
 refine df.and (decide (v<K.n)) (fun _=>?_) rfl fun _=>bN.mk (.refl _) (by rw[Bool.decide_and])
 refine Nil.ptr ?_
 refine Ld.f ?_
 exact aa.lss ⟨rfl,rfl⟩
theorem vE(h:cr kp K ord ah tr C){r:Nat}(hl:live K.N r)(hv:∀d,K.N r=some d→d.v<K.n)(TP:r<2→K.N r=none):Rd Tryz.prog 257 #[ptr kp,u32 r] C (· =.int .i64 ((dep K.n (lv ah) K.N r:Nat):Int)):=by
 have h0:=h
 have hr:=h.lt hl
 obtain⟨b,rfl,hO⟩:=h
 refine aR fun g=>Dj ?_
 refine Nil.ptr (ag.mk ?_)
 refine ae.eq (l7 h0 (by omega)) ?_
 intro b5 _
 refine St.whole (r:=got K.N r) (by exact .head _) rfl (aH _ _).1 (aH _ _).2 ?_
 by_cases h2:r<2
 ·rw[dJ h2,aW (TP h2)]
  refine Ld.f ?_
  refine aa.geq (Br.Xx (by decide) ?_)
  refine Nil.ptr ?_
  refine Ld.f ?_
  exact bN.mk .tail rfl
 ·obtain⟨d,hd⟩:∃d,K.N r=some d:=by rcases hl with hl|hl;omega;exact hl
  rw[c8 hd (by omega),az hd]
  have nJ:=hv d hd
  have hlen:=hO.ol.2
  refine Ld.f ?_
  refine aa.geq (Br.TY (by simp) ?_)
  refine Nil.ptr ?_
  refine Ld.f ?_
  refine Ld.f ?_
  refine hO.lv.ld (x:=((ah.getD d.v 0:Nat):Int)) (aX (by omega)) (aZ.sub (.cons (.cons (.app (.app (.app (.app (.app .left)))))))) ?_
  exact bN.mk .tail rfl
def qY(K:Kd)(ah:List Nat)(v:Int)(lo hi:Nat):Int:=
 if¬(0≤v∧v<K.n)then 2 else if fA K.N lo=false∨fA K.N hi=false then 3 else if lo≠hi∧min (dep K.n (lv ah) K.N lo) (dep K.n (lv ah) K.N hi)≤ah.getD v.toNat 0 then 4 else 0
theorem Po(h:cr kp K ord ah tr C)(v:Int){lo hi:Nat}(hlo:lo<4294967296)(hhi:hi<4294967296)(hv:∀r d,K.N r=some d→d.v<K.n∧2≤r):
  Rd Tryz.prog 225 #[ptr kp,.int .i64 v,u32 lo,u32 hi] C (· =.int .i64 (qY K ah v lo hi)):=by
 have h0:=h
 have TP:∀r,r<2→K.N r=none:=fun r hr=>by
  cases e:K.N r with
  |none=>rfl
  |some d=>have:=(hv r d e).2;omega
 obtain⟨b,rfl,hO⟩:=h
 refine aR fun g=>DJ ?_
 refine ae.eq (rL h0 v) ?_
 refine Un.not ?_
 by_cases BA:0≤v∧v<K.n
 rotate_left
 ·rw[decide_eq_false BA]
  exact Br.yes (bN.mk (.refl _) (by unfold qY;rw[if_pos BA]))
 rw[decide_eq_true BA]
 refine Br.no ?_
 obtain⟨n,rfl⟩:∃n:Nat,v=n:=⟨v.toNat,by omega⟩
 have hnv:n<K.n:=by omega
 intro J hJ
 refine Nil.ptr (ag.mk ?_)
 refine ae.eq (l8 h0 hlo) ?_
 refine Un.not ?_
 by_cases k7:fA K.N lo=true
 rotate_left
 ·have U2:fA K.N lo=false:=by simpa using k7
  rw[U2]
  exact Split.Kj rfl (ay.mk (JE.mk (hJ _ _ fun gs=>Br.yes (bN.mk (.refl _) (by unfold qY;rw[if_neg (by simpa using BA),if_pos (.inl U2)])))))
 rw[k7]
 refine Split.go rfl ?_
 refine Nil.ptr (ag.mk ?_)
 refine ae.eq (l8 h0 hhi) ?_
 refine Un.not ?_
 by_cases WT:fA K.N hi=true
 rotate_left
 ·have Va:fA K.N hi=false:=by simpa using WT
  rw[Va]
  exact ay.mk (JE.mk (hJ _ _ fun gs=>Br.yes (bN.mk (.refl _) (by unfold qY;rw[if_neg (by simpa using BA),if_pos (.inr Va)]))))
 rw[WT]
 refine ay.mk (JE.mk (hJ _ _ fun gs=>Br.no ?_))
 intro J2 vO
 have hE:qY K ah n lo hi=if lo≠hi∧min (dep K.n (lv ah) K.N lo) (dep K.n (lv ah) K.N hi)≤ah.getD n 0 then 4 else 0:=by
  unfold qY
  rw[if_neg (by simpa using BA),if_neg (by rw[k7,WT];simp)]
  rfl
 refine DR.self ?_
 refine aa.uk ?_
 by_cases hne:lo≠hi
 rotate_left
 ·rw[decide_eq_false hne]
  exact Br.no (JE.mk (vO _ _ fun gs=>Br.no (bN.mk (.refl _) (by rw[hE,if_neg (fun h=>hne h.1)]))))
 rw[decide_eq_true hne]
 refine Br.yes ?_
 refine Nil.ptr ?_
 refine Ld.f ?_
 have hlen:=hO.ol.2
 refine hO.lv.ld (x:=((ah.getD n 0:Nat):Int)) (aX (by omega)) (aZ.sub (.cons (.app (.app (.app (.app (.app .left))))))) ?_
 intro F
 refine ae.eq (vE h0 (bM.1 k7) (fun d hd=>(hv _ _ hd).1) (TP _)) ?_
 refine⟨.refl _,?_⟩
 intro F2
 refine ae.eq (vE h0 (bM.1 WT) (fun d hd=>(hv _ _ hd).1) (TP _)) ?_
 refine⟨.refl _,?_⟩
 refine⟨_,_,_,rfl,rfl,?_⟩
 have hmin:(if((dep K.n (lv ah) K.N hi:Nat):Int)<((dep K.n (lv ah) K.N lo:Nat):Int)then((dep K.n (lv ah) K.N hi:Nat):Int)else((dep K.n (lv ah) K.N lo:Nat):Int))=((min (dep K.n (lv ah) K.N lo) (dep K.n (lv ah) K.N hi):Nat):Int):=by
  split<;>omega
 rw[hmin]
 refine aa.qT ?_
 refine ay.mk ?_
 by_cases hm:min (dep K.n (lv ah) K.N lo) (dep K.n (lv ah) K.N hi)≤ah.getD n 0
 ·rw[decide_eq_true hm]
  exact JE.mk (vO _ _ fun gs=>Br.yes (bN.mk (.refl _) (by rw[hE,if_pos ⟨hne,hm⟩])))
 ·rw[decide_eq_false hm]
  exact JE.mk (vO _ _ fun gs=>Br.no (bN.mk (.refl _) (by rw[hE,if_neg (fun h=>hm h.2)])))
theorem NO(h:cr kp K ord ah tr C){v lo hi:Nat}(hv:v<K.n):
  Rd Tryz.prog 226 #[ptr kp,.int .i64 (v:Int),u32 lo,u32 hi] C (· =if lo=hi then .tuple #[u32 lo,.bool true]else .tuple #[u32 ((K.T ⟨v,lo,hi⟩).getD 0),.bool (K.T ⟨v,lo,hi⟩).isSome]):=by
 obtain⟨b,rfl,hO⟩:=h
 refine aR fun g=>DI ?_
 refine aa.cE (Br.dec (fun he=>bN.mk (.refl _) (by rw[if_pos he])) (fun he=>?_))
 refine Nil.ptr (ag.mk ?_)
 refine Ld.f ?_
 refine Build.mk (cs:=bt ⟨v,lo,hi⟩) (by kernel_rfl) ?_
 refine ae.eq (rP (d:=⟨v,lo,hi⟩) hO.ut hv) ?_
 exact Ext.mk rfl (Ext.mk rfl (bN.mk (.refl _) (by rw[if_neg he];rfl)))
theorem sP(h:cr kp K ord ah tr C){r:Nat}(hr:r<4294967296)(hb:∀s,K.hold s<2147483648):Rd Tryz.prog 95 #[ptr kp,u32 r] C (· =.int .i64 ((K.hold r:Nat):Int)):=by
 obtain⟨b,rfl,hO⟩:=h
 refine aR fun g=>Io ?_
 refine aa.aD ?_
 refine df.or (decide (K.ho.length≤r)) (fun _=>?_) (by simp) fun _=>?_
 ·refine aQ.q (Nil.ptr (ag.mk ?_))
  refine Ld.f ?_
  refine hO.ho.bc ?_
  rw[ai]
  exact aa.qT ⟨rfl,rfl⟩
 ·rw[Bool.false_or]
  refine Br.dec (fun hge=>?_) (fun hlt=>?_)
  ·refine bN.mk (.refl _) ?_
   unfold Kd.hold;rw[List.getD,List.getElem?_eq_none hge];rfl
  ·refine Nil.ptr (ag.mk ?_)
   refine Ld.f ?_
   refine hO.ho.ld (x:=((K.hold r:Nat):Int)) (aX (by omega)) (aZ.sub (.cons (.app (.app (.app .left))))) ?_
   refine aQ.nat (by have:=hb r;simp[bA];omega) ?_
   exact bN.mk (.refl _) rfl
theorem rM(h:cr kp K ord ah tr C)(h2:2≤K.used)(hu:K.used≤1048576):Rd Tryz.prog 15 #[ptr kp] C (· =.int .i64 ((K.used-2:Nat):Int)):=by
 obtain⟨b,rfl,hO⟩:=h
 refine aR fun g=>I3 ?_
 refine aa.aD (Br.no (Nil.ptr (ag.mk ?_)))
 refine Ld.f ?_
 refine ae.eq (Af hO.ar) ?_
 refine aa.ux (b:=2) (by simp[bA];omega) h2 ?_
 exact bN.mk (.refl _) rfl
theorem HB(h:cr kp K ord ah tr C):Rd Tryz.prog 34 #[ptr kp] C (· =.int .i64 ((tr.length:Nat):Int)):=by
 obtain⟨b,rfl,hO⟩:=h
 refine aR fun g=>IW ?_
 refine aa.aD (Br.no (Nil.ptr ?_))
 refine Ld.f ?_
 refine hO.tr.bc ?_
 rw[ai]
 exact bN.mk (.refl _) rfl
theorem gy(h:cr kp K ord ah tr C):Rd Tryz.prog 61 #[ptr kp] C (· =.int .i64 ((K.n:Nat):Int)):=by
 obtain⟨b,rfl,hO⟩:=h
 refine aR fun g=>IE ?_
 refine aa.aD (Br.no (Nil.ptr ?_))
 refine Ld.f ?_
 exact bN.mk (.refl _) rfl
theorem fM(h:cr kp K ord ah tr C){r:Nat}(hr:r<4294967296):Rd Tryz.prog 97 #[ptr kp,u32 r] C (· =.tuple #[.agg (got K.N r).toArray,.int .i64 (if fA K.N r then 0 else 3)]):=by
 have h0:=h
 obtain⟨b,rfl,hO⟩:=h
 refine aR fun g=>Im ?_
 intro b1 _
 refine aa.aD (Br.no (Nil.ptr (ag.mk ?_)))
 refine ae.eq (l8 h0 hr) ?_
 refine Un.not ?_
 cases hb:fA K.N r with
 |false=>
  refine Br.yes ?_
  refine Build.mk (cs:=[.int .i64 0,.int .u32 0,.int .u32 0]) (by kernel_rfl) ?_
  refine St.q ?_
  refine av.q ?_
  exact bN.mk .tail (by rw[zE hb];rfl)
 |true=>
  refine Br.no (Nil.ptr (ag.mk ?_))
  refine ae.eq (l7 h0 hr) ?_
  refine St.whole (r:=got K.N r) (by exact .head _) rfl (aH _ _).1 (aH _ _).2 ?_
  refine av.whole (r:=got K.N r) (by exact .head _) (aH _ _).1 ?_
  exact bN.mk .tail rfl
end
theorem tx{B:Hp}{v:Value}{l:List Int}(h:cS .i64 B v l)(hl:l.length≤1099511627776):Fc Tryz.prog 57 #[v] B (fun r H=>∃C,H=C++B∧aK 3 .i64 r l C):=by
 refine aR fun g=>IJ ?_
 obtain⟨a,c,rfl,hc⟩:=h.shape
 refine⟨.bool a.isNone,by simp[eX],?_⟩
 refine Br.mk (fun ha=>?_) (fun ha=>?_)
 ·have:l=[]:=by
   rcases h.2 with⟨_,_,h1,h2⟩|⟨b,o,cap,cs,T,fz,h1,_⟩
   ·simpa using h2
   ·simp at h1;rw[h1.1]at ha;simp at ha
  subst this
  exact aS.here ⟨[],rfl,aK.nil⟩
 ·refine aq.none (z:=.int .i64 0) (e:=3) (k:=1) (by kernel_rfl) (by kernel_rfl) (by kernel_rfl) fun b=>?_
  refine(aK.made (T:=3) (kd:=.i64) (b:=b) []).Ai (l2:=l) .left ((show cS .i64 B _ l from h).mono fun _ h=>.tail _ h) (by simp;omega) (by simp;omega) fun v' C' ho=>?_
  exact aS.here ⟨C',rfl,by simpa using ho⟩
theorem qh{kp:Nat}{K:Kd}{ord ah tr:List Nat}{C:Hp}(h:cr kp K ord ah tr C):Fc Tryz.prog 13 #[ptr kp] C (fun r H=>∃N,H=N++C∧aK 3 .i64 r (iw ord) N):=by
 obtain⟨b,rfl,hO⟩:=h
 refine aR fun g=>I5 ?_
 refine aa.aD (Br.no (Nil.ptr ?_))
 refine Ld.f ?_
 refine ae.fq (tx (hO.od.ints.mono (aZ.sub (.cons (.app (.app (.app (.app .left))))))) (by have:=hO.ol.1;have:=hO.oK;simp;omega)) ?_
 rintro v C' ⟨N,rfl,ho⟩
 exact aS.here ⟨N,rfl,ho⟩
end Go.Proofs
set_option maxRecDepth 100000
namespace Go.Proofs
open Go Go.Sx
def wC(x r:Nat):Prop:=x<2^r∧(r=0∨2^(r-1)≤x)
theorem wC.up{x s t:Nat}(h:wC (x>>>s) t)(h0:s=0∨x>>>s≠0):wC x (s+t):=by
 rw[Nat.shiftRight_eq_div_pow]at h h0
 have hp:=Nat.two_pow_pos s
 refine⟨?_,?_⟩
 ·have:=h.1
  rw[Nat.div_lt_iff_lt_mul hp]at this
  rw[Nat.pow_add,Nat.mul_comm];exact this
 ·rcases h.2 with h2|h2
  ·subst h2
   have:=h.1
   rcases h0 with h0|h0
   ·exact .inl (by omega)
   ·rw[Nat.pow_zero]at this;exact absurd (Nat.lt_one_iff.1 this) h0
  ·by_cases ht:t=0
   ·subst ht
    rcases h0 with h0|h0
    ·exact .inl (by omega)
    ·have:=h.1;rw[Nat.pow_zero]at this;exact absurd (Nat.lt_one_iff.1 this) h0
   ·right
    have:=(Nat.le_div_iff_mul_le hp).1 h2
    rw[show s+t-1=(t-1)+s by omega,Nat.pow_add];exact this
theorem On:∀y:Fin 256,∃b:UInt8,(ByteArray.mk #[0,1,2,2,3,3,3,3,4,4,4,4,4,4,4,4,5,5,5,5,5,5,5,5,5,5,5,5,5,5,5,5,6,6,6,6,6,6,6,6,6,6,6,6,6,6,6,6,6,6,6,6,6,6,6,6,6,6,6,6,6,6,6,6,7,7,7,7,7,7,7,7,7,7,7,7,7,7,7,7,7,7,7,7,7,7,7,7,7,7,7,7,7,7,7,7,7,7,7,7,7,7,7,7,7,7,7,7,7,7,7,7,7,7,7,7,7,7,7,7,7,7,7,7,7,7,7,7,8,8,8,8,8,8,8,8,8,8,8,8,8,8,8,8,8,8,8,8,8,8,8,8,8,8,8,8,8,8,8,8,8,8,8,8,8,8,8,8,8,8,8,8,8,8,8,8,8,8,8,8,8,8,8,8,8,8,8,8,8,8,8,8,8,8,8,8,8,8,8,8,8,8,8,8,8,8,8,8,8,8,8,8,8,8,8,8,8,8,8,8,8,8,8,8,8,8,8,8,8,8,8,8,8,8,8,8,8,8,8,8,8,8,8,8,8,8,8,8,8,8,8,8,8,8,8,8])[y.1]? =some b∧(y.1<2^b.toNat∧(b.toNat=0∨2^(b.toNat-1)≤y.1)):=by
 have h:∀y:Fin 256,(match(ByteArray.mk #[0,1,2,2,3,3,3,3,4,4,4,4,4,4,4,4,5,5,5,5,5,5,5,5,5,5,5,5,5,5,5,5,6,6,6,6,6,6,6,6,6,6,6,6,6,6,6,6,6,6,6,6,6,6,6,6,6,6,6,6,6,6,6,6,7,7,7,7,7,7,7,7,7,7,7,7,7,7,7,7,7,7,7,7,7,7,7,7,7,7,7,7,7,7,7,7,7,7,7,7,7,7,7,7,7,7,7,7,7,7,7,7,7,7,7,7,7,7,7,7,7,7,7,7,7,7,7,7,8,8,8,8,8,8,8,8,8,8,8,8,8,8,8,8,8,8,8,8,8,8,8,8,8,8,8,8,8,8,8,8,8,8,8,8,8,8,8,8,8,8,8,8,8,8,8,8,8,8,8,8,8,8,8,8,8,8,8,8,8,8,8,8,8,8,8,8,8,8,8,8,8,8,8,8,8,8,8,8,8,8,8,8,8,8,8,8,8,8,8,8,8,8,8,8,8,8,8,8,8,8,8,8,8,8,8,8,8,8,8,8,8,8,8,8,8,8,8,8,8,8,8,8,8,8,8,8])[y.1]? with|some b=>decide (y.1<2^b.toNat∧(b.toNat=0∨2^(b.toNat-1)≤y.1))|none=>false)=true:=by decide+kernel
 intro y
 have:=h y
 split at this
 ·rename_i b hb
  exact⟨b,hb,by simpa using this⟩
 ·cases this
theorem KC{x:Nat}(hx:x<18446744073709551616)(B:Hp):Rd Tryz.prog 75 #[.int .u64 (x:Int)] B (fun v=>∃r:Nat,wC x r∧v=.int .i64 (r:Int)):=by
 refine aR fun g=>Is ?_
 intro J1 SK
 have h1:∀s,s≤32→x>>>s<4294967296→(s=0∨x>>>s≠0)→J1 [.int .u64 ((x>>>s:Nat):Int),.int .i64 (s:Int)] B:=by
  intro s hs hlt h0
  refine SK _ _ _ fun gs=>?_
  intro J2 vO
  have h2:∀s,s≤48→x>>>s<65536→(s=0∨x>>>s≠0)→J2 [.int .u64 ((x>>>s:Nat):Int),.int .i64 (s:Int)] B:=by
   intro s hs hlt h0
   refine vO _ _ _ fun gs=>?_
   intro J3 W8
   have h3:∀s,s≤56→x>>>s<256→(s=0∨x>>>s≠0)→J3 [.int .u64 ((x>>>s:Nat):Int),.int .i64 (s:Int)] B:=by
    intro s hs hlt h0
    refine W8 _ _ _ fun gs=>?_
    refine aQ.nat (show x>>>s<256 from hlt) ?_
    obtain⟨b,hb,hl⟩:=On ⟨x>>>s,hlt⟩
    refine⟨_,_,_,b,rfl,rfl,Int.natCast_nonneg _,by rw[Int.toNat_natCast];exact hb,?_⟩
    have Sv:b.toNat<256:=b.toNat_lt
    refine aQ.q ?_
    refine aa.dx ?_
    exact bN.mk (.refl _) ⟨s+b.toNat,wC.up (t:=b.toNat) hl h0,rfl⟩
   refine aa.qT (b:=256) (Br.dec (fun hge=>?_) (fun hge=>JE.mk (h3 s (by omega) (by omega) h0)))
   refine aa.j7 (b:=8) (by simp only[bA];omega) ?_
   refine aa.dx (b:=8) ?_
   rw[←Nat.shiftRight_add]
   have e:x>>>(s+8)=x>>>s/256:=by rw[Nat.shiftRight_add,Nat.shiftRight_eq_div_pow (x>>>s) 8]
   exact JE.mk (h3 (s+8) (by omega) (by omega) (.inr (by omega)))
  refine aa.qT (b:=65536) (Br.dec (fun hge=>?_) (fun hge=>JE.mk (h2 s (by omega) (by omega) h0)))
  refine aa.j7 (b:=16) (by simp only[bA];omega) ?_
  refine aa.dx (b:=16) ?_
  rw[←Nat.shiftRight_add]
  have e:x>>>(s+16)=x>>>s/65536:=by rw[Nat.shiftRight_add,Nat.shiftRight_eq_div_pow (x>>>s) 16]
  exact JE.mk (h2 (s+16) (by omega) (by omega) (.inr (by omega)))
 refine aa.qT (b:=4294967296) (Br.dec (fun hge=>?_) (fun hge=>JE.mk (h1 0 (by omega) (by simp;omega) (.inl rfl))))
 refine aa.j7 (b:=32) (by simp only[bA];exact hx) ?_
 have e:x>>>32=x/4294967296:=by rw[Nat.shiftRight_eq_div_pow]
 exact JE.mk (h1 32 (by omega) (by omega) (.inr (by omega)))
end Go.Proofs
namespace Go.Sx
open Go
section
variable {P:Program} {H C:Hp} {c:Hp→Hp}
theorem aZ.re(h:aZ C H c)(X:Hp):aZ X (c X) c:=by
 induction h with
 |here=>exact .here
 |left=>exact .left
 |cons _ ih=>exact .cons ih
 |app _ ih=>exact .app ih
def Dt(T:TypeId)(kd:IntKind)(v:Value)(l0:List Int)(C:Hp):Prop:=∃l:List Int,l.Perm l0∧aK T kd v l C
theorem swap_perm{l:List Int}{i j:Nat}{x y:Int}(hi:l[i]? =some x)(hj:l[j]? =some y):((l.set i y).set j x).Perm l:=by
 have h1:=(List.getElem?_eq_some_iff.1 hi).1
 have h2:=(List.getElem?_eq_some_iff.1 hj).1
 rw[List.perm_iff_count]
 intro a
 by_cases e:i=j
 ·subst e
  rw[hi]at hj;cases hj
  rw[List.set_set]
  have:l.set i x=l:=by
   have hx:l[i]=x:=by rw[List.getElem?_eq_getElem h1]at hi;exact Option.some.inj hi
   rw[←hx];exact List.set_getElem_self h1
  rw[this]
 ·have hx:l[i]=x:=by rw[List.getElem?_eq_getElem h1]at hi;exact Option.some.inj hi
  have hy:l[j]=y:=by rw[List.getElem?_eq_getElem h2]at hj;exact Option.some.inj hj
  rw[List.count_set (by simpa using h2),List.count_set h1]
  have:(l.set i y)[j]'(by simpa using h2)=y:=by rw[List.getElem_set_ne e];exact hy
  rw[this,hx]
  have c1:l.count x≥1:=List.one_le_count_iff.2 (hx▸List.getElem_mem h1)
  have c2:l.count y≥1:=List.one_le_count_iff.2 (hy▸List.getElem_mem h2)
  by_cases e1:x=a
  ·subst e1
   by_cases e2:y=x
   ·subst e2;simp<;>omega
   ·simp[e2,Ne.symm e2]<;>omega
  ·by_cases e2:y=a
   ·subst e2;simp[e1]<;>omega
   ·simp[e1,e2]<;>omega
theorem Dt.ld{T:TypeId}{kd uE:IntKind}{v:Value}{l0:List Int}(h:Dt T kd v l0 C)(hC:∀y∈C,y∈H){i:Nat}(hi:i<l0.length){K:Value→Prop}(hk:∀x,K (.int kd x)):an 1 v (.int uE (i:Int)) fun p=>Ld H p K:=by
 obtain⟨l,hp,ho⟩:=h
 have:i<l.length:=by rw[hp.length_eq];exact hi
 exact ho.ld (List.getElem?_eq_getElem this) hC (hk _)
theorem Dt.swap{T:TypeId}{kd k1 k2 k3 k4:IntKind}{v:Value}{l0:List Int}(h:Dt T kd v l0 C)(hh:aZ C H c){i j:Nat}(hi:i<l0.length)(hj:j<l0.length){K:Hp→Prop}(hk:∀C',Dt T kd v l0 C'→K (c C')):
  an 1 v (.int k1 (j:Int)) fun p1=>Ld H p1 fun x=>an 1 v (.int k2 (i:Int)) fun p2=>Ld H p2 fun y=>an 1 v (.int k3 (i:Int)) fun p3=>St 1 H p3 x fun H1=>an 1 v (.int k4 (j:Int)) fun p4=>St 1 H1 p4 y K:=by
 obtain⟨l,hp,ho⟩:=h
 have hl:=hp.length_eq
 have hi':l[i]? =some l[i]:=List.getElem?_eq_getElem (by omega)
 have hj':l[j]? =some l[j]:=List.getElem?_eq_getElem (by omega)
 refine ho.ld hj' hh.sub ?_
 refine ho.ld hi' hh.sub ?_
 refine ho.ja hh (by omega) fun C1 h1=>?_
 refine h1.ja (hh.re C1) (by simp;omega) fun C2 h2=>?_
 exact hk C2 ⟨_,(swap_perm hi' hj').trans hp,h2⟩
theorem Dt.T5{T:TypeId}{kd k1 k2 k3 k4:IntKind}{v:Value}{l0:List Int}(h:Dt T kd v l0 C)(hh:aZ C H c){i j:Nat}(hi:i<l0.length)(hj:j<l0.length){B:(Value→Prop)→Prop}
 (hB:∀k:Value→Prop,k (.int k2 (i:Int))→B k){K:Hp→Prop}(hk:∀C',Dt T kd v l0 C'→K (c C')):
  an 1 v (.int k1 (j:Int)) fun p1=>Ld H p1 fun x=>B fun u=>an 1 v u fun p2=>Ld H p2 fun y=>an 1 v (.int k3 (i:Int)) fun p3=>St 1 H p3 x fun H1=>an 1 v (.int k4 (j:Int)) fun p4=>St 1 H1 p4 y K:=by
 obtain⟨l,hp,ho⟩:=h
 have hl:=hp.length_eq
 have hi':l[i]? =some l[i]:=List.getElem?_eq_getElem (by omega)
 have hj':l[j]? =some l[j]:=List.getElem?_eq_getElem (by omega)
 refine ho.ld hj' hh.sub (hB _ ?_)
 refine ho.ld hi' hh.sub ?_
 refine ho.ja hh (by omega) fun C1 h1=>?_
 refine h1.ja (hh.re C1) (by simp;omega) fun C2 h2=>?_
 exact hk C2 ⟨_,(swap_perm hi' hj').trans hp,h2⟩
theorem aK.dt{T:TypeId}{kd:IntKind}{v:Value}{l:List Int}(h:aK T kd v l C):Dt T kd v l C:=⟨l,.refl _,h⟩
def Xo(vs:List Value):Nat:=match vs with
 | .int _ q::_=>(q+1).toNat
 |_=>0
theorem wE{k:IntKind}{q:Int}{r:List Value}:Xo (.int k q::r)=(q+1).toNat:=rfl
end
end Go.Sx
set_option maxRecDepth 100000
namespace Go.Proofs
open Go Go.Sx
abbrev DT(v:Value)(l0:List Int)(C:Hp):Prop:=Dt 77 .u32 v l0 C
def SQ(v:Value)(l0:List Int):Value→Hp→Prop:=fun r C'=>r=.tuple #[]∧DT v l0 C'
section
variable {v:Value} {l0:List Int} {C:Hp}
theorem Rw(x:Int)(B:Hp):Rd Tryz.prog 304 #[.int .u32 x] B (· =.bool false):=by
 refine aR fun g=>Cp ?_
 refine aa.cG ?_
 exact bN.mk (.refl _) (by simp)
theorem dN(x y:Int)(B:Hp):Rd Tryz.prog 295 #[.int .u32 x,.int .u32 y] B (· =.bool (decide (x<y))):=by
 refine aR fun g=>CB ?_
 intro J1 SK
 refine ae.eq (Rw x B) ?_
 refine Split.Kj rfl ?_
 refine ay.mk ?_
 refine aa.lss ?_
 refine ay.mk ?_
 exact JE.mk (SK _ _ fun gs=>bN.mk (.refl _) rfl)
theorem zf(h:DT v l0 C){a b:Nat}(hab:a≤b)(hb:b≤l0.length)(bH:l0.length<1152921504606846976):Fc Tryz.prog 289 #[v,.int .i64 (a:Int),.int .i64 (b:Int)] C (SQ v l0):=by
 refine aR fun g=>CJ ?_
 refine aa.inc ?_
 refine⟨fun vs H=>∃i:Nat,vs=[.int .i64 (i:Int)]∧a<i∧DT v l0 H,fun vs _=>l0.length-br vs 0,JE.mk ⟨a+1,rfl,by omega,h⟩,?_⟩
 rintro w H ⟨i,hw,hi,hd⟩ gs
 simp only[List.cons.injEq,and_true]at hw
 subst hw
 refine aa.dH (Br.dec (fun hlt=>?_) (fun _=>aS.here ⟨rfl,hd⟩))
 refine⟨fun vs H=>∃j:Nat,vs=[.int .i64 (j:Int)]∧a≤j∧j≤i∧DT v l0 H,fun vs _=>br vs 0,JE.mk ⟨i,rfl,by omega,Nat.le_refl _,hd⟩,?_⟩
 rintro w H ⟨j,hw,QG,Sf,hd⟩ gs
 simp only[List.cons.injEq,and_true]at hw
 subst hw
 intro J hJ
 have no:J [.bool false] H:=hJ _ _ fun gs=>Br.no (aa.inc (aB.mk ⟨i+1,rfl,by omega,hd⟩ (by simp[br];omega)))
 have yes:a<j→J [.bool true] H:=fun QG=>hJ _ _ fun gs=>Br.yes (DR.self (aa.bE (b:=1) (aa.bE (b:=1)
  (hd.swap .here (by omega) (by omega) fun C' cN=>aa.bE (b:=1) (aB.mk ⟨j-1,rfl,by omega,by omega,cN⟩ (by simp[br];omega))))))
 refine DR.self (aa.iU (Br.dec (fun hgt=>?_) fun _=>JE.mk no))
 refine hd.ld (fun _ h=>h) (by omega) fun x=>?_
 refine aa.bE (b:=1) ?_
 refine hd.ld (fun _ h=>h) (by omega) fun y=>?_
 intro F
 refine ae.eq (dN x y _) ?_
 refine ay.mk ?_
 by_cases e:x<y
 ·rw[decide_eq_true e];exact JE.mk (yes hgt)
 ·rw[decide_eq_false e];exact JE.mk no
theorem Ri(h:DT v l0 C){a b:Nat}(hab:a<b)(hb:b≤l0.length)(bH:l0.length<1152921504606846976):Fc Tryz.prog 293 #[v,.int .i64 (a:Int),.int .i64 (b:Int)] C (SQ v l0):=by
 refine aR fun g=>CD ?_
 refine aa.bE (b:=1) ?_
 refine⟨fun vs H=>∃i j:Nat,vs=[.int .i64 (i:Int),.int .i64 (j:Int)]∧j<l0.length∧DT v l0 H,fun vs _=>br vs 1-br vs 0,JE.mk ⟨a,b-1,rfl,by omega,h⟩,?_⟩
 rintro w w' H ⟨i,j,hw,hj,hd⟩ gs
 simp only[List.cons.injEq,and_true]at hw
 obtain⟨rfl,rfl⟩:=hw
 refine aa.dH (Br.dec (fun hlt=>?_) (fun _=>aS.here ⟨rfl,hd⟩))
 refine DR.self (hd.swap .here (by omega) (by omega) fun C' cN=>?_)
 refine aa.inc ?_
 refine aa.bE (b:=1) ?_
 exact aB.mk ⟨i+1,j-1,rfl,by omega,cN⟩ (by simp[br];omega)
theorem N7(h:DT v l0 C){a b:Nat}(hab:a<b)(hb:b≤l0.length)(bH:l0.length<1152921504606846976):Fc Tryz.prog 294 #[v,.int .i64 (a:Int),.int .i64 (b:Int)] C (fun r C'=>(∃t,r=.bool t)∧DT v l0 C'):=by
 refine aR fun g=>CC ?_
 refine aa.inc ?_
 refine⟨fun vs H=>∃i k:Nat,vs=[.int .i64 (i:Int),.int .i64 (k:Int)]∧a<i∧i≤b∧DT v l0 H,fun vs _=>5-br vs 1,JE.mk ⟨a+1,0,rfl,by omega,by omega,h⟩,?_⟩
 rintro w w' H ⟨i,k,hw,Nj,s9,hd⟩ gs
 simp only[List.cons.injEq,and_true]at hw
 obtain⟨rfl,rfl⟩:=hw
 refine aa.dH (b:=5) (Br.dec (fun hk=>?_) (fun _=>aS.here ⟨⟨_,rfl⟩,hd⟩))
 intro J9 LQ
 have next:∀(i':Nat) H',a<i'→i'≤b→DT v l0 H'→J9 [.int .i64 (i':Int)] H':=fun i' H' h1 h2 cN=>LQ _ _ fun gs=>aa.inc (aB.mk ⟨i',k+1,rfl,h1,h2,cN⟩ (by simp[br];omega))
 refine⟨fun vs H=>∃i:Nat,vs=[.int .i64 (i:Int)]∧a<i∧i≤b∧DT v l0 H,fun vs _=>b-br vs 0,JE.mk ⟨i,rfl,Nj,s9,hd⟩,?_⟩
 clear hd Nj s9
 rintro w H ⟨i,hw,Nj,s9,hd⟩ gs
 simp only[List.cons.injEq,and_true]at hw
 subst hw
 intro J19 VV
 have yes:i<b→J19 [.bool true] H:=fun hlt=>VV _ _ fun gs=>Br.yes (aa.inc (aB.mk ⟨i+1,rfl,by omega,by omega,hd⟩ (by simp[br];omega)))
 have no:J19 [.bool false] H:=by
  refine VV _ _ fun gs=>Br.no ?_
  refine aa.cE (Br.dec (fun he=>aS.here ⟨⟨_,rfl⟩,hd⟩) (fun hne=>?_))
  refine aa.bE ?_
  refine aa.dH (b:=50) (Br.dec (fun he=>aS.here ⟨⟨_,rfl⟩,hd⟩) (fun _=>?_))
  refine DR.self ?_
  refine aa.bE (b:=1) ?_
  refine aa.bE (b:=1) ?_
  refine hd.swap .here (by omega) (by omega) fun C1 Ly=>?_
  intro Wr Y7
  have tail:∀H',DT v l0 H'→Wr [] H':=fun H' cN=>by
   refine Y7 _ fun gs=>?_
   refine aa.bE ?_
   refine aa.qT (b:=2) (Br.dec (fun h2=>?_) (fun _=>JE.mk (next i _ Nj s9 cN)))
   refine aa.inc ?_
   refine⟨fun vs H=>∃j:Nat,vs=[.int .i64 (j:Int)]∧0<j∧DT v l0 H,fun vs _=>b-br vs 0,JE.mk ⟨i+1,rfl,by omega,cN⟩,?_⟩
   rintro w H ⟨j,hw,Sg,BL⟩ gs
   simp only[List.cons.injEq,and_true]at hw
   subst hw
   refine aa.dH (Br.dec (fun hlt=>?_) (fun _=>JE.mk (next i _ Nj s9 BL)))
   refine DR.self ?_
   refine BL.ld (fun _ h=>h) (by omega) fun x=>?_
   refine aa.bE (b:=1) ?_
   refine BL.ld (fun _ h=>h) (by omega) fun y=>?_
   refine ae.eq (dN x y _) ?_
   refine Un.not ?_
   refine Br.mk (fun _=>JE.mk (next i _ Nj s9 BL)) (fun _=>?_)
   refine DR.self ?_
   refine aa.bE (b:=1) ?_
   refine aa.bE (b:=1) ?_
   refine BL.swap .here (by omega) (by omega) fun C2 vM=>?_
   refine aa.inc ?_
   exact aB.mk ⟨j+1,rfl,by omega,vM⟩ (by simp[br];omega)
  refine aa.bE ?_
  refine aa.qT (b:=2) (Br.dec (fun h2=>?_) (fun _=>JE.mk (tail _ Ly)))
  refine aa.bE (b:=1) ?_
  refine⟨fun vs H=>∃j:Nat,vs=[.int .i64 (j:Int)]∧j<l0.length∧DT v l0 H,fun vs _=>br vs 0,JE.mk ⟨i-1,rfl,by omega,Ly⟩,?_⟩
  rintro w H ⟨j,hw,Sg,BL⟩ gs
  simp only[List.cons.injEq,and_true]at hw
  subst hw
  refine aa.qT (b:=1) (Br.dec (fun hlt=>?_) (fun _=>JE.mk (tail _ BL)))
  refine DR.self ?_
  refine BL.ld (fun _ h=>h) (by omega) fun x=>?_
  refine aa.bE (b:=1) ?_
  refine BL.ld (fun _ h=>h) (by omega) fun y=>?_
  refine ae.eq (dN x y _) ?_
  refine Un.not ?_
  refine Br.mk (fun _=>JE.mk (tail _ BL)) (fun _=>?_)
  refine DR.self ?_
  refine aa.bE (b:=1) ?_
  refine aa.bE (b:=1) ?_
  refine BL.swap .here (by omega) (by omega) fun C2 vM=>?_
  refine aa.bE (b:=1) ?_
  exact aB.mk ⟨j-1,rfl,by omega,vM⟩ (by simp[br];omega)
 refine DR.self (aa.dH (Br.dec (fun hlt=>?_) fun _=>JE.mk no))
 refine hd.ld (fun _ h=>h) (by omega) fun x=>?_
 refine aa.bE (b:=1) ?_
 refine hd.ld (fun _ h=>h) (by omega) fun y=>?_
 intro F
 refine ae.eq (dN x y _) ?_
 refine Un.not ?_
 refine ay.mk ?_
 by_cases e:x<y
 ·rw[decide_eq_true e];exact JE.mk no
 ·rw[decide_eq_false e];exact JE.mk (yes hlt)
theorem Hf(h:DT v l0 C){a b p:Nat}(hp:a≤p∧p<b)(hb:b≤l0.length)(bH:l0.length<1152921504606846976):Fc Tryz.prog 296 #[v,.int .i64 (a:Int),.int .i64 (b:Int),.int .i64 (p:Int)] C
  (fun r C'=>(∃m:Nat,r=.int .i64 (m:Int)∧a<m∧m≤b)∧DT v l0 C'):=by
 refine aR fun g=>Cz ?_
 refine DR.self (h.swap .here (by omega) (by omega) fun C1 hd=>?_)
 refine aa.inc ?_
 refine aa.bE (b:=1) ?_
 refine⟨fun vs H=>∃i j:Nat,vs=[.int .i64 (i:Int),.int .i64 (j:Int)]∧a<i∧i≤b∧a≤j∧j<b∧DT v l0 H,fun vs _=>b-br vs 0,JE.mk ⟨a+1,b-1,rfl,by omega,by omega,by omega,by omega,hd⟩,?_⟩
 clear hd
 rintro w w' H0 ⟨i0,j0,hw,Nj,s9,QG,Tw,hd⟩ gs
 simp only[List.cons.injEq,and_true]at hw
 obtain⟨rfl,rfl⟩:=hw
 refine⟨fun vs H=>∃i:Nat,vs=[.int .i64 (i:Int)]∧i0≤i∧i≤b∧DT v l0 H,fun vs _=>b-br vs 0,JE.mk ⟨i0,rfl,Nat.le_refl _,s9,hd⟩,?_⟩
 clear hd s9
 rintro w H ⟨i,hw,BH,s9,hd⟩ gs
 simp only[List.cons.injEq,and_true]at hw
 subst hw
 intro J23 VU
 have yes:i≤j0→J23 [.bool true] H:=fun hle=>VU _ _ fun gs=>Br.yes (aa.inc (aB.mk ⟨i+1,rfl,by omega,by omega,hd⟩ (by simp[br];omega)))
 have no:J23 [.bool false] H:=by
  refine VU _ _ fun gs=>Br.no ?_
  refine⟨fun vs H=>∃j:Nat,vs=[.int .i64 (j:Int)]∧a≤j∧j<b∧DT v l0 H,fun vs _=>br vs 0,JE.mk ⟨j0,rfl,QG,Tw,hd⟩,?_⟩
  rintro w H' ⟨j,hw,Vx,U7,cN⟩ gs
  simp only[List.cons.injEq,and_true]at hw
  subst hw
  intro Xf O8
  have GD:i≤j→Xf [.bool true] H':=fun hle=>O8 _ _ fun gs=>Br.yes (aa.bE (b:=1) (aB.mk ⟨j-1,rfl,by omega,by omega,cN⟩ (by simp[br];omega)))
  have P5:Xf [.bool false] H':=by
   refine O8 _ _ fun gs=>Br.no ?_
   refine aa.iU (Br.dec (fun _=>aS.here ⟨⟨i,rfl,by omega,s9⟩,cN⟩) (fun hle=>?_))
   refine DR.self (cN.swap .here (by omega) (by omega) fun C2 vM=>?_)
   refine aa.inc ?_
   refine aa.bE (b:=1) ?_
   exact aB.mk ⟨i+1,j-1,rfl,by omega,by omega,by omega,by omega,vM⟩ (by simp[br];omega)
  refine DR.self (aa.y4 (Br.dec (fun hle=>?_) fun _=>JE.mk P5))
  refine cN.ld (fun _ h=>h) (by omega) fun x=>?_
  refine cN.ld (fun _ h=>h) (by omega) fun y=>?_
  intro F
  refine ae.eq (dN x y _) ?_
  refine ay.mk ?_
  by_cases e:x<y
  ·rw[decide_eq_true e];exact JE.mk (GD hle)
  ·rw[decide_eq_false e];exact JE.mk P5
 refine DR.self (aa.y4 (Br.dec (fun hle=>?_) fun _=>JE.mk no))
 refine hd.ld (fun _ h=>h) (by omega) fun x=>?_
 refine hd.ld (fun _ h=>h) (by omega) fun y=>?_
 intro F
 refine ae.eq (dN x y _) ?_
 refine Un.not ?_
 refine ay.mk ?_
 by_cases e:x<y
 ·rw[decide_eq_true e];exact JE.mk no
 ·rw[decide_eq_false e];exact JE.mk (yes hle)
end
end Go.Proofs
set_option maxRecDepth 100000
namespace Go.Proofs
open Go Go.Sx
section
variable {v:Value} {l0:List Int} {C:Hp}
def PQ(v:Value)(l0:List Int)(a b:Nat):Value→Hp→Prop:=fun r C'=>(∃(m:Nat) (t:Bool),r=.tuple #[.int .i64 (m:Int),.bool t]∧a≤m∧m<b)∧DT v l0 C'
theorem N8(h:DT v l0 C){a b p:Nat}(hp:a≤p∧p<b)(hb:b≤l0.length)(bH:l0.length<1152921504606846976):Fc Tryz.prog 297 #[v,.int .i64 (a:Int),.int .i64 (b:Int),.int .i64 (p:Int)] C (PQ v l0 a b):=by
 refine aR fun g=>Cy ?_
 refine DR.self (h.swap .here (by omega) (by omega) fun C1 hd=>?_)
 refine aa.inc ?_
 refine aa.bE (b:=1) ?_
 refine⟨fun vs H=>∃i:Nat,vs=[.int .i64 (i:Int)]∧a<i∧i≤b∧DT v l0 H,fun vs _=>b-br vs 0,JE.mk ⟨a+1,rfl,by omega,by omega,hd⟩,?_⟩
 clear hd
 rintro w H ⟨i,hw,Nj,s9,hd⟩ gs
 simp only[List.cons.injEq,and_true]at hw
 subst hw
 intro Tc BO
 have yes:i<b→Tc [.bool true] H:=fun hle=>BO _ _ fun gs=>Br.yes (aa.inc (aB.mk ⟨i+1,rfl,by omega,by omega,hd⟩ (by simp[br];omega)))
 have no:Tc [.bool false] H:=by
  refine BO _ _ fun gs=>Br.no ?_
  refine⟨fun vs H=>∃j:Nat,vs=[.int .i64 (j:Int)]∧a≤j∧j<b∧DT v l0 H,fun vs _=>br vs 0,JE.mk ⟨b-1,rfl,by omega,by omega,hd⟩,?_⟩
  clear hd
  rintro w H ⟨j,hw,QG,Tw,hd⟩ gs
  simp only[List.cons.injEq,and_true]at hw
  subst hw
  intro ZH SJ
  have GD:i≤j→ZH [.bool true] H:=fun hle=>SJ _ _ fun gs=>Br.yes (aa.bE (b:=1) (aB.mk ⟨j-1,rfl,by omega,by omega,hd⟩ (by simp[br];omega)))
  have P5:ZH [.bool false] H:=by
   refine SJ _ _ fun gs=>Br.no ?_
   refine aa.iU (Br.dec (fun _=>?_) (fun hle=>?_))
   ·refine DR.self (hd.swap .here (by omega) (by omega) fun C2 vM=>?_)
    exact aS.here ⟨⟨j,true,rfl,QG,Tw⟩,vM⟩
   ·refine DR.self (hd.swap .here (by omega) (by omega) fun C2 vM=>?_)
    refine aa.inc ?_
    refine aa.bE (b:=1) ?_
    refine⟨fun vs H=>∃i j:Nat,vs=[.int .i64 (i:Int),.int .i64 (j:Int)]∧a<i∧i≤b∧a≤j∧j<b∧DT v l0 H,fun vs _=>b-br vs 0,JE.mk ⟨i+1,j-1,rfl,by omega,by omega,by omega,by omega,vM⟩,?_⟩
    clear vM hd Nj s9 QG Tw hle GD SJ ZH BO Tc yes
    rintro w w' H0 ⟨i0,j0,hw,Nj,s9,QG,Tw,hd⟩ gs
    simp only[List.cons.injEq,and_true]at hw
    obtain⟨rfl,rfl⟩:=hw
    refine⟨fun vs H=>∃i:Nat,vs=[.int .i64 (i:Int)]∧i0≤i∧i≤b∧DT v l0 H,fun vs _=>b-br vs 0,JE.mk ⟨i0,rfl,Nat.le_refl _,s9,hd⟩,?_⟩
    clear hd s9
    rintro w H ⟨i,hw,BH,s9,hd⟩ gs
    simp only[List.cons.injEq,and_true]at hw
    subst hw
    intro J64 VS
    have yes:i≤j0→J64 [.bool true] H:=fun hle=>VS _ _ fun gs=>Br.yes (aa.inc (aB.mk ⟨i+1,rfl,by omega,by omega,hd⟩ (by simp[br];omega)))
    have no:J64 [.bool false] H:=by
     refine VS _ _ fun gs=>Br.no ?_
     refine⟨fun vs H=>∃j:Nat,vs=[.int .i64 (j:Int)]∧a≤j∧j<b∧DT v l0 H,fun vs _=>br vs 0,JE.mk ⟨j0,rfl,QG,Tw,hd⟩,?_⟩
     rintro w H' ⟨j,hw,Vx,U7,cN⟩ gs
     simp only[List.cons.injEq,and_true]at hw
     subst hw
     intro J74 VR
     have GD:i≤j→J74 [.bool true] H':=fun hle=>VR _ _ fun gs=>Br.yes (aa.bE (b:=1) (aB.mk ⟨j-1,rfl,by omega,by omega,cN⟩ (by simp[br];omega)))
     have P5:J74 [.bool false] H':=by
      refine VR _ _ fun gs=>Br.no ?_
      refine aa.iU (Br.dec (fun _=>?_) (fun hle=>?_))
      ·refine DR.self (cN.swap .here (by omega) (by omega) fun C2 vM=>?_)
       exact aS.here ⟨⟨j,false,rfl,Vx,U7⟩,vM⟩
      ·refine DR.self (cN.swap .here (by omega) (by omega) fun C2 vM=>?_)
       refine aa.inc ?_
       refine aa.bE (b:=1) ?_
       exact aB.mk ⟨i+1,j-1,rfl,by omega,by omega,by omega,by omega,vM⟩ (by simp[br];omega)
     refine DR.self (aa.y4 (Br.dec (fun hle=>?_) fun _=>JE.mk P5))
     refine cN.ld (fun _ h=>h) (by omega) fun x=>?_
     refine cN.ld (fun _ h=>h) (by omega) fun y=>?_
     intro F
     refine ae.eq (dN x y _) ?_
     refine Un.not ?_
     refine ay.mk ?_
     by_cases e:x<y
     ·rw[decide_eq_true e];exact JE.mk P5
     ·rw[decide_eq_false e];exact JE.mk (GD hle)
    refine DR.self (aa.y4 (Br.dec (fun hle=>?_) fun _=>JE.mk no))
    refine hd.ld (fun _ h=>h) (by omega) fun x=>?_
    refine hd.ld (fun _ h=>h) (by omega) fun y=>?_
    intro F
    refine ae.eq (dN x y _) ?_
    refine ay.mk ?_
    by_cases e:x<y
    ·rw[decide_eq_true e];exact JE.mk (yes hle)
    ·rw[decide_eq_false e];exact JE.mk no
  refine DR.self (aa.y4 (Br.dec (fun hle=>?_) fun _=>JE.mk P5))
  refine hd.ld (fun _ h=>h) (by omega) fun x=>?_
  refine hd.ld (fun _ h=>h) (by omega) fun y=>?_
  intro F
  refine ae.eq (dN x y _) ?_
  refine Un.not ?_
  refine ay.mk ?_
  by_cases e:x<y
  ·rw[decide_eq_true e];exact JE.mk P5
  ·rw[decide_eq_false e];exact JE.mk (GD hle)
 refine DR.self (aa.y4 (Br.dec (fun hle=>?_) fun _=>JE.mk no))
 refine hd.ld (fun _ h=>h) (by omega) fun x=>?_
 refine hd.ld (fun _ h=>h) (by omega) fun y=>?_
 intro F
 refine ae.eq (dN x y _) ?_
 refine ay.mk ?_
 by_cases e:x<y
 ·rw[decide_eq_true e];exact JE.mk (yes (by omega))
 ·rw[decide_eq_false e];exact JE.mk no
theorem Fy(h:DT v l0 C){lo hi f:Nat}(hlo:lo≤l0.length)(hb:f+hi≤l0.length)(bH:l0.length<1152921504606846976):Fc Tryz.prog 299 #[v,.int .i64 (lo:Int),.int .i64 (hi:Int),.int .i64 (f:Int)] C (SQ v l0):=by
 refine aR fun g=>Cw ?_
 refine⟨fun vs H=>∃i:Nat,vs=[.int .i64 (i:Int)]∧i≤l0.length∧DT v l0 H,fun vs _=>l0.length-br vs 0,JE.mk ⟨lo,rfl,hlo,h⟩,?_⟩
 rintro w H ⟨r,hw,hr,hd⟩ gs
 simp only[List.cons.injEq,and_true]at hw
 subst hw
 refine aa.jx (a:=2) ?_
 refine aa.inc ?_
 refine aa.qT (Br.dec (fun _=>aS.here ⟨rfl,hd⟩) (fun hlt=>?_))
 intro J9 LQ
 have go:∀c:Nat,r<c→c<hi→J9 [.int .i64 (c:Int)] H:=fun c hrc adG=>by
  refine LQ _ _ fun gs=>?_
  refine DR.self ?_
  refine aa.dx ?_
  refine hd.ld (fun _ h=>h) (by omega) fun x=>?_
  refine aa.dx ?_
  refine hd.ld (fun _ h=>h) (by omega) fun y=>?_
  refine ae.eq (dN x y _) ?_
  refine Un.not ?_
  refine Br.mk (fun _=>aS.here ⟨rfl,hd⟩) (fun _=>?_)
  refine DR.self ?_
  refine aa.dx ?_
  refine aa.dx ?_
  refine aa.dx ?_
  refine hd.T5 .here (i:=f+r) (j:=f+c) (B:=fun k=>aa .num .add (.int .i64 (f:Int)) (.int .i64 (r:Int)) k) (by omega) (by omega) (fun k hk=>aa.dx hk) fun C1 Ly=>?_
  exact aB.mk ⟨c,rfl,by omega,Ly⟩ (by simp[br];omega)
 intro J36 VT
 have stay:J36 [.bool false] H:=VT _ _ fun gs=>Br.no (JE.mk (go _ (by omega) (by omega)))
 refine DR.self ?_
 refine aa.inc ?_
 refine aa.dH (Br.dec (fun hc=>?_) fun _=>JE.mk stay)
 refine aa.dx ?_
 refine hd.ld (fun _ h=>h) (by omega) fun x=>?_
 refine aa.dx ?_
 refine aa.inc ?_
 refine hd.ld (fun _ h=>h) (by omega) fun y=>?_
 intro F
 refine ae.eq (dN x y _) ?_
 refine ay.mk ?_
 by_cases e:x<y
 ·rw[decide_eq_true e]
  exact JE.mk (VT _ _ fun gs=>Br.yes (aa.inc (JE.mk (go _ (by omega) hc))))
 ·rw[decide_eq_false e];exact JE.mk stay
theorem KY(h:DT v l0 C){a b:Nat}(hab:a<b)(hb:b≤l0.length)(bH:l0.length<1152921504606846976):Fc Tryz.prog 290 #[v,.int .i64 (a:Int),.int .i64 (b:Int)] C (SQ v l0):=by
 refine aR fun g=>CI ?_
 refine aa.bE ?_
 refine aa.bE (b:=1) ?_
 refine aa.BT (b:=2) (by simp[bA];omega) (by omega) ?_
 refine⟨fun vs H=>∃q:Int,vs=[.int .i64 q]∧ -1≤q∧q<(b:Int) -a∧DT v l0 H,fun vs _=>Xo vs,JE.mk ⟨(((b-a-1) /2:Nat):Int),rfl,by omega,by omega,h⟩,?_⟩
 rintro w H ⟨q,hw,RZ,X4,hd⟩ gs
 simp only[List.cons.injEq,and_true]at hw
 subst hw
 refine aa.geq (Br.dec (fun h0=>?_) (fun _=>?_))
 ·obtain⟨i,rfl⟩:∃i:Nat,q=i:=⟨q.toNat,by omega⟩
  refine ae.fq (Fy hd (by omega) (by omega) bH) ?_
  rintro w C1 ⟨rfl,Ly⟩
  refine aa.oT (c:=(i:Int) -1) rfl (by omega) ?_
  exact aB.mk ⟨(i:Int) -1,rfl,by omega,by omega,Ly⟩ (by rw[wE,wE];omega)
 ·refine aa.bE (b:=1) ?_
  refine⟨fun vs H=>∃q:Int,vs=[.int .i64 q]∧ -1≤q∧q<(b:Int) -a∧DT v l0 H,fun vs _=>Xo vs,JE.mk ⟨((b-a-1:Nat):Int),rfl,by omega,by omega,hd⟩,?_⟩
  clear hd
  rintro w H ⟨q,hw,RZ,X4,hd⟩ gs
  simp only[List.cons.injEq,and_true]at hw
  subst hw
  refine aa.geq (Br.dec (fun h0=>?_) (fun _=>aS.here ⟨rfl,hd⟩))
  obtain⟨i,rfl⟩:∃i:Nat,q=i:=⟨q.toNat,by omega⟩
  refine DR.self ?_
  refine aa.dx ?_
  refine aa.dx ?_
  refine hd.swap .here (by omega) (by omega) fun C1 Ly=>?_
  refine ae.fq (Fy Ly (lo:=0) (by omega) (by omega) bH) ?_
  rintro w C2 ⟨rfl,vM⟩
  refine aa.oT (c:=(i:Int) -1) rfl (by omega) ?_
  exact aB.mk ⟨(i:Int) -1,rfl,by omega,by omega,vM⟩ (by rw[wE,wE];omega)
end
section
variable {v:Value} {l0:List Int} {C:Hp}
theorem Xh{a b:Nat}(ha:a<18446744073709551616)(hb:b<18446744073709551616):a^^^b<18446744073709551616:=Nat.xor_lt_two_pow (n:=64) ha hb
theorem Jo(b x:Nat)(hx:x<18446744073709551616):Fc Tryz.prog 301 #[ptr b] [(b,.cells #[.int .u64 (x:Int)] 373 (0,0))]
  (fun r H=>∃y:Nat,y<18446744073709551616∧r=.int .u64 (y:Int)∧H=[(b,.cells #[.int .u64 (y:Int)] 373 (0,0))]):=by
 refine aR fun g=>Cu ?_
 refine DR.self ?_
 refine Nil.ptr (Ld.q ?_)
 refine Nil.ptr (Ld.q ?_)
 refine aa.wR (b:=13) ?_
 refine aa.Q5 hx (Nat.mod_lt _ (by decide)) ?_
 have h1:=Xh hx (Nat.mod_lt (x<<<13) (show 0<18446744073709551616 by decide))
 generalize x^^^x<<<13%18446744073709551616=x1 at h1
 refine Nil.ptr (St.one (by exact .head _) rfl (by simp) rfl ?_)
 refine DR.self ?_
 refine Nil.ptr (Ld.q ?_)
 refine Nil.ptr (Ld.q ?_)
 refine aa.j7 (b:=7) h1 ?_
 have h2:x1>>>7<18446744073709551616:=by rw[Nat.shiftRight_eq_div_pow];omega
 refine aa.Q5 h1 h2 ?_
 have h3:=Xh h1 h2
 generalize x1^^^x1>>>7=x2 at h3
 refine Nil.ptr (St.one (by exact .head _) rfl (by simp) rfl ?_)
 refine DR.self ?_
 refine Nil.ptr (Ld.q ?_)
 refine Nil.ptr (Ld.q ?_)
 refine aa.wR (b:=17) ?_
 refine aa.Q5 h3 (Nat.mod_lt _ (by decide)) ?_
 have h4:=Xh h3 (Nat.mod_lt (x2<<<17) (show 0<18446744073709551616 by decide))
 generalize x2^^^x2<<<17%18446744073709551616=x3 at h4
 refine Nil.ptr (St.one (by exact .head _) rfl (by simp) rfl ?_)
 refine Nil.ptr (Ld.q ?_)
 exact aS.here ⟨x3,h4,rfl,rfl⟩
theorem Gi{x:Nat}(hx:x<18446744073709551616)(B:Hp):Rd Tryz.prog 286 #[.int .u64 (x:Int)] B (fun v=>∃r:Nat,wC x r∧v=.int .i64 (r:Int)):=by
 refine aR fun g=>CV ?_
 refine Br.no ?_
 refine ae.rq (KC hx B) ?_
 rintro w hw
 exact bN.mk (.refl _) hw
theorem Oa{x:Nat}(h0:0<x)(hx:x<1152921504606846976)(B:Hp):Rd Tryz.prog 300 #[.int .i64 (x:Int)] B (fun v=>∃r:Nat,0<r∧r≤2*x∧v=.int .u64 (r:Int)):=by
 refine aR fun g=>Cv ?_
 refine aQ.q ?_
 refine ae.rq (Gi (by omega) B) ?_
 rintro w ⟨r,hr,rfl⟩
 have BB:0<r:=by
  rcases Nat.eq_zero_or_pos r with e|e
  ·subst e;have:=hr.1;omega
  ·exact e
 have h2:2^(r-1)≤x:=by
  rcases hr.2 with e|e
  ·omega
  ·exact e
 have h3:2^r=2*2^(r-1):=by
  obtain⟨k,rfl⟩:∃k,r=k+1:=⟨r-1,by omega⟩
  rw[Nat.add_sub_cancel,Nat.pow_succ];omega
 refine aa.wR (a:=1) ?_
 have e:1<<<r%18446744073709551616=2^r:=by
  rw[Nat.shiftLeft_eq,Nat.one_mul]
  exact Nat.mod_eq_of_lt (by omega)
 rw[e]
 exact bN.mk (.refl _) ⟨2^r,Nat.two_pow_pos r,by omega,rfl⟩
theorem SU(h:DT v l0 C){a b:Nat}(hab:a<b)(hb:b≤l0.length)(bH:l0.length<1152921504606846976):Fc Tryz.prog 291 #[v,.int .i64 (a:Int),.int .i64 (b:Int)] C (SQ v l0):=by
 refine aR fun g=>CG ?_
 refine aa.bE ?_
 refine aa.qT (b:=8) (Br.dec (fun h8=>?_) (fun _=>aS.here ⟨rfl,h⟩))
 refine aQ.q ?_
 intro b4 _
 refine St.one (by exact .head _) rfl (by simp) rfl ?_
 refine ae.rq (Oa (by omega) (by omega) C) ?_
 rintro w ⟨m,hm0,hm,rfl⟩
 refine aa.BT (b:=4) (by simp[bA];omega) (by omega) ?_
 refine aa.jx (b:=2) ?_
 refine aa.dx ?_
 refine aa.bE (b:=1) ?_
 refine⟨fun vs H=>∃(i x:Nat) (C':Hp),vs=[.int .i64 (i:Int)]∧x<18446744073709551616∧H=(b4,.cells #[.int .u64 (x:Int)] 373 (0,0))::C'∧DT v l0 C',fun vs _=>b-br vs 0,
  JE.mk ⟨_,b-a,C,rfl,by omega,rfl,h⟩,?_⟩
 rintro w H ⟨i,x,C',hw,hx,rfl,hd⟩ gs
 simp only[List.cons.injEq,and_true]at hw
 subst hw
 refine aa.BT (b:=4) (by simp[bA];omega) (by omega) ?_
 refine aa.jx (b:=2) ?_
 refine aa.dx ?_
 refine aa.inc ?_
 refine aa.y4 (Br.dec (fun hle=>?_) (fun _=>aS.mk .tail ⟨rfl,hd⟩))
 refine ae.fn (.left (A:=C')) (Jo b4 x hx) ?_
 rintro w H' ⟨y,hy,rfl,rfl⟩
 refine aa.bE (b:=1) ?_
 refine aa.iL (by simp[bA];omega) (by simp[bA];omega) ?_
 have hand:y&&& (m-1)<m:=by have:=Nat.and_le_right (n:=y) (m:=m-1);omega
 generalize y&&& (m-1)=z at hand
 refine aQ.q ?_
 intro Ws Za
 have go:∀o:Nat,o<b-a→Ws [.int .i64 (o:Int)] ([(b4,Obj.cells #[.int .u64 (y:Int)] 373 (0,0))]++C'):=fun o ho=>by
  refine Za _ _ fun gs=>?_
  refine DR.self ?_
  refine aa.dx ?_
  refine aa.dx ?_
  refine hd.swap (.cons .here) (by omega) (by omega) fun C1 Ly=>?_
  refine aa.inc ?_
  exact aB.mk ⟨i+1,y,C1,rfl,hy,rfl,Ly⟩ (by simp[br];omega)
 refine aa.qT (Br.dec (fun hge=>?_) (fun hlt=>JE.mk (go z (by omega))))
 refine aa.bE ?_
 exact JE.mk (go _ (by omega))
def OQ(b:Nat)(C:Hp)(i j:Nat):Value→Hp→Prop:=fun r H=>(r=.tuple #[.int .i64 (i:Int),.int .i64 (j:Int)]∨r=.tuple #[.int .i64 (j:Int),.int .i64 (i:Int)])∧∃z:Int,H=(b,.cells #[.int .i64 z] 3 (0,0))::C
theorem wY(h:DT v l0 C){b:Nat}{z:Int}{i j:Nat}(hi:i<l0.length)(hj:j<l0.length):
  Fc Tryz.prog 305 #[v,.int .i64 (i:Int),.int .i64 (j:Int),ptr b] ((b,.cells #[.int .i64 z] 3 (0,0))::C) (OQ b C i j):=by
 refine aR fun g=>Co ?_
 refine DR.self ?_
 refine h.ld (fun _ h=>.tail _ h) hj fun x=>?_
 refine h.ld (fun _ h=>.tail _ h) hi fun y=>?_
 refine ae.eq (dN x y _) ?_
 refine Br.mk (fun _=>?_) (fun _=>aS.here ⟨.inl rfl,z,rfl⟩)
 refine Nil.ptr (Ld.q ?_)
 refine aa.add ?_
 refine Nil.ptr (St.one (by exact .head _) rfl (by simp) rfl ?_)
 exact aS.here ⟨.inr rfl,_,rfl⟩
def MQ(b:Nat)(C:Hp)(p:Nat→Prop):Value→Hp→Prop:=fun r H=>(∃m:Nat,r=.int .i64 (m:Int)∧p m)∧∃z:Int,H=(b,.cells #[.int .i64 z] 3 (0,0))::C
theorem Kx(h:DT v l0 C){b:Nat}{z:Int}{i j k:Nat}(hi:i<l0.length)(hj:j<l0.length)(hk:k<l0.length):
  Fc Tryz.prog 303 #[v,.int .i64 (i:Int),.int .i64 (j:Int),.int .i64 (k:Int),ptr b] ((b,.cells #[.int .i64 z] 3 (0,0))::C) (MQ b C fun m=>m=i∨m=j∨m=k):=by
 refine aR fun g=>Cq ?_
 refine ae.fq (wY h hi hj) ?_
 rintro w H ⟨hw,z1,rfl⟩
 obtain⟨i1,j1,rfl,hij⟩:∃i1 j1:Nat,w=.tuple #[.int .i64 (i1:Int),.int .i64 (j1:Int)]∧((i1=i∧j1=j)∨(i1=j∧j1=i)):=by
  rcases hw with rfl|rfl
  ·exact⟨i,j,rfl,.inl ⟨rfl,rfl⟩⟩
  ·exact⟨j,i,rfl,.inr ⟨rfl,rfl⟩⟩
 refine Ext.two ?_
 refine ae.fq (wY h (i:=j1) (j:=k) (by omega) hk) ?_
 rintro w H ⟨hw,z2,rfl⟩
 obtain⟨j2,k2,rfl,OR⟩:∃j2 k2:Nat,w=.tuple #[.int .i64 (j2:Int),.int .i64 (k2:Int)]∧((j2=j1∧k2=k)∨(j2=k∧k2=j1)):=by
  rcases hw with rfl|rfl
  ·exact⟨_,_,rfl,.inl ⟨rfl,rfl⟩⟩
  ·exact⟨_,_,rfl,.inr ⟨rfl,rfl⟩⟩
 refine Ext.two ?_
 refine ae.fq (wY h (i:=i1) (j:=j2) (by omega) (by omega)) ?_
 rintro w H ⟨hw,z3,rfl⟩
 rcases hw with rfl|rfl
 ·exact Ext.mk rfl (Ext.mk rfl (aS.here ⟨⟨_,rfl,by omega⟩,_,rfl⟩))
 ·exact Ext.mk rfl (Ext.mk rfl (aS.here ⟨⟨_,rfl,by omega⟩,_,rfl⟩))
theorem xe(h:DT v l0 C){b:Nat}{z:Int}{i:Nat}(h0:0<i)(hi:i+1<l0.length)(bH:l0.length<1152921504606846976):
  Fc Tryz.prog 302 #[v,.int .i64 (i:Int),ptr b] ((b,.cells #[.int .i64 z] 3 (0,0))::C) (MQ b C fun m=>i≤m+1∧m≤i+1):=by
 refine aR fun g=>Cr ?_
 refine aa.bE (b:=1) ?_
 refine aa.inc ?_
 refine ae.fq (Kx h (by omega) (by omega) hi) ?_
 rintro w H ⟨⟨m,rfl,hm⟩,z',rfl⟩
 exact aS.here ⟨⟨m,rfl,by omega⟩,z',rfl⟩
theorem Rl(h:DT v l0 C){a b:Nat}(hab:a<b)(hb:b≤l0.length)(bH:l0.length<1152921504606846976):
  Rd Tryz.prog 292 #[v,.int .i64 (a:Int),.int .i64 (b:Int)] C (fun r=>∃(p:Nat) (q:Int),r=.tuple #[.int .i64 (p:Int),.int .i64 q]∧a≤p∧p<b):=by
 refine aR fun g=>CE ?_
 refine aa.bE ?_
 intro b2 _
 refine aa.BT (b:=4) (by simp[bA];omega) (by omega) ?_
 refine aa.jx (b:=1) ?_
 refine aa.dx ?_
 refine aa.BT (b:=4) (by simp[bA];omega) (by omega) ?_
 refine aa.jx (b:=2) ?_
 refine aa.dx ?_
 refine aa.BT (b:=4) (by simp[bA];omega) (by omega) ?_
 refine aa.jx (b:=3) ?_
 refine aa.dx ?_
 intro J13 Zd
 have fin:∀(p:Nat) (z:Int),a≤p→p<b→J13 [.int .i64 (p:Int)] ((b2,.cells #[.int .i64 z] 3 (0,0))::C):=fun p z sV kE=>by
  refine Zd _ _ fun gs=>?_
  refine Ld.q ?_
  refine aa.gA (Br.dec (fun _=>bN.mk .tail ⟨p,_,rfl,sV,kE⟩) (fun _=>?_))
  exact aa.gA (Br.dec (fun _=>bN.mk .tail ⟨p,_,rfl,sV,kE⟩) (fun _=>bN.mk .tail ⟨p,_,rfl,sV,kE⟩))
 refine aa.qT (b:=8) (Br.dec (fun h8=>?_) (fun _=>JE.mk (fin _ _ (by omega) (by omega))))
 intro J21 Zc
 have three:∀(x y u:Nat) (z:Int),a≤x∧x<b→a≤y∧y<b→a≤u∧u<b→J21 [.int .i64 (x:Int),.int .i64 (y:Int),.int .i64 (u:Int)] ((b2,.cells #[.int .i64 z] 3 (0,0))::C):=fun x y u z hx hy hu=>by
  refine Zc _ _ _ _ fun gs=>?_
  refine ae.fq (Kx h (by omega) (by omega) (by omega)) ?_
  rintro w H ⟨⟨m,rfl,hm⟩,z',rfl⟩
  exact JE.mk (fin _ _ (by omega) (by omega))
 refine aa.qT (b:=50) (Br.dec (fun h50=>?_) (fun _=>JE.mk (three _ _ _ _ (by omega) (by omega) (by omega))))
 refine ae.fq (xe h (by omega) (by omega) bH) ?_
 rintro w H ⟨⟨m1,rfl,zv⟩,z1,rfl⟩
 refine ae.fq (xe h (by omega) (by omega) bH) ?_
 rintro w H ⟨⟨m2,rfl,sY⟩,z2,rfl⟩
 refine ae.fq (xe h (by omega) (by omega) bH) ?_
 rintro w H ⟨⟨m3,rfl,hm3⟩,z3,rfl⟩
 exact JE.mk (three _ _ _ _ (by omega) (by omega) (by omega))
theorem Rn:∀(N:Nat) {C:Hp} (h:DT v l0 C) {a b:Nat} (hN:b-a≤N) (hab:a≤b) (hb:b≤l0.length) (bH:l0.length<1152921504606846976) (z:Int),Fc Tryz.prog 285 #[v,.int .i64 (a:Int),.int .i64 (b:Int),.int .i64 z] C (SQ v l0):=by
 intro N
 induction N with
 |zero=>
  intro C h a b hN hab hb bH z g
  refine tQ (R:=aS _) ?_
  unfold L285
  refine⟨fun vs H=>vs=[.int .i64 (a:Int),.int .i64 (b:Int),.int .i64 z,.bool true,.bool true]∧H=C,fun _ _=>0,JE.mk ⟨rfl,rfl⟩,?_⟩
  rintro w1 w2 w3 w4 w5 H ⟨hw,rfl⟩ gs
  simp only[List.cons.injEq,and_true]at hw
  obtain⟨rfl,rfl,rfl,rfl,rfl⟩:=hw
  refine aa.bE ?_
  refine aa.y4 (b:=12) (Br.T ?_)
  refine ae.fq (zf h hab hb bH) ?_
  rintro w C' ⟨rfl,hd⟩
  exact aS.here ⟨rfl,hd⟩
 |succ N ih=>
  intro C h a b hN hab hb bH z g
  refine tQ (R:=aS _) ?_
  unfold L285
  refine⟨fun vs H=>∃(a b:Nat) (z:Int) (t1 t2:Bool),vs=[.int .i64 (a:Int),.int .i64 (b:Int),.int .i64 z,.bool t1,.bool t2]∧b-a≤N+1∧a≤b∧b≤l0.length∧DT v l0 H,fun vs _=>br vs 1-br vs 0,JE.mk ⟨a,b,z,true,true,rfl,hN,hab,hb,h⟩,?_⟩
  clear h hN hab hb
  rintro w1 w2 w3 w4 w5 H ⟨a,b,z,t1,t2,hw,hN,hab,hb,h⟩ gs
  simp only[List.cons.injEq,and_true]at hw
  obtain⟨rfl,rfl,rfl,rfl,rfl⟩:=hw
  refine aa.bE ?_
  refine aa.y4 (b:=12) (Br.dec (fun Pb=>?_) (fun Pb=>?_))
  ·refine ae.fq (zf h hab hb bH) ?_
   rintro w C' ⟨rfl,hd⟩
   exact aS.here ⟨rfl,hd⟩
  refine aa.gA (Br.dec (fun _=>?_) (fun _=>?_))
  ·refine ae.fq (KY h (by omega) hb bH) ?_
   rintro w C' ⟨rfl,hd⟩
   exact aS.here ⟨rfl,hd⟩
  intro Tc BO
  have Z8:∀(z1:Int) H1,DT v l0 H1→Tc [.int .i64 z1] H1:=fun z1 H1 h1=>by
   refine BO _ _ fun gs=>?_
   refine ae.rq (Rl h1 (a:=a) (b:=b) (by omega) hb bH) ?_
   rintro w ⟨p,q,rfl,sV,kE⟩
   refine Ext.two ?_
   intro J25 Zb
   have Z7:∀(p:Nat) (q:Int) H2,a≤p→p<b→DT v l0 H2→J25 [.int .i64 (p:Int),.int .i64 q] H2:=fun p q H2 sV kE h2=>by
    refine Zb _ _ _ fun gs=>?_
    intro J30 Y9
    have Z6:∀H3,DT v l0 H3→J30 [] H3:=fun H3 h3=>by
     refine Y9 _ fun gs=>?_
     intro Xf O8
     have Z5:∀(t:Bool),Xf [.bool t] H3:=fun t=>by
      refine O8 _ _ fun gs=>?_
      refine Br.mk (fun _=>?_) (fun _=>?_)
      ·refine ae.fq (Hf h3 ⟨sV,kE⟩ hb bH) ?_
       rintro w C' ⟨⟨m,rfl,zv,sY⟩,hd⟩
       exact aB.mk ⟨m,b,z1,t1,t2,rfl,by omega,by omega,hb,hd⟩ (by simp[br];omega)
      ·refine ae.fq (N8 h3 ⟨sV,kE⟩ hb bH) ?_
       rintro w C' ⟨⟨m,t,rfl,zv,sY⟩,hd⟩
       refine Ext.two ?_
       refine aa.bE ?_
       refine aa.bE ?_
       refine aa.BT (b:=8) (by simp[bA];omega) (by omega) ?_
       refine aa.dH (Br.dec (fun _=>?_) (fun _=>?_))
       ·refine aa.qT ?_
        refine ae.fq (ih hd (a:=a) (b:=m) (by omega) (by omega) (by omega) bH z1) ?_
        rintro w C' ⟨rfl,cN⟩
        refine aa.inc ?_
        exact aB.mk ⟨m+1,b,z1,_,t,rfl,by omega,by omega,hb,cN⟩ (by simp[br];omega)
       ·refine aa.qT ?_
        refine aa.inc ?_
        refine ae.fq (ih hd (a:=m+1) (b:=b) (by omega) (by omega) (by omega) bH z1) ?_
        rintro w C' ⟨rfl,cN⟩
        exact aB.mk ⟨a,m,z1,_,t,rfl,by omega,by omega,by omega,cN⟩ (by simp[br];omega)
     refine DR.self ?_
     refine aa.iU (b:=0) (Br.dec (fun h0=>?_) (fun _=>JE.mk (Z5 false)))
     refine aa.bE (b:=1) ?_
     refine h3.ld (fun _ h=>h) (by omega) fun x=>?_
     refine h3.ld (fun _ h=>h) (by omega) fun y=>?_
     intro F
     refine ae.eq (dN x y _) ?_
     exact Un.not (ay.mk (JE.mk (Z5 _)))
    refine df.and t2 (fun _=>⟨rfl,rfl⟩) rfl fun gs=>?_
    refine df.and (decide (q=1)) (fun _=>aa.gA ⟨rfl,rfl⟩) rfl fun gs=>?_
    refine Br.mk (fun _=>?_) (fun _=>JE.mk (Z6 _ h2))
    refine ae.fq (N7 h2 (by omega) hb bH) ?_
    rintro w C' ⟨⟨t,rfl⟩,hd⟩
    exact Br.mk (fun _=>aS.here ⟨rfl,hd⟩) (fun _=>JE.mk (Z6 _ hd))
   refine aa.gA (Br.dec (fun _=>?_) (fun _=>JE.mk (Z7 p q _ sV kE h1)))
   refine ae.fq (Ri h1 (a:=a) (b:=b) (by omega) hb bH) ?_
   rintro w C' ⟨rfl,hd⟩
   refine aa.bE (b:=1) ?_
   refine aa.bE ?_
   refine aa.bE ?_
   exact JE.mk (Z7 _ _ _ (by omega) (by omega) hd)
  refine Un.not ?_
  refine Br.mk (fun _=>?_) (fun _=>JE.mk (Z8 _ _ h))
  refine ae.fq (SU h (a:=a) (b:=b) (by omega) hb bH) ?_
  rintro w C' ⟨rfl,hd⟩
  exact aa.sub (JE.mk (Z8 _ _ hd))
theorem NL{l:List Int}(h:aK 77 .u32 v l C)(bH:l.length<1152921504606846976):Fc Tryz.prog 274 #[v] C (fun r C'=>r=.tuple #[]∧∃l',l'.Perm l∧aK 77 .u32 v l' C'):=by
 refine aR fun g=>C9 ?_
 refine h.bc ?_
 refine aQ.q ?_
 refine ae.rq (Gi (by omega) C) ?_
 rintro w ⟨r,_,rfl⟩
 refine ae.fq (Rn l.length h.dt (a:=0) (b:=l.length) (by omega) (by omega) (Nat.le_refl _) bH _) ?_
 rintro w C' ⟨rfl,hd⟩
 exact aS.here ⟨rfl,hd⟩
end
end Go.Proofs
namespace Go.Sx
open Go
section
variable {P:Program} {g:Gh} {F:Fence} {n:Nat} {ops:Array Oper} {Q:Exit→Act→World→Prop} {rest:List Oper} {o:Oper} {a:Act} {fr:Fr} {w:World} {H:Hp}
abbrev Av(ds:List Deferred)(n:Nat)(a:Act)(fr:Fr):Prop:=bX ds n a fr
variable {ds:List Deferred}
theorem Av.put(h:Av ds n a fr){d:Option Nat}(hd:dG n d=true)(v:Value):Av ds n (a.put d v) (bS fr d v):=bX.put h hd v
theorem iq{v0:Value}(hF:∀f,F.fn f)(hg:o.guard=none)(gE:∀c,o.op≠.defer c)(hd:dG n o.dst=true)(ha:Av ds n a fr)(hw:Own g H w)(h:Az P g o (ev fr) H (· =v0))
 (k:∀a',Av ds n a' (bS fr o.dst v0)→wpListIn F 0 P ops Q rest a' w):wpListIn F 0 P ops Q (o::rest) a w:=by
 refine wpListIn_plain hg fun K hK=>⟨fun f _=>hF f,?_⟩
 rw[Oper.semAt_eq _ _ _ gE,ha.eval]
 obtain⟨v,hv,hr,_⟩:=mU h
 rw[hr w hw]
 subst hv
 exact hK _ _ (k _ (ha.put hd _))
theorem Fw{s:Sem Value}{K:Value→Hp→Prop}(hF:∀f,F.fn f)(hg:o.guard=none)(gE:∀c,o.op≠.defer c)(hd:dG n o.dst=true)(ha:Av ds n a fr)(he:execOp (ev fr) o=(do pure (.value (←s))))
 (h:∃v w' H',s.run P w=.ok v w'∧Own g H' w'∧K v H')
 (k:∀v H' w' a',K v H'→Own g H' w'→Av ds n a' (bS fr o.dst v)→wpListIn F 0 P ops Q rest a' w'):wpListIn F 0 P ops Q (o::rest) a w:=by
 refine wpListIn_plain hg fun K hK=>⟨fun f _=>hF f,?_⟩
 rw[Oper.semAt_eq _ _ _ gE,ha.eval,he]
 obtain⟨v,w',H',hr,ho,hk⟩:=h
 simp only[Sem.run_bind,hr,Result.andThen_ok,Sem.run_pure]
 exact hK _ _ (k v H' w' _ hk ho (ha.put hd _))
theorem JR{s:Sem Value}{K:Value→Hp→Prop}(hF:∀f,F.fn f)(hg:o.guard=none)(gE:∀c,o.op≠.defer c)(hd:dG n o.dst=true)(ha:Av ds n a fr)(hw:Own g H w)(he:execOp (ev fr) o=(do pure (.value (←s))))
 (h:MZ P g o (ev fr) H K (fun _ _=>False))
 (k:∀v H' w' a',K v H'→Own g H' w'→Av ds n a' (bS fr o.dst v)→wpListIn F 0 P ops Q rest a' w'):wpListIn F 0 P ops Q (o::rest) a w:=by
 have h1:=sE (nf fr) h w hw
 rw[he]at h1
 refine Fw (g:=g) (K:=K) hF hg gE hd ha he ?_ k
 cases hs:s.run P w with
 |ok v w'=>
  simp only[Sem.run_bind,hs,Result.andThen_ok,Sem.run_pure,mM]at h1
  obtain⟨H',ho,hk⟩:=h1
  exact⟨v,w',H',rfl,ho,hk⟩
 |halt x w'=>
  simp only[Sem.run_bind,hs,Result.andThen]at h1
  cases x<;>simp only[mM]at h1
  obtain⟨_,_,hk⟩:=h1;exact hk.elim
theorem T7{s:Sem Unit}{K:Value→Hp→Prop}(hF:∀f,F.fn f)(hg:o.guard=none)(gE:∀c,o.op≠.defer c)(hd:dG n o.dst=true)(ha:Av ds n a fr)(hw:Own g H w)(he:execOp (ev fr) o=(do s;pure .skip))
 (h:MZ P g o (ev fr) H K (fun _ _=>False))
 (k:∀H' w' a',K undef H'→Own g H' w'→Av ds n a' (bS fr o.dst undef)→wpListIn F 0 P ops Q rest a' w'):wpListIn F 0 P ops Q (o::rest) a w:=by
 have h1:=sE (nf fr) h w hw
 rw[he]at h1
 refine wpListIn_plain hg fun K hK=>⟨fun f _=>hF f,?_⟩
 rw[Oper.semAt_eq _ _ _ gE,ha.eval,he]
 cases hs:s.run P w with
 |ok v w'=>
  simp only[Sem.run_bind,hs,Result.andThen_ok,Sem.run_pure,mM]at h1⊢
  obtain⟨H',ho,hk⟩:=h1
  exact hK _ _ (k H' w' _ hk ho (ha.put hd _))
 |halt x w'=>
  simp only[Sem.run_bind,hs,Result.andThen]at h1
  cases x<;>simp only[mM]at h1
  obtain⟨_,_,hk⟩:=h1;exact hk.elim
theorem tJ{m:Nat}{args:List Value}(hl:args.length≤m):Av [] m {tmps:=args.toArray++Array.replicate (m-args.toArray.size) undef,defers:=[]} (iB args 0):=by
 refine⟨rfl,by simp;omega,fun s=>?_⟩
 rw[kC,Array.getD_eq_getD_getElem?,Array.getElem?_append]
 simp only[List.size_toArray,Nat.not_lt_zero,if_false,Nat.sub_zero]
 by_cases hs:s<args.length
 ·simp[hs,List.getD]
 ·rw[if_neg hs,Array.getElem?_replicate]
  have:args.getD s undef=undef:=by simp[List.getD,List.getElem?_eq_none (Nat.le_of_not_lt hs)]
  rw[this]
  split<;>rfl
theorem Own.putObj{g:Gh}{H H':Hp}{w:World}{b:Nat}{o o':Obj}(h:Own g H w)(u:cD b o o' H H'):Own g H' (w.putObj b o'):=by
 have hb:=h.lt u.mem
 exact h.bS u rfl rfl rfl (World.putObj_heap_same hb) fun c hc=>World.putObj_heap_other hc
def Gw{α:Type}(P:Program)(f:FuncId)(cap:Array Value)(B:Hp)(enc:α→Value)(N:Nat)(S:List α→Prop):Prop:=
 ∀(g:Gh) (l:Nat) (G:List α→Hp→Prop),
  (∀ss x A X W,G ss A→ss.length<N→Own g (A++X) W→YieldAt Fence.wide 0 P l #[enc x] W (fun e W'=>e=.returned (.bool true)∧∃A',G (ss++[x]) A'∧Own g (A'++X) W'))→
  ∀A W,G [] A→Own g (A++B) W→CallsIn Fence.wide 0 P f (#[.func (.yield l) #[] #[]]++cap) W (fun e W'=>(∃v,e=.returned v)∧∃ss A',S ss∧G ss A'∧Own g (A'++B) W')
open Classical in
noncomputable def pg(p:Nat→Prop):Nat:=if h:∃k,p k then Classical.choose (jz h)else 0
theorem Bn{p:Nat→Prop}{k:Nat}(h:p k):pg p≤k:=by
 unfold pg
 rw[dif_pos ⟨k,h⟩]
 exact(Classical.choose_spec (jz ⟨k,h⟩)).2 k h
theorem xj{p:Nat→Prop}(h:∃k,p k):p (pg p):=by
 unfold pg
 rw[dif_pos h]
 exact(Classical.choose_spec (jz h)).1
theorem AR{c:Code}(J:Nat→Act→World→Prop){k:Nat}(h0:J k a w)
 (round:∀k a w,J k a w→c.wpIn F 0 P (Exit.then (fun a' w'=>∃k',k'<k∧J k' a' w') Q) a w):(Code.loop c).wpIn F 0 P Q a w:=by
 refine wpIn_loop (fun a w=>∃k,J k a w) (fun a w=>pg fun k=>J k a w) ⟨k,h0⟩ fun a w h=>?_
 refine Code.wpIn_mono (fun e a' w' hq=>?_) (round _ a w (xj h))
 cases e with
 |normal=>
  obtain⟨k',hlt,hj⟩:=hq
  exact⟨⟨k',hj⟩,Nat.lt_of_le_of_lt (Bn hj) hlt⟩
 |_=>exact hq
end
end Go.Sx
set_option maxRecDepth 100000
namespace Go.Proofs
open Go Go.Sx
open aC
section
variable {es:Array MapEntry} {ck b:Nat} {m:List (Nd×Nat)}
theorem GL(B:Hp):Fc Tryz.prog 251 #[.map (some b)] B
  (fun v H=>∃bm,v=.func (.func 275) #[] #[ptr bm]∧H=(bm,.cells #[.map (some b)] 266 (0,0))::B):=by
 refine aR fun g=>Dq ?_
 intro b1 _
 exact aS.here ⟨b1,rfl,rfl⟩
noncomputable abbrev VF:Func:=Tryz.f275
def VAt(g:Gh)(bi b:Nat)(l:Nat)(es:Array MapEntry)(ck:Nat)(m:List (Nd×Nat))(G:List Nat→Hp→Prop)(B:Hp)(k:Nat)(a:Act)(w:World):Prop:=
 ∃(fr:Fr) (ss:List Nat) (A:Hp) (seen:Array Nat),Av [] 15 a fr∧fr 0=.func (.yield l) #[] #[]∧fr 6=ptr bi∧G ss A∧Own g (A++((bi,.mapIter (some b) ck seen ck)::B)) w∧
  (ss++(cA es m seen).map Prod.snd).Perm (m.map Prod.snd)∧k=(cA es m seen).length
theorem AT{bm:Nat}{fz:Nat×Nat}(h:aN nK Ju es ck m):Gw Tryz.prog 275 #[ptr bm] [(bm,.cells #[.map (some b)] 266 fz),(b,.map es ck)] u32 m.length
  (fun ss=>ss.Perm (m.map Prod.snd)):=by
 intro g l G hY A W h0 hW
 have hF:∀f,Fence.wide.fn f:=fun _=>trivial
 refine callsIn_of_wp Tryz.func275 rfl trivial ?_
 have ha:=tJ (m:=15) (args:=[.func (.yield l) #[] #[],ptr bm]) (by simp)
 refine wpIn_seq ?_
 refine wpIn_region_lit ?_
 obtain⟨B,hB⟩:∃B,B=[(bm,Obj.cells #[.map (some b)] 266 fz),(b,.map es ck)]:=⟨_,rfl⟩
 rw[←hB]at hW
 have zv:(bm,Obj.cells #[.map (some b)] 266 fz)∈A++B:=by rw[hB];exact List.mem_append_right _ (.head _)
 have sY:(b,Obj.map es ck)∈A++B:=by rw[hB];exact List.mem_append_right _ (.tail _ (.head _))
 have hmB:∀{X:Hp},(b,Obj.map es ck)∈X++B:=by intro X;rw[hB];exact List.mem_append_right _ (.tail _ (.head _))
 rw[←hB]
 have e0:Az Tryz.prog g (fI VF 0 0) (ev (iB [.func (.yield l) #[] #[],ptr bm] 0)) (A++B) (fun x=>x=.map (some b))=Ld (A++B) (ptr bm) (fun x=>x=.map (some b)):=by kernel_rfl
 refine iq (g:=g) (n:=15) (v0:=.map (some b)) hF rfl (by intro c h;cases h) rfl ha hW (e0.mpr (Ld.mk zv rfl rfl)) fun a1 BM=>?_
 refine Fw (g:=g) (n:=15) (s:=Instr.range 266 (.map (some b))) (K:=fun v H=>∃bi,v=ptr bi∧H=(bi,.mapIter (some b) ck #[] ck)::(A++B)) hF rfl (by intro c h;cases h) rfl BM rfl
  (TU.run (.inr ⟨b,es,ck,rfl,sY,fun bi _=>⟨bi,rfl,rfl⟩⟩) hW (t:=266) (kt:=161) (e:=77) (by kernel_rfl)) fun v H' w1 a2 hv jj ya=>?_
 obtain⟨bi,rfl,rfl⟩:=hv
 refine wpListIn_nil ?_
 have py:Own g (A++((bi,.mapIter (some b) ck #[] ck)::B)) w1:=jj.perm (List.perm_middle).symm
 clear jj BM ha hW zv sY
 refine wpIn_block ?_
 refine AR (VAt g bi b l es ck m G B) (k:=(cA es m #[]).length) ⟨_,[],A,#[],ya,rfl,rfl,h0,py,by rw[nU h];exact .refl _,rfl⟩ ?_
 clear ya py h0 e0 A
 rintro k a w ⟨fr,ss,A,seen,ha,f0,f6,hG,hw,dg,hk⟩
 refine wpIn_seq ?_
 refine wpIn_region_lit ?_
 have e6:ev fr (.tmp 6)=ptr bi:=f6
 refine Fw (g:=g) (n:=15) (s:=Instr.next (ptr bi) false 0)
  (K:=fun v H=>(cA es m seen=[]∧v=.tuple #[.bool false]∧H=A++((bi,.mapIter (some b) ck seen ck)::B))∨
   ∃(e:MapEntry) (x:Nd×Nat) (seen':Array Nat),v=.tuple #[.bool true,e.key,e.val]∧e.val=u32 x.2∧(cA es m seen).Perm (x::cA es m seen')∧seen'.back?=some e.born∧es.find? (·.born==e.born)=some e∧
    H=A++((bi,.mapIter (some b) ck seen' ck)::B)) hF rfl (by intro c h;cases h) rfl ha ?_
  (S6.run (h.next (bi:=bi) (bm:=b) (seen:=seen) (H:=A++((bi,.mapIter (some b) ck seen ck)::B)) (List.mem_append_right _ (.tail _ (by rw[hB];exact .tail _ (.head _)))) (List.mem_append_right _ (.head _))
   (fun e x seen' he hk hv hp hb hf=>⟨_,(cD.head _).bO A,.inr ⟨e,x,seen',rfl,hv,hp,hb,hf,rfl⟩⟩) (fun hu=>.inl ⟨hu,rfl,rfl⟩)) hw) fun v H' w1 a1 hv jj BM=>?_
 ·rw[e6.symm];rfl
 rcases hv with⟨hu,rfl,rfl⟩|⟨e,x,seen',rfl,TA,hp,WW,Vg,rfl⟩
 ·refine iq (g:=g) (n:=15) (v0:=.bool false) hF rfl (by intro c h;cases h) rfl BM jj ⟨_,_,rfl,rfl,rfl⟩ fun a2 ya=>?_
  refine wpListIn_nil ?_
  refine wpIn_seq ?_
  refine wpIn_cond_false (by rw[ya.eval];rfl) ?_
  refine wpIn_exit ?_
  simp only[Exit.then,Exit.inBlock,if_true,bodyPost]
  refine⟨ya.defers,_,results_none rfl _ _ _,⟨_,rfl⟩,ss,A,?_,hG,(jj.perm List.perm_middle).tail⟩
  rw[hu,List.map_nil,List.append_nil]at dg
  exact dg
 ·refine iq (g:=g) (n:=15) (v0:=.bool true) hF rfl (by intro c h;cases h) rfl BM jj ⟨_,_,rfl,rfl,rfl⟩ fun a2 ya=>?_
  refine wpListIn_nil ?_
  refine wpIn_seq ?_
  refine wpIn_cond_true (by rw[ya.eval];rfl) ?_
  refine wpIn_skip ?_
  refine wpIn_block ?_
  refine wpIn_seq ?_
  refine wpIn_region_lit ?_
  refine Fw (g:=g) (n:=15) (s:=Instr.entry (ptr bi)) (K:=fun v H=>v=.tuple #[e.key,e.val]∧H=A++((bi,.mapIter (some b) ck seen' ck)::B)) hF rfl (by intro c h;cases h) rfl ya ?_ ?_ fun v H' w2 a3 hv py HN=>?_
  ·rw[e6.symm];rfl
  ·obtain⟨v,hr,hv⟩:=I8.run (P:=Tryz.prog) (k:=fun v=>v=.tuple #[e.key,e.val]) ⟨bi,b,ck,seen',e.born,ck,es,e,rfl,List.mem_append_right _ (.head _),WW,List.mem_append_right _ (.tail _ (by rw[hB];exact .tail _ (.head _))),Vg,rfl⟩ jj
   exact⟨v,w1,_,hr,jj,hv,rfl⟩
  obtain⟨rfl,rfl⟩:=hv
  refine iq (g:=g) (n:=15) (v0:=u32 x.2) hF rfl (by intro c h;cases h) rfl HN py ⟨_,_,rfl,rfl,TA⟩ fun a4 O2=>?_
  refine iq (g:=g) (n:=15) (v0:=u32 x.2) hF rfl (by intro c h;cases h) rfl O2 py (show u32 x.2=u32 x.2 from rfl) fun a5 O1=>?_
  refine wpListIn_nil ?_
  refine wpIn_seq ?_
  refine wpIn_region_lit ?_
  refine iq (g:=g) (n:=15) (v0:=.func (.yield l) #[] #[]) hF rfl (by intro c h;cases h) rfl O1 py f0 fun a6 O0=>?_
  refine iq (g:=g) (n:=15) (v0:=u32 x.2) hF rfl (by intro c h;cases h) rfl O0 py (show u32 x.2=u32 x.2 from rfl) fun a7 TJ=>?_
  have hlen:(cA es m seen).length=(cA es m seen').length+1:=by rw[hp.length_eq];rfl
  have hlt:ss.length<m.length:=by
   have:=dg.length_eq
   simp only[List.length_append,List.length_map]at this⊢
   omega
  obtain⟨fn,tmps,assign,body,hy,hR⟩:=hY _ x.2 A _ w2 hG hlt py
  refine wpListIn_plain rfl fun K hK=>⟨fun _ _=>trivial,?_⟩
  rw[Oper.semAt_eq _ _ _ (by intro c h;cases h),TJ.eval]
  have hex:∀F7:Fr,F7=bS (bS (bS (bS (bS (bS (bS fr (some 7) (.tuple #[.bool true,e.key,e.val])) (some 8) (.bool true)) (some 9) (.tuple #[e.key,e.val])) (some 10) (u32 x.2)) (some 4) (u32 x.2)) (some 11) (.func (.yield l) #[] #[])) (some 12) (u32 x.2)→(execOp (ev F7) (fI VF 3 2)).run Tryz.prog w2=.ok (.round l fn tmps assign body) w2:=fun F7 hF7=>by
   have v11:ev F7 (.tmp 11)=.func (.yield l) #[] #[]:=by rw[hF7];rfl
   have Xn:ev F7 (.tmp 12)=u32 x.2:=by rw[hF7];rfl
   have e11:execOp (ev F7) (fI VF 3 2)=(do let d ←resolve (ev F7) {callee:=.value (.tmp 11),args:=#[.tmp 12],argTypes:=#[77]} 4;invoke d.target d.args):=rfl
   rw[e11]
   simp[resolve,Deferred.ofValue,v11,Xn,invoke,go_sem,hy]
  refine(congrArg (Oper.uponIn Fence.wide 0 Tryz.prog (fI VF 3 2) a7 K _) (hex _ rfl)).mpr ⟨fun h=>(by cases h),hR.mono ?_⟩
  rintro e' w3 ⟨rfl,A',HR,OC⟩
  refine hK _ _ ?_
  have ha8:=TJ.put (d:=some 13) rfl (.bool true)
  refine iq (g:=g) (n:=15) (v0:=.bool false) hF rfl (by intro c h;cases h) rfl ha8 OC ⟨_,rfl,rfl⟩ fun a9 ha9=>?_
  refine wpListIn_nil ?_
  refine wpIn_cond_false (by rw[ha9.eval];rfl) ?_
  refine wpIn_skip ?_
  refine⟨(cA es m seen').length,by omega,_,ss++[x.2],A',seen',ha9,f0,f6,HR,OC,?_,rfl⟩
  rw[List.append_assoc]
  exact((hp.map Prod.snd).append_left ss).symm.trans dg
end
end Go.Proofs
set_option maxRecDepth 100000
namespace Go.Proofs
open Go Go.Sx
open aC
section
noncomputable abbrev AF:Func:=Tryz.f284
variable {f:FuncId} {cap:Array Value} {B:Hp} {N:Nat} {S:List Nat→Prop}
noncomputable def cL:Code:=match AF.body with|some (.seq _ (.seq (.seq _ (.block _ (.rangeFunc _ _ c _))) _))=>c|_=>.skip
noncomputable def eO:Code:=match AF.body with|some (.seq _ (.seq (.seq _ (.block _ (.rangeFunc _ _ _ c))) _))=>c|_=>.skip
noncomputable def PF(i:Nat):Oper:=match eO with| .block _ (.region _ ops _)=>(match ops[i]? with|some o=>o|none=>default)|_=>default
def jP(fn:FuncId)(tmps:Array Value)(assign body:Code)(D:Nat):Loop:={state:=.ready,pending:=none,fn,tmps,params:=#[7],assign,body,defers:=D}
def ZN(l D bs:Nat)(fn:FuncId)(tmps:Array Value)(assign body:Code)(ss:List Nat)(A:Hp):Prop:=
 ∃v C',A=(l,.loop (jP fn tmps assign body D))::(D,.deferred (some []))::(bs,.cells #[v] 27 (0,0))::C'∧aK 77 .u32 v (iw ss) C'
theorem MF{g:Gh}{l D bs:Nat}{fn:FuncId}{tmps:Array Value}{fr:Fr}(hsz:tmps.size=13)(gf:∀s,tmps.getD s undef=fr s)(f2:fr 2=ptr bs){ss:List Nat}{x:Nat}{A X:Hp}{W:World}
 (hG:ZN l D bs fn tmps cL eO ss A)(hl:ss.length<1099511627776)(hW:Own g (A++X) W):
  YieldAt Fence.wide 0 Tryz.prog l #[u32 x] W (fun e W'=>e=.returned (.bool true)∧∃A',ZN l D bs fn tmps cL eO (ss++[x]) A'∧Own g (A'++X) W'):=by
 obtain⟨v,C',rfl,ho⟩:=hG
 have hF:∀f,(Fence.wide.inRound l).fn f:=fun _=>trivial
 have hL:W.heap[l]? =some (.loop (jP fn tmps cL eO D)):=hW.has _ (.head _)
 refine⟨fn,_,cL,eO,run_yield hL rfl,roundIn_of_wpIn trivial ?_⟩
 have ha:Av [] 13 {tmps:=tmps.setIfInBounds 7 (u32 x),defers:=[]} (bS fr (some 7) (u32 x)):=(Av.put (a:={tmps:=tmps,defers:=[]}) (d:=some 7) ⟨rfl,hsz,gf⟩ rfl (u32 x))
 have ha:Av [] 13 {tmps:=(#[7].zip #[u32 x]).foldl (fun tmps (t,a)=>tmps.setIfInBounds t a) tmps,defers:=[]} (bS fr (some 7) (u32 x)):=by simpa using ha
 change Code.wpIn _ 0 Tryz.prog (.region _ #[_] false) _ _ _
 refine wpIn_region_lit ?_
 refine iq (g:=g) (n:=13) (v0:=u32 x) hF rfl (by intro c h;cases h) rfl ha hW rfl fun a1 BM=>?_
 refine wpListIn_nil ?_
 have hbr:=run_beginRound (P:=Tryz.prog) hL rfl
 refine⟨_,hbr,?_⟩
 have QI:=hW.putObj (o':=.loop {jP fn tmps cL eO D with state:=.busy}) (.head _)
 change Code.wpIn _ 0 Tryz.prog (.block _ (.region _ #[_,_,_,_,_] false)) _ _ _
 refine wpIn_block ?_
 refine wpIn_region_lit ?_
 obtain⟨H1,Zf⟩:∃H1,H1=(l,Obj.loop {jP fn tmps cL eO D with state:=.busy})::(((D,.deferred (some []))::(bs,.cells #[v] 27 (0,0))::C')++X):=⟨_,rfl⟩
 replace QI:Own g H1 (W.putObj l (.loop {jP fn tmps cL eO D with state:=.busy})):=by rw[Zf];exact QI
 have e0:Az Tryz.prog g (PF 0) (ev (bS (bS fr (some 7) (u32 x)) (some 5) (u32 x))) H1 (fun z=>z=v)=Ld H1 (fr 2) (fun z=>z=v):=by kernel_rfl
 refine iq (g:=g) (n:=13) (v0:=v) hF rfl (by intro c h;cases h) rfl BM QI (e0.mpr (by rw[f2];exact Ld.mk (by rw[Zf];exact .tail _ (.tail _ (.head _))) rfl rfl)) fun a2 ya=>?_
 refine iq (g:=g) (n:=13) (v0:=u32 x) hF rfl (by intro c h;cases h) rfl ya QI rfl fun a3 HN=>?_
 have eb:∀K:Value→Hp→Prop,aq Tryz.prog 27 1 [(0,.int .u32 (x:Int))] H1 K=MZ Tryz.prog g (PF 2) (ev (bS (bS (bS (bS fr (some 7) (u32 x)) (some 5) (u32 x)) (some 8) v) (some 9) (u32 x))) H1 K (fun _ _=>False):=fun K=>by kernel_rfl
 refine JR (g:=g) (n:=13) (s:=_) (K:=fun v H=>∃b,v=.slice (some ⟨b,0,none⟩) 1 1∧H=(b,.cells (ax .u32 [(x:Int)]) 77 (0,0))::H1) hF rfl (by intro c h;cases h) rfl HN QI rfl
  ((eb _).mp (aq.int (by kernel_rfl) (by kernel_rfl) (by kernel_rfl) fun b=>⟨b,rfl,rfl⟩)) fun v1 H2 w2 a4 hv VA O2=>?_
 obtain⟨b,rfl,rfl⟩:=hv
 have hn:(iw ss).length=ss.length:=ai ss
 obtain⟨H2,hH2⟩:∃H2,H2=(b,Obj.cells (ax .u32 [(x:Int)]) 77 (0,0))::H1:=⟨_,rfl⟩
 rw[←hH2]at VA
 refine JR (g:=g) (n:=13) (s:=_) (K:=fun v' H=>∃C2,aK 77 .u32 v' (iw (ss++[x])) C2∧H=(b,Obj.cells (ax .u32 [(x:Int)]) 77 (0,0))::(l,Obj.loop {jP fn tmps cL eO D with state:=.busy})::(D,.deferred (some []))::(bs,.cells #[v] 27 (0,0))::(C2++X))
  hF rfl (by intro c h;cases h) rfl O2 VA (by simp only[execOp,resolve,invoke,builtin];simp[bind,Sem.bind];rfl) ?_ fun v2 H3 w3 a5 hv O3 O1=>?_
 ·have e1:∀K:Value→Hp→Prop,App Tryz.prog 77 1 4 (.int .u32 0) H2 v (.slice (some ⟨b,0,none⟩) 1 1) K=
   MZ Tryz.prog g (PF 3) (ev (bS (bS (bS (bS (bS fr (some 7) (u32 x)) (some 5) (u32 x)) (some 8) v) (some 9) (u32 x)) (some 10) (.slice (some ⟨b,0,none⟩) 1 1))) H2 K (fun _ _=>False):=fun K=>by kernel_rfl
  refine(e1 _).mp ?_
  rw[hH2,Zf]
  refine ho.pN (.cons (.cons (.cons (.cons .left)))) (by exact .head _) (by omega) (by omega) fun v' C2 uG=>⟨C2,?_,rfl⟩
  rw[bP];exact uG
 obtain⟨C2,uG,rfl⟩:=hv
 have es:∀(H:Hp) (K:Value→Hp→Prop),St 1 H (fr 2) v2 (fun H'=>K undef H')=MZ Tryz.prog g (PF 4) (ev (bS (bS (bS (bS (bS (bS fr (some 7) (u32 x)) (some 5) (u32 x)) (some 8) v) (some 9) (u32 x)) (some 10) (.slice (some ⟨b,0,none⟩) 1 1)) (some 11) v2)) H K (fun _ _=>False):=fun H K=>by kernel_rfl
 refine T7 (g:=g) (n:=13) (s:=_) (K:=fun _ H=>H=(b,Obj.cells (ax .u32 [(x:Int)]) 77 (0,0))::(l,Obj.loop {jP fn tmps cL eO D with state:=.busy})::(D,.deferred (some []))::(bs,.cells #[v2] 27 (0,0))::(C2++X))
  hF rfl (by intro c h;cases h) rfl O1 O3 rfl ((es _ _).mp ?_) fun H4 w4 a6 hv WY O0=>?_
 ·rw[f2]
  exact St.one (.tail (.tail (.tail (.head _)))) uG.one (by simp) rfl rfl
 subst hv
 refine wpListIn_nil ?_
 simp only[Exit.inBlock,roundPost]
 refine⟨_,_,run_endRound none (WY.has _ (.tail _ (.head _))),rfl,_,⟨v2,C2,rfl,uG⟩,?_⟩
 exact(WY.putObj (.tail (.head _))).tail
theorem Ii(hg:Gw Tryz.prog f cap B u32 N S)(hc:bu Tryz.prog f=true)(hN:N≤1099511627776):
  Fc Tryz.prog 284 #[.slice none 0 0,.func (.func f) #[] cap] B (fun v H=>∃ss C',S ss∧H=C'++B∧aK 77 .u32 v (iw ss) C'):=by
 intro g w hw
 rw[←callsIn_wide (n:=0)]
 have hF:∀f,Fence.wide.fn f:=fun _=>trivial
 refine callsIn_of_wp_marks Tryz.func284 rfl trivial ?_
 have ha:=tJ (m:=13) (args:=[.slice none 0 0,.func (.func f) #[] cap]) (by simp)
 refine wpIn_seq ?_
 refine wpIn_region_lit ?_
 refine JR (g:=g) (n:=13) (s:=_) (K:=fun v H=>∃bs,v=ptr bs∧H=(bs,.cells #[.slice none 0 0] 27 (0,0))::B) hF rfl (by intro c h;cases h) rfl ha hw rfl (fun bs _=>⟨bs,rfl,rfl⟩) fun v H1 w1 a1 hv jj BM=>?_
 obtain⟨bs,rfl,rfl⟩:=hv
 refine iq (g:=g) (n:=13) (v0:=.slice none 0 0) hF rfl (by intro c h;cases h) rfl BM jj rfl fun a2 ya=>?_
 refine wpListIn_nil ?_
 refine wpIn_seq ?_
 refine wpIn_seq ?_
 refine wpIn_region_lit ?_
 refine iq (g:=g) (n:=13) (v0:=.func (.func f) #[] cap) hF rfl (by intro c h;cases h) rfl ya jj rfl fun a3 HN=>?_
 refine wpListIn_nil ?_
 refine wpIn_block ?_
 refine wpIn_rangeFunc fun fn hfn=>?_
 have zm:=(jj.alloc (.deferred (some []))).alloc (.loop (jP fn a3.tmps cL eO w1.heap.size))
 have f6:a3.tmps[6]?.getD undef=.func (.func f) #[] cap:=by have:=HN.get 6;rw[Array.getD_eq_getD_getElem?]at this;exact this
 obtain⟨W1,QI⟩:∃W1,W1=(w1.alloc (.deferred (some []))).alloc (.loop (jP fn a3.tmps cL eO w1.heap.size)):=⟨_,rfl⟩
 rw[←QI]at zm
 refine⟨w1.heap.size+1,[{target:=.collected w1.heap.size,args:=#[]}],W1,{target:=.fn (.func f) cap,args:=#[.func (.yield (w1.heap.size+1)) #[] #[]]},W1,f,#[.func (.yield (w1.heap.size+1)) #[] #[]]++cap,W1,?_,?_,fun _ _=>trivial,?_,fun h=>(by cases h),?_⟩
 ·rw[QI];exact run_enterLoop_outer fn a3.tmps #[7] _ _
 ·simp[resolve,Deferred.ofValue,f6,go_sem]
 ·simp[invoke,go_sem]
  exact eE hc _ _
 have hsz:(w1.alloc (.deferred (some []))).heap.size=w1.heap.size+1:=by simp
 rw[hsz]at zm
 refine CallsIn.mono (hg g (w1.heap.size+1) (ZN (w1.heap.size+1) w1.heap.size bs fn a3.tmps cL eO) (fun ss x A X W hG hl hW=>MF HN.size HN.get rfl hG (by omega) hW) [_,_,_] W1 ⟨_,[],rfl,aK.nil⟩ zm) ?_
 rintro e W2 ⟨⟨v0,rfl⟩,ss,A',hS,⟨v,C',rfl,ho⟩,VA⟩
 refine⟨none,_,run_endLoop (VA.has _ (.head _)) (by simp[jP]),?_⟩
 have O3:=VA.putObj (o':=.loop {jP fn a3.tmps cL eO w1.heap.size with state:=.exhausted}) (.head _)
 simp only[Exit.then,Exit.inBlock]
 have O2:Av [{target:=.collected w1.heap.size,args:=#[]}] 13 {a3 with defers:=[{target:=.collected w1.heap.size,args:=#[]}]++a3.defers} (bS (bS (bS (iB [.slice none 0 0,.func (.func f) #[] cap] 0) (some 2) (ptr bs)) (some 4) (.slice none 0 0)) (some 6) (.func (.func f) #[] cap)):=
  ⟨by rw[HN.defers];rfl,HN.size,HN.get⟩
 refine wpIn_seq ?_
 refine wpIn_region_lit ?_
 obtain⟨H3,Ze⟩:∃H3,H3=(w1.heap.size+1,Obj.loop {jP fn a3.tmps cL eO w1.heap.size with state:=.exhausted})::(((w1.heap.size,.deferred (some []))::(bs,.cells #[v] 27 (0,0))::C')++B):=⟨_,rfl⟩
 replace O3:Own g H3 (W2.putObj (w1.heap.size+1) (.loop {jP fn a3.tmps cL eO w1.heap.size with state:=.exhausted})):=by rw[Ze];exact O3
 have e0:Az Tryz.prog g (fI AF 4 0) (ev (bS (bS (bS (iB [.slice none 0 0,.func (.func f) #[] cap] 0) (some 2) (ptr bs)) (some 4) (.slice none 0 0)) (some 6) (.func (.func f) #[] cap))) H3 (fun z=>z=v)=Ld H3 (ptr bs) (fun z=>z=v):=by kernel_rfl
 refine iq (g:=g) (n:=13) (v0:=v) hF rfl (by intro c h;cases h) rfl O2 O3 (e0.mpr (Ld.mk (by rw[Ze];exact .tail _ (.tail _ (.head _))) rfl rfl)) fun a5 O1=>?_
 refine iq (g:=g) (n:=13) (v0:=v) hF rfl (by intro c h;cases h) rfl O1 O3 rfl fun a6 O0=>?_
 refine wpListIn_nil ?_
 refine wpIn_ret ?_
 simp only[Exit.then,bodyPostM]
 rw[O0.defers]
 rw[Ze]at O3
 refine⟨by simp,.inl ⟨w1.heap.size,_,rfl,run_takeDeferred (O3.has _ (.tail _ (.head _))),?_⟩⟩
 have WY:=O3.putObj (o':=.deferred none) (.tail (.head _))
 refine⟨_,results_tmp rfl _ _ _,C'++B,WY.tail.tail.tail,v,C'++B,?_,.refl _,ss,C',hS,rfl,ho⟩
 have:=O0.get 4
 rw[this]
 rfl
end
section
variable {f:FuncId} {cap:Array Value} {B:Hp} {N:Nat} {S:List Nat→Prop}
theorem BY(hg:Gw Tryz.prog f cap B u32 N S)(hc:bu Tryz.prog f=true)(hN:N≤1099511627776):
  Fc Tryz.prog 273 #[.func (.func f) #[] cap] B (fun v H=>∃ss C',S ss∧H=C'++B∧aK 77 .u32 v (iw ss) C'):=by
 refine aR fun g=>Da ?_
 refine ae.fq (Ii hg hc hN) ?_
 rintro v H h
 exact aS.here h
theorem FI{l':List Int}{ss:List Nat}(h:l'.Perm (iw ss)):∃l:List Nat,l.Perm ss∧l'=iw l:=by
 refine⟨l'.map Int.toNat,?_,?_⟩
 ·have:=h.map Int.toNat
  rw[iw,List.map_map]at this
  have e:(Int.toNat∘(Nat.cast:Nat→Int))=id:=by funext x;simp
  rw[e,List.map_id]at this
  exact this
 ·unfold iw
  rw[List.map_map]
  have:∀x∈l',((Nat.cast:Nat→Int)∘Int.toNat) x=x:=fun x hx=>by
   obtain⟨n,_,rfl⟩:=List.mem_map.1 (h.mem_iff.1 hx)
   simp
  rw[List.map_congr_left this,List.map_id']
theorem GU(hg:Gw Tryz.prog f cap B u32 N S)(hS:∀ss,S ss→ss.length≤N)(hc:bu Tryz.prog f=true)(hN:N≤1099511627776):
  Fc Tryz.prog 250 #[.func (.func f) #[] cap] B (fun v H=>∃ss l C',S ss∧l.Perm ss∧H=C'++B∧aK 77 .u32 v (iw l) C'):=by
 refine aR fun g=>Dr ?_
 refine ae.fq (BY hg hc hN) ?_
 rintro v H ⟨ss,C',hs,rfl,ho⟩
 have hlen:=hS ss hs
 refine ae.fn (.left (A:=B)) (NL ho (by rw[ai];omega)) ?_
 rintro w C2 ⟨rfl,l',hp,cj⟩
 obtain⟨l,hl,rfl⟩:=FI hp
 exact aS.here ⟨ss,l,C2,hs,hl,rfl,cj⟩
end
theorem NU{pt n v:Nat}{T:Nd→Option Nat}{C:Hp}(h:mH pt n T C)(hv:v<n)(hinj:∀d d' r,T d=some r→T d'=some r→d=d')(hb:∀d r,T d=some r→r<1048576):
  Fc Tryz.prog 203 #[ptr pt,.int .i64 (v:Int)] C (fun r H=>∃w l N,r=.tuple #[w,.int .i64 0]∧H=N++C∧aK 77 .u32 w (iw l) N∧l.Nodup∧∀r,r∈l↔∃d,T d=some r∧d.v=v):=by
 have h0:=h
 obtain⟨vs,Cs,ms,rfl,hs,ho⟩:=h
 obtain⟨m,hm⟩:∃m,ms[v]? =some m:=⟨_,List.getElem?_eq_getElem (by rw[ho.len];exact hv)⟩
 have he:=ho.ie v m hm
 have hT:∀d:Nd,d.v=v→T d=cR m.l d:=fun d hd=>by rw[ho.T,hd,hm];rfl
 have hmem:∀d r,(d,r)∈m.l↔T d=some r∧d.v=v:=fun d r=>by
  constructor
  ·intro hx
   have hd:=ho.var v m hm _ hx
   exact⟨by rw[hT d hd];exact(dS he.nd).2 hx,hd⟩
  ·rintro⟨h1,h2⟩
   rw[hT d h2]at h1
   exact(dS he.nd).1 h1
 have gE:(m.l.map Prod.snd).Nodup:=by
  refine List.pairwise_map.2 ((List.pairwise_map.1 he.nd).imp_of_mem fun{a b} ha hb' hne e=>hne ?_)
  have h1:=((hmem a.1 a.2).1 ha).1
  have h2:=((hmem b.1 b.2).1 hb').1
  rw[←e]at h2
  exact hinj _ _ _ h1 h2
 have hlen:m.l.length≤1048576:=by
  have:=cf (l':=List.range 1048576) gE fun x hx=>by
   obtain⟨y,hy,rfl⟩:=List.mem_map.1 hx
   exact List.mem_range.2 (hb _ _ ((hmem y.1 y.2).1 hy).1)
  simpa using this
 refine aR fun g=>D5 ?_
 refine ae.eq (jo h0 hv) ?_
 refine aa.cG (Br.F ?_)
 refine Nil.ptr ?_
 refine ag.mk (Ld.mk zM rfl ?_)
 refine hs.Qb (x:=.map (some m.b)) (by rw[List.getElem?_map,hm];rfl) (fun _ h=>by exact .tail _ (List.mem_append_left _ h)) ?_
 refine ae.fq (GL (b:=m.b) _) ?_
 rintro w H ⟨bm,rfl,rfl⟩
 obtain⟨X,Y,hXY⟩:=List.append_of_mem (pc hm)
 have dg:((bm,Obj.cells #[.map (some m.b)] 266 (0,0))::(pt,.cells #[vs] 265 (0,0))::(Cs++Hs ms)).Perm
   ([(bm,.cells #[.map (some m.b)] 266 (0,0)),(m.b,.map m.es m.ck)]++((pt,.cells #[vs] 265 (0,0))::(Cs++(X++Y)))):=by
  rw[hXY]
  refine .cons _ ?_
  show((pt,_)::(Cs++(X++(m.b,_)::Y))).Perm ((m.b,_)::(pt,_)::(Cs++(X++Y)))
  refine .trans (.cons _ ?_) (.swap _ _ _)
  rw[←List.append_assoc,←List.append_assoc]
  exact List.perm_middle
 refine ae.pre (.perm dg) ?_
 refine ae.fq (GU (AT he) (fun ss XY=>by rw[XY.length_eq,List.length_map];exact Nat.le_refl _) (by kernel_rfl) (by omega)) ?_
 rintro w H ⟨ss,l,C',XY,hl,rfl,hown⟩
 have qQ:l.Perm (m.l.map Prod.snd):=hl.trans XY
 refine aS.mk (kZ:=C'++((pt,.cells #[vs] 265 (0,0))::(Cs++Hs ms))) ?_ ⟨w,l,C',rfl,rfl,hown,qQ.nodup_iff.2 gE,fun r=>?_⟩
 ·rw[List.append_assoc]
  refine aM.cQ ?_ C'
  exact(aM.perm dg.symm).trans .tail
 ·rw[qQ.mem_iff,List.mem_map]
  constructor
  ·rintro⟨y,hy,rfl⟩;exact⟨y.1,(hmem y.1 y.2).1 hy⟩
  ·rintro⟨d,hd⟩;exact⟨(d,r),(hmem d r).2 hd,rfl⟩
end Go.Proofs
namespace Go.Sx
open Go
section
variable {P:Program} {g:Gh} {H:Hp} {κ β:Type} [DecidableEq κ] {ke:κ→Value} {vr:Value→β→Prop} {es:Array MapEntry} {ck b:Nat} {m:List (κ×β)} {K:Value→Hp→Prop} {KP:List PanicEntry→Hp→Prop}
omit [DecidableEq κ] in
theorem aN.sameKey(h:aN ke vr es ck m){i:Nat}{k:κ}{x:β}(hi:m[i]? =some (k,x)):es.modify i (fun e=>{e with key:=ke k})=es:=by
 apply Array.ext_getElem?
 intro j
 rw[Array.getElem?_modify]
 split
 ·rename_i e;subst e
  cases he:es[i]? with
  |none=>rfl
  |some e0=>rw[Option.map_some,←(h.key i e0 _ he hi).1]
 ·rfl
theorem aN.Ps{o:Oper}{ρ:Operand→Value}{t kt e:TypeId}{kd:TypeDesc}{mo ko:Operand}{z:Value}{k:κ}{y0:β}(hk:∀a b,xY P kt (ke a) (ke b) (decide (a=b)))(hc:∀a,jW P kt (ke a))(hb:∀a,Instr.sameBits 10000 (ke a) (ke a)=true)
 (ho:o.op=.mapEntry t mo ko)(hm':ρ mo=.map (some b))(hk':ρ ko=ke k)(ht:P.underlying t=some (.map kt e))(zw:P.underlying kt=some kd)(Vy:cu kd=true)(hzd:dR P e=some z)(hvz:vr z y0)
 (h:aN ke vr es ck m){c:Obj→Hp}(Lz:∀o o',cD b o o' (c o) (c o'))
 (h1:∀es' ca v st,aN ke vr es' ca (if k∈m.map Prod.fst then m else m++[(k,y0)])→(∃e∈es'.toList,e.born=st)→K (.tuple #[v,.int .i64 (st:Int)]) (c (.map es' ca))):mJ P g o ρ (c (.map es ck)) K KP:=by
 have uH:(b,Obj.map es ck)∈c (.map es ck):=(Lz _ (.map es ck)).mem
 obtain⟨i,hi,uI⟩:=cc hzd
 refine mJ.ofValue (s:=Instr.mapEntry t (.map (some b)) (ke k)) (by simp only[execOp,ho,hm',hk']) fun w hw=>?_
 have eB:=fun b=>hc k b w
 rcases h.zO hk k with⟨j,x,e0,g1,g2,g3,g4⟩|⟨g1,g2⟩
 ·have nx:=fH (P:=P) zw Vy g4 w
  have hj:=(Array.getElem?_eq_some_iff.1 g1).1
  have hkey:es[j].key=ke k:=(h.key j _ _ (Array.getElem?_eq_getElem hj) g2).1
  have hmem:k∈m.map Prod.fst:=List.mem_map.2 ⟨_,List.mem_of_getElem? g2,rfl⟩
  obtain⟨w',hs,hown⟩:=bG (P:=P) hw (es.modify j fun e=>{e with key:=ke k}) ck (by rw[h.sameKey g2];exact Lz _ (.map es ck))
  refine⟨.tuple #[e0.val,.int .i64 (es[j].born:Int)],w',_,?_,hown,h1 es ck e0.val es[j].born (by rw[if_pos hmem];exact h) ⟨es[j],by simp,rfl⟩⟩
  simp[Instr.mapEntry,run_underlying ht,aV hw uH,eB,nx,hj,Instr.keyThatStays,hkey,hb k,hs,goInt]
 ·have nx:=fH (P:=P) zw Vy g2 w
  obtain⟨w',hs,hown⟩:=bG (P:=P) hw (es.push {key:=ke k,val:=z,born:=ck}) (ck+1) (Lz _ _)
  have sY:=h.more (k:=k) g1 hvz
  have e2:fm m k y0=m++[(k,y0)]:=by unfold fm;rw[if_neg g1]
  rw[e2]at sY
  refine⟨.tuple #[z,.int .i64 (ck:Int)],w',_,?_,hown,h1 _ _ z ck (by rw[if_neg g1];exact sY) ⟨_,by rw[Array.toList_push];exact List.mem_append_right _ (.head _),rfl⟩⟩
  simp[Instr.mapEntry,run_underlying ht,aV hw uH,eB,nx,dj hi uI,hs,goInt]
omit [DecidableEq κ] in
theorem aN.NI{o:Oper}{ρ:Operand→Value}{t:TypeId}{mo so xo:Operand}{st:Nat}(ho:o.op=.entryStore t mo so xo)(hm':ρ mo=.map (some b))(hs':ρ so=.int .i64 (st:Int))
 (h:aN ke vr es ck m)(hst:∃e∈es.toList,e.born=st)(hv:∀x,vr (ρ xo) x){c:Obj→Hp}(Lz:∀o o',cD b o o' (c o) (c o'))
 (h1:∀es',aN ke vr es' ck m→K undef (c (.map es' ck))):mJ P g o ρ (c (.map es ck)) K KP:=by
 have uH:(b,Obj.map es ck)∈c (.map es ck):=(Lz _ (.map es ck)).mem
 refine mJ.p9 (s:=Instr.entryStore t (.map (some b)) (.int .i64 (st:Int)) (ρ xo)) (by simp only[execOp,ho,hm',hs']) fun w hw=>?_
 obtain⟨i,hi⟩:∃i,es.findIdx? (fun e=>(e.born:Int)==(st:Int))=some i:=by
  obtain⟨e,he,rfl⟩:=hst
  rw[←Option.isSome_iff_exists,Array.findIdx?_isSome]
  rw[Array.any_eq_true']
  exact⟨e,by simpa using he,by simp⟩
 obtain⟨w',hs,hown⟩:=bG (P:=P) hw (es.modify i fun e=>{e with val:=ρ xo}) ck (Lz _ _)
 have TE:((es.modify i fun e=>{e with val:=ρ xo}).toList.map MapEntry.born)=es.toList.map MapEntry.born:=by
  apply List.ext_getElem?;intro j
  simp only[List.getElem?_map,Array.getElem?_toList,Array.getElem?_modify]
  split
  ·cases es[j]? <;>rfl
  ·rfl
 refine⟨w',_,?_,hown,h1 _ ⟨by simp[h.len],fun j e x he hx=>?_,h.nd,by rw[TE];exact h.born,fun e he=>?_⟩⟩
 ·simp only[Instr.entryStore,Sem.run_bind,aV hw uH,Result.andThen_ok,asInt,asIntOf,Sem.run_pure]
  simp only[hi,hs]
 ·rw[Array.getElem?_modify]at he
  split at he
  ·cases h0:es[j]? with
   |none=>rw[h0]at he;simp at he
   |some e0=>
    rw[h0]at he
    simp only[Option.map_some,Option.some.injEq]at he
    subst he
    exact⟨(h.key j _ _ h0 hx).1,hv _⟩
  ·exact h.key j _ _ he hx
 ·have:e.born∈(es.modify i fun e=>{e with val:=ρ xo}).toList.map MapEntry.born:=List.mem_map_of_mem he
  rw[TE]at this
  obtain⟨e0,h1,h2⟩:=List.mem_map.1 this
  rw[←h2];exact h.lt e0 h1
end
theorem aZ.out{C H:Hp}{c:Hp→Hp}(h:aZ C H c)(N:Hp):aM (c (N++C)) (N++H):=by
 obtain⟨e,F,hp⟩:=h.spec
 refine .perm ((hp (N++C)).trans ?_)
 rw[List.append_assoc]
 refine List.Perm.append_left N ?_
 have:=hp C
 rw[←e]at this
 exact this.symm
end Go.Sx
set_option maxRecDepth 100000
namespace Go.Proofs
open Go Go.Sx
open aC
section
variable {kp:Nat} {K:Kd} {ord ah tr:List Nat} {C:Hp} {S:Nat→aC.Fn}
def x6(N:dQ)(r:Nat):Int:=match N r with|some d=>(d.v:Int)|none=> -1
theorem zF{N:dQ}{r:Nat}(hl:live N r)(h2:∀d,N r=some d→2≤r):∃lo hi,got N r=[.int .i64 (x6 N r),u32 lo,u32 hi]∧∀e,N r=some e→lo=e.lo∧hi=e.hi:=by
 cases h:N r with
 |some d=>
  refine⟨d.lo,d.hi,?_,fun e he=>by cases he;exact⟨rfl,rfl⟩⟩
  rw[c8 h (h2 d h)];simp[bt,x6,h]
 |none=>
  have hr:r<2:=by
   rcases hl with hl|⟨d,hd⟩
   ·exact hl
   ·rw[h]at hd;cases hd
  refine⟨r,r,?_,fun e he=>by cases he⟩
  rw[dJ hr];simp[x6,h]
theorem yJ(h:cr kp K ord ah tr C){r:Nat}(hr:r<4294967296)(hl:live K.N r)(h2:∀d,K.N r=some d→2≤r)(y:Nat):
  Rd Tryz.prog 204 #[ptr kp,u32 r,.int .i64 (y:Int)] C (· =.tuple #[u32 (pl K.N y r),u32 (ph K.N y r)]):=by
 have h0:=h
 obtain⟨b,rfl,hO⟩:=h
 obtain⟨lo,hi,hg,he⟩:=zF hl h2
 refine aR fun g=>D4 ?_
 refine Nil.ptr (ag.mk ?_)
 refine ae.eq (l7 h0 hr) ?_
 intro b5 _
 refine St.whole (r:=got K.N r) (by exact .head _) rfl (aH _ _).1 (aH _ _).2 ?_
 rw[hg]
 refine Ld.f ?_
 refine aa.gA (Br.dec (fun e=>?_) (fun e=>?_))
 ·refine Ld.f ?_
  refine Ld.f ?_
  cases hN:K.N r with
  |none=>simp[x6,hN]at e<;>omega
  |some d=>
   obtain⟨rfl,rfl⟩:=he d hN
   have hv:d.v=y:=by simp[x6,hN]at e;omega
   obtain⟨e1,e2⟩:=NY hN hv
   exact bN.mk .tail (by rw[e1,e2];rfl)
 ·obtain⟨e1,e2⟩:=NZ (N:=K.N) (y:=y) (r:=r) fun d hd=>by simp[x6,hd]at e<;>omega
  exact bN.mk .tail (by rw[e1,e2])
def jX(c:Cx):List Value:=[u32 c.r,.int .i64 (c.d.v:Int),u32 c.d.lo,u32 c.d.hi,u32 c.uN,u32 c.uM,u32 c.rD,u32 c.rC]
theorem jM(c:Cx):∀x∈jX c,x.oneCell'=true:=by intro x hx;simp[jX,u32]at hx;rcases hx with rfl|rfl|rfl|rfl|rfl|rfl|rfl|rfl<;>rfl
structure uT(N:dQ)(x y:Nat)(l:List Nat)(all:List Cx):Prop where
 nd:(all.map Cx.r).Nodup
 mem:∀c,c∈all↔c.r∈l∧kH N x y c.r c.d∧c=mw N y c.r c.d
theorem uT.skip{N:dQ}{x y r:Nat}{l:List Nat}{all:List Cx}{d:Nd}(h:uT N x y l all)(hd:N r=some d)(hn:¬kH N x y r d):uT N x y (l++[r]) all where
 nd:=h.nd
 mem:=fun c=>by
  rw[h.mem,List.mem_append]
  constructor
  ·rintro⟨h1,h2⟩;exact⟨.inl h1,h2⟩
  ·rintro⟨h1|h1,h2,h3⟩
   ·exact⟨h1,h2,h3⟩
   ·simp at h1
    have:=h2.1
    rw[h1,hd]at this;cases this
    rw[h1]at h2;exact absurd h2 hn
theorem uT.more{N:dQ}{x y r:Nat}{l:List Nat}{all:List Cx}{d:Nd}(h:uT N x y l all)(hr:r∉l)(hn:kH N x y r d):uT N x y (l++[r]) (all++[mw N y r d]) where
 nd:=by
  rw[List.map_append]
  refine List.nodup_append.2 ⟨h.nd,by simp,fun a ha b hb e=>?_⟩
  simp[mw]at hb
  subst e
  obtain⟨c,hc,rfl⟩:=List.mem_map.1 ha
  exact hr (hb▸((h.mem c).1 hc).1)
 mem:=fun c=>by
  rw[List.mem_append,h.mem,List.mem_append,List.mem_singleton,List.mem_singleton]
  constructor
  ·rintro(⟨h1,h2⟩|rfl)
   ·exact⟨.inl h1,h2⟩
   ·exact⟨.inr rfl,hn,rfl⟩
  ·rintro⟨h1|h1,h2,h3⟩
   ·exact .inl ⟨h1,h2,h3⟩
   ·right
    have h4:=h2.1
    rw[h1,hn.1]at h4;cases h4
    exact h3.trans (by rw[h1])
theorem uT.all{N:dQ}{x y:Nat}{l:List Nat}{all:List Cx}(h:uT N x y l all)(hl:∀r d,N r=some d→d.v=x→r∈l):Gz N x y all where
 nd:=h.nd
 mem:=fun c=>by
  rw[h.mem]
  exact⟨fun h=>h.2,fun h=>⟨hl _ _ h.1.1 h.1.2.1,h⟩⟩
theorem wZ(h:cr kp K ord ah tr C){r:Nat}(hl:live K.N r)(h2:∀d,K.N r=some d→2≤r){H:Hp}{c:Hp→Hp}(hh:aZ C H c){g:Gh}{Q:Value→Hp→Prop}{KP:List PanicEntry→Hp→Prop}
 (hk:∀lo hi,got K.N r=[.int .i64 (x6 K.N r),u32 lo,u32 hi]→(∀e,K.N r=some e→lo=e.lo∧hi=e.hi)→Q (.agg #[.int .i64 (x6 K.N r),u32 lo,u32 hi]) H):ae Tryz.prog g 174 #[ptr kp,u32 r] H Q KP:=by
 have hr:=h.lt hl
 obtain⟨lo,hi,hg,he⟩:=zF hl h2
 refine ae.eh hh (l7 h (by omega)) ?_
 have:=hk lo hi hg he
 rw[hg]
 exact this
theorem xG(h:cr kp K ord ah tr C)(hok:Ok K S (lv ah)){x y:Nat}(hx:x<K.n):
  Fc Tryz.prog 134 #[ptr kp,.int .i64 (x:Int),.int .i64 (y:Int)] C (fun r H=>∃all Na,H=Na++C∧aO 203 8 r (all.map jX) Na∧Gz K.N x y all∧all.length≤1048576):=by
 have hcap:=h.cap
 have h0:=h
 obtain⟨b,hC,hO⟩:=h
 have OE:∀d r,K.T d=some r↔K.N r=some d:=fun d r=>by rw[hok.mid.g8];exact⟨fun h=>h.1,fun h=>⟨h,fun x=>x⟩⟩
 have two:∀{r d},K.N r=some d→2≤r:=fun hd=>(hok.mid.two hd).1
 refine aR fun g=>ES ?_
 rw[hC]
 refine Nil.ptr (ag.mk (ag.mk ?_))
 refine Ld.q ?_
 refine ae.fq (NU hO.ut hx (fun d d' r h1 h2=>by rw[OE]at h1 h2;rw[h1]at h2;cases h2;rfl) (fun d r h1=>by have:=(hok.mid.two ((OE d r).1 h1)).2;omega)) ?_
 rintro w H ⟨sl,l,Nr,rfl,rfl,KZ,gE,hmem⟩
 refine Ext.two ?_
 refine KZ.bc ?_
 rw[ai]
 have hl:∀r∈l,∃d,K.N r=some d∧d.v=x:=fun r hr=>by obtain⟨d,h1,h2⟩:=(hmem r).1 hr;exact⟨d,(OE d r).1 h1,h2⟩
 have hlen:l.length≤1048576:=by
  have:=cf (l':=List.range 1048576) gE fun r hr=>by
   obtain⟨d,hd,_⟩:=hl r hr
   have:=(hok.mid.two hd).2
   exact List.mem_range.2 (by omega)
  simpa using this
 refine⟨fun vs H=>∃(v:Value) (i:Nat) (all:List Cx) (Na:Hp),vs=[v,.int .i64 (i:Int)]∧H=Na++(Nr++C)∧i≤l.length∧aO 203 8 v (all.map jX) Na∧uT K.N x y (l.take i) all∧all.length≤i,
  fun vs _=>l.length-br vs 1,JE.of (aZ.out (C:=b.CT) (.cons (.app .left)) Nr) ⟨_,0,[],[],rfl,by rw[hC];rfl,Nat.zero_le _,aO.nil _ _,⟨by simp,by simp⟩,Nat.le_refl _⟩,?_⟩
 rintro w w' H ⟨v,i,all,Na,hw,rfl,hi,ho,AH,OZ⟩ gs
 simp only[List.cons.injEq,and_true]at hw
 obtain⟨rfl,rfl⟩:=hw
 refine aa.dH (Br.dec (fun hlt=>?_) (fun hge=>?_))
 rotate_left
 ·have:i=l.length:=by omega
  subst this
  rw[List.take_length]at AH
  refine aS.mk (kZ:=Na++C) ?_ ⟨all,Na,by rw[hC],ho,AH.all fun r d hd hv=>(hmem r).2 ⟨d,(OE d r).2 hd,hv⟩,by omega⟩
  exact aM.cQ .right Na
 obtain⟨r,AD⟩:∃r,l[i]? =some r:=⟨_,List.getElem?_eq_getElem hlt⟩
 have jE:l.take (i+1)=l.take i++[r]:=by rw[List.take_add_one,AD];rfl
 have RV:r∉l.take i:=fun hm=>by
  have:(l.take (i+1)).Nodup:=gE.sublist (List.take_sublist _ _)
  rw[jE]at this
  exact(List.nodup_append.1 this).2.2 r hm r (by simp) rfl
 obtain⟨d,hd,nJ⟩:=hl r (List.mem_of_getElem? AD)
 have Sq:=hok.mid.lo hd
 have Sr:=hok.mid.hi hd
 intro Tc BO
 have next:∀v' MK TV,aO 203 8 v' (MK.map jX) TV→uT K.N x y (l.take (i+1)) MK→MK.length≤i+1→Tc [v'] (TV++(Nr++C)):=fun v' MK TV h1 h2 h3=>
  BO _ _ fun gs=>aa.inc (aB.mk ⟨v',i+1,MK,TV,rfl,rfl,by omega,h1,h2,h3⟩ (by simp[br];omega))
 refine KZ.ld (x:=(r:Int)) (bV AD) (fun y hy=>List.mem_append_right _ (List.mem_append_left _ hy)) ?_
 refine Nil.ptr (ag.mk ?_)
 refine wZ h0 (.inr ⟨d,hd⟩) (fun _ h=>two h) (.app (.app .here)) fun lo hi hg he=>?_
 obtain⟨rfl,rfl⟩:=he d hd
 have hvr:x6 K.N r=(x:Int):=by simp[x6,hd,nJ]
 rw[hvr]
 intro Xe _
 refine St.p (by intro z hz;simp[u32]at hz;rcases hz with rfl|rfl|rfl<;>rfl) ?_
 obtain⟨H0,O9⟩:∃H0,H0=(Xe,Obj.cells #[.int .i64 (x:Int),u32 d.lo,u32 d.hi] 161 (0,0))::(Na++(Nr++C)):=⟨_,rfl⟩
 have hEq:((Xe,Obj.cells [Value.int .i64 (x:Int),u32 d.lo,u32 d.hi].toArray 161 (0,0))::(Na++(Nr++C)))=H0:=O9.symm
 rw[hEq]
 intro ZG LR
 have skip:¬kH K.N x y r d→ZG [.bool true] H0:=fun hn=>LR _ _ fun gs=>Br.yes (JE.of (by rw[O9];exact .tail) (next w all Na ho (by rw[jE];exact AH.skip hd hn) (by omega)))
 have take:kH K.N x y r d→ZG [.bool false] H0:=fun hn=>by
  refine LR _ _ fun gs=>Br.no ?_
  rw[O9]
  refine av.q ?_
  refine Build.mk (cs:=jX ⟨r,⟨x,d.lo,d.hi⟩,0,0,0,0⟩) (by kernel_rfl) ?_
  intro b37 _
  refine St.p (jM _) ?_
  refine Ld.f ?_
  refine ae.eq (yJ h0 (by have:=h0.lt Sq;omega) Sq (fun _ h=>two h) y) ?_
  refine Ext.two ?_
  refine ag.mk (St.one (by exact .head _) rfl (by simp[jX]) rfl ?_)
  refine ag.mk (St.one (by exact .head _) rfl (by simp[jX]) rfl ?_)
  refine Ld.f ?_
  refine ae.eq (yJ h0 (by have:=h0.lt Sr;omega) Sr (fun _ h=>two h) y) ?_
  refine Ext.two ?_
  refine ag.mk (St.one (by exact .head _) rfl (by simp[jX]) rfl ?_)
  refine ag.mk (St.one (by exact .head _) rfl (by simp[jX]) rfl ?_)
  have cN:d=⟨x,d.lo,d.hi⟩:=by cases d;simp at nJ;subst nJ;rfl
  have hcell:jX (mw K.N y r d)=[u32 r,.int .i64 (x:Int),u32 d.lo,u32 d.hi,u32 (pl K.N y d.lo),u32 (ph K.N y d.lo),u32 (pl K.N y d.hi),u32 (ph K.N y d.hi)]:=by
   simp[jX,mw,nJ]
  refine av.whole (r:=jX (mw K.N y r d)) (by rw[hcell];exact .head _) rfl ?_
  refine aq.one (e:=203) (z:=.agg #[.int .u32 0,.int .i64 0,.int .u32 0,.int .u32 0,.int .u32 0,.int .u32 0,.int .u32 0,.int .u32 0]) (k:=8) (r:=jX (mw K.N y r d)) (by kernel_rfl) (by kernel_rfl) (by kernel_rfl) (by decide) rfl fun xb=>?_
  refine ho.pN (.cons (.cons (.cons .left))) (by exact .head _) rfl (jM _) ⟨_,rfl,rfl⟩ (by simp;omega) (by simp;omega) fun v' TV cj=>?_
  refine JE.of (.skip (.skip .tail)) (next v' (all++[mw K.N y r d]) TV (by rw[List.map_append];exact cj) (by rw[jE];exact AH.more RV hn) (by simp;omega))
 refine DR.of (R:=[(Xe,Obj.cells #[.int .i64 (x:Int),u32 d.lo,u32 d.hi] 161 (0,0))]) (by rw[O9];exact .left (A:=[_])) ?_
 refine Nil.ptr (ag.mk (Ld.f ?_))
 have heR:aM H0 [(Xe,Obj.cells #[.int .i64 (x:Int),u32 d.lo,u32 d.hi] 161 (0,0))]:=by rw[O9];exact .left (A:=[_])
 intro F
 rw[O9]
 refine wZ h0 Sq (fun _ h=>two h) (.cons (.app (.app .here))) fun lo1 Ty hg1 Jf=>?_
 rw[←O9]
 refine⟨heR,Gx.mk rfl (aa.cG (Br.dec (fun hne=>?_) (fun he=>?_)))⟩
 ·refine Nil.ptr (ag.mk (Ld.f ?_))
  intro F2
  rw[O9]
  refine wZ h0 Sr (fun _ h=>two h) (.cons (.app (.app .here))) fun lo2 BG Qt Qw=>?_
  rw[←O9]
  refine⟨heR,Gx.mk rfl (aa.cG (ay.mk ?_))⟩
  by_cases e2:x6 K.N d.hi=(y:Int)
  ·rw[decide_eq_false (by simpa using e2)]
   refine JE.mk (take ⟨hd,nJ,.inr ?_⟩)
   cases hN:K.N d.hi with
   |none=>simp[x6,hN]at e2<;>omega
   |some f=>exact⟨f,rfl,by simp[x6,hN]at e2;omega⟩
  ·rw[decide_eq_true (by simpa using e2)]
   refine JE.mk (skip ?_)
   rintro⟨_,_,⟨f,hf,Ls⟩|⟨f,hf,Ls⟩⟩
   ·exact hne (by simp[x6,hf,Ls])
   ·exact e2 (by simp[x6,hf,Ls])
 ·have e1:x6 K.N d.lo=(y:Int):=by simpa using he
  refine JE.mk (take ⟨hd,nJ,.inl ?_⟩)
  cases hN:K.N d.lo with
  |none=>simp[x6,hN]at e1<;>omega
  |some f=>exact⟨f,rfl,by simp[x6,hN]at e1;omega⟩
end
end Go.Proofs
set_option maxRecDepth 100000
namespace Go.Proofs
open Go Go.Sx
open aC
section
def Xg:Value→Int
 | .int _ z=>z
 |_=>0
abbrev Xj(v:Value)(z:Int):Prop:=v=.int .i64 z
def tO(es:Array MapEntry)(ck:Nat)(ks:List Nd):Prop:=∃m:List (Nd×Int),aN nK Xj es ck m∧m.map Prod.fst=ks
theorem tO.empty:tO #[] 0 []:=⟨[],aN.empty,rfl⟩
theorem tO.of{es:Array MapEntry}{ck:Nat}{m:List (Nd×Int)}(h:aN nK (fun v _=>∃z,v=.int .i64 z) es ck m):tO es ck (m.map Prod.fst):=by
 have hlen:es.toList.length=m.length:=by simpa using h.len
 have hz:((es.toList.zip m).map fun p=>((p.2.1,Xg p.1.val):Nd×Int)).map Prod.fst=m.map Prod.fst:=by
  rw[List.map_map]
  have:(Prod.fst∘fun(p:MapEntry×(Nd×Int))=>((p.2.1,Xg p.1.val):Nd×Int))=Prod.fst∘Prod.snd:=rfl
  rw[this,←List.map_map,List.map_snd_zip (by omega)]
 refine⟨_,⟨?_,fun i e x he hx=>?_,by rw[hz];exact h.nd,h.born,h.lt⟩,hz⟩
 ·simp[h.len]
 ·have hi:=(Array.getElem?_eq_some_iff.1 he).1
  have BG:i<m.length:=by rw[←h.len];exact hi
  have hm:m[i]? =some m[i]:=List.getElem?_eq_getElem BG
  obtain⟨h1,z,h2⟩:=h.key i e _ he hm
  have hx':x=(m[i].1,Xg e.val):=by
   have e1:es.toList[i]? =some e:=by rw[Array.getElem?_toList];exact he
   rw[List.getElem?_map,(List.getElem?_zip_eq_some (z:=(e,m[i]))).2 ⟨e1,hm⟩]at hx
   simpa using hx.symm
  subst hx'
  exact⟨h1,by rw[h2];rfl⟩
theorem Own.sub{g:Gh}{H:Hp}{w:World}(h:Own g H w){y:Nat×Obj}(hy:y∈H):Own g [y] w:=by
 obtain⟨X,Y,rfl⟩:=List.append_of_mem hy
 exact(h.perm List.perm_middle).left (A:=[y])
noncomputable abbrev FF:Func:=Tryz.f136
theorem six{i:Nat}(hi:i<6):¬Kr .any (nt FF 10) i 6:=fun h=>by
 have e6:(nt FF 10)[6]? =some (fI FF 10 6):=by kernel_rfl
 have:=h _ e6
 have hm:(⟨i,.phase⟩:Edge)∈(fI FF 10 6).after:=by
  have ea:(fI FF 10 6).after=#[⟨0,.data⟩,⟨5,.data⟩,⟨3,.data⟩,⟨4,.chain⟩,⟨0,.phase⟩,⟨1,.phase⟩,⟨2,.phase⟩,⟨3,.phase⟩,⟨4,.phase⟩,⟨5,.phase⟩]:=by kernel_rfl
  rw[ea]
  rcases i with _|_|_|_|_|_|i
  all_goals first|omega|simp
 exact this _ hm rfl rfl
end
section
def Gd(ops:Array Oper)(listed:Array Bool):Bool:=(List.range ops.size).all fun j=>match ops[j]? with
 |some oj=> !listed.getD j true||oj.after.toList.all fun e=> !Region.binds .any e||listed.getD e.on true
 |none=>true
theorem fQ{ops:Array Oper}{listed:Array Bool}(h:Gd ops listed=true):ej .any ops listed:=by
 intro j oj hj hl e he hb
 unfold Gd at h
 have h1:=List.all_eq_true.1 h j (List.mem_range.2 (Array.getElem?_eq_some_iff.1 hj).1)
 simp only[hj,hl,Bool.not_true,Bool.false_or]at h1
 have h2:=List.all_eq_true.1 h1 e (Array.mem_toList_iff.2 he)
 rw[hb]at h2
 simpa using h2
theorem OA{g:Gh}{mb nb:Nat}{es:Array MapEntry}{ck:Nat}{ks:List Nd}{d:Nd}(hmk:tO es ck ks){c:Obj→Hp}(Lz:∀o o',cD mb o o' (c o) (c o'))(Vo:∀o,(nb,Obj.cells (bt d).toArray 161 (0,0))∈c o){K:Hp→Prop}
 (hk:∀es' ca,tO es' ca (if d∈ks then ks else ks++[d])→K (c (.map es' ca))):
  SZ Tryz.prog g 10 (nt FF 10) [7,11] [.map (some mb),ptr nb] (c (.map es ck)) K:=by
 have hm:(mb,Obj.map es ck)∈c (.map es ck):=(Lz _ (.map es ck)).mem
 have hn:=Vo (.map es ck)
 obtain⟨m,hE,rfl⟩:=hmk
 intro a w hok hvs hw
 simp only[List.map_cons,List.map_nil,List.cons.injEq,and_true]at hvs
 obtain⟨h7,h11⟩:=hvs
 obtain⟨n,Yb⟩:∃n,n=a.tmps.size:=⟨_,rfl⟩
 obtain⟨fr,hfr⟩:∃fr:Fr,fr=fun s=>a.tmps.getD s undef:=⟨_,rfl⟩
 have ha:bX a.defers n a fr:=⟨rfl,Yb.symm,fun s=>by rw[hfr]⟩
 have f7:fr 7=.map (some mb):=by rw[hfr];exact h7
 have f11:fr 11=ptr nb:=by rw[hfr];exact h11
 rw[←Yb]at hok
 have eok:gF n (nt FF 10).toList=(Nat.blt 58 n&& (Nat.blt 59 n&& (Nat.blt 60 n&& (Nat.blt 61 n&& (Nat.blt 62 n&& (Nat.blt 63 n&& (true&&true))))))):=by kernel_rfl
 rw[eok]at hok
 simp only[Bool.and_eq_true,Bool.and_true]at hok
 obtain⟨k58,k59,k60,k61,k62,k63⟩:=hok
 refine wp_region_any (by kernel_rfl) ?_
 obtain⟨z0,M6⟩:∃z0:Int,z0=(cR m d).getD 0:=⟨_,rfl⟩
 obtain⟨S0,Nk⟩:∃S0:World→Prop,S0=fun w=>Own g [(nb,Obj.cells (bt d).toArray 161 (0,0))] w∧(Instr.lookup 285 (.map (some mb)) (nK d) false).run Tryz.prog w=.ok (.int .i64 z0) w:=⟨_,rfl⟩
 have look:∀{es':Array MapEntry} {ca:Nat} {m':List (Nd×Int)} {H':Hp} {w':World},aN nK Xj es' ca m'→(mb,Obj.map es' ca)∈H'→Own g H' w'→(cR m' d).getD 0=z0→(Instr.lookup 285 (.map (some mb)) (nK d) false).run Tryz.prog w'=.ok (.int .i64 z0) w':=by
  intro es' ca m' H' w' h1 h2 h3 h4
  have hL:iI Tryz.prog 161 (.int .i64 0) false H' (.map (some mb)) (nK d) (· =.int .i64 z0):=by
   cases hg:cR m' d with
   |some z=>exact aN.BE (ke:=nK) (k:=d) o5 kz h1 h2 hg (by rintro v rfl;rw[hg]at h4;simp at h4;rw[h4];rfl)
   |none=>exact aN.sK (ke:=nK) (k:=d) o5 kz h1 h2 hg (by rw[hg]at h4;simp at h4;rw[←h4];rfl)
  obtain⟨v,hr,rfl⟩:=hL.run (P:=Tryz.prog) h3 (t:=285) (kt:=161) (e:=3) (kd:=.struct (Tryz.prog.fieldsOf 161)) (i:=(Tryz.prog.info? 3).get (by kernel_rfl)) (by kernel_rfl) FN rfl (by kernel_rfl) (by kernel_rfl)
  exact hr
 have Jc:=hw.v5
 have s0:S0 {w with drawn:=w.drawn+1}:=by rw[Nk];exact⟨Own.sub Jc hn,look hE hm Jc M6.symm⟩
 have VG:∀{o:Oper} {v:Value} (c:List PanicEntry) (a':Act) (w':World),(fun(e:Exit) (a':Act) (w':World)=>e=.normal∧a'.defers=a.defers∧a'.tmps.size=a.tmps.size∧(∀s,bD (nt FF 10).toList s=false→a'.tmps.getD s undef=a.tmps.getD s undef)∧∃H',Own g H' w'∧K H') (.panic c) (a'.put o.dst v) w'→
   (fun(e:Exit) (a':Act) (w':World)=>e=.normal∧a'.defers=a.defers∧a'.tmps.size=a.tmps.size∧(∀s,bD (nt FF 10).toList s=false→a'.tmps.getD s undef=a.tmps.getD s undef)∧∃H',Own g H' w'∧K H') (.panic c) a' w':=by
  rintro _ _ _ _ _ ⟨h,_⟩;cases h
 have hsel:Region.noSelect (nt FF 10)=true:=by kernel_rfl
 have hkeep:∀i,i<6→∀(j:Nat) (oj:Oper) (w w':World),(nt FF 10)[j]? =some oj→j≠i→¬mG .any (nt FF 10) i j→S0 w→(j≠6→S0 w→S0 w')→S0 w':=fun i hi j oj w w' _ _ hno h0 hs=>by
  by_cases e:j=6
  ·subst e;exact absurd (fun oj gO e he hb heq=>hno (.one gO he hb heq)) (six hi)
  ·exact hs e h0
 refine cM.any (S:=fun j w w'=>j≠6→S0 w→S0 w') ?_
 have hsz:(nt FF 10).size=7:=by kernel_rfl
 rw[hsz]
 refine cM.take (fQ (by kernel_rfl)) (S0:=S0) (i:=0) (oi:=fI FF 10 0) (v:=.map (some mb)) (by kernel_rfl) hsel (by kernel_rfl) (by kernel_rfl) VG (fun _ h _ _=>h) (hkeep 0 (by decide)) (.inl ⟨rfl,fun w hw=>?_⟩) s0 ?_
 ·rw[ha.eval];have:(execOp (ev fr) (fI FF 10 0))=pure (.value (fr 7)):=rfl
  rw[this,f7];rfl
 have BM:=ha.put (d:=some 58) k58 (.map (some mb))
 change cM _ _ _ _ _ 6 _ (a.put (some 58) (.map (some mb))) _
 refine cM.take (fQ (by kernel_rfl)) (S0:=S0) (i:=1) (oi:=fI FF 10 1) (v:=nK d) (by kernel_rfl) hsel (by kernel_rfl) (by kernel_rfl) VG (fun _ h _ _=>h) (hkeep 1 (by decide)) (.inl ⟨rfl,fun w hw=>?_⟩) s0 ?_
 ·rw[BM.eval]
  have e:Az Tryz.prog g (fI FF 10 1) (ev (bS fr (some 58) (.map (some mb)))) [(nb,Obj.cells (bt d).toArray 161 (0,0))] (fun v=>v=nK d)=av 3 [(nb,Obj.cells (bt d).toArray 161 (0,0))] (fr 11) (fun v=>v=nK d):=by kernel_rfl
  obtain⟨v,rfl,hr,_⟩:=mU (e.mpr (by rw[f11];exact av.q rfl))
  rw[Nk]at hw
  exact hr _ hw.1
 have ya:=BM.put (d:=some 59) k59 (nK d)
 change cM _ _ _ _ _ 5 _ ((a.put (some 58) (.map (some mb))).put (some 59) (nK d)) _
 refine cM.take (fQ (by kernel_rfl)) (S0:=S0) (i:=2) (oi:=fI FF 10 2) (v:=.int .i64 z0) (by kernel_rfl) hsel (by kernel_rfl) (by kernel_rfl) VG (fun _ h _ _=>h) (hkeep 2 (by decide)) (.inl ⟨rfl,fun w hw=>?_⟩) s0 ?_
 ·rw[ya.eval]
  have e:execOp (ev (bS (bS fr (some 58) (.map (some mb))) (some 59) (nK d))) (fI FF 10 2)=(do pure (.value (←Instr.lookup 285 (.map (some mb)) (nK d) false))):=rfl
  rw[Nk]at hw
  rw[e]
  simp only[Sem.run_bind,hw.2,Result.andThen_ok,Sem.run_pure]
 have HN:=ya.put (d:=some 60) k60 (.int .i64 z0)
 change cM _ _ _ _ _ 4 _ (((a.put (some 58) (.map (some mb))).put (some 59) (nK d)).put (some 60) (.int .i64 z0)) _
 refine cM.take (fQ (by kernel_rfl)) (S0:=S0) (i:=3) (oi:=fI FF 10 3) (v:=.int .i64 (IntKind.i64.wrap (z0+1))) (by kernel_rfl) hsel (by kernel_rfl) (by kernel_rfl) VG (fun _ h _ _=>h) (hkeep 3 (by decide)) (.inl ⟨rfl,fun w hw=>?_⟩) s0 ?_
 ·rw[HN.eval]
  have e:Az Tryz.prog g (fI FF 10 3) (ev (bS (bS (bS fr (some 58) (.map (some mb))) (some 59) (nK d)) (some 60) (.int .i64 z0))) [(nb,Obj.cells (bt d).toArray 161 (0,0))] (fun v=>v=.int .i64 (IntKind.i64.wrap (z0+1)))=aa .num .add (.int .i64 z0) (.int .i64 1) (fun v=>v=.int .i64 (IntKind.i64.wrap (z0+1))):=by kernel_rfl
  obtain⟨v,rfl,hr,_⟩:=mU (e.mpr (aa.add rfl))
  rw[Nk]at hw
  exact hr _ hw.1
 have O2:=HN.put (d:=some 61) k61 (.int .i64 (IntKind.i64.wrap (z0+1)))
 change cM _ _ _ _ _ 3 _ ((((a.put (some 58) (.map (some mb))).put (some 59) (nK d)).put (some 60) (.int .i64 z0)).put (some 61) (.int .i64 (IntKind.i64.wrap (z0+1)))) _
 generalize (((a.put (some 58) (.map (some mb))).put (some 59) (nK d)).put (some 60) (.int .i64 z0)).put (some 61) (.int .i64 (IntKind.i64.wrap (z0+1)))=a4 at O2
 refine cM.all (rs:=[4]) (by kernel_rfl) (by simp) fun i hi=>?_
 simp only[List.mem_singleton]at hi
 subst hi
 have e4:(nt FF 10)[4]? =some (fI FF 10 4):=by kernel_rfl
 unfold wpOp
 rw[e4]
 simp only
 rw[if_pos (show Region.wanted (fI FF 10 4) (yielded (nt FF 10) a4.tmps)=true from rfl)]
 refine .inl ?_
 show(fI FF 10 4).upon Tryz.prog a4 _ _ ((execOp a4.eval (fI FF 10 4)).run Tryz.prog _)
 rw[O2.eval]
 refine mM.upon (g:=g) (KP:=fun _ _=>False) (aN.Ps (K:=fun v H'=>∃es' ca v0 st,aN nK Xj es' ca (if d∈m.map Prod.fst then m else m++[(d,0)])∧(∃e∈es'.toList,e.born=st)∧H'=c (.map es' ca)∧v=.tuple #[v0,.int .i64 (st:Int)])
  (t:=285) (kt:=161) (e:=3) (z:=.int .i64 0) (k:=d) (y0:=(0:Int)) o5 kz FP (o:=fI FF 10 4) (mo:=.tmp 58) (ko:=.tmp 59) rfl rfl rfl (by kernel_rfl) FN rfl (by kernel_rfl) rfl hE Lz
  (fun es' ca v st h1 h2=>⟨es',ca,v,st,h1,h2,rfl,rfl⟩) _ Jc) ?_ (fun _ _ _ _ h=>h.elim)
 rintro v H1 w1 jj ⟨nC,k9,v0,st,QO,hst,rfl,rfl⟩
 have zu:(nb,Obj.cells (bt d).toArray 161 (0,0))∈c (.map nC k9):=Vo _
 have zv:(mb,Obj.map nC k9)∈c (.map nC k9):=(Lz _ (.map nC k9)).mem
 have s1:S0 w1:=by
  rw[Nk]
  refine⟨Own.sub jj zu,look QO zv jj ?_⟩
  rw[M6]
  split
  ·rfl
  ·rename_i cN
   have e1:=fX.2 cN
   have e2:cR (m++[(d,0)]) d=some 0:=(dS (by
    have:=QO.nd;rw[if_neg cN]at this;exact this)).2 (by simp)
   rw[e1,e2];rfl
 refine⟨fun _ _=>s1,?_⟩
 have O1:=O2.put (d:=some 62) k62 (.tuple #[v0,.int .i64 (st:Int)])
 change cM _ _ _ _ _ 2 _ (a4.put (some 62) (.tuple #[v0,.int .i64 (st:Int)])) _
 generalize a4.put (some 62) (.tuple #[v0,.int .i64 (st:Int)])=a5 at O1
 refine cM.take (fQ (by kernel_rfl)) (S0:=S0) (i:=5) (oi:=fI FF 10 5) (v:=.int .i64 (st:Int)) (by kernel_rfl) hsel (by kernel_rfl) (by kernel_rfl) VG (fun _ h _ _=>h) (hkeep 5 (by decide)) (.inl ⟨rfl,fun w hw=>?_⟩) s1 ?_
 ·rw[O1.eval]
  obtain⟨v,rfl,hr,_⟩:=mU (P:=Tryz.prog) (g:=g) (o:=fI FF 10 5) (H:=[(nb,Obj.cells (bt d).toArray 161 (0,0))]) (k:=fun v=>v=.int .i64 (st:Int))
   (ρ:=ev (bS (bS (bS (bS (bS fr (some 58) (.map (some mb))) (some 59) (nK d)) (some 60) (.int .i64 z0)) (some 61) (.int .i64 (IntKind.i64.wrap (z0+1)))) (some 62) (.tuple #[v0,.int .i64 (st:Int)]))) ⟨_,_,rfl,rfl,rfl⟩
  rw[Nk]at hw
  exact hr _ hw.1
 have O0:=O1.put (d:=some 63) k63 (.int .i64 (st:Int))
 change cM _ _ _ _ _ 1 _ (a5.put (some 63) (.int .i64 (st:Int))) _
 generalize a5.put (some 63) (.int .i64 (st:Int))=a6 at O0
 refine cM.all (rs:=[6]) (by kernel_rfl) (by simp) fun i hi=>?_
 simp only[List.mem_singleton]at hi
 subst hi
 have e6:(nt FF 10)[6]? =some (fI FF 10 6):=by kernel_rfl
 unfold wpOp
 rw[e6]
 simp only
 rw[if_pos (show Region.wanted (fI FF 10 6) (yielded (nt FF 10) a6.tmps)=true from rfl)]
 refine .inl ?_
 show(fI FF 10 6).upon Tryz.prog a6 _ _ ((execOp a6.eval (fI FF 10 6)).run Tryz.prog _)
 rw[O0.eval]
 refine mM.upon (g:=g) (KP:=fun _ _=>False) (aN.NI (vr:=fun v _=>∃z:Int,v=.int .i64 z) (K:=fun _ H'=>∃es',aN nK (fun v _=>∃z:Int,v=.int .i64 z) es' k9 (if d∈m.map Prod.fst then m else m++[(d,0)])∧H'=c (.map es' k9))
  (o:=fI FF 10 6) (t:=285) (mo:=.tmp 58) (so:=.tmp 63) (xo:=.tmp 61) rfl rfl rfl (QO.mono fun v z h=>⟨z,h⟩) hst (fun _=>⟨_,rfl⟩) Lz
  (fun es' h1=>⟨es',h1,rfl⟩) _ jj) ?_ (fun _ _ _ _ h=>h.elim)
 rintro v H2 w2 py ⟨mr,vP,rfl⟩
 refine⟨fun h=>absurd rfl h,?_⟩
 have TJ:bX a.defers n a6 _:=O0
 change cM _ _ _ _ _ 0 _ a6 _
 refine cM.done (by kernel_rfl) ⟨rfl,TJ.defers,by rw[TJ.size,Yb],fun s hs=>?_,_,py,hk mr k9 ?_⟩ 0
 ·have eD:bD (nt FF 10).toList s=(Nat.beq s 58||(Nat.beq s 59||(Nat.beq s 60||(Nat.beq s 61||(Nat.beq s 62||(Nat.beq s 63||(false||false))))))):=by kernel_rfl
  rw[eD]at hs
  simp only[Bool.or_eq_false_iff]at hs
  rw[TJ.get]
  simp only[bS,hs,cond_false]
  rw[hfr]
 ·have:=tO.of vP
  have e:(if d∈m.map Prod.fst then m else m++[(d,(0:Int))]).map Prod.fst=if d∈m.map Prod.fst then m.map Prod.fst else m.map Prod.fst++[d]:=by
   split<;>simp
  rw[e]at this
  exact this
end
section
variable {kp:Nat} {K:Kd} {ord ah tr:List Nat} {C:Hp} {S:Nat→aC.Fn}
theorem Mq{H:Hp}(a b:Nd){K:Value→Hp→Prop}(h:∀x,K (.slice (some ⟨x,0,none⟩) 2 2) ((x,.cells (rows [bt a,bt b]) 161 (0,0))::H)):
  aq Tryz.prog 286 2 [(0,nK a),(1,nK b)] H K:=by
 refine⟨rows [bt a,bt b],161,3,.agg #[.int .i64 0,.int .u32 0,.int .u32 0],by kernel_rfl,by kernel_rfl,by kernel_rfl,by decide,?_,fun x _=>h x⟩
 have e1:Array.range (2*3)=#[0,1,2,3,4,5]:=rfl
 simp[Instr.fill,Value.cells,nK,bt,e1,rows,u32]
def gj(K:Kd)(x:Nat)(l:List Cx)(ks:List Nd)(m:List Nd):Prop:=m.Nodup∧∀k,k∈m↔((∃c∈l,k∈keys x c)∨k∈ks)∧K.T k=none∧k.lo≠k.hi
theorem gj.step{x:Nat}{l:List Cx}{ks m:List Nd}{d:Nd}(h:gj K x l ks m)(hd:K.T d=none∧d.lo≠d.hi):gj K x l (ks++[d]) (if d∈m then m else m++[d]):=by
 obtain⟨h1,h2⟩:=h
 constructor
 ·split
  ·exact h1
  ·rename_i hn
   exact List.nodup_append.2 ⟨h1,by simp,fun a ha b hb e=>by simp at hb;subst hb;subst e;exact hn ha⟩
 ·intro k
  by_cases hm:d∈m
  ·rw[if_pos hm,h2,List.mem_append,List.mem_singleton]
   constructor
   ·rintro⟨h3|h3,h4⟩
    ·exact⟨.inl h3,h4⟩
    ·exact⟨.inr (.inl h3),h4⟩
   ·rintro⟨h3|h3|rfl,h4⟩
    ·exact⟨.inl h3,h4⟩
    ·exact⟨.inr h3,h4⟩
    ·exact(h2 _).1 hm
  ·rw[if_neg hm,List.mem_append,List.mem_singleton,h2,List.mem_append,List.mem_singleton]
   constructor
   ·rintro(⟨h3|h3,h4⟩|rfl)
    ·exact⟨.inl h3,h4⟩
    ·exact⟨.inr (.inl h3),h4⟩
    ·exact⟨.inr (.inr rfl),hd⟩
   ·rintro⟨h3|h3|rfl,h4⟩
    ·exact .inl ⟨.inl h3,h4⟩
    ·exact .inl ⟨.inr h3,h4⟩
    ·exact .inr rfl
theorem gj.skip{x:Nat}{l:List Cx}{ks m:List Nd}{d:Nd}(h:gj K x l ks m)(hd:¬(K.T d=none∧d.lo≠d.hi)):gj K x l (ks++[d]) m:=by
 obtain⟨h1,h2⟩:=h
 refine⟨h1,fun k=>?_⟩
 rw[h2,List.mem_append,List.mem_singleton]
 constructor
 ·rintro⟨h3|h3,h4⟩
  ·exact⟨.inl h3,h4⟩
  ·exact⟨.inr (.inl h3),h4⟩
 ·rintro⟨h3|h3|rfl,h4⟩
  ·exact⟨.inl h3,h4⟩
  ·exact⟨.inr h3,h4⟩
  ·exact absurd h4 hd
theorem gj.wG{x:Nat}{l:List Cx}{c:Cx}{m:List Nd}(h:gj K x l (keys x c) m):gj K x (l++[c]) [] m:=by
 obtain⟨h1,h2⟩:=h
 refine⟨h1,fun k=>?_⟩
 rw[h2]
 constructor
 ·rintro⟨⟨c',hc,hk⟩|h3,h4⟩
  ·exact⟨.inl ⟨c',List.mem_append_left _ hc,hk⟩,h4⟩
  ·exact⟨.inl ⟨c,by simp,h3⟩,h4⟩
 ·rintro⟨⟨c',hc,hk⟩|h3,h4⟩
  ·rcases List.mem_append.1 hc with hc|hc
   ·exact⟨.inl ⟨c',hc,hk⟩,h4⟩
   ·simp at hc;subst hc;exact⟨.inr hk,h4⟩
  ·cases h3
theorem L3(h:cr kp K ord ah tr C){x:Nat}(hx:x<K.n){v:Value}{all:List Cx}{Na:Hp}(ha:aO 203 8 v (all.map jX) Na)(hlen:all.length≤1048576):
  Rd Tryz.prog 136 #[ptr kp,.int .i64 (x:Int),v] (Na++C) (fun r=>∃made,r=.int .i64 ((made.length:Nat):Int)∧Made K x all made):=by
 have h0:=h
 obtain⟨b,hC,hO⟩:=h
 refine aR fun g=>EP ?_
 intro mb _
 refine ha.bc ?_
 rw[List.length_map]
 refine⟨fun vs H=>∃(i:Nat) (es:Array MapEntry) (ck:Nat) (m:List Nd),vs=[.int .i64 (i:Int)]∧H=(mb,.map es ck)::(Na++C)∧i≤all.length∧tO es ck m∧gj K x (all.take i) [] m,
  fun vs _=>all.length-br vs 0,JE.mk ⟨0,_,_,[],rfl,rfl,Nat.zero_le _,tO.empty,by simp,by simp⟩,?_⟩
 rintro w H ⟨i,es,ck,m,hw,rfl,hi,hmk,OM⟩ gs
 simp only[List.cons.injEq,and_true]at hw
 subst hw
 refine aa.dH (Br.dec (fun hlt=>?_) (fun hge=>?_))
 rotate_left
 ·have:i=all.length:=by omega
  subst this
  rw[List.take_length]at OM
  obtain⟨m',he,rfl⟩:=hmk
  refine aN.KB he (.head _) ?_
  refine bN.mk .tail ⟨m'.map Prod.fst,by rw[List.length_map],OM.1,fun k=>?_⟩
  rw[OM.2]
  constructor
  ·rintro⟨h3|h3,h4⟩
   ·exact⟨h3,h4⟩
   ·cases h3
  ·rintro⟨h3,h4⟩;exact⟨.inl h3,h4⟩
 obtain⟨c,nL⟩:∃c,all[i]? =some c:=⟨_,List.getElem?_eq_getElem hlt⟩
 have jE:all.take (i+1)=all.take i++[c]:=by rw[List.take_add_one,nL];rfl
 refine ha.y5 (r:=jX c) (by rw[List.getElem?_map,nL];rfl) (fun y hy=>.tail _ (List.mem_append_left _ hy)) ?_
 intro Nn _
 refine St.p (jM _) ?_
 refine Ld.f ?_
 refine Ld.f ?_
 refine Build.mk (cs:=bt ⟨x,c.uN,c.rD⟩) (by kernel_rfl) ?_
 refine Ld.f ?_
 refine Ld.f ?_
 refine Build.mk (cs:=bt ⟨x,c.uM,c.rC⟩) (by kernel_rfl) ?_
 refine Mq _ _ fun xb=>?_
 refine aF.mk ?_
 refine⟨fun vs H=>∃(j:Nat) (es:Array MapEntry) (ck:Nat) (m:List Nd),vs=[.int .i64 (j:Int)]∧H=(xb,.cells (rows [bt ⟨x,c.uN,c.rD⟩,bt ⟨x,c.uM,c.rC⟩]) 161 (0,0))::(mb,.map es ck)::(Na++C)∧j≤2∧tO es ck m∧gj K x (all.take i) ((keys x c).take j) m,
  fun vs _=>2-br vs 0,JE.of (.cons .tail) ⟨0,es,ck,m,rfl,rfl,Nat.zero_le _,hmk,OM⟩,?_⟩
 clear hmk OM
 rintro w H ⟨j,es,ck,m,hw,rfl,hj,hmk,OM⟩ gs
 simp only[List.cons.injEq,and_true]at hw
 subst hw
 refine aa.dH (b:=2) (Br.dec (fun kF=>?_) (fun hge=>?_))
 rotate_left
 ·have:j=2:=by omega
  subst this
  refine aa.inc ?_
  refine aB.of .tail ⟨i+1,es,ck,m,rfl,rfl,by omega,hmk,?_⟩ (by simp[br];omega)
  rw[jE]
  exact gj.wG OM
 obtain⟨d,BL,nJ⟩:∃d,(keys x c)[j]? =some d∧d.v=x:=by
  rcases j with _|_|j
  ·exact⟨_,rfl,rfl⟩
  ·exact⟨_,rfl,rfl⟩
  ·omega
 have htj:(keys x c).take (j+1)=(keys x c).take j++[d]:=by rw[List.take_add_one,BL];rfl
 have hrow:[bt ⟨x,c.uN,c.rD⟩,bt ⟨x,c.uM,c.rC⟩][j]? =some (bt d):=by
  have:[bt ⟨x,c.uN,c.rD⟩,bt ⟨x,c.uM,c.rC⟩]=(keys x c).map bt:=rfl
  rw[this,List.getElem?_map,BL];rfl
 intro J34 Y8
 have next:∀es' ca m' H',tO es' ca m'→gj K x (all.take i) ((keys x c).take (j+1)) m'→aM H' ((xb,.cells (rows [bt ⟨x,c.uN,c.rD⟩,bt ⟨x,c.uM,c.rC⟩]) 161 (0,0))::(mb,.map es' ca)::(Na++C))→JE J34 [] H':=fun es' ca m' H' h1 h2 h3=>
  JE.mk (Y8 _ fun gs=>aa.inc (aB.of h3 ⟨j+1,es',ca,m',rfl,rfl,by omega,h1,h2⟩ (by simp[br];omega)))
 refine an.nat kF ?_
 have hmem:(xb,Obj.cells (rows [bt ⟨x,c.uN,c.rD⟩,bt ⟨x,c.uM,c.rC⟩]) 161 (0,0))∈(xb,Obj.cells (rows [bt ⟨x,c.uN,c.rD⟩,bt ⟨x,c.uM,c.rC⟩]) 161 (0,0))::(mb,.map es ck)::(Na++C):=.head _
 refine av.row (k:=3) hmem (by simp[bt]) hrow ?_
 intro b40 _
 refine St.p (fun z hz=>by simp[bt,u32]at hz;rcases hz with rfl|rfl|rfl<;>rfl) ?_
 refine DR.self ?_
 rw[hC]
 refine Nil.ptr (ag.mk (Ld.f ?_))
 refine av.q ?_
 refine ae.eq (rP (d:=d) hO.ut (by rw[nJ];exact hx)) ?_
 refine⟨.refl _,Ext.mk rfl (Ext.mk rfl (Un.not ?_))⟩
 have Qn:(!(K.T d).isSome)=decide (K.T d=none):=by cases K.T d<;>simp
 rw[Qn]
 refine df.and (decide (d.lo≠d.hi)) (fun _=>?_) rfl fun gs=>?_
 ·refine Ld.f ?_
  refine Ld.f ?_
  exact aa.uk ⟨rfl,rfl⟩
 rw[←Bool.decide_and]
 rw[←hC]
 refine Br.dec (fun hd=>?_) (fun hd=>?_)
 ·refine OA hmk (c:=fun o=>(b40,.cells (bt d).toArray 161 (0,0))::(xb,.cells (rows [bt ⟨x,c.uN,c.rD⟩,bt ⟨x,c.uM,c.rC⟩]) 161 (0,0))::(mb,o)::(Na++C)) (fun o o'=>.tail (.tail (.head _))) (fun o=>.head _) fun es' ca h1 gs=>?_
  exact next es' ca _ _ h1 (by rw[htj];exact OM.step hd) .tail
 ·exact next es ck m _ hmk (by rw[htj];exact OM.skip hd) .tail
end
def iK(l:List Cx):Nat→Nat:=fun s=>(l.map fun c=>e1 (some c.d) s).sum
theorem mT(c:Cx)(l:List Cx)(s:Nat):iK (c::l) s=e1 (some c.d) s+iK l s:=by simp[iK]
theorem He(c:Cx)(l:List Cx)(s:Nat):iK (l++[c]) s=iK l s+e1 (some c.d) s:=by simp[iK]
theorem V4(d:Nd)(s:Nat):e1 (some d) s≤2:=by rw[dD];split<;>split<;>omega
theorem wW(s:Nat):∀l:List Cx,iK l s≤2*l.length
 | []=>Nat.le_refl _
 |c::l=>by rw[mT,List.length_cons];have:=wW s l;have:=V4 c.d s;omega
theorem yI{s:Nat}:∀{l:List Cx},0<iK l s→∃c∈l,c.d.lo=s∨c.d.hi=s
 | [],h=>by simp[iK]at h
 |c::l,h=>by
  rw[mT]at h
  by_cases h0:0<e1 (some c.d) s
  ·refine⟨c,by simp,?_⟩
   rw[dD]at h0
   by_cases h1:c.d.lo=s
   ·exact .inl h1
   ·by_cases h2:c.d.hi=s
    ·exact .inr h2
    ·simp[h1,h2]at h0
  ·obtain⟨c',hc,h1⟩:=yI (s:=s) (l:=l) (by omega)
   exact⟨c',by simp[hc],h1⟩
theorem FJ{s:Nat}{c:Cx}(hs:c.d.lo=s∨c.d.hi=s):∀{l:List Cx},c∈l→0<iK l s
 |c'::l,h=>by
  rw[mT]
  rcases List.mem_cons.1 h with rfl|h
  ·rw[dD]
   rcases hs with hs|hs
   ·rw[if_pos hs];omega
   ·rw[if_pos hs];omega
  ·have:=FJ hs h;omega
def Idle(K:Kd):Prop:=∀s,K.N s=none→K.use s=0
theorem r5{K:Kd}{S:Nat→aC.Fn}{E:Nat→Prop}{P:Nat→Nat}(hm:ig K S E P)(hi:Idle K){M:Nat}(hP:∀s,P s≤M)(s:Nat):K.use s≤2097153+M:=by
 cases h:K.N s with
 |none=>rw[hi s h];omega
 |some d=>
  rw[hm.use h]
  have:=zV (N:=K.N) (r:=s) K.cap
  have:=hm.cap.2
  have:=hP s
  split<;>omega
section
variable {kp:Nat} {K K0:Kd} {ord ah tr:List Nat} {C:Hp} {S S0:Nat→aC.Fn} {pS:Nat→Nat} {x y l:Nat} {all done rest:List Cx} {made:List Nd} {P:Nat→Nat}
theorem LY(b:TB K0 S0 pS x y l all made)(h:cr kp K ord ah tr C)(ht:TI K0 S0 pS x y l made K S done rest P)(hd:∀c∈done,c∈all)(hr:∀c∈rest,c∈all){c:Cx}(hc:c∈all){k:Nd}(hk:k∈keys x c)
 (Jg:PL P K.N)(Lp:Idle K)(hP:∀s,P s≤4194304):
  Fc Tryz.prog 138 #[ptr kp,.int .i64 (k.v:Int),u32 k.lo,u32 k.hi] C (fun v C'=>∃r K' S',v=u32 r∧cr kp K' ord ah tr C'∧TI K0 S0 pS x y l made K' S' done rest P∧uS K0 K' pS x l r∧
   ((k.lo=k.hi∧r=k.lo)∨K'.N r=some k)∧PL P K'.N∧Idle K'∧(∀s d,K.N s=some d→K'.N s=some d)∧(∀s d,K'.N s=some d→s=r∨(K.N s=some d∧K.use s≤K'.use s))):=by
 have zq:K.n≤64:=by obtain⟨_,_,hO⟩:=h;exact hO.oK
 have kG:=b.Oh hc
 have hkv:k.v=x∧q9 K0 pS l k.lo∧q9 K0 pS l k.hi:=by
  simp only[keys,List.mem_cons,List.not_mem_nil,or_false]at hk
  rcases hk with rfl|rfl
  ·exact⟨rfl,kG.1.1,kG.1.2⟩
  ·exact⟨rfl,kG.2.1,kG.2.2⟩
 have AE:=ht.pe b hd hkv.2.1
 have qQ:=ht.pe b hd hkv.2.2
 have XO:k.v<K.n:=by rw[hkv.1,ht.n];exact b.nb.xn
 by_cases he:k.lo=k.hi
 ·refine Fc.mono (by rw[←he];exact Pc C _ k.lo _) ?_
  rintro v C' ⟨rfl,rfl⟩
  exact⟨k.lo,K,S,rfl,h,ht,.inl hkv.2.1,.inl ⟨he,rfl⟩,Jg,Lp,fun _ _ h=>h,fun s d h=>.inr ⟨h,Nat.le_refl _⟩⟩
 cases hT:K.T k with
 |some r=>
  obtain⟨h1,h2⟩:=ht.found b hc hk hT
  refine Fc.mono (Pe h he XO hT) ?_
  rintro v C' ⟨rfl,rfl⟩
  exact⟨r,K,S,rfl,h,ht,h2,.inr h1,Jg,Lp,fun _ _ h=>h,fun s d h=>.inr ⟨h,Nat.le_refl _⟩⟩
 |none=>
  have hfit:∀{t:Nat},live K.N t→t<2∨t<K.us.length:=fun ht'=>by
   rcases ht' with ht'|⟨d,cN⟩
   ·exact .inl ht'
   ·exact .inr (ht.mid.fit cN)
  have hkm:=ht.KS b hd hr hc hk he hkv.2.1 hkv.2.2 hT
  refine Fc.mono (Pd h (d:=k) he ⟨by omega,AE,qQ⟩ XO hT (ht.fits b hkm hT) (hfit AE) (hfit qQ) (fun s=>by have:=r5 ht.mid Lp hP s;omega)) ?_
  rintro v C' ⟨r,cT,cj,rfl,hN,h2,hrc,hlen,X0,HF,u0,u1,u2,o0,o1,fD⟩
  have hPr:P r=0:=by
   apply Decidable.byContradiction
   intro hne
   obtain⟨d,cN⟩:=Jg r h2 (by omega)
   rw[hN]at cN;cases cN
  obtain⟨g1,g2⟩:=ht.lay b hd hr hc hk he hT hN ⟨h2,hrc⟩ hlen ⟨X0,HF⟩ u0 u1 o0 o1 hPr
  have hup:∀s d,K.N s=some d→up K.N r (some k) s=some d:=fun s d hs=>by
   rw[aL (fun e=>by rw[e,hN]at hs;cases hs)];exact hs
  refine⟨r,_,_,rfl,fD,g1,g2,.inr aI,fun t LS h0=>?_,fun s hs=>?_,hup,fun s d hs=>?_⟩
  ·obtain⟨d,cN⟩:=Jg t LS h0
   exact⟨d,hup t d cN⟩
  ·have hs':up K.N r (some k) s=none:=hs
   have hne:s≠r:=fun e=>by subst e;rw[aI]at hs';cases hs'
   rw[aL hne]at hs'
   show cT.getD s 0=0
   by_cases TO:2≤s
   ·rw[u1 s TO hne,Lp s hs',dD]
    have a1:k.lo≠s:=fun e=>by
     rcases AE with h5|⟨d,h5⟩
     ·omega
     ·rw[e,hs']at h5;cases h5
    have a2:k.hi≠s:=fun e=>by
     rcases qQ with h5|⟨d,h5⟩
     ·omega
     ·rw[e,hs']at h5;cases h5
    simp[a1,a2]
   ·rw[u2 s (by omega),Lp s hs']
  ·have hs':up K.N r (some k) s=some d:=hs
   by_cases e:s=r
   ·exact .inl e
   ·rw[aL e]at hs'
    refine .inr ⟨hs',?_⟩
    show K.use s≤cT.getD s 0
    rw[u1 s (ht.mid.two hs').1 e];omega
theorem Jw(h:cr kp K ord ah tr C)(ht:TI K0 S0 pS x y l made K S done rest P)(Jg:PL P K.N)(Lp:Idle K)(hP:∀s,P s≤4194304){r:Nat}(hr:live K.N r):
  Fc Tryz.prog 139 #[ptr kp,u32 r] C (fun v C'=>∃K',v=.tuple #[]∧cr kp K' ord ah tr C'∧TI K0 S0 pS x y l made K' S done rest (fun s=>P s+if s=r then 1 else 0)∧PL (fun s=>P s+if s=r then 1 else 0) K'.N∧Idle K'∧
   K'.N=K.N∧(∀s,K.use s≤K'.use s)∧(2≤r→0<K'.use r)):=by
 have hfit:r<2∨r<K.us.length:=by
  rcases hr with hr|⟨d,hd⟩
  ·exact .inl hr
  ·exact .inr (ht.mid.fit hd)
 refine Fc.mono (AV h hfit (by have:=r5 ht.mid Lp hP r;omega)) ?_
 rintro v C' ⟨rfl,fD⟩
 by_cases h2:2≤r
 ·have hrd:∃d,K.N r=some d:=by
   rcases hr with hr|hr
   ·omega
   ·exact hr
  have hlt:r<K.us.length:=by omega
  refine⟨_,rfl,fD,(ht.use (gS r) (lg h2 hlt) (fun s hs=>r6 hs)).congr (fun s _=>?_),fun t LS h0=>?_,fun s hs=>?_,rfl,fun s=>?_,fun _=>?_⟩
  ·unfold up
   split
   ·rename_i e;subst e;rfl
   ·rfl
  ·by_cases e:t=r
   ·subst e;exact hrd
   ·simp[e]at h0;exact Jg t LS h0
  ·show(qG K r).getD s 0=0
   have hne:s≠r:=fun e=>by
    obtain⟨d,hd⟩:=hrd
    have hs':K.N s=none:=hs
    rw[e,hd]at hs';cases hs'
   rw[r6 hne];exact Lp s hs
  ·show K.use s≤(qG K r).getD s 0
   by_cases e:s=r
   ·subst e;rw[lg h2 hlt];omega
   ·rw[r6 e];exact Nat.le_refl _
  ·show 0<(qG K r).getD r 0
   rw[lg h2 hlt];omega
 ·have e:qG K r=K.us:=by unfold qG;rw[if_pos (by omega)]
  have eK:({K with us:=qG K r}:Kd)=K:=by rw[e]
  rw[eK]at fD
  refine⟨K,rfl,fD,ht.congr (fun s hs=>?_),fun t LS h0=>?_,Lp,rfl,fun _=>Nat.le_refl _,fun h=>absurd h h2⟩
  ·rw[if_neg (by omega)];rfl
  ·have TQ:0<P t+if t=r then 1 else 0:=h0
   rw[if_neg (by omega)]at TQ;exact Jg t LS TQ
theorem uS.mono{K K':Kd}(h:uS K0 K pS x l y)(hm:∀s d,K.N s=some d→K'.N s=some d):uS K0 K' pS x l y:=by
 rcases h with h|⟨e,h1,h2⟩
 ·exact .inl h
 ·exact .inr ⟨e,hm _ _ h1,h2⟩
end
section
variable {kp:Nat} {K:Kd} {ord ah tr:List Nat} {C:Hp} {S:Nat→aC.Fn}
structure Kept(K:Kd)(S:Nat→aC.Fn)(K':Kd)(S':Nat→aC.Fn):Prop where
 n:K'.n=K.n
 cap:K'.cap=K.cap
 hold:∀r,K'.hold r=K.hold r
 held:∀g,K'.held S' g↔K.held S g
 fn:∀r,K.hold r≠0→S' r=S r
theorem Rx{x y l:Nat}(hne:x≠y)(hx:x<ah.length)(hy:y<ah.length):lv ((ah.set x (l+1)).set y l)=ri (lv ah) x y l:=by
 funext v
 show((ah.set x (l+1)).set y l).getD v 0=_
 rw[fN (by simpa using hy),fN hx]
 unfold ri
 by_cases e:v=y
 ·rw[if_pos e,if_neg (by rw[e];exact Ne.symm hne),if_pos e]
 ·rw[if_neg e,if_neg e]
theorem Kh(c:Cx)(rest:List Cx):iK (c::rest)=fP (fP (iK rest) [c.d.hi]) [c.d.lo]:=by
 funext s
 rw[mT,dD]
 unfold fP
 simp only[List.count_cons,List.count_nil,beq_iff_eq]
 omega
theorem Ky{x:Nat}{all:List Cx}{made:List Nd}(h:Made K x all made):made.length≤2*all.length:=by
 have h1:=cf (l':=all.flatMap (keys x)) h.nd fun k hk=>by
  obtain⟨⟨c,hc,hk'⟩,_⟩:=(h.mem k).1 hk
  exact List.mem_flatMap.2 ⟨c,hc,hk'⟩
 have h2:(all.flatMap (keys x)).length=2*all.length:=by
  clear h1 h
  induction all with
  |nil=>rfl
  |cons c all ih=>rw[List.flatMap_cons,List.length_append,ih,List.length_cons];simp[keys];omega
 omega
theorem JB{x y l:Nat}{K1:Kd}{S1:Nat→aC.Fn}{all:List Cx}{made:List Nd}(b:TB K S (lv ah) x y l all made)(h:TI K S (lv ah) x y l made K1 S1 all [] (iK all))(hnew:∀r d,K.N r=none→K1.N r=some d→0<K1.use r):Pos K1:=by
 intro r d hd
 cases hN:K.N r with
 |none=>exact hnew r d hN hd
 |some d0=>
  rw[h.mid.use hd]
  rcases b.ok.reach r d0 hN with hh|⟨p,e,hp,Jd⟩
  ·have oM:K1.hold r≠0:=by rw[h.hold];exact hh
   rw[if_neg oM];omega
  ·by_cases hm:p∈all.map Cx.r
   ·obtain⟨c,hc,rfl⟩:=List.mem_map.1 hm
    have hcd:=(b.my hc).1
    rw[hp]at hcd;cases hcd
    have:=FJ (s:=r) Jd hc
    omega
   ·have sV:=h.old hp hm
    have:cK K1.N r K1.cap≠0:=fun he=>by
     have:=iF he p (h.mid.two sV).2 e sV
     rcases Jd with Jd|Jd
     ·exact this.1 Jd
     ·exact this.2 Jd
    omega
theorem Fu(h:cr kp K ord ah tr C)(hok:Ok K S (lv ah))(ho:Ord K.n (lv ah) ord)(Lp:Idle K){l:Nat}(hl:l+1<K.n):
  Fc Tryz.prog 59 #[ptr kp,.int .i64 (l:Int)] C (fun r C'=>
   (Ax K.n ord l (K.held S)+2≤K.cap∧r=.bool true∧∃K' S' cZ,cr kp K' (iJ ord l) cZ tr C'∧Ok K' S' (lv cZ)∧Ord K'.n (lv cZ) (iJ ord l)∧Idle K'∧Kept K S K' S')∨
   (K.cap<Ax K.n ord l (K.held S)+2∧r=.bool false∧C'=C)):=by
 have h0:=h
 have hcap:=h.cap
 obtain⟨b,hC,hO⟩:=h
 have rz:=hO.ol
 have zq:=hO.oK
 have nb:=ho.nb hl
 obtain⟨x,hx⟩:∃x,x=ord.getD l 0:=⟨_,rfl⟩
 obtain⟨y,hy⟩:∃y,y=ord.getD (l+1) 0:=⟨_,rfl⟩
 rw[←hx,←hy]at nb
 refine aR fun g=>IG ?_
 have hmk:(kp,Obj.cells (b.cells K.n) 117 (0,0))∈C:=by rw[hC];exact .head _
 have Qm:∀z∈b.CO,z∈C:=by rw[hC];exact aZ.sub (.cons (.app (.app (.app (.app .left)))))
 refine Ld.v hmk ?_
 refine hO.od.ld (x:=(x:Int)) (by rw[hx];exact aX (by omega)) Qm ?_
 refine Ld.v hmk ?_
 refine aa.inc ?_
 refine hO.od.ld (x:=(y:Int)) (by rw[hy];exact aX (by omega)) Qm ?_
 refine ae.fq (xG h0 hok nb.xn) ?_
 rintro w H ⟨all,Na,rfl,aE,AH,hlen⟩
 refine DR.self (Nil.ptr (ag.mk ?_))
 refine ae.rq (L3 h0 nb.xn aE hlen) ?_
 rintro w ⟨made,rfl,Lc⟩
 have hml:=Ky Lc
 have FV:=hok.mid.cap
 have XS:=hok.mid.room
 refine ae.eq (y7 h0 (m:=made.length) (by omega) (by omega)) ?_
 have acH:Ax K.n ord l (K.held S)=K.used-2+made.length:=Q8 (JC hok ho hl (by rw[←hx,←hy];exact AH) (by rw[←hx];exact Lc))
 refine Un.not ?_
 by_cases hroom:K.used+made.length≤K.cap
 rotate_left
 ·rw[decide_eq_false hroom]
  exact Br.yes (aS.mk .right (.inr ⟨by omega,rfl,rfl⟩))
 rw[decide_eq_true hroom]
 refine Br.no ?_
 have tb:TB K S (lv ah) x y l all made:=⟨hok,nb,AH,Lc,hroom⟩
 have gE:=AH.nd
 have hge:∀{i:Nat} {c:Cx},all[i]? =some c→c.r∉(all.take i).map Cx.r:=fun{i c} nL hm=>by
  have h1:(all.take (i+1)).map Cx.r=(all.take i).map Cx.r++[c.r]:=by rw[List.take_add_one,nL,List.map_append];rfl
  have h2:((all.take (i+1)).map Cx.r).Nodup:=gE.sublist ((List.take_sublist _ _).map _)
  rw[h1]at h2
  exact(List.nodup_append.1 h2).2.2 _ hm _ (by simp) rfl
 have jE:∀{i:Nat} {c:Cx},all[i]? =some c→all.take (i+1)=all.take i++[c]:=fun nL=>by rw[List.take_add_one,nL];rfl
 have WU:∀{i:Nat} {c:Cx},all[i]? =some c→all.drop i=c::all.drop (i+1):=fun{i c} nL=>by
  obtain⟨hi,e⟩:=List.getElem?_eq_some_iff.1 nL
  rw[List.drop_eq_getElem_cons hi,e]
 have R8:∀{i:Nat},∀c∈all.take i,c∈all:=fun c hc=>List.mem_of_mem_take hc
 have hmD:∀{i:Nat},∀c∈all.drop i,c∈all:=fun c hc=>List.mem_of_mem_drop hc
 refine aE.bc ?_
 rw[List.length_map]
 refine⟨fun vs H=>∃(i:Nat) (T':Nd→Option Nat) (C1:Hp),vs=[.int .i64 (i:Int)]∧H=Na++C1∧i≤all.length∧cr kp {K with T:=T'} ord ah tr C1∧ig {K with T:=T'} S (fun s=>∃c∈all.take i,s=c.r) zero'∧(∀d,T' d=none∨T' d=K.T d),
  fun vs _=>all.length-br vs 0,JE.mk ⟨0,K.T,C,rfl,rfl,Nat.zero_le _,h0,hok.mid.congr (fun s=>by simp[gv]) (fun _ _=>rfl),fun _=>.inr rfl⟩,?_⟩
 rintro w H ⟨i,T',C1,hw,rfl,hi,fe,HQ,HP⟩ gs
 simp only[List.cons.injEq,and_true]at hw
 subst hw
 refine aa.dH (Br.dec (fun hlt=>?_) (fun OT=>?_))
 ·obtain⟨c,nL⟩:∃c,all[i]? =some c:=⟨_,List.getElem?_eq_getElem hlt⟩
  have FX:c∈all:=List.mem_of_getElem? nL
  obtain⟨xy,Vm,hce⟩:=tb.my FX
  refine aE.y5 (r:=jX c) (by rw[List.getElem?_map,nL];rfl) (fun z hz=>List.mem_append_left _ hz) ?_
  intro Xd _
  refine St.p (jM _) ?_
  obtain⟨b1,rfl,QK⟩:=fe
  refine DR.self (Nil.ptr (ag.mk (Ld.f ?_)))
  refine ag.mk (av.mk (vs:=(bt c.d).toArray) (.head _) (by simp[jX]) rfl ?_)
  have hTc:T' c.d=some c.r:=(HQ.g8 c.d c.r).2 ⟨xy,by rintro⟨c',jc,e⟩;exact hge nL (e▸List.mem_map_of_mem jc)⟩
  refine ae.fq (u4 (d:=c.d) QK.ut (hok.mid.var xy) hTc) ?_
  rintro v Tg ⟨rfl,RQ⟩
  refine aa.inc ?_
  refine aB.of .tail ⟨i+1,oJ T' c.d none,_,rfl,rfl,by omega,⟨{b1 with CT:=Tg},rfl,{QK with ut:=RQ}⟩,(HQ.Yp (r:=c.r) (d:=c.d) xy ?_).congr (fun s=>?_) (fun _ _=>rfl),fun d=>?_⟩ (by simp[br];omega)
  ·rintro⟨c',jc,e⟩;exact hge nL (e▸List.mem_map_of_mem jc)
  ·rw[jE nL]
   constructor
   ·rintro(⟨c',jc,e⟩|e)
    ·exact⟨c',List.mem_append_left _ jc,e⟩
    ·exact⟨c,by simp,e⟩
   ·rintro⟨c',jc,e⟩
    rcases List.mem_append.1 jc with jc|jc
    ·exact .inl ⟨c',jc,e⟩
    ·simp at jc;subst jc;exact .inr e
  ·unfold oJ
   split
   ·exact .inl rfl
   ·exact HP d
 have hi':i=all.length:=by omega
 subst hi'
 rw[List.take_length]at HQ
 have hTI:=tb.start HQ HP
 refine aE.bc ?_
 rw[List.length_map]
 refine⟨fun vs H=>∃(i:Nat) (K1:Kd) (S1:Nat→aC.Fn) (C1:Hp),vs=[.int .i64 (i:Int)]∧H=Na++C1∧i≤all.length∧cr kp K1 ord ah tr C1∧TI K S (lv ah) x y l made K1 S1 (all.take i) (all.drop i) (iK (all.take i))∧
   PL (iK (all.take i)) K1.N∧Idle K1∧(∀r d,K.N r=none→K1.N r=some d→0<K1.use r),
  fun vs _=>all.length-br vs 0,JE.mk ⟨0,_,S,C1,rfl,rfl,Nat.zero_le _,fe,hTI,fun t _ h=>by simp[iK]at h,Lp,fun r d h1 h2=>by rw[h1]at h2;cases h2⟩,?_⟩
 clear hTI HQ HP fe T' C1 OT hi
 rintro w H ⟨i,K1,S1,C1,hw,rfl,hi,fe,HP,O6,Lo,Qq⟩ gs
 simp only[List.cons.injEq,and_true]at hw
 subst hw
 refine aa.dH (Br.dec (fun hlt=>?_) (fun OT=>?_))
 ·obtain⟨c,nL⟩:∃c,all[i]? =some c:=⟨_,List.getElem?_eq_getElem hlt⟩
  have FX:c∈all:=List.mem_of_getElem? nL
  obtain⟨xy,Vm,hce⟩:=tb.my FX
  rw[WU nL]at HP
  have gN:∀c'∈c::all.drop (i+1),c'∈all:=by rw[←WU nL];exact hmD
  have VI:∀s,iK (all.take i) s≤2097152:=fun s=>by have:=wW s (all.take i);rw[List.length_take]at this;omega
  refine aE.y5 (r:=jX c) (by rw[List.getElem?_map,nL];rfl) (fun z hz=>List.mem_append_left _ hz) ?_
  intro b53 _
  refine St.p (jM _) ?_
  refine DR.self (Nil.ptr (ag.mk ?_))
  refine Ld.f ?_
  refine Ld.f ?_
  refine ae.fq (LY tb fe HP R8 gN FX (k:=⟨x,c.uN,c.rD⟩) (by simp[keys]) O6 Lo (fun s=>by have:=VI s;omega)) ?_
  rintro w C2 ⟨t0,K2,S2,rfl,dB,VC,Ur,g0,O5,BF,ZZ,Xz⟩
  refine Nil.ptr (ag.mk ?_)
  refine ae.fq (Jw dB VC O5 BF (fun s=>by have:=VI s;omega) (VC.po tb R8 Ur)) ?_
  rintro w C3 ⟨K3,rfl,nA,hT3,SF,Ys,VN,XU,UO⟩
  have VH:∀s,(iK (all.take i) s+if s=t0 then 1 else 0)≤2097153:=fun s=>by have:=VI s;split<;>omega
  refine DR.self (Nil.ptr (ag.mk ?_))
  refine Ld.f ?_
  refine Ld.f ?_
  refine ae.fq (LY tb nA hT3 R8 gN FX (k:=⟨x,c.uM,c.rC⟩) (by simp[keys]) SF Ys (fun s=>by have:=VH s;omega)) ?_
  rintro w C4 ⟨t1,K4,S4,rfl,LP,YW,Uq,g1,SE,Yr,P6,Xy⟩
  refine Nil.ptr (ag.mk ?_)
  refine ae.fq (Jw LP YW SE Yr (fun s=>by have:=VH s;omega) (YW.po tb R8 Uq)) ?_
  rintro w C5 ⟨K5,rfl,Ji,W0,adZ,Yq,VM,XT,UN⟩
  have Qf:uS K K5 (lv ah) x l t0:=uS.mono Ur (fun s d hs=>by rw[VM];exact P6 s d (by rw[VN];exact hs))
  have Qe:uS K K5 (lv ah) x l t1:=uS.mono Uq (fun s d hs=>by rw[VM];exact hs)
  have g0':(c.uN=c.rD∧t0=c.uN)∨K5.N t0=some ⟨x,c.uN,c.rD⟩:=by
   rcases g0 with g0|g0
   ·exact .inl g0
   ·exact .inr (by rw[VM];exact P6 _ _ (by rw[VN];exact g0))
  have g1':(c.uM=c.rC∧t1=c.uM)∨K5.N t1=some ⟨x,c.uM,c.rC⟩:=by
   rcases g1 with g1|g1
   ·exact .inl g1
   ·exact .inr (by rw[VM];exact g1)
  have Yd:((all.take i++c::all.drop (i+1)).map Cx.r).Nodup:=by rw[←WU nL,List.take_append_drop];exact gE
  obtain⟨hTn,YV⟩:=W0.wG tb R8 gN Yd Qf Qe g0' g1' (P':=iK (all.take (i+1))) (fun s _=>by
   rw[jE nL,He,dD ⟨y,t0,t1⟩]
   have Pt:(if t0=s then 1 else 0)=(if s=t0 then 1 else 0:Nat):=by split<;>split<;>first|rfl|(exfalso;omega)
   have e2':(if t1=s then 1 else 0)=(if s=t1 then 1 else 0:Nat):=by split<;>split<;>first|rfl|(exfalso;omega)
   simp only[Pt,e2']
   omega)
  have Lg:∀{t:Nat},uS K K5 (lv ah) x l t→live K5.N t:=fun hk=>W0.po tb R8 hk
  have Ss:∃e,K5.N c.r=some e:=W0.kept xy
  refine Build.mk (cs:=bt ⟨y,t0,t1⟩) (by kernel_rfl) ?_
  intro b83 _
  refine St.p (fun z hz=>by simp[bt,u32]at hz;rcases hz with rfl|rfl|rfl<;>rfl) ?_
  obtain⟨b5,rfl,W4⟩:=Ji
  refine DR.self (Nil.ptr (ag.mk (Ld.f ?_)))
  refine Ld.f ?_
  refine av.q ?_
  have RO:y<K5.n:=by rw[W0.n];exact nb.yn
  refine ae.fq (PE (d:=⟨y,t0,t1⟩) W4.ar ⟨by show y<64;have:=W4.oK;omega,Lg Qf,Lg Qe⟩ Ss (tb.ok.mid.two xy).1) ?_
  rintro w Wt ⟨rfl,Vv⟩
  refine DR.self (Nil.ptr (ag.mk (Ld.f ?_)))
  refine av.q ?_
  refine Ld.f ?_
  refine ae.fq (Fq (d:=⟨y,t0,t1⟩) (r:=c.r) W4.ut RO hTn) ?_
  rintro w Tg ⟨rfl,RQ⟩
  refine aa.inc ?_
  refine aB.of (.skip .tail) ⟨i+1,{K5 with N:=up K5.N c.r (some ⟨y,t0,t1⟩),T:=oJ K5.T ⟨y,t0,t1⟩ (some c.r)},S4,_,rfl,rfl,by omega,⟨{b5 with CA:=Wt,CT:=Tg},rfl,{W4 with ar:=Vv,ut:=RQ}⟩,by rw[jE nL]at YV⊢;exact YV,fun t LS hp=>?_,fun s hs=>?_,fun r d RY hrd=>?_⟩ (by simp[br];omega)
  ·obtain⟨c',jc,jY⟩:=yI hp
   have YJ:=R8 c' jc
   have LD:=(tb.my YJ).1
   have hlv:live K.N t:=by
    rcases jY with rfl|rfl
    ·exact tb.ok.mid.lo LD
    ·exact tb.ok.mid.hi LD
   rcases hlv with hlv|⟨d,hd⟩
   ·omega
   ·exact YV.kept hd
  ·have hs':up K5.N c.r (some ⟨y,t0,t1⟩) s=none:=hs
   have hne:s≠c.r:=fun e=>by subst e;rw[aI]at hs';cases hs'
   rw[aL hne]at hs'
   exact Yq s hs'
  ·have RW:up K5.N c.r (some ⟨y,t0,t1⟩) r=some d:=hrd
   have hne:r≠c.r:=fun e=>by rw[e,xy]at RY;cases RY
   rw[aL hne,VM]at RW
   have Xa:2≤r:=(YW.mid.two RW).1
   show 0<K5.use r
   rcases Xy r d RW with e|⟨h3,hu3⟩
   ·rw[e]at Xa⊢;exact UN Xa
   ·rw[VN]at h3
    have h5:=XT r
    rcases Xz r d h3 with e|⟨h1,WN⟩
    ·rw[e]at Xa⊢h5 hu3;have:=UO Xa;omega
    ·have:=Qq r d RY h1
     have:=XU r
     omega
 have hi':i=all.length:=by omega
 subst hi'
 rw[List.take_length,List.drop_length]at HP
 rw[List.take_length]at O6
 have sV:=JB tb HP Qq
 refine aE.bc ?_
 rw[List.length_map]
 refine⟨fun vs H=>∃(i:Nat) (K2:Kd) (C2:Hp),vs=[.int .i64 (i:Int)]∧H=Na++C2∧i≤all.length∧cr kp K2 ord ah tr C2∧ig K2 S1 gv (iK (all.drop i))∧Pos K2∧PL (iK (all.drop i)) K2.N∧uR K2 K1,
  fun vs _=>all.length-br vs 0,JE.mk ⟨0,K1,C1,rfl,rfl,Nat.zero_le _,fe,HP.mid.congr (fun s=>by simp[gv]) (fun _ _=>rfl),sV,O6,.refl K1⟩,?_⟩
 clear fe O6 hi OT C1
 rintro w H ⟨i,K2,C2,hw,rfl,hi,dB,F0,kE,O5,dk⟩ gs
 simp only[List.cons.injEq,and_true]at hw
 subst hw
 refine aa.dH (Br.dec (fun hlt=>?_) (fun OT=>?_))
 ·obtain⟨c,nL⟩:∃c,all[i]? =some c:=⟨_,List.getElem?_eq_getElem hlt⟩
  have FX:c∈all:=List.mem_of_getElem? nL
  obtain⟨xy,Vm,hce⟩:=tb.my FX
  have VI:∀s,iK (all.drop i) s≤2097152:=fun s=>by have:=wW s (all.drop i);rw[List.length_drop]at this;omega
  have hlo:=h0.lt (hok.mid.lo xy)
  have hhi:=h0.lt (hok.mid.hi xy)
  refine aE.y5 (r:=jX c) (by rw[List.getElem?_map,nL];rfl) (fun z hz=>List.mem_append_left _ hz) ?_
  intro aeP _
  refine St.p (jM _) ?_
  refine DR.self (Nil.ptr (ag.mk ?_))
  refine ag.mk (Ld.f ?_)
  have BF:Idle K2:=dk.idle Lo
  have XV:∀s,K2.use s<2147483648:=fun s=>by have:=r5 F0 BF VI s;omega
  rw[WU nL,Kh]at F0 O5
  refine ae.fq (kf dB F0 kE O5 hlo XV) ?_
  rintro w C3 ⟨rfl,K3,nA,O7,Nc,SF,Li⟩
  refine DR.self (Nil.ptr (ag.mk ?_))
  refine ag.mk (Ld.f ?_)
  refine ae.fq (kf nA O7 Nc SF hhi (fun s=>Nat.lt_of_le_of_lt (Li.us s) (XV s))) ?_
  rintro w C4 ⟨rfl,K4,LP,hM4,Tp,SE,R9⟩
  refine aa.inc ?_
  exact aB.of .tail ⟨i+1,K4,C4,rfl,rfl,by omega,LP,hM4,Tp,SE,R9.trans (Li.trans dk)⟩ (by simp[br];omega)
 have hi':i=all.length:=by omega
 subst hi'
 rw[List.drop_length]at F0
 have BF:Idle K2:=dk.idle Lo
 obtain⟨f1,f2,f3⟩:=HP.fin tb (K':=K2) (F0.congr (fun _=>Iff.rfl) (fun _ _=>rfl)) kE (fun h=>dk.N h) dk.n (fun r=>by show K2.ho.getD r 0=K1.ho.getD r 0;rw[dk.ho])
 have OL:K2.n=K.n:=by rw[dk.n,HP.n]
 obtain⟨b2,rfl,VL⟩:=dB
 refine DR.self (Ld.n ?_)
 refine Ld.n ?_
 refine aa.inc ?_
 refine VL.od.ja (x:=(y:Int)) (.app (.cons (.app (.app (.app (.app .left)))))) (by rw[ai];omega) fun CO1 zm=>?_
 refine zm.ja (x:=(x:Int)) (.app (.cons (.app (.app (.app (.app .left)))))) (by rw[List.length_set,ai];omega) fun CO2 uG=>?_
 refine DR.self (Ld.n ?_)
 refine Ld.n ?_
 refine aa.inc ?_
 have k7:=VL.ol.2
 have XO:=nb.xn
 have RO:=nb.yn
 refine VL.lv.ja (x:=((l+1:Nat):Int)) (.app (.cons (.app (.app (.app (.app (.app .left))))))) (by rw[ai];omega) fun CL1 AE=>?_
 refine AE.ja (x:=(l:Int)) (.app (.cons (.app (.app (.app (.app (.app .left))))))) (by rw[List.length_set,ai];omega) fun CL2 qQ=>?_
 rw[eJ,eJ]at uG qQ
 have vH:(ord.set l y).set (l+1) x=iJ ord l:=by rw[hx,hy];rfl
 rw[vH]at uG
 have hlv:lv ((ah.set x (l+1)).set y l)=ri (lv ah) x y l:=Rx nb.ne (by omega) (by omega)
 refine aS.mk .right (.inl ⟨by omega,rfl,K2,S1,_,⟨{b2 with CO:=CO2,CL:=CL2},rfl,{VL with od:=uG,lv:=qQ,ol:=?_}⟩,by rw[hlv];exact f1,by rw[hlv,OL,hx,hy];exact NF ho hl,BF,OL,by rw[dk.cap,HP.cap],fun r=>?_,f2,f3⟩)
 ·rw[j6];simp;exact VL.ol
 ·show K2.ho.getD r 0=K.hold r
  rw[dk.ho];exact HP.hold r
end
structure cw(kp:Nat)(K:Kd)(S:Nat→aC.Fn)(ord ah tr:List Nat)(C:Hp):Prop where
 rep:cr kp K ord ah tr C
 ok:Ok K S (lv ah)
 od:Ord K.n (lv ah) ord
 idle:Idle K
 tr:uO K.n K.cap (K.held S) ord tr.reverse
theorem Kept.refl(K:Kd)(S:Nat→aC.Fn):Kept K S K S:=⟨rfl,rfl,fun _=>rfl,fun _=>Iff.rfl,fun _ _=>rfl⟩
theorem Kept.trans{K K' K2:Kd}{S S' S2:Nat→aC.Fn}(h:Kept K S K' S')(h':Kept K' S' K2 S2):Kept K S K2 S2:=
 ⟨h'.n.trans h.n,h'.cap.trans h.cap,fun r=>(h'.hold r).trans (h.hold r),fun g=>(h'.held g).trans (h.held g),fun r hr=>(h'.fn r (by rw[h.hold];exact hr)).trans (h.fn r hr)⟩
section
variable {kp:Nat} {K:Kd} {ord ah tr:List Nat} {C:Hp} {S:Nat→aC.Fn}
theorem F8(h:cw kp K S ord ah tr C){l:Nat}(hl:l+1<K.n)(fo:tr.length<1099511627776):Fc Tryz.prog 17 #[ptr kp,.int .i64 (l:Int)] C (fun r C'=>
   (Ax K.n ord l (K.held S)+2≤K.cap∧r=.int .i64 0∧∃K' S' cZ,cw kp K' S' (iJ ord l) cZ (tr++[l]) C'∧Kept K S K' S')∨
   (K.cap<Ax K.n ord l (K.held S)+2∧r=.int .i64 9∧C'=C)):=by
 have h0:=h
 obtain⟨b,hC,hO⟩:=h.rep
 have hn:=hO.oK
 refine aR fun g=>I2 ?_
 refine aa.aD (Br.no (aa.lss ?_))
 refine df.or (decide ((K.n:Int) -2<l)) (fun _=>?_) (by simp) fun gs=>?_
 ·refine Ld.v (by rw[hC];exact .head _) ?_
  refine aa.oT (c:=(K.n:Int) -2) rfl (by omega) ?_
  exact aa.gtr ⟨rfl,rfl⟩
 ·rw[←Bool.decide_or]
  refine Br.F ?_
  refine ae.fq (Fu h.rep h.ok h.od h.idle hl) ?_
  rintro w C' (⟨hfit,rfl,K',S',cZ,fD,xu,R6,s8,pB⟩|⟨hno,rfl,rfl⟩)
  ·refine Un.not (Br.no ?_)
   obtain⟨b',rfl,uK⟩:=fD
   refine Ld.n ?_
   refine aq.int (e:=3) (by kernel_rfl) (by kernel_rfl) (by kernel_rfl) fun bx=>?_
   refine uK.tr.pN (.cons (.cons (.app (.app (.app (.app (.app (.app .here)))))))) (by exact .head _) (by rw[ai];omega) (by rw[ai];omega) fun v' x4 cj=>?_
   refine Nil.ptr (ag.mk (St.one (by exact .tail (.head _)) cj.one (by simp[rG.cells]) rfl ?_))
   refine aS.mk .tail (.inl ⟨hfit,rfl,K',S',cZ,⟨⟨{b' with vt:=v',CR:=x4},rfl,{uK with tr:=by rw[bP];exact cj}⟩,xu,R6,s8,?_⟩,pB⟩)
   rw[pB.n,pB.cap]
   exact(uO.Zr hO.ol.1 hl hfit h.tr).congr fun g=>(pB.held g).symm
  ·exact Un.not (Br.yes (aS.here (.inr ⟨hno,rfl,rfl⟩)))
theorem Nz{l:Nat}(h:cw kp K S ord ah (tr++[l]) C)(fo:tr.length<1099511627776):Fc Tryz.prog 18 #[ptr kp] C (fun r C'=>
   r=.tuple #[.int .i64 (l:Int),.int .i64 0]∧l+1<K.n∧∃K' S' cZ,cw kp K' S' (iJ ord l) cZ tr C'∧Kept K S K' S'):=by
 have h0:=h
 obtain⟨b,hC,hO⟩:=h.rep
 have hn:=hO.oK
 have KW:=h.tr
 rw[List.reverse_append]at KW
 obtain⟨hl,hfit,zh⟩:l+1<K.n∧Ax K.n ord l (K.held S)+2≤K.cap∧uO K.n K.cap (K.held S) (iJ ord l) tr.reverse:=KW
 have hmk:(kp,Obj.cells (b.cells K.n) 117 (0,0))∈C:=by rw[hC];exact .head _
 refine aR fun g=>I1 ?_
 refine aa.aD ?_
 refine df.or false (fun _=>?_) rfl fun gs=>Br.no ?_
 ·refine Ld.v hmk ?_
  refine hO.tr.bc ?_
  refine aa.gA ⟨rfl,?_⟩
  rw[decide_eq_false]
  rw[ai,List.length_append];simp;omega
 refine Ld.v hmk ?_
 refine hO.tr.bc ?_
 rw[ai,List.length_append]
 refine aa.bE (a:=tr.length+1) (b:=1) ?_
 rw[Nat.add_sub_cancel]
 refine Ld.v hmk ?_
 refine hO.tr.ld (i:=tr.length) (x:=(l:Int)) (by rw[bP];simp[iw]) (by rw[hC];exact aZ.sub (.cons (.app (.app (.app (.app (.app (.app .here)))))))) ?_
 refine ae.fq (Fu h.rep h.ok h.od h.idle hl) ?_
 rintro w C' (⟨_,rfl,K',S',cZ,fD,xu,R6,s8,pB⟩|⟨hno,rfl,rfl⟩)
 rotate_left
 ·omega
 obtain⟨b',rfl,uK⟩:=fD
 refine Ld.n ?_
 refine uK.tr.cut (i:=tr.length) (by rw[ai];simp) fun v' vG=>?_
 refine Nil.ptr (ag.mk (St.one (by exact .head _) vG.one (by simp[rG.cells]) rfl ?_))
 refine aS.here ⟨rfl,hl,K',S',cZ,⟨⟨{b' with vt:=v'},rfl,{uK with tr:=by rw[bP,List.take_left' (by simp)]at vG;exact vG}⟩,xu,R6,s8,?_⟩,pB⟩
 rw[pB.n,pB.cap]
 exact zh.congr fun g=>(pB.held g).symm
theorem cw.bR(h:cw kp K S ord ah tr C){r:Nat}(hl:live K.N r):r<1048576:=h.rep.lt hl
theorem cw.iS(h:cw kp K S ord ah tr C)(r:Nat):K.hold r≤65535:=h.ok.mid.mx r
theorem cw.AW(h:cw kp K S ord ah tr C)(r:Nat):K.use r≤2097153:=by have:=r5 h.ok.mid h.idle (M:=0) (fun _=>Nat.le_refl _) r;omega
structure PS(K K':Kd)(r:Nat):Prop where
 n:K'.n=K.n
 cap:K'.cap=K.cap
 used:K'.used=K.used
 N:K'.N=K.N
 hold:∀s,K'.hold s=if s=r∧2≤r then K.hold s+1 else K.hold s
theorem HC(h:cw kp K S ord ah tr C){r:Nat}(hl:live K.N r)(h2:2≤r)(hf:K.hold r=65535):Rd Tryz.prog 121 #[ptr kp,u32 r] C (· =.int .i64 8):=by
 have hr:=h.bR hl
 obtain⟨b,hC,hO⟩:=h.rep
 have hfit:r<K.ho.length:=by
  rcases hl with hl|⟨d,hd⟩
  ·omega
  ·rw[←hO.ul.1];exact h.ok.mid.fit hd
 refine aR fun g=>ud ?_
 refine aa.aD (Br.no (Nil.ptr (ag.mk ?_)))
 refine ae.eq (l8 h.rep (by omega)) ?_
 rw[bM.2 hl]
 refine Un.not (Br.no ?_)
 intro J7 _
 refine aa.iU (b:=1) (Br.T ?_)
 refine Nil.ptr (ag.mk (Ld.u (by rw[hC];exact .head _) ?_))
 refine hO.ho.ld (x:=((K.hold r:Nat):Int)) (aX hfit) (by rw[hC];exact aZ.sub (.cons (.app (.app (.app .left))))) ?_
 rw[hf]
 exact aa.gA (Br.T (bN.mk (.refl _) rfl))
theorem zc(h:cr kp K ord ah tr C)(TL:ig K S gv zero')(OS:Idle K){r:Nat}(hl:live K.N r)(hf:2≤r→K.hold r<65535):Fc Tryz.prog 121 #[ptr kp,u32 r] C (fun v C'=>v=.int .i64 0∧∃K',cr kp K' ord ah [] C'∧
  ig K' S gv zero'∧Idle K'∧PS K K' r∧(∀s,K.use s≤K'.use s)∧(2≤r→0<K'.use r)):=by
 have hr:=h.lt hl
 have h0:=h
 obtain⟨b,hC,hO⟩:=h
 refine aR fun g=>ud ?_
 refine aa.aD (Br.no (Nil.ptr (ag.mk ?_)))
 refine ae.eq (l8 h0 (by omega)) ?_
 rw[bM.2 hl]
 refine Un.not (Br.no ?_)
 intro J7 hJ7
 have fin:∀(K':Kd) C1,cr kp K' ord ah tr C1→ig K' S gv zero'→Idle K'→PS K K' r→(∀s,K.use s≤K'.use s)→(2≤r→0<K'.use r)→J7 [] C1:=fun K' C1 fD xu s8 hm hu hp=>by
  refine hJ7 _ fun gs=>?_
  obtain⟨b',rfl,uK⟩:=fD
  refine Nil.ptr (ag.mk (St.one (by exact .head _) rfl (by simp[rG.cells]) rfl ?_))
  refine aS.mk (kZ:=({b' with vt:=.slice none 0 0,CR:=[]}:rG).hp kp K'.n) ?_ ⟨rfl,K',⟨{b' with vt:=.slice none 0 0,CR:=[]},rfl,{uK with tr:=aK.nil}⟩,xu,s8,hm,hu,hp⟩
  refine .cons (.cQ (.cQ (.cQ (.cQ (.cQ (.cQ .nil _) _) _) _) _) _)
 refine aa.iU (b:=1) (Br.dec (fun h2=>?_) (fun h2=>?_))
 rotate_left
 ·refine JE.mk (fin K C h0 TL OS ⟨rfl,rfl,rfl,rfl,fun s=>?_⟩ (fun _=>Nat.le_refl _) (fun h=>by omega))
  rw[if_neg (by omega)]
 have me:2≤r:=by omega
 have zx:=hf me
 obtain⟨d,hd⟩:∃d,K.N r=some d:=by
  rcases hl with hl|hl
  ·omega
  ·exact hl
 have Ve:=TL.fit hd
 have HF:=hO.ul
 have hfit:r<K.ho.length:=by omega
 subst hC
 refine Nil.ptr (ag.mk (Ld.f ?_))
 refine hO.ho.ld (x:=((K.hold r:Nat):Int)) (aX hfit) (aZ.sub (.cons (.app (.app (.app .left))))) ?_
 refine aa.gA (Br.F ?_)
 refine Nil.ptr (ag.mk (Ld.f ?_))
 refine hO.ho.ld (x:=((K.hold r:Nat):Int)) (aX hfit) (aZ.sub (.cons (.app (.app (.app .left))))) ?_
 refine aa.inc ?_
 refine hO.ho.ja (x:=((K.hold r+1:Nat):Int)) (.cons (.app (.app (.app .left)))) (by rw[ai];exact hfit) fun MU oM=>?_
 rw[eJ]at oM
 have g1:∀s,(K.ho.set r (K.hold r+1)).getD s 0=if s=r then K.hold r+1 else K.hold s:=fun s=>fN hfit
 refine Nil.ptr (ag.mk (Ld.f ?_))
 refine oM.ld (x:=((K.hold r+1:Nat):Int)) (by rw[aX (by simpa using hfit),g1,if_pos rfl]) (aZ.sub (.cons (.app (.app (.app .left))))) ?_
 refine aa.cE (b:=1) (Br.dec (fun h3=>?_) (fun h3=>?_))
 ·refine Nil.ptr (ag.mk (Ld.f ?_))
  refine hO.us.ld (x:=((K.use r:Nat):Int)) (aX Ve) (aZ.sub (.cons (.app (.app .left)))) ?_
  have XV:=r5 TL OS (M:=0) (fun _=>Nat.le_refl _) r
  refine aa.inc ?_
  refine hO.us.ja (x:=((K.use r+1:Nat):Int)) (.cons (.app (.app .left))) (by rw[ai];exact Ve) fun Nq xp=>?_
  rw[eJ]at xp
  have g2:∀s,(K.us.set r (K.use r+1)).getD s 0=if s=r then K.use r+1 else K.use s:=fun s=>fN Ve
  have hM:=TL.keep (r:=r) (cT:=K.us.set r (K.use r+1)) (cj:=K.ho.set r (K.hold r+1)) ⟨d,hd⟩ zx (by simp) (by rw[g1,if_pos rfl]) (fun s hs=>by rw[g1,if_neg hs]) (by rw[g2,if_pos rfl,if_pos (by omega)]) (fun s hs=>by rw[g2,if_neg hs])
  refine JE.mk (fin {K with us:=K.us.set r (K.use r+1),ho:=K.ho.set r (K.hold r+1)} _ ⟨{b with CU:=Nq,CH:=MU},rfl,{hO with us:=xp,ho:=oM,ul:=by simp;exact HF}⟩ hM (fun s hs=>?_) ⟨rfl,rfl,rfl,rfl,fun s=>?_⟩ (fun s=>?_) (fun _=>?_))
  ·show(K.us.set r (K.use r+1)).getD s 0=0
   have hs':K.N s=none:=hs
   rw[g2,if_neg (fun e=>by rw[e,hd]at hs';cases hs')];exact OS s hs'
  ·show(K.ho.set r (K.hold r+1)).getD s 0=_
   rw[g1]
   by_cases e:s=r
   ·subst e;rw[if_pos rfl,if_pos ⟨rfl,me⟩]
   ·rw[if_neg e,if_neg (fun h=>e h.1)]
  ·show K.use s≤(K.us.set r (K.use r+1)).getD s 0
   rw[g2];split
   ·rename_i e;subst e;omega
   ·exact Nat.le_refl _
  ·show 0<(K.us.set r (K.use r+1)).getD r 0
   rw[g2,if_pos rfl];omega
 ·have hM:=TL.keep (r:=r) (cT:=K.us) (cj:=K.ho.set r (K.hold r+1)) ⟨d,hd⟩ zx (by simp) (by rw[g1,if_pos rfl]) (fun s hs=>by rw[g1,if_neg hs]) (by show K.use r=_;rw[if_neg (by omega)];rfl) (fun s hs=>rfl)
  refine JE.mk (fin {K with ho:=K.ho.set r (K.hold r+1)} _ ⟨{b with CH:=MU},rfl,{hO with ho:=oM,ul:=by simp;exact HF}⟩ hM OS ⟨rfl,rfl,rfl,rfl,fun s=>?_⟩ (fun _=>Nat.le_refl _) (fun _=>?_))
  rotate_left
  ·show 0<K.use r
   rw[TL.use hd,if_neg (by omega)];omega
  show(K.ho.set r (K.hold r+1)).getD s 0=_
  rw[g1]
  by_cases e:s=r
  ·subst e;rw[if_pos rfl,if_pos ⟨rfl,me⟩]
  ·rw[if_neg e,if_neg (fun h=>e h.1)]
theorem pw(h:cw kp K S ord ah tr C){r:Nat}(hl:live K.N r)(hf:2≤r→K.hold r<65535):Fc Tryz.prog 121 #[ptr kp,u32 r] C (fun v C'=>v=.int .i64 0∧∃K',cw kp K' S ord ah [] C'∧PS K K' r):=by
 refine(zc h.rep h.ok.mid h.idle hl hf).mono ?_
 rintro v C' ⟨rfl,K',fD,SI,s8,hm,hu,hp⟩
 refine⟨rfl,K',⟨fD,⟨SI,fun s d hs=>?_,by rw[hm.n];exact h.ok.lv,by rw[hm.n,hm.N];exact h.ok.wf⟩,by rw[hm.n];exact h.od,s8,trivial⟩,hm⟩
 rw[hm.N]at hs
 exact Nat.lt_of_lt_of_le (h.ok.pos s d hs) (hu s)
end
section
variable {kp:Nat} {K:Kd} {ord ah tr:List Nat} {C:Hp} {S:Nat→aC.Fn}
theorem FQ{K':Kd}{P:Nat→Nat}(hw:WF K.n (lv ah) K.N)(hM:ig K' S gv P)(hN:∀{s d},K'.N s=some d→K.N s=some d)(hn:K'.n=K.n):WF K'.n (lv ah) K'.N:=by
 have same:∀{t},live K'.N t→dep K'.n (lv ah) K'.N t=dep K.n (lv ah) K.N t:=fun{t} ht=>by
  cases e:K'.N t with
  |some f=>rw[az e,az (hN e)]
  |none=>
   have M8:t<2:=by
    rcases ht with ht|⟨f,hf⟩
    ·exact ht
    ·rw[e]at hf;cases hf
   rw[aW e,aW (hw.const M8),hn]
 refine hM.wf fun{s d} hs=>?_
 rw[same (hM.lo hs),same (hM.hi hs)]
 exact⟨(hw.lo (hN hs)).2,(hw.hi (hN hs)).2⟩
structure uh(K K':Kd)(r:Nat):Prop where
 n:K'.n=K.n
 cap:K'.cap=K.cap
 N:∀s d,K'.N s=some d→K.N s=some d
 hold:∀s,K'.hold s=if s=r∧2≤r then K.hold s-1 else K.hold s
theorem V5(h:cw kp K S ord ah tr C){r:Nat}(hr:r<4294967296)(h2:2≤r)(h0:K.hold r=0):Rd Tryz.prog 131 #[ptr kp,u32 r] C (· =.int .i64 3):=by
 refine aR fun g=>ua ?_
 refine aa.aD (Br.no ?_)
 intro J2 _
 refine aa.iU (b:=1) (Br.T ?_)
 refine ae.eq (sP h.rep hr (fun s=>by have:=h.iS s;omega)) ?_
 rw[h0]
 exact aa.gA (Br.T (bN.mk (.refl _) rfl))
theorem nh(h:cw kp K S ord ah tr C){r:Nat}(hr:r<4294967296)(hh:2≤r→K.hold r≠0):Fc Tryz.prog 131 #[ptr kp,u32 r] C (fun v C'=>v=.int .i64 0∧∃K',cw kp K' S ord ah [] C'∧uh K K' r):=by
 have h0:=h
 obtain⟨b,hC,hO⟩:=h.rep
 refine aR fun g=>ua ?_
 refine aa.aD (Br.no ?_)
 intro J2 vO
 have fin:∀(K':Kd) C1,cr kp K' ord ah tr C1→Ok K' S (lv ah)→Idle K'→uh K K' r→J2 [] C1:=fun K' C1 fD xu s8 hm=>by
  refine vO _ fun gs=>?_
  obtain⟨b',rfl,uK⟩:=fD
  refine Nil.ptr (ag.mk (St.one (by exact .head _) rfl (by simp[rG.cells]) rfl ?_))
  have jG:Ord K'.n (lv ah) ord:=by rw[hm.n];exact h.od
  refine aS.mk (kZ:=({b' with vt:=.slice none 0 0,CR:=[]}:rG).hp kp K'.n) ?_ ⟨rfl,K',⟨⟨{b' with vt:=.slice none 0 0,CR:=[]},rfl,{uK with tr:=aK.nil}⟩,xu,jG,s8,trivial⟩,hm⟩
  refine .cons (.cQ (.cQ (.cQ (.cQ (.cQ (.cQ .nil _) _) _) _) _) _)
 refine aa.iU (b:=1) (Br.dec (fun h2=>?_) (fun h2=>?_))
 rotate_left
 ·exact JE.mk (fin K C h.rep h.ok h.idle ⟨rfl,rfl,fun _ _ h=>h,fun s=>by rw[if_neg (by omega)]⟩)
 have me:2≤r:=by omega
 have oM:=hh me
 obtain⟨d,hd⟩:=h.ok.mid.held r oM
 have Ve:=h.ok.mid.fit hd
 have HF:=hO.ul
 have hfit:r<K.ho.length:=by omega
 have hle:=h.iS r
 refine ae.eq (sP h.rep hr (fun s=>by have:=h.iS s;omega)) ?_
 refine aa.gA (Br.F ?_)
 subst hC
 refine Nil.ptr (ag.mk (Ld.f ?_))
 refine hO.ho.ld (x:=((K.hold r:Nat):Int)) (aX hfit) (aZ.sub (.cons (.app (.app (.app .left))))) ?_
 refine aa.bE (b:=1) ?_
 refine hO.ho.ja (x:=((K.hold r-1:Nat):Int)) (.cons (.app (.app (.app .left)))) (by rw[ai];exact hfit) fun MU Si=>?_
 rw[eJ]at Si
 have g1:∀s,(K.ho.set r (K.hold r-1)).getD s 0=if s=r then K.hold r-1 else K.hold s:=fun s=>fN hfit
 have hM:=h.ok.mid.drop (r:=r) (cj:=K.ho.set r (K.hold r-1)) (by omega) (by simp) (by rw[g1,if_pos rfl];omega) (fun s hs=>by rw[g1,if_neg hs])
 have fe:cr kp {K with ho:=K.ho.set r (K.hold r-1)} ord ah tr (({b with CH:=MU}:rG).hp kp K.n):=⟨_,rfl,{hO with ho:=Si,ul:=by simp;exact HF}⟩
 have U9:∀s,(K.ho.set r (K.hold r-1)).getD s 0=if s=r∧2≤r then K.hold s-1 else K.hold s:=fun s=>by
  rw[g1]
  by_cases e:s=r
  ·subst e;rw[if_pos rfl,if_pos ⟨rfl,me⟩]
  ·rw[if_neg e,if_neg (fun h=>e h.1)]
 refine Nil.ptr (ag.mk (Ld.f ?_))
 refine Si.ld (x:=((K.hold r-1:Nat):Int)) (by rw[aX (by simpa using hfit),g1,if_pos rfl]) (aZ.sub (.cons (.app (.app (.app .left))))) ?_
 refine aa.cE (b:=0) (Br.dec (fun h3=>?_) (fun h3=>?_))
 rotate_left
 ·rw[if_neg (by omega)]at hM
  exact JE.mk (fin {K with ho:=K.ho.set r (K.hold r-1)} _ fe ⟨hM,h.ok.pos,h.ok.lv,h.ok.wf⟩ h.idle ⟨rfl,rfl,fun _ _ h=>h,U9⟩)
 rw[if_pos (by omega)]at hM
 refine Nil.ptr (ag.mk ?_)
 have F0:ig {K with ho:=K.ho.set r (K.hold r-1)} S gv (fP zero' [r]):=hM.congr (fun _=>Iff.rfl) fun s _=>by
  unfold up fP zero'
  by_cases e:s=r
  ·subst e;simp
  ·simp[e,Ne.symm e]
 refine ae.fq (kf (P0:=zero') fe F0 h.ok.pos (fun t LS h0=>?_) (h.bR (.inr ⟨d,hd⟩)) (fun s=>by have:=h.AW s;show K.use s<_;omega)) ?_
 ·by_cases e:t=r
  ·subst e;exact⟨d,hd⟩
  ·have TQ:0<zero' t+[r].count t:=h0
   simp[zero',Ne.symm e]at TQ
 rintro w C2 ⟨rfl,K2,dB,O7,Nc,_,dk⟩
 refine JE.mk (fin K2 _ dB ⟨O7,Nc,by rw[dk.n];exact h.ok.lv,FQ h.ok.wf O7 (fun h=>dk.N h) dk.n⟩ (dk.idle h.idle) ⟨dk.n,dk.cap,fun s e hs=>dk.N hs,fun s=>?_⟩)
 show K2.ho.getD s 0=_
 rw[dk.ho]
 exact U9 s
structure nQ(K:Kd)(S:Nat→aC.Fn)(K':Kd)(S':Nat→aC.Fn)(f:aC.Fn)(r:Nat):Prop where
 n:K'.n=K.n
 cap:K'.cap=K.cap
 used:K'.used≤K.used+1
 N:∀s d,K.N s=some d→K'.N s=some d
 fn:∀s,live K.N s→S' s=S s
 live:live K'.N r
 is:S' r=f
 hold:∀s,K'.hold s=if s=r∧2≤r then K.hold s+1 else K.hold s
theorem xg(h:cw kp K S ord ah tr C){v lo hi:Nat}(hv:v<K.n)(hlo:live K.N lo)(hhi:live K.N hi)(hlt:lo=hi∨(lv ah v<dep K.n (lv ah) K.N lo∧lv ah v<dep K.n (lv ah) K.N hi)):
  Fc Tryz.prog 164 #[ptr kp,.int .i64 (v:Int),u32 lo,u32 hi] C (fun w C'=>
   (∃r K' S',w=.tuple #[u32 r,.int .i64 0]∧cw kp K' S' ord ah [] C'∧nQ K S K' S' (ite S ⟨v,lo,hi⟩) r)∨
   (∃r,w=.tuple #[u32 0,.int .i64 8]∧C'=C∧live K.N r∧2≤r∧K.hold r=65535∧S r=ite S ⟨v,lo,hi⟩)∨
   (w=.tuple #[u32 0,.int .i64 9]∧C'=C∧K.cap≤K.used∧lo≠hi∧K.T ⟨v,lo,hi⟩=none)):=by
 have h0:=h
 have ac2:=h.bR hlo
 have adk:=h.bR hhi
 have AE:=bM.2 hlo
 have qQ:=bM.2 hhi
 have hfe:qY K ah (v:Int) lo hi=0:=by
  unfold qY
  rw[if_neg (by omega),if_neg (by rw[AE,qQ];simp),if_neg]
  rintro⟨hne,hmin⟩
  rcases hlt with e|⟨a,b⟩
  ·exact hne e
  ·simp only[Int.toNat_natCast,lv]at hmin a b;omega
 refine aR fun g=>Es ?_
 refine aa.aD (Br.no ?_)
 refine ae.eq (Po h.rep (v:Int) (by omega) (by omega) (fun r d hd=>⟨h.ok.mid.var hd,(h.ok.mid.two hd).1⟩)) ?_
 rw[hfe]
 refine aa.cG (Br.F ?_)
 refine ae.rq (NO h.rep (lo:=lo) (hi:=hi) hv) ?_
 rintro w hw
 have there:∀(J9:List Value→Hp→Prop),(∀Wy:Value,∀H11:Hp,(∀aeq:Fr,ae Tryz.prog g 121 #[ptr kp,Wy] H11 (fun ZV H14=>aa .num .neq ZV (Value.int .i64 0) fun v15=>Br v15
   (aS (fun w C'=>(∃r K' S',w=.tuple #[u32 r,.int .i64 0]∧cw kp K' S' ord ah [] C'∧nQ K S K' S' (ite S ⟨v,lo,hi⟩) r)∨
   (∃r,w=.tuple #[u32 0,.int .i64 8]∧C'=C∧live K.N r∧2≤r∧K.hold r=65535∧S r=ite S ⟨v,lo,hi⟩)∨
   (w=.tuple #[u32 0,.int .i64 9]∧C'=C∧K.cap≤K.used∧lo≠hi∧K.T ⟨v,lo,hi⟩=none)) (.returned (.tuple #[(Value.int .u32 0),ZV])) H14) (aS (fun w C'=>(∃r K' S',w=.tuple #[u32 r,.int .i64 0]∧cw kp K' S' ord ah [] C'∧nQ K S K' S' (ite S ⟨v,lo,hi⟩) r)∨
   (∃r,w=.tuple #[u32 0,.int .i64 8]∧C'=C∧live K.N r∧2≤r∧K.hold r=65535∧S r=ite S ⟨v,lo,hi⟩)∨
   (w=.tuple #[u32 0,.int .i64 9]∧C'=C∧K.cap≤K.used∧lo≠hi∧K.T ⟨v,lo,hi⟩=none)) (.returned (.tuple #[Wy,(Value.int .i64 0)])) H14)) (rF (aS (fun w C'=>(∃r K' S',w=.tuple #[u32 r,.int .i64 0]∧cw kp K' S' ord ah [] C'∧nQ K S K' S' (ite S ⟨v,lo,hi⟩) r)∨
   (∃r,w=.tuple #[u32 0,.int .i64 8]∧C'=C∧live K.N r∧2≤r∧K.hold r=65535∧S r=ite S ⟨v,lo,hi⟩)∨
   (w=.tuple #[u32 0,.int .i64 9]∧C'=C∧K.cap≤K.used∧lo≠hi∧K.T ⟨v,lo,hi⟩=none)))))→J9 [Wy] H11)→
   ∀r,live K.N r→S r=ite S ⟨v,lo,hi⟩→J9 [u32 r] C:=fun J9 LQ r hr hS=>by
  refine LQ _ _ fun gs=>?_
  by_cases hf:2≤r∧K.hold r=65535
  ·refine ae.eq (HC h hr hf.1 hf.2) ?_
   exact aa.cG (Br.T (aS.here (.inr (.inl ⟨r,rfl,rfl,hr,hf.1,hf.2,hS⟩))))
  ·refine ae.fq (pw h hr (fun h2=>by have:=h.iS r;omega)) ?_
   rintro w C' ⟨rfl,K',fD,hm⟩
   refine aa.cG (Br.F (aS.here (.inl ⟨r,K',S,rfl,fD,⟨hm.n,hm.cap,by rw[hm.used];omega,fun s d hs=>by rw[hm.N];exact hs,fun _ _=>rfl,by rw[hm.N];exact hr,hS,hm.hold⟩⟩)))
 by_cases he:lo=hi
 ·rw[if_pos he]at hw
  subst hw
  refine Ext.two ?_
  intro J9 LQ
  refine Un.not (Br.no (JE.mk (there J9 LQ lo hlo ?_)))
  funext z
  unfold aC.ite
  simp[he]
 rw[if_neg he]at hw
 have gH:lv ah v<dep K.n (lv ah) K.N lo∧lv ah v<dep K.n (lv ah) K.N hi:=by
  rcases hlt with e|e
  ·exact absurd e he
  ·exact e
 obtain⟨o,ho⟩:∃o,o=K.T ⟨v,lo,hi⟩:=⟨_,rfl⟩
 cases o with
 |some r=>
  have hT:K.T ⟨v,lo,hi⟩=some r:=ho.symm
  rw[hT]at hw
  subst hw
  refine Ext.two ?_
  intro J9 LQ
  have hN:=((h.ok.mid.g8 _ r).1 hT).1
  refine Un.not (Br.no (JE.mk (there J9 LQ r (.inr ⟨_,hN⟩) ?_)))
  funext z
  rw[h.ok.mid.int.node hN]
  rfl
 |none=>
  have hT:K.T ⟨v,lo,hi⟩=none:=ho.symm
  rw[hT]at hw
  subst hw
  refine Ext.two ?_
  intro J9 LQ
  refine Un.not (Br.yes (Nil.ptr (ag.mk ?_)))
  have hcap:=h.ok.mid.cap
  refine ae.eq (y7 h.rep (m:=1) (by omega) (by omega)) ?_
  refine Un.not ?_
  by_cases hroom:K.used+1≤K.cap
  rotate_left
  ·rw[decide_eq_false hroom]
   exact Br.yes (aS.here (.inr (.inr ⟨rfl,rfl,by omega,he,hT⟩)))
  rw[decide_eq_true hroom]
  refine Br.no (Nil.ptr (ag.mk ?_))
  refine Build.mk (cs:=bt ⟨v,lo,hi⟩) (by kernel_rfl) ?_
  have hfit:∀{t:Nat},live K.N t→t<2∨t<K.us.length:=fun ht'=>by
   rcases ht' with ht'|⟨d,cN⟩
   ·exact .inl ht'
   ·exact .inr (h.ok.mid.fit cN)
  have zq:K.n≤64:=by obtain⟨_,_,hO⟩:=h.rep;exact hO.oK
  refine ae.fq (Fv h.rep (d:=⟨v,lo,hi⟩) ⟨by show v<64;omega,hlo,hhi⟩ hv hT (by omega) (hfit hlo) (hfit hhi) (fun s=>by have:=h.AW s;omega)) ?_
  rintro w C1 ⟨r,cT,cj,rfl,hN,h2,hrc,hlen,X0,HF,u0,u1,u2,o0,o1,fe⟩
  have HQ:=h.ok.mid.lay (r:=r) (d:=⟨v,lo,hi⟩) hN ⟨h2,hrc⟩ hv he hlo hhi hT (fun h=>h) rfl (by omega) hlen ⟨X0,HF⟩ u0 u1 o0 o1
  have YY:∀s d,K.N s=some d→up K.N r (some ⟨v,lo,hi⟩) s=some d:=fun s d hs=>by rw[aL (fun e=>by rw[e,hN]at hs;cases hs)];exact hs
  have hne:∀{t:Nat},live K.N t→t≠r:=fun ht=>e9 ht h2 hN
  have Lo:Idle {K with N:=up K.N r (some ⟨v,lo,hi⟩),T:=oJ K.T ⟨v,lo,hi⟩ (some r),used:=K.used+1,us:=cT,ho:=cj}:=fun s hs=>by
   have hs':up K.N r (some ⟨v,lo,hi⟩) s=none:=hs
   have RU:s≠r:=fun e=>by subst e;rw[aI]at hs';cases hs'
   rw[aL RU]at hs'
   show cT.getD s 0=0
   by_cases TO:2≤s
   ·rw[u1 s TO RU,h.idle s hs',dD]
    have a1:lo≠s:=fun e=>by
     rcases hlo with h5|⟨d,h5⟩
     ·omega
     ·rw[e,hs']at h5;cases h5
    have a2:hi≠s:=fun e=>by
     rcases hhi with h5|⟨d,h5⟩
     ·omega
     ·rw[e,hs']at h5;cases h5
    simp[a1,a2]
   ·rw[u2 s (by omega),h.idle s hs']
  refine JE.mk (LQ _ _ fun gs=>?_)
  refine ae.fq (zc fe HQ Lo (r:=r) (.inr ⟨_,aI⟩) (fun _=>by show cj.getD r 0<65535;rw[o0];omega)) ?_
  rintro w C2 ⟨rfl,K2,dB,F0,BF,hm,hu,hp⟩
  refine aa.cG (Br.F ?_)
  have OL:K2.n=K.n:=hm.n
  have SH:K2.N=up K.N r (some ⟨v,lo,hi⟩):=hm.N
  have hpos:Pos K2:=fun s d hs=>by
   by_cases e:s=r
   ·rw[e];exact hp h2
   ·rw[SH,aL e]at hs
    have h3:=hu s
    have h4:({K with N:=up K.N r (some ⟨v,lo,hi⟩),T:=oJ K.T ⟨v,lo,hi⟩ (some r),used:=K.used+1,us:=cT,ho:=cj}:Kd).use s=cT.getD s 0:=rfl
    rw[h4,u1 s (h.ok.mid.two hs).1 e]at h3
    have:=h.ok.pos s d hs
    omega
  have xx:∀{t:Nat},live K.N t→dep K2.n (lv ah) K2.N t=dep K.n (lv ah) K.N t:=fun{t} ht=>by
   rw[SH,OL]
   unfold dep
   rw[aL (hne ht)]
  have XP:WF K2.n (lv ah) K2.N:=F0.wf fun{s d} hs=>by
   rw[SH]at hs
   by_cases e:s=r
   ·rw[e,aI]at hs;cases hs
    rw[xx hlo,xx hhi];exact gH
   ·rw[aL e]at hs
    rw[xx (h.ok.wf.lo hs).1,xx (h.ok.wf.hi hs).1]
    exact⟨(h.ok.wf.lo hs).2,(h.ok.wf.hi hs).2⟩
  have hS:∀s,live K.N s→up S r (ite S ⟨v,lo,hi⟩) s=S s:=fun s hs=>aL (hne hs)
  refine aS.here (.inl ⟨r,K2,up S r (ite S ⟨v,lo,hi⟩),rfl,⟨dB,⟨F0,hpos,by rw[OL];exact h.ok.lv,XP⟩,by rw[OL];exact h.od,BF,trivial⟩,⟨OL,hm.cap,by rw[hm.used];exact Nat.le_refl _,fun s d hs=>by rw[SH];exact YY s d hs,hS,.inr ⟨_,by rw[SH];exact aI⟩,aI,fun s=>?_⟩⟩)
  rw[hm.hold]
  show(if s=r∧2≤r then cj.getD s 0+1 else cj.getD s 0)=_
  by_cases e:s=r
  ·subst e
   rw[if_pos ⟨rfl,h2⟩,if_pos ⟨rfl,h2⟩,o0]
   have:K.hold s=0:=by
    apply Decidable.byContradiction
    intro hne
    obtain⟨d,hd⟩:=h.ok.mid.held s hne
    rw[hN]at hd;cases hd
   omega
  ·rw[if_neg (fun h=>e h.1),if_neg (fun h=>e h.1),o1 s e]
end
theorem hnew{H:Hp}:aZ [] H (fun X=>X++H):=aZ.left
theorem KV{n:Nat}(hn:n≤64):Fc Tryz.prog 185 #[.int .i64 (n:Int)] [] (fun v H=>aK 3 .i64 v (iw (List.range n)) H):=by
 refine aR fun g=>Eh ?_
 refine cO.ints (by omega) (by omega) fun b=>?_
 have h0:aK 3 .i64 (.slice (some ⟨b,0,none⟩) n n) (List.replicate n 0) [(b,.cells (ax .i64 (List.replicate n 0)) 3 (0,0))]:=by
  have:=aK.made (T:=3) (kd:=.i64) (b:=b) (List.replicate n (0:Int))
  rw[List.length_replicate]at this;exact this
 refine⟨fun vs H=>∃j:Nat,vs=[.int .i64 (j:Int)]∧j≤n∧aK 3 .i64 (.slice (some ⟨b,0,none⟩) n n) (iw (List.range j)++List.replicate (n-j) 0) H,fun vs _=>n-br vs 0,JE.mk ⟨0,rfl,by omega,by simpa[iw]using h0⟩,?_⟩
 rintro w H ⟨j,hw,hj,hs⟩ gs
 simp only[List.cons.injEq,and_true]at hw
 subst hw
 refine aa.dH (Br.dec (fun hlt=>?_) (fun hlt=>?_))
 ·refine hs.ja (x:=(j:Int)) .here (by simp;omega) fun C' hs'=>?_
  refine aa.inc ?_
  have e:(iw (List.range j)++List.replicate (n-j) 0).set j (j:Int)=iw (List.range (j+1))++List.replicate (n-(j+1)) 0:=by
   rw[List.set_append_right _ _ (by simp)]
   rw[show n-j=(n-(j+1))+1 by omega,List.replicate_succ,List.range_succ,bP]
   simp[iw]
  rw[e]at hs'
  exact aB.of (.refl _) ⟨j+1,rfl,by omega,hs'⟩ (by show n-(((j+1:Nat):Int).toNat)<n-(((j:Nat):Int).toNat);omega)
 ·obtain rfl:j=n:=by omega
  exact aS.here (by simpa using hs)
theorem zg{n:Nat}(hn:n≤64):Fc Tryz.prog 116 #[.int .i64 (n:Int)] [] (fun v H=>∃s,v=.tuple #[s,.int .i64 0]∧aK 3 .i64 s (iw (List.range n)) H):=by
 refine aR fun g=>EY ?_
 refine aa.lss ?_
 rw[decide_eq_false (by omega)]
 refine df.or false (fun _=>aa.gtr ⟨rfl,by rw[decide_eq_false (by omega)]⟩) rfl fun _=>Br.no ?_
 refine ae.fq (KV hn) ?_
 intro s H hs
 exact aS.here ⟨s,rfl,hs⟩
def K0(n cap:Nat):Kd:=⟨n,cap,2,fun _=>none,fun _=>none,[],[]⟩
def S0:Nat→aC.Fn:=fun r _=>decide (r=1)
theorem lZ{n v:Nat}(hv:v<n):lv (List.range n) v=v:=by
 show(List.range n).getD v 0=v
 simp[List.getD,hv]
theorem Wp{n cap:Nat}(hc:2≤cap∧cap≤1048576):Ok (K0 n cap) S0 (lv (List.range n)):=by
 have c0:∀k,kY (fun _=>none) k=0:=fun k=>by induction k with|zero=>rfl|succ k ih=>rw[kY,ih];rfl
 have hm:ig (K0 n cap) S0 gv zero':={
  two:=fun h=>nomatch h
  var:=fun h=>nomatch h
  ne:=fun h=>nomatch h
  lo:=fun h=>nomatch h
  hi:=fun h=>nomatch h
  int:=⟨fun _=>rfl,fun _=>rfl,fun h=>nomatch h⟩
  g8:=fun d r=>⟨fun h=>(nomatch h),fun h=>nomatch h.1⟩
  use:=fun h=>nomatch h
  len:=rfl
  fit:=fun h=>nomatch h
  held:=fun r h=>absurd (by simp[Kd.hold,K0]) h
  mx:=fun r=>by simp[Kd.hold,K0]
  room:=by show 2=2+kY (fun _=>none) _;rw[c0]
  cap:=hc}
 refine⟨hm,fun r d h=>(nomatch h),⟨fun v hv=>?_,fun u v hu hv h=>?_⟩,⟨fun h=>(nomatch h),fun h=>(nomatch h),fun h=>(nomatch h),fun h=>(nomatch h),fun h=>(nomatch h),fun h=>(nomatch h)⟩⟩
 ·have vG:v<n:=hv
  rw[lZ vG];exact hv
 ·have xp:u<n:=hu
  have vG:v<n:=hv
  rwa [lZ xp,lZ vG]at h
theorem yS{pt n cap:Nat}{CT:Hp}(hu:mH pt n (fun _=>none) CT)(hc:2≤cap∧cap≤1048576):Fc Tryz.prog 118 #[.int .i64 (cap:Int),ptr pt] CT (fun v H=>∃pa CA,v=.tuple #[.agg #[ptr pa,ptr pt,.slice none 0 0,.slice none 0 0],.int .i64 0]∧gC pa cap 2 (fun _=>none) CA∧H=CA++CT):=by
 refine aR fun g=>EW ?_
 intro b1 _
 refine ae.fn hnew (PI hc) ?_
 rintro v C ⟨pa,rfl,hA⟩
 refine Ext.two ?_
 refine Build.mk (cs:=[ptr pa,ptr pt,.slice none 0 0,.slice none 0 0]) (by kernel_rfl) ?_
 refine St.q ?_
 refine av.q ?_
 exact aS.mk (.cQ .tail _) ⟨pa,C,rfl,hA,rfl⟩
theorem Rv{n cap:Nat}(hn:1≤n∧n≤64)(hc:2≤cap∧cap≤1048576):Fc Tryz.prog 51 #[.int .i64 (n:Int),.int .i64 (cap:Int)] [] (fun v C=>∃kp,v=.tuple #[ptr kp,.int .i64 0]∧cw kp (K0 n cap) S0 (List.range n) (List.range n) [] C):=by
 refine aR fun g=>IN ?_
 refine ae.fq (zg hn.2) ?_
 rintro v CO ⟨s,rfl,hO⟩
 obtain⟨sa,sl,sc,hse⟩:∃a l c,s=Value.slice a l c:=by obtain⟨a,c,h⟩:=aO.len hO;exact⟨a,_,c,h⟩
 refine Ext.two ?_
 refine aa.cG ?_
 refine df.or false (fun _=>aa.lss ⟨rfl,by rw[decide_eq_false (by omega)]⟩) rfl fun gs=>?_
 refine df.or false (fun _=>aa.lss ⟨rfl,by rw[decide_eq_false (by omega)]⟩) rfl fun gs=>?_
 refine df.or false (fun _=>aa.gtr ⟨rfl,by rw[decide_eq_false (by omega)]⟩) rfl fun gs=>Br.no ?_
 refine ae.fn hnew (Ny hn) ?_
 rintro v CT ⟨pt,rfl,hT⟩
 refine Ext.two ?_
 refine aa.cG (Br.no ?_)
 refine ae.fq (yS hT hc) ?_
 rintro v H ⟨pa,CA,rfl,hA,rfl⟩
 refine Ext.two ?_
 intro b24 _
 refine St.q ?_
 refine aa.cG (Br.no (DR.self ?_))
 refine av.q ?_
 refine ae.fq (tx (hO.ints.mono fun _ h=>h) (by simp;omega)) ?_
 rintro v H ⟨CL,rfl,hL⟩
 obtain⟨la,ll,lc,hle⟩:∃a l c,v=Value.slice a l c:=by obtain⟨a,c,h⟩:=aO.len hL;exact⟨a,_,c,h⟩
 refine⟨(.cons (.cQ .right _)),?_⟩
 subst hse hle
 refine Build.mk (cs:=[ptr pa,ptr pt,.slice none 0 0,.slice none 0 0,.int .i64 (n:Int),.slice sa sl sc,.slice la ll lc,.slice none 0 0]) (by kernel_rfl) ?_
 intro yc _
 refine⟨(.skip (.cons (.cQ .right _))),?_⟩
 let kb:rG:=⟨pa,pt,.slice none 0 0,.slice none 0 0,.slice sa sl sc,.slice la ll lc,.slice none 0 0,CA,CT,[],[],CO,CL,[]⟩
 refine aS.mk (kZ:=kb.hp yc n) ?_ ⟨yc,rfl,⟨kb,rfl,⟨hA,hT,aK.nil,aK.nil,hO,hL,aK.nil,⟨rfl,by simp[K0]⟩,hn.2,by simp[K0]⟩⟩,Wp hc,⟨by simp[K0],fun l hl=>?_⟩,fun s _=>by simp[Kd.use,K0],trivial⟩
 ·refine .cons (.skip ((aM.assoc).trans ?_))
  show aM (CA++(CT++(CL++CO))) (CA++(CT++([]++([]++(CO++(CL++[]))))))
  simp only[List.nil_append,List.append_nil]
  exact .cQ (.cQ (.perm List.perm_append_comm) _) _
 ·have hl':l<n:=hl
  have e:(List.range n).getD l 0=l:=lZ hl'
  rw[e];exact⟨hl,lZ hl'⟩
end Go.Proofs
namespace aC
def au(ord path:List Nat):List Nat:=path.foldl iJ ord
theorem fw{ord path:List Nat}{l:Nat}:au ord (path++[l])=iJ (au ord path) l:=by simp[au]
theorem bU{ord path q:List Nat}:au ord (path++q)=au (au ord path) q:=by simp[au]
theorem eR{ord:List Nat}:∀{path:List Nat},(au ord path).length=ord.length:=by
 intro path
 unfold au
 induction path generalizing ord with
 |nil=>rfl
 |cons l r ih=>rw[List.foldl_cons,ih];simp[iJ]
def jN:Nat→List Nat
 |2=>[0]
 |3=>[1,0,1,0,1]
 |4=>[2,1,0,2,0,1,2,0,2,1,0,2,0,1,2,0,2,1,0,2,0,1,2]
 |_=>[]
structure Rm where
 n:Nat
 size:List Nat→Nat
 fit:List Nat→Nat→Bool
def Rm.c9(m:Rm)(p:Nat):List Nat→List Nat→List Nat
 | [],_=>[]
 |c::cs,ord=>if m.fit ord (p+c)then(p+c)::m.c9 p cs (iJ ord (p+c))else []
def Rm.keep(m:Rm)(ord path:List Nat):Nat→Nat
 |0=>0
 |i+1=>if m.size (au ord (path.take (i+1)))<m.size (au ord (path.take (m.keep ord path i)))then i+1 else m.keep ord path i
def Rm.visit(m:Rm)(w p:Nat)(ord:List Nat):List Nat×Nat:=
 let path:=m.c9 p (jN w) ord
 let k:=m.keep ord path path.length
 (path.take k,path.length+(path.length-k))
def Rm.all(m:Rm)(w:Nat)(ord:List Nat):Nat→List Nat×Nat
 |0=>([],0)
 |i+1=>let a:=m.all w ord i;let b:=m.visit w i (au ord a.1);(a.1++b.1,a.2+b.2)
def Rm.pass(m:Rm)(w:Nat)(ord:List Nat):List Nat×Nat:=m.all w ord (m.n+1-w)
theorem Rm.jJ(m:Rm)(p:Nat):∀cs ord,(m.c9 p cs ord).length≤cs.length
 | [],_=>by simp[c9]
 |c::cs,ord=>by
  rw[c9]
  split
  ·have:=m.jJ p cs (iJ ord (p+c));simp only[List.length_cons];omega
  ·simp
theorem Rm.pD(m:Rm)(p:Nat):∀cs ord i,i<(m.c9 p cs ord).length→(m.c9 p cs ord)[i]? =(cs[i]?).map (p+ ·)∧∃c,cs[i]? =some c∧m.fit (au ord ((m.c9 p cs ord).take i)) (p+c)=true
 | [],_,i,h=>by simp[c9]at h
 |c::cs,ord,i,h=>by
  by_cases hf:m.fit ord (p+c)=true
  ·rw[c9,if_pos hf]at h⊢
   cases i with
   |zero=>exact⟨by simp,c,rfl,hf⟩
   |succ i=>
    obtain⟨h1,c',h2,h3⟩:=m.pD p cs (iJ ord (p+c)) i (by simpa using h)
    exact⟨by simpa using h1,c',by simpa using h2,by simpa[au]using h3⟩
  ·rw[c9,if_neg hf]at h;simp at h
theorem Rm.tf(m:Rm)(p:Nat):∀cs ord c,cs[(m.c9 p cs ord).length]? =some c→m.fit (au ord (m.c9 p cs ord)) (p+c)=false
 | [],_,c,h=>by simp at h
 |c'::cs,ord,c,h=>by
  by_cases hf:m.fit ord (p+c')=true
  ·rw[c9,if_pos hf]at h⊢
   have:=m.tf p cs (iJ ord (p+c')) c (by simpa using h)
   simpa[au]using this
  ·rw[c9,if_neg hf]at h⊢
   simp only[List.length_nil,List.getElem?_cons_zero,Option.some.injEq]at h
   subst h
   simpa[au]using hf
theorem Rm.zI(m:Rm)(p:Nat){cs ord:List Nat}{l:Nat}(h:l∈m.c9 p cs ord):∃c∈cs,l=p+c:=by
 obtain⟨i,hi,e⟩:=List.getElem_of_mem h
 obtain⟨h1,c,h2,_⟩:=m.pD p cs ord i hi
 rw[List.getElem?_eq_getElem hi,e,h2]at h1
 exact⟨c,List.mem_of_getElem? h2,by simpa using h1⟩
theorem Rm.xl(m:Rm)(ord path:List Nat):∀i,m.keep ord path i≤i
 |0=>Nat.le_refl _
 |i+1=>by rw[keep];split;omega;have:=m.xl ord path i;omega
theorem Rm.sQ(m:Rm)(ord path:List Nat):∀i j,j≤i→m.size (au ord (path.take (m.keep ord path i)))≤m.size (au ord (path.take j))
 |0,j,h=>by
  obtain rfl:j=0:=by omega
  exact Nat.le_refl _
 |i+1,j,h=>by
  by_cases e:j=i+1
  ·subst e;rw[keep];split<;>omega
  ·have:=m.sQ ord path i j (by omega)
   rw[keep];split<;>omega
theorem B3{w c:Nat}(h:c∈jN w):c+2≤w:=by
 unfold jN at h
 split at h
 ·simp at h;omega
 ·simp at h;omega
 ·simp at h;omega
 ·simp at h
theorem Ge(w:Nat):(jN w).length≤23:=by
 unfold jN
 split<;>simp
theorem Rm.GK(m:Rm){w p:Nat}{ord:List Nat}{l:Nat}(h:l∈(m.visit w p ord).1):l+2≤p+w:=by
 obtain⟨c,hc,rfl⟩:=m.zI p (List.mem_of_mem_take h)
 have:=B3 hc
 omega
theorem Rm.uU(m:Rm)(w p:Nat)(ord:List Nat):(m.visit w p ord).1.length≤23∧(m.visit w p ord).2≤46:=by
 have h1:=m.jJ p (jN w) ord
 have h2:=Ge w
 have h3:=m.xl ord (m.c9 p (jN w) ord) (m.c9 p (jN w) ord).length
 constructor
 ·show(List.take _ _).length≤23
  rw[List.length_take];omega
 ·show _+(_-_)≤46
  omega
theorem Rm.yh(m:Rm)(w p:Nat)(ord:List Nat):m.size (au ord (m.visit w p ord).1)≤m.size ord:=by
 have:=m.sQ ord (m.c9 p (jN w) ord) (m.c9 p (jN w) ord).length 0 (Nat.zero_le _)
 simpa[visit,au]using this
theorem Rm.Cj(m:Rm)(w:Nat)(ord:List Nat):∀i,m.size (au ord (m.all w ord i).1)≤m.size ord
 |0=>Nat.le_refl _
 |i+1=>by
  have h1:=m.Cj w ord i
  have h2:=m.yh w i (au ord (m.all w ord i).1)
  show m.size (au ord (_++_))≤_
  rw[bU]
  exact Nat.le_trans h2 h1
theorem Rm.xS(m:Rm)(w:Nat)(ord:List Nat):∀i,(m.all w ord i).1.length≤23*i∧(m.all w ord i).2≤46*i
 |0=>⟨Nat.le_refl _,Nat.le_refl _⟩
 |i+1=>by
  have h1:=m.xS w ord i
  have h2:=m.uU w i (au ord (m.all w ord i).1)
  constructor
  ·show((m.all w ord i).1++(m.visit w i (au ord (m.all w ord i).1)).1).length≤_
   rw[List.length_append];omega
  ·show(m.all w ord i).2+(m.visit w i (au ord (m.all w ord i).1)).2≤_
   omega
theorem Rm.Gp(m:Rm){w:Nat}{ord:List Nat}{l:Nat}:∀{i},l∈(m.all w ord i).1→l+3≤i+w
 |0,h=>by simp[all]at h
 |i+1,h=>by
  rcases List.mem_append.1 h with h|h
  ·have:=m.Gp h;omega
  ·have:=m.GK h;omega
theorem Rm.all_succ(m:Rm)(w:Nat)(ord:List Nat)(i:Nat):m.all w ord (i+1)=((m.all w ord i).1++(m.visit w i (au ord (m.all w ord i).1)).1,(m.all w ord i).2+(m.visit w i (au ord (m.all w ord i).1)).2):=rfl
end aC
set_option maxRecDepth 100000
namespace Go.Proofs
open Go Go.Sx
open aC
def At(kp:Nat)(K:Kd)(S:Nat→aC.Fn)(ord tr:List Nat)(C:Hp):Prop:=∃K' S' cZ,cw kp K' S' ord cZ tr C∧Kept K S K' S'
noncomputable def cg(K:Kd)(S:Nat→aC.Fn)(ord:List Nat):Nat:=sz K.n ord (K.held S)
def gV(K:Kd)(S:Nat→aC.Fn)(ord:List Nat)(l:Nat):Prop:=Ax K.n ord l (K.held S)+2≤K.cap
section
variable {kp:Nat} {K:Kd} {S:Nat→aC.Fn} {ord tr:List Nat} {C:Hp}
theorem cw.aY{ah:List Nat}(h:cw kp K S ord ah tr C):At kp K S ord tr C:=⟨K,S,ah,h,.refl _ _⟩
theorem y6{ah:List Nat}(h:cw kp K S ord ah tr C):K.used=cg K S ord+2:=by
 have h1:=PX (h.ok.size h.od)
 have h2:=h.ok.mid.room
 unfold cg
 omega
theorem y9{K':Kd}{S':Nat→aC.Fn}(h:Kept K S K' S')(ord:List Nat):cg K' S' ord=cg K S ord:=by
 unfold cg;rw[h.n];exact JJ h.held
theorem vC{K':Kd}{S':Nat→aC.Fn}(h:Kept K S K' S')(ord:List Nat)(l:Nat):gV K' S' ord l↔gV K S ord l:=by
 unfold gV;rw[h.n,h.cap,GM h.held]
theorem At.len(h:At kp K S ord tr C):ord.length=K.n:=by
 obtain⟨K',S',cZ,h,hk⟩:=h
 rw[←hk.n];exact h.od.len
theorem iG(h:At kp K S ord tr C):cg K S ord≤1048574:=by
 obtain⟨K',S',cZ,h,hk⟩:=h
 rw[←y9 hk];have:=y6 h;have:=h.ok.mid.cap;omega
theorem At.oK(h:At kp K S ord tr C):K.n≤64:=by
 obtain⟨K',S',cZ,h,hk⟩:=h
 obtain⟨b,_,hO⟩:=h.rep
 rw[←hk.n];exact hO.oK
theorem cz(h:At kp K S ord tr C):Rd Tryz.prog 15 #[ptr kp] C (· =.int .i64 ((cg K S ord:Nat):Int)):=by
 obtain⟨K',S',cZ,h,hk⟩:=h
 have hs:=y6 h
 have hc:=h.ok.mid.cap
 refine(rM h.rep (by omega) (by omega)).mono ?_
 rintro v H ⟨rfl,rfl⟩
 exact⟨rfl,by rw[hs,y9 hk];rfl⟩
theorem pM(h:At kp K S ord tr C):Rd Tryz.prog 34 #[ptr kp] C (· =.int .i64 ((tr.length:Nat):Int)):=by
 obtain⟨K',S',cZ,h,hk⟩:=h
 exact HB h.rep
theorem kI(h:At kp K S ord tr C):Rd Tryz.prog 61 #[ptr kp] C (· =.int .i64 ((K.n:Nat):Int)):=by
 obtain⟨K',S',cZ,h,hk⟩:=h
 rw[←hk.n];exact gy h.rep
theorem MC(h:At kp K S ord tr C):Fc Tryz.prog 13 #[ptr kp] C (fun r H=>∃N,H=N++C∧aK 3 .i64 r (iw ord) N):=by
 obtain⟨K',S',cZ,h,hk⟩:=h
 exact qh h.rep
theorem xQ(h:At kp K S ord tr C){l:Nat}(hl:l+1<K.n)(fo:tr.length<1099511627776)(hf:gV K S ord l):Fc Tryz.prog 17 #[ptr kp,.int .i64 (l:Int)] C (fun r C'=>r=.int .i64 0∧At kp K S (iJ ord l) (tr++[l]) C'):=by
 obtain⟨K',S',cZ,h,hk⟩:=h
 refine(F8 h (by rw[hk.n];exact hl) fo).mono ?_
 rintro v C' (⟨_,rfl,K2,S2,Ry,h2,sZ⟩|⟨hno,_,_⟩)
 ·exact⟨rfl,K2,S2,Ry,h2,hk.trans sZ⟩
 ·have:=(vC hk ord l).2 hf
  unfold gV at this;omega
theorem oE(h:At kp K S ord tr C){l:Nat}(hl:l+1<K.n)(fo:tr.length<1099511627776)(hf:¬gV K S ord l):Rd Tryz.prog 17 #[ptr kp,.int .i64 (l:Int)] C (· =.int .i64 9):=by
 obtain⟨K',S',cZ,h,hk⟩:=h
 refine(F8 h (by rw[hk.n];exact hl) fo).mono ?_
 rintro v C' (⟨RP,_⟩|⟨hno,rfl,rfl⟩)
 ·exact absurd ((vC hk ord l).1 RP) hf
 ·exact⟨rfl,rfl⟩
theorem xP{l:Nat}(h:At kp K S ord (tr++[l]) C)(fo:tr.length<1099511627776):Fc Tryz.prog 18 #[ptr kp] C (fun r C'=>r=.tuple #[.int .i64 (l:Int),.int .i64 0]∧At kp K S (iJ ord l) tr C'):=by
 obtain⟨K',S',cZ,h,hk⟩:=h
 refine(Nz h fo).mono ?_
 rintro v C' ⟨rfl,_,K2,S2,Ry,h2,sZ⟩
 exact⟨rfl,K2,S2,Ry,h2,hk.trans sZ⟩
theorem Q9(h:At kp K S ord tr C){l:Nat}(hl:l+1<K.n)(fo:tr.length<1099511627776)(hf:gV K S ord l):Fc Tryz.prog 144 #[ptr kp,.int .i64 (l:Int)] C (fun r C'=>
   r=.tuple #[.agg #[.int .i64 (l:Int),.int .i64 ((cg K S ord:Nat):Int),.int .i64 ((cg K S (iJ ord l):Nat):Int)],.int .i64 0]∧At kp K S (iJ ord l) (tr++[l]) C'):=by
 refine aR fun g=>tZ ?_
 intro b1 _
 refine ae.eq (cz h) ?_
 refine Build.mk (cs:=[.int .i64 (l:Int),.int .i64 ((cg K S ord:Nat):Int),.int .i64 0]) (by kernel_rfl) ?_
 intro b6 _
 refine St.q ?_
 refine ae.fq (xQ h hl fo hf) ?_
 rintro v C' ⟨rfl,h'⟩
 refine aa.cG (Br.F ?_)
 refine ae.eq (cz h') ?_
 refine ag.mk (St.one (by exact .head _) rfl (by simp) rfl ?_)
 refine av.q ?_
 refine St.q ?_
 refine av.q ?_
 exact aS.mk (.skip .tail) ⟨rfl,h'⟩
theorem Ra(h:At kp K S ord tr C){l:Nat}(hl:l+1<K.n)(fo:tr.length<1099511627776)(hf:¬gV K S ord l):Rd Tryz.prog 144 #[ptr kp,.int .i64 (l:Int)] C (· =.tuple #[.agg #[.int .i64 0,.int .i64 0,.int .i64 0],.int .i64 9]):=by
 refine aR fun g=>tZ ?_
 intro b1 _
 refine ae.eq (cz h) ?_
 refine Build.mk (cs:=[.int .i64 (l:Int),.int .i64 ((cg K S ord:Nat):Int),.int .i64 0]) (by kernel_rfl) ?_
 intro b6 _
 refine St.q ?_
 refine ae.eq (oE h hl fo hf) ?_
 refine aa.cG (Br.T ?_)
 refine Build.mk (cs:=[.int .i64 0,.int .i64 0,.int .i64 0]) (by kernel_rfl) ?_
 refine St.q ?_
 refine av.q ?_
 exact bN.mk (.skip .tail) rfl
theorem Gk{path:List Nat}(h:At kp K S (au ord path) (tr++path) C)(hp:∀l∈path,l+1<K.n){k:Nat}(hk:k≤path.length)(fo:(tr++path).length<1099511627776):Fc Tryz.prog 145 #[ptr kp,.int .i64 ((tr.length+k:Nat):Int)] C (fun r C'=>
   r=.tuple #[.int .i64 ((path.length-k:Nat):Int),.int .i64 0]∧At kp K S (au ord (path.take k)) (tr++path.take k) C'):=by
 have hlen:=h.len
 rw[eR]at hlen
 rw[List.length_append]at fo
 refine aR fun g=>EI ?_
 refine aa.aD (Br.no ?_)
 intro J2 vO
 refine aa.lss ?_
 rw[decide_eq_false (by omega)]
 refine Split.go rfl ?_
 refine ae.eq (pM h) ?_
 refine aa.gtr ?_
 rw[decide_eq_false (by rw[List.length_append];omega)]
 refine ay.mk ?_
 refine JE.mk (vO _ _ fun gs=>Br.no ?_)
 refine⟨fun vs H=>∃m,m≤path.length∧k≤m∧vs=[.int .i64 ((path.length-m:Nat):Int)]∧At kp K S (au ord (path.take m)) (tr++path.take m) H,fun vs _=>path.length-br vs 0,JE.mk ⟨path.length,Nat.le_refl _,hk,by simp,by simpa using h⟩,?_⟩
 rintro w H ⟨m,hm,hkm,hw,x9⟩ gs
 simp only[List.cons.injEq,and_true]at hw
 subst hw
 refine ae.eq (pM x9) ?_
 refine aa.iU (Br.dec (fun hlt=>?_) (fun hlt=>?_))
 ·rw[List.length_append,List.length_take]at hlt
  obtain⟨m,rfl⟩:∃m',m=m'+1:=⟨m-1,by omega⟩
  have e:path.take (m+1)=path.take m++[path[m]]:=by rw[List.take_add_one,List.getElem?_eq_getElem (by omega)];rfl
  rw[e,←List.append_assoc,fw]at x9
  refine ae.fq (xP x9 (by simp;omega)) ?_
  rintro v C' ⟨rfl,h'⟩
  rw[oS (by rw[eR,hlen];exact hp _ (List.getElem_mem _))]at h'
  refine aa.inc ?_
  refine aB.of (.refl _) ⟨m,by omega,by omega,by rw[show path.length-(m+1)+1=path.length-m by omega],h'⟩ ?_
  show path.length-(((path.length-(m+1)+1:Nat):Int).toNat)<path.length-(((path.length-(m+1):Nat):Int).toNat)
  omega
 ·rw[List.length_append,List.length_take]at hlt
  obtain rfl:m=k:=by omega
  exact aS.here ⟨rfl,x9⟩
end
theorem B4{w:Nat}(hw:2≤w∧w≤4):Fc Tryz.prog 14 #[.int .i64 (w:Int)] [] (fun v H=>∃s,v=.tuple #[s,.int .i64 0]∧aK 3 .i64 s (iw (jN w)) H):=by
 refine aR fun g=>I4 ?_
 obtain rfl|rfl|rfl:w=2∨w=3∨w=4:=by omega
 ·refine aa.gA (Br.T ?_)
  refine aq.int (e:=3) (by kernel_rfl) (by kernel_rfl) (by kernel_rfl) fun bx=>?_
  exact aS.here ⟨_,rfl,aK.made [0]⟩
 ·refine aa.gA (Br.F (aa.gA (Br.T ?_)))
  refine⟨ax .i64 (iw (jN 3)),3,1,.int .i64 0,by kernel_rfl,by kernel_rfl,by kernel_rfl,by decide,by kernel_rfl,fun bx _=>?_⟩
  exact aS.here ⟨_,rfl,aK.made (iw (jN 3))⟩
 ·refine aa.gA (Br.F (aa.gA (Br.F (aa.gA (Br.T ?_)))))
  refine⟨ax .i64 (iw (jN 4)),3,1,.int .i64 0,by kernel_rfl,by kernel_rfl,by kernel_rfl,by decide,by kernel_rfl,fun bx _=>?_⟩
  exact aS.here ⟨_,rfl,aK.made (iw (jN 4))⟩
end Go.Proofs
namespace Go.Sx
open Go
section
variable {P:Program} {g:Gh} {H:Hp}
theorem gD.nat{len size b o j:Nat}{kd:IntKind}{k:Value→Prop}(h1:j<len)(h:k (.pointer (some ⟨b,o+j*size,none⟩))):gD len size (.pointer (some ⟨b,o,none⟩)) (.int kd (j:Int)) k:=
 ⟨b,o,kd,(j:Int),rfl,rfl,by omega,by omega,by simpa using h⟩
theorem kJ.Wc{o:Oper}{ρ:Operand→Value}{k:Value→Prop}{t e:TypeId}{q kd:IntKind}{n j:Nat}{x i:Operand}{l:List Int}{z:Int}(ho:o.op=.index t x i)(hx:ρ x=.agg (ax q l))(hi:ρ i=.int kd (j:Int))
 (ht:P.underlying t=some (.array n e))(hu:P.underlying e=some (.int q))(hz:cU P e=some 1)(hj:j<n)(hl:l[j]? =some z)(hk:k (.int q z)):kJ P g o ρ H k:=by
 obtain⟨inf,Yo,hs⟩:=bg hz
 refine⟨_,fun w _=>?_,hk⟩
 have hp:=oY (P:=P) hu hl w
 have LA:(0:Int)≤(j:Int)∧(j:Int)<(n:Int):=by omega
 simp only[execOp,ho,Instr.index,hx,hi,asIntOf,Sem.run_bind,Sem.run_pure,Result.andThen_ok,run_underlying ht,run_sizeOf Yo,hs,if_pos LA,Int.toNat_natCast,Nat.mul_one,hp]
end
end Go.Sx
namespace aC
open aj
def clr(m v:Nat):Nat:=if m.testBit v then m^^^2^v else m
def rest(m:Nat)(ord:List Nat):Nat→Nat
 |0=>m
 |k+1=>clr (rest m ord k) (ord.getD k 0)
section
variable {n m o:Nat} {ord:List Nat} {F:Fn→Prop}
theorem getD_inj(hn:ord.Nodup){i j:Nat}(hi:i<ord.length)(hj:j<ord.length)(e:ord.getD i 0=ord.getD j 0):i=j:=by
 rw[List.getD_eq_getElem?_getD,List.getD_eq_getElem?_getD,List.getElem?_eq_getElem hi,List.getElem?_eq_getElem hj]at e
 exact(List.getElem_inj hn).1 e
theorem JL{l:Nat}(hl:l+1<ord.length):(iJ ord l).Perm ord:=by
 unfold iJ
 have e1:ord=ord.take l++ord.getD l 0::ord.getD (l+1) 0::ord.drop (l+2):=by
  conv=>lhs;rw[←List.take_append_drop l ord]
  congr 1
  rw[List.drop_eq_getElem_cons (by omega),List.drop_eq_getElem_cons (by omega)]
  simp[List.getD,List.getElem?_eq_getElem (show l<ord.length by omega),List.getElem?_eq_getElem hl]
 have ht:(ord.take l).length=l:=by simp;omega
 have e2:(ord.set l (ord.getD (l+1) 0)).set (l+1) (ord.getD l 0)=ord.take l++ord.getD (l+1) 0::ord.getD l 0::ord.drop (l+2):=by
  generalize hx:ord.getD l 0=x at*
  generalize hy:ord.getD (l+1) 0=y at*
  conv=>lhs;rw[e1]
  rw[List.set_append_right _ _ (by omega),ht,Nat.sub_self,List.set_cons_zero,List.set_append_right _ _ (by omega),ht,Nat.add_sub_cancel_left,List.set_cons_succ,List.set_cons_zero]
 rw[e2]
 conv=>rhs;rw[e1]
 exact List.Perm.append_left _ (List.Perm.swap _ _ _)
theorem jr:∀{path:List Nat} {ord:List Nat},(∀l∈path,l+1<ord.length)→(au ord path).Perm ord
 | [],_,_=>.refl _
 |l::r,ord,h=>by
  show(au (iJ ord l) r).Perm ord
  have h1:=h l (by simp)
  exact(jr fun x hx=>by rw[j6];exact h x (by simp[hx])).trans (JL h1)
end
def flat(n s:Nat):Rm:=⟨n,fun _=>s,fun _ _=>true⟩
end aC
namespace aC
def B7(i:Nat):Nat→List Nat
 |0=>[]
 |j+1=>if i≤j then j::B7 i j else []
theorem xM{i j:Nat}(h:j≤i):B7 i j=[]:=by
 cases j with
 |zero=>rfl
 |succ j=>rw[B7,if_neg (by omega)]
theorem pL{i j:Nat}(h:i≤j):B7 i (j+1)=j::B7 i j:=by rw[B7,if_pos h]
theorem Gf{i l:Nat}:∀{j},l∈B7 i j→i≤l∧l<j
 |0,h=>by simp[B7]at h
 |j+1,h=>by
  by_cases e:i≤j
  ·rw[pL e]at h
   rcases List.mem_cons.1 h with rfl|h
   ·omega
   ·have:=Gf h;omega
  ·rw[xM (by omega)]at h;simp at h
theorem xL(i:Nat):∀j,(B7 i j).length=j-i
 |0=>by simp[B7]
 |j+1=>by
  by_cases e:i≤j
  ·rw[pL e,List.length_cons,xL i j];omega
  ·rw[xM (by omega)];simp;omega
theorem Gg{i k:Nat}:∀{j:Nat} {a:List Nat},i≤j→j<a.length→(k≤i→(au a (B7 i j)).getD k 0=if k=i then a.getD j 0 else a.getD k 0)
 |0,a,hi,hj,hk=>by
  obtain rfl:i=0:=by omega
  obtain rfl:k=0:=by omega
  simp[B7,au]
 |j+1,a,hi,hj,hk=>by
  by_cases e:i≤j
  ·rw[pL e]
   show(au (iJ a j) (B7 i j)).getD k 0=_
   rw[Gg (j:=j) e (by rw[j6];omega) hk,eo (by omega),eo (by omega)]
   by_cases h:k=i
   ·subst h;simp
   ·rw[if_neg h,if_neg h,if_neg (by omega),if_neg (by omega)]
  ·obtain rfl:i=j+1:=by omega
   rw[xM (Nat.le_refl _)]
   show a.getD k 0=_
   split
   ·rename_i h;rw[h]
   ·rfl
def Tl(p:List Nat)(x:Nat):Nat:=p.idxOf x
def dz(p q:List Nat):Nat→List Nat
 |0=>[]
 |i+1=>dz p q i++B7 i (Tl (au p (dz p q i)) (q.getD i 0))
def path(p q:List Nat):List Nat:=dz p q q.length
theorem Kf{p:List Nat}{x:Nat}(h:x∈p):Tl p x<p.length:=List.idxOf_lt_length_iff.2 h
theorem FG{p:List Nat}{x:Nat}(h:x∈p):p.getD (Tl p x) 0=x:=by
 have h1:=Kf h
 rw[List.getD_eq_getElem?_getD,List.getElem?_eq_getElem h1]
 show p[p.idxOf x]=x
 exact List.getElem_idxOf h1
section
variable {p q:List Nat}
theorem iu(hq:q.Nodup)(hp:p.Perm q):∀i,i≤q.length→(∀l∈dz p q i,l+1<p.length)∧(∀k,k<i→(au p (dz p q i)).getD k 0=q.getD k 0)∧(i<q.length→i≤Tl (au p (dz p q i)) (q.getD i 0)∧Tl (au p (dz p q i)) (q.getD i 0)<p.length)
 |i,hi=>by
  have hlen:=hp.length_eq
  have base:(∀l∈dz p q i,l+1<p.length)∧(∀k,k<i→(au p (dz p q i)).getD k 0=q.getD k 0):=by
   cases i with
   |zero=>exact⟨fun l hl=>by simp[dz]at hl,fun k hk=>absurd hk (Nat.not_lt_zero _)⟩
   |succ i=>
    obtain⟨h1,h2,h3⟩:=iu hq hp i (by omega)
    obtain⟨h4,h5⟩:=h3 (by omega)
    have hm:q.getD i 0∈au p (dz p q i):=by
     have:q.getD i 0∈q:=by rw[List.getD_eq_getElem?_getD,List.getElem?_eq_getElem (show i<q.length by omega)];exact List.getElem_mem _
     exact((jr h1).trans hp).mem_iff.2 this
    refine⟨fun l hl=>?_,fun k hk=>?_⟩
    ·rcases List.mem_append.1 hl with hl|hl
     ·exact h1 l hl
     ·have:=Gf hl;omega
    ·rw[dz,bU,Gg h4 (by rw[eR];exact h5) (by omega)]
     split
     ·rename_i e;subst e;exact FG hm
     ·exact h2 k (by omega)
  refine⟨base.1,base.2,fun hlt=>?_⟩
  have hm:q.getD i 0∈au p (dz p q i):=by
   have:q.getD i 0∈q:=by rw[List.getD_eq_getElem?_getD,List.getElem?_eq_getElem hlt];exact List.getElem_mem _
   exact((jr base.1).trans hp).mem_iff.2 this
  have h5:=Kf hm
  rw[eR]at h5
  refine⟨?_,h5⟩
  refine Classical.byContradiction fun kF=>?_
  have:=base.2 _ (Nat.lt_of_not_le kF)
  rw[FG hm]at this
  have:=getD_inj hq hlt (by omega) this
  omega
theorem wX(hq:q.Nodup)(hp:p.Perm q):au p (path p q)=q∧∀l∈path p q,l+1<p.length:=by
 obtain⟨h1,h2,_⟩:=iu hq hp q.length (Nat.le_refl _)
 refine⟨zR (by rw[eR];exact hp.length_eq) fun i hi=>h2 i ?_,h1⟩
 rw[eR,hp.length_eq]at hi;exact hi
theorem p8(hq:q.Nodup)(hp:p.Perm q):∀i,i≤q.length→(dz p q i).length≤i*p.length
 |0,_=>by simp[dz]
 |i+1,hi=>by
  have:=p8 hq hp i (by omega)
  obtain⟨_,_,h3⟩:=iu hq hp i (by omega)
  rw[dz,List.length_append,xL,Nat.succ_mul]
  have:=(h3 (by omega)).2
  omega
end
end aC
namespace aC
open aj
section
variable {n l:Nat} {ord:List Nat} {F G:Fn→Prop} {f c:Fn}
theorem vS:∀l g,fs ord (fun g=>F g∨G g) l g↔fs ord F l g∨fs ord G l g
 |0,g=>Iff.rfl
 |l+1,g=>by
  constructor
  ·rintro⟨f,hf,b,rfl⟩
   rcases(vS l f).1 hf with h|h
   ·exact .inl ⟨f,h,b,rfl⟩
   ·exact .inr ⟨f,h,b,rfl⟩
  ·rintro(⟨f,hf,b,rfl⟩|⟨f,hf,b,rfl⟩)
   ·exact⟨f,(vS l f).2 (.inl hf),b,rfl⟩
   ·exact⟨f,(vS l f).2 (.inr hf),b,rfl⟩
theorem yP(g:Fn):aP n ord (fun g=>F g∨G g) g↔aP n ord F g∨aP n ord G g:=by
 constructor
 ·rintro⟨l,hl,hf,hh⟩
  rcases(vS l g).1 hf with h|h
  ·exact .inl ⟨l,hl,h,hh⟩
  ·exact .inr ⟨l,hl,h,hh⟩
 ·rintro(⟨l,hl,hf,hh⟩|⟨l,hl,hf,hh⟩)
  ·exact⟨l,hl,(vS l g).2 (.inl hf),hh⟩
  ·exact⟨l,hl,(vS l g).2 (.inr hf),hh⟩
theorem cq{v:Nat}(h:¬dm f v)(x:Nat)(b:Bool):f (aA x v b)=f x:=by
 have h0:f (aA x v false)=f (aA x v true):=Classical.byContradiction fun hne=>h ⟨x,hne⟩
 have h1:=jt x v
 conv=>rhs;rw[←h1]
 cases b<;>cases x.testBit v<;>simp[h0]
theorem xE(hi:∀j,j<l→¬dm f (ord.getD j 0)):∀k,k≤l→fs ord (fun g=>g=f) k f
 |0,_=>rfl
 |k+1,hk=>⟨f,xE hi k (by omega),false,funext fun x=>(cq (hi k (by omega)) x false).symm⟩
theorem rN(hi:∀j,j<l→¬dm f (ord.getD j 0)):∀k,k≤l→∀g,fs ord (fun g=>g=f) k g→g=f
 |0,_,g,h=>h
 |k+1,hk,g,h=>by
  obtain⟨f',hf,b,rfl⟩:=h
  obtain rfl:=rN hi k (by omega) f' hf
  exact funext fun x=>cq (hi k (by omega)) x b
theorem g9(hi:∀j,j<l→¬dm f (ord.getD j 0)){b:Bool}(hc:c=fun x=>f (aA x (ord.getD l 0) b)):
  (∀j,j<l+1→¬dm c (ord.getD j 0))∧∀g,aP n ord (fun g=>g=c) g→aP n ord (fun g=>g=f) g:=by
 have h1:fs ord (fun g=>g=f) (l+1) c:=⟨f,xE hi l (Nat.le_refl _),b,hc⟩
 have h2:∀j,j<l+1→¬dm c (ord.getD j 0):=fun j hj=>ti (l+1) c h1 j hj
 refine⟨h2,?_⟩
 rintro g ⟨m,hm,hf,hh⟩
 by_cases e:m<l+1
 ·obtain rfl:=rN h2 m (by omega) g hf
  exact absurd hh (h2 m e)
 ·have key:∀d g,fs ord (fun g=>g=c) (l+1+d) g→fs ord (fun g=>g=f) (l+1+d) g:=fun d=>by
   induction d with
   |zero=>intro g hg;obtain rfl:=rN h2 (l+1) (Nat.le_refl _) g hg;exact h1
   |succ d ih=>rintro g ⟨f',zx,b',rfl⟩;exact⟨f',ih f' zx,b',rfl⟩
  obtain⟨d,rfl⟩:∃d,m=l+1+d:=⟨m-(l+1),by omega⟩
  exact⟨_,hm,key d g hf,hh⟩
theorem mQ(hi:∀j,j<l→¬dm f (ord.getD j 0))(hl:l<n)(hh:dm f (ord.getD l 0)):aP n ord (fun g=>g=f) f:=⟨l,hl,xE hi l (Nat.le_refl _),hh⟩
end
section
variable {K:Kd} {S:Nat→Fn} {ah:Nat→Nat} {ord:List Nat}
theorem Ok.below(h:Ok K S ah)(ho:Ord K.n ah ord){r l:Nat}(hr:live K.N r)(hl:l≤K.n)(hi:∀j,j<l→¬dm (S r) (ord.getD j 0)):l≤dep K.n ah K.N r:=by
 cases e:K.N r with
 |none=>rw[aW e];exact hl
 |some d=>
  rw[az e]
  refine Classical.byContradiction fun hlt=>?_
  have gH:ah d.v<l:=Nat.lt_of_not_le hlt
  have:=hi _ gH
  rw[ho.of h.lv (h.mid.var e)]at this
  exact this (ou h.wf h.lv h.mid.int e)
theorem Ok.roomFor(h:Ok K S ah)(ho:Ord K.n ah ord){U:Fn→Prop}{k:Nat}(hk:qC U k)(hfit:k+2≤K.cap)(hU:∀g,aP K.n ord (K.held S) g→U g){d:Nd}
 (hlo:live K.N d.lo)(hhi:live K.N d.hi)(hne:d.lo≠d.hi)(hv:d.v<K.n)(hlt:ah d.v<dep K.n ah K.N d.lo∧ah d.v<dep K.n ah K.N d.hi)(hg:U (ite S d))(hT:K.T d=none):K.used<K.cap:=by
 have hs:=h.size ho
 have hu:=h.mid.room
 obtain⟨l1,a1,a2,a3⟩:=hs
 have R7:ite S d∉l1:=fun hm=>by
  obtain⟨r,e,hr,he⟩:=(lT h.wf h.lv ho h.mid.int (fun r hr=>.inr (h.mid.held r hr)) h.reach (ite S d)).1 ((a3 _).2 hm)
  have YT:¬K.N r=some d:=fun hN=>by
   have:=(h.mid.g8 d r).2 ⟨hN,fun x=>x⟩
   rw[hT]at this;cases this
  apply YT
  have RU:S r=ite S d:=he.symm
  have Uz:e.v=d.v:=by
   have e1:=h.lv.lt e.v (h.mid.var hr)
   have e2:=h.lv.lt d.v hv
   rcases Nat.lt_trichotomy (ah e.v) (ah d.v)with hh|hh|hh
   ·exfalso
    obtain⟨z,hz⟩:=ou h.wf h.lv h.mid.int hr
    rw[RU]at hz
    apply hz
    unfold ite
    have i1:=h.wf.bT h.lv h.mid.int hlo (h.mid.var hr) (by omega)
    have i2:=h.wf.bT h.lv h.mid.int hhi (h.mid.var hr) (by omega)
    have TA:d.v≠e.v:=fun oM=>by rw[oM]at hh;omega
    simp only[ak,if_neg TA,i1,i2]
   ·exact h.lv.inj _ _ (h.mid.var hr) hv hh
   ·exfalso
    have hx:=h.wf.bT h.lv h.mid.int (r:=r) (.inr ⟨e,hr⟩) hv (by rw[az hr];exact hh)
    apply hne
    refine h.wf.same h.lv h.mid.int hlo hhi fun x=>?_
    have i1:=h.wf.bT h.lv h.mid.int hlo hv hlt.1
    have i2:=h.wf.bT h.lv h.mid.int hhi hv hlt.2
    have q1:=hx x false
    have q2:=hx x true
    rw[RU]at q1 q2
    have q3:=q1.trans q2.symm
    unfold ite at q3
    simp only[ak,if_true,i1,i2,Bool.false_eq_true,if_false]at q3
    exact q3
  have jY:∀(b:Bool) x,S (if b then e.hi else e.lo) x=S (if b then d.hi else d.lo) x:=fun b x=>by
   rw[←h.wf.child h.lv h.mid.int hr x b,RU,Uz]
   have i1:=h.wf.bT h.lv h.mid.int hlo hv hlt.1
   have i2:=h.wf.bT h.lv h.mid.int hhi hv hlt.2
   unfold ite
   rw[ak,if_pos rfl,i1,i2]
   cases b<;>rfl
  have e1:e.lo=d.lo:=h.wf.same h.lv h.mid.int (h.mid.lo hr) hlo fun x=>jY false x
  have e2:e.hi=d.hi:=h.wf.same h.lv h.mid.int (h.mid.hi hr) hhi fun x=>jY true x
  have YE:∀a b:Nd,a.v=b.v→a.lo=b.lo→a.hi=b.hi→a=b:=fun a b h1 h2 h3=>by
   cases a;cases b;cases h1;cases h2;cases h3;rfl
  rw[hr,YE e d Uz e1 e2]
 obtain⟨l2,b1,b2,b3⟩:=hk
 have:=cf (l:=ite S d::l1) (l':=l2) (List.nodup_cons.2 ⟨R7,a1⟩) fun g Qu=>by
  rcases List.mem_cons.1 Qu with rfl|Qu
  ·exact(b3 _).1 hg
  ·exact(b3 _).1 (hU g ((a3 g).2 Qu))
 rw[List.length_cons]at this
 omega
end
end aC
namespace aC
open aj
def dw(N:dQ)(v:Nat)(b:Bool)(r:Nat):Nat:=match N r with
 |some d=>if d.v=v then(if b then d.hi else d.lo)else r
 |none=>r
def gB(N:dQ)(v:Nat)(b:Bool)(q:List Nat):List Nat:=q.map (dw N v b)
structure rE(n:Nat)(ah:Nat→Nat)(N:dQ)(q:List Nat)(v:Nat):Prop where
 lt:v<n
 ex:∃r∈q,∃d,N r=some d∧d.v=v
 le:∀r∈q,ah v≤dep n ah N r
inductive Tree(n:Nat)(ah:Nat→Nat)(N:dQ):List Nat→Nat→Prop
 |leaf {q:List Nat} (h:∀r∈q,N r=none):Tree n ah N q 0
 |node {q:List Nat} {v a b:Nat} (h:rE n ah N q v) (ha:Tree n ah N (gB N v false q) a) (hb:Tree n ah N (gB N v true q) b):Tree n ah N q (a+b+1)
def rQ(t:Bool→Bool→Bool→Bool)(S:Nat→Fn)(q:List Nat):Fn:=fun x=>t (S (q.getD 0 0) x) (S (q.getD 1 0) x) (S (q.getD 2 0) x)
section
variable {n:Nat} {ah:Nat→Nat} {N:dQ} {S:Nat→Fn} {q:List Nat} {v:Nat}
theorem rE.uniq(hl:jR n ah){u:Nat}(h:rE n ah N q v)(h':rE n ah N q u):v=u:=by
 obtain⟨r,hr,d,hd,rfl⟩:=h.ex
 obtain⟨s,hs,e,he,rfl⟩:=h'.ex
 have a:=h.le s hs
 have b:=h'.le r hr
 rw[az he]at a
 rw[az hd]at b
 exact hl.inj _ _ h.lt h'.lt (by omega)
theorem g6(h:WF n ah N)(hl:jR n ah)(hi:Interp N S){r:Nat}(hr:live N r)(hv:v<n)(hle:ah v≤dep n ah N r)(b:Bool):
  (∀x,S (dw N v b r) x=S r (aA x v b))∧live N (dw N v b r)∧ah v+1≤dep n ah N (dw N v b r):=by
 have hlt:=hl.lt v hv
 unfold dw
 cases e:N r with
 |none=>
  simp only
  refine⟨fun x=>?_,hr,by rw[aW e];omega⟩
  exact(h.bT hl hi hr hv (by rw[aW e];exact hlt) x b).symm
 |some d=>
  simp only
  rw[az e]at hle
  by_cases ev:d.v=v
  ·rw[if_pos ev]
   subst ev
   refine⟨fun x=>(h.child hl hi e x b).symm,?_,?_⟩
   ·cases b
    ·exact(h.lo e).1
    ·exact(h.hi e).1
   ·cases b
    ·exact(h.lo e).2
    ·exact(h.hi e).2
  ·rw[if_neg ev]
   have hne:ah v≠ah d.v:=fun e2=>ev (hl.inj _ _ (h.var e) hv e2.symm)
   refine⟨fun x=>(h.bT hl hi hr hv (by rw[az e];omega) x b).symm,hr,by rw[az e];omega⟩
theorem Mg(b:Bool):(gB N v b q).length=q.length:=by simp[gB]
theorem Mh{b:Bool}{i:Nat}(hi:i<q.length):(gB N v b q).getD i 0=dw N v b (q.getD i 0):=by
 simp[gB,List.getD,List.getElem?_eq_getElem hi]
theorem nj(h:WF n ah N)(hl:jR n ah)(hi:Interp N S)(hq:∀r∈q,live N r)(ht:rE n ah N q v)(b:Bool):
  (∀r∈gB N v b q,live N r)∧(∀r∈gB N v b q,ah v+1≤dep n ah N r):=by
 constructor
 ·intro r hr
  obtain⟨s,hs,rfl⟩:=List.mem_map.1 hr
  exact(g6 h hl hi (hq s hs) ht.lt (ht.le s hs) b).2.1
 ·intro r hr
  obtain⟨s,hs,rfl⟩:=List.mem_map.1 hr
  exact(g6 h hl hi (hq s hs) ht.lt (ht.le s hs) b).2.2
theorem F9(h:WF n ah N)(hl:jR n ah)(hi:Interp N S)(h3:q.length=3)(hq:∀r∈q,live N r)(ht:rE n ah N q v)(t:Bool→Bool→Bool→Bool)(b:Bool):rQ t S (gB N v b q)=fun x=>rQ t S q (aA x v b):=by
 funext x
 have key:∀i,i<3→S ((gB N v b q).getD i 0) x=S (q.getD i 0) (aA x v b):=fun i Sh=>by
  have hi':i<q.length:=by omega
  rw[Mh hi']
  have hm:q.getD i 0∈q:=by rw[List.getD_eq_getElem?_getD,List.getElem?_eq_getElem hi'];exact List.getElem_mem _
  exact(g6 h hl hi (hq _ hm) ht.lt (ht.le _ hm) b).1 x
 unfold rQ
 rw[key 0 (by omega),key 1 (by omega),key 2 (by omega)]
theorem vY(h:WF n ah N)(hl:jR n ah)(hi:Interp N S){ord:List Nat}(ho:Ord n ah ord)(h3:q.length=3)(hq:∀r∈q,live N r){l:Nat}(Lf:l≤n)(hle:∀r∈q,l≤dep n ah N r)(t:Bool→Bool→Bool→Bool):∀j,j<l→¬dm (rQ t S q) (ord.getD j 0):=by
 rintro j hj ⟨x,hx⟩
 apply hx
 obtain⟨o1,o2⟩:=ho.aY j (by omega)
 have key:∀i,i<3→∀b,S (q.getD i 0) (aA x (ord.getD j 0) b)=S (q.getD i 0) x:=fun i Sh b=>by
  have hi':i<q.length:=by omega
  have hm:q.getD i 0∈q:=by rw[List.getD_eq_getElem?_getD,List.getElem?_eq_getElem hi'];exact List.getElem_mem _
  exact h.bT hl hi (hq _ hm) o1 (by rw[o2];exact Nat.lt_of_lt_of_le hj (hle _ hm)) x b
 unfold rQ
 simp only[key 0 (by omega),key 1 (by omega),key 2 (by omega)]
theorem HX(hi:Interp N S)(h3:q.length=3)(hq:∀r∈q,r<2)(t:Bool→Bool→Bool→Bool)(x:Nat):rQ t S q x=t (decide (q.getD 0 0=1)) (decide (q.getD 1 0=1)) (decide (q.getD 2 0=1)):=by
 have key:∀i,i<3→S (q.getD i 0) x=decide (q.getD i 0=1):=fun i Sh=>by
  have hi':i<q.length:=by omega
  have hm:q.getD i 0∈q:=by rw[List.getD_eq_getElem?_getD,List.getElem?_eq_getElem hi'];exact List.getElem_mem _
  have:=hq _ hm
  have h2:q.getD i 0=0∨q.getD i 0=1:=by omega
  rcases h2 with e|e<;>rw[e]
  ·rw[hi.zero];rfl
  ·rw[hi.one];rfl
 unfold rQ
 rw[key 0 (by omega),key 1 (by omega),key 2 (by omega)]
theorem JD(h:WF n ah N):∀{q:List Nat},(∃r∈q,∃d,N r=some d)→(hl:jR n ah)→∃v,rE n ah N q v
 | [],he,_=>by obtain⟨r,hr,_⟩:=he;cases hr
 |s::q,he,hl=>by
  by_cases hq:∃r∈q,∃d,N r=some d
  ·obtain⟨v,hv⟩:=JD h hq hl
   cases es:N s with
   |none=>
    refine⟨v,hv.lt,?_,fun r hr=>?_⟩
    ·obtain⟨r,hr,x⟩:=hv.ex;exact⟨r,by simp[hr],x⟩
    ·rcases List.mem_cons.1 hr with rfl|hr
     ·rw[aW es];exact Nat.le_of_lt (hl.lt v hv.lt)
     ·exact hv.le r hr
   |some d=>
    by_cases hlt:ah d.v≤ah v
    ·refine⟨d.v,h.var es,⟨s,by simp,d,es,rfl⟩,fun r hr=>?_⟩
     rcases List.mem_cons.1 hr with rfl|hr
     ·rw[az es];exact Nat.le_refl _
     ·exact Nat.le_trans hlt (hv.le r hr)
    ·refine⟨v,hv.lt,?_,fun r hr=>?_⟩
     ·obtain⟨r,hr,x⟩:=hv.ex;exact⟨r,by simp[hr],x⟩
     ·rcases List.mem_cons.1 hr with rfl|hr
      ·rw[az es];omega
      ·exact hv.le r hr
  ·obtain⟨r,hr,d,hd⟩:=he
   rcases List.mem_cons.1 hr with rfl|hr
   ·refine⟨d.v,h.var hd,⟨r,by simp,d,hd,rfl⟩,fun s hs=>?_⟩
    rcases List.mem_cons.1 hs with rfl|hs
    ·rw[az hd];exact Nat.le_refl _
    ·have:N s=none:=by
      cases e:N s with
      |none=>rfl
      |some d'=>exact absurd ⟨s,hs,d',e⟩ hq
     rw[aW this];exact Nat.le_of_lt (hl.lt _ (h.var hd))
   ·exact absurd ⟨r,hr,d,hd⟩ hq
theorem NC(h:WF n ah N)(hl:jR n ah)(hi:Interp N S):∀(k l:Nat) (q:List Nat),n-l≤k→l≤n→(∀r∈q,live N r)→(∀r∈q,l≤dep n ah N r)→∃c,Tree n ah N q c∧c+1≤2^(n-l):=by
 intro k
 induction k with
 |zero=>
  intro l q hk Lf hq hd
  refine⟨0,.leaf fun r hr=>?_,Nat.one_le_two_pow⟩
  cases e:N r with
  |none=>rfl
  |some d=>have:=hd r hr;rw[az e]at this;have:=hl.lt _ (h.var e);omega
 |succ k ih=>
  intro l q hk Lf hq hd
  by_cases he:∃r∈q,∃d,N r=some d
  ·obtain⟨v,hv⟩:=JD h he hl
   have hlv:=hl.lt v hv.lt
   have k7:l≤ah v:=by
    obtain⟨r,hr,d,cN,rfl⟩:=hv.ex
    have:=hd r hr
    rwa [az cN]at this
   obtain⟨f1,f2⟩:=nj (S:=S) h hl hi hq hv false
   obtain⟨t1,t2⟩:=nj (S:=S) h hl hi hq hv true
   obtain⟨a,ha,ya⟩:=ih (ah v+1) _ (by omega) hlv f1 f2
   obtain⟨b,hb,Sw⟩:=ih (ah v+1) _ (by omega) hlv t1 t2
   refine⟨a+b+1,.node hv ha hb,?_⟩
   have e1:2^(n-ah v)=2*2^(n-(ah v+1)):=by
    rw[show n-ah v=(n-(ah v+1))+1 by omega,Nat.pow_succ,Nat.mul_comm]
   have e2:2^(n-ah v)≤2^(n-l):=Nat.pow_le_pow_right (by decide) (by omega)
   omega
  ·refine⟨0,.leaf fun r hr=>?_,Nat.one_le_two_pow⟩
   cases e:N r with
   |none=>rfl
   |some d=>exact absurd ⟨r,hr,d,e⟩ he
def kA(N:dQ)(v:Nat)(b:Bool)(q:List Nat)(i:Nat):List Nat:=(gB N v b q).take i++q.drop i
theorem yU{b:Bool}{i:Nat}(hi:i≤q.length):(kA N v b q i).length=q.length:=by simp[kA,gB];omega
theorem vb(b:Bool):kA N v b q 0=q:=by simp[kA]
theorem Kv(b:Bool):kA N v b q q.length=gB N v b q:=by
 unfold kA
 rw[List.take_of_length_le (by rw[Mg];exact Nat.le_refl _),List.drop_length,List.append_nil]
theorem qe{b:Bool}{i r:Nat}(hr:q[i]? =some r):(kA N v b q i).set i (dw N v b r)=kA N v b q (i+1):=by
 have hi:=(List.getElem?_eq_some_iff.1 hr).1
 have he:=(List.getElem?_eq_some_iff.1 hr).2
 have hl:((gB N v b q).take i).length=i:=by simp[gB];omega
 have hc:(gB N v b q)[i]? =some (dw N v b r):=by simp[gB,hr]
 unfold kA
 rw[List.set_append_right _ _ (by omega),hl,Nat.sub_self,List.drop_eq_getElem_cons hi,List.set_cons_zero,List.take_add_one,hc,List.append_assoc]
 rfl
theorem ve{b:Bool}{i r:Nat}(hr:q[i]? =some r)(h:dw N v b r=r):kA N v b q (i+1)=kA N v b q i:=by
 rw[←qe hr,h]
 have hi:=(List.getElem?_eq_some_iff.1 hr).1
 have he:=(List.getElem?_eq_some_iff.1 hr).2
 have hl:((gB N v b q).take i).length=i:=by simp[gB];omega
 unfold kA
 rw[List.set_append_right _ _ (by omega),hl,Nat.sub_self,List.drop_eq_getElem_cons hi,List.set_cons_zero,he]
end
end aC
set_option maxRecDepth 100000
namespace Go.Proofs
open Go Go.Sx
open aC
noncomputable instance {K:Kd}{S:Nat→aC.Fn}{ord:List Nat}{l:Nat}:Decidable (gV K S ord l):=Nat.decLe _ _
noncomputable def rm(K:Kd)(S:Nat→aC.Fn):Rm:=⟨K.n,cg K S,fun ord l=>decide (gV K S ord l)⟩
theorem oc{K:Kd}{S:Nat→aC.Fn}{ord:List Nat}{l:Nat}:(rm K S).fit ord l=true↔gV K S ord l:=by
 show decide (gV K S ord l)=true↔_
 exact decide_eq_true_iff
def Box(kp b1 iX:Nat)(cs:List Nat)(B:Hp):Prop:=∃vc Cc,B=(b1,.cells #[ptr kp] 26 (0,0))::(iX,.cells #[vc] 25 (0,0))::Cc∧aK 3 .i64 vc (iw cs) Cc
section
variable {kp b1 iX w p:Nat} {K:Kd} {S:Nat→aC.Fn} {ord tr:List Nat} {B C:Hp}
theorem Jv(hB:Box kp b1 iX (jN w) B)(h:At kp K S ord tr C)(hp:p+w≤K.n)(fo:tr.length<549755813888):
  Fc Tryz.prog 143 #[.int .i64 (p:Int),ptr b1,ptr iX] (B++C) (fun v H=>v=.int .i64 ((((rm K S).visit w p ord).2:Nat):Int)∧∃C',H=B++C'∧At kp K S (au ord ((rm K S).visit w p ord).1) (tr++((rm K S).visit w p ord).1) C'):=by
 obtain⟨vc,Cc,rfl,hc⟩:=hB
 have hn:=h.oK
 have hlen:=h.len
 have gg:=Ge w
 let m:=rm K S
 let path:=m.c9 p (jN w) ord
 have qP:path.length≤(jN w).length:=m.jJ p _ _
 have K8:∀l∈path,l+1<K.n:=fun l hl=>by
  obtain⟨c,hc,rfl⟩:=m.zI p hl
  have:=B3 hc;omega
 let P0:Hp→Hp:=fun X=>(b1,.cells #[ptr kp] 26 (0,0))::(iX,.cells #[vc] 25 (0,0))::(Cc++X)
 refine aR fun g=>EJ ?_
 rw[List.cons_append,List.cons_append]
 refine DR.self ?_
 refine Ld.q ?_
 refine Ld.q ?_
 refine ae.eq (pM h) ?_
 refine⟨.refl _,?_⟩
 refine ae.eq (cz h) ?_
 refine⟨.refl _,?_⟩
 intro J8 hJ8
 have fin:∀C2,At kp K S (au ord path) (tr++path) C2→J8 [.int .i64 ((m.keep ord path path.length:Nat):Int),.int .i64 ((path.length:Nat):Int)] (P0 C2):=fun C2 h2=>by
  refine hJ8 _ _ _ fun gs=>?_
  refine Ld.q ?_
  have hk:=m.xl ord path path.length
  refine aa.dx ?_
  refine ae.fq (Gk h2 K8 hk (by rw[List.length_append];omega)) ?_
  rintro v C' ⟨rfl,h3⟩
  refine Ext.two ?_
  refine aa.dx ?_
  exact aS.here ⟨rfl,C',by simp only[List.cons_append],h3⟩
 refine Ld.q ?_
 refine hc.bc ?_
 rw[ai]
 refine⟨fun vs H=>∃i C2,i≤path.length∧vs=[.int .i64 ((cg K S (au ord (path.take (m.keep ord path i))):Nat):Int),.int .i64 ((m.keep ord path i:Nat):Int),.int .i64 (i:Int),.int .i64 (i:Int)]∧H=P0 C2∧At kp K S (au ord (path.take i)) (tr++path.take i) C2,
  fun vs _=>(jN w).length-br vs 3,JE.mk ⟨0,C,Nat.zero_le _,rfl,rfl,by simpa[au]using h⟩,?_⟩
 rintro w26 w27 w28 w29 H ⟨i,C2,hi,hw,rfl,h2⟩ gs
 simp only[List.cons.injEq,and_true]at hw
 obtain⟨rfl,rfl,rfl,rfl⟩:=hw
 refine aa.dH (Br.dec (fun hlt=>?_) (fun hlt=>?_))
 rotate_left
 ·obtain rfl:i=path.length:=by omega
  rw[List.take_length]at h2
  exact JE.mk (fin C2 h2)
 intro ZG LR
 have nL:(jN w)[i]? =some (jN w)[i]:=List.getElem?_eq_getElem hlt
 have FX:(jN w)[i]+2≤w:=B3 (List.getElem_mem _)
 refine hc.ld (x:=(((jN w)[i]:Nat):Int)) (by rw[aX hlt,List.getD,nL];rfl) (aZ.sub (.cons (.cons .left))) ?_
 refine Ld.q ?_
 refine aa.dx ?_
 by_cases xw:i=path.length
 ·-- no room
  subst xw
  rw[List.take_length]at h2
  have hno:¬gV K S (au ord path) (p+(jN w)[path.length]):=fun hf=>by
   have:=m.tf p (jN w) ord _ nL
   have h9:=oc.2 hf
   rw[show(rm K S).fit (au ord path) (p+(jN w)[path.length])=false from this]at h9
   cases h9
  refine ae.eq (Ra h2 (by omega) (by rw[List.length_append];omega) hno) ?_
  refine Ext.two ?_
  intro b46 _
  refine St.q ?_
  refine aa.cG (Br.T ?_)
  exact JE.of .tail (fin C2 h2)
 ·have Ln:i<path.length:=by omega
  obtain⟨e1,c',e2,hf⟩:=m.pD p (jN w) ord i Ln
  rw[nL]at e1 e2
  cases e2
  have RP:gV K S (au ord (path.take i)) (p+(jN w)[i]):=oc.1 hf
  have jE:path.take (i+1)=path.take i++[p+(jN w)[i]]:=by
   rw[List.take_add_one,show path[i]? =some (p+(jN w)[i])from e1];rfl
  refine ae.fq (Q9 h2 (by omega) (by rw[List.length_append,List.length_take];omega) RP) ?_
  rintro v C3 ⟨rfl,h3⟩
  rw[←fw,List.append_assoc,←jE]at h3
  refine Ext.two ?_
  intro b46 _
  refine St.q ?_
  refine aa.cG (Br.F ?_)
  refine aa.inc ?_
  refine Ld.f ?_
  rw[←fw,←jE]
  refine aa.dH (Br.dec (fun kF=>?_) (fun kF=>?_))
  ·have hk:m.keep ord path (i+1)=i+1:=by rw[Rm.keep];exact if_pos kF
   refine ag.mk (Ld.mk (v:=.int .i64 ((cg K S (au ord (path.take (i+1))):Nat):Int)) (by exact .head _) rfl ?_)
   refine JE.mk (LR _ _ _ _ fun gs=>?_)
   refine aa.inc ?_
   refine aB.of .tail ⟨i+1,C3,Ln,by rw[hk],rfl,h3⟩ ?_
   show(jN w).length-(((i+1:Nat):Int).toNat)<(jN w).length-(((i:Nat):Int).toNat)
   omega
  ·have hk:m.keep ord path (i+1)=m.keep ord path i:=by rw[Rm.keep];exact if_neg kF
   refine JE.mk (LR _ _ _ _ fun gs=>?_)
   refine aa.inc ?_
   refine aB.of .tail ⟨i+1,C3,Ln,by rw[hk],rfl,h3⟩ ?_
   show(jN w).length-(((i+1:Nat):Int).toNat)<(jN w).length-(((i:Nat):Int).toNat)
   omega
end
end Go.Proofs
set_option maxRecDepth 100000
namespace Go.Proofs
open Go Go.Sx
open aC
def rep(b a s:Nat):Value:=.agg #[.int .i64 (b:Int),.int .i64 (a:Int),.int .i64 (s:Int),.bool false]
def kj(b1 iX b a s:Nat):Array Value:=#[.func (.func 143) #[] #[ptr b1,ptr iX],.int .i64 (b:Int),.int .i64 (a:Int),.int .i64 (s:Int),.bool false]
def Pass(pp kp w b a s:Nat)(B:Hp):Prop:=∃b1 iX B',B=(pp,.cells (kj b1 iX b a s) 125 (0,0))::B'∧Box kp b1 iX (jN w) B'
section
variable {pp kp w p bf af sw:Nat} {K:Kd} {S:Nat→aC.Fn} {ord tr:List Nat} {B C:Hp}
theorem GI(kp:Nat)(w:Int)(C:Hp):Rd Tryz.prog 60 #[ptr kp,.int .i64 w] C (· =.int .i64 (if w<2∨4<w then 1 else 0)):=by
 refine aR fun g=>IF ?_
 refine aa.aD (Br.no (aa.lss ?_))
 refine df.or (decide (4<w)) (fun _=>aa.gtr ⟨rfl,rfl⟩) (by simp) fun gs=>?_
 rw[←Bool.decide_or]
 exact Br.dec (fun h=>bN.mk (.refl _) (by rw[if_pos h])) (fun h=>bN.mk (.refl _) (by rw[if_neg h]))
theorem Mz(h:At kp K S ord tr C)(hw:2≤w∧w≤4):Fc Tryz.prog 62 #[ptr kp,.int .i64 (w:Int)] C (fun v H=>∃pp B,v=ptr pp∧H=B++C∧Pass pp kp w (cg K S ord) (cg K S ord) 0 B):=by
 refine aR fun g=>ID ?_
 intro b1 _
 refine DR.self ?_
 refine Ld.q ?_
 refine Ld.q ?_
 refine ae.eq (cz h) ?_
 refine⟨.refl _,?_⟩
 refine ae.eq (cz h) ?_
 refine⟨.refl _,?_⟩
 refine Build.mk (cs:=[.int .i64 ((cg K S ord:Nat):Int),.int .i64 ((cg K S ord:Nat):Int),.int .i64 0,.bool false]) (by kernel_rfl) ?_
 refine Build.mk (cs:=[.nilFunc,.int .i64 ((cg K S ord:Nat):Int),.int .i64 ((cg K S ord:Nat):Int),.int .i64 0,.bool false]) (by kernel_rfl) ?_
 intro Nn _
 refine⟨.tail,?_⟩
 refine ae.fn hnew (B4 hw) ?_
 rintro v Cc ⟨s,rfl,hc⟩
 obtain⟨sa,sl,sc,rfl⟩:∃a l c,s=Value.slice a l c:=by obtain⟨a,c,h⟩:=aO.len hc;exact⟨a,_,c,h⟩
 refine Ext.two ?_
 intro iX _
 refine St.one (c':=#[.slice sa sl sc]) (by exact .head _) rfl (by simp) rfl ?_
 refine Nil.ptr (ag.mk (St.one (c':=kj b1 iX (cg K S ord) (cg K S ord) 0) (by repeat (first|exact cD.head _|apply cD.tail|apply cD.bO)) rfl (by simp[Value.cells]) rfl ?_))
 refine aS.mk (kZ:=((Nn,.cells (kj b1 iX (cg K S ord) (cg K S ord) 0) 125 (0,0))::(b1,.cells #[ptr kp] 26 (0,0))::(iX,.cells #[.slice sa sl sc] 25 (0,0))::Cc)++C) (.perm ?_) ⟨Nn,_,rfl,rfl,b1,iX,_,rfl,_,Cc,rfl,hc⟩
 refine(List.Perm.cons _ (List.perm_middle.trans (List.Perm.cons _ List.perm_middle))).trans ?_
 refine(List.Perm.swap _ _ _).trans (List.Perm.cons _ (List.Perm.swap _ _ _))
theorem V6(hB:Pass pp kp w bf af sw B)(h:At kp K S ord tr C)(hp:p+w≤K.n)(fo:tr.length<549755813888)(hs:sw<4611686018427387904):
  Fc Tryz.prog 63 #[ptr pp,ptr kp,.int .i64 (p:Int)] (B++C) (fun v H=>v=.tuple #[]∧∃B' C',H=B'++C'∧Pass pp kp w bf (cg K S (au ord ((rm K S).visit w p ord).1)) (sw+((rm K S).visit w p ord).2) B'∧At kp K S (au ord ((rm K S).visit w p ord).1) (tr++((rm K S).visit w p ord).1) C'):=by
 obtain⟨b1,iX,B',rfl,hb⟩:=hB
 have hv:=((rm K S).uU w p ord).2
 refine aR fun g=>IC ?_
 refine DR.of (R:=[(pp,.cells (kj b1 iX bf af sw) 125 (0,0))]) (.cons .nil) ?_
 refine Nil.ptr (ag.mk (Ld.f ?_))
 refine Ld.n ?_
 refine bI.of rfl (by kernel_rfl) ?_
 refine ae.fq (args:=#[.int .i64 (p:Int),ptr b1,ptr iX]) (Jv hb h hp fo) ?_
 rintro v H ⟨rfl,C',rfl,h'⟩
 refine⟨.cons .nil,?_⟩
 refine aa.dx ?_
 refine Nil.ptr (ag.mk (ag.mk (St.one (c':=kj b1 iX bf af (sw+((rm K S).visit w p ord).2)) (by exact .head _) rfl (by simp[kj]) rfl ?_)))
 refine ae.eq (cz h') ?_
 refine Nil.ptr (ag.mk (ag.mk (St.one (c':=kj b1 iX bf (cg K S (au ord ((rm K S).visit w p ord).1)) (sw+((rm K S).visit w p ord).2)) (by exact .head _) rfl (by simp[kj]) rfl ?_)))
 exact aS.here ⟨rfl,_::B',C',rfl,⟨b1,iX,B',rfl,hb⟩,h'⟩
theorem Nu(hB:Pass pp kp w bf (cg K S ord) sw B)(h:At kp K S ord tr C)(hw:2≤w∧w≤4)(fo:tr.length<274877906944)(hs:sw<2305843009213693952):
  Fc Tryz.prog 68 #[ptr pp,ptr kp,.int .i64 (w:Int)] (B++C) (fun v H=>v=.tuple #[]∧∃B' C',H=B'++C'∧Pass pp kp w bf (cg K S (au ord ((rm K S).pass w ord).1)) (sw+((rm K S).pass w ord).2) B'∧At kp K S (au ord ((rm K S).pass w ord).1) (tr++((rm K S).pass w ord).1) C'):=by
 have hn:=h.oK
 refine aR fun g=>Iy ?_
 refine⟨fun vs H=>∃i B' C',i≤K.n+1-w∧vs=[.int .i64 ((i:Nat):Int)]∧H=B'++C'∧Pass pp kp w bf (cg K S (au ord ((rm K S).all w ord i).1)) (sw+((rm K S).all w ord i).2) B'∧At kp K S (au ord ((rm K S).all w ord i).1) (tr++((rm K S).all w ord i).1) C',
  fun vs _=>K.n+1-br vs 0,JE.mk ⟨0,B,C,Nat.zero_le _,rfl,rfl,by simpa[Rm.all,au]using hB,by simpa[Rm.all,au]using h⟩,?_⟩
 rintro w5 H ⟨i,B',C',hi,⟨⟩,rfl,hp,ha⟩ gs
 have OZ:=(rm K S).xS w ord i
 refine aa.dx ?_
 refine ae.eq (kI ha) ?_
 refine aa.y4 (Br.dec (fun hle=>?_) (fun hle=>?_))
 ·refine ae.fq (V6 hp ha (by omega) (by rw[List.length_append];omega) (by omega)) ?_
  rintro v H ⟨rfl,B2,C2,rfl,kE,ya⟩
  rw[←bU,List.append_assoc,Nat.add_assoc]at*
  refine aa.inc ?_
  refine aB.of (.refl _) ⟨i+1,B2,C2,by omega,rfl,rfl,by rw[Rm.all_succ];exact kE,by rw[Rm.all_succ];exact ya⟩ ?_
  show K.n+1-(((i+1:Nat):Int).toNat)<K.n+1-(((i:Nat):Int).toNat)
  omega
 ·obtain rfl:i=K.n+1-w:=by omega
  exact aS.here ⟨rfl,B',C',rfl,hp,ha⟩
end
end Go.Proofs
