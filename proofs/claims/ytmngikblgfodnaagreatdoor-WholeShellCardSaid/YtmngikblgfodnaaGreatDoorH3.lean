import Derived.Test.YtmngikblgfodnaaGreatDoorH2
import Derived.Sort.AssemblyPlain
import Derived.Test.YtmngikblgfodnaaGreatDoorProg
import Derived.RangeFuncIn
import Derived.RangeFuncLeaves
import Derived.RangeFuncRecord
import Derived.RangeFuncSeq
set_option linter.unusedVariables false
set_option linter.unusedSimpArgs false
set_option linter.unusedSectionVars false
namespace aC
open ak
def sM(K:Kd)(ag:Nat->Nat)(l t:Nat):Prop:=live K.N t/\l+1<dep K.n ag K.N t
def xe(K0 K:Kd)(ag:Nat->Nat)(x l t:Nat):Prop:=sM K0 ag l t\/∃e,K.N t=some e/\e.v=x/\sM K0 ag l e.lo/\sM K0 ag l e.hi
structure TI(K0:Kd)(S0:Nat->Fn)(ag:Nat->Nat)(x y l:Nat)(made:List Nd)(K:Kd)(S:Nat->Fn)(done rest:List Cx)(P:Nat->Nat):Prop where
 mid:jw K S (λs=>∃c∈rest,s=c.r) P
 n:K.n=K0.n
 cap:K.cap=K0.cap
 hold:∀r,K.hold r=K0.hold r
 ext:∀r,live K0.N r->S r=S0 r
 old:∀{r d},K0.N r=some d->r∉done.map Cx.r->K.N r=some d
 kept:∀{r d},K0.N r=some d->∃d',K.N r=some d'
 new:∀{r d},K.N r=some d->(K0.N r=some d/\r∉done.map Cx.r)\/(r∈done.map Cx.r/\d.v=y/\xe K0 K ag x l d.lo/\xe K0 K ag x l d.hi)\/(K0.N r=none/\d.v=x/\sM K0 ag l d.lo/\sM K0 ag l d.hi)
 used:K.used=K0.used+(made.filter λk=>(K.T k).isSome).length
structure TB(K0:Kd)(S0:Nat->Fn)(ag:Nat->Nat)(x y l:Nat)(all:List Cx)(made:List Nd):Prop where
 ok:Ok K0 S0 ag
 nb:Nb K0.n ag x y l
 cx:Jx K0.N x y all
 mad:Made K0 x all made
 room:K0.used+made.length<=K0.cap
section
variable {K0 K:Kd} {S0 S:Nat->Fn} {ag:Nat->Nat} {x y l:Nat} {made:List Nd} {done rest all:List Cx} {P:Nat->Nat}
theorem TB.m6(b:TB K0 S0 ag x y l all made){c:Cx}(hc:c∈all):K0.N c.r=some c.d/\c.d.v=x/\c=m5 K0.N y c.r c.d:=by
 obtain⟨⟨h1,h2,_⟩,h3⟩:=(b.cx.mem c).1 hc;exact⟨h1,h2,h3⟩
theorem TB.T0(b:TB K0 S0 ag x y l all made){c:Cx}(hc:c∈all):(sM K0 ag l c.wY/\sM K0 ag l c.sK)/\(sM K0 ag l c.wX/\sM K0 ag l c.sJ):=by
 obtain⟨h1,h2,h3⟩:=b.m6 hc;have k1:=kj b.ok.wf b.ok.lv b.ok.mid.int b.nb h1 h2 (k:=⟨x,pl K0.N y c.d.lo,pl K0.N y c.d.hi⟩) xbV;have k2:=kj b.ok.wf b.ok.lv b.ok.mid.int b.nb h1 h2 (k:=⟨x,ph K0.N y c.d.lo,ph K0.N y c.d.hi⟩) (xby _ xbV);rw[h3];exact⟨⟨k1.2.1,k1.2.2⟩,⟨k2.2.1,k2.2.2⟩⟩
theorem TB.level(b:TB K0 S0 ag x y l all made){c:Cx}(hc:c∈all):dep K0.n ag K0.N c.r=l:=by
 obtain⟨h1,h2,_⟩:=b.m6 hc;rw[ay h1,h2,b.nb.lx]
theorem TB.start(b:TB K0 S0 ag x y l all made){T:Nd->Option Nat}(hm:jw {K0 with T:=T} S0 (λs=>∃c∈all,s=c.r) zero')(hT:∀d,T d=none\/T d=K0.T d):
  TI K0 S0 ag x y l made {K0 with T:=T} S0 [] all zero' where
 mid:=hm
 n:=rfl
 cap:=rfl
 hold:=λ_=>rfl
 ext:=λ_ _=>rfl
 old:=λh _=>h
 kept:=λh=>⟨_,h⟩
 new:=λh=>.inl ⟨h,by simp⟩
 used:=by
  have:made.filter (λk=>(T k).isSome)=[]:=by
   rw[xdX];intro k hk;have h1:=((b.mad.mem k).1 hk).2.1;rcases hT k with h2|h2
   ·rw[h2];simp
   rw[h2,h1];simp
  show K0.used=K0.used+(made.filter (λk=>(T k).isSome)).length;rw[this];simp
theorem TI.T2(b:TB K0 S0 ag x y l all made)(h:TI K0 S0 ag x y l made K S done rest P)(hd:∀c∈done,c∈all){t:Nat}(ht:sM K0 ag l t):K.N t=K0.N t:=by
 rcases ht with⟨ht|⟨d,dG⟩,hlt⟩
 ·cases e:K.N t with
  |none=>rw[b.ok.wf.const ht]
  |some d=>have:=(h.mid.two e).1;omega
 ·rw[dG];refine h.old dG λhm=>?_;obtain⟨c,hc,e⟩:=xam.1 hm;have:=b.level (hd c hc);rw[e]at this;omega
theorem TI.pV(b:TB K0 S0 ag x y l all made)(h:TI K0 S0 ag x y l made K S done rest P)(hd:∀c∈done,c∈all){t:Nat}(ht:sM K0 ag l t):live K.N t:=by
 have e:=h.T2 b hd ht;rcases ht.1 with ht|⟨d,dG⟩
 ·exact .inl ht
 exact .inr ⟨d,by rw[e];exact dG⟩
theorem TI.p8(b:TB K0 S0 ag x y l all made)(h:TI K0 S0 ag x y l made K S done rest P)(hd:∀c∈done,c∈all){t:Nat}(ht:xe K0 K ag x l t):live K.N t:=by
 rcases ht with ht|⟨e,he,_⟩
 ·exact h.pV b hd ht
 exact .inr ⟨e,he⟩
theorem TI.use(h:TI K0 S0 ag x y l made K S done rest P){r:Nat}{di:zL}(hl:di.length=K.us.length)(h1:di.getD r 0=K.use r+1)(h2:∀s,s≠r->di.getD s 0=K.use s):
  TI K0 S0 ag x y l made {K with us:=di} S done rest (up P r (P r+1)) where
 mid:=h.mid.more hl h1 h2
 n:=h.n
 cap:=h.cap
 hold:=h.hold
 ext:=h.ext
 old:=h.old
 kept:=h.kept
 new:=h.new
 used:=h.used
theorem TI.congr(h:TI K0 S0 ag x y l made K S done rest P){P':Nat->Nat}(hP:∀s,2<=s->P s=P' s):TI K0 S0 ag x y l made K S done rest P' where
 mid:=h.mid.congr (λ_=>xdg) hP
 n:=h.n
 cap:=h.cap
 hold:=h.hold
 ext:=h.ext
 old:=h.old
 kept:=h.kept
 new:=h.new
 used:=h.used
theorem filter_lt{α:Type}{p:α->Bool}{k:α}:∀{m:List α},k∈m->p k=false->(m.filter p).length<m.length
 | [],h,_=>by simp at h
 |z::m,h,hp=>by
  rcases xag.1 h with rfl|h
  ·rw[xb4,xac (by simp[hp])];have:=xbT p m;simp;omega
  have:=filter_lt h hp;rw[xb4];split
  ·rw[xak,xak];omega
  rw[xak];omega
theorem TI.fits(b:TB K0 S0 ag x y l all made)(h:TI K0 S0 ag x y l made K S done rest P){k:Nd}(hk:k∈made)(hT:K.T k=none):K.used<K.cap:=by
 have h1:=filter_lt (p:=λk=>(K.T k).isSome) hk (by rw[hT];rfl);have h2:=h.used;have h3:=b.room;have h4:=h.cap;omega
theorem mW{T:Nd->Option Nat}{k:Nd}{r:Nat}:∀{m:List Nd},m.Nodup->T k=none->(m.filter λd=>(pB T k (some r) d).isSome).length=(m.filter λd=>(T d).isSome).length+(if k∈m then 1 else 0)
 | [],_,_=>rfl
 |z::m,hn,hT=>by
  obtain⟨h1,h2⟩:=xaW.1 hn;have ih:=mW (r:=r) h2 hT;rw[xb4,xb4];by_cases e:z=k
  ·subst e;rw[iR,hT];simp only[Option.isSome_some,xa7,xcg,xaD,xaT,xak,ih,xac h1,xag,true_or]
  rw[oC e];have e2:(k∈z::m)↔k∈m:=by rw[xag];exact⟨λh=>h.resolve_left (λh=>e h.symm),.inr⟩
  simp only[e2];split
  ·simp only[xak,ih];omega
  exact ih
theorem TB.zm(b:TB K0 S0 ag x y l all made){t:Nat}(ht:sM K0 ag l t){e:Nd}(he:K0.N t=some e):l+1<ag e.v:=by
 have:=ht.2;rwa [ay he]at this
theorem TB.Bj(b:TB K0 S0 ag x y l all made){c:Cx}(hc:c∈all)(h1:sM K0 ag l c.d.lo)(h2:sM K0 ag l c.d.hi):False:=by
 obtain⟨⟨_,_,h3⟩,_⟩:=(b.cx.mem c).1 hc;have hy:=b.nb.ly;rcases h3 with⟨e,he,hv⟩|⟨e,he,hv⟩
 ·have:=b.zm h1 he;rw[hv]at this;omega
 have:=b.zm h2 he;rw[hv]at this;omega
theorem TI.PK(b:TB K0 S0 ag x y l all made)(h:TI K0 S0 ag x y l made K S done rest P)(hd:∀c∈done,c∈all)(hr:∀c∈rest,c∈all){c:Cx}(hc:c∈all){k:Nd}(hk:k∈keys x c)(hne:k.lo≠k.hi)(h1:sM K0 ag l k.lo)(h2:sM K0 ag l k.hi)(hT:K.T k=none):k∈made:=by
 refine(b.mad.mem k).2 ⟨⟨c,hc,hk⟩,?_,hne⟩;cases e:K0.T k with
 |none=>rfl
 |some s=>
  have hs:=((b.ok.mid.jy k s).1 e).1;have hno:∀c'∈all,s≠c'.r:=λc' mu e'=>by
   have h3:=(b.m6 mu).1;rw[<-e',hs]at h3;cases h3;exact b.Bj mu h1 h2
  have hs1:K.N s=some k:=by
   refine h.old hs λhm=>?_;obtain⟨c',mu,e'⟩:=xam.1 hm;exact hno c' (hd c' mu) e'.symm
  have:=(h.mid.jy k s).2 ⟨hs1,by rintro⟨c',mu,e'⟩;exact hno c' (hr c' mu) e'⟩;rw[hT]at this;cases this
theorem TI.lay(b:TB K0 S0 ag x y l all made)(h:TI K0 S0 ag x y l made K S done rest P)(hd:∀c∈done,c∈all)(hr:∀c∈rest,c∈all){c:Cx}(hc:c∈all){k:Nd}(hk:k∈keys x c)(hne:k.lo≠k.hi)(hT:K.T k=none)
 {r:Nat}{di cq:zL}(hN:K.N r=none)(h2:2<=r/\r<K.cap)(hl:di.length=cq.length)(hf:r<di.length/\K.us.length<=di.length)(u0:di.getD r 0=0)(u1:∀s,2<=s->s≠r->di.getD s 0=K.use s+e1 (some k) s)(o0:cq.getD r 0=0)(o1:∀s,s≠r->cq.getD s 0=K.hold s)(hP:P r=0):
  TI K0 S0 ag x y l made {K with N:=up K.N r (some k),T:=pB K.T k (some r),used:=K.used+1,us:=di,ho:=cq} (up S r (ite S k)) done rest P/\xe K0 {K with N:=up K.N r (some k),T:=pB K.T k (some r),used:=K.used+1,us:=di,ho:=cq} ag x l r:=by
 have lp:=b.T0 hc;have hkv:k.v=x/\sM K0 ag l k.lo/\sM K0 ag l k.hi:=by
  simp only[keys,xag,xaw,xaZ]at hk;rcases hk with rfl|rfl
  ·exact⟨rfl,lp.1.1,lp.1.2⟩
  exact⟨rfl,lp.2.1,lp.2.2⟩
 have hkN:K0.N r=none:=by
  cases e:K0.N r with
  |none=>rfl
  |some d=>obtain⟨d',dG⟩:=h.kept e;rw[hN]at dG;cases dG
 have hkm:=h.PK b hd hr hc hk hne hkv.2.1 hkv.2.2 hT;have hE:¬∃c∈rest,r=c.r:=by
  rintro⟨c',mu,rfl⟩;have:=(b.m6 (hr c' mu)).1;rw[hkN]at this;cases this
 have Ex:∀{t},xe K0 K ag x l t->xe K0 {K with N:=up K.N r (some k),T:=pB K.T k (some r),used:=K.used+1,us:=di,ho:=cq} ag x l t:=λht=>by
  rcases ht with ht|⟨e,he,h3⟩
  ·exact .inl ht
  refine .inr ⟨e,?_,h3⟩;show up K.N r (some k) _=_;rw[aP (λe2=>by rw[e2,hN]at he;cases he)];exact he
 refine⟨⟨h.mid.lay hN h2 (by rw[hkv.1,h.n];exact b.nb.xn) hne (h.pV b hd hkv.2.1) (h.pV b hd hkv.2.2) hT hE hP (h.fits b hkm hT) hl hf u0 u1 o0 o1,h.n,h.cap,λs=>?_,λs hs=>?_,λ{s d} hs hm=>?_,λ{s d} hs=>?_,λ{s d} hs=>?_,?_⟩,?_⟩
 ·show cq.getD s 0=_;rw[<-h.hold];by_cases e:s=r
  ·subst e;rw[o0];refine(xaY λhno=>?_);obtain⟨d,dG⟩:=h.mid.held s (λe=>hno e.symm);rw[hN]at dG;cases dG
  exact o1 s e
 ·rw[aP (fy hs h2.1 hkN)];exact h.ext s hs
 ·show up K.N r (some k) s=_;rw[aP (λe=>by rw[e,hkN]at hs;cases hs)];exact h.old hs hm
 ·obtain⟨d',dG⟩:=h.kept hs;exact⟨d',by show up K.N r (some k) s=_;rw[aP (λe=>by rw[e,hkN]at hs;cases hs)];exact dG⟩
 ·have hs':up K.N r (some k) s=some d:=hs;by_cases e:s=r
  ·subst e;rw[aL]at hs';cases hs';exact .inr (.inr ⟨hkN,hkv⟩)
  rw[aP e]at hs';rcases h.new hs' with h1|⟨h1,o9,h3,h4⟩|h1
  ·exact .inl h1
  ·exact .inr (.inl ⟨h1,o9,Ex h3,Ex h4⟩)
  exact .inr (.inr h1)
 ·show K.used+1=K0.used+(made.filter λd=>(pB K.T k (some r) d).isSome).length;rw[mW b.mad.nd hT,xae hkm,h.used];omega
 exact .inr ⟨k,aL,hkv⟩
theorem TI.found(b:TB K0 S0 ag x y l all made)(h:TI K0 S0 ag x y l made K S done rest P){c:Cx}(hc:c∈all){k:Nd}(hk:k∈keys x c){r:Nat}(hT:K.T k=some r):K.N r=some k/\xe K0 K ag x l r:=by
 have lp:=b.T0 hc;have hN:=((h.mid.jy k r).1 hT).1;simp only[keys,xag,xaw,xaZ]at hk;rcases hk with rfl|rfl
 ·exact⟨hN,.inr ⟨_,hN,rfl,lp.1.1,lp.1.2⟩⟩
 exact⟨hN,.inr ⟨_,hN,rfl,lp.2.1,lp.2.2⟩⟩
theorem TI.VU(b:TB K0 S0 ag x y l all made)(h:TI K0 S0 ag x y l made K S done rest P){a a' t:Nat}(la:sM K0 ag l a)(Eh:sM K0 ag l a')(g:(a=a'/\t=a)\/K.N t=some ⟨x,a,a'⟩)(z:Nat):S t z=ite S0 ⟨x,a,a'⟩ z:=by
 rcases g with⟨rfl,rfl⟩|g
 ·rw[h.ext t la.1];unfold ite;simp
 rw[h.mid.int.node g];unfold ite;simp only;rw[h.ext a la.1,h.ext a' Eh.1]
theorem TI.T1(b:TB K0 S0 ag x y l all made)(h:TI K0 S0 ag x y l made K S done rest P)(hd:∀c∈done,c∈all){a a' t:Nat}(ht:sM K0 ag l t)(g:K.N t=some ⟨x,a,a'⟩):False:=by
 rw[h.T2 b hd ht]at g;have:=b.zm ht g;have hx:=b.nb.lx;simp only at this;omega
theorem TI.yV(b:TB K0 S0 ag x y l all made){c:Cx}(h:TI K0 S0 ag x y l made K S done (c::rest) P)(hd:∀c∈done,c∈all)(hr:∀c'∈c::rest,c'∈all)(hn:((done++c::rest).map Cx.r).Nodup){t0 t1:Nat}
 (k0:xe K0 K ag x l t0)(k1:xe K0 K ag x l t1)(g0:(c.wY=c.sK/\t0=c.wY)\/K.N t0=some ⟨x,c.wY,c.sK⟩)(g1:(c.wX=c.sJ/\t1=c.wX)\/K.N t1=some ⟨x,c.wX,c.sJ⟩){P':Nat->Nat}(hP:∀s,2<=s->P' s+e1 (some ⟨y,t0,t1⟩) s=P s+e1 (some c.d) s):
  K.T ⟨y,t0,t1⟩=none/\TI K0 S0 ag x y l made {K with N:=up K.N c.r (some ⟨y,t0,t1⟩),T:=pB K.T ⟨y,t0,t1⟩ (some c.r)} S (done++[c]) rest P':=by
 have hc:=hr c zI;obtain⟨zN,Du,hce⟩:=b.m6 hc;obtain⟨⟨l00,l10⟩,⟨l01,l11⟩⟩:=b.T0 hc;have w:=b.ok.wf;have hi:=b.ok.mid.int;have hlo:=w.lo zN;have hhi:=w.hi zN;rw[Du,b.nb.lx]at hlo hhi;have ep:c.wY=pl K0.N y c.d.lo/\c.wX=ph K0.N y c.d.lo/\c.sK=pl K0.N y c.d.hi/\c.sJ=ph K0.N y c.d.hi:=by rw[hce];exact⟨rfl,rfl,rfl,rfl⟩
 have both:c.wY=c.sK->c.wX=c.sJ->False:=λe1 e2=>by
  rw[ep.1,ep.2.2.1]at e1;rw[ep.2.1,ep.2.2.2]at e2;exact w.ne zN (w.UG b.ok.lv hi b.nb.yy hlo.1 hhi.1 hlo.2 hhi.2 e1 e2)
 have hrn:c.r∉done.map Cx.r:=by
  rw[xaB,xa9]at hn;intro hm;exact hn.2.2 _ hm _ zI rfl
 have Zi:=h.old zN hrn;have fn0:=λz=>h.VU b l00 l10 g0 z;have fn1:=λz=>h.VU b l01 l11 g1 z;have hS:∀z,S c.r z=ite S ⟨y,t0,t1⟩ z:=λz=>by
  rw[h.ext c.r (.inr ⟨_,zN⟩),ve w b.ok.lv hi b.nb zN Du z];unfold ite;simp only;have a0:=fn0 z;have a1:=fn1 z;unfold ite at a0 a1;simp only at a0 a1;rw[a0,a1,ep.1,ep.2.1,ep.2.2.1,ep.2.2.2]
 have hne:t0≠t1:=λe=>by
  subst e;rcases g0 with⟨e1,e2⟩|g0
  ·rcases g1 with⟨e3,e4⟩|g1
   ·exact both e1 e3
   rw[e2]at g1;exact h.T1 b hd l00 g1
  rcases g1 with⟨e3,e4⟩|g1
  ·rw[e4]at g0;exact h.T1 b hd l01 g0
  rw[g0]at g1;simp only[xas,Nd.mk.injEq,xdt]at g1;obtain⟨q1,q2⟩:=g1;obtain⟨⟨_,_,X7⟩,_⟩:=(b.cx.mem c).1 hc;rw[ep.1,ep.2.1]at q1;rw[ep.2.2.1,ep.2.2.2]at q2;rcases X7 with⟨e,he,hv⟩|⟨e,he,hv⟩
  ·have:=TE he hv;rw[this.1,this.2]at q1;exact w.ne he q1
  have:=TE he hv;rw[this.1,this.2]at q2;exact w.ne he q2
 have hT:K.T ⟨y,t0,t1⟩=none:=by
  cases e:K.T ⟨y,t0,t1⟩with
  |none=>rfl
  |some s=>
   obtain⟨hs,PV⟩:=(h.mid.jy _ s).1 e;rcases h.new hs with⟨h1,_⟩|⟨h1,_⟩|⟨_,h1,_⟩
   ·have q1:=w.lo h1;have q2:=w.hi h1;simp only at q1 q2;rw[b.nb.ly]at q1 q2;have p1:c.wY=c.sK:=by
     rcases g0 with⟨e1,_⟩|g0
     ·exact e1
     exact(h.T1 b hd q1 g0).elim
    have p2:c.wX=c.sJ:=by
     rcases g1 with⟨e1,_⟩|g1
     ·exact e1
     exact(h.T1 b hd q2 g1).elim
    exact(both p1 p2).elim
   ·obtain⟨c',mu,e'⟩:=xam.1 h1;have Qp:=(b.m6 (hd c' mu)).1;have:c'.r=c.r:=w.same b.ok.lv hi (.inr ⟨_,Qp⟩) (.inr ⟨_,zN⟩) λz=>by
     rw[<-h.ext c'.r (.inr ⟨_,Qp⟩),<-h.ext c.r (.inr ⟨_,zN⟩),hS z,e',h.mid.int.node hs z];rfl
    exact absurd (xam.2 ⟨c',mu,this⟩) hrn
   exact absurd h1 (xbn b.nb.ne)
 have Ex:∀{t},xe K0 K ag x l t->xe K0 {K with N:=up K.N c.r (some ⟨y,t0,t1⟩),T:=pB K.T ⟨y,t0,t1⟩ (some c.r)} ag x l t:=λht=>by
  rcases ht with ht|⟨e,he,h3⟩
  ·exact .inl ht
  refine .inr ⟨e,?_,h3⟩;show up K.N c.r (some ⟨y,t0,t1⟩) _=_;refine(aP λe2=>?_).trans he;rw[e2,Zi]at he;cases he;exact b.Bj hc h3.2.1 h3.2.2
 have hml:∀s,s∈(done++[c]).map Cx.r↔s∈done.map Cx.r\/s=c.r:=λs=>by simp[xaq]
 refine⟨hT,⟨(h.mid.yV Zi ⟨c,by simp,rfl⟩ (by rw[h.n];exact b.nb.yn) hne (h.p8 b hd k0) (h.p8 b hd k1) hT hS hP).congr (λs=>?_) (λ_ _=>rfl),h.n,h.cap,h.hold,h.ext,λ{s d} hs hm=>?_,λ{s d} hs=>?_,λ{s d} hs=>?_,?_⟩⟩
 ·constructor
  ·rintro⟨⟨c',mu,rfl⟩,h2⟩;rcases xag.1 mu with rfl|mu
   ·exact absurd rfl h2
   exact⟨c',mu,rfl⟩
  rintro⟨c',mu,rfl⟩;refine⟨⟨c',xby _ mu,rfl⟩,λe=>?_⟩;rw[xaB,xa9]at hn;have:=hn.2.1;rw[xaM,xaW]at this;exact this.1 (xam.2 ⟨c',mu,e⟩)
 ·have hm':=λx=>hm ((hml s).2 x);show up K.N c.r _ s=_;rw[aP (λe=>hm' (.inr e))];exact h.old hs (λx=>hm' (.inl x))
 ·by_cases e:s=c.r
  ·exact⟨⟨y,t0,t1⟩,by show up K.N c.r (some _) s=_;rw[e,aL]⟩
  obtain⟨d',dG⟩:=h.kept hs;exact⟨d',by show up K.N c.r (some _) s=_;rw[aP e];exact dG⟩
 ·have hs':up K.N c.r (some ⟨y,t0,t1⟩) s=some d:=hs;by_cases e:s=c.r
  ·rw[e,aL]at hs';cases hs';exact .inr (.inl ⟨(hml s).2 (.inr e),rfl,Ex k0,Ex k1⟩)
  rw[aP e]at hs';rcases h.new hs' with⟨h1,h2⟩|⟨h1,h2,h3,h4⟩|h1
  ·exact .inl ⟨h1,λhm=>((hml s).1 hm).elim h2 e⟩
  ·exact .inr (.inl ⟨(hml s).2 (.inl h1),h2,Ex h3,Ex h4⟩)
  exact .inr (.inr h1)
 show K.used=K0.used+(made.filter λd=>(pB K.T ⟨y,t0,t1⟩ (some c.r) d).isSome).length;have hnm:(⟨y,t0,t1⟩:Nd)∉made:=λhm=>by
  obtain⟨⟨c',mu,hk⟩,_⟩:=(b.mad.mem _).1 hm;simp only[keys,xag,xaw,xaZ,Nd.mk.injEq]at hk;rcases hk with⟨e,_⟩|⟨e,_⟩
  ·exact b.nb.ne e.symm
  exact b.nb.ne e.symm
 rw[mW b.mad.nd hT,xac hnm,h.used];rfl
theorem TI.levels(b:TB K0 S0 ag x y l all made)(h:TI K0 S0 ag x y l made K S all [] P){s:Nat}{d:Nd}(hs:K.N s=some d):
  sO ag x y l d.v<dep K0.n (sO ag x y l) K.N d.lo/\sO ag x y l d.v<dep K0.n (sO ag x y l) K.N d.hi:=by
 have w:=b.ok.wf;have hd:∀c∈all,c∈all:=λ_ h=>h;have XE:l+1<K0.n:=by have:=b.ok.lv.lt y b.nb.yn;rw[b.nb.ly]at this;exact this
 have sx:sO ag x y l x=l+1:=by simp[sO]
 have sy:sO ag x y l y=l:=by unfold sO;rw[xac (xbn b.nb.ne),xae rfl]
 have so:∀v,v<K0.n->ag v≠l->ag v≠l+1->sO ag x y l v=ag v:=λv hv h1 h2=>by
  unfold sO;rw[xac (λe=>h1 (by rw[e];exact b.nb.lx)),xac (λe=>h2 (by rw[e];exact b.nb.ly))]
 have low:∀{t},sM K0 ag l t->l+1<dep K0.n (sO ag x y l) K.N t:=λ{t} ht=>by
  have e:=h.T2 b hd ht;cases e2:K0.N t with
  |none=>rw[bj (by rw[e,e2])];exact XE
  |some e'=>
   have:=b.zm ht e2;rw[ay (by rw[e,e2]),so _ (w.var e2) zO zO];exact this
 have xS:∀{t},xe K0 K ag x l t->l<dep K0.n (sO ag x y l) K.N t:=λ{t} ht=>by
  rcases ht with ht|⟨e,he,hx,_⟩
  ·have:=low ht;omega
  rw[ay he,hx,sx];omega
 rcases h.new hs with⟨h1,h2⟩|⟨_,h2,h3,h4⟩|⟨_,h2,h3,h4⟩
 ·have hv:=w.var h1;have q1:=w.lo h1;have q2:=w.hi h1;rcases xcW (ag d.v) l with hlt|heq|hgt
  ·rw[so _ hv zO zO];have up':∀{t},live K0.N t->ag d.v<dep K0.n ag K0.N t->ag d.v<dep K0.n (sO ag x y l) K.N t:=λ{t} ht lj=>by
    cases e:K.N t with
    |none=>rw[bj e];exact xa2 lj (w.gI b.ok.lv t)
    |some e'=>
     rw[ay e];rcases h.new e with⟨g1,_⟩|⟨_,g2,_⟩|⟨g1,_⟩
     ·rw[ay g1]at lj;have hve:=w.var g1;by_cases e1:ag e'.v=l
      ·have:e'.v=x:=b.ok.lv.inj _ _ hve b.nb.xn (by rw[b.nb.lx];exact e1);rw[this,sx];omega
      by_cases e2:ag e'.v=l+1
      ·have:e'.v=y:=b.ok.lv.inj _ _ hve b.nb.yn (by rw[b.nb.ly];exact e2);rw[this,sy];exact hlt
      rw[so _ hve e1 e2];exact lj
     ·rw[g2,sy];exact hlt
     rcases ht with ht|⟨f,hf⟩
     ·have:=(h.mid.two e).1;omega
     rw[g1]at hf;cases hf
   exact⟨up' q1.1 q1.2,up' q2.1 q2.2⟩
  ·have hx:d.v=x:=b.ok.lv.inj _ _ hv b.nb.xn (by rw[b.nb.lx];exact heq);rw[hx,sx];have nc:∀t,t=d.lo\/t=d.hi->∀e,K0.N t=some e->e.v≠y:=λt ht e he hv=>h2 (xam.2 ⟨m5 K0.N y s d,(b.cx.mem _).2 ⟨⟨h1,hx,by
    rcases ht with rfl|rfl
    ·exact .inl ⟨e,he,hv⟩
    exact .inr ⟨e,he,hv⟩⟩,rfl⟩,rfl⟩)
   have lw:∀t,t=d.lo\/t=d.hi->live K0.N t->ag d.v<dep K0.n ag K0.N t->sM K0 ag l t:=λt ht hlv hlt=>by
    refine⟨hlv,?_⟩;have:=(w.half b.ok.lv b.ok.mid.int b.nb.yy hlv (by omega:l<dep K0.n ag K0.N t)).1.2;rwa [(TJ (nc t ht)).1]at this
   exact⟨low (lw _ (.inl rfl) q1.1 q1.2),low (lw _ (.inr rfl) q2.1 q2.2)⟩
  by_cases e:ag d.v=l+1
  ·have hy:d.v=y:=b.ok.lv.inj _ _ hv b.nb.yn (by rw[b.nb.ly];exact e);rw[hy,sy];have a1:=low ⟨q1.1,by omega⟩;have a2:=low ⟨q2.1,by omega⟩;exact⟨by omega,by omega⟩
  rw[so _ hv zO e];have deep:∀{t},live K0.N t->ag d.v<dep K0.n ag K0.N t->ag d.v<dep K0.n (sO ag x y l) K.N t:=λ{t} ht lj=>by
   have hl:sM K0 ag l t:=⟨ht,by omega⟩;have e':=h.T2 b hd hl;cases e2:K0.N t with
   |none=>rw[bj (by rw[e',e2])];exact b.ok.lv.lt _ hv
   |some f=>
    rw[ay e2]at lj;rw[ay (by rw[e',e2]),so _ (w.var e2) zO zO];exact lj
  exact⟨deep q1.1 q1.2,deep q2.1 q2.2⟩
 ·rw[h2,sy];exact⟨xS h3,xS h4⟩
 rw[h2,sx];exact⟨low h3,low h4⟩
theorem TI.fin(b:TB K0 S0 ag x y l all made)(h:TI K0 S0 ag x y l made K S all [] P){K':Kd}(hm:jw K' S iu zero')(hp:Pos K')(hN:∀{s d},K'.N s=some d->K.N s=some d)(hn:K'.n=K.n)(hh:∀r,K'.hold r=K.hold r):
  Ok K' S (sO ag x y l)/\(∀g,K'.held S g↔K0.held S0 g)/\∀r,K0.hold r≠0->S r=S0 r:=by
 have ND:∀r,K0.hold r≠0->S r=S0 r:=λr hr=>h.ext r (.inr (b.ok.mid.held r hr));refine⟨⟨hm,hp,by rw[hn,h.n];exact Th b.ok.lv b.nb,hm.wf λ{s d} hs=>?_⟩,λg=>?_,ND⟩
 ·have hl:=h.levels b (hN hs);have same:∀{t},live K'.N t->dep K'.n (sO ag x y l) K'.N t=dep K0.n (sO ag x y l) K.N t:=λ{t} ht=>by
   cases e:K'.N t with
   |some f=>rw[ay e,ay (hN e)]
   |none=>
    have KO:t<2:=by
     rcases ht with ht|⟨f,hf⟩
     ·exact ht
     rw[e]at hf;cases hf
    have:K.N t=none:=by
     cases e2:K.N t with
     |none=>rfl
     |some f=>have:=(h.mid.two e2).1;omega
    rw[bj e,bj this,hn,h.n]
  rw[same (hm.lo hs),same (hm.hi hs)];exact hl
 constructor
 ·rintro⟨r,hr,rfl⟩;have hr':K0.hold r≠0:=by rw[<-h.hold,<-hh];exact hr
  exact⟨r,hr',ND r hr'⟩
 rintro⟨r,hr,rfl⟩;exact⟨r,by show K'.hold r≠0;rw[hh,h.hold];exact hr,(ND r hr).symm⟩
end
end aC
namespace aC
open ak
variable {n cap l:Nat} {ord:zL} {F G:Fn->Prop}
open Classical in
noncomputable def sz(n:Nat)(ord:zL)(F:Fn->Prop):Nat:=if h:∃k,pA (bc n ord F) k then Classical.choose h else 0
theorem AR{k:Nat}(h:pA (bc n ord F) k):sz n ord F=k:=by
 unfold sz;rw[xeg ⟨k,h⟩];exact(xcF (⟨k,h⟩:∃k,pA (bc n ord F) k)).uniq h
def Nk(n:Nat)(ord:zL)(l:Nat)(F:Fn->Prop):Fn->Prop:=λg=>bc n ord F g\/bc n (fT ord l) F g
open Classical in
noncomputable def Di(n:Nat)(ord:zL)(l:Nat)(F:Fn->Prop):Nat:=if h:∃k,pA (Nk n ord l F) k then Classical.choose h else 0
theorem W5{k:Nat}(h:pA (Nk n ord l F) k):Di n ord l F=k:=by
 unfold Di;rw[xeg ⟨k,h⟩];exact(xcF (⟨k,h⟩:∃k,pA (Nk n ord l F) k)).uniq h
theorem Oi(e:∀g,F g↔G g):sz n ord F=sz n ord G:=by
 have:F=G:=funext λg=>propext (e g);rw[this]
theorem JL(e:∀g,F g↔G g):Di n ord l F=Di n ord l G:=by
 have:F=G:=funext λg=>propext (e g);rw[this]
theorem Cd{a b:zL}(hl:a.length=b.length)(h:∀i,i<a.length->a.getD i 0=b.getD i 0):a=b:=by
 refine List.ext_getElem hl λi h1 h2=>?_;have:=h i h1;simpa[List.getD,xab h1,xab h2]using this
theorem pK(hl:l+1<ord.length):fT (fT ord l) l=ord:=by
 refine Cd (by rw[kS,kS]) λi _=>?_;have h2:l+1<(fT ord l).length:=by rw[kS];exact hl
 rw[eL h2,eL hl,eL hl,eL hl];by_cases e:i=l
 ·subst e;simp
 by_cases e2:i=l+1
 ·subst e2;simp
 simp[e,e2]
theorem SY(hl:l+1<ord.length):Di n (fT ord l) l F=Di n ord l F:=by
 have:Nk n (fT ord l) l F=Nk n ord l F:=by
  funext g
  unfold Nk;rw[pK hl];exact propext or_comm
 unfold Di;rw[this]
def wZ(n cap:Nat)(F:Fn->Prop):zL->zL->Prop
 |_,[]=>True
 |ord,l::r=>l+1<n/\Di n ord l F+2<=cap/\wZ n cap F (fT ord l) r
theorem wZ.congr(e:∀g,F g↔G g):∀{tr ord:zL},wZ n cap F ord tr->wZ n cap G ord tr:=by
 have:F=G:=funext λg=>propext (e g);subst this;exact λ{tr ord} h=>h
theorem wZ.afV(hlen:ord.length=n)(hl:l+1<n)(hfit:Di n ord l F+2<=cap){tr:zL}(h:wZ n cap F ord tr.reverse):wZ n cap F (fT ord l) (tr++[l]).reverse:=by
 rw[List.reverse_append];exact⟨hl,by rw[SY zO];exact hfit,by rw[pK zO];exact h⟩
end aC
namespace aC
open ak
variable {n l:Nat} {ord:zL} {L:ak.Fs} {F:Fn->Prop}
def fB(n:Nat)(ws:zL):Fn:=λx=>bit ws (x%2^n)
theorem mD{x v n:Nat}{b:Bool}(hv:v<n):aB x v b%2^n=aB (x%2^n) v b:=by
 apply xaX;intro k;rw[xbl,ai,ai,xbl];by_cases e:k=v
 ·subst e;simp[hv]
 simp[e]
theorem Ae{v:Nat}{ws:zL}(hf:dA n ws)(hv:v<n)(b:Bool):fB n (fU n ws v b)=λx=>fB n ws (aB x v b):=by
 funext x
 unfold fB;rw[ez hf hv (xbx _ (xbK n)),mD hv]
theorem QZ{ws:zL}{x:Nat}(h:x<2^n):fB n ws x=bit ws x:=by unfold fB;rw[xa5 h]
theorem Ad{a b:zL}(ha:dA n a)(hb:dA n b)(h:fB n a=fB n b):a=b:=ha.ext hb λx hx=>by rw[<-QZ hx,<-QZ hx,h]
theorem rE{v:Nat}{ws:zL}(hf:dA n ws)(hv:v<n):fg (fB n ws) v↔ak.dep n ws v=true:=by
 rw[tE hf hv];constructor
 ·rintro⟨x,hx⟩;refine⟨x%2^n,xbx _ (xbK n),?_⟩;unfold fB at hx;rwa [mD hv,mD hv]at hx
 rintro⟨x,hx,hne⟩;refine⟨x,?_⟩;unfold fB;rwa [mD hv,mD hv,xa5 hx]
def cur(n:Nat)(ord:zL)(L:ak.Fs):Nat->ak.Fs
 |0=>iS L
 |k+1=>given n (cur n ord L k) (ord.getD k 0)
def FT(n:Nat)(L:ak.Fs):Fn->Prop:=λg=>∃t∈L,g=fB n t
theorem rI:∀k,(cur n ord L k).Nodup
 |0=>kQ L
 |k+1=>mV _ _ _
theorem nS(hL:∀t∈L,dA n t)(hn:n<=16):∀k,∀t∈cur n ord L k,dA n t
 |0,t,h=>hL t (fF.1 h)
 |k+1,t,h=>by obtain⟨u,_,b,rfl⟩:=bY.1 h;exact dQ hn
theorem Ac(hL:∀t∈L,dA n t)(hn:n<=16)(ho:∀i,i<n->ord.getD i 0<n):∀k,k<=n->∀g,fs ord (FT n L) k g↔∃t∈cur n ord L k,g=fB n t
 |0,_,g=>by
  show(∃t∈L,g=fB n t)↔_;constructor
  ·rintro⟨t,h,e⟩;exact⟨t,fF.2 h,e⟩
  rintro⟨t,h,e⟩;exact⟨t,fF.1 h,e⟩
 |k+1,hk,g=>by
  have ih:=Ac hL hn ho k zO;constructor
  ·rintro⟨f,hf,b,rfl⟩;obtain⟨t,ht,rfl⟩:=(ih f).1 hf;exact⟨fU n t (ord.getD k 0) b,bY.2 ⟨t,ht,b,rfl⟩,(Ae (nS hL hn k t ht) (ho k zO) b).symm⟩
  rintro⟨t,ht,rfl⟩;obtain⟨u,hu,b,rfl⟩:=bY.1 ht;exact⟨fB n u,(ih _).2 ⟨u,hu,rfl⟩,b,Ae (nS hL hn k u hu) (ho k zO) b⟩
theorem qg:∀k g,fs ord F k g->∀j,j<k->¬fg g (ord.getD j 0)
 |0,_,_,_,h=>absurd h (xc8 _)
 |k+1,g,h,j,hj=>by
  obtain⟨f,hf,b,rfl⟩:=h;rintro⟨x,hx⟩;apply hx;by_cases e:ord.getD j 0=ord.getD k 0
  ·show f (aB (aB x _ false) _ b)=f (aB (aB x _ true) _ b);congr 1;apply xaX;intro i;simp only[ai,e];split<;>rfl
  have hlt:j<k:=by
   rcases Nat.lt_succ_iff_lt_or_eq.1 hj with h|h
   ·exact h
   subst h;exact(e rfl).elim
  have:=qg k f hf j hlt;show f (aB (aB x _ false) _ b)=f (aB (aB x _ true) _ b);rw[dk e,dk e];exact xaY λhne=>this ⟨_,hne⟩
def pX(n:Nat)(ord:zL)(L:ak.Fs)(k:Nat):ak.Fs:=nodes n (cur n ord L k) (ord.getD k 0)
def fM(n:Nat)(ord:zL)(L:ak.Fs):Nat->Nat
 |0=>0
 |k+1=>fM n ord L k+(pX n ord L k).length
def E9(n:Nat)(ord:zL)(L:ak.Fs):Nat->ak.Fs
 |0=>[]
 |k+1=>E9 n ord L k++pX n ord L k
theorem sG:∀k,(E9 n ord L k).length=fM n ord L k
 |0=>rfl
 |k+1=>by rw[E9,fM,xaf,sG k]
theorem mJ{k:Nat}{t:zL}:t∈pX n ord L k↔t∈cur n ord L k/\ak.dep n t (ord.getD k 0)=true:=by
 unfold pX nodes;rw[xcS]
theorem CV(hL:∀t∈L,dA n t)(hn:n<=16):∀k,∀t∈E9 n ord L k,dA n t
 |0,t,h=>by cases h
 |k+1,t,h=>by
  rcases xaq.1 h with h|h
  ·exact CV hL hn k t h
  exact nS hL hn k t (mJ.1 h).1
theorem vH(hL:∀t∈L,dA n t)(hn:n<=16)(ho:∀i,i<n->ord.getD i 0<n):∀m,m<=n->∀g,(∃k,k<m/\fs ord (FT n L) k g/\fg g (ord.getD k 0))↔∃t∈E9 n ord L m,g=fB n t
 |0,_,g=>by simp[E9]
 |m+1,hm,g=>by
  have ih:=vH hL hn ho m zO g;have ag:(fs ord (FT n L) m g/\fg g (ord.getD m 0))↔∃t∈pX n ord L m,g=fB n t:=by
   rw[Ac hL hn ho m zO];constructor
   ·rintro⟨⟨t,ht,rfl⟩,hh⟩;exact⟨t,mJ.2 ⟨ht,(rE (nS hL hn m t ht) (ho m zO)).1 hh⟩,rfl⟩
   rintro⟨t,ht,rfl⟩;obtain⟨h1,h2⟩:=mJ.1 ht;exact⟨⟨t,h1,rfl⟩,(rE (nS hL hn m t h1) (ho m zO)).2 h2⟩
  constructor
  ·rintro⟨k,hk,h1,h2⟩;by_cases e:k=m
   ·subst e;obtain⟨t,ht,rfl⟩:=ag.1 ⟨h1,h2⟩;exact⟨t,xaa _ ht,rfl⟩
   obtain⟨t,ht,rfl⟩:=ih.1 ⟨k,by omega,h1,h2⟩;exact⟨t,xad _ ht,rfl⟩
  rintro⟨t,ht,rfl⟩;rcases xaq.1 ht with ht|ht
  ·obtain⟨k,hk,h⟩:=ih.2 ⟨t,ht,rfl⟩;exact⟨k,by omega,h⟩
  exact⟨m,by omega,ag.2 ⟨t,ht,rfl⟩⟩
theorem vG(hL:∀t∈L,dA n t)(hn:n<=16)(ho:∀i,i<n->ord.getD i 0<n):∀m,m<=n->(E9 n ord L m).Nodup
 |0,_=>List.nodup_nil
 |m+1,hm=>by
  refine xa9.2 ⟨vG hL hn ho m zO,(rI m).filter _,λa ha b hb e=>?_⟩;subst e;obtain⟨k,hk,h1,h2⟩:=(vH hL hn ho m zO (fB n a)).2 ⟨a,ha,rfl⟩;have h3:=(Ac hL hn ho m zO (fB n a)).2 ⟨a,(mJ.1 hb).1,rfl⟩;exact qg m _ h3 k hk h2
theorem Rv{P:Fn->Prop}{l:ak.Fs}(hf:∀t∈l,dA n t)(hn:l.Nodup)(h:∀g,P g↔∃t∈l,g=fB n t):pA P l.length:=by
 refine⟨l.map (fB n),?_,by simp,λg=>?_⟩
 ·refine xb9.2 (hn.imp_of_mem λ{a b} ha hb hne heq=>hne (Ad (hf a ha) (hf b hb) heq))
 rw[h,xam];constructor
 ·rintro⟨t,ht,rfl⟩;exact⟨t,ht,rfl⟩
 rintro⟨t,ht,rfl⟩;exact⟨t,ht,rfl⟩
theorem Rw(hL:∀t∈L,dA n t)(hn:n<=16)(ho:∀i,i<n->ord.getD i 0<n):pA (bc n ord (FT n L)) (fM n ord L n):=by
 rw[<-sG];exact Rv (CV hL hn n) (vG hL hn ho n (xal _)) (vH hL hn ho n (xal _))
theorem Oj(hL:∀t∈L,dA n t)(hn:n<=16)(ho:∀i,i<n->ord.getD i 0<n):sz n ord (FT n L)=fM n ord L n:=AR (Rw hL hn ho)
end aC
set_option maxRecDepth 100000
namespace Go.Proofs
open Go Go.Sx Tryz
section
open aC
def u32(r:Nat):zV:=.int .u32 (r:Int)
def bH(d:Nd):List zV:=[iv (d.v:Int),u32 d.lo,u32 d.hi]
structure oa where
 v:Int
 lo:Nat
 hi:Nat
 tk:Bool
 c:Nat
def oa.row(p:oa):List zV:=[iv p.v,u32 p.lo,u32 p.hi,.bool p.tk,.int .u8 (p.c:Int)]
def fQ(N:dU)(r:Nat):Bool:=decide (r<2)||(N r).isSome
theorem cg{N:dU}{r:Nat}:fQ N r=true↔live N r:=by
 unfold fQ live;rw[xcl,xaP,xdM]
def got(N:dU)(r:Nat):List zV:=
 if r<2 then [iv (-1),u32 r,u32 r]else match N r with|some d=>bH d|none=>[iv 0,u32 0,u32 0]
theorem fh{N:dU}{r:Nat}{d:Nd}(h:N r=some d)(h2:2<=r):got N r=bH d:=by unfold got;rw[xac zO,h]
theorem gH{N:dU}{r:Nat}(h2:r<2):got N r=[iv (-1),u32 r,u32 r]:=by unfold got;rw[xae h2]
theorem BW{N:dU}{r:Nat}(h:fQ N r=false):got N r=[iv 0,u32 0,u32 0]:=by
 unfold fQ at h;rw[xaL,xbk]at h;unfold got;rw[xac h.1];cases hN:N r with
 |none=>rfl
 |some d=>rw[hN]at h;simp at h
def Kt(p:oa):Option Nd:=if p.tk then some ⟨p.v.toNat,p.lo,p.hi⟩else none
structure Ax(l:List oa)(fr:zL)(cap used:Nat)(N:dU):Prop where
 cap:l.length<=cap/\cap<=1048576
 two:2<=l.length
 const:∀r,r<2->∃p,l[r]? =some p/\p.v= -1/\p.lo=r/\p.hi=r/\p.tk=true
 nd:∀r,2<=r->N r=(l[r]?).bind Kt
 n0:∀r,r<2->N r=none
 nn:∀(r:Nat) p,2<=r->l[r]? =some p->p.tk=true->0<=p.v
 SG:fr.Nodup
 lz:∀r,r∈fr↔∃p,l[r]? =some p/\p.tk=false
 used:used+fr.length=l.length
theorem Ax.Bv{l:List oa}{fr:zL}{cap used:Nat}{N:dU}(h:Ax l fr cap used N)(r:Nat):fQ N r=(match l[r]? with|some p=>p.tk|none=>false):=by
 unfold fQ;by_cases h2:r<2
 ·obtain⟨p,hp,_,_,_,ht⟩:=h.const r h2;simp[h2,hp,ht]
 rw[h.nd r zO];cases hl:l[r]? with
 |none=>simp[h2]
 |some p=>cases ht:p.tk<;>simp[h2,Kt,ht]
theorem Ax.afR{l:List oa}{fr:zL}{cap used:Nat}{N:dU}(h:Ax l fr cap used N){r:Nat}{p:oa}(hp:l[r]? =some p)(ht:p.tk=true):got N r=p.row.take 3:=by
 by_cases h2:r<2
 ·obtain⟨p',hp',h1,o9,h3,_⟩:=h.const r h2;rw[hp]at hp';cases hp';rw[gH h2];simp[oa.row,h1,o9,h3]
 have hn:=h.nn r p zO hp ht;rw[fh (d:=⟨p.v.toNat,p.lo,p.hi⟩) (by rw[h.nd r zO,hp];simp[Kt,ht]) zO];simp[bH,oa.row,Int.toNat_of_nonneg hn]
theorem Ax.lt{l:List oa}{fr:zL}{cap used:Nat}{N:dU}(h:Ax l fr cap used N){r:Nat}(hr:live N r):r<l.length:=by
 have:=cg.2 hr;rw[h.Bv]at this;cases hl:l[r]? with
 |none=>rw[hl]at this;simp at this
 |some p=>exact(xah.1 hl).1
def gZ(pa cap used:Nat)(N:dU)(C:Hp):Prop:=
 ∃vl vf l fr Cl Cf,C=(pa,.cells #[iv (cap:Int),vl,vf,iv (used:Int)] 199 zZ)::(Cl++Cf)/\
  aM 203 5 vl (l.map oa.row) Cl/\aR 80 .u32 vf (fr.map (Nat.cast:Nat->Int)) Cf/\Ax l fr cap used N
abbrev ptr(b:Nat):zV:=.pointer (some ⟨b,0,none⟩)
theorem row_one(p:oa):∀x∈p.row,x.oneCell'=true:=by intro x hx;simp[oa.row,u32]at hx;rcases hx with rfl|rfl|rfl|rfl|rfl<;>rfl
theorem pJ{pa cap used r:Nat}{N:dU}{C:Hp}(h:gZ pa cap used N C)(hr:r<4294967296):
  Rd zQ 252 #[ptr pa,u32 r] C (· =.bool (fQ N r)):=by
 obtain⟨vl,vf,l,fr,Cl,Cf,rfl,hl,hf,ho⟩:=h;refine aK λg=>FZ (aH.q (Nil.ptr ?_));refine af.mk (Ld.mk zM rfl ?_);refine hl.bE (ae.cX ?_);rw[xax];rw[ho.Bv r];refine cz.and (match l[r]? with|some p=>p.tk|none=>false) (λhlt=>?_) rfl λ_=>bD.mk (.refl _) ?_
 ·have lj:=xcz hlt;apply Nil.ptr;refine af.mk (Ld.mk zM rfl ?_);have hg:l[r]? =some l[r]:=xab lj;refine hl.Xw (r:=l[r].row) (x:=.bool l[r].tk) (by rw[xar,hg];rfl) rfl (λ_ h=>by exact .tail _ (xad _ h)) ?_;exact⟨rfl,by rw[hg]⟩
 congr 1;by_cases hlt:r<l.length
 ·simp[hlt]
 rw[xaJ zO];simp
theorem QJ{pa cap used r:Nat}{N:dU}{C:Hp}(h:gZ pa cap used N C)(hr:r<4294967296):
  Rd zQ 208 #[ptr pa,u32 r] C (· =.tuple #[.agg (got N r).toArray,iv (if fQ N r then 0 else 3)]):=by
 have h0:=h;obtain⟨vl,vf,l,fr,Cl,Cf,rfl,hl,hf,ho⟩:=h;refine aK λg=>Gp λb1 _=>?_;refine ae.aG (Br.no (aa.eq (pJ h0 hr) (Un.not (Br.mk (λhb=>?_) (λhb=>?_)))))
 ·have hb':fQ N r=false:=by simpa using hb
  refine Build.mk (cs:=[iv 0,.int .u32 0,.int .u32 0]) zK (St.q ?_);refine ax.q ?_;exact bD.mk .tail (by rw[BW hb',hb'];rfl)
 have hb':fQ N r=true:=by simpa using hb
 have hx:=hb';rw[ho.Bv]at hx;cases hg:l[r]? with
 |none=>rw[hg]at hx;simp at hx
 |some p=>
 rw[hg]at hx;simp only at hx;apply Nil.ptr;refine af.mk (Ld.mk zM rfl ?_);refine hl.Xv (r:=p.row) (by rw[xar,hg];rfl) zD (λ_ h=>by exact .tail _ (.tail _ (xad _ h))) ?_;refine St.p (λx hx=>row_one p x (xcj hx)) ?_;refine ax.q ?_;exact bD.mk .tail (by rw[ho.afR hg hx,hb'];rfl)
structure NOk(N:dU)(d:Nd):Prop where
 v:d.v<64
 lo:live N d.lo
 hi:live N d.hi
theorem gZ.lt{pa cap used r:Nat}{N:dU}{C:Hp}(h:gZ pa cap used N C)(hr:live N r):r<cap/\cap<=1048576:=by
 obtain⟨vl,vf,l,fr,Cl,Cf,rfl,hl,hf,ho⟩:=h;exact⟨xa2 (ho.lt hr) ho.cap.1,ho.cap.2⟩
theorem yE{pa cap used:Nat}{N:dU}{C:Hp}{d:Nd}(h:gZ pa cap used N C)(hd:NOk N d):
  Rd zQ 228 #[ptr pa,.agg (bH d).toArray] C (· =iv 0):=by
 have hlo:=h.lt hd.lo;have hhi:=h.lt hd.hi;refine aK λg=>Gc λb1 _=>?_;refine Ld.f ?_;refine ae.lss (cz.or (decide (64<=d.v)) (λ_=>?_) rfl λ_=>?_)
 ·refine Ld.f ?_;exact ae.kM (b:=64) ⟨rfl,rfl⟩
 have hv:=hd.v;refine Br.no' zP λJ hJ=>?_;refine Ld.f ?_;refine aa.eq (pJ h zO) ?_;rw[cg.2 hd.lo];refine Un.not (Split.go rfl (Ld.f ?_));refine aa.eq (pJ h zO) ?_;rw[cg.2 hd.hi];refine Un.not (aI.mk (JE.mk (hJ _ _ λgs=>Br.no (bD.mk .tail rfl))))
theorem O8{pa cap used r:Nat}{N:dU}{C:Hp}(h:gZ pa cap used N C)(hr:∃d,N r=some d)(h2:2<=r):
  Rd zQ 210 #[ptr pa,u32 r] C (· =iv 0):=by
 have hl:=h.lt (.inr hr);refine aK λg=>Gm λJ hJ=>?_;refine ae.xO (b:=1) (Split.go zP ?_);refine aa.eq (pJ h zO) ?_;rw[cg.2 (.inr hr)];refine Un.not (aI.mk (JE.mk (hJ _ _ λgs=>Br.no (bD.mk (.refl _) rfl))))
theorem CJ{pa cap used:Nat}{N:dU}{C:Hp}(h:gZ pa cap used N C):Rd zQ 142 #[ptr pa] C (· =iv (used:Int)):=by
 obtain⟨vl,vf,l,fr,Cl,Cf,rfl,hl,hf,ho⟩:=h;refine aK λg=>G8 (ae.aG (Br.no (Nil.ptr ?_)));refine af.mk (Ld.mk zM rfl ?_);exact bD.mk (.refl _) rfl
theorem E6{pa cap used:Nat}{N:dU}{C:Hp}(h:gZ pa cap used N C):Rd zQ 226 #[ptr pa] C (· =iv (cap:Int)):=by
 obtain⟨vl,vf,l,fr,Cl,Cf,rfl,hl,hf,ho⟩:=h;refine aK λg=>Ge (ae.aG (Br.no (Nil.ptr ?_)));refine af.mk (Ld.mk zM rfl ?_);exact bD.mk (.refl _) rfl
section
variable {l:List oa} {fr:zL} {cap used:Nat} {N:dU}
theorem D7(d:Nd){c:Nat}:Kt ⟨(d.v:Int),d.lo,d.hi,true,c⟩=some d:=by simp[Kt]
theorem Ax.reuse(h:Ax l fr cap used N){r:Nat}(hr:r∈fr){fr':zL}(hf:fr.Perm (r::fr'))(d:Nd):
  2<=r/\r<cap/\N r=none/\Ax (l.set r ⟨(d.v:Int),d.lo,d.hi,true,0⟩) fr' cap (used+1) (up N r (some d)):=by
 obtain⟨p,hp,ht⟩:=(h.lz r).1 hr;have hlt:=(xah.1 hp).1;have h2:2<=r:=by
  apply xdH;intro hn;obtain⟨p',hp',_,_,_,ht'⟩:=h.const r zO;rw[hp]at hp';cases hp';rw[ht]at ht';cases ht'
 have gw:=hf.nodup_iff.1 h.SG;rw[xaW]at gw;refine⟨h2,xa2 hlt h.cap.1,by rw[h.nd r h2,hp];simp[Kt,ht],?_⟩;have fI:∀s,s≠r->(l.set r ⟨(d.v:Int),d.lo,d.hi,true,0⟩)[s]? =l[s]? :=λs hs=>xbM (xbn hs);have nN:(l.set r ⟨(d.v:Int),d.lo,d.hi,true,0⟩)[r]? =some ⟨(d.v:Int),d.lo,d.hi,true,0⟩:=xbO hlt;exact {
  cap:=by simpa using h.cap
  two:=by simpa using h.two
  const:=λs hs=>by rw[fI s zO];exact h.const s hs
  nd:=λs hs=>by
   by_cases e:s=r
   ·subst e;rw[aL,nN];exact(D7 d).symm
   rw[aP e,fI s e];exact h.nd s hs
  n0:=λs hs=>by rw[aP zO];exact h.n0 s hs
  nn:=λs q hs hq PX=>by
   by_cases e:s=r
   ·subst e;rw[nN]at hq;cases hq;exact xcf _
   rw[fI s e]at hq;exact h.nn s q hs hq PX
  SG:=gw.2
  lz:=λs=>by
   by_cases e:s=r
   ·subst e;rw[nN];simp[gw.1]
   rw[fI s e,<-h.lz s,hf.mem_iff];simp[e]
  used:=by have:=h.used;have:=hf.length_eq;simp only[xak,xbW]at*;omega}
theorem Ax.grow(h:Ax l [] cap used N)(hlt:l.length<cap)(d:Nd):
  2<=l.length/\N l.length=none/\Ax (l++[⟨(d.v:Int),d.lo,d.hi,true,0⟩]) [] cap (used+1) (up N l.length (some d)):=by
 have h2:=h.two;refine⟨h2,by rw[h.nd _ h2,xaJ (xal _)];rfl,?_⟩;have fI:∀s,s≠l.length->(l++[(⟨(d.v:Int),d.lo,d.hi,true,0⟩:oa)])[s]? =l[s]? :=λs hs=>by
  rw[xd7];split
  ·rfl
  rw[xaJ zP,xaJ zO]
 have nN:(l++[(⟨(d.v:Int),d.lo,d.hi,true,0⟩:oa)])[l.length]? =some ⟨(d.v:Int),d.lo,d.hi,true,0⟩:=by simp
 exact {
  cap:=by simp;exact⟨hlt,h.cap.2⟩
  two:=by simp;omega
  const:=λs hs=>by rw[fI s zO];exact h.const s hs
  nd:=λs hs=>by
   by_cases e:s=l.length
   ·subst e;rw[aL,nN];exact(D7 d).symm
   rw[aP e,fI s e];exact h.nd s hs
  n0:=λs hs=>by rw[aP zO];exact h.n0 s hs
  nn:=λs q hs hq PX=>by
   by_cases e:s=l.length
   ·subst e;rw[nN]at hq;cases hq;exact xcf _
   rw[fI s e]at hq;exact h.nn s q hs hq PX
  SG:=h.SG
  lz:=λs=>by
   by_cases e:s=l.length
   ·subst e;rw[nN];simp
   rw[fI s e];exact h.lz s
  used:=by have:=h.used;simp at*;omega}
theorem Ax.yV(h:Ax l fr cap used N){r:Nat}{p:oa}(h2:2<=r)(hp:l[r]? =some p)(ht:p.tk=true)(d:Nd):
  Ax (l.set r ⟨(d.v:Int),d.lo,d.hi,true,p.c⟩) fr cap used (up N r (some d)):=by
 have hlt:=(xah.1 hp).1;have fI:∀s,s≠r->(l.set r ⟨(d.v:Int),d.lo,d.hi,true,p.c⟩)[s]? =l[s]? :=λs hs=>xbM (xbn hs);have nN:(l.set r ⟨(d.v:Int),d.lo,d.hi,true,p.c⟩)[r]? =some ⟨(d.v:Int),d.lo,d.hi,true,p.c⟩:=xbO hlt;exact {
  cap:=by simpa using h.cap
  two:=by simpa using h.two
  const:=λs hs=>by rw[fI s zO];exact h.const s hs
  nd:=λs hs=>by
   by_cases e:s=r
   ·subst e;rw[aL,nN];exact(D7 d).symm
   rw[aP e,fI s e];exact h.nd s hs
  n0:=λs hs=>by rw[aP zO];exact h.n0 s hs
  nn:=λs q hs hq PX=>by
   by_cases e:s=r
   ·subst e;rw[nN]at hq;cases hq;exact xcf _
   rw[fI s e]at hq;exact h.nn s q hs hq PX
  SG:=h.SG
  lz:=λs=>by
   by_cases e:s=r
   ·subst e;rw[h.lz,nN,hp];simp[ht]
   rw[fI s e];exact h.lz s
  used:=by simpa using h.used}
theorem Ax.free(h:Ax l fr cap used N){r:Nat}{p:oa}(h2:2<=r)(hp:l[r]? =some p)(ht:p.tk=true):
  Ax (l.set r ⟨0,0,0,false,0⟩) (fr++[r]) cap (used-1) (up N r none)/\0<used:=by
 have hlt:=(xah.1 hp).1;have fI:∀s,s≠r->(l.set r ⟨0,0,0,false,0⟩)[s]? =l[s]? :=λs hs=>xbM (xbn hs);have nN:(l.set r ⟨0,0,0,false,0⟩)[r]? =some ⟨0,0,0,false,0⟩:=xbO hlt;have hnf:r∉fr:=λhm=>by obtain⟨q,hq,PX⟩:=(h.lz r).1 hm;rw[hp]at hq;cases hq;rw[ht]at PX;cases PX
 have hu:fr.length<l.length:=by
  have hn:(r::fr).Nodup:=xaW.2 ⟨hnf,h.SG⟩;have:=bV (l:=r::fr) (l':=List.range l.length) hn λs hs=>by
   rw[xaO];rcases xag.1 hs with rfl|hs
   ·exact hlt
   obtain⟨q,hq,_⟩:=(h.lz s).1 hs;exact(xah.1 hq).1
  rw[xaK]at this;exact this
 have V8:=h.used;refine⟨?_,by omega⟩;exact {
  cap:=by simpa using h.cap
  two:=by simpa using h.two
  const:=λs hs=>by rw[fI s zO];exact h.const s hs
  nd:=λs hs=>by
   by_cases e:s=r
   ·subst e;rw[aL,nN];rfl
   rw[aP e,fI s e];exact h.nd s hs
  n0:=λs hs=>by rw[aP zO];exact h.n0 s hs
  nn:=λs q hs hq PX=>by
   by_cases e:s=r
   ·subst e;rw[nN]at hq;cases hq;cases PX
   rw[fI s e]at hq;exact h.nn s q hs hq PX
  SG:=by rw[xa9];exact⟨h.SG,by simp,λa ha c hc=>by simp at hc;subst hc;intro e;subst e;exact hnf ha⟩
  lz:=λs=>by
   rw[xaq,xaG];by_cases e:s=r
   ·subst e;rw[nN];simp
   rw[fI s e,<-h.lz];simp[e]
  used:=by simp;omega}
end
theorem mK(l:List oa)(r:Nat)(p:oa):(l.map oa.row).set r p.row=(l.set r p).map oa.row:=by rw[xc5]
theorem RY{pa cap used:Nat}{N:dU}{C:Hp}{d:Nd}(h:gZ pa cap used N C)(hd:NOk N d)(hroom:used<cap):
  Fc zQ 250 #[ptr pa,.agg (bH d).toArray] C (λv C'=>∃r,v=.tuple #[u32 r,iv 0]/\2<=r/\r<cap/\N r=none/\gZ pa cap (used+1) (up N r (some d)) C'):=by
 have h0:=h;obtain⟨vl,vf,l,fr,Cl,Cf,rfl,hl,hf,ho⟩:=h;have hcap:=ho.cap;have IQ:=ho.used;refine aK λg=>F1 λb1 _=>?_;refine ae.aG (Br.no (ax.q ?_));refine aa.eq (yE h0 hd) (ae.ic (Br.F (Nil.ptr ?_)));refine af.mk (Ld.mk zM rfl ?_);refine hf.bE ?_;rw[xax];refine ae.gW (b:=0) (Br.dec (λhp=>?_) (λhp=>?_))
 ·obtain⟨fr',r,rfl⟩:∃fr' r,fr=fr'++[r]:=⟨fr.dropLast,fr.getLast (by intro e;simp[e]at hp),(xeh _).symm⟩;simp only[xaf,xak,xa3]at hp IQ⊢;obtain⟨g1,g2,g3,hok⟩:=ho.reuse (r:=r) zI (fr':=fr') (by exact List.perm_append_singleton _ _) d;apply Nil.ptr;refine af.mk (Ld.mk zM rfl ?_);refine ae.cc (a:=fr'.length+1) (b:=1) ?_;rw[xb1];refine hf.ld (i:=fr'.length) (x:=(r:Int)) zI (λ_ h=>by exact .tail _ (.tail _ (xaa _ h))) (Nil.ptr ?_);refine af.mk (Ld.mk zM rfl ?_);refine ae.cc (a:=fr'.length+1) (b:=1) ?_;rw[xb1];refine hf.cut (i:=fr'.length) zI λv' Nz=>?_;have Qf:aR 80 .u32 v' (fr'.map (Nat.cast:Nat->Int)) Cf:=by
   rw[xaB,xeC zI]at Nz;exact Nz
  have hone:v'.oneCell'=true:=by obtain⟨a,c,e⟩:=aM.len Qf;rw[e];rfl
  refine Nil.ptr (af.mk (St.one (by exact .tail (.head _)) hone zI rfl ?_));refine DR.self (Nil.ptr (Ld.f ?_));refine ax.q ?_;refine Build.mk (cs:=(oa.mk (d.v:Int) d.lo d.hi true 0).row) zK (hl.OW (A:=[_,_]) (B:=Cf) (i:=r) (by rw[xax];have:=(ho.lz r).1 zI;obtain⟨p,hp,_⟩:=this;exact(xah.1 hp).1) rfl (row_one _) λC' hl'=>?_);rw[mK]at hl';simp only[xaS,xa6];refine Nil.ptr (Ld.f ?_);refine ae.inc (Nil.ptr (af.mk (St.one (by exact .tail (.head _)) rfl zI rfl ?_)));exact aQ.mk .tail ⟨r,rfl,g1,g2,g3,vl,v',_,fr',C',Cf,rfl,hl',Qf,hok⟩
 obtain rfl:fr=[]:=xb5 zO;simp only[xa3]at IQ;obtain⟨g1,g3,hok⟩:=ho.grow zO d;apply Nil.ptr;refine af.mk (Ld.mk zM rfl ?_);refine hl.bE ?_;rw[xax];apply Nil.ptr;refine af.mk (Ld.mk zM rfl ?_);refine ae.kM (Br.F (DR.of (R:=(b1,.cells (List.toArray (bH d)) 201 zZ)::(pa,.cells #[iv (cap:Int),vl,vf,iv (used:Int)] 199 zZ)::[]) (.cons (.cons .nil)) (Nil.ptr ?_)));refine af.mk (Ld.mk zM rfl ?_);refine ax.q ?_;refine Build.mk (cs:=(oa.mk (d.v:Int) d.lo d.hi true 0).row) zK (aj.one (z:=.agg #[iv 0,.int .u32 0,.int .u32 0,.bool false,.int .u8 0]) (e:=203) (k:=5) zK zK zK zD rfl λbx=>?_);refine⟨.skip (.cons (.cons .nil)),?_⟩;refine hl.E5 (A:=[_,_,_]) (B:=Cf) (r:=(oa.mk (d.v:Int) d.lo d.hi true 0).row) (by exact .head _) rfl (row_one _) (by exact⟨[iv 0,.int .u32 0,.int .u32 0,.bool false,.int .u8 0],rfl,rfl⟩) zP zP λv' C' hl'=>?_;have mT:aM 203 5 v' ((l++[(⟨(d.v:Int),d.lo,d.hi,true,0⟩:oa)]).map oa.row) C':=by rw[xaB];exact hl'
 simp only[xaS,xa6];refine⟨.skip (.cons (.cons .nil)),?_⟩;have hone:v'.oneCell'=true:=by obtain⟨a,c,e⟩:=mT.len;rw[e];rfl
 refine Nil.ptr (af.mk (St.one (by exact .tail (.tail (.head _))) hone zI rfl ?_));refine Nil.ptr (Ld.f ?_);refine ae.inc (Nil.ptr (af.mk (St.one (by exact .tail (.tail (.head _))) rfl zI rfl ?_)));refine Nil.ptr (Ld.f ?_);refine mT.bE (ae.gD (b:=1) (by simp[aS];omega) zI (aH.q (aQ.mk (.skip .tail) ⟨l.length,by simp[u32],g1,by omega,g3,v',vf,_,[],C',Cf,rfl,mT,hf,hok⟩)))
theorem Vo{pa cap used r:Nat}{N:dU}{C:Hp}{d:Nd}(h:gZ pa cap used N C)(hd:NOk N d)(hr:∃e,N r=some e)(h2:2<=r):
  Fc zQ 187 #[ptr pa,u32 r,.agg (bH d).toArray] C (λv C'=>v=iv 0/\gZ pa cap used (up N r (some d)) C'):=by
 have h0:=h;obtain⟨vl,vf,l,fr,Cl,Cf,rfl,hl,hf,ho⟩:=h;have hx:=cg.2 (.inr hr:live N r);rw[ho.Bv]at hx;obtain⟨p,hg,hx⟩:∃p,l[r]? =some p/\p.tk=true:=by
  cases hg:l[r]? with
  |none=>rw[hg]at hx;simp at hx
  |some p=>rw[hg]at hx;exact⟨p,rfl,hx⟩
 refine aK λg=>GC λb1 _=>?_;refine ae.aG (Br.no (ax.q ?_));refine aa.eq (yE h0 hd) (ae.ic (Br.F (aa.eq (O8 h0 hr h2) (ae.ic (Br.F (DR.self (Nil.ptr ?_)))))));refine af.mk (Ld.mk zM rfl ?_);refine ax.q ?_;refine hl.Tz (A:=[_,_]) (B:=Cf) (r:=p.row) (xs:=bH d) (n:=3) (by rw[xar,hg];rfl) ⟨rfl,by omega⟩ (by intro x hx;simp[bH,u32]at hx;rcases hx with rfl|rfl|rfl<;>rfl) λC' hl'=>?_;have e:(bH d++p.row.drop 3)=(oa.mk (d.v:Int) d.lo d.hi true p.c).row:=by simp[bH,oa.row,hx]
 rw[e,mK]at hl';exact aQ.mk .tail ⟨rfl,vl,vf,_,fr,C',Cf,rfl,hl',hf,ho.yV h2 hg hx d⟩
theorem R5{pa cap used r:Nat}{N:dU}{C:Hp}(h:gZ pa cap used N C)(hr:∃e,N r=some e)(h2:2<=r):
  Fc zQ 164 #[ptr pa,u32 r] C (λv C'=>v=iv 0/\gZ pa cap (used-1) (up N r none) C'):=by
 have h0:=h;obtain⟨vl,vf,l,fr,Cl,Cf,rfl,hl,hf,ho⟩:=h;have hx:=cg.2 (.inr hr:live N r);rw[ho.Bv]at hx;obtain⟨p,hg,hx⟩:∃p,l[r]? =some p/\p.tk=true:=by
  cases hg:l[r]? with
  |none=>rw[hg]at hx;simp at hx
  |some p=>rw[hg]at hx;exact⟨p,rfl,hx⟩
 obtain⟨hok,hu0⟩:=ho.free h2 hg hx;have hcap:=ho.cap;have IQ:=ho.used;refine aK λg=>GP (ae.aG (Br.no (aa.eq (O8 h0 hr h2) (ae.ic (Br.F (Nil.ptr ?_))))));refine af.mk (Ld.mk zM rfl ?_);refine Build.mk (cs:=(oa.mk 0 0 0 false 0).row) zK (hl.OW (A:=[_]) (B:=Cf) (i:=r) (by rw[xax];exact(xah.1 hg).1) rfl (row_one _) λC' hl'=>?_);rw[mK]at hl';simp only[xaS,xa6];refine Nil.ptr (Ld.f ?_);refine aj.int (e:=80) zK zK zK λbx=>?_;have e1:(bx,Obj.cells (aA .u32 [(r:Int)]) 80 zZ)::(pa,Obj.cells #[iv (cap:Int),vl,vf,iv (used:Int)] 199 zZ)::(C'++Cf)=(bx,Obj.cells (aA .u32 [(r:Int)]) 80 zZ)::(pa,Obj.cells #[iv (cap:Int),vl,vf,iv (used:Int)] 199 zZ)::C'++(Cf++[]):=by simp
 rw[e1];refine hf.app (x:=(r:Int)) (B:=[]) (by exact .head _) zP zP λv' Cf' Nz=>?_;have Qf:aR 80 .u32 v' ((fr++[r]).map (Nat.cast:Nat->Int)) Cf':=by rw[xaB];exact Nz
 have hone:v'.oneCell'=true:=by obtain⟨a,c,e⟩:=aM.len Qf;rw[e];rfl
 simp only[xaS,xaH];refine Nil.ptr (af.mk (St.one (by exact .tail (.head _)) hone zI rfl ?_));refine Nil.ptr (Ld.f ?_);refine ae.cc (b:=1) (Nil.ptr (af.mk (St.one (by exact .tail (.head _)) rfl zI rfl ?_)));exact aQ.mk .tail ⟨rfl,vl,v',_,_,C',Cf',rfl,hl',Qf,hok⟩
def nK(d:Nd):zV:=.agg (bH d).toArray
abbrev SW(v:zV)(r:Nat):Prop:=v=u32 r
theorem IC:Tryz.prog.underlying 201=some (.struct (Tryz.prog.fieldsOf 201)):=by kernel_rfl
theorem pR(a b:Nd):Dc zQ 201 (nK a) (nK b) (decide (a=b)):=by
 refine Dc.flat (fs:=#[⟨"Var",3,0,false, "", "",0⟩,⟨"Lo",80,1,false, "", "",8⟩,⟨"Hi",80,2,false, "", "",12⟩]) zK zK ?_ ?_
 ·intro f hf;simp only[xag,xaw,xaZ]at hf;rcases hf with rfl|rfl|rfl
  ·exact⟨by decide,_,_,rfl,rfl,.inl ⟨.i64,_,_,by kernel_rfl,rfl,rfl⟩⟩
  ·exact⟨by decide,_,_,rfl,rfl,.inl ⟨.u32,_,_,by kernel_rfl,rfl,rfl⟩⟩
  exact⟨by decide,_,_,rfl,rfl,.inl ⟨.u32,_,_,by kernel_rfl,rfl,rfl⟩⟩
 obtain⟨a1,a2,a3⟩:=a;obtain⟨b1,b2,b3⟩:=b;simp[bH,u32];omega
theorem kZ(a:Nd):mj zQ 201 (nK a):=by
 refine mj.flat (fs:=#[⟨"Var",3,0,false, "", "",0⟩,⟨"Lo",80,1,false, "", "",8⟩,⟨"Hi",80,2,false, "", "",12⟩]) zK ?_;intro f hf;simp only[xag,xaw,xaZ]at hf;rcases hf with rfl|rfl|rfl
 ·exact⟨by decide,_,rfl,.inl ⟨.i64,_,_,by kernel_rfl,rfl,rfl⟩⟩
 ·exact⟨by decide,_,rfl,.inl ⟨.u32,_,_,by kernel_rfl,rfl,rfl⟩⟩
 exact⟨by decide,_,rfl,.inl ⟨.u32,_,_,by kernel_rfl,rfl,rfl⟩⟩
theorem IF(a:Nd):Instr.sameBits 10000 (nK a) (nK a)=true:=oe 9998 (by intro x hx;simp[bH,u32]at hx;rcases hx with rfl|rfl|rfl<;>exact .inl ⟨_,_,rfl⟩)
structure UM where
 b:Nat
 es:Array MapEntry
 ck:Nat
 l:List (Nd×Nat)
def Kw(ms:List UM):Hp:=ms.map λm=>(m.b,.map m.es m.ck)
structure SK(ms:List UM)(n:Nat)(T:Nd->Option Nat):Prop where
 len:ms.length=n
 dL:∀(v:Nat) m,ms[v]? =some m->aT nK SW m.es m.ck m.l
 var:∀(v:Nat) m,ms[v]? =some m->∀x∈m.l,x.1.v=v
 T:∀d,T d=(ms[d.v]?).bind λm=>bO m.l d
def nk(pt n:Nat)(T:Nd->Option Nat)(C:Hp):Prop:=
 ∃vs Cs ms,C=(pt,.cells #[vs] 158 zZ)::(Cs++Kw ms)/\aM 159 1 vs (ms.map λm=>[.map (some m.b)]) Cs/\SK ms n T
theorem pT{ms:List UM}{v:Nat}{m:UM}(h:ms[v]? =some m):(m.b,Obj.map m.es m.ck)∈Kw ms:=xam.2 ⟨m,xay h,rfl⟩
theorem zk{es':Array MapEntry}{cC:Nat}{l':List (Nd×Nat)}:∀{ms:List UM} {v:Nat} {m:UM},ms[v]? =some m->cu m.b (.map m.es m.ck) (.map es' cC) (Kw ms) (Kw (ms.set v ⟨m.b,es',cC,l'⟩))
 | [],v,m,h=>by simp at h
 |x::ms,0,m,h=>by simp at h;subst h;exact .head _
 |x::ms,v+1,m,h=>by simp at h;exact .tail (zk h)
theorem xH{ms:List UM}{v:Nat}{m m':UM}(h:ms[v]? =some m)(hb:m'.b=m.b):(ms.set v m').map (λm=>[Value.map (some m.b)])=ms.map λm=>[Value.map (some m.b)]:=by
 rw[xc5];apply xbq;intro j;rw[xbH];split
 ·rename_i e;subst e;have hlt:=(xah.1 h).1;have e2:ms[v]=m:=by rw[xab hlt]at h;exact xbF h
  simp[hb,hlt,e2]
 rfl
theorem SK.add{ms:List UM}{n:Nat}{T:Nd->Option Nat}(h:SK ms n T){d:Nd}{m:UM}(hm:ms[d.v]? =some m){es':Array MapEntry}{cC r:Nat}(he:aT nK SW es' cC (cY m.l d r)):SK (ms.set d.v ⟨m.b,es',cC,cY m.l d r⟩) n (pB T d (some r)) where
 len:=by rw[xbW];exact h.len
 dL:=λv m' hm'=>by
  rw[xbH]at hm';split at hm'
  ·split at hm'
   ·cases hm';exact he
   cases hm'
  exact h.dL v m' hm'
 var:=λv m' hm' x hx=>by
  rw[xbH]at hm';split at hm'
  ·rename_i e;split at hm'
   ·cases hm';subst e;simp only[cY]at hx;split at hx
    ·obtain⟨y,hy,rfl⟩:=xam.1 hx;split
     ·rfl
     exact h.var _ m hm y hy
    rcases xaq.1 hx with hx|hx
    ·exact h.var _ m hm x hx
    simp at hx;subst hx;rfl
   cases hm'
  exact h.var v m' hm' x hx
 T:=λe=>by
  have hlt:=(xah.1 hm).1;by_cases ee:e=d
  ·subst ee;rw[iR,xbO hlt];simp[cM]
  rw[oC ee,h.T e];by_cases ev:d.v=e.v
  ·rw[<-ev,xbO hlt,hm];simp[cM,ee]
  rw[xbM ev]
theorem SK.del{ms:List UM}{n:Nat}{T:Nd->Option Nat}(h:SK ms n T){d:Nd}{m:UM}(hm:ms[d.v]? =some m){es':Array MapEntry}{cC:Nat}(he:aT nK SW es' cC (wM m.l d)):SK (ms.set d.v ⟨m.b,es',cC,wM m.l d⟩) n (pB T d none) where
 len:=by rw[xbW];exact h.len
 dL:=λv m' hm'=>by
  rw[xbH]at hm';split at hm'
  ·split at hm'
   ·cases hm';exact he
   cases hm'
  exact h.dL v m' hm'
 var:=λv m' hm' x hx=>by
  rw[xbH]at hm';split at hm'
  ·rename_i e;split at hm'
   ·cases hm';subst e;exact h.var _ m hm x (xcS.1 hx|>.1)
   cases hm'
  exact h.var v m' hm' x hx
 T:=λe=>by
  have hlt:=(xah.1 hm).1;by_cases ee:e=d
  ·subst ee;rw[iR,xbO hlt];simp[xG]
  rw[oC ee,h.T e];by_cases ev:d.v=e.v
  ·rw[<-ev,xbO hlt,hm];simp[xG,ee]
  rw[xbM ev]
theorem jW{pt n v:Nat}{T:Nd->Option Nat}{C:Hp}(h:nk pt n T C)(hv:v<n):Rd zQ 209 #[ptr pt,iv (v:Int)] C (· =iv 0):=by
 obtain⟨vs,Cs,ms,rfl,hs,ho⟩:=h;refine aK λg=>Gn (ae.aG (Br.no (ae.lss ?_)));rw[xap (by omega:¬((v:Int)<0))];refine cz.or false (λ_=>?_) rfl λ_=>Br.no (bD.mk (.refl _) rfl);apply Nil.ptr;refine af.mk (Ld.mk zM rfl ?_);refine hs.bE ?_;rw[xax,ho.len];exact ae.kM ⟨rfl,by rw[xap zO]⟩
theorem tC{pt n:Nat}{T:Nd->Option Nat}{C:Hp}{d:Nd}(h:nk pt n T C)(hv:d.v<n):
  Rd zQ 227 #[ptr pt,nK d] C (· =.tuple #[u32 ((T d).getD 0),.bool (T d).isSome]):=by
 have h0:=h;obtain⟨vs,Cs,ms,rfl,hs,ho⟩:=h;obtain⟨m,hm⟩:∃m,ms[d.v]? =some m:=⟨_,xab (by rw[ho.len];exact hv)⟩;refine aK λg=>Gd λb1 _=>?_;refine Ld.f ?_;refine aa.eq (jW h0 hv) (ae.ic (Br.F (Nil.ptr ?_)));refine af.mk (Ld.mk zM rfl ?_);refine Ld.f ?_;refine hs.VS (x:=.map (some m.b)) (by rw[xar,hm];rfl) (λ_ h=>by exact .tail _ (.tail _ (xad _ h))) ?_;refine ax.q ?_;have hmem:(m.b,Obj.map m.es m.ck)∈(b1,Obj.cells (Value.cells (nK d)) 201 zZ)::(pt,.cells #[vs] 158 zZ)::(Cs++Kw ms):=.tail _ (.tail _ (xaa _ (pT hm)));have hT:T d=bO m.l d:=by rw[ho.T,hm];rfl
 rw[hT];cases hg:bO m.l d with
 |some r=>
  refine aT.KY (ke:=nK) (k:=d) pR kZ (ho.dL _ m hm) hmem hg ?_;rintro v rfl;exact Ext.mk rfl (Ext.mk rfl (bD.mk .tail rfl))
 |none=>
  refine aT.xF (ke:=nK) (k:=d) pR kZ (ho.dL _ m hm) hmem hg ?_;exact Ext.mk rfl (Ext.mk rfl (bD.mk .tail rfl))
theorem HZ{pt n r:Nat}{T:Nd->Option Nat}{C:Hp}{d:Nd}(h:nk pt n T C)(hv:d.v<n)(hT:T d=none):
  Fc zQ 188 #[ptr pt,nK d,u32 r] C (λv C'=>v=iv 0/\nk pt n (pB T d (some r)) C'):=by
 have h0:=h;obtain⟨vs,Cs,ms,rfl,hs,ho⟩:=h;obtain⟨m,hm⟩:∃m,ms[d.v]? =some m:=⟨_,xab (by rw[ho.len];exact hv)⟩;have hTm:bO m.l d=none:=by rw[ho.T,hm]at hT;exact hT
 refine aK λg=>GB λb1 _=>?_;refine Ld.f ?_;refine aa.eq (jW h0 hv) (ae.ic (Br.F (Nil.ptr ?_)));refine af.mk (Ld.mk zM rfl ?_);refine Ld.f ?_;refine hs.VS (x:=.map (some m.b)) (by rw[xar,hm];rfl) (λ_ h=>by exact .tail _ (.tail _ (xad _ h))) ?_;refine ax.q ?_;have hmem:(m.b,Obj.map m.es m.ck)∈(b1,Obj.cells (Value.cells (nK d)) 201 zZ)::(pt,.cells #[vs] 158 zZ)::(Cs++Kw ms):=.tail _ (.tail _ (xaa _ (pT hm)));refine aT.xF (ke:=nK) (k:=d) pR kZ (ho.dL _ m hm) hmem hTm ?_;refine Ext.mk rfl (Ext.mk rfl (Br.no (DR.self (Nil.ptr ?_))));refine af.mk (Ld.mk zM rfl ?_);refine Ld.f ?_;refine hs.VS (x:=.map (some m.b)) (by rw[xar,hm];rfl) (λ_ h=>by exact .tail _ (.tail _ (xad _ h))) ?_;refine ax.q ?_;refine aT.NZ (ke:=nK) (k:=d) (vr:=SW) (x:=r) pR kZ IF (ho.dL _ m hm) rfl λes' cC he=>⟨_,.tail (.tail ((zk (l':=cY m.l d r) hm).aO Cs)),?_⟩;exact aQ.mk .tail ⟨rfl,vs,Cs,_,rfl,by rw[xH hm];exact hs;rfl,ho.add hm he⟩
theorem xA{pt n r:Nat}{T:Nd->Option Nat}{C:Hp}{d:Nd}(h:nk pt n T C)(hv:d.v<n)(hT:T d=some r):
  Fc zQ 163 #[ptr pt,nK d] C (λv C'=>v=iv 0/\nk pt n (pB T d none) C'):=by
 have h0:=h;obtain⟨vs,Cs,ms,rfl,hs,ho⟩:=h;obtain⟨m,hm⟩:∃m,ms[d.v]? =some m:=⟨_,xab (by rw[ho.len];exact hv)⟩;have hTm:bO m.l d=some r:=by rw[ho.T,hm]at hT;exact hT
 refine aK λg=>GQ λb1 _=>?_;refine Ld.f ?_;refine aa.eq (jW h0 hv) (ae.ic (Br.F (Nil.ptr ?_)));refine af.mk (Ld.mk zM rfl ?_);refine Ld.f ?_;refine hs.VS (x:=.map (some m.b)) (by rw[xar,hm];rfl) (λ_ h=>by exact .tail _ (.tail _ (xad _ h))) ?_;refine ax.q ?_;have hmem:(m.b,Obj.map m.es m.ck)∈(b1,Obj.cells (Value.cells (nK d)) 201 zZ)::(pt,.cells #[vs] 158 zZ)::(Cs++Kw ms):=.tail _ (.tail _ (xaa _ (pT hm)));refine aT.KY (ke:=nK) (k:=d) pR kZ (ho.dL _ m hm) hmem hTm ?_;rintro v rfl;refine Ext.mk rfl (Ext.mk rfl (Un.not (Br.no (DR.of (R:=(b1,Obj.cells (Value.cells (nK d)) 201 zZ)::(pt,.cells #[vs] 158 zZ)::Cs) (.cons (.cons .left)) (Nil.ptr ?_)))));refine af.mk (Ld.mk zM rfl ?_);refine Ld.f ?_;refine hs.VS (x:=.map (some m.b)) (by rw[xar,hm];rfl) (λ_ h=>by exact .tail _ (.tail _ h)) ?_;refine ax.q ?_;refine aT.af3 (ke:=nK) (k:=d) pR kZ (ho.dL _ m hm) hmem λes' he=>⟨_,.tail (.tail ((zk (l':=wM m.l d) hm).aO Cs)),?_⟩;exact⟨.cons (.cons .left),aQ.mk .tail ⟨rfl,vs,Cs,_,rfl,by rw[xH hm];exact hs;rfl,ho.del hm he⟩⟩
theorem SK.start(n:Nat)(bs:zL)(h:bs.length=n):SK (bs.map λb=>⟨b,#[],0,[]⟩) n (λ_=>none) where
 len:=by simpa using h
 dL:=λv m hm=>by
  rw[xar]at hm;obtain⟨b,_,rfl⟩:=xc2.1 hm;exact aT.empty
 var:=λv m hm x hx=>by
  rw[xar]at hm;obtain⟨b,_,rfl⟩:=xc2.1 hm;simp at hx
 T:=λd=>by
  rw[xar];cases bs[d.v]? <;>simp[bO]
theorem Ca(x:zV):∀n:Nat,(List.replicate n [x]).flatten=List.replicate n x
 |0=>rfl
 |n+1=>by rw[xdn,xcy,xdn,Ca x n];rfl
theorem S7{n:Nat}(hn:1<=n/\n<=64):Fc zQ 43 #[iv (n:Int)] [] (λv H=>∃pt,v=.tuple #[ptr pt,iv 0]/\nk pt n (λ_=>none) H):=by
 refine aK λg=>MK (ae.lss ?_);rw[xap zO];refine cz.or false (λ_=>ae.gtr ⟨rfl,by rw[xap zO]⟩) rfl λ_=>Br.no ?_;refine⟨.i64,.i64,n,n,rfl,rfl,xal _,by omega,by omega,?_⟩;intro bs _;refine Build.mk (cs:=[.slice (some ⟨bs,0,none⟩) n n]) zK λpt _=>?_;have hz:madeCells (Value.cells (.map none)) (n*1)=rows ((List.replicate n [Value.map none])++[]):=by
  apply xc1;apply xbq;intro i;have:=Ca (.map none) n;simp only[madeCells,rows,Value.cells,xd0,Array.toList_range,xar,xdG,xcc,xaH];rw[this,xdT];by_cases hi:i<n
  ·simp[hi,xeG]
  simp[hi]
 rw[hz];have hs0:aM 159 1 (.slice (some ⟨bs,0,none⟩) n n) (List.replicate n [Value.map none]) [(bs,.cells (rows ((List.replicate n [Value.map none])++[])) 159 zZ)]:=
  aM.mk' (λr hr=>by rw[xaH]at hr;rw[xbQ hr];rfl) zI zI
 refine⟨λvs H=>∃(j:Nat) (bl:zL) (Cs:Hp),vs=[iv (j:Int)]/\bl.length=j/\j<=n/\H=(pt,.cells #[.slice (some ⟨bs,0,none⟩) n n] 158 zZ)::(Cs++Kw (bl.map λb=>⟨b,#[],0,[]⟩))/\
  aM 159 1 (.slice (some ⟨bs,0,none⟩) n n) ((bl.map λb=>[Value.map (some b)])++List.replicate (n-j) [Value.map none]) Cs,λvs _=>n-bA vs 0,JE.mk ⟨0,[],_,rfl,rfl,by omega,by simp only[Kw,xcL,xaH];rfl,by simpa using hs0⟩,?_⟩
 rintro w H ⟨j,bl,Cs,hw,Dv,hj,rfl,hs⟩ gs;simp only[xaz,xbb]at hw;subst hw;refine ae.cX (Br.dec (λhlt=>?_) (λhlt=>?_))
 ·refine Nil.ptr (Ld.f ?_);intro b _;have hlen:((bl.map λb=>[Value.map (some b)])++List.replicate (n-j) [Value.map none]).length=n:=by simp;omega
  refine aM.adY (A:=[_,_]) (B:=Kw (bl.map λb=>⟨b,#[],0,[]⟩)) hs (i:=j) (y:=.map none) zO ?_ rfl λC' hs'=>?_
  ·rw[xbL (by simp[Dv])];simp only[xax,Dv,xcC];rw[xdT,xae zO]
  refine ae.inc ?_;have e:((bl.map λb=>[Value.map (some b)])++List.replicate (n-j) [Value.map none]).set j [Value.map (some b)]=((bl++[b]).map λb=>[Value.map (some b)])++List.replicate (n-(j+1)) [Value.map none]:=by
   rw[xcG _ _ (by simp[Dv])];simp only[xax,Dv,xcC];rw[show n-j=(n-(j+1))+1 by omega,xdn,xcE,xaB];simp
  rw[e]at hs';refine az.of ?_ ⟨j+1,bl++[b],C',rfl,by simp[Dv],by omega,rfl,hs'⟩ (by show n-(((j+1:Nat):Int).toNat)<n-(((j:Nat):Int).toNat);omega);refine aF.perm ?_;simp only[xaS,xa6,Kw,xaB,xbR];refine(List.Perm.swap _ _ _).trans (.cons _ ?_);rw[<-xai];exact(List.perm_append_singleton _ _).symm
 obtain rfl:j=n:=by omega
 refine aQ.here ⟨pt,rfl,_,Cs,_,rfl,?_,SK.start _ bl Dv⟩;rw[xcC]at hs;simpa[xbR,Function.comp_def]using hs
theorem Vr{n:Nat}(hn:2<=n/\n<=1048576):Fc zQ 92 #[iv (n:Int)] [] (λv H=>∃pa,v=.tuple #[ptr pa,iv 0]/\gZ pa n 2 (λ_=>none) H):=by
 refine aK λg=>Mc (ae.lss ?_);rw[xap zO];refine cz.or false (λ_=>ae.gtr ⟨rfl,by rw[xap zO]⟩) rfl λ_=>Br.no ?_;refine Build.mk (cs:=[iv (n:Int),.slice none 0 0,.slice none 0 0,iv 2]) zK λpa _=>?_;refine⟨λvs H=>∃(j:Nat) (vl:zV) (Cl:Hp),vs=[u32 j]/\j<=2/\H=(pa,.cells #[iv (n:Int),vl,.slice none 0 0,iv 2] 199 zZ)::Cl/\
  aM 203 5 vl ((List.range j).map λr=>(oa.mk (-1) r r true 255).row) Cl,λvs _=>2-bA vs 0,JE.mk ⟨0,_,[],rfl,by omega,rfl,aM.nil _ _⟩,?_⟩
 rintro w H ⟨j,vl,Cl,hw,hj,rfl,hs⟩ gs;simp only[xaz,xbb]at hw;subst hw;refine ae.cX (b:=2) (Br.dec (λhlt=>?_) (λhlt=>?_))
 ·refine Nil.ptr (Ld.f ?_);refine Build.mk (cs:=[iv (-1),u32 j,u32 j]) zK (Build.mk (cs:=(oa.mk (-1) j j true 255).row) zK (aj.one (z:=.agg #[iv 0,.int .u32 0,.int .u32 0,.bool false,.int .u8 0]) (e:=203) (k:=5) zK zK zK zD rfl λbx=>?_));have e1:∀x y:Nat×Obj,x::y::Cl=[x,y]++(Cl++[]):=λx y=>by simp
  rw[e1];refine hs.E5 (A:=[_,_]) (B:=[]) (r:=(oa.mk (-1) j j true 255).row) (by exact .head _) rfl (row_one _) (by exact⟨[iv 0,.int .u32 0,.int .u32 0,.bool false,.int .u8 0],rfl,rfl⟩) zP zP λv' C' hs'=>?_;simp only[xaS,xa6,xaH];have hone:v'.oneCell'=true:=by obtain⟨a,c,e⟩:=hs'.len;rw[e];rfl
  refine Nil.ptr (af.mk (St.one (by exact .tail (.head _)) hone zI rfl ?_));refine ae.inc (az.of .tail ⟨j+1,v',C',rfl,by omega,rfl,?_⟩ (by show 2-(((j+1:Nat):Int).toNat)<2-(((j:Nat):Int).toNat);omega));rw[xcR,xaB];exact hs'
 obtain rfl:j=2:=by omega
 refine aQ.here ⟨pa,rfl,vl,_,[⟨-1,0,0,true,255⟩,⟨-1,1,1,true,255⟩],[],Cl,[],by rw[xaH];rfl,hs,aR.nil,?_⟩;exact {
  cap:=by simp;omega
  two:=by simp
  const:=λr hr=>by
   have:r=0\/r=1:=by omega
   rcases this with rfl|rfl
   ·exact⟨_,rfl,rfl,rfl,rfl,rfl⟩
   exact⟨_,rfl,rfl,rfl,rfl,rfl⟩
  nd:=λr hr=>by rw[xaJ zP];rfl
  n0:=λ_ _=>rfl
  nn:=λr p hr hp _=>by rw[xaJ zP]at hp;cases hp
  SG:=by simp
  lz:=λr=>by
   simp only[xaw,false_iff,not_exists,not_and];intro p hp;have hlt:=(xah.1 hp).1;simp at hlt;have:r=0\/r=1:=by omega
   rcases this with rfl|rfl<;>(simp at hp;subst hp;simp)
  used:=rfl}
structure wD where
 pa:Nat
 pt:Nat
 vu:zV
 vh:zV
 vo:zV
 vl:zV
 vt:zV
 CA:Hp
 CT:Hp
 CU:Hp
 CH:Hp
 CO:Hp
 CL:Hp
 CR:Hp
def wD.cells(b:wD)(n:Nat):Array zV:=#[ptr b.pa,ptr b.pt,b.vu,b.vh,iv (n:Int),b.vo,b.vl,b.vt]
def wD.hp(b:wD)(kp n:Nat):Hp:=(kp,.cells (b.cells n) 122 zZ)::(b.CA++(b.CT++(b.CU++(b.CH++(b.CO++(b.CL++b.CR))))))
structure YK(b:wD)(K:Kd)(ord ag tr:zL):Prop where
 ar:gZ b.pa K.cap K.used K.N b.CA
 ut:nk b.pt K.n K.T b.CT
 us:aR 21 .i32 b.vu (iw K.us) b.CU
 ho:aR 21 .i32 b.vh (iw K.ho) b.CH
 od:aR 3 .i64 b.vo (iw ord) b.CO
 lv:aR 3 .i64 b.vl (iw ag) b.CL
 tr:aR 3 .i64 b.vt (iw tr) b.CR
 ul:K.us.length=K.ho.length/\K.us.length<=1048576
 sU:K.n<=64
 ol:ord.length=K.n/\ag.length=K.n
def cQ(kp:Nat)(K:Kd)(ord ag tr:zL)(C:Hp):Prop:=∃b:wD,C=b.hp kp K.n/\YK b K ord ag tr
section
variable {kp:Nat} {K:Kd} {ord ag tr:zL} {C:Hp}
theorem cQ.cap(h:cQ kp K ord ag tr C):K.cap<=1048576:=by
 obtain⟨b,rfl,hb⟩:=h;exact(hb.ar.lt (r:=0) (.inl zD)).2
theorem cQ.lt(h:cQ kp K ord ag tr C){r:Nat}(hr:live K.N r):r<1048576:=by
 obtain⟨b,rfl,hb⟩:=h;have:=hb.ar.lt hr;omega
theorem bJ(N:dU)(r:Nat):(got N r).length=3/\∀x∈got N r,x.oneCell'=true:=by
 unfold got;split
 ·exact⟨rfl,by intro x hx;simp[u32]at hx;rcases hx with rfl|rfl|rfl<;>rfl⟩
 split
 ·exact⟨rfl,by intro x hx;simp[bH,u32]at hx;rcases hx with rfl|rfl|rfl<;>rfl⟩
 exact⟨rfl,by intro x hx;simp[u32]at hx;rcases hx with rfl|rfl|rfl<;>rfl⟩
theorem mQ(h:cQ kp K ord ag tr C){r:Nat}(hr:r<4294967296):Rd zQ 165 #[ptr kp,u32 r] C (· =.bool (fQ K.N r)):=by
 obtain⟨b,rfl,hb⟩:=h;refine aK λg=>GO (Nil.ptr (Ld.f ?_));refine aa.eq (QJ hb.ar hr) (Ext.two λb8 _=>(St.whole (r:=got K.N r) (by exact .head _) rfl (bJ _ _).1 (bJ _ _).2 ?_));refine ae.lT (bD.mk .tail ?_);cases fQ K.N r<;>rfl
theorem mP(h:cQ kp K ord ag tr C){r:Nat}(hr:r<4294967296):Rd zQ 162 #[ptr kp,u32 r] C (· =.agg (got K.N r).toArray):=by
 obtain⟨b,rfl,hb⟩:=h;refine aK λg=>GR λb1 _=>?_;refine Nil.ptr (Ld.f ?_);refine aa.eq (QJ hb.ar hr) (Ext.two λyC _=>(St.whole (r:=got K.N r) (by exact .head _) rfl (bJ _ _).1 (bJ _ _).2 ?_));refine ax.whole (r:=got K.N r) (by exact .head _) (bJ _ _).1 ?_;refine St.whole (r:=got K.N r) (by exact .tail (.head _)) rfl (bJ _ _).1 (bJ _ _).2 ?_;refine ax.whole (r:=got K.N r) (by exact .tail _ (.head _)) (bJ _ _).1 ?_;exact bD.mk (.skip .tail) rfl
theorem Bz(h:cQ kp K ord ag tr C){m:Nat}(hm:m<=1099511627776)(hu:K.used<=1048576):Rd zQ 183 #[ptr kp,iv (m:Int)] C (· =.bool (decide (K.used+m<=K.cap))):=by
 obtain⟨b,rfl,hb⟩:=h;refine aK λg=>GG (DR.self (Nil.ptr (Ld.f ?_)));refine Nil.ptr (Ld.f ?_);refine aa.eq (CJ hb.ar) (⟨.refl _,?_⟩);refine ae.gL (aa.eq (E6 hb.ar) (⟨.refl _,?_⟩));exact ae.xO (bD.mk (.refl _) rfl)
def rX(K:Kd)(r:Nat):zL:=if r<2 then K.us else K.us.set r (K.use r+1)
theorem iB(r:Nat):(rX K r).length=K.us.length:=by unfold rX;split<;>simp
theorem my{r:Nat}(h2:2<=r)(hr:r<K.us.length):(rX K r).getD r 0=K.use r+1:=by
 unfold rX;rw[xac zO];simp[List.getD,hr]
theorem tM{r s:Nat}(h:s≠r):(rX K r).getD s 0=K.use s:=by
 unfold rX Kd.use;split
 ·rfl
 simp[List.getD,xbM (xbn h)]
theorem DI(h:cQ kp K ord ag tr C){r:Nat}(hr:r<2\/r<K.us.length)(hb:K.use r+1<2147483648):
  Fc zQ 186 #[ptr kp,u32 r] C (λv C'=>v=.tuple #[]/\cQ kp {K with us:=rX K r} ord ag tr C'):=by
 obtain⟨b,rfl,hO⟩:=h;refine aK λg=>GD (ae.gW (b:=1) (Br.dec (λh1=>?_) (λh1=>?_)))
 ·have hr':r<K.us.length:=by omega
  refine Nil.ptr (Ld.f ?_);refine hO.us.ld (x:=((K.use r:Nat):Int)) (bX hr') (br.sub (.cons (.app (.app .left)))) (ae.inc (hO.us.mF (.cons (.app (.app .left))) (by simpa using hr') λC' ho=>?_));refine aQ.here ⟨rfl,{b with CU:=C'},rfl,?_⟩;have e:rX K r=K.us.set r (K.use r+1):=by unfold rX;rw[xac zO]
  exact {hO with us:=by rw[gj]at ho;rw[e];exact ho,ul:=by simp only[e,xbW];exact hO.ul}
 refine aQ.here ⟨rfl,b,rfl,?_⟩;have e:rX K r=K.us:=by unfold rX;rw[xae zO]
 rw[e];exact hO
end
section
variable {kp:Nat} {K:Kd} {ord ag tr:zL} {C:Hp}
theorem gX{l:zL}{r s x:Nat}(hr:r<l.length):(l.set r x).getD s 0=if s=r then x else l.getD s 0:=by
 simp only[List.getD,xbH];by_cases e:r=s
 ·subst e;simp[hr]
 rw[xac e,xac (xbn e)]
theorem uX(l:zL)(s:Nat):(l++[0]).getD s 0=l.getD s 0:=by
 simp only[List.getD,xd7];split
 ·rfl
 rename_i h;rw[xaJ (by omega:l.length<=s)];cases hs:s-l.length<;>simp[hs]
def NY:Hp->Nat
 |_::(_,Obj.cells c _ _)::_=>(match c[2]? with|some (Value.slice _ n _)=>n|_=>0)
 |_=>0
theorem AL{b:wD}{x:Nat×Obj}{n m:Nat}{a:Option Addr}{cp:Nat}(h:b.vu=.slice a m cp):NY (x::b.hp kp n)=m:=by simp[NY,wD.hp,wD.cells,h]
theorem Ig(h:cQ kp K ord ag tr C){d:Nd}(hd:NOk K.N d)(hv:d.v<K.n)(hT:K.T d=none)(hroom:K.used<K.cap)(hlo:d.lo<2\/d.lo<K.us.length)(hhi:d.hi<2\/d.hi<K.us.length)
 (hb:∀s,K.use s+2<2147483648):
  Fc zQ 200 #[ptr kp,nK d] C (λv C'=>∃r di cq,v=u32 r/\K.N r=none/\2<=r/\r<K.cap/\di.length=cq.length/\r<di.length/\K.us.length<=di.length/\di.getD r 0=0/\
   (∀s,2<=s->s≠r->di.getD s 0=K.use s+e1 (some d) s)/\(∀s,s<2->di.getD s 0=K.use s)/\cq.getD r 0=0/\(∀s,s≠r->cq.getD s 0=K.hold s)/\
   cQ kp {K with N:=up K.N r (some d),T:=pB K.T d (some r),used:=K.used+1,us:=di,ho:=cq} ord ag tr C'):=by
 have hcap:=h.cap;obtain⟨b,rfl,hO⟩:=h;have PS:=hO.ul;refine aK λg=>Gu λb1 _=>?_;refine DR.of (R:=(b1,.cells (Value.cells (nK d)) 201 zZ)::(kp,.cells (b.cells K.n) 122 zZ)::[]) (.cons (.cons .nil)) (Nil.ptr (Ld.f ?_));refine ax.q ?_;refine aa.fq (RY hO.ar hd hroom) ?_;rintro v CA' ⟨r,rfl,h2,hrc,hN,har⟩;refine⟨.cons (.cons .nil),Ext.mk rfl (Ext.mk rfl ?_)⟩;refine⟨λ_ H=>∃(b':wD) (di cq:zL),H=(b1,.cells (Value.cells (nK d)) 201 zZ)::b'.hp kp K.n/\YK b' {K with N:=up K.N r (some d),used:=K.used+1,us:=di,ho:=cq} ord ag tr/\
   K.us.length<=di.length/\(∀s,di.getD s 0=K.use s)/\∀s,cq.getD s 0=K.hold s,
  λ_ H=>r+1-NY H,JE.mk ⟨{b with CA:=CA'},K.us,K.ho,rfl,{hO with ar:=har,ul:=PS},xal _,λ_=>rfl,λ_=>rfl⟩,?_⟩
 rintro H ⟨b',di,cq,rfl,z6,hle,hu,hh⟩ gs;have aaE:=z6.ul;simp only at aaE;refine aH.q (Nil.ptr (Ld.f ?_));refine z6.us.bE ?_;rw[an];refine ae.kM (Br.dec (λhge=>?_) (λhge=>?_))
 ·have hge:di.length<=r:=hge;refine Nil.ptr (Ld.f ?_);refine aj.int (e:=21) zK zK zK λbx=>?_;refine z6.us.mi (.cons (.cons (.cons (.app (.app .left))))) (by exact .head _) zP zP λvu' SM sW=>?_;refine Nil.ptr (af.mk (St.one (by exact .tail (.tail (.head _))) sW.one (by simp[wD.cells]) rfl ?_));refine Nil.ptr (Ld.f ?_);refine aj.int (e:=21) zK zK zK λby'=>?_;refine z6.ho.mi (.cons (.cons (.cons (.cons (.app (.app (.app .left))))))) (by exact .head _) zP zP λvh' VA pD=>?_;refine Nil.ptr (af.mk (St.one (by exact .tail (.tail (.tail (.head _)))) pD.one (by simp[wD.cells]) rfl ?_));have e0:∀l:zL,iw l++[0]=iw (l++[0]):=λl=>by rw[cj];rfl
  rw[e0]at sW pD;refine az.of (.skip (.skip (.refl _))) ⟨{b' with vu:=vu',vh:=vh',CU:=SM,CH:=VA},di++[0],cq++[0],rfl,{z6 with us:=sW,ho:=pD,ul:=by simp at aaE⊢;omega},by simp;omega,λs=>by rw[uX,hu],λs=>by rw[uX,hh]⟩ ?_;obtain⟨a1,c1,e1⟩:=aM.len z6.us;obtain⟨a2,c2,e2⟩:=aM.len sW;have f1:=AL (b:=b') (x:=(b1,.cells (Value.cells (nK d)) 201 zZ)) (kp:=kp) (n:=K.n) e1;have f2:=AL (b:={b' with vu:=vu',vh:=vh',CU:=SM,CH:=VA}) (x:=(b1,.cells (Value.cells (nK d)) 201 zZ)) (kp:=kp) (n:=K.n) e2;rw[f1];refine xaE (Nat.le_of_eq (xca (λz=>r+1-z) f2)) ?_;simp;omega
 have hge:¬di.length<=r:=hge;have hr1:r<di.length:=by omega
 have rA:r<cq.length:=by omega
 refine DR.of (R:=(kp,.cells (b'.cells K.n) 122 zZ)::[]) (.skip (.cons .nil)) (Nil.ptr (Ld.f ?_));refine Nil.ptr (Ld.f ?_);refine z6.us.mF (x:=0) (.cons (.cons (.app (.app .left)))) (by simpa using hr1) λSM sW=>?_;refine z6.ho.mF (x:=0) (.cons (.cons (.app (.app (.app .left))))) (by simpa using rA) λVA pD=>?_;have e0:∀l:zL,(iw l).set r 0=iw (l.set r 0):=λl=>gj l r 0;rw[e0]at sW pD;have lor:d.lo≠r:=fy hd.lo h2 hN;have hir:d.hi≠r:=fy hd.hi h2 hN;refine Ld.f ?_;have u0:∀s,(di.set r 0).getD s 0=if s=r then 0 else K.use s:=λs=>by rw[gX hr1];split;rfl;exact hu s
 have h0:∀s,(cq.set r 0).getD s 0=if s=r then 0 else K.hold s:=λs=>by rw[gX rA];split;rfl;exact hh s
 have kB:cQ kp {K with N:=up K.N r (some d),used:=K.used+1,us:=di.set r 0,ho:=cq.set r 0} ord ag tr (({b' with CU:=SM,CH:=VA}:wD).hp kp K.n):=⟨_,rfl,{z6 with us:=sW,ho:=pD,ul:=by simp;omega}⟩;refine aa.fq (DI kB zP (by have:=hb d.lo;show(di.set r 0).getD d.lo 0+1<_;rw[u0,xac lor];omega)) ?_;rintro v C1 ⟨rfl,gz⟩;refine Ld.f ?_;have u1:∀s,(rX {K with N:=up K.N r (some d),used:=K.used+1,us:=di.set r 0,ho:=cq.set r 0} d.lo).getD s 0=(if s=r then 0 else K.use s)+(if 2<=s/\s=d.lo then 1 else 0):=λs=>by
  by_cases e:s=d.lo
  ·by_cases h2:2<=s
   ·rw[xae (show 2<=s/\s=d.lo from⟨h2,e⟩),e,my zO zP];show(di.set r 0).getD d.lo 0+1=_;rw[u0]
   rw[xac (show¬(2<=s/\s=d.lo)by omega)];unfold rX;rw[xae zO];show(di.set r 0).getD s 0=_;rw[u0];rfl
  rw[xac (show¬(2<=s/\s=d.lo)by omega),tM e];show(di.set r 0).getD s 0=_;rw[u0];rfl
 refine aa.fq (DI gz (by rw[iB];simp;omega) (by
  have:=hb d.hi;show(rX _ d.lo).getD d.hi 0+1<_;rw[u1,xac hir];split<;>omega)) ?_
 rintro v C2 ⟨rfl,wB⟩;have akc:=wB;obtain⟨b3,rfl,hO3⟩:=wB;refine DR.self (Nil.ptr (Ld.f ?_));refine ax.q ?_;refine aa.fq (HZ hO3.ut hv hT) ?_;rintro v YR ⟨rfl,XG⟩;have u2:∀s,(rX {K with N:=up K.N r (some d),used:=K.used+1,us:=rX {K with N:=up K.N r (some d),used:=K.used+1,us:=di.set r 0,ho:=cq.set r 0} d.lo,ho:=cq.set r 0} d.hi).getD s 0=(if s=r then 0 else K.use s)+(if 2<=s/\s=d.lo then 1 else 0)+(if 2<=s/\s=d.hi then 1 else 0):=λs=>by
  by_cases e:s=d.hi
  ·by_cases h2:2<=s
   ·rw[xae (show 2<=s/\s=d.hi from⟨h2,e⟩),e,my zO (by rw[iB];simp;omega)];show(rX _ d.lo).getD d.hi 0+1=_;rw[u1]
   rw[xac (show¬(2<=s/\s=d.hi)by omega)];unfold rX;rw[xae zO];show(rX _ d.lo).getD s 0=_;rw[u1];rfl
  rw[xac (show¬(2<=s/\s=d.hi)by omega),tM e];show(rX _ d.lo).getD s 0=_;rw[u1];rfl
 refine aQ.mk .tail ⟨r,_,_,rfl,hN,h2,hrc,?_,?_,?_,?_,?_,?_,?_,?_,{b3 with CT:=YR},rfl,{hO3 with ut:=XG}⟩
 ·rw[iB,iB];simp;omega
 ·rw[iB,iB];simp;omega
 ·rw[iB,iB];simp;omega
 ·rw[u2,xae rfl,xac (show¬(2<=r/\r=d.lo)by omega),xac (show¬(2<=r/\r=d.hi)by omega)]
 ·intro s Zv hne;rw[u2,xac hne,dR];have c1:(2<=s/\s=d.lo)↔d.lo=s:=⟨λh=>h.2.symm,λh=>⟨Zv,h.symm⟩⟩;have c2:(2<=s/\s=d.hi)↔d.hi=s:=⟨λh=>h.2.symm,λh=>⟨Zv,h.symm⟩⟩;simp only[c1,c2];omega
 ·intro s hs;rw[u2,xac (show¬s=r by omega),xac (show¬(2<=s/\s=d.lo)by omega),xac (show¬(2<=s/\s=d.hi)by omega)];try simp
 ·rw[h0,xae rfl]
 intro s hne;rw[h0,xac hne]
end
section
variable {kp:Nat} {K:Kd} {ord ag tr:zL} {C:Hp} {S:Nat->aC.Fn}
theorem UR(B:Hp)(v:Int)(r:Nat)(kv:zV):Rd zQ 185 #[kv,iv v,u32 r,u32 r] B (· =u32 r):=by
 exact aK λg=>po (ae.bB (Br.T (bD.mk (.refl _) rfl)))
theorem UT(h:cQ kp K ord ag tr C){v lo hi r:Nat}(hne:lo≠hi)(hv:v<K.n)(hT:K.T ⟨v,lo,hi⟩=some r):
  Rd zQ 185 #[ptr kp,iv (v:Int),u32 lo,u32 hi] C (· =u32 r):=by
 obtain⟨b,rfl,hO⟩:=h;refine aK λg=>po (ae.bB (Br.Rk hne (Build.mk (cs:=bH ⟨v,lo,hi⟩) zK ?_)));intro b3 _;refine St.p (λx hx=>by simp[bH,u32]at hx;rcases hx with rfl|rfl|rfl<;>rfl) ?_;refine DR.self (Nil.ptr (Ld.f ?_));refine ax.q ?_;refine aa.eq (tC (d:=⟨v,lo,hi⟩) hO.ut hv) ?_;rw[hT];exact⟨.refl _,Ext.mk rfl (Ext.mk rfl (Br.yes (bD.mk .tail rfl)))⟩
theorem US(h:cQ kp K ord ag tr C){d:Nd}(hne:d.lo≠d.hi)(hd:NOk K.N d)(hv:d.v<K.n)(hT:K.T d=none)(hroom:K.used<K.cap)(hlo:d.lo<2\/d.lo<K.us.length)(hhi:d.hi<2\/d.hi<K.us.length)
 (hb:∀s,K.use s+2<2147483648):
  Fc zQ 185 #[ptr kp,iv (d.v:Int),u32 d.lo,u32 d.hi] C (λv C'=>∃r di cq,v=u32 r/\K.N r=none/\2<=r/\r<K.cap/\di.length=cq.length/\r<di.length/\K.us.length<=di.length/\di.getD r 0=0/\
   (∀s,2<=s->s≠r->di.getD s 0=K.use s+e1 (some d) s)/\(∀s,s<2->di.getD s 0=K.use s)/\cq.getD r 0=0/\(∀s,s≠r->cq.getD s 0=K.hold s)/\
   cQ kp {K with N:=up K.N r (some d),T:=pB K.T d (some r),used:=K.used+1,us:=di,ho:=cq} ord ag tr C'):=by
 have h0:=h;obtain⟨b,rfl,hO⟩:=h;refine aK λg=>po (ae.bB (Br.Rk hne (Build.mk (cs:=bH d) zK ?_)));intro b3 _;refine St.p (λx hx=>by simp[bH,u32]at hx;rcases hx with rfl|rfl|rfl<;>rfl) ?_;refine DR.self (Nil.ptr (Ld.f ?_));refine ax.q ?_;refine aa.eq (tC (d:=d) hO.ut hv) ?_;rw[hT];refine⟨.refl _,Ext.mk rfl (Ext.mk rfl (Br.no ?_))⟩;refine ax.q ?_;refine aa.fq (Ig h0 hd hv hT hroom hlo hhi hb) ?_;rintro v C' ⟨r,di,cq,rfl,hh⟩;exact aQ.mk .tail ⟨r,di,cq,rfl,hh⟩
structure xd(K' K:Kd):Prop where
 N:∀{s d},K'.N s=some d->K.N s=some d
 n:K'.n=K.n
 cap:K'.cap=K.cap
 ho:K'.ho=K.ho
 us:∀s,K'.use s<=K.use s
 idle:(∀s,K.N s=none->K.use s=0)->∀s,K'.N s=none->K'.use s=0
theorem xd.refl(K:Kd):xd K K:=⟨λh=>h,rfl,rfl,rfl,λ_=>xal _,λh=>h⟩
theorem xd.trans{A B C:Kd}(h:xd A B)(h':xd B C):xd A C:=⟨λx=>h'.N (h.N x),h.n.trans h'.n,h.cap.trans h'.cap,h.ho.trans h'.ho,λs=>xbZ (h.us s) (h'.us s),λhi=>h.idle (h'.idle hi)⟩
def PL(P:Nat->Nat)(N:dU):Prop:=∀t,2<=t->0<P t->∃d,N t=some d
def gJ(P0:Nat->Nat)(l:zL):Nat->Nat:=λs=>P0 s+l.count s
theorem LM{P0:Nat->Nat}{l:zL}{t:Nat}:up (gJ P0 (l++[t])) t (gJ P0 (l++[t]) t-1)=gJ P0 l:=by
 funext s
 unfold up gJ;split
 ·rename_i e;subst e;simp
 rename_i e;simp[xbu,xcT,xbn e]
theorem oU{P0:Nat->Nat}(h:cQ kp K ord ag tr C){r:Nat}(hm:jw K S iu (gJ P0 [r]))(hp:Pos K)(hl:PL (gJ P0 [r]) K.N)(hr:r<1048576)(hbu:∀s,K.use s<2147483648):
  Fc zQ 128 #[ptr kp,u32 r] C (λv C'=>v=.tuple #[]/\∃K',cQ kp K' ord ag tr C'/\jw K' S iu P0/\Pos K'/\PL P0 K'.N/\xd K' K):=by
 refine aK λg=>Hq (aj.int (e:=80) zK zK zK λbx=>?_);refine aal (λk vs H=>∃(w:zV) (Ct C':Hp) (todo:zL) (K':Kd),vs=[w]/\H=Ct++C'/\aR 80 .u32 w (iw todo) Ct/\cQ kp K' ord ag tr C'/\jw K' S iu (gJ P0 todo)/\Pos K'/\PL (gJ P0 todo) K'.N/\xd K' K/\(∀t∈todo,t<1048576)/\k=3*K'.used+todo.length/\k<=3*K.used+1)
  _ ⟨_,[_],C,[r],K,rfl,rfl,aR.made [(r:Int)],h,hm,hp,hl,.refl K,by simpa using hr,rfl,by simp⟩ ?_
 rintro w H hJ gs;obtain⟨k,⟨w',Ct,C',todo,K',hw,rfl,ht,hK,hM,QA,NG,ot,hT,hk,hkb⟩,hkm⟩:=hJ.open;simp only[xaz,xbb]at hw;subst hw;refine ht.bE ?_;rw[an];refine ae.gW (b:=0) (Br.dec (λhpos=>?_) (λhpos=>?_))
 ·have Zj:=hm.cap;obtain⟨pre,t,rfl⟩:∃pre t,todo=pre++[t]:=⟨todo.dropLast,todo.getLast (by intro e;simp[e]at hpos),(xeh _).symm⟩;have htl:(pre++[t]).length=pre.length+1:=by simp
  have Um:=hT t zI;refine ht.bE ?_;rw[an,htl];refine ae.gD (b:=1) ?_ zO ?_
  ·simp[aS];omega
  rw[xb1];refine ht.ld (i:=pre.length) (x:=(t:Int)) (by rw[cj];simp[iw]) (br.sub .left) (ht.cut (i:=pre.length) zI λw' ht'=>?_);have KO:aR 80 .u32 w' (iw pre) Ct:=by
   rw[cj,xeC zI]at ht';exact ht'
  have hTp:∀s∈pre,s<1048576:=λs hs=>hT s (xad _ hs);refine ae.xO (b:=1) (Br.dec (λh1=>?_) (λh1=>?_))
  ·have hc:∀s,2<=s->gJ P0 (pre++[t]) s=gJ P0 pre s:=λs hs=>by
    unfold gJ;rw[xbu,xcT];simp;omega
   exact nq.back (.refl _) hkm (3*K'.used+pre.length) ⟨w',Ct,C',pre,K',rfl,rfl,KO,hK,hM.congr (λ_=>xdg) hc,QA,λs hs h0=>NG s hs (by rw[hc s hs];exact h0),ot,hTp,rfl,by simp at hk;omega⟩ (by rw[hk];simp)
  have hPt:0<gJ P0 (pre++[t]) t:=by unfold gJ;simp;omega
  obtain⟨d,hd⟩:=NG t zO hPt;have hfit:=hM.fit hd;have XN:=QA t d hd;obtain⟨b,rfl,hO⟩:=hK;refine Nil.ptr (Ld.f ?_);refine hO.us.ld (x:=((K'.use t:Nat):Int)) (bX hfit) (br.sub (.app (.cons (.app (.app .left))))) (ae.gD (b:=1) ?_ zO ?_)
  ·have:=ot.us t;have:=hbu t;simp[aS];omega
  refine hO.us.mF (x:=((K'.use t-1:Nat):Int)) (.app (.cons (.app (.app .left)))) (by simpa using hfit) λSM sW=>?_;rw[gj]at sW;have g1:∀s,(K'.us.set t (K'.use t-1)).getD s 0=if s=t then K'.use t-1 else K'.use s:=λs=>gX hfit
  have Li:=hM.less (r:=t) (di:=K'.us.set t (K'.use t-1)) hPt zI (by rw[g1,xae rfl];omega) (λs hs=>by rw[g1,xac hs]);rw[LM]at Li;have WC:YK {b with CU:=SM} {K' with us:=K'.us.set t (K'.use t-1)} ord ag tr:={hO with us:=sW,ul:=by simp;exact hO.ul};have QB:xd {K' with us:=K'.us.set t (K'.use t-1)} K:=⟨ot.N,ot.n,ot.cap,ot.ho,λs=>by
   show(K'.us.set t (K'.use t-1)).getD s 0<=_;rw[g1];have:=ot.us s;split
   ·rename_i e;subst e;omega
   ·exact this,λhi s hs=>by
   show(K'.us.set t (K'.use t-1)).getD s 0=0;have hs':K'.N s=none:=hs;rw[g1,xac (λe=>by subst e;rw[hd]at hs';cases hs')];exact ot.idle hi s hs'⟩
  have abD:PL (gJ P0 pre) K'.N:=λs hs h0=>NG s hs (by unfold gJ at h0⊢;rw[xbu];omega);refine Nil.ptr (Ld.f ?_);refine sW.ld (x:=((K'.use t-1:Nat):Int)) (by rw[<-gj];simp[hfit]) (br.sub (.app (.cons (.app (.app .left))))) ?_;refine ae.gW (b:=0) (Br.dec (λh3=>?_) (λh3=>?_))
  ·refine nq.back (.refl _) hkm (3*K'.used+pre.length) ⟨w',Ct,_,pre,_,rfl,rfl,KO,⟨_,rfl,WC⟩,Li,λs e hs=>?_,abD,QB,hTp,rfl,by simp at hk;omega⟩ (by rw[hk];simp);show 0<(K'.us.set t (K'.use t-1)).getD s 0;rw[g1];split
   ·exact h3
   exact QA s e hs
  have hu0:K'.use t=1:=by omega
  have kB:cQ kp {K' with us:=K'.us.set t (K'.use t-1)} ord ag tr (({b with CU:=SM}:wD).hp kp K'.n):=⟨_,rfl,WC⟩;refine aa.eq (mP kB zO) ?_;have SE:2<=t:=by omega
  have aeY:got K'.N t=bH d:=fh hd SE;show Fb _ _ _;intro b32 _;rw[aeY];refine St.p (λx hx=>by simp[bH,u32]at hx;rcases hx with rfl|rfl|rfl<;>rfl) ?_;refine DR.self (Nil.ptr (Ld.f ?_));refine ax.q ?_;have hTd:K'.T d=some t:=(hM.jy d t).2 ⟨hd,λh=>h⟩;refine aa.fq (xA WC.ut (hM.var hd) hTd) ?_;rintro v YR ⟨rfl,XG⟩;refine Nil.ptr (Ld.f ?_);refine aa.fq (R5 WC.ar ⟨d,hd⟩ SE) ?_;rintro v CA' ⟨rfl,har⟩;refine Ld.f ?_;refine Ld.f ?_;refine aj.VY (e:=80) zK zK zK λbz=>?_;refine KO.WN (.cons (.cons .left)) (er.block (l:=[(d.lo:Int),(d.hi:Int)]) (by exact .head _) zI) (by simp at hk⊢;omega) (by simp at hk⊢;omega) λw2 Ct2 IS=>?_;have e0:iw pre++[(d.lo:Int),(d.hi:Int)]=iw (pre++[d.lo,d.hi]):=by rw[cj];rfl
  rw[e0]at IS;have Ns:({K' with us:=K'.us.set t (K'.use t-1)}:Kd).use t=0:=by show(K'.us.set t (K'.use t-1)).getD t 0=0;rw[g1,xae rfl];omega
  have NH:=Li.free (r:=t) (d:=d) hd (λh=>h) Ns;have hed:c8 K'.N t K'.cap=0:=by have:=Li.use hd;rw[Ns]at this;exact(by have h5:c8 K'.N t K'.cap+_+_=0:=this.symm;omega)
  have jS:=jl hed t (hM.two hd).2 d hd;have afr:gJ P0 pre t=0:=by have:=Li.use hd;rw[Ns]at this;omega
  have hroom:0<K'.used:=by have:=hM.room;omega
  have hlt:∀x,live K'.N x->x<1048576:=λx hx=>kB.lt hx;have n6:∀s,2<=s->gJ P0 pre s+e1 (some d) s=gJ P0 (pre++[d.lo,d.hi]) s:=λs _=>by
   unfold gJ;rw[dR,xbu,xcU,xcU,xdQ];simp only[xc0];omega
  refine nq.back (.skip (.skip (.refl _))) hkm (3*(K'.used-1)+(pre++[d.lo,d.hi]).length) ⟨w2,Ct2,_,pre++[d.lo,d.hi],{K' with us:=K'.us.set t (K'.use t-1),N:=up K'.N t none,T:=pB K'.T d none,used:=K'.used-1},rfl,rfl,IS,
   ⟨{b with CU:=SM,CT:=YR,CA:=CA'},rfl,{WC with ar:=har,ut:=XG}⟩,NH.congr (λ_=>xdg) n6,λs e hs=>?_,λs hs h0=>?_,⟨λ{s e} hs=>?_,QB.n,QB.cap,QB.ho,QB.us,λhi s hs=>?_⟩,λs hs=>?_,rfl,by simp at hk⊢;omega⟩ (by simp at hk⊢;omega)
  ·have hne:s≠t:=λe2=>by subst e2;have l8:up K'.N s none s=some e:=hs;rw[aL]at l8;cases l8
   show 0<(K'.us.set t (K'.use t-1)).getD s 0;rw[g1,xac hne];have l8:up K'.N t none s=some e:=hs;rw[aP hne]at l8;exact QA s e l8
  ·have hne:s≠t:=λe2=>by
    subst e2;rw[<-n6 s hs,afr]at h0;rw[dR,xac jS.1,xac jS.2]at h0;omega
   show∃e,up K'.N t none s=some e;rw[aP hne];rw[<-n6 s hs]at h0;by_cases h5:0<gJ P0 pre s
   ·exact abD s hs h5
   rw[dR]at h0;have:d.lo=s\/d.hi=s:=by
    by_cases h6:d.lo=s
    ·exact .inl h6
    by_cases h7:d.hi=s
    ·exact .inr h7
    rw[xac h6,xac h7]at h0;omega
   rcases this with rfl|rfl
   ·rcases hM.lo hd with h8|h8
    ·omega
    exact h8
   rcases hM.hi hd with h8|h8
   ·omega
   exact h8
  ·have l8:up K'.N t none s=some e:=hs;by_cases e2:s=t
   ·subst e2;rw[aL]at l8;cases l8
   rw[aP e2]at l8;exact ot.N l8
  ·have l8:up K'.N t none s=none:=hs;show(K'.us.set t (K'.use t-1)).getD s 0=0;by_cases e2:s=t
   ·subst e2;rw[g1,xae rfl];omega
   rw[aP e2]at l8;exact QB.idle hi s l8
  rcases xaq.1 hs with hs|hs
  ·exact hTp s hs
  simp at hs;rcases hs with rfl|rfl
  ·exact hlt _ (hM.lo hd)
  exact hlt _ (hM.hi hd)
 obtain rfl:todo=[]:=xb5 zO;exact aQ.mk .right ⟨rfl,K',hK,hM.congr (λ_=>xdg) (λs _=>by simp[gJ]),QA,λs hs h0=>NG s hs (by simpa[gJ]using h0),ot⟩
end
abbrev lv(ag:zL):Nat->Nat:=λv=>ag.getD v 0
section
variable {kp:Nat} {K:Kd} {ord ag tr:zL} {C:Hp} {S:Nat->aC.Fn}
theorem tt(h:cQ kp K ord ag tr C)(v:Int):Rd zQ 167 #[ptr kp,iv v] C (· =.bool (decide (0<=v/\v<K.n))):=by
 obtain⟨b,rfl,hO⟩:=h;refine aK λg=>GM (ae.geq (cz.and (decide (v<K.n)) (λ_=>?_) rfl λ_=>bD.mk (.refl _) (by rw[xea])));refine Nil.ptr (Ld.f ?_);exact ae.lss ⟨rfl,rfl⟩
theorem xV(h:cQ kp K ord ag tr C){r:Nat}(hl:live K.N r)(hv:∀d,K.N r=some d->d.v<K.n)(NJ:r<2->K.N r=none):Rd zQ 249 #[ptr kp,u32 r] C (· =iv ((dep K.n (lv ag) K.N r:Nat):Int)):=by
 have h0:=h;have hr:=h.lt hl;obtain⟨b,rfl,hO⟩:=h;refine aK λg=>F3 (Nil.ptr (af.mk (aa.eq (mP h0 zO) ?_)));intro b5 _;refine St.whole (r:=got K.N r) (by exact .head _) rfl (bJ _ _).1 (bJ _ _).2 ?_;by_cases h2:r<2
 ·rw[gH h2,bj (NJ h2)];refine Ld.f ?_;refine ae.geq (Br.no' zD (Nil.ptr (Ld.f ?_)));exact bD.mk .tail rfl
 obtain⟨d,hd⟩:∃d,K.N r=some d:=by rcases hl with hl|hl;omega;exact hl
 rw[fh hd zO,ay hd];have tc:=hv d hd;have hlen:=hO.ol.2;refine Ld.f ?_;refine ae.geq (Br.WV zI (Nil.ptr (Ld.f ?_)));refine Ld.f ?_;exact hO.lv.ld (x:=((ag.getD d.v 0:Nat):Int)) (bX zO) (br.sub (.cons (.cons (.app (.app (.app (.app (.app .left)))))))) (bD.mk .tail rfl)
def ov(K:Kd)(ag:zL)(v:Int)(lo hi:Nat):Int:=
 if¬(0<=v/\v<K.n)then 2 else if fQ K.N lo=false\/fQ K.N hi=false then 3 else if lo≠hi/\min (dep K.n (lv ag) K.N lo) (dep K.n (lv ag) K.N hi)<=ag.getD v.toNat 0 then 4 else 0
theorem I5(h:cQ kp K ord ag tr C)(v:Int){lo hi:Nat}(hlo:lo<4294967296)(hhi:hi<4294967296)(hv:∀r d,K.N r=some d->d.v<K.n/\2<=r):
  Rd zQ 198 #[ptr kp,iv v,u32 lo,u32 hi] C (· =iv (ov K ag v lo hi)):=by
 have h0:=h;have NJ:∀r,r<2->K.N r=none:=λr hr=>by
  cases e:K.N r with
  |none=>rfl
  |some d=>have:=(hv r d e).2;omega
 obtain⟨b,rfl,hO⟩:=h;refine aK λg=>Gw (aa.eq (tt h0 v) (Un.not ?_));by_cases Dq:0<=v/\v<K.n;rotate_left
 ·rw[xap Dq];exact Br.yes (bD.mk (.refl _) (by unfold ov;rw[xae Dq]))
 rw[xau Dq];apply Br.no;obtain⟨n,rfl⟩:∃n:Nat,v=n:=⟨v.toNat,by omega⟩;have hnv:n<K.n:=by omega
 intro J hJ;refine Nil.ptr (af.mk (aa.eq (mQ h0 hlo) (Un.not ?_)));by_cases nM:fQ K.N lo=true;rotate_left
 ·have aa2:fQ K.N lo=false:=by simpa using nM
  rw[aa2];exact Split.TO rfl (aI.mk (JE.mk (hJ _ _ λgs=>Br.yes (bD.mk (.refl _) (by unfold ov;rw[xac (by simpa using Dq),xae (.inl aa2)])))))
 rw[nM];refine Split.go rfl (Nil.ptr (af.mk (aa.eq (mQ h0 hhi) (Un.not ?_))));by_cases hhl:fQ K.N hi=true;rotate_left
 ·have aa9:fQ K.N hi=false:=by simpa using hhl
  rw[aa9];exact aI.mk (JE.mk (hJ _ _ λgs=>Br.yes (bD.mk (.refl _) (by unfold ov;rw[xac (by simpa using Dq),xae (.inr aa9)]))))
 rw[hhl];refine aI.mk (JE.mk (hJ _ _ λgs=>Br.no ?_));intro J2 IY;have hE:ov K ag n lo hi=if lo≠hi/\min (dep K.n (lv ag) K.N lo) (dep K.n (lv ag) K.N hi)<=ag.getD n 0 then 4 else 0:=by
  unfold ov;rw[xac (by simpa using Dq),xac (by rw[nM,hhl];simp)];rfl
 refine DR.self (ae.jD ?_);by_cases hne:lo≠hi;rotate_left
 ·rw[xap hne];exact Br.no (JE.mk (IY _ _ λgs=>Br.no (bD.mk (.refl _) (by rw[hE,xac (λh=>hne h.1)]))))
 rw[xau hne];refine Br.yes (Nil.ptr (Ld.f ?_));have hlen:=hO.ol.2;refine hO.lv.ld (x:=((ag.getD n 0:Nat):Int)) (bX zO) (br.sub (.cons (.app (.app (.app (.app (.app .left))))))) λF=>?_;refine aa.eq (xV h0 (cg.1 nM) (λd hd=>(hv _ _ hd).1) (NJ _)) (⟨.refl _,?_⟩);intro F2;refine aa.eq (xV h0 (cg.1 hhl) (λd hd=>(hv _ _ hd).1) (NJ _)) (⟨.refl _,?_⟩);refine⟨_,_,_,rfl,rfl,?_⟩;have hmin:(if((dep K.n (lv ag) K.N hi:Nat):Int)<((dep K.n (lv ag) K.N lo:Nat):Int)then((dep K.n (lv ag) K.N hi:Nat):Int)else((dep K.n (lv ag) K.N lo:Nat):Int))=((min (dep K.n (lv ag) K.N lo) (dep K.n (lv ag) K.N hi):Nat):Int):=by
  split<;>omega
 rw[hmin];refine ae.kM (aI.mk ?_);by_cases hm:min (dep K.n (lv ag) K.N lo) (dep K.n (lv ag) K.N hi)<=ag.getD n 0
 ·rw[xau hm];exact JE.mk (IY _ _ λgs=>Br.yes (bD.mk (.refl _) (by rw[hE,xae ⟨hne,hm⟩])))
 rw[xap hm];exact JE.mk (IY _ _ λgs=>Br.no (bD.mk (.refl _) (by rw[hE,xac (λh=>hm h.2)])))
theorem Ip(h:cQ kp K ord ag tr C){v lo hi:Nat}(hv:v<K.n):
  Rd zQ 199 #[ptr kp,iv (v:Int),u32 lo,u32 hi] C (· =if lo=hi then .tuple #[u32 lo,.bool true]else .tuple #[u32 ((K.T ⟨v,lo,hi⟩).getD 0),.bool (K.T ⟨v,lo,hi⟩).isSome]):=by
 obtain⟨b,rfl,hO⟩:=h;refine aK λg=>Gv (ae.bB (Br.dec (λhe=>bD.mk (.refl _) (by rw[xae he])) (λhe=>?_)));refine Nil.ptr (af.mk (Ld.f ?_));exact Build.mk (cs:=bH ⟨v,lo,hi⟩) zK (aa.eq (tC (d:=⟨v,lo,hi⟩) hO.ut hv) (Ext.mk rfl (Ext.mk rfl (bD.mk (.refl _) (by rw[xac he];rfl)))))
theorem BC(h:cQ kp K ord ag tr C){r:Nat}(hr:r<4294967296)(hb:∀s,K.hold s<2147483648):Rd zQ 127 #[ptr kp,u32 r] C (· =iv ((K.hold r:Nat):Int)):=by
 obtain⟨b,rfl,hO⟩:=h;refine aK λg=>Hr (ae.aG (cz.or (decide (K.ho.length<=r)) (λ_=>?_) zI λ_=>?_))
 ·refine aH.q (Nil.ptr (af.mk (Ld.f ?_)));refine hO.ho.bE ?_;rw[an];exact ae.kM ⟨rfl,rfl⟩
 rw[xdZ];refine Br.dec (λhge=>?_) (λhlt=>?_)
 ·refine bD.mk (.refl _) ?_;unfold Kd.hold;rw[List.getD,xaJ hge];rfl
 refine Nil.ptr (af.mk (Ld.f ?_));exact hO.ho.ld (x:=((K.hold r:Nat):Int)) (bX zO) (br.sub (.cons (.app (.app (.app .left))))) (aH.nat (by have:=hb r;simp[aS];omega) (bD.mk (.refl _) rfl))
theorem Ub(h:cQ kp K ord ag tr C)(h2:2<=K.used)(hu:K.used<=1048576):Rd zQ 107 #[ptr kp] C (· =iv ((K.used-2:Nat):Int)):=by
 obtain⟨b,rfl,hO⟩:=h;refine aK λg=>HJ (ae.aG (Br.no (Nil.ptr (af.mk (Ld.f ?_)))));exact aa.eq (CJ hO.ar) (ae.gD (b:=2) (by simp[aS];omega) h2 (bD.mk (.refl _) rfl))
theorem KI(h:cQ kp K ord ag tr C):Rd zQ 222 #[ptr kp] C (· =iv ((tr.length:Nat):Int)):=by
 obtain⟨b,rfl,hO⟩:=h;refine aK λg=>Gj (ae.aG (Br.no (Nil.ptr (Ld.f ?_))));refine hO.tr.bE ?_;rw[an];exact bD.mk (.refl _) rfl
theorem mO(h:cQ kp K ord ag tr C):Rd zQ 71 #[ptr kp] C (· =iv ((K.n:Nat):Int)):=by
 obtain⟨b,rfl,hO⟩:=h;refine aK λg=>Mz (ae.aG (Br.no (Nil.ptr (Ld.f ?_))));exact bD.mk (.refl _) rfl
theorem kx(h:cQ kp K ord ag tr C){r:Nat}(hr:r<4294967296):Rd zQ 129 #[ptr kp,u32 r] C (· =.tuple #[.agg (got K.N r).toArray,iv (if fQ K.N r then 0 else 3)]):=by
 have h0:=h;obtain⟨b,rfl,hO⟩:=h;refine aK λg=>Ho λb1 _=>?_;refine ae.aG (Br.no (Nil.ptr (af.mk (aa.eq (mQ h0 hr) (Un.not ?_)))));cases hb:fQ K.N r with
 |false=>
  refine Br.yes (Build.mk (cs:=[iv 0,.int .u32 0,.int .u32 0]) zK (St.q ?_));refine ax.q ?_;exact bD.mk .tail (by rw[BW hb];rfl)
 |true=>
  refine Br.no (Nil.ptr (af.mk (aa.eq (mP h0 hr) (St.whole (r:=got K.N r) (by exact .head _) rfl (bJ _ _).1 (bJ _ _).2 ?_))));refine ax.whole (r:=got K.N r) (by exact .head _) (bJ _ _).1 ?_;exact bD.mk .tail rfl
end
theorem vk{B:Hp}{v:zV}{l:List Int}(h:er .i64 B v l)(hl:l.length<=1099511627776):Fc zQ 45 #[v] B (λr H=>∃C,H=C++B/\aR 3 .i64 r l C):=by
 refine aK λg=>MI ?_;obtain⟨a,c,rfl,hc⟩:=h.shape;refine⟨.bool a.isNone,by simp[eX],?_⟩;refine Br.mk (λha=>?_) (λha=>?_)
 ·have:l=[]:=by
   rcases h.2 with⟨_,_,h1,h2⟩|⟨b,o,cap,cs,T,fz,h1,_⟩
   ·simpa using h2
   simp at h1;rw[h1.1]at ha;simp at ha
  subst this;exact aQ.here ⟨[],rfl,aR.nil⟩
 refine aj.none (z:=iv 0) (e:=3) (k:=1) zK zK zK λb=>?_;refine(aR.made (T:=3) (kd:=.i64) (b:=b) []).WN (l2:=l) .left ((show er .i64 B _ l from h).mono λ_ h=>.tail _ h) zP zP λv' C' ho=>?_;exact aQ.here ⟨C',rfl,by simpa using ho⟩
theorem xP{kp:Nat}{K:Kd}{ord ag tr:zL}{C:Hp}(h:cQ kp K ord ag tr C):Fc zQ 108 #[ptr kp] C (λr H=>∃N,H=N++C/\aR 3 .i64 r (iw ord) N):=by
 obtain⟨b,rfl,hO⟩:=h;refine aK λg=>HH (ae.aG (Br.no (Nil.ptr (Ld.f ?_))));refine aa.fq (vk (hO.od.ints.mono (br.sub (.cons (.app (.app (.app (.app .left))))))) (by have:=hO.ol.1;have:=hO.sU;simp;omega)) ?_;rintro v C' ⟨N,rfl,ho⟩;exact aQ.here ⟨N,rfl,ho⟩
end
section
def qJ(x r:Nat):Prop:=x<2^r/\(r=0\/2^(r-1)<=x)
theorem qJ.gt{x r n:Nat}(h:qJ x r):n<r↔2^n<=x:=by
 constructor
 ·intro hn;rcases h.2 with h2|h2
  ·omega
  exact xbZ (xat zD zO) h2
 intro hn;have:=xaE hn h.1;exact(Nat.pow_lt_pow_iff_right zD).1 this
theorem qJ.up{x s t:Nat}(h:qJ (x>>>s) t)(h0:s=0\/x>>>s≠0):qJ x (s+t):=by
 rw[xaN]at h h0;have hp:=xbK s;refine⟨?_,?_⟩
 ·have:=h.1;rw[Nat.div_lt_iff_lt_mul hp]at this;rw[xdf,xbJ];exact this
 rcases h.2 with h2|h2
 ·subst h2;have:=h.1;rcases h0 with h0|h0
  ·exact .inl zO
  rw[Nat.pow_zero]at this;exact absurd (Nat.lt_one_iff.1 this) h0
 by_cases ht:t=0
 ·subst ht;rcases h0 with h0|h0
  ·exact .inl zO
  have:=h.1;rw[Nat.pow_zero]at this;exact absurd (Nat.lt_one_iff.1 this) h0
 right;have:=(Nat.le_div_iff_mul_le hp).1 h2;rw[show s+t-1=(t-1)+s by omega,xdf];exact this
theorem T6:∀y:Fin 256,∃b:UInt8, zX[y.1]? =some b/\(y.1<2^b.toNat/\(b.toNat=0\/2^(b.toNat-1)<=y.1)):=by
 have h:∀y:Fin 256,(match zX[y.1]? with|some b=>decide (y.1<2^b.toNat/\(b.toNat=0\/2^(b.toNat-1)<=y.1))|none=>false)=true:=by decide+kernel
 intro y;have:=h y;split at this
 ·rename_i b hb;exact⟨b,hb,by simpa using this⟩
 cases this
theorem Bw{x:Nat}(hx:x<18446744073709551616)(B:Hp):Rd zQ 248 #[.int .u64 (x:Int)] B (λv=>∃r:Nat,qJ x r/\v=iv (r:Int)):=by
 refine aK λg=>F4 λJ1 hJ1=>?_;have h1:∀s,s<=32->x>>>s<4294967296->(s=0\/x>>>s≠0)->J1 [.int .u64 ((x>>>s:Nat):Int),iv (s:Int)] B:=by
  intro s hs hlt h0;refine hJ1 _ _ _ λgs=>?_;intro J2 IY;have h2:∀s,s<=48->x>>>s<65536->(s=0\/x>>>s≠0)->J2 [.int .u64 ((x>>>s:Nat):Int),iv (s:Int)] B:=by
   intro s hs hlt h0;refine IY _ _ _ λgs=>?_;intro J3 hJ3;have h3:∀s,s<=56->x>>>s<256->(s=0\/x>>>s≠0)->J3 [.int .u64 ((x>>>s:Nat):Int),iv (s:Int)] B:=by
    intro s hs hlt h0;refine hJ3 _ _ _ λgs=>?_;refine aH.nat (show x>>>s<256 from hlt) ?_;obtain⟨b,hb,hl⟩:=T6 ⟨x>>>s,hlt⟩;refine⟨_,_,_,b,rfl,rfl,xcf _,by rw[xbI];exact hb,?_⟩;have Dv:b.toNat<256:=b.toNat_lt;exact aH.q (ae.gL (bD.mk (.refl _) ⟨s+b.toNat,qJ.up (t:=b.toNat) hl h0,rfl⟩))
   refine ae.kM (b:=256) (Br.dec (λhge=>?_) (λhge=>JE.mk (h3 s zO zO h0)));refine ae.e9 (b:=8) (by simp only[aS];omega) (ae.gL (b:=8) ?_);rw[<-xdN];have e:x>>>(s+8)=x>>>s/256:=by rw[xdN,xaN (x>>>s) 8]
   exact JE.mk (h3 (s+8) zO zO (.inr zO))
  refine ae.kM (b:=65536) (Br.dec (λhge=>?_) (λhge=>JE.mk (h2 s zO zO h0)));refine ae.e9 (b:=16) (by simp only[aS];omega) (ae.gL (b:=16) ?_);rw[<-xdN];have e:x>>>(s+16)=x>>>s/65536:=by rw[xdN,xaN (x>>>s) 16]
  exact JE.mk (h2 (s+16) zO zO (.inr zO))
 refine ae.kM (b:=4294967296) (Br.dec (λhge=>?_) (λhge=>JE.mk (h1 0 zO zP (.inl rfl))));refine ae.e9 (b:=32) (by simp only[aS];exact hx) ?_;have e:x>>>32=x/4294967296:=by rw[xaN]
 exact JE.mk (h1 32 zO zO (.inr zO))
end
end Go.Proofs
namespace Go.Sx
open Go
section
variable {P:Program} {H C:Hp} {c:Hp->Hp}
theorem br.re(h:br C H c)(X:Hp):br X (c X) c:=by
 induction h with
 |here=>exact .here
 |left=>exact .left
 |cons _ ih=>exact .cons ih
 |app _ ih=>exact .app ih
theorem swap_perm{l:List Int}{i j:Nat}{x y:Int}(hi:l[i]? =some x)(hj:l[j]? =some y):((l.set i y).set j x).Perm l:=by
 have h1:=(xah.1 hi).1;have h2:=(xah.1 hj).1;rw[xcX];intro a;by_cases e:i=j
 ·subst e;rw[hi]at hj;cases hj;rw[List.set_set];have:l.set i x=l:=by
   have hx:l[i]=x:=by rw[xab h1]at hi;exact xbF hi
   rw[<-hx];exact List.set_getElem_self h1
  rw[this]
 have hx:l[i]=x:=by rw[xab h1]at hi;exact xbF hi
 have hy:l[j]=y:=by rw[xab h2]at hj;exact xbF hj
 rw[xdR (by simpa using h2),xdR h1];have:(l.set i y)[j]'(by simpa using h2)=y:=by rw[List.getElem_set_ne e];exact hy
 rw[this,hx];have c1:l.count x≥1:=List.one_le_count_iff.2 (hx▸xaF h1);have c2:l.count y≥1:=List.one_le_count_iff.2 (hy▸xaF h2);by_cases e1:x=a
 ·subst e1;by_cases e2:y=x
  ·subst e2;simp<;>omega
  simp[e2,xbn e2]<;>omega
 by_cases e2:y=a
 ·subst e2;simp[e1]<;>omega
 simp[e1,e2]<;>omega
def up1(vs:List zV):Nat:=match vs with
 | .int _ q::_=>(q+1).toNat
 |_=>0
theorem yT{k:IntKind}{q:Int}{r:List zV}:up1 (.int k q::r)=(q+1).toNat:=rfl
end
end Go.Sx
namespace Go.Sx
open Go
abbrev cm:=Sort.ltInt
section
variable {P:Program} {H C:Hp} {c:Hp->Hp} {T:TypeId} {kd wO k1 k2 k3 k4:IntKind} {v:zV} {d:Array Int}
def Da(T:TypeId)(kd:IntKind)(v:zV)(d:Array Int)(C:Hp):Prop:=aR T kd v d.toList C
theorem Yx(d:Array Int){i:Nat}(hi:i<d.size):d.toList[i]? =some d[i]! :=by
 rw[xbm,getElem!_pos d i hi];exact xbE hi
theorem On(d:Array Int)(i j:Nat):(Sort.swp d i j).toList=(d.toList.set i d[j]!).set j d[i]! :=by
 unfold Sort.swp;rw[Array.toList_setIfInBounds,Array.toList_setIfInBounds]
theorem Da.ld(h:Da T kd v d C)(hC:∀y∈C,y∈H){i:Nat}(hi:i<d.size){K:zV->Prop}(hk:K (.int kd d[i]!)):ah 1 v (.int wO (i:Int)) λp=>Ld H p K:=
 aR.ld h (Yx d hi) hC hk
theorem Da.VH(h:Da T kd v d C)(hh:br C H c){i j:Nat}(hi:i<d.size)(hj:j<d.size){B:(zV->Prop)->Prop}
 (hB:∀k:zV->Prop,k (.int k2 (i:Int))->B k){K:Hp->Prop}(hk:∀C',Da T kd v (Sort.swp d i j) C'->K (c C')):
  ah 1 v (.int k1 (j:Int)) λp1=>Ld H p1 λx=>B λu=>ah 1 v u λp2=>Ld H p2 λy=>ah 1 v (.int k3 (i:Int)) λp3=>St 1 H p3 x λH1=>ah 1 v (.int k4 (j:Int)) λp4=>St 1 H1 p4 y K:=by
 refine h.ld hh.sub hj (hB _ ?_);refine h.ld hh.sub hi ?_;refine aR.mF h hh (by rw[xb6];exact hi) λC1 h1=>?_;refine h1.mF (hh.re C1) (by rw[xbW,xb6];exact hj) λC2 h2=>?_;exact hk C2 (by unfold Da;rw[On];exact h2)
theorem Da.swap(h:Da T kd v d C)(hh:br C H c){i j:Nat}(hi:i<d.size)(hj:j<d.size){K:Hp->Prop}(hk:∀C',Da T kd v (Sort.swp d i j) C'->K (c C')):
  ah 1 v (.int k1 (j:Int)) λp1=>Ld H p1 λx=>ah 1 v (.int k2 (i:Int)) λp2=>Ld H p2 λy=>ah 1 v (.int k3 (i:Int)) λp3=>St 1 H p3 x λH1=>ah 1 v (.int k4 (j:Int)) λp4=>St 1 H1 p4 y K:=
 h.VH (B:=λk=>k _) hh hi hj (λ_ h=>h) hk
end
theorem g8{d:Array Int}{n i j:Nat}(h:d.size=n):(Sort.swp d i j).size=n:=(Sort.size_swp d i j).trans h
theorem PG{a j:Nat}{e:Array Int}(h:¬a<j):Sort.insInner cm a j e=e:=by
 cases j with
 |zero=>rfl
 |succ j=>rw[Sort.insInner,xac zP]
theorem PI{a j:Nat}{e:Array Int}(h:a<j):Sort.insInner cm a j e=if cm e[j]! e[j-1]! =true then Sort.insInner cm a (j-1) (Sort.swp e j (j-1))else e:=by
 obtain⟨j,rfl⟩:∃k,j=k+1:=⟨j-1,by omega⟩;rw[Sort.insInner,xau h,xct];rfl
theorem LA{j:Nat}{e:Array Int}(h:¬1<=j):Sort.shiftDown cm j e=e:=by
 obtain rfl:j=0:=by omega
 rfl
theorem rH{j:Nat}{e:Array Int}(h:1<=j):Sort.shiftDown cm j e=if(!cm e[j]! e[j-1]!)=true then e else Sort.shiftDown cm (j-1) (Sort.swp e j (j-1)):=by
 obtain⟨j,rfl⟩:∃k,j=k+1:=⟨j-1,by omega⟩;rw[Sort.shiftDown];rfl
theorem eR{p:Int->Bool}{d:Array Int}{i j:Nat}(h:0<j):Sort.scanDown p d i j=if(decide (i<=j) &&p d[j]!)=true then Sort.scanDown p d i (j-1)else j:=by
 obtain⟨j,rfl⟩:∃k,j=k+1:=⟨j-1,by omega⟩;rw[Sort.scanDown];rfl
theorem JV{hi f r:Nat}{d:Array Int}(h:hi<=2*r+1):Sort.siftDown cm hi f r d=d:=by
 rw[Sort.siftDown,xeg h]
theorem y4{hi f r c:Nat}{d:Array Int}(h:2*r+1<hi)(hc:c=if(decide (2*r+1+1<hi) &&cm d[f+(2*r+1)]! d[f+(2*r+1)+1]!)=true then 2*r+2 else 2*r+1):
  Sort.siftDown cm hi f r d=if(!cm d[f+r]! d[f+c]!)=true then d else Sort.siftDown cm hi f c (Sort.swp d (f+r) (f+c)):=by
 rw[Sort.siftDown,dif_neg zO];split at hc
 ·rename_i hb;subst hc;rw[xae hb];rw[xaC,xaP]at hb;split
  ·rfl
  rw[xeg hb.1]
 rename_i hb;subst hc;rw[xac hb]
theorem Ik(hi f r:Nat)(d:Array Int):(Sort.siftDown cm hi f r d).size=d.size:=by
 fun_induction Sort.siftDown cm hi f r d<;>simp_all[Sort.size_swp]
end Go.Sx
set_option maxRecDepth 100000
namespace Go.Proofs
open Go Go.Sx Tryz
section
structure ZG where
 nan:Nat
 less:Nat
 BH:Nat
 JW:Nat
 heap:Nat
 rev:Nat
 pins:Nat
 ux:Nat
 part:Nat
 Zz:Nat
 D5:Nat
 YZ:Nat
 D9:Nat
 Z9:Nat
 Xk:Nat
section
variable (zs:ZG)
variable {g:Gh} {a0 a1 a2 a3 a4 a5 a6 a7 a8 a9 sK sJ ZF ZE ZD ZC:zV} {H:Hp} {R:Rt}
def L9000:Y1:=λ_ a b c=>lN a a λa=>rt c a b
def L9001:Y2:=λa b c d e=>jB (λf g=>rt e f g) λf=>CF a zs.nan #[b] d (λd g=>Split d true (CF a zs.nan #[c] g (λa d=>Un .not a λa=>aI vT a vF λa=>Split a false (lL b c λa=>aI vF vT a λa=>JE f [a] d) (aI vT vT undef λa=>JE f [a] d)) (cv e)) (aI vF undef vF λa=>lL b c λb=>aI a vT b λa=>JE f [a] g)) (cv e)
def L9002:Y3:=λa b c d e f=>lA c i1 λg=>yA [g] e λe g h i=>lL h d λd=>Br d (yA [h] i λd j k l=>jB (λm n=>Br m (DR n λm=>lS k i1 λo=>lS k i1 λp=>lI 1 b p m λp=>lI 1 b k m λm=>ah 1 b k λq=>St 1 n q p λp=>ah 1 b o λo=>St 1 p o m λm=>lS k i1 λo=>az d j [o] m [k] l) (lA h i1 λd=>az e g [d] n [h] i)) λd=>DR l λe=>lG k c λc=>Br c (lI 1 b k e λc=>lS k i1 λg=>lI 1 b g e λb=>∀e:Hp,
CF (a.add e) zs.less #[c,b] l (λa b=>aI vT a vF λa=>JE d [a] b) gu) (JE d [vF] l)) (rt f (.tuple #[]) i)
def L9003:Y4:=λa b c d e f g=>yA [c] f λc f h i=>oM (iv 2) h λj=>lA j i1 λj=>oG j d λk=>Br k (rt g (.tuple #[]) i) (jB (λk l=>DR l λm=>lA e h λn=>lI 1 b n m λn=>lA e k λo=>lI 1 b o m λm=>CF a zs.less #[n,m] l (λl m=>Un .not l λl=>Br l (rt g (.tuple #[]) m) (DR m λg=>lA e h λl=>lA e k λn=>lA e k λo=>lI 1 b o g λo=>lA e h λp=>lI 1 b p g λg=>ah 1 b l λl=>St 1 m l o λl=>ah 1 b n λm=>St 1 l m g λg=>az c f [k] g [h] i)) gu) λc=>jB (λf g=>Br f (lA j i1 λf=>JE c [f] g) (JE c [j] g)) λc=>DR i λf=>lA j i1 λg=>lL g d λd=>Br d (lA e j λd=>lI 1 b d f λd=>lA e j λe=>lA e i1 λe=>lI 1 b e f λb=>∀e:Hp,
CF (a.add e) zs.less #[d,b] i (λa b=>aI vT a vF λa=>JE c [a] b) gu) (JE c [vF] i))
def L9004:Y3:=λa b c d e f=>lS d c λd=>lS d i1 λg=>ae .num .quo g (iv 2) λg=>yA [g] e λe g h i=>oG h i0 λj=>Br j (CF a zs.JW #[b,h,d,c] i (λ_ j=>lS h i1 λk=>az e g [k] j [h] i) (cv f)) (lS d i1 λd=>yA [d] i λd e g h=>oG g i0 λi=>Br i (DR h λi=>lA c g λj=>lA c g λk=>lI 1 b k i λk=>lI 1 b c i λi=>ah 1 b c λl=>St 1 h l k λk=>ah 1 b j λj=>St 1 k j i λi=>CF a zs.JW #[b,i0,g,c] i (λ_ a=>lS g i1 λb=>az d e [b] a [g] h) (cv f)) (rt f (.tuple #[]) h))
def L9005:Y3:=λ_ a b c d e=>lS c i1 λc=>yB [b,c] d λb c d f g=>lL d f λh=>Br h (DR g λh=>lI 1 a f h λi=>lI 1 a d h λh=>ah 1 a d λj=>St 1 g j i λi=>ah 1 a f λa=>St 1 i a h λa=>lA d i1 λh=>lS f i1 λi=>az b c [h,i] a [d,f] g) (rt e (.tuple #[]) g)
def L9006:Y3:=λa b c d e f=>lA c i1 λg=>yB [g,i0] e λe g h i j=>lL i (iv 5) λk=>Br k (jB (λk l=>lA i i1 λm=>az e g [k,m] l [h,i] j) λe=>yA [h] j λg h i k=>jB (λl m=>Br l (lA i i1 λl=>az g h [l] m [i] k) (lE i d λg=>Br g (rt f vT m) (lS d c λg=>lL g (iv 50) λg=>Br g (rt f vF m) (DR m λg=>lS i i1 λh=>lS i i1 λl=>lI 1 b l g λl=>lI 1 b i g λg=>ah 1 b i λn=>St 1 m n l λl=>ah 1 b h λh=>St 1 l h g λg=>jA (λh=>lS d i λl=>oG l (iv 2) λl=>Br l (lA i i1 λl=>yA [l] h λl m n o=>lL n d λp=>Br p (DR o λp=>lI 1 b n p λq=>lS n i1 λr=>lI 1 b r p λp=>CF a zs.less #[q,p] o (λp q=>Un .not p λp=>Br p (JE e [i] q) (DR q λp=>lS n i1 λr=>lS n i1 λs=>lI 1 b s p λs=>lI 1 b n p λp=>ah 1 b n λt=>St 1 q t s λq=>ah 1 b r λr=>St 1 q r p λp=>lA n i1 λq=>az l m [q] p [n] o)) gu) (JE e [i] o)) (JE e [i] h)) λe=>lS i c λc=>oG c (iv 2) λc=>Br c (lS i i1 λc=>yA [c] g λc h l m=>oG l i1 λn=>Br n (DR m λn=>lI 1 b l n λo=>lS l i1 λp=>lI 1 b p n λn=>CF a zs.less #[o,n] m (λn o=>Un .not n λn=>Br n (JE e [] o) (DR o λn=>lS l i1 λp=>lS l i1 λq=>lI 1 b q n λq=>lI 1 b l n λn=>ah 1 b l λr=>St 1 o r q λo=>ah 1 b p λp=>St 1 o p n λn=>lS l i1 λo=>az c h [o] n [l] m)) gu) (JE e [] m)) (JE e [] g))))) λc=>DR k λe=>lL i d λd=>Br d (lI 1 b i e λd=>lS i i1 λg=>lI 1 b g e λb=>∀e:Hp,
CF (a.add e) zs.less #[d,b] k (λa b=>Un .not a λa=>aI vT a vF λa=>JE c [a] b) gu) (JE c [vF] k)) (rt f vF j)
def L9007:Y4:=λa b c d e f g=>DR f λh=>lI 1 b e h λi=>lI 1 b c h λh=>ah 1 b c λj=>St 1 f j i λf=>ah 1 b e λe=>St 1 f e h λe=>lA c i1 λf=>lS d i1 λd=>yB [f,d] e λd e f h i=>yA [f] i λj k l m=>jB (λn o=>Br n (lA l i1 λn=>az j k [n] o [l] m) (yA [h] o λj k n o=>jB (λp q=>Br p (lS n i1 λp=>az j k [p] q [n] o) (lG l n λj=>Br j (rt g l q) (DR q λg=>lI 1 b n g λj=>lI 1 b l g λg=>ah 1 b l λk=>St 1 q k j λj=>ah 1 b n λk=>St 1 j k g λg=>lA l i1 λj=>lS n i1 λk=>az d e [j,k] g [f,h] i))) λd=>DR o λe=>oQ l n λf=>Br f (lI 1 b c e λf=>lI 1 b n e λe=>∀g:Hp,
CF (a.add g) zs.less #[f,e] o (λe f=>aI vT e vF λe=>JE d [e] f) gu) (JE d [vF] o))) λd=>DR m λe=>oQ l h λf=>Br f (lI 1 b c e λc=>lI 1 b l e λb=>∀e:Hp,
CF (a.add e) zs.less #[c,b] m (λa b=>Un .not a λa=>aI vT a vF λa=>JE d [a] b) gu) (JE d [vF] m)
def L9008:Y4:=λa b c d e f g=>DR f λh=>lI 1 b e h λi=>lI 1 b c h λh=>ah 1 b c λj=>St 1 f j i λf=>ah 1 b e λe=>St 1 f e h λe=>lA c i1 λf=>lS d i1 λd=>yA [f] e λe f h i=>jB (λj k=>Br j (lA h i1 λj=>az e f [j] k [h] i) (yA [d] k λe f j k=>jB (λl m=>Br l (lS j i1 λl=>az e f [l] m [j] k) (lG h j λe=>Br e (DR m λe=>lI 1 b c e λf=>lI 1 b j e λe=>ah 1 b j λl=>St 1 m l f λf=>ah 1 b c λl=>St 1 f l e λe=>rt g (tP j vT) e) (DR m λe=>lI 1 b j e λf=>lI 1 b h e λe=>ah 1 b h λl=>St 1 m l f λf=>ah 1 b j λl=>St 1 f l e λe=>lA h i1 λf=>lS j i1 λl=>yB [f,l] e λe f l m n=>yA [l] n λo p q r=>jB (λs t=>Br s (lA q i1 λs=>az o p [s] t [q] r) (yA [m] t λo p s t=>jB (λu v=>Br u (lS s i1 λu=>az o p [u] v [s] t) (lG q s λo=>Br o (DR v λo=>lI 1 b c o λp=>lI 1 b s o λo=>ah 1 b s λu=>St 1 v u p λp=>ah 1 b c λu=>St 1 p u o λo=>rt g (tP s vF) o) (DR v λg=>lI 1 b s g λo=>lI 1 b q g λg=>ah 1 b q λp=>St 1 v p o λo=>ah 1 b s λp=>St 1 o p g λg=>lA q i1 λo=>lS s i1 λp=>az e f [o,p] g [l,m] n))) λe=>DR t λf=>oQ q s λg=>Br g (lI 1 b s f λg=>lI 1 b c f λf=>∀l:Hp,
CF (a.add l) zs.less #[g,f] t (λf g=>Un .not f λf=>aI vT f vF λf=>JE e [f] g) gu) (JE e [vF] t))) λe=>DR r λf=>oQ q m λg=>Br g (lI 1 b q f λg=>lI 1 b c f λf=>∀l:Hp,
CF (a.add l) zs.less #[g,f] r (λf g=>aI vT f vF λf=>JE e [f] g) gu) (JE e [vF] r)))) λe=>DR k λf=>oQ h j λg=>Br g (lI 1 b j f λg=>lI 1 b c f λf=>∀j:Hp,
CF (a.add j) zs.less #[g,f] k (λf g=>Un .not f λf=>aI vT f vF λf=>JE e [f] g) gu) (JE e [vF] k))) λe=>DR i λf=>oQ h d λd=>Br d (lI 1 b h f λd=>lI 1 b c f λb=>∀c:Hp,
CF (a.add c) zs.less #[d,b] i (λa b=>aI vT a vF λa=>JE e [a] b) gu) (JE e [vF] i)
def L9009:Y3:=λa b c d e f=>lS d c λd=>oG d (iv 8) λg=>Br g (aH .u64 d λg=>lQ 1 e #[(wi 0)] 366 g λg h=>CR f a 278 #[d] h λh i=>ae .num .quo d (iv 4) λj=>oM j (iv 2) λj=>lA c j λj=>lS j i1 λj=>yA [j] i λi j k l=>ae .num .quo d (iv 4) λm=>oM m (iv 2) λm=>lA c m λm=>lA m i1 λm=>oQ k m λm=>Br m (CR f a 279 #[(pt g)] l λa g=>lS h (wi 1) λh=>oA a h λa=>aH .i64 a λa=>jB (λh m=>DR m λn=>lA c h λo=>lA c h λc=>lI 1 b c n λc=>lI 1 b k n λh=>ah 1 b k λn=>St 1 m n c λc=>ah 1 b o λb=>St 1 c b h λb=>lA k i1 λc=>az i j [c] b [k] l) λb=>oG a d λc=>Br c (lS a d λc=>JE b [c] g) (JE b [a] g)) (rt f (.tuple #[]) l)) (rt f (.tuple #[]) e)
def L9010:Y4:=λa b c d e f g=>DR f λh=>lI 1 b d h λi=>lI 1 b c h λb=>CF a zs.less #[i,b] f (λa b=>Br a (Nil e λa=>Ld b a λa=>lA a i1 λa=>Nil e λe=>St 1 b e a λa=>rt g (tP d c) a) (rt g (tP c d) b)) gu
def L9011:Y5:=λa b c d e f g h=>CF a zs.D5 #[b,c,d,f] g (λc d=>lX c λc g=>CF a zs.D5 #[b,g,e,f] d (λd e=>lX d λd _=>CF a zs.D5 #[b,c,d,f] e (λa b=>lX a λ_ a=>rt h a b) (cv h)) (cv h)) (cv h)
def L9012:Y3:=λa b c d e f=>lS c i1 λg=>lA c i1 λh=>CF a zs.YZ #[b,g,c,h,d] e (λa b=>rt f a b) (cv f)
def L9013:Y3:=λa b c d e f=>lS d c λd=>lW e #[i0] 3 λe g=>ae .num .quo d (iv 4) λh=>oM h i1 λh=>lA c h λh=>ae .num .quo d (iv 4) λi=>oM i (iv 2) λi=>lA c i λi=>ae .num .quo d (iv 4) λj=>oM j (iv 3) λj=>lA c j λc=>jB (λj k=>Ld k (pt e) λl=>lE l i0 λm=>Br m (rt f (tP j i1) k) (lE l (iv 12) λl=>Br l (rt f (tP j (iv 2)) k) (rt f (tP j i0) k))) λj=>oG d (iv 8) λk=>Br k (∀k:Jt,(∀l m n:zV,∀o:Hp,(∀_:Fr,
CF a zs.YZ #[b,l,m,n,(pt e)] o (λp q=>JE j [p] q) (cv f))->k [l,m,n] o)->oG d (iv 50) λd=>Br d (CF a zs.D9 #[b,h,(pt e)] g (λd l=>CF a zs.D9 #[b,i,(pt e)] l (λl m=>CF a zs.D9 #[b,c,(pt e)] m (λa b=>JE k [d,l,a] b) (cv f)) (cv f)) (cv f)) (JE k [h,i,c] g)) (JE j [i] g)
def L9014:Y4:=λa b c d e f g=>∃(h:Jt) (i:Mt),JE h [c,d,e,vT,vT] f/\∀c d e f j:zV,∀k:Hp,h [c,d,e,f,j] k->∀_:Fr,
lS d c λl=>oQ l (iv 12) λm=>Br m (CF a zs.BH #[b,c,d] k (λ_ m=>rt g (.tuple #[]) m) (cv g)) (lE e i0 λm=>Br m (CF a zs.heap #[b,c,d] k (λ_ m=>rt g (.tuple #[]) m) (cv g)) (jB (λm n=>CF a zs.Z9 #[b,c,d] n (λn o=>lX n λn p=>jC (λq r s=>jA (λt=>jB (λu v=>Br u (CF a zs.ux #[b,c,d,q] v (λu w=>az h i [u,d,m,f,j] w [c,d,e,f,j] k) (cv g)) (CF a zs.part #[b,c,d,q] v (λu v=>lX u λu w=>lS u c λx=>lS d u λy=>ae .num .quo l (iv 8) λl=>lL x y λz=>Br z (oG x l λx=>CF a zs.Xk #[b,c,u,m] v (λ_ z=>lA u i1 λA=>az h i [A,d,m,x,w] z [c,d,e,f,j] k) (cv g)) (oG y l λl=>lA u i1 λx=>CF a zs.Xk #[b,x,d,m] v (λ_ v=>az h i [c,u,m,l,w] v [c,d,e,f,j] k) (cv g))) (cv g))) λh=>DR t λi=>lG c i0 λl=>Br l (lS c i1 λl=>lI 1 b l i λl=>lI 1 b q i λi=>∀m:Hp,
CF (a.add m) zs.less #[l,i] t (λi l=>Un .not i λi=>aI vT i vF λi=>JE h [i] l) gu) (JE h [vF] t)) λh=>lU f (λi=>(lV s j i)) λi=>lU (Value.bool i) (λi=>lE r i1 λj=>(lV s j i)) λi=>Br (Value.bool i) (CF a zs.pins #[b,c,d] s (λi j=>Br i (rt g (.tuple #[]) j) (JE h [] j)) (cv g)) (JE h [] s)) λh=>lE p (iv 2) λi=>Br i (CF a zs.rev #[b,c,d] o (λ_ i=>lS d i1 λj=>lS n c λl=>lS j l λj=>JE h [j,i1] i) (cv g)) (JE h [n,p] o)) (cv g)) λh=>Un .not f λf=>Br f (CF a zs.Zz #[b,c,d] k (λ_ a=>lS e i1 λb=>JE h [b] a) (cv g)) (JE h [e] k)))
end
structure Jp(zs:ZG):Prop where
 nan:∀{g:Gh} {a0:zV} {H:Hp} {R:Rt},L9000 g a0 H R->aY zQ g zs.nan #[a0] H R
 less:∀{g:Gh} {a0 a1:zV} {H:Hp} {R:Rt},L9001 zs g a0 a1 H R->aY zQ g zs.less #[a0,a1] H R
 BH:∀{g:Gh} {a0 a1 a2:zV} {H:Hp} {R:Rt},L9002 zs g a0 a1 a2 H R->aY zQ g zs.BH #[a0,a1,a2] H R
 JW:∀{g:Gh} {a0 a1 a2 a3:zV} {H:Hp} {R:Rt},L9003 zs g a0 a1 a2 a3 H R->aY zQ g zs.JW #[a0,a1,a2,a3] H R
 heap:∀{g:Gh} {a0 a1 a2:zV} {H:Hp} {R:Rt},L9004 zs g a0 a1 a2 H R->aY zQ g zs.heap #[a0,a1,a2] H R
 rev:∀{g:Gh} {a0 a1 a2:zV} {H:Hp} {R:Rt},L9005 g a0 a1 a2 H R->aY zQ g zs.rev #[a0,a1,a2] H R
 pins:∀{g:Gh} {a0 a1 a2:zV} {H:Hp} {R:Rt},L9006 zs g a0 a1 a2 H R->aY zQ g zs.pins #[a0,a1,a2] H R
 ux:∀{g:Gh} {a0 a1 a2 a3:zV} {H:Hp} {R:Rt},L9007 zs g a0 a1 a2 a3 H R->aY zQ g zs.ux #[a0,a1,a2,a3] H R
 part:∀{g:Gh} {a0 a1 a2 a3:zV} {H:Hp} {R:Rt},L9008 zs g a0 a1 a2 a3 H R->aY zQ g zs.part #[a0,a1,a2,a3] H R
 Zz:∀{g:Gh} {a0 a1 a2:zV} {H:Hp} {R:Rt},L9009 g a0 a1 a2 H R->aY zQ g zs.Zz #[a0,a1,a2] H R
 D5:∀{g:Gh} {a0 a1 a2 a3:zV} {H:Hp} {R:Rt},L9010 zs g a0 a1 a2 a3 H R->aY zQ g zs.D5 #[a0,a1,a2,a3] H R
 YZ:∀{g:Gh} {a0 a1 a2 a3 a4:zV} {H:Hp} {R:Rt},L9011 zs g a0 a1 a2 a3 a4 H R->aY zQ g zs.YZ #[a0,a1,a2,a3,a4] H R
 D9:∀{g:Gh} {a0 a1 a2:zV} {H:Hp} {R:Rt},L9012 zs g a0 a1 a2 H R->aY zQ g zs.D9 #[a0,a1,a2] H R
 Z9:∀{g:Gh} {a0 a1 a2:zV} {H:Hp} {R:Rt},L9013 zs g a0 a1 a2 H R->aY zQ g zs.Z9 #[a0,a1,a2] H R
 Xk:∀{g:Gh} {a0 a1 a2 a3:zV} {H:Hp} {R:Rt},L9014 zs g a0 a1 a2 a3 H R->aY zQ g zs.Xk #[a0,a1,a2,a3] H R
def zR:ZG:=⟨325,315,309,322,310,313,314,316,317,311,327,324,323,312,302⟩
theorem ZO:Jp zR:=⟨λh=>eV (hn:=.e) func325 h zK,
 λh=>eV (hn:=(.n .e (.h 1 [4] [] .e .e))) func315 h zK,
 λh=>eV (hn:=(.n .e (.n (.h 0 [6] [0,1,2] (.n .e (.n (.n (.n .e (.n (.h 0 [7] [0,1,2,6] (.n (.h 1 [30] [0,1,2,6,7] (.h 1 [] [] (.h 0 [0] [] (.h 0 [1] [] (.h 0 [2] [] (.h 2 [3] [] (.h 0 [4] [] (.h 0 [5] [] (.h 0 [6] [] (.h 0 [7] [] (.h 0 [8] [] (.h 0 [9] [] (.h 0 [10] [] (.h 0 [11] [] (.h 0 [12] [] (.h 0 [13] [] (.h 0 [14] [] .e .e) .e) .e) .e) .e) .e) .e) .e) .e) .e) .e) (.h 0 [4] [] (.h 0 [5] [] (.h 0 [6] [] (.h 0 [7] [] (.h 0 [8] [] (.h 0 [9] [] (.h 0 [10] [] (.h 0 [11] [] (.h 0 [12] [] (.h 0 [13] [] (.h 3 [14] [] .e .e) .e) .e) .e) .e) .e) .e) .e) .e) .e) .e)) .e) .e) .e) .e) .e) (.n (.n (.h 0 [0,1,2,3,4,5,6,7,8,9,10,11,12,13,14,15,16,17] [] .e .e) .e) .e)) .e) .e)) .e) .e)) .e) .e))) func309 h zK,
 λh=>eV (hn:=(.n .e (.n (.h 0 [8] [0,2,3] (.n (.n .e (.n .e (.h 1 [9] [0,2,3,8] (.h 1 [36] [0,2,3,8,9] (.h 1 [] [] (.h 0 [0] [] (.h 0 [1] [] (.h 0 [2] [] (.h 0 [3] [] (.h 2 [4] [] (.h 0 [5] [] (.h 0 [6] [] (.h 0 [7] [] (.h 0 [8] [] (.h 0 [9] [] (.h 0 [10] [] (.h 0 [11] [] (.h 0 [12] [] (.h 0 [13] [] (.h 0 [14] [] (.h 0 [15] [] (.h 0 [16] [] (.h 0 [17] [] (.h 0 [18] [] (.h 0 [19] [] .e .e) .e) .e) .e) .e) .e) .e) .e) .e) .e) .e) .e) .e) .e) .e) (.h 0 [5] [] (.h 0 [6] [] (.h 0 [7] [] (.h 0 [8] [] (.h 0 [9] [] (.h 0 [10] [] (.h 0 [11] [] (.h 0 [12] [] (.h 0 [13] [] (.h 0 [14] [] (.h 0 [15] [] (.h 0 [16] [] (.h 0 [17] [] (.h 0 [18] [] (.h 3 [19] [] .e .e) .e) .e) .e) .e) .e) .e) .e) .e) .e) .e) .e) .e) .e) .e)) .e) .e) .e) .e) .e) .e) (.n (.n (.h 0 [0,1,2,3,4,5,6,7,8,9,10,11,12,13] [] .e .e) .e) (.n (.h 0 [0,1,2,3,4,5,6,7,8,9,10,11,12,13,14,15,16,17,18,19,20,21,22,23] [] .e .e) .e))))) .e) .e) .e))) func322 h zK,
 λh=>eV (hn:=(.n .e (.n .e (.n .e (.n (.n .e (.n (.h 0 [9] [0,6,7,8] .e .e) .e)) (.n .e (.n (.h 0 [10] [0,6,7] (.n .e (.n (.n (.n (.h 0 [0,1,2,3,4,5,6,7,8,9,10,11,12,13,14,15,16,17,18,19] [] .e .e) .e) .e) .e)) .e) .e))))))) func310 h zK,
 λh=>eV (hn:=(.n .e (.n .e (.n (.h 0 [6,7] [0] (.n .e (.n (.n (.h 0 [0,1,2,3,4,5,6,7,8,9,10,11,12,13,14,15] [] .e .e) .e) .e)) .e) .e)))) func313 h zK,
 λh=>eV (hn:=(.n .e (.n .e (.n (.n .e (.n (.h 0 [7,8] [0,1,2] (.n .e (.h 1 [7] [0,1,2,8] (.n (.n (.n (.h 0 [7] [0,1,2,8] (.n (.h 1 [32] [0,1,2,7,8] (.h 1 [] [] (.h 0 [0] [] (.h 0 [1] [] (.h 0 [2] [] (.h 2 [3] [] (.h 0 [4] [] (.h 0 [5] [] (.h 0 [6] [] (.h 0 [7] [] (.h 0 [8] [] (.h 0 [9] [] (.h 0 [10] [] (.h 0 [11] [] (.h 0 [12] [] (.h 0 [13] [] (.h 0 [14] [] (.h 0 [15] [] .e .e) .e) .e) .e) .e) .e) .e) .e) .e) .e) .e) .e) (.h 0 [4] [] (.h 0 [5] [] (.h 0 [6] [] (.h 0 [7] [] (.h 0 [8] [] (.h 0 [9] [] (.h 0 [10] [] (.h 0 [11] [] (.h 0 [12] [] (.h 0 [13] [] (.h 0 [14] [] (.h 3 [15] [] .e .e) .e) .e) .e) .e) .e) .e) .e) .e) .e) .e) .e)) .e) .e) .e) .e) .e) .e) .e) .e) (.n .e (.n .e (.n (.h 0 [0,1,2,3,4,5,6,7,8,9,10,11,12,13,14,15,16,17] [] .e .e) (.h 1 [] [0,1,2,7,8] (.n .e (.n (.n .e (.n (.h 0 [9] [0,1,2,7,8] (.n .e (.n (.n (.n (.n (.h 0 [0,1,2,3,4,5,6,7,8,9,10] [] .e .e) .e) (.h 0 [0,1,2,3,4,5,6,7,8,9,10,11,12,13,14,15,16,17] [] .e .e)) .e) .e)) .e) .e)) .e)) (.n .e (.n (.n .e (.n (.h 0 [10] [0,1,2,7,8] (.n .e (.n (.n (.n (.n (.h 0 [0,1,2,3,4,5,6,7,8,9,10] [] .e .e) .e) (.h 0 [0,1,2,3,4,5,6,7,8,9,10,11,12,13,14,15,16,17] [] .e .e)) .e) .e)) .e) .e)) .e))))))) .e) .e)) .e) .e)) .e)))) func314 h zK,
 λh=>eV (hn:=(.n .e (.n (.h 0 [0,1,2,3,4,5,6,7,8,9,10,11,12,13,14,15] [] .e .e) (.n .e (.n (.n (.h 0 [9,10] [0,1] (.n (.n (.n (.h 0 [9] [0,1,10] (.n (.h 1 [43] [0,1,9,10] (.h 1 [] [] (.h 0 [0] [] (.h 0 [1] [] (.h 0 [2] [] (.h 2 [3] [] (.h 0 [4] [] (.h 0 [5] [] (.h 0 [6] [] (.h 0 [7] [] (.h 0 [8] [] (.h 0 [9] [] (.h 0 [10] [] (.h 0 [11] [] (.h 0 [12] [] (.h 0 [13] [] (.h 0 [14] [] .e .e) .e) .e) .e) .e) .e) .e) .e) .e) .e) .e) (.h 0 [4] [] (.h 0 [5] [] (.h 0 [6] [] (.h 0 [7] [] (.h 0 [8] [] (.h 0 [9] [] (.h 0 [10] [] (.h 0 [11] [] (.h 0 [12] [] (.h 0 [13] [] (.h 3 [14] [] .e .e) .e) .e) .e) .e) .e) .e) .e) .e) .e) .e)) .e) .e) .e) .e) .e) .e) .e) .e) (.n (.n (.h 0 [10] [0,1,9] (.n (.h 1 [59] [0,1,9,10] (.h 1 [] [] (.h 0 [0] [] (.h 0 [1] [] (.h 0 [2] [] (.h 2 [3] [] (.h 0 [4] [] (.h 0 [5] [] (.h 0 [6] [] (.h 0 [7] [] (.h 0 [8] [] (.h 0 [9] [] (.h 0 [10] [] (.h 0 [11] [] (.h 0 [12] [] (.h 0 [13] [] .e .e) .e) .e) .e) .e) .e) .e) .e) .e) .e) (.h 0 [4] [] (.h 0 [5] [] (.h 0 [6] [] (.h 0 [7] [] (.h 0 [8] [] (.h 0 [9] [] (.h 0 [10] [] (.h 0 [11] [] (.h 0 [12] [] (.h 3 [13] [] .e .e) .e) .e) .e) .e) .e) .e) .e) .e) .e)) .e) .e) .e) .e) .e) .e) .e) .e) (.n .e (.n (.h 0 [0,1,2,3,4,5,6,7,8,9,10,11,12,13,14,15] [] .e .e) .e)))) .e) .e) .e) .e))))) func316 h zK,
 λh=>eV (hn:=(.n .e (.n (.h 0 [0,1,2,3,4,5,6,7,8,9,10,11,12,13,14,15] [] .e .e) (.n .e (.n (.n (.h 0 [10] [0,1,11] (.n (.h 1 [43] [0,1,10,11] (.h 1 [] [] (.h 0 [0] [] (.h 0 [1] [] (.h 0 [2] [] (.h 2 [3] [] (.h 0 [4] [] (.h 0 [5] [] (.h 0 [6] [] (.h 0 [7] [] (.h 0 [8] [] (.h 0 [9] [] (.h 0 [10] [] (.h 0 [11] [] (.h 0 [12] [] (.h 0 [13] [] .e .e) .e) .e) .e) .e) .e) .e) .e) .e) .e) (.h 0 [4] [] (.h 0 [5] [] (.h 0 [6] [] (.h 0 [7] [] (.h 0 [8] [] (.h 0 [9] [] (.h 0 [10] [] (.h 0 [11] [] (.h 0 [12] [] (.h 3 [13] [] .e .e) .e) .e) .e) .e) .e) .e) .e) .e) .e)) .e) .e) .e) .e) .e) .e) .e) .e) (.n (.n (.h 0 [11] [0,1,10] (.n (.h 1 [60] [0,1,10,11] (.h 1 [] [] (.h 0 [0] [] (.h 0 [1] [] (.h 0 [2] [] (.h 2 [3] [] (.h 0 [4] [] (.h 0 [5] [] (.h 0 [6] [] (.h 0 [7] [] (.h 0 [8] [] (.h 0 [9] [] (.h 0 [10] [] (.h 0 [11] [] (.h 0 [12] [] (.h 0 [13] [] (.h 0 [14] [] .e .e) .e) .e) .e) .e) .e) .e) .e) .e) .e) .e) (.h 0 [4] [] (.h 0 [5] [] (.h 0 [6] [] (.h 0 [7] [] (.h 0 [8] [] (.h 0 [9] [] (.h 0 [10] [] (.h 0 [11] [] (.h 0 [12] [] (.h 0 [13] [] (.h 3 [14] [] .e .e) .e) .e) .e) .e) .e) .e) .e) .e) .e) .e)) .e) .e) .e) .e) .e) .e) .e) .e) (.n (.n .e (.n (.n (.h 0 [0,1,2,3,4,5,6,7,8,9,10,11,12,13,14,15] [] .e .e) .e) .e)) (.n (.h 0 [0,1,2,3,4,5,6,7,8,9,10,11,12,13,14,15] [] .e .e) (.n .e (.n .e (.n (.n (.h 0 [10,11] [0,1] (.n (.n (.n (.h 0 [10] [0,1,11] (.n (.h 1 [112] [0,1,10,11] (.h 1 [] [] (.h 0 [0] [] (.h 0 [1] [] (.h 0 [2] [] (.h 2 [3] [] (.h 0 [4] [] (.h 0 [5] [] (.h 0 [6] [] (.h 0 [7] [] (.h 0 [8] [] (.h 0 [9] [] (.h 0 [10] [] (.h 0 [11] [] (.h 0 [12] [] (.h 0 [13] [] .e .e) .e) .e) .e) .e) .e) .e) .e) .e) .e) (.h 0 [4] [] (.h 0 [5] [] (.h 0 [6] [] (.h 0 [7] [] (.h 0 [8] [] (.h 0 [9] [] (.h 0 [10] [] (.h 0 [11] [] (.h 0 [12] [] (.h 3 [13] [] .e .e) .e) .e) .e) .e) .e) .e) .e) .e) .e)) .e) .e) .e) .e) .e) .e) .e) .e) (.n (.n (.h 0 [11] [0,1,10] (.n (.h 1 [129] [0,1,10,11] (.h 1 [] [] (.h 0 [0] [] (.h 0 [1] [] (.h 0 [2] [] (.h 2 [3] [] (.h 0 [4] [] (.h 0 [5] [] (.h 0 [6] [] (.h 0 [7] [] (.h 0 [8] [] (.h 0 [9] [] (.h 0 [10] [] (.h 0 [11] [] (.h 0 [12] [] (.h 0 [13] [] (.h 0 [14] [] .e .e) .e) .e) .e) .e) .e) .e) .e) .e) .e) .e) (.h 0 [4] [] (.h 0 [5] [] (.h 0 [6] [] (.h 0 [7] [] (.h 0 [8] [] (.h 0 [9] [] (.h 0 [10] [] (.h 0 [11] [] (.h 0 [12] [] (.h 0 [13] [] (.h 3 [14] [] .e .e) .e) .e) .e) .e) .e) .e) .e) .e) .e) .e)) .e) .e) .e) .e) .e) .e) .e) .e) (.n .e (.n (.h 0 [0,1,2,3,4,5,6,7,8,9,10,11,12,13,14,15] [] .e .e) .e)))) .e) .e) .e) (.n (.h 0 [0,1,2,3,4,5,6,7,8,9,10,11,12,13,14,15] [] .e .e) .e)))))))))))) func317 h zK,
 λh=>eV (hn:=(.n .e (.n .e (.n (.n .e (.n .e (.n .e (.n (.h 0 [9] [0,1,6,7,8] (.n .e (.n (.n (.n .e (.h 1 [10] [0,1,6,7,8,9] .e (.h 0 [0,1,2,3,4,5,6,7,8,9,10,11,12,13,14,15,16,17,18,19] [] .e .e))) .e) .e)) .e) .e)))) .e)))) func311 h zK,
 λh=>eV (hn:=(.n .e (.n (.n (.h 0 [0,1,2,3,4,5,6,7,8] [] .e .e) .e) .e))) func327 h zK,
 λh=>eV (hn:=.e) func324 h zK,
 λh=>eV (hn:=.e) func323 h zK,
 λh=>eV (hn:=(.n .e (.n .e (.n .e (.n .e (.n .e (.n .e (.h 1 [11] [9] (.n .e (.n (.h 1 [10,11,12] [0,9] .e .e) .e)) .e)))))))) func312 h zK,
 λh=>eV (hn:=(.n .e (.n .e (.n (.h 0 [1,2,3,8,9] [0] (.n (.n .e (.n .e (.n .e (.h 1 [3] [0,1,2,8,9,10] .e (.n .e (.h 1 [11,12] [0,1,2,3,8,9,10] .e (.h 1 [] [0,1,2,3,8,9,10,11] (.n (.h 0 [] [1] .e .e) .e) (.n (.h 1 [87] [0,1,2,3,8,9,10,11] (.h 1 [] [] (.h 0 [0] [] (.h 0 [1] [] (.h 2 [2] [] (.h 0 [3] [] (.h 0 [4] [] (.h 0 [5] [] (.h 0 [6] [] (.h 0 [7] [] (.h 0 [8] [] (.h 0 [9] [] (.h 0 [10] [] (.h 0 [11] [] (.h 0 [12] [] (.h 0 [13] [] (.h 0 [14] [] .e .e) .e) .e) .e) .e) .e) .e) .e) .e) .e) .e) .e) (.h 0 [3] [] (.h 0 [4] [] (.h 0 [5] [] (.h 0 [6] [] (.h 0 [7] [] (.h 0 [8] [] (.h 0 [9] [] (.h 0 [10] [] (.h 0 [11] [] (.h 0 [12] [] (.h 0 [13] [] (.h 3 [14] [] .e .e) .e) .e) .e) .e) .e) .e) .e) .e) .e) .e) .e)) .e) .e) .e) .e) .e)))))))) .e) .e) .e)))) func302 h zK⟩
end
section
def SXZ(T:TypeId)(kd:IntKind)(v:zV)(d:Array Int):zV->Hp->Prop:=λr C'=>r=.tuple #[]/\Da T kd v d C'
section
variable {v:zV} {d:Array Int} {C:Hp} {T:TypeId} {kd:IntKind} {zs:ZG} (ok:Jp zs)
include ok in
theorem TU(x:Int)(B:Hp):Rd zQ zs.nan #[.int kd x] B (· =.bool false):=by
 refine aK λg=>ok.nan ?_;exact ae.ic (bD.mk (.refl _) zI)
include ok in
theorem dm(x y:Int)(B:Hp):Rd zQ zs.less #[.int kd x,.int kd y] B (· =.bool (cm x y)):=by
 refine aK λg=>ok.less ?_;intro J1 hJ1;exact aa.eq (TU ok x B) (Split.TO rfl (aI.mk (ae.lss (aI.mk (JE.mk (hJ1 _ _ λgs=>bD.mk (.refl _) rfl))))))
include ok in
theorem xX(h:Da T kd v d C){a b:Nat}(hab:a<=b)(hb:b<=d.size)(cJ:d.size<1152921504606846976):Fc zQ zs.BH #[v,iv (a:Int),iv (b:Int)] C (SXZ T kd v (Sort.insertionSort cm d a b)):=by
 refine aK λg=>ok.BH ?_;refine ae.inc (⟨λvs H=>∃(i:Nat) (e:Array Int),vs=[iv (i:Int)]/\a<i/\e.size=d.size/\Sort.insOuter cm a b i e=Sort.insertionSort cm d a b/\Da T kd v e H,λvs _=>d.size-bA vs 0,JE.mk ⟨a+1,d,rfl,by omega,rfl,rfl,h⟩,?_⟩);rintro w H ⟨i,e,hw,hi,hs,he,hd⟩ gs;simp only[xaz,xbb]at hw;subst hw;rw[Sort.insOuter]at he;refine ae.cX (Br.dec (λhlt=>?_) (λhge=>?_));rotate_left
 ·rw[xac hge]at he;exact aQ.here ⟨rfl,by rw[<-he];exact hd⟩
 rw[xae hlt]at he;refine⟨λvs H=>∃(j:Nat) (e:Array Int),vs=[iv (j:Int)]/\a<=j/\j<=i/\e.size=d.size/\Sort.insOuter cm a b (i+1) (Sort.insInner cm a j e)=Sort.insertionSort cm d a b/\Da T kd v e H,λvs _=>bA vs 0,JE.mk ⟨i,e,rfl,by omega,xal _,hs,he,hd⟩,?_⟩;clear hd he hs e;rintro w H ⟨j,e,hw,Yb,P8,hs,he,hd⟩ gs;simp only[xaz,xbb]at hw;subst hw;intro J hJ;have no:Sort.insInner cm a j e=e->J [.bool false] H:=λhi=>hJ _ _ λgs=>Br.no (ae.inc (az.mk ⟨i+1,e,rfl,by omega,hs,by rw[hi]at he;exact he,hd⟩ (by simp[bA];omega)));have yes:a<j->Sort.insInner cm a j e=Sort.insInner cm a (j-1) (Sort.swp e j (j-1))->J [.bool true] H:=λYb hi=>hJ _ _ λgs=>Br.yes (DR.self (ae.cc (b:=1) (ae.cc (b:=1)
  (hd.swap .here zO zO λC' dG=>ae.cc (b:=1) (az.mk ⟨j-1,_,rfl,by omega,by omega,g8 hs,by rw[<-hi];exact he,dG⟩ (by simp[bA];omega))))))
 refine DR.self (ae.gW (Br.dec (λhgt=>?_) λhn=>JE.mk (no (PG hn))));refine hd.ld (λ_ h=>h) zO (ae.cc (b:=1) (hd.ld (λ_ h=>h) zO λF=>?_));refine aa.eq (dm ok _ _ _) (aI.mk ?_);have hst:=PI (e:=e) hgt;cases hl:cm e[j]! e[j-1]!
 ·rw[hl]at hst;exact JE.mk (no hst)
 rw[hl]at hst;exact JE.mk (yes hgt hst)
include ok in
theorem Tv(h:Da T kd v d C){a b:Nat}(hab:a<b)(hb:b<=d.size)(cJ:d.size<1152921504606846976):Fc zQ zs.rev #[v,iv (a:Int),iv (b:Int)] C (SXZ T kd v (Sort.reverseRange d a b)):=by
 refine aK λg=>ok.rev ?_;refine ae.cc (b:=1) (⟨λvs H=>∃(i j:Nat) (e:Array Int),vs=[iv (i:Int),iv (j:Int)]/\j<d.size/\e.size=d.size/\Sort.reverseLoop i j e=Sort.reverseRange d a b/\Da T kd v e H,λvs _=>bA vs 1-bA vs 0,JE.mk ⟨a,b-1,d,rfl,by omega,rfl,rfl,h⟩,?_⟩);rintro w w' H ⟨i,j,e,hw,hj,hs,he,hd⟩ gs;simp only[xaz,xbb]at hw;obtain⟨rfl,rfl⟩:=hw;rw[Sort.reverseLoop]at he;refine ae.cX (Br.dec (λhlt=>?_) (λhge=>?_));rotate_left
 ·rw[xac hge]at he;exact aQ.here ⟨rfl,by rw[<-he];exact hd⟩
 rw[xae hlt]at he;refine DR.self (hd.swap .here zO zO λC' dG=>?_);exact ae.inc (ae.cc (b:=1) (az.mk ⟨i+1,j-1,_,rfl,by omega,g8 hs,he,dG⟩ (by simp[bA];omega)))
include ok in
theorem O3(h:Da T kd v d C){a b:Nat}(hab:a<b)(hb:b<=d.size)(cJ:d.size<1152921504606846976):Fc zQ zs.pins #[v,iv (a:Int),iv (b:Int)] C (λr C'=>r=.bool (Sort.partialInsertionSort cm d a b).2/\Da T kd v (Sort.partialInsertionSort cm d a b).1 C'):=by
 refine aK λg=>ok.pins ?_;refine ae.inc ?_;have fin:∀{e:Array Int} {t:Bool} {H:Hp},(e,t)=Sort.partialInsertionSort cm d a b->Da T kd v e H->aQ (λr C'=>r=.bool (Sort.partialInsertionSort cm d a b).2/\Da T kd v (Sort.partialInsertionSort cm d a b).1 C') (.returned (.bool t)) H:=λhe hd=>by
  rw[<-he];exact aQ.here ⟨rfl,hd⟩
 refine⟨λvs H=>∃(i k:Nat) (e:Array Int),vs=[iv (i:Int),iv (k:Int)]/\k<=5/\a<i/\i<=b/\e.size=d.size/\Sort.partialIns cm a b (5-k) i e=Sort.partialInsertionSort cm d a b/\Da T kd v e H,λvs _=>5-bA vs 1,JE.mk ⟨a+1,0,d,rfl,by omega,by omega,by omega,rfl,rfl,h⟩,?_⟩;rintro w w' H ⟨i0,k,e,hw,hk5,SA,x9,hs,he,hd⟩ gs;simp only[xaz,xbb]at hw;obtain⟨rfl,rfl⟩:=hw;refine ae.cX (b:=5) (Br.dec (λhk=>?_) (λhk=>?_));rotate_left
 ·obtain rfl:k=5:=by omega
  exact fin he hd
 rw[show 5-k=(5-(k+1))+1 by omega,Sort.partialIns_succ]at he;intro J9 QC;refine⟨λvs H=>∃i:Nat,vs=[iv (i:Int)]/\a<i/\i<=b/\Sort.scanSorted cm e b i=Sort.scanSorted cm e b i0/\Da T kd v e H,λvs _=>b-bA vs 0,JE.mk ⟨i0,rfl,SA,x9,rfl,hd⟩,?_⟩;clear hd SA x9;rintro w H ⟨i,hw,SA,x9,hsc,hd⟩ gs;simp only[xaz,xbb]at hw;subst hw;rw[<-hsc]at he;rw[Sort.scanSorted]at hsc;intro J19 abP;have yes:i<b->(!cm e[i]! e[i-1]!)=true->J19 [.bool true] H:=λhlt hl=>abP _ _ λgs=>Br.yes (ae.inc (az.mk ⟨i+1,rfl,by omega,by omega,by rw[<-hsc,xau hlt,hl];rfl,hd⟩ (by simp[bA];omega)));have no:Sort.scanSorted cm e b i=i->J19 [.bool false] H:=λhi=>by
  rw[hi]at he;refine abP _ _ λgs=>Br.no ?_;refine ae.bB (Br.dec (λhz=>?_) (λhne=>?_))
  ·rw[xae hz]at he;exact fin he hd
  rw[xac hne]at he;refine ae.cc (ae.cX (b:=50) (Br.dec (λhz=>?_) (λhz=>?_)))
  ·rw[xae hz]at he;exact fin he hd
  rw[xac hz]at he;refine DR.self (ae.cc (b:=1) (ae.cc (b:=1) (hd.swap .here zO zO λC1 AE=>?_)));have hs1:(Sort.swp e i (i-1)).size=d.size:=g8 hs;generalize Sort.swp e i (i-1)=e1 at AE hs1 he;intro J38 afx;have next:∀(f:Array Int) H',f.size=d.size->f=Sort.fixUp cm b i (Sort.fixDown cm a i e1)->Da T kd v f H'->J9 [iv (i:Int)] H':=λf H' h1 h2 dG=>QC _ _ λgs=>ae.inc (az.mk ⟨i,k+1,f,rfl,by omega,SA,x9,h1,by rw[h2];exact he,dG⟩ (by simp[bA];omega))
  have tail:∀(f:Array Int) H',f.size=d.size->f=Sort.fixDown cm a i e1->Da T kd v f H'->J38 [] H':=λf H' h1 h2 dG=>by
   refine afx _ λgs=>?_;rw[<-h2]at next
   unfold Sort.fixUp at next
   refine ae.cc (ae.kM (b:=2) (Br.dec (λh2=>?_) (λh2=>JE.mk (next f _ h1 (by rw[xac h2]) dG))));rw[xae h2]at next
   refine ae.inc (⟨λvs H=>∃(j:Nat) (q:Array Int),vs=[iv (j:Int)]/\0<j/\q.size=d.size/\Sort.shiftUp cm b j q=Sort.shiftUp cm b (i+1) f/\Da T kd v q H,λvs _=>b-bA vs 0,JE.mk ⟨i+1,f,rfl,by omega,h1,rfl,dG⟩,?_⟩);rintro w H ⟨j,q,hw,XY,XI,hq,EA⟩ gs;simp only[xaz,xbb]at hw;subst hw;rw[Sort.shiftUp]at hq;refine ae.cX (Br.dec (λhlt=>?_) (λhge=>?_));rotate_left
   ·rw[xac hge]at hq;exact JE.mk (next q _ XI hq EA)
   rw[xae hlt]at hq;refine DR.self (EA.ld (λ_ h=>h) zO (ae.cc (b:=1) (EA.ld (λ_ h=>h) zO (aa.eq (dm ok _ _ _) (Un.not ?_)))));cases hl:cm q[j]! q[j-1]!
   ·rw[hl]at hq;exact Br.yes (JE.mk (next q _ XI hq EA))
   rw[hl]at hq;refine Br.no (DR.self (ae.cc (b:=1) (ae.cc (b:=1) (EA.swap .here zO zO λC2 wU=>?_))));exact ae.inc (az.mk ⟨j+1,_,rfl,by omega,g8 XI,hq,wU⟩ (by simp[bA];omega))
  unfold Sort.fixDown at tail;refine ae.cc (ae.kM (b:=2) (Br.dec (λh2=>?_) (λh2=>JE.mk (tail e1 _ hs1 (by rw[xac h2]) AE))));rw[xae h2]at tail;refine ae.cc (b:=1) (⟨λvs H=>∃(j:Nat) (q:Array Int),vs=[iv (j:Int)]/\j<d.size/\q.size=d.size/\Sort.shiftDown cm j q=Sort.shiftDown cm (i-1) e1/\Da T kd v q H,λvs _=>bA vs 0,JE.mk ⟨i-1,e1,rfl,by omega,hs1,rfl,AE⟩,?_⟩);rintro w H ⟨j,q,hw,XY,XI,hq,EA⟩ gs;simp only[xaz,xbb]at hw;subst hw;refine ae.kM (b:=1) (Br.dec (λhlt=>?_) (λhge=>JE.mk (tail q _ XI (by rw[<-hq,LA hge]) EA)));rw[rH hlt]at hq;refine DR.self (EA.ld (λ_ h=>h) zO (ae.cc (b:=1) (EA.ld (λ_ h=>h) zO (aa.eq (dm ok _ _ _) (Un.not ?_)))));cases hl:cm q[j]! q[j-1]!
  ·rw[hl]at hq;exact Br.yes (JE.mk (tail q _ XI hq EA))
  rw[hl]at hq;refine Br.no (DR.self (ae.cc (b:=1) (ae.cc (b:=1) (EA.swap .here zO zO λC2 wU=>?_))));exact ae.cc (b:=1) (az.mk ⟨j-1,_,rfl,by omega,g8 XI,hq,wU⟩ (by simp[bA];omega))
 refine DR.self (ae.cX (Br.dec (λhlt=>?_) λhge=>JE.mk (no (by rw[Sort.scanSorted,xac zP]))));refine hd.ld (λ_ h=>h) zO (ae.cc (b:=1) (hd.ld (λ_ h=>h) zO λF=>?_));refine aa.eq (dm ok _ _ _) (Un.not (aI.mk ?_));cases hl:cm e[i]! e[i-1]!
 ·exact JE.mk (yes hlt (by rw[hl];rfl))
 exact JE.mk (no (by rw[Sort.scanSorted,hl,xac zI]))
include ok in
theorem D0(h:Da T kd v d C){a b p:Nat}(hp:a<=p/\p<b)(hb:b<=d.size)(cJ:d.size<1152921504606846976):Fc zQ zs.ux #[v,iv (a:Int),iv (b:Int),iv (p:Int)] C
  (λr C'=>r=iv ((Sort.partitionEqual cm d a b p).1:Nat)/\Da T kd v (Sort.partitionEqual cm d a b p).2 C'):=by
 refine aK λg=>ok.ux ?_;refine DR.self (h.swap .here zO zO λC1 hd=>?_);refine ae.inc (ae.cc (b:=1) (⟨λvs H=>∃(i j:Nat) (e:Array Int),vs=[iv (i:Int),iv (j:Int)]/\a<i/\i<=b/\a<=j/\j<b/\e.size=d.size/\Sort.partEqLoop cm a i j e=Sort.partitionEqual cm d a b p/\Da T kd v e H,λvs _=>b-bA vs 0,JE.mk ⟨a+1,b-1,_,rfl,by omega,by omega,by omega,by omega,g8 rfl,rfl,hd⟩,?_⟩));clear hd;rintro w w' H0 ⟨i0,j0,e,hw,SA,x9,Yb,hjb,hs,he,hd⟩ gs;simp only[xaz,xbb]at hw;obtain⟨rfl,rfl⟩:=hw;rw[Sort.partEqLoop_eq]at he;refine⟨λvs H=>∃i:Nat,vs=[iv (i:Int)]/\i0<=i/\i<=b/\Sort.scanUp (λx=> !cm e[a]! x) e j0 i=Sort.scanUp (λx=> !cm e[a]! x) e j0 i0/\Da T kd v e H,λvs _=>b-bA vs 0,JE.mk ⟨i0,rfl,xal _,x9,rfl,hd⟩,?_⟩;clear hd x9;rintro w H ⟨i,hw,K7,x9,hsc,hd⟩ gs;simp only[xaz,xbb]at hw;subst hw;rw[<-hsc]at he;rw[Sort.scanUp]at hsc;intro J23 abO;have yes:i<=j0->(!cm e[a]! e[i]!)=true->J23 [.bool true] H:=λhle hl=>abO _ _ λgs=>Br.yes (ae.inc (az.mk ⟨i+1,rfl,by omega,by omega,by rw[<-hsc,xau hle,hl];rfl,hd⟩ (by simp[bA];omega)));have no:Sort.scanUp (λx=> !cm e[a]! x) e j0 i=i->J23 [.bool false] H:=λhi=>by
  rw[hi]at he;refine abO _ _ λgs=>Br.no ?_;refine⟨λvs H=>∃j:Nat,vs=[iv (j:Int)]/\a<=j/\j<b/\Sort.scanDown (λx=>cm e[a]! x) e i j=Sort.scanDown (λx=>cm e[a]! x) e i j0/\Da T kd v e H,λvs _=>bA vs 0,JE.mk ⟨j0,rfl,Yb,hjb,rfl,hd⟩,?_⟩;rintro w H' ⟨j,hw,aff,aeP,Up,dG⟩ gs;simp only[xaz,xbb]at hw;subst hw;rw[<-Up]at he;intro ZJ UP;have JB:i<=j->cm e[a]! e[j]! =true->ZJ [.bool true] H':=λhle hl=>UP _ _ λgs=>Br.yes (ae.cc (b:=1) (az.mk ⟨j-1,rfl,by omega,by omega,by rw[<-Up,eR (j:=j) zO,xau hle,hl];rfl,dG⟩ (by simp[bA];omega)));have VN:Sort.scanDown (λx=>cm e[a]! x) e i j=j->ZJ [.bool false] H':=λhj=>by
   rw[hj]at he;refine UP _ _ λgs=>Br.no ?_;refine ae.gW (Br.dec (λhgt=>?_) (λhle=>?_))
   ·rw[xae hgt]at he;exact aQ.here (by rw[<-he];exact⟨rfl,dG⟩)
   rw[xac hle]at he;refine DR.self (dG.swap .here zO zO λC2 wU=>?_);exact ae.inc (ae.cc (b:=1) (az.mk ⟨i+1,j-1,_,rfl,by omega,by omega,by omega,by omega,g8 hs,he,wU⟩ (by simp[bA];omega)))
  refine DR.self (ae.xO (Br.dec (λhle=>?_) λhgt=>JE.mk (VN ?_)));rotate_left
  ·by_cases h0:j=0
   ·subst h0;rfl
   rw[eR zO,xac zP]
  refine dG.ld (λ_ h=>h) zO ?_;refine dG.ld (λ_ h=>h) zO ?_;intro F;refine aa.eq (dm ok _ _ _) (aI.mk ?_);cases hl:cm e[a]! e[j]!
  ·exact JE.mk (VN (by rw[eR zO,hl,xac zI]))
  exact JE.mk (JB hle hl)
 refine DR.self (ae.xO (Br.dec (λhle=>?_) λhgt=>JE.mk (no (by rw[Sort.scanUp,xac zP]))));refine hd.ld (λ_ h=>h) zO (hd.ld (λ_ h=>h) zO λF=>?_);refine aa.eq (dm ok _ _ _) (Un.not (aI.mk ?_));cases hl:cm e[a]! e[i]!
 ·exact JE.mk (yes hle (by rw[hl];rfl))
 exact JE.mk (no (by rw[Sort.scanUp,hl,xac zI]))
end
section
variable {v:zV} {d:Array Int} {C:Hp} {T:TypeId} {kd:IntKind} {zs:ZG} (ok:Jp zs)
include ok in
theorem O5(h:Da T kd v d C){a b p:Nat}(hp:a<=p/\p<b)(hb:b<=d.size)(cJ:d.size<1152921504606846976):Fc zQ zs.part #[v,iv (a:Int),iv (b:Int),iv (p:Int)] C
  (λr C'=>r=.tuple #[iv ((Sort.partition cm d a b p).1:Nat),.bool (Sort.partition cm d a b p).2.1]/\Da T kd v (Sort.partition cm d a b p).2.2 C'):=by
 obtain⟨R,hR⟩:∃R,R=Sort.partition cm d a b p:=⟨_,rfl⟩;rw[<-hR];refine aK λg=>ok.part ?_;refine DR.self (h.swap .here zO zO λC1 hd=>?_);have hs:(Sort.swp d a p).size=d.size:=g8 rfl;have fin:∀{m:Nat} {t:Bool} {e:Array Int} {H:Hp},(m,t,e)=R->Da T kd v e H->aQ (λr C'=>r=.tuple #[iv (R.1:Nat),.bool R.2.1]/\Da T kd v R.2.2 C') (.returned (.tuple #[iv (m:Int),.bool t])) H:=λhe hd=>by
  rw[<-he];exact aQ.here ⟨rfl,hd⟩
 unfold Sort.partition at hR;simp only at hR;generalize Sort.swp d a p=e at hd hs hR;refine ae.inc (ae.cc (b:=1) (⟨λvs H=>∃i:Nat,vs=[iv (i:Int)]/\a<i/\i<=b/\Sort.scanUp (λx=>cm x e[a]!) e (b-1) i=Sort.scanUp (λx=>cm x e[a]!) e (b-1) (a+1)/\Da T kd v e H,λvs _=>b-bA vs 0,JE.mk ⟨a+1,rfl,by omega,by omega,rfl,hd⟩,?_⟩));clear hd;rintro w H ⟨i,hw,SA,x9,hsc,hd⟩ gs;simp only[xaz,xbb]at hw;subst hw;rw[<-hsc]at hR;rw[Sort.scanUp]at hsc;intro YM ED;have yes:i<b->cm e[i]! e[a]! =true->YM [.bool true] H:=λhle hl=>ED _ _ λgs=>Br.yes (ae.inc (az.mk ⟨i+1,rfl,by omega,by omega,by rw[<-hsc,xau (show i<=b-1 by omega),hl];rfl,hd⟩ (by simp[bA];omega)));have no:Sort.scanUp (λx=>cm x e[a]!) e (b-1) i=i->YM [.bool false] H:=λhi=>by
  rw[hi]at hR;refine ED _ _ λgs=>Br.no ?_;refine⟨λvs H=>∃j:Nat,vs=[iv (j:Int)]/\a<=j/\j<b/\Sort.scanDown (λx=> !cm x e[a]!) e i j=Sort.scanDown (λx=> !cm x e[a]!) e i (b-1)/\Da T kd v e H,λvs _=>bA vs 0,JE.mk ⟨b-1,rfl,by omega,by omega,rfl,hd⟩,?_⟩;clear hd;rintro w H ⟨j,hw,Yb,hjb,Up,hd⟩ gs;simp only[xaz,xbb]at hw;subst hw;rw[<-Up]at hR;intro ZK Yi;have JB:i<=j->(!cm e[j]! e[a]!)=true->ZK [.bool true] H:=λhle hl=>Yi _ _ λgs=>Br.yes (ae.cc (b:=1) (az.mk ⟨j-1,rfl,by omega,by omega,by rw[<-Up,eR (j:=j) zO,xau hle,hl];rfl,hd⟩ (by simp[bA];omega)));have VN:Sort.scanDown (λx=> !cm x e[a]!) e i j=j->ZK [.bool false] H:=λhj=>by
   rw[hj]at hR;refine Yi _ _ λgs=>Br.no ?_;refine ae.gW (Br.dec (λhgt=>?_) (λhle=>?_))
   ·rw[xae hgt]at hR;refine DR.self (hd.swap .here zO zO λC2 wU=>?_);exact fin hR.symm wU
   rw[xac hle]at hR;refine DR.self (hd.swap .here zO zO λC2 wU=>?_);refine ae.inc (ae.cc (b:=1) ?_);obtain⟨L,hL⟩:∃L,L=Sort.partLoop cm a (i+1) (j-1) (Sort.swp e i j):=⟨_,rfl⟩;rw[<-hL]at hR;have l8:(Sort.swp e i j).size=d.size:=g8 hs;generalize Sort.swp e i j=e0 at hL wU l8;refine⟨λvs H=>∃(i j:Nat) (e:Array Int),vs=[iv (i:Int),iv (j:Int)]/\a<i/\i<=b/\a<=j/\j<b/\e.size=d.size/\L=Sort.partLoop cm a i j e/\Da T kd v e H,λvs _=>b-bA vs 0,JE.mk ⟨i+1,j-1,e0,rfl,by omega,by omega,by omega,by omega,l8,hL,wU⟩,?_⟩;clear wU hd SA x9 Yb hjb hle JB Yi ZK ED YM yes hL l8 hs hsc hi Up hj;rintro w w' H0 ⟨i0,j0,e,hw,SA,x9,Yb,hjb,hs,he,hd⟩ gs;simp only[xaz,xbb]at hw;obtain⟨rfl,rfl⟩:=hw;rw[Sort.partLoop_eq]at he;refine⟨λvs H=>∃i:Nat,vs=[iv (i:Int)]/\i0<=i/\i<=b/\Sort.scanUp (λx=>cm x e[a]!) e j0 i=Sort.scanUp (λx=>cm x e[a]!) e j0 i0/\Da T kd v e H,λvs _=>b-bA vs 0,JE.mk ⟨i0,rfl,xal _,x9,rfl,hd⟩,?_⟩;clear hd x9;rintro w H ⟨i,hw,K7,x9,hsc,hd⟩ gs;simp only[xaz,xbb]at hw;subst hw;rw[<-hsc]at he;rw[Sort.scanUp]at hsc;intro J64 abL;have yes:i<=j0->cm e[i]! e[a]! =true->J64 [.bool true] H:=λhle hl=>abL _ _ λgs=>Br.yes (ae.inc (az.mk ⟨i+1,rfl,by omega,by omega,by rw[<-hsc,xau hle,hl];rfl,hd⟩ (by simp[bA];omega)));have no:Sort.scanUp (λx=>cm x e[a]!) e j0 i=i->J64 [.bool false] H:=λhi=>by
    rw[hi]at he;refine abL _ _ λgs=>Br.no ?_;refine⟨λvs H=>∃j:Nat,vs=[iv (j:Int)]/\a<=j/\j<b/\Sort.scanDown (λx=> !cm x e[a]!) e i j=Sort.scanDown (λx=> !cm x e[a]!) e i j0/\Da T kd v e H,λvs _=>bA vs 0,JE.mk ⟨j0,rfl,Yb,hjb,rfl,hd⟩,?_⟩;rintro w H' ⟨j,hw,aff,aeP,Up,dG⟩ gs;simp only[xaz,xbb]at hw;subst hw;rw[<-Up]at he;intro J74 abK;have JB:i<=j->(!cm e[j]! e[a]!)=true->J74 [.bool true] H':=λhle hl=>abK _ _ λgs=>Br.yes (ae.cc (b:=1) (az.mk ⟨j-1,rfl,by omega,by omega,by rw[<-Up,eR (j:=j) zO,xau hle,hl];rfl,dG⟩ (by simp[bA];omega)));have VN:Sort.scanDown (λx=> !cm x e[a]!) e i j=j->J74 [.bool false] H':=λhj=>by
     rw[hj]at he;refine abK _ _ λgs=>Br.no ?_;refine ae.gW (Br.dec (λhgt=>?_) (λhle=>?_))
     ·rw[xae hgt]at he;rw[he]at hR;refine DR.self (dG.swap .here zO zO λC2 wU=>?_);exact fin hR.symm wU
     rw[xac hle]at he;refine DR.self (dG.swap .here zO zO λC2 wU=>?_);exact ae.inc (ae.cc (b:=1) (az.mk ⟨i+1,j-1,_,rfl,by omega,by omega,by omega,by omega,g8 hs,he,wU⟩ (by simp[bA];omega)))
    refine DR.self (ae.xO (Br.dec (λhle=>?_) λhgt=>JE.mk (VN ?_)));rotate_left
    ·by_cases h0:j=0
     ·subst h0;rfl
     rw[eR zO,xac zP]
    refine dG.ld (λ_ h=>h) zO ?_;refine dG.ld (λ_ h=>h) zO ?_;intro F;refine aa.eq (dm ok _ _ _) (Un.not (aI.mk ?_));cases hl:cm e[j]! e[a]!
    ·exact JE.mk (JB hle (by rw[hl];rfl))
    exact JE.mk (VN (by rw[eR zO,hl,xac zI]))
   refine DR.self (ae.xO (Br.dec (λhle=>?_) λhgt=>JE.mk (no (by rw[Sort.scanUp,xac zP]))));refine hd.ld (λ_ h=>h) zO (hd.ld (λ_ h=>h) zO λF=>?_);refine aa.eq (dm ok _ _ _) (aI.mk ?_);cases hl:cm e[i]! e[a]!
   ·exact JE.mk (no (by rw[Sort.scanUp,hl,xac zI]))
   exact JE.mk (yes hle hl)
  refine DR.self (ae.xO (Br.dec (λhle=>?_) λhgt=>JE.mk (VN ?_)));rotate_left
  ·by_cases h0:j=0
   ·subst h0;rfl
   rw[eR zO,xac zP]
  refine hd.ld (λ_ h=>h) zO (hd.ld (λ_ h=>h) zO λF=>?_);refine aa.eq (dm ok _ _ _) (Un.not (aI.mk ?_));cases hl:cm e[j]! e[a]!
  ·exact JE.mk (JB hle (by rw[hl];rfl))
  exact JE.mk (VN (by rw[eR zO,hl,xac zI]))
 refine DR.self (ae.xO (Br.dec (λhle=>?_) λhgt=>JE.mk (no (by rw[Sort.scanUp,xac zP]))));refine hd.ld (λ_ h=>h) zO (hd.ld (λ_ h=>h) zO λF=>?_);refine aa.eq (dm ok _ _ _) (aI.mk ?_);cases hl:cm e[i]! e[a]!
 ·exact JE.mk (no (by rw[Sort.scanUp,hl,xac zI]))
 exact JE.mk (yes zO hl)
include ok in
theorem AZ(h:Da T kd v d C){lo hi f:Nat}(hlo:lo<=d.size)(hb:f+hi<=d.size)(cJ:d.size<1152921504606846976):Fc zQ zs.JW #[v,iv (lo:Int),iv (hi:Int),iv (f:Int)] C (SXZ T kd v (Sort.siftDown cm hi f lo d)):=by
 refine aK λg=>ok.JW ?_;refine⟨λvs H=>∃(i:Nat) (e:Array Int),vs=[iv (i:Int)]/\i<=d.size/\e.size=d.size/\Sort.siftDown cm hi f i e=Sort.siftDown cm hi f lo d/\Da T kd v e H,λvs _=>d.size-bA vs 0,JE.mk ⟨lo,d,rfl,hlo,rfl,rfl,h⟩,?_⟩;rintro w H ⟨r,e,hw,hr,hs,he,hd⟩ gs;simp only[xaz,xbb]at hw;subst hw;refine ae.wL (a:=2) (ae.inc (ae.kM (Br.dec (λhge=>?_) (λhlt=>?_))))
 ·rw[JV hge]at he;exact aQ.here ⟨rfl,by rw[<-he];exact hd⟩
 have Wn:=λc=>y4 (c:=c) (d:=e) (f:=f) (show 2*r+1<hi by omega);intro J9 QC;have go:∀c:Nat,r<c->c<hi->(c=if(decide (2*r+1+1<hi) &&cm e[f+(2*r+1)]! e[f+(2*r+1)+1]!)=true then 2*r+2 else 2*r+1)->J9 [iv (c:Int)] H:=λc hrc ajM hc=>by
  rw[Wn c hc]at he;refine QC _ _ λgs=>?_;refine DR.self (ae.gL (hd.ld (λ_ h=>h) zO (ae.gL (hd.ld (λ_ h=>h) zO (aa.eq (dm ok _ _ _) (Un.not ?_))))));cases hl:cm e[f+r]! e[f+c]!
  ·rw[hl]at he;exact Br.yes (aQ.here ⟨rfl,by rw[<-he];exact hd⟩)
  rw[hl]at he;refine Br.no (DR.self (ae.gL (ae.gL (ae.gL (hd.VH .here (i:=f+r) (j:=f+c) (B:=λk=>ae .num .add (iv (f:Int)) (iv (r:Int)) k) zO zO (λk hk=>ae.gL hk) λC1 AE=>?_)))));exact az.mk ⟨c,_,rfl,by omega,g8 hs,he,AE⟩ (by simp[bA];omega)
 intro YL abM;have stay:(decide (2*r+1+1<hi) &&cm e[f+(2*r+1)]! e[f+(2*r+1)+1]!)=false->YL [.bool false] H:=λhc=>abM _ _ λgs=>Br.no (JE.mk (go _ zO zO (by rw[hc];rfl)));refine DR.self (ae.inc (ae.cX (Br.dec (λhc=>?_) λhc=>JE.mk (stay (by rw[xap hc];rfl)))));refine ae.gL (hd.ld (λ_ h=>h) zO (ae.gL (ae.inc (hd.ld (λ_ h=>h) zO λF=>?_))));refine aa.eq (dm ok _ _ _) (aI.mk ?_);cases hl:cm e[f+(2*r+1)]! e[f+(2*r+1)+1]!
 ·exact JE.mk (stay (by rw[hl,xei]))
 exact JE.mk (abM _ _ λgs=>Br.yes (ae.inc (JE.mk (go _ zO hc (by rw[hl,xau hc];rfl)))))
include ok in
theorem KQ(h:Da T kd v d C){a b:Nat}(hab:a<b)(hb:b<=d.size)(cJ:d.size<1152921504606846976):Fc zQ zs.heap #[v,iv (a:Int),iv (b:Int)] C (SXZ T kd v (Sort.heapSort cm d a b)):=by
 refine aK λg=>ok.heap ?_;obtain⟨B,hB⟩:∃B,B=Sort.heapBuild cm (b-a) a ((b-a-1) /2+1) d:=⟨_,rfl⟩;have hH:Sort.heapSort cm d a b=Sort.heapPop cm a (b-a) B:=by rw[hB];rfl
 rw[hH];refine ae.cc (ae.cc (b:=1) (ae.qm (b:=2) (by simp[aS];omega) zO (⟨λvs H=>∃(q:Int) (e:Array Int),vs=[iv q]/\ -1<=q/\q<(b:Int) -a/\e.size=d.size/\B=Sort.heapBuild cm (b-a) a (q+1).toNat e/\Da T kd v e H,λvs _=>up1 vs,JE.mk ⟨(((b-a-1) /2:Nat):Int),d,rfl,by omega,by omega,rfl,hB,h⟩,?_⟩)));clear hB hH;rintro w H ⟨q,e,hw,AB,tu,hs,he,hd⟩ gs;simp only[xaz,xbb]at hw;subst hw;refine ae.geq (Br.dec (λh0=>?_) (λhn=>?_))
 ·obtain⟨i,rfl⟩:∃i:Nat,q=i:=⟨q.toNat,by omega⟩;rw[show((i:Int)+1).toNat=i+1 by omega,Sort.heapBuild]at he;refine aa.fq (AZ ok hd zO zO zO) ?_;rintro w C1 ⟨rfl,AE⟩;exact ae.r3 (c:=(i:Int) -1) rfl zO (az.mk ⟨(i:Int) -1,_,rfl,by omega,by omega,by rw[Ik];exact hs,by rw[show((i:Int) -1+1).toNat=i by omega];exact he,AE⟩ (by rw[yT,yT];omega))
 obtain rfl:q= -1:=by omega
 have he:B=e:=he;subst he;refine ae.cc (b:=1) (⟨λvs H=>∃(q:Int) (e:Array Int),vs=[iv q]/\ -1<=q/\q<(b:Int) -a/\e.size=d.size/\Sort.heapPop cm a (q+1).toNat e=Sort.heapPop cm a (b-a) B/\Da T kd v e H,λvs _=>up1 vs,JE.mk ⟨((b-a-1:Nat):Int),B,rfl,by omega,by omega,hs,by rw[show(((b-a-1:Nat):Int)+1).toNat=b-a by omega],hd⟩,?_⟩);clear hd hs hn;rintro w H ⟨q,e,hw,AB,tu,hs,he,hd⟩ gs;simp only[xaz,xbb]at hw;subst hw;refine ae.geq (Br.dec (λh0=>?_) (λhn=>?_));rotate_left
 ·obtain rfl:q= -1:=by omega
  have he:e=Sort.heapPop cm a (b-a) B:=he;exact aQ.here ⟨rfl,by rw[<-he];exact hd⟩
 obtain⟨i,rfl⟩:∃i:Nat,q=i:=⟨q.toNat,by omega⟩;rw[show((i:Int)+1).toNat=i+1 by omega,Sort.heapPop]at he;refine DR.self (ae.gL (ae.gL (hd.swap .here zO zO λC1 AE=>?_)));have hs1:(Sort.swp e a (a+i)).size=d.size:=g8 hs;refine aa.fq (AZ ok AE (lo:=0) zO zO zO) ?_;rintro w C2 ⟨rfl,wU⟩;exact ae.r3 (c:=(i:Int) -1) rfl zO (az.mk ⟨(i:Int) -1,_,rfl,by omega,by omega,by rw[Ik];exact hs1,by rw[show((i:Int) -1+1).toNat=i by omega];exact he,wU⟩ (by rw[yT,yT];omega))
end
section
variable {v:zV} {d:Array Int} {C:Hp} {T:TypeId} {kd:IntKind} {zs:ZG} (ok:Jp zs)
theorem xlt{a b:Nat}(ha:a<18446744073709551616)(hb:b<18446744073709551616):a^^^b<18446744073709551616:=Nat.xor_lt_two_pow (n:=64) ha hb
theorem NK(b x:Nat)(hx:x<18446744073709551616):Fc zQ 279 #[ptr b] [(b,.cells #[.int .u64 (x:Int)] 366 zZ)]
  (λr H=>∃y:Nat,y<18446744073709551616/\r=.int .u64 (y:Int)/\H=[(b,.cells #[.int .u64 (y:Int)] 366 zZ)]):=by
 refine aK λg=>FD (DR.self (Nil.ptr (Ld.q ?_)));refine Nil.ptr (Ld.q ?_);refine ae.sP (b:=13) (ae.WX hx (xbx _ zD) ?_);have h1:=xlt hx (xbx (x<<<13) (show 0<18446744073709551616 by decide));generalize x^^^x<<<13%18446744073709551616=x1 at h1;refine Nil.ptr (St.one (by exact .head _) rfl zI rfl ?_);refine DR.self (Nil.ptr (Ld.q ?_));refine Nil.ptr (Ld.q ?_);refine ae.e9 (b:=7) h1 ?_;have h2:x1>>>7<18446744073709551616:=by rw[xaN];omega
 refine ae.WX h1 h2 ?_;have h3:=xlt h1 h2;generalize x1^^^x1>>>7=x2 at h3;refine Nil.ptr (St.one (by exact .head _) rfl zI rfl ?_);refine DR.self (Nil.ptr (Ld.q ?_));refine Nil.ptr (Ld.q ?_);refine ae.sP (b:=17) (ae.WX h3 (xbx _ zD) ?_);have h4:=xlt h3 (xbx (x2<<<17) (show 0<18446744073709551616 by decide));generalize x2^^^x2<<<17%18446744073709551616=x3 at h4;refine Nil.ptr (St.one (by exact .head _) rfl zI rfl ?_);refine Nil.ptr (Ld.q ?_);exact aQ.here ⟨x3,h4,rfl,rfl⟩
theorem Jh{x:Nat}(hx:x<18446744073709551616)(B:Hp):Rd zQ 197 #[.int .u64 (x:Int)] B (λv=>∃r:Nat,qJ x r/\v=iv (r:Int)):=by
 refine aK λg=>Gx (Br.no (aa.rq (Bw hx B) ?_));rintro w hw;exact bD.mk (.refl _) hw
theorem TR{x:Nat}(h0:0<x)(hx:x<1152921504606846976)(B:Hp):Rd zQ 278 #[iv (x:Int)] B (λv=>∃r:Nat,0<r/\r<=2*x/\v=.int .u64 (r:Int)):=by
 refine aK λg=>FE (aH.q (aa.rq (Jh zO B) ?_));rintro w ⟨r,hr,rfl⟩;have hr1:0<r:=by
  rcases Nat.eq_zero_or_pos r with e|e
  ·subst e;have:=hr.1;omega
  exact e
 have h2:2^(r-1)<=x:=by
  rcases hr.2 with e|e
  ·omega
  exact e
 have h3:2^r=2*2^(r-1):=by
  obtain⟨k,rfl⟩:∃k,r=k+1:=⟨r-1,by omega⟩;rw[xb1,xcB];omega
 refine ae.sP (a:=1) ?_;have e:1<<<r%18446744073709551616=2^r:=by
  rw[xdk,xdD];exact xa5 zO
 rw[e];exact bD.mk (.refl _) ⟨2^r,xbK r,by omega,rfl⟩
include ok in
theorem Vg(h:Da T kd v d C){a b:Nat}(hab:a<b)(hb:b<=d.size)(cJ:d.size<1152921504606846976):Fc zQ zs.Zz #[v,iv (a:Int),iv (b:Int)] C (λr C'=>r=.tuple #[]/\∃e,Sort.PermIn a b d e/\Da T kd v e C'):=by
 refine aK λg=>ok.Zz ?_;refine ae.cc (ae.kM (b:=8) (Br.dec (λh8=>?_) (λ_=>aQ.here ⟨rfl,d,Sort.permIn_refl _ _ _,h⟩)));refine aH.q λb4 _=>(St.one (by exact .head _) rfl zI rfl ?_);refine aa.rq (TR zO zO C) ?_;rintro w ⟨m,hm0,hm,rfl⟩;refine ae.qm (b:=4) (by simp[aS];omega) zO (ae.wL (b:=2) (ae.gL (ae.cc (b:=1) ?_)));refine⟨λvs H=>∃(i x:Nat) (C':Hp) (e:Array Int),vs=[iv (i:Int)]/\a<=i/\x<18446744073709551616/\H=(b4,.cells #[.int .u64 (x:Int)] 366 zZ)::C'/\Sort.PermIn a b d e/\Da T kd v e C',λvs _=>b-bA vs 0,
  JE.mk ⟨_,b-a,C,d,rfl,by omega,by omega,rfl,Sort.permIn_refl _ _ _,h⟩,?_⟩
 rintro w H ⟨i,x,C',e,hw,SA,hx,rfl,hp,hd⟩ gs;simp only[xaz,xbb]at hw;subst hw;have hs:=hp.1;refine ae.qm (b:=4) (by simp[aS];omega) zO (ae.wL (b:=2) (ae.gL (ae.inc (ae.xO (Br.dec (λhle=>?_) (λ_=>aQ.mk .tail ⟨rfl,e,hp,hd⟩))))));refine aa.fn (.left (A:=C')) (NK b4 x hx) ?_;rintro w H' ⟨y,hy,rfl,rfl⟩;refine ae.cc (b:=1) (ae.fm (by simp[aS];omega) (by simp[aS];omega) ?_);have hand:y&&& (m-1)<m:=by have:=xb3 (n:=y) (m:=m-1);omega
 generalize y&&& (m-1)=z at hand;refine aH.q λJ28 afA=>?_;have go:∀o:Nat,o<b-a->J28 [iv (o:Int)] ([(b4,Obj.cells #[.int .u64 (y:Int)] 366 zZ)]++C'):=λo ho=>by
  refine afA _ _ λgs=>?_;refine DR.self (ae.gL (ae.gL (hd.swap (.cons .here) zO zO λC1 AE=>?_)));exact ae.inc (az.mk ⟨i+1,y,C1,_,rfl,by omega,hy,rfl,Sort.permIn_trans _ _ _ _ _ hp (Sort.swp_permIn _ a b i (a+o) SA zO zO zO zO),AE⟩ (by simp[bA];omega))
 refine ae.kM (Br.dec (λhge=>?_) (λhlt=>JE.mk (go z zO)));exact ae.cc (JE.mk (go _ zO))
def OQZ(b:Nat)(C:Hp)(i j:Nat):zV->Hp->Prop:=λr H=>(r=.tuple #[iv (i:Int),iv (j:Int)]\/r=.tuple #[iv (j:Int),iv (i:Int)])/\∃z:Int,H=(b,.cells #[iv z] 3 zZ)::C
include ok in
theorem uz(h:Da T kd v d C){b:Nat}{z:Int}{i j:Nat}(hi:i<d.size)(hj:j<d.size):
  Fc zQ zs.D5 #[v,iv (i:Int),iv (j:Int),ptr b] ((b,.cells #[iv z] 3 zZ)::C) (OQZ b C i j):=by
 refine aK λg=>ok.D5 ?_;refine DR.self (h.ld (λ_ h=>.tail _ h) hj (h.ld (λ_ h=>.tail _ h) hi (aa.eq (dm ok _ _ _) (Br.mk (λ_=>?_) (λ_=>aQ.here ⟨.inl rfl,z,rfl⟩)))));refine Nil.ptr (Ld.q ?_);refine ae.add (Nil.ptr (St.one (by exact .head _) rfl zI rfl ?_));exact aQ.here ⟨.inr rfl,_,rfl⟩
def MQZ(b:Nat)(C:Hp)(p:Nat->Prop):zV->Hp->Prop:=λr H=>(∃m:Nat,r=iv (m:Int)/\p m)/\∃z:Int,H=(b,.cells #[iv z] 3 zZ)::C
include ok in
theorem II(h:Da T kd v d C){b:Nat}{z:Int}{i j k:Nat}(hi:i<d.size)(hj:j<d.size)(hk:k<d.size):
  Fc zQ zs.YZ #[v,iv (i:Int),iv (j:Int),iv (k:Int),ptr b] ((b,.cells #[iv z] 3 zZ)::C) (MQZ b C λm=>m=i\/m=j\/m=k):=by
 refine aK λg=>ok.YZ ?_;refine aa.fq (uz ok h hi hj) ?_;rintro w H ⟨hw,z1,rfl⟩;obtain⟨i1,j1,rfl,hij⟩:∃i1 j1:Nat,w=.tuple #[iv (i1:Int),iv (j1:Int)]/\((i1=i/\j1=j)\/(i1=j/\j1=i)):=by
  rcases hw with rfl|rfl
  ·exact⟨i,j,rfl,.inl ⟨rfl,rfl⟩⟩
  exact⟨j,i,rfl,.inr ⟨rfl,rfl⟩⟩
 refine Ext.two (aa.fq (uz ok h (i:=j1) (j:=k) zO hk) ?_);rintro w H ⟨hw,z2,rfl⟩;obtain⟨j2,k2,rfl,Wj⟩:∃j2 k2:Nat,w=.tuple #[iv (j2:Int),iv (k2:Int)]/\((j2=j1/\k2=k)\/(j2=k/\k2=j1)):=by
  rcases hw with rfl|rfl
  ·exact⟨_,_,rfl,.inl ⟨rfl,rfl⟩⟩
  exact⟨_,_,rfl,.inr ⟨rfl,rfl⟩⟩
 refine Ext.two (aa.fq (uz ok h (i:=i1) (j:=j2) zO zO) ?_);rintro w H ⟨hw,z3,rfl⟩;rcases hw with rfl|rfl
 ·exact Ext.mk rfl (Ext.mk rfl (aQ.here ⟨⟨_,rfl,by omega⟩,_,rfl⟩))
 exact Ext.mk rfl (Ext.mk rfl (aQ.here ⟨⟨_,rfl,by omega⟩,_,rfl⟩))
include ok in
theorem uI(h:Da T kd v d C){b:Nat}{z:Int}{i:Nat}(h0:0<i)(hi:i+1<d.size)(cJ:d.size<1152921504606846976):
  Fc zQ zs.D9 #[v,iv (i:Int),ptr b] ((b,.cells #[iv z] 3 zZ)::C) (MQZ b C λm=>i<=m+1/\m<=i+1):=by
 refine aK λg=>ok.D9 ?_;refine ae.cc (b:=1) (ae.inc (aa.fq (II ok h zO zO hi) ?_));rintro w H ⟨⟨m,rfl,hm⟩,z',rfl⟩;exact aQ.here ⟨⟨m,rfl,by omega⟩,z',rfl⟩
include ok in
theorem TK(h:Da T kd v d C){a b:Nat}(hab:a<b)(hb:b<=d.size)(cJ:d.size<1152921504606846976):
  Rd zQ zs.Z9 #[v,iv (a:Int),iv (b:Int)] C (λr=>∃(p:Nat) (q:Int),r=.tuple #[iv (p:Int),iv q]/\a<=p/\p<b):=by
 refine aK λg=>ok.Z9 ?_;refine ae.cc λb2 _=>(ae.qm (b:=4) (by simp[aS];omega) zO (ae.wL (b:=1) (ae.gL (ae.qm (b:=4) (by simp[aS];omega) zO (ae.wL (b:=2) (ae.gL (ae.qm (b:=4) (by simp[aS];omega) zO (ae.wL (b:=3) (ae.gL ?_)))))))));intro J13 afD;have fin:∀(p:Nat) (z:Int),a<=p->p<b->J13 [iv (p:Int)] ((b2,.cells #[iv z] 3 zZ)::C):=λp z uP lg=>by
  refine afD _ _ λgs=>?_;refine Ld.q ?_;refine ae.lT (Br.dec (λ_=>bD.mk .tail ⟨p,_,rfl,uP,lg⟩) (λ_=>?_));exact ae.lT (Br.dec (λ_=>bD.mk .tail ⟨p,_,rfl,uP,lg⟩) (λ_=>bD.mk .tail ⟨p,_,rfl,uP,lg⟩))
 refine ae.kM (b:=8) (Br.dec (λh8=>?_) (λ_=>JE.mk (fin _ _ zO zO)));intro J21 afC;have three:∀(x y u:Nat) (z:Int),a<=x/\x<b->a<=y/\y<b->a<=u/\u<b->J21 [iv (x:Int),iv (y:Int),iv (u:Int)] ((b2,.cells #[iv z] 3 zZ)::C):=λx y u z hx hy hu=>by
  refine afC _ _ _ _ λgs=>?_;refine aa.fq (II ok h zO zO zO) ?_;rintro w H ⟨⟨m,rfl,hm⟩,z',rfl⟩;exact JE.mk (fin _ _ zO zO)
 refine ae.kM (b:=50) (Br.dec (λh50=>?_) (λ_=>JE.mk (three _ _ _ _ zO zO zO)));refine aa.fq (uI ok h zO zO cJ) ?_;rintro w H ⟨⟨m1,rfl,AD⟩,z1,rfl⟩;refine aa.fq (uI ok h zO zO cJ) ?_;rintro w H ⟨⟨m2,rfl,tw⟩,z2,rfl⟩;refine aa.fq (uI ok h zO zO cJ) ?_;rintro w H ⟨⟨m3,rfl,hm3⟩,z3,rfl⟩;exact JE.mk (three _ _ _ _ zO zO zO)
def PSZ(T:TypeId)(kd:IntKind)(v:zV)(d:Array Int)(a b:Nat):zV->Hp->Prop:=λr C'=>r=.tuple #[]/\∃e,(Sort.PermIn a b d e/\Sort.SortedIn cm a b e)/\Da T kd v e C'
include ok in
theorem TN:∀(N:Nat) {C:Hp} {d:Array Int} (h:Da T kd v d C) {a b:Nat} (hN:b-a<=N) (hab:a<=b) (hb:b<=d.size) (cJ:d.size<1152921504606846976) (hB:Sort.Below cm a b d) (z:Int),Fc zQ zs.Xk #[v,iv (a:Int),iv (b:Int),iv z] C (PSZ T kd v d a b):=by
 intro N;induction N with
 |zero=>
  intro C d h a b hN hab hb cJ hB z g;refine ok.Xk (R:=aQ _) ?_;unfold L9014;refine⟨λvs H=>vs=[iv (a:Int),iv (b:Int),iv z,.bool true,.bool true]/\H=C,λ_ _=>0,JE.mk ⟨rfl,rfl⟩,?_⟩;rintro w1 w2 w3 w4 w5 H ⟨hw,rfl⟩ gs;simp only[xaz,xbb]at hw;obtain⟨rfl,rfl,rfl,rfl,rfl⟩:=hw;refine ae.cc (ae.xO (b:=12) (Br.T (aa.fq (xX ok h hab hb cJ) ?_)));rintro w C' ⟨rfl,hd⟩;exact aQ.here ⟨rfl,_,Sort.insertionSort_holds Sort.swo_ltInt d a b hab hb,hd⟩
 |succ N ih=>
  intro C d h a b hN hab hb cJ hB z g;refine ok.Xk (R:=aQ _) ?_;unfold L9014;obtain⟨G,hG⟩:∃G:Array Int->Prop,G=λR=>Sort.PermIn a b d R/\Sort.SortedIn cm a b R:=⟨_,rfl⟩;have fin:∀{R:Array Int} {H:Hp},G R->Da T kd v R H->aQ (PSZ T kd v d a b) (.returned (.tuple #[])) H:=λhR hd=>by
   subst hG;exact aQ.here ⟨rfl,_,hR,hd⟩
  refine⟨λvs H=>∃(a b:Nat) (z:Int) (t1 t2:Bool) (e:Array Int),vs=[iv (a:Int),iv (b:Int),iv z,.bool t1,.bool t2]/\b-a<=N+1/\a<=b/\b<=e.size/\e.size=d.size/\Sort.Below cm a b e/\(∀R,Sort.PermIn a b e R->Sort.SortedIn cm a b R->G R)/\Da T kd v e H,λvs _=>bA vs 1-bA vs 0,
   JE.mk ⟨a,b,z,true,true,d,rfl,hN,hab,hb,rfl,hB,by subst hG;exact λR h1 h2=>⟨h1,h2⟩,h⟩,?_⟩
  clear h hN hab hb hB hG;rintro w1 w2 w3 w4 w5 H ⟨a,b,z,t1,t2,e,hw,hN,hab,hb,hs,hB,Wn,h⟩ gs;simp only[xaz,xbb]at hw;obtain⟨rfl,rfl,rfl,rfl,rfl⟩:=hw;refine ae.cc (ae.xO (b:=12) (Br.dec (λh12=>?_) (λh12=>?_)))
  ·refine aa.fq (xX ok h hab hb zO) ?_;rintro w C' ⟨rfl,hd⟩;obtain⟨q1,q2⟩:=Sort.insertionSort_holds Sort.swo_ltInt e a b hab hb;exact fin (Wn _ q1 q2) hd
  refine ae.lT (Br.dec (λ_=>?_) (λ_=>?_))
  ·refine aa.fq (KQ ok h zO hb zO) ?_;rintro w C' ⟨rfl,hd⟩;obtain⟨q1,q2⟩:=Sort.heapSort_holds Sort.swo_ltInt e a b hab hb;exact fin (Wn _ q1 q2) hd
  intro YM ED;have k17:∀(z1:Int) H1 e1,Sort.PermIn a b e e1->Da T kd v e1 H1->YM [iv z1] H1:=λz1 H1 e1 p1 h1=>by
   have hs1:=p1.1;refine ED _ _ λgs=>?_;refine aa.rq (TK ok h1 (a:=a) (b:=b) zO zO zO) ?_;rintro w ⟨p,q,rfl,uP,lg⟩;refine Ext.two λJ25 afB=>?_;have k25:∀(p:Nat) (q:Int) H2 e2,a<=p->p<b->Sort.PermIn a b e e2->Da T kd v e2 H2->J25 [iv (p:Int),iv q] H2:=λp q H2 e2 uP lg p2 h2=>by
    have l8:=p2.1;refine afB _ _ _ λgs=>?_;intro J30 afz;have k30:∀H3 e3,Sort.PermIn a b e e3->Da T kd v e3 H3->J30 [] H3:=λH3 e3 p3 h3=>by
     have Y8:=p3.1;have tA:=hB.perm hb p3;have hb3:b<=e3.size:=by omega
     refine afz _ λgs=>?_;intro ZJ UP;have k33:∀(t:Bool),(t=true->0<a/\cm e3[a-1]! e3[p]! =false)->ZJ [.bool t] H3:=λt ht=>by
      refine UP _ _ λgs=>?_;refine Br.mk (λet=>?_) (λ_=>?_)
      ·obtain⟨ha0,hnl⟩:=ht et;refine aa.fq (D0 ok h3 ⟨uP,lg⟩ hb3 zO) ?_;rintro w C' ⟨rfl,hd⟩;obtain⟨g1,g2,g3,g4,g5⟩:=Sort.round_eq Sort.swo_ltInt (Sort.partitionEqual_holds cm) ha0 uP lg hb3 tA hnl (mid:=(Sort.partitionEqual cm e3 a b p).1) (d4:=(Sort.partitionEqual cm e3 a b p).2) rfl;generalize (Sort.partitionEqual cm e3 a b p).1=m at*;generalize (Sort.partitionEqual cm e3 a b p).2=e4 at*;exact az.mk ⟨m,b,z1,t1,t2,e4,rfl,by omega,by omega,by omega,by omega,g4,λR r1 r2=>by
        obtain⟨q1,q2⟩:=g5 R r1 r2;exact Wn R (Sort.permIn_trans _ _ _ _ _ p3 q1) q2,hd⟩ (by simp[bA];omega)
      refine aa.fq (O5 ok h3 ⟨uP,lg⟩ hb3 zO) ?_;rintro w C' ⟨rfl,hd⟩;obtain⟨g1,g2,g3,g4,g5,g6,g7⟩:=Sort.round_part Sort.swo_ltInt (Sort.partition_holds cm) uP lg hb3 tA (mid:=(Sort.partition cm e3 a b p).1) (ap:=(Sort.partition cm e3 a b p).2.1) (d4:=(Sort.partition cm e3 a b p).2.2) rfl;generalize (Sort.partition cm e3 a b p).1=m at*;generalize (Sort.partition cm e3 a b p).2.1=t at*;generalize (Sort.partition cm e3 a b p).2.2=e4 at*;refine Ext.two (ae.cc (ae.cc (ae.qm (b:=8) (by simp[aS];omega) zO (ae.cX (Br.dec (λ_=>?_) (λ_=>?_))))))
      ·refine ae.kM (aa.fq (ih hd (a:=a) (b:=m) zO zO zO zO g4 z1) ?_);rintro w C' ⟨rfl,e5,⟨l1,l2⟩,dG⟩;obtain⟨hBL,gy⟩:=g6 _ l1 l2;have hs5:=l1.1;refine ae.inc ?_;exact az.mk ⟨m+1,b,z1,_,t,e5,rfl,by omega,by omega,by omega,by omega,hBL,λR r1 r2=>by
        obtain⟨q1,q2⟩:=gy R r1 r2;exact Wn R (Sort.permIn_trans _ _ _ _ _ p3 q1) q2,dG⟩ (by simp[bA];omega)
      refine ae.kM (ae.inc (aa.fq (ih hd (a:=m+1) (b:=b) zO zO zO zO g5 z1) ?_));rintro w C' ⟨rfl,e5,⟨l1,l2⟩,dG⟩;obtain⟨hBL,gy⟩:=g7 _ l1 l2;have hs5:=l1.1;exact az.mk ⟨a,m,z1,_,t,e5,rfl,by omega,by omega,by omega,by omega,hBL,λR r1 r2=>by
       obtain⟨q1,q2⟩:=gy R r1 r2;exact Wn R (Sort.permIn_trans _ _ _ _ _ p3 q1) q2,dG⟩ (by simp[bA];omega)
     refine DR.self (ae.gW (b:=0) (Br.dec (λh0=>?_) (λ_=>JE.mk (k33 false nofun))));refine ae.cc (b:=1) (h3.ld (λ_ h=>h) zO (h3.ld (λ_ h=>h) zO λF=>?_));exact aa.eq (dm ok _ _ _) (Un.not (aI.mk (JE.mk (k33 _ λht=>⟨h0,by simpa using ht⟩))))
    refine cz.and t2 (λ_=>⟨rfl,rfl⟩) rfl λgs=>?_;refine cz.and (decide (q=1)) (λ_=>ae.lT ⟨rfl,rfl⟩) rfl λgs=>?_;refine Br.mk (λ_=>?_) (λ_=>JE.mk (k30 _ _ p2 h2));refine aa.fq (O3 ok h2 zO (show b<=e2.size by omega) zO) ?_;rintro w C' ⟨rfl,hd⟩;obtain⟨q1,q2⟩:=Sort.partialInsertionSort_holds Sort.swo_ltInt e2 a b zO zO (hB.perm hb p2);exact Br.mk (λet=>fin (Wn _ (Sort.permIn_trans _ _ _ _ _ p2 q1) (q2 et)) hd) (λ_=>JE.mk (k30 _ _ (Sort.permIn_trans _ _ _ _ _ p2 q1) hd))
   refine ae.lT (Br.dec (λ_=>?_) (λ_=>JE.mk (k25 p q _ _ uP lg p1 h1)));refine aa.fq (Tv ok h1 (a:=a) (b:=b) zO zO zO) ?_;rintro w C' ⟨rfl,hd⟩;exact ae.cc (b:=1) (ae.cc (ae.cc (JE.mk (k25 _ _ _ _ zO zO (Sort.permIn_trans _ _ _ _ _ p1 (Sort.reverseRange_holds e1 a b hab zO)) hd))))
  refine Un.not (Br.mk (λ_=>?_) (λ_=>JE.mk (k17 _ _ _ (Sort.permIn_refl _ _ _) h)));refine aa.fq (Vg ok h (a:=a) (b:=b) zO hb zO) ?_;rintro w C' ⟨rfl,e1,p1,hd⟩;exact ae.sub (JE.mk (k17 _ _ _ p1 hd))
end
def Ox(l:List Int):List Int:=l.mergeSort λx y=>decide (x<=y)
theorem Xb{d e:Array Int}(h1:Sort.PermIn 0 d.size d e)(h2:Sort.SortedIn cm 0 d.size e):e.toList=Ox d.toList:=by
 rw[Sort.sorted_unique_holds Sort.swo_ltInt (λx y h1 h2=>by simp[Sort.ltInt]at h1 h2;omega) d e h1 h2];unfold Ox;congr 1
 funext x y
 show(!decide (y<x))=decide (x<=y);rw[xcQ];simp
def Xc(l:zL):zL:=l.mergeSort λx y=>decide (x<=y)
theorem xq(l:zL):(Xc l).Perm l:=List.mergeSort_perm _ _
theorem Tn(l:zL):(Xc l).Pairwise λx y=>x<=y:=
 (List.pairwise_mergeSort (le:=λx y:Nat=>decide (x<=y)) (λa b c h1 h2=>by simp only[xaP]at*;omega) (λa b=>by simp only[xcl,xaP];omega) l).imp λh=>xcz h
theorem Tm(l:zL):Ox (iw l)=iw (Xc l):=by
 refine List.Perm.eq_of_pairwise (le:=λx y:Int=>x<=y) (λa b _ _ h1 h2=>Int.le_antisymm h1 h2) ?_ ?_ ((List.mergeSort_perm _ _).trans ((xq l).map _).symm)
 ·exact(List.pairwise_mergeSort (le:=λx y:Int=>decide (x<=y)) (λa b c h1 h2=>by simp only[xaP]at*;omega) (λa b=>by simp only[xcl,xaP];omega) _).imp λh=>xcz h
 exact xb9.2 ((Tn l).imp λh=>by omega)
theorem To{v:zV}{C:Hp}{l:List Int}(h:aR 80 .u32 v l C)(cJ:l.length<1152921504606846976):Fc zQ 287 #[v] C (λr C'=>r=.tuple #[]/\aR 80 .u32 v (Ox l) C'):=by
 refine aK λg=>FA (h.bE ?_);refine aH.q (aa.rq (Jh zO C) ?_);rintro w ⟨r,_,rfl⟩;have hd:Da 80 .u32 v l.toArray C:=h;refine aa.fn .here (TN ZO l.length hd (a:=0) (b:=l.length) zO zO zI (by simpa using cJ) (.inl rfl) _) ?_;rintro w C' ⟨rfl,e,⟨h1,h2⟩,dG⟩;have he:=Xb (d:=l.toArray) (by simpa using h1) (by simpa using h2);exact aQ.here ⟨rfl,by rw[show Ox l=e.toList from he.symm];exact dG⟩
end
end Go.Proofs
namespace Go.Sx
open Go
section
variable {P:Program} {g:Gh} {F:Fence} {n:Nat} {ops:Array Oper} {Q:Exit->Act->World->Prop} {rest:List Oper} {o:Oper} {a:Act} {fr:Fr} {w:World} {H:Hp}
abbrev Dg(ds:List Deferred)(n:Nat)(a:Act)(fr:Fr):Prop:=bS ds n a fr
variable {ds:List Deferred}
theorem Dg.put(h:Dg ds n a fr){d:Option Nat}(hd:dF n d=true)(v:zV):Dg ds n (a.put d v) (bT fr d v):=bS.put h hd v
theorem iX{v0:zV}(hF:∀f,F.fn f)(hg:o.guard=none)(gw:∀c,o.op≠.defer c)(hd:dF n o.dst=true)(ha:Dg ds n a fr)(hw:Own g H w)(h:Dm P g o (ev fr) H (· =v0))
 (k:∀a',Dg ds n a' (bT fr o.dst v0)->wpListIn F 0 P ops Q rest a' w):wpListIn F 0 P ops Q (o::rest) a w:=by
 refine wpListIn_plain hg λK hK=>⟨λf _=>hF f,?_⟩;rw[Oper.semAt_eq _ _ _ gw,ha.eval];obtain⟨v,hv,hr,_⟩:=nE h;rw[hr w hw];subst hv;exact hK _ _ (k _ (ha.put hd _))
theorem Ih{s:Sem zV}{K:zV->Hp->Prop}(hF:∀f,F.fn f)(hg:o.guard=none)(gw:∀c,o.op≠.defer c)(hd:dF n o.dst=true)(ha:Dg ds n a fr)(he:execOp (ev fr) o=(do pure (.value (<-s))))
 (h:∃v w' H',s.run P w=.ok v w'/\Own g H' w'/\K v H')
 (k:∀v H' w' a',K v H'->Own g H' w'->Dg ds n a' (bT fr o.dst v)->wpListIn F 0 P ops Q rest a' w'):wpListIn F 0 P ops Q (o::rest) a w:=by
 refine wpListIn_plain hg λK hK=>⟨λf _=>hF f,?_⟩;rw[Oper.semAt_eq _ _ _ gw,ha.eval,he];obtain⟨v,w',H',hr,ho,hk⟩:=h;simp only[Sem.run_bind,hr,Result.andThen_ok,Sem.run_pure];exact hK _ _ (k v H' w' _ hk ho (ha.put hd _))
theorem Ov{s:Sem zV}{K:zV->Hp->Prop}(hF:∀f,F.fn f)(hg:o.guard=none)(gw:∀c,o.op≠.defer c)(hd:dF n o.dst=true)(ha:Dg ds n a fr)(hw:Own g H w)(he:execOp (ev fr) o=(do pure (.value (<-s))))
 (h:Sq P g o (ev fr) H K (λ_ _=>False))
 (k:∀v H' w' a',K v H'->Own g H' w'->Dg ds n a' (bT fr o.dst v)->wpListIn F 0 P ops Q rest a' w'):wpListIn F 0 P ops Q (o::rest) a w:=by
 have h1:=uA (nP fr) h w hw;rw[he]at h1;refine Ih (g:=g) (K:=K) hF hg gw hd ha he ?_ k;cases hs:s.run P w with
 |ok v w'=>
  simp only[Sem.run_bind,hs,Result.andThen_ok,Sem.run_pure,ny]at h1;obtain⟨H',ho,hk⟩:=h1;exact⟨v,w',H',rfl,ho,hk⟩
 |halt x w'=>
  simp only[Sem.run_bind,hs,Result.andThen]at h1;cases x<;>simp only[ny]at h1;obtain⟨_,_,hk⟩:=h1;exact hk.elim
theorem ZZ{s:Sem Unit}{K:zV->Hp->Prop}(hF:∀f,F.fn f)(hg:o.guard=none)(gw:∀c,o.op≠.defer c)(hd:dF n o.dst=true)(ha:Dg ds n a fr)(hw:Own g H w)(he:execOp (ev fr) o=(do s;pure .skip))
 (h:Sq P g o (ev fr) H K (λ_ _=>False))
 (k:∀H' w' a',K undef H'->Own g H' w'->Dg ds n a' (bT fr o.dst undef)->wpListIn F 0 P ops Q rest a' w'):wpListIn F 0 P ops Q (o::rest) a w:=by
 have h1:=uA (nP fr) h w hw;rw[he]at h1;refine wpListIn_plain hg λK hK=>⟨λf _=>hF f,?_⟩;rw[Oper.semAt_eq _ _ _ gw,ha.eval,he];cases hs:s.run P w with
 |ok v w'=>
  simp only[Sem.run_bind,hs,Result.andThen_ok,Sem.run_pure,ny]at h1⊢;obtain⟨H',ho,hk⟩:=h1;exact hK _ _ (k H' w' _ hk ho (ha.put hd _))
 |halt x w'=>
  simp only[Sem.run_bind,hs,Result.andThen]at h1;cases x<;>simp only[ny]at h1;obtain⟨_,_,hk⟩:=h1;exact hk.elim
theorem vK{m:Nat}{args:List zV}(hl:args.length<=m):Dg [] m {tmps:=args.toArray++Array.replicate (m-args.toArray.size) undef,defers:=[]} (fH args 0):=by
 refine⟨rfl,by simp;omega,λs=>?_⟩;rw[k9,xav,xd3];simp only[xdb,xc8,xaT,xdi];by_cases hs:s<args.length
 ·simp[hs,List.getD]
 rw[xac hs,xdh];have:args.getD s undef=undef:=by simp[List.getD,xaJ (xcY hs)]
 rw[this];split<;>rfl
theorem Own.putObj{g:Gh}{H H':Hp}{w:World}{b:Nat}{o o':Obj}(h:Own g H w)(u:cu b o o' H H'):Own g H' (w.putObj b o'):=by
 have hb:=h.lt u.mem;exact h.bT u rfl rfl rfl (World.putObj_heap_same hb) λc hc=>World.putObj_heap_other hc
def Jv{α:Type}(P:Program)(f:FuncId)(cap:Array zV)(B:Hp)(enc:α->zV)(N:Nat)(S:List α->Prop):Prop:=
 ∀(g:Gh) (l:Nat) (G:List α->Hp->Prop),
  (∀ss x A X W,G ss A->ss.length<N->Own g (A++X) W->YieldAt Fence.wide 0 P l #[enc x] W (λe W'=>e=.returned (.bool true)/\∃A',G (ss++[x]) A'/\Own g (A'++X) W'))->
  ∀A W,G [] A->Own g (A++B) W->CallsIn Fence.wide 0 P f (#[.func (.yield l) #[] #[]]++cap) W (λe W'=>(∃v,e=.returned v)/\∃ss A',S ss/\G ss A'/\Own g (A'++B) W')
open Classical in
noncomputable def pY(p:Nat->Prop):Nat:=if h:∃k,p k then Classical.choose (j8 h)else 0
theorem Ef{p:Nat->Prop}{k:Nat}(h:p k):pY p<=k:=by
 unfold pY;rw[xeg ⟨k,h⟩];exact(xcF (j8 ⟨k,h⟩)).2 k h
theorem zn{p:Nat->Prop}(h:∃k,p k):p (pY p):=by
 unfold pY;rw[xeg h];exact(xcF (j8 h)).1
theorem DF{c:Code}(J:Nat->Act->World->Prop){k:Nat}(h0:J k a w)
 (round:∀k a w,J k a w->c.wpIn F 0 P (Exit.then (λa' w'=>∃k',k'<k/\J k' a' w') Q) a w):(Code.loop c).wpIn F 0 P Q a w:=by
 refine wpIn_loop (λa w=>∃k,J k a w) (λa w=>pY λk=>J k a w) ⟨k,h0⟩ λa w h=>?_;refine Code.wpIn_mono (λe a' w' hq=>?_) (round _ a w (zn h));cases e with
 |normal=>
  obtain⟨k',hlt,hj⟩:=hq;exact⟨⟨k',hj⟩,xaE (Ef hj) hlt⟩
 |_=>exact hq
end
end Go.Sx
set_option maxRecDepth 100000
namespace Go.Proofs
open Go Go.Sx Tryz
section
open aC
section
variable {es:Array MapEntry} {ck b:Nat} {m:List (Nd×Nat)}
theorem JK(B:Hp):Fc zQ 259 #[.map (some b)] B
  (λv H=>∃bm,v=.func (.func 288) #[] #[ptr bm]/\H=(bm,.cells #[.map (some b)] 159 zZ)::B):=by
 refine aK λg=>FU λb1 _=>?_;exact aQ.here ⟨b1,rfl,rfl⟩
noncomputable abbrev VF:Func:=Tryz.f288
def VAt(g:Gh)(bi b:Nat)(l:Nat)(es:Array MapEntry)(ck:Nat)(m:List (Nd×Nat))(G:zL->Hp->Prop)(B:Hp)(k:Nat)(a:Act)(w:World):Prop:=
 ∃(fr:Fr) (ss:zL) (A:Hp) (seen:Array Nat),Dg [] 15 a fr/\fr 0=.func (.yield l) #[] #[]/\fr 6=ptr bi/\G ss A/\Own g (A++((bi,.mapIter (some b) ck seen ck)::B)) w/\
  (ss++(dx es m seen).map Prod.snd).Perm (m.map Prod.snd)/\k=(dx es m seen).length
theorem DG{bm:Nat}{fz:Nat×Nat}(h:aT nK SW es ck m):Jv zQ 288 #[ptr bm] [(bm,.cells #[.map (some b)] 159 fz),(b,.map es ck)] u32 m.length
  (λss=>ss.Perm (m.map Prod.snd)):=by
 intro g l G hY A W h0 hW;have hF:∀f,Fence.wide.fn f:=λ_=>trivial;refine callsIn_of_wp func288 rfl trivial ?_;have ha:=vK (m:=15) (args:=[.func (.yield l) #[] #[],ptr bm]) zI;refine wpIn_seq ?_;refine wpIn_region_lit ?_;obtain⟨B,hB⟩:∃B,B=[(bm,Obj.cells #[.map (some b)] 159 fz),(b,.map es ck)]:=⟨_,rfl⟩;rw[<-hB]at hW;have AD:(bm,Obj.cells #[.map (some b)] 159 fz)∈A++B:=by rw[hB];exact xaa _ (.head _)
 have tw:(b,Obj.map es ck)∈A++B:=by rw[hB];exact xaa _ (.tail _ (.head _))
 have hmB:∀{X:Hp},(b,Obj.map es ck)∈X++B:=by intro X;rw[hB];exact xaa _ (.tail _ (.head _))
 rw[<-hB];have e0:Dm zQ g (bM VF 0 0) (ev (fH [.func (.yield l) #[] #[],ptr bm] 0)) (A++B) (λx=>x=.map (some b))=Ld (A++B) (ptr bm) (λx=>x=.map (some b)):=by kernel_rfl
 refine iX (g:=g) (n:=15) (v0:=.map (some b)) hF rfl zC rfl ha hW (e0.mpr (Ld.mk AD rfl rfl)) λa1 EC=>?_;refine Ih (g:=g) (n:=15) (s:=Instr.range 159 (.map (some b))) (K:=λv H=>∃bi,v=ptr bi/\H=(bi,.mapIter (some b) ck #[] ck)::(A++B)) hF rfl zC rfl EC rfl
  (Rng.run (.inr ⟨b,es,ck,rfl,tw,λbi _=>⟨bi,rfl,rfl⟩⟩) hW (t:=159) (kt:=201) (e:=80) zK) λv H' w1 a2 hv ie Dw=>?_
 obtain⟨bi,rfl,rfl⟩:=hv;refine wpListIn_nil ?_;have wS:Own g (A++((bi,.mapIter (some b) ck #[] ck)::B)) w1:=ie.perm (xaU).symm;clear ie EC ha hW AD tw;refine wpIn_block ?_;refine DF (VAt g bi b l es ck m G B) (k:=(dx es m #[]).length) ⟨_,[],A,#[],Dw,rfl,rfl,h0,wS,by rw[tO h];exact .refl _,rfl⟩ ?_;clear Dw wS h0 e0 A;rintro k a w ⟨fr,ss,A,seen,ha,f0,f6,hG,hw,dy,hk⟩;refine wpIn_seq ?_;refine wpIn_region_lit ?_;have e6:ev fr (.tmp 6)=ptr bi:=f6;refine Ih (g:=g) (n:=15) (s:=Instr.next (ptr bi) false 0)
  (K:=λv H=>(dx es m seen=[]/\v=.tuple #[.bool false]/\H=A++((bi,.mapIter (some b) ck seen ck)::B))\/
   ∃(e:MapEntry) (x:Nd×Nat) (seen':Array Nat),v=.tuple #[.bool true,e.key,e.val]/\e.val=u32 x.2/\(dx es m seen).Perm (x::dx es m seen')/\seen'.back?=some e.born/\es.find? (·.born==e.born)=some e/\
    H=A++((bi,.mapIter (some b) ck seen' ck)::B)) hF rfl zC rfl ha ?_
  (ZH.run (h.next (bi:=bi) (bm:=b) (seen:=seen) (H:=A++((bi,.mapIter (some b) ck seen ck)::B)) (xaa _ (.tail _ (by rw[hB];exact .tail _ (.head _)))) (xaa _ (.head _))
   (λe x seen' he hk hv hp hb hf=>⟨_,(cu.head _).aO A,.inr ⟨e,x,seen',rfl,hv,hp,hb,hf,rfl⟩⟩) (λhu=>.inl ⟨hu,rfl,rfl⟩)) hw) λv H' w1 a1 hv ie EC=>?_
 ·rw[e6.symm];rfl
 rcases hv with⟨hu,rfl,rfl⟩|⟨e,x,seen',rfl,zJ,hp,hbk,hfi,rfl⟩
 ·refine iX (g:=g) (n:=15) (v0:=.bool false) hF rfl zC rfl EC ie ⟨_,_,rfl,rfl,rfl⟩ λa2 Dw=>?_;refine wpListIn_nil ?_;refine wpIn_seq ?_;refine wpIn_cond_false (by rw[Dw.eval];rfl) ?_;refine wpIn_exit ?_;simp only[Exit.then,Exit.inBlock,xa7,bodyPost];refine⟨Dw.defers,_,results_none rfl _ _ _,⟨_,rfl⟩,ss,A,?_,hG,(ie.perm xaU).tail⟩;rw[hu,xcL,xaH]at dy;exact dy
 refine iX (g:=g) (n:=15) (v0:=.bool true) hF rfl zC rfl EC ie ⟨_,_,rfl,rfl,rfl⟩ λa2 Dw=>?_;refine wpListIn_nil ?_;refine wpIn_seq ?_;refine wpIn_cond_true (by rw[Dw.eval];rfl) ?_;refine wpIn_skip ?_;refine wpIn_block ?_;refine wpIn_seq ?_;refine wpIn_region_lit ?_;refine Ih (g:=g) (n:=15) (s:=Instr.entry (ptr bi)) (K:=λv H=>v=.tuple #[e.key,e.val]/\H=A++((bi,.mapIter (some b) ck seen' ck)::B)) hF rfl zC rfl Dw ?_ ?_ λv H' w2 a3 hv wS Lg=>?_
 ·rw[e6.symm];rfl
 ·obtain⟨v,hr,hv⟩:=Sk.run (P:=zQ) (k:=λv=>v=.tuple #[e.key,e.val]) ⟨bi,b,ck,seen',e.born,ck,es,e,rfl,xaa _ (.head _),hbk,xaa _ (.tail _ (by rw[hB];exact .tail _ (.head _))),hfi,rfl⟩ ie;exact⟨v,w1,_,hr,ie,hv,rfl⟩
 obtain⟨rfl,rfl⟩:=hv;refine iX (g:=g) (n:=15) (v0:=u32 x.2) hF rfl zC rfl Lg wS ⟨_,_,rfl,rfl,zJ⟩ λa4 UJ=>?_;refine iX (g:=g) (n:=15) (v0:=u32 x.2) hF rfl zC rfl UJ wS (show u32 x.2=u32 x.2 from rfl) λa5 UI=>?_;refine wpListIn_nil ?_;refine wpIn_seq ?_;refine wpIn_region_lit ?_;refine iX (g:=g) (n:=15) (v0:=.func (.yield l) #[] #[]) hF rfl zC rfl UI wS f0 λa6 UH=>?_;refine iX (g:=g) (n:=15) (v0:=u32 x.2) hF rfl zC rfl UH wS (show u32 x.2=u32 x.2 from rfl) λa7 Zn=>?_;have hlen:(dx es m seen).length=(dx es m seen').length+1:=by rw[hp.length_eq];rfl
 have hlt:ss.length<m.length:=by
  have:=dy.length_eq;simp only[xaf,xax]at this⊢;omega
 obtain⟨fn,tmps,assign,body,hy,hR⟩:=hY _ x.2 A _ w2 hG hlt wS;refine wpListIn_plain rfl λK hK=>⟨λ_ _=>trivial,?_⟩;rw[Oper.semAt_eq _ _ _ zC,Zn.eval];have hex:∀F7:Fr,F7=bT (bT (bT (bT (bT (bT (bT fr (some 7) (.tuple #[.bool true,e.key,e.val])) (some 8) (.bool true)) (some 9) (.tuple #[e.key,e.val])) (some 10) (u32 x.2)) (some 4) (u32 x.2)) (some 11) (.func (.yield l) #[] #[])) (some 12) (u32 x.2)->(execOp (ev F7) (bM VF 3 2)).run zQ w2=.ok (.round l fn tmps assign body) w2:=λF7 hF7=>by
  have v11:ev F7 (.tmp 11)=.func (.yield l) #[] #[]:=by rw[hF7];rfl
  have v12:ev F7 (.tmp 12)=u32 x.2:=by rw[hF7];rfl
  have e11:execOp (ev F7) (bM VF 3 2)=(do let d <-resolve (ev F7) {callee:=.value (.tmp 11),args:=#[.tmp 12],argTypes:=#[80]} 4;invoke d.target d.args):=rfl;rw[e11];simp[resolve,Deferred.ofValue,v11,v12,invoke,go_sem,hy]
 refine(xca (Oper.uponIn Fence.wide 0 zQ (bM VF 3 2) a7 K _) (hex _ rfl)).mpr ⟨λh=>(by cases h),hR.mono ?_⟩;rintro e' w3 ⟨rfl,A',hG',hw3⟩;refine hK _ _ ?_;have ha8:=Zn.put (d:=some 13) rfl (.bool true);refine iX (g:=g) (n:=15) (v0:=.bool false) hF rfl zC rfl ha8 hw3 ⟨_,rfl,rfl⟩ λa9 ha9=>?_;refine wpListIn_nil ?_;refine wpIn_cond_false (by rw[ha9.eval];rfl) ?_;refine wpIn_skip ?_;refine⟨(dx es m seen').length,by omega,_,ss++[x.2],A',seen',ha9,f0,f6,hG',hw3,?_,rfl⟩;rw[xai];exact((hp.map Prod.snd).append_left ss).symm.trans dy
end
end
section
open aC
section
noncomputable abbrev AF:Func:=Tryz.f301
variable {f:FuncId} {cap:Array zV} {B:Hp} {N:Nat} {S:zL->Prop}
noncomputable def de:Code:=match AF.body with|some (.seq _ (.seq (.seq _ (.block _ (.rangeFunc _ _ c _))) _))=>c|_=>.skip
noncomputable def eY:Code:=match AF.body with|some (.seq _ (.seq (.seq _ (.block _ (.rangeFunc _ _ _ c))) _))=>c|_=>.skip
noncomputable def Vp(i:Nat):Oper:=match eY with| .block _ (.region _ ops _)=>(match ops[i]? with|some o=>o|none=>default)|_=>default
def kG(fn:FuncId)(tmps:Array zV)(assign body:Code)(D:Nat):Loop:={state:=.ready,pending:=none,fn,tmps,params:=#[7],assign,body,defers:=D}
def APG(l D bs:Nat)(fn:FuncId)(tmps:Array zV)(assign body:Code)(ss:zL)(A:Hp):Prop:=
 ∃v C',A=(l,.loop (kG fn tmps assign body D))::(D,.deferred (some []))::(bs,.cells #[v] 189 zZ)::C'/\aR 80 .u32 v (iw ss) C'
theorem RW{g:Gh}{l D bs:Nat}{fn:FuncId}{tmps:Array zV}{fr:Fr}(hsz:tmps.size=13)(fI:∀s,tmps.getD s undef=fr s)(f2:fr 2=ptr bs){ss:zL}{x:Nat}{A X:Hp}{W:World}
 (hG:APG l D bs fn tmps de eY ss A)(hl:ss.length<1099511627776)(hW:Own g (A++X) W):
  YieldAt Fence.wide 0 zQ l #[u32 x] W (λe W'=>e=.returned (.bool true)/\∃A',APG l D bs fn tmps de eY (ss++[x]) A'/\Own g (A'++X) W'):=by
 obtain⟨v,C',rfl,ho⟩:=hG;have hF:∀f,(Fence.wide.inRound l).fn f:=λ_=>trivial;have hL:W.heap[l]? =some (.loop (kG fn tmps de eY D)):=hW.has _ (.head _);refine⟨fn,_,de,eY,run_yield hL rfl,roundIn_of_wpIn trivial ?_⟩;have ha:Dg [] 13 {tmps:=tmps.setIfInBounds 7 (u32 x),defers:=[]} (bT fr (some 7) (u32 x)):=(Dg.put (a:={tmps:=tmps,defers:=[]}) (d:=some 7) ⟨rfl,hsz,fI⟩ rfl (u32 x));have ha:Dg [] 13 {tmps:=(#[7].zip #[u32 x]).foldl (λtmps (t,a)=>tmps.setIfInBounds t a) tmps,defers:=[]} (bT fr (some 7) (u32 x)):=by simpa using ha
 change Code.wpIn _ 0 zQ (.region _ #[_] false) _ _ _;refine wpIn_region_lit ?_;refine iX (g:=g) (n:=13) (v0:=u32 x) hF rfl zC rfl ha hW rfl λa1 EC=>?_;refine wpListIn_nil ?_;have hbr:=run_beginRound (P:=zQ) hL rfl;refine⟨_,hbr,?_⟩;have Wz:=hW.putObj (o':=.loop {kG fn tmps de eY D with state:=.busy}) (.head _);change Code.wpIn _ 0 zQ (.block _ (.region _ #[_,_,_,_,_] false)) _ _ _;refine wpIn_block ?_;refine wpIn_region_lit ?_;obtain⟨H1,hH1⟩:∃H1,H1=(l,Obj.loop {kG fn tmps de eY D with state:=.busy})::(((D,.deferred (some []))::(bs,.cells #[v] 189 zZ)::C')++X):=⟨_,rfl⟩
 replace Wz:Own g H1 (W.putObj l (.loop {kG fn tmps de eY D with state:=.busy})):=by rw[hH1];exact Wz
 have e0:Dm zQ g (Vp 0) (ev (bT (bT fr (some 7) (u32 x)) (some 5) (u32 x))) H1 (λz=>z=v)=Ld H1 (fr 2) (λz=>z=v):=by kernel_rfl
 refine iX (g:=g) (n:=13) (v0:=v) hF rfl zC rfl EC Wz (e0.mpr (by rw[f2];exact Ld.mk (by rw[hH1];exact .tail _ (.tail _ (.head _))) rfl rfl)) λa2 Dw=>?_;refine iX (g:=g) (n:=13) (v0:=u32 x) hF rfl zC rfl Dw Wz rfl λa3 Lg=>?_;have eb:∀K:zV->Hp->Prop,aj zQ 189 1 [(0,.int .u32 (x:Int))] H1 K=Sq zQ g (Vp 2) (ev (bT (bT (bT (bT fr (some 7) (u32 x)) (some 5) (u32 x)) (some 8) v) (some 9) (u32 x))) H1 K (λ_ _=>False):=λK=>by kernel_rfl
 refine Ov (g:=g) (n:=13) (s:=_) (K:=λv H=>∃b,v=.slice (some ⟨b,0,none⟩) 1 1/\H=(b,.cells (aA .u32 [(x:Int)]) 80 zZ)::H1) hF rfl zC rfl Lg Wz rfl
  ((eb _).mp (aj.int zK zK zK λb=>⟨b,rfl,rfl⟩)) λv1 H2 w2 a4 hv hW2 UJ=>?_
 obtain⟨b,rfl,rfl⟩:=hv;have hn:(iw ss).length=ss.length:=an ss;obtain⟨H2,Zt⟩:∃H2,H2=(b,Obj.cells (aA .u32 [(x:Int)]) 80 zZ)::H1:=⟨_,rfl⟩;rw[<-Zt]at hW2;refine Ov (g:=g) (n:=13) (s:=_) (K:=λv' H=>∃C2,aR 80 .u32 v' (iw (ss++[x])) C2/\H=(b,Obj.cells (aA .u32 [(x:Int)]) 80 zZ)::(l,Obj.loop {kG fn tmps de eY D with state:=.busy})::(D,.deferred (some []))::(bs,.cells #[v] 189 zZ)::(C2++X))
  hF rfl zC rfl UJ hW2 (by simp only[execOp,resolve,invoke,builtin];simp[bind,Sem.bind];rfl) ?_ λv2 H3 w3 a5 hv UK UI=>?_
 ·have e1:∀K:zV->Hp->Prop,App zQ 80 1 4 (.int .u32 0) H2 v (.slice (some ⟨b,0,none⟩) 1 1) K=
   Sq zQ g (Vp 3) (ev (bT (bT (bT (bT (bT fr (some 7) (u32 x)) (some 5) (u32 x)) (some 8) v) (some 9) (u32 x)) (some 10) (.slice (some ⟨b,0,none⟩) 1 1))) H2 K (λ_ _=>False):=λK=>by kernel_rfl
  refine(e1 _).mp ?_;rw[Zt,hH1];refine ho.mi (.cons (.cons (.cons (.cons .left)))) (by exact .head _) zO zO λv' C2 BM=>⟨C2,?_,rfl⟩;rw[cj];exact BM
 obtain⟨C2,BM,rfl⟩:=hv;have es:∀(H:Hp) (K:zV->Hp->Prop),St 1 H (fr 2) v2 (λH'=>K undef H')=Sq zQ g (Vp 4) (ev (bT (bT (bT (bT (bT (bT fr (some 7) (u32 x)) (some 5) (u32 x)) (some 8) v) (some 9) (u32 x)) (some 10) (.slice (some ⟨b,0,none⟩) 1 1)) (some 11) v2)) H K (λ_ _=>False):=λH K=>by kernel_rfl
 refine ZZ (g:=g) (n:=13) (s:=_) (K:=λ_ H=>H=(b,Obj.cells (aA .u32 [(x:Int)]) 80 zZ)::(l,Obj.loop {kG fn tmps de eY D with state:=.busy})::(D,.deferred (some []))::(bs,.cells #[v2] 189 zZ)::(C2++X))
  hF rfl zC rfl UI UK rfl ((es _ _).mp ?_) λH4 w4 a6 hv hW4 UH=>?_
 ·rw[f2];exact St.one (.tail (.tail (.tail (.head _)))) BM.one zI rfl rfl
 subst hv;refine wpListIn_nil ?_;simp only[Exit.inBlock,roundPost];refine⟨_,_,run_endRound none (hW4.has _ (.tail _ (.head _))),rfl,_,⟨v2,C2,rfl,BM⟩,?_⟩;exact(hW4.putObj (.tail (.head _))).tail
theorem LU(hg:Jv zQ f cap B u32 N S)(hc:bR zQ f=true)(hN:N<=1099511627776):
  Fc zQ 301 #[.slice none 0 0,.func (.func f) #[] cap] B (λv H=>∃ss C',S ss/\H=C'++B/\aR 80 .u32 v (iw ss) C'):=by
 intro g w hw;rw[<-callsIn_wide (n:=0)];have hF:∀f,Fence.wide.fn f:=λ_=>trivial;refine callsIn_of_wp_marks func301 rfl trivial ?_;have ha:=vK (m:=13) (args:=[.slice none 0 0,.func (.func f) #[] cap]) zI;refine wpIn_seq ?_;refine wpIn_region_lit ?_;refine Ov (g:=g) (n:=13) (s:=_) (K:=λv H=>∃bs,v=ptr bs/\H=(bs,.cells #[.slice none 0 0] 189 zZ)::B) hF rfl zC rfl ha hw rfl (λbs _=>⟨bs,rfl,rfl⟩) λv H1 w1 a1 hv ie EC=>?_;obtain⟨bs,rfl,rfl⟩:=hv;refine iX (g:=g) (n:=13) (v0:=.slice none 0 0) hF rfl zC rfl EC ie rfl λa2 Dw=>?_;refine wpListIn_nil ?_;refine wpIn_seq ?_;refine wpIn_seq ?_;refine wpIn_region_lit ?_;refine iX (g:=g) (n:=13) (v0:=.func (.func f) #[] cap) hF rfl zC rfl Dw ie rfl λa3 Lg=>?_;refine wpListIn_nil ?_;refine wpIn_block ?_;refine wpIn_rangeFunc λfn hfn=>?_;have KT:=(ie.alloc (.deferred (some []))).alloc (.loop (kG fn a3.tmps de eY w1.heap.size));have f6:a3.tmps[6]?.getD undef=.func (.func f) #[] cap:=by have:=Lg.get 6;rw[xav]at this;exact this
 obtain⟨W1,Wz⟩:∃W1,W1=(w1.alloc (.deferred (some []))).alloc (.loop (kG fn a3.tmps de eY w1.heap.size)):=⟨_,rfl⟩;rw[<-Wz]at KT;refine⟨w1.heap.size+1,[{target:=.collected w1.heap.size,args:=#[]}],W1,{target:=.fn (.func f) cap,args:=#[.func (.yield (w1.heap.size+1)) #[] #[]]},W1,f,#[.func (.yield (w1.heap.size+1)) #[] #[]]++cap,W1,?_,?_,λ_ _=>trivial,?_,λh=>(by cases h),?_⟩
 ·rw[Wz];exact run_enterLoop_outer fn a3.tmps #[7] _ _
 ·simp[resolve,Deferred.ofValue,f6,go_sem]
 ·simp[invoke,go_sem];exact dS hc _ _
 have hsz:(w1.alloc (.deferred (some []))).heap.size=w1.heap.size+1:=by simp
 rw[hsz]at KT;refine CallsIn.mono (hg g (w1.heap.size+1) (APG (w1.heap.size+1) w1.heap.size bs fn a3.tmps de eY) (λss x A X W hG hl hW=>RW Lg.size Lg.get rfl hG zO hW) [_,_,_] W1 ⟨_,[],rfl,aR.nil⟩ KT) ?_;rintro e W2 ⟨⟨v0,rfl⟩,ss,A',hS,⟨v,C',rfl,ho⟩,hW2⟩;refine⟨none,_,run_endLoop (hW2.has _ (.head _)) (by simp[kG]),?_⟩;have UK:=hW2.putObj (o':=.loop {kG fn a3.tmps de eY w1.heap.size with state:=.exhausted}) (.head _);simp only[Exit.then,Exit.inBlock];have UJ:Dg [{target:=.collected w1.heap.size,args:=#[]}] 13 {a3 with defers:=[{target:=.collected w1.heap.size,args:=#[]}]++a3.defers} (bT (bT (bT (fH [.slice none 0 0,.func (.func f) #[] cap] 0) (some 2) (ptr bs)) (some 4) (.slice none 0 0)) (some 6) (.func (.func f) #[] cap)):=
  ⟨by rw[Lg.defers];rfl,Lg.size,Lg.get⟩
 refine wpIn_seq ?_;refine wpIn_region_lit ?_;obtain⟨H3,hH3⟩:∃H3,H3=(w1.heap.size+1,Obj.loop {kG fn a3.tmps de eY w1.heap.size with state:=.exhausted})::(((w1.heap.size,.deferred (some []))::(bs,.cells #[v] 189 zZ)::C')++B):=⟨_,rfl⟩
 replace UK:Own g H3 (W2.putObj (w1.heap.size+1) (.loop {kG fn a3.tmps de eY w1.heap.size with state:=.exhausted})):=by rw[hH3];exact UK
 have e0:Dm zQ g (bM AF 4 0) (ev (bT (bT (bT (fH [.slice none 0 0,.func (.func f) #[] cap] 0) (some 2) (ptr bs)) (some 4) (.slice none 0 0)) (some 6) (.func (.func f) #[] cap))) H3 (λz=>z=v)=Ld H3 (ptr bs) (λz=>z=v):=by kernel_rfl
 refine iX (g:=g) (n:=13) (v0:=v) hF rfl zC rfl UJ UK (e0.mpr (Ld.mk (by rw[hH3];exact .tail _ (.tail _ (.head _))) rfl rfl)) λa5 UI=>?_;refine iX (g:=g) (n:=13) (v0:=v) hF rfl zC rfl UI UK rfl λa6 UH=>?_;refine wpListIn_nil ?_;refine wpIn_ret ?_;simp only[Exit.then,bodyPostM];rw[UH.defers];rw[hH3]at UK;refine⟨by simp,.inl ⟨w1.heap.size,_,rfl,run_takeDeferred (UK.has _ (.tail _ (.head _))),?_⟩⟩;have hW4:=UK.putObj (o':=.deferred none) (.tail (.head _));refine⟨_,results_tmp rfl _ _ _,C'++B,hW4.tail.tail.tail,v,C'++B,?_,.refl _,ss,C',hS,rfl,ho⟩;have:=UH.get 4;rw[this];rfl
end
section
variable {f:FuncId} {cap:Array zV} {B:Hp} {N:Nat} {S:zL->Prop}
theorem ER(hg:Jv zQ f cap B u32 N S)(hc:bR zQ f=true)(hN:N<=1099511627776):
  Fc zQ 286 #[.func (.func f) #[] cap] B (λv H=>∃ss C',S ss/\H=C'++B/\aR 80 .u32 v (iw ss) C'):=by
 refine aK λg=>FB (aa.fq (LU hg hc hN) ?_);rintro v H h;exact aQ.here h
theorem TM{l':List Int}{ss:zL}(h:l'.Perm (iw ss)):∃l:zL,l.Perm ss/\l'=iw l:=by
 refine⟨l'.map Int.toNat,?_,?_⟩
 ·have:=h.map Int.toNat;rw[iw,xbR]at this;have e:(Int.toNat∘(Nat.cast:Nat->Int))=id:=by funext x;simp
  rw[e,xej]at this;exact this
 unfold iw;rw[xbR];have:∀x∈l',((Nat.cast:Nat->Int)∘Int.toNat) x=x:=λx hx=>by
  obtain⟨n,_,rfl⟩:=xam.1 (h.mem_iff.1 hx);simp
 rw[xbr this,List.map_id']
theorem JT(hg:Jv zQ f cap B u32 N S)(hS:∀ss,S ss->ss.length<=N)(hc:bR zQ f=true)(hN:N<=1099511627776):
  Fc zQ 258 #[.func (.func f) #[] cap] B (λv H=>∃ss l C',S ss/\l.Perm ss/\H=C'++B/\aR 80 .u32 v (iw l) C'):=by
 refine aK λg=>FV (aa.fq (ER hg hc hN) ?_);rintro v H ⟨ss,C',hs,rfl,ho⟩;have hlen:=hS ss hs;refine aa.fn (.left (A:=B)) (To ho (by rw[an];omega)) ?_;rintro w C2 ⟨rfl,cq⟩;rw[Tm]at cq;exact aQ.here ⟨ss,_,C2,hs,xq ss,rfl,cq⟩
end
theorem Tw{pt n v:Nat}{T:Nd->Option Nat}{C:Hp}(h:nk pt n T C)(hv:v<n)(hinj:∀d d' r,T d=some r->T d'=some r->d=d')(hb:∀d r,T d=some r->r<1048576):
  Fc zQ 224 #[ptr pt,iv (v:Int)] C (λr H=>∃w l N,r=.tuple #[w,iv 0]/\H=N++C/\aR 80 .u32 w (iw l) N/\l.Nodup/\∀r,r∈l↔∃d,T d=some r/\d.v=v):=by
 have h0:=h;obtain⟨vs,Cs,ms,rfl,hs,ho⟩:=h;obtain⟨m,hm⟩:∃m,ms[v]? =some m:=⟨_,xab (by rw[ho.len];exact hv)⟩;have he:=ho.dL v m hm;have hT:∀d:Nd,d.v=v->T d=bO m.l d:=λd hd=>by rw[ho.T,hd,hm];rfl
 have hmem:∀d r,(d,r)∈m.l↔T d=some r/\d.v=v:=λd r=>by
  constructor
  ·intro hx;have hd:=ho.var v m hm _ hx;exact⟨by rw[hT d hd];exact(fe he.nd).2 hx,hd⟩
  rintro⟨h1,h2⟩;rw[hT d h2]at h1;exact(fe he.nd).1 h1
 have gw:(m.l.map Prod.snd).Nodup:=by
  refine xb9.2 ((xb9.1 he.nd).imp_of_mem λ{a b} ha hb' hne e=>hne ?_);have h1:=((hmem a.1 a.2).1 ha).1;have h2:=((hmem b.1 b.2).1 hb').1;rw[<-e]at h2;exact hinj _ _ _ h1 h2
 have hlen:m.l.length<=1048576:=by
  have:=bV (l':=List.range 1048576) gw λx hx=>by
   obtain⟨y,hy,rfl⟩:=xam.1 hx;exact xaO.2 (hb _ _ ((hmem y.1 y.2).1 hy).1)
  simpa using this
 refine aK λg=>Gg (aa.eq (jW h0 hv) (ae.ic (Br.F (Nil.ptr ?_))));refine af.mk (Ld.mk zM rfl ?_);refine hs.VS (x:=.map (some m.b)) (by rw[xar,hm];rfl) (λ_ h=>by exact .tail _ (xad _ h)) ?_;refine aa.fq (JK (b:=m.b) _) ?_;rintro w H ⟨bm,rfl,rfl⟩;obtain⟨X,Y,hXY⟩:=xc3 (pT hm);have dy:((bm,Obj.cells #[.map (some m.b)] 159 zZ)::(pt,.cells #[vs] 158 zZ)::(Cs++Kw ms)).Perm
   ([(bm,.cells #[.map (some m.b)] 159 zZ),(m.b,.map m.es m.ck)]++((pt,.cells #[vs] 158 zZ)::(Cs++(X++Y)))):=by
  rw[hXY];refine .cons _ ?_;show((pt,_)::(Cs++(X++(m.b,_)::Y))).Perm ((m.b,_)::(pt,_)::(Cs++(X++Y)));refine .trans (.cons _ ?_) (.swap _ _ _);rw[<-xai,<-xai];exact xaU
 refine aa.pre (.perm dy) ?_;refine aa.fq (JT (DG he) (λss hss=>by rw[hss.length_eq,xax];exact xal _) zK zO) ?_;rintro w H ⟨ss,l,C',hss,hl,rfl,hown⟩;have mT:l.Perm (m.l.map Prod.snd):=hl.trans hss;refine aQ.mk (gY:=C'++((pt,.cells #[vs] 158 zZ)::(Cs++Kw ms))) ?_ ⟨w,l,C',rfl,rfl,hown,mT.nodup_iff.2 gw,λr=>?_⟩
 ·rw[xai];refine aF.cL ?_ C';exact(aF.perm dy.symm).trans .tail
 rw[mT.mem_iff,xam];constructor
 ·rintro⟨y,hy,rfl⟩;exact⟨y.1,(hmem y.1 y.2).1 hy⟩
 rintro⟨d,hd⟩;exact⟨(d,r),(hmem d r).2 hd,rfl⟩
end
end Go.Proofs
namespace Go.Sx
open Go
section
variable {P:Program} {g:Gh} {H:Hp} {κ β:Type} [DecidableEq κ] {ke:κ->zV} {vr:zV->β->Prop} {es:Array MapEntry} {ck b:Nat} {m:List (κ×β)} {K:zV->Hp->Prop} {KP:List PanicEntry->Hp->Prop}
omit [DecidableEq κ] in
theorem aT.sameKey(h:aT ke vr es ck m){i:Nat}{k:κ}{x:β}(hi:m[i]? =some (k,x)):es.modify i (λe=>{e with key:=ke k})=es:=by
 apply Array.ext_getElem?;intro j;rw[xbf];split
 ·rename_i e;subst e;cases he:es[i]? with
  |none=>rfl
  |some e0=>rw[xbj,<-(h.key i e0 _ he hi).1]
 ·rfl
theorem aT.U7{o:Oper}{ρ:Operand->zV}{t kt e:TypeId}{kd:TypeDesc}{mo ko:Operand}{z:zV}{k:κ}{y0:β}(hk:∀a b,Dc P kt (ke a) (ke b) (decide (a=b)))(hc:∀a,mj P kt (ke a))(hb:∀a,Instr.sameBits 10000 (ke a) (ke a)=true)
 (ho:o.op=.mapEntry t mo ko)(hm':ρ mo=.map (some b))(hk':ρ ko=ke k)(ht:P.underlying t=some (.map kt e))(BO:P.underlying kt=some kd)(abu:cH kd=true)(hzd:dV P e=some z)(hvz:vr z y0)
 (h:aT ke vr es ck m){c:Obj->Hp}(Qm:∀o o',cu b o o' (c o) (c o'))
 (h1:∀es' cC v st,aT ke vr es' cC (if k∈m.map Prod.fst then m else m++[(k,y0)])->(∃e∈es'.toList,e.born=st)->K (.tuple #[v,.int .i64 (st:Int)]) (c (.map es' cC))):cU P g o ρ (c (.map es ck)) K KP:=by
 have Sy:(b,Obj.map es ck)∈c (.map es ck):=(Qm _ (.map es ck)).mem;obtain⟨i,hi,wT⟩:=cB hzd;refine cU.ofValue (s:=Instr.mapEntry t (.map (some b)) (ke k)) (by simp only[execOp,ho,hm',hk']) λw hw=>?_;have eU:=λb=>hc k b w;rcases h.Cb hk k with⟨j,x,e0,g1,g2,g3,g4⟩|⟨g1,g2⟩
 ·have n5:=fX (P:=P) BO abu g4 w;have hj:=(xaR.1 g1).1;have hkey:es[j].key=ke k:=(h.key j _ _ (xbE hj) g2).1;have hmem:k∈m.map Prod.fst:=xam.2 ⟨_,xay g2,rfl⟩;obtain⟨w',hs,hown⟩:=bQ (P:=P) hw (es.modify j λe=>{e with key:=ke k}) ck (by rw[h.sameKey g2];exact Qm _ (.map es ck));refine⟨.tuple #[e0.val,.int .i64 (es[j].born:Int)],w',_,?_,hown,h1 es ck e0.val es[j].born (by rw[xae hmem];exact h) ⟨es[j],by simp,rfl⟩⟩;simp[Instr.mapEntry,run_underlying ht,aW hw Sy,eU,n5,hj,Instr.keyThatStays,hkey,hb k,hs,goInt]
 have n5:=fX (P:=P) BO abu g2 w;obtain⟨w',hs,hown⟩:=bQ (P:=P) hw (es.push {key:=ke k,val:=z,born:=ck}) (ck+1) (Qm _ _);have tw:=h.more (k:=k) g1 hvz;have e2:cY m k y0=m++[(k,y0)]:=by unfold cY;rw[xac g1]
 rw[e2]at tw;refine⟨.tuple #[z,.int .i64 (ck:Int)],w',_,?_,hown,h1 _ _ z ck (by rw[xac g1];exact tw) ⟨_,by rw[xen];exact xaa _ (.head _),rfl⟩⟩;simp[Instr.mapEntry,run_underlying ht,aW hw Sy,eU,n5,dB hi wT,hs,goInt]
omit [DecidableEq κ] in
theorem aT.Tj{o:Oper}{ρ:Operand->zV}{t:TypeId}{mo so xo:Operand}{st:Nat}(ho:o.op=.entryStore t mo so xo)(hm':ρ mo=.map (some b))(hs':ρ so=.int .i64 (st:Int))
 (h:aT ke vr es ck m)(hst:∃e∈es.toList,e.born=st)(hv:∀x,vr (ρ xo) x){c:Obj->Hp}(Qm:∀o o',cu b o o' (c o) (c o'))
 (h1:∀es',aT ke vr es' ck m->K undef (c (.map es' ck))):cU P g o ρ (c (.map es ck)) K KP:=by
 have Sy:(b,Obj.map es ck)∈c (.map es ck):=(Qm _ (.map es ck)).mem;refine cU.rf (s:=Instr.entryStore t (.map (some b)) (.int .i64 (st:Int)) (ρ xo)) (by simp only[execOp,ho,hm',hs']) λw hw=>?_;obtain⟨i,hi⟩:∃i,es.findIdx? (λe=>(e.born:Int)==(st:Int))=some i:=by
  obtain⟨e,he,rfl⟩:=hst;rw[<-xdM,Array.findIdx?_isSome];rw[Array.any_eq_true'];exact⟨e,by simpa using he,by simp⟩
 obtain⟨w',hs,hown⟩:=bQ (P:=P) hw (es.modify i λe=>{e with val:=ρ xo}) ck (Qm _ _);have Zk:((es.modify i λe=>{e with val:=ρ xo}).toList.map MapEntry.born)=es.toList.map MapEntry.born:=by
  apply xbq;intro j;simp only[xar,xbm,xbf];split
  ·cases es[j]? <;>rfl
  rfl
 refine⟨w',_,?_,hown,h1 _ ⟨by simp[h.len],λj e x he hx=>?_,h.nd,by rw[Zk];exact h.born,λe he=>?_⟩⟩
 ·simp only[Instr.entryStore,Sem.run_bind,aW hw Sy,Result.andThen_ok,asInt,asIntOf,Sem.run_pure];simp only[hi,hs]
 ·rw[xbf]at he;split at he
  ·cases h0:es[j]? with
   |none=>rw[h0]at he;simp at he
   |some e0=>
    rw[h0]at he;simp only[xbj,xas]at he;subst he;exact⟨(h.key j _ _ h0 hx).1,hv _⟩
  exact h.key j _ _ he hx
 have:e.born∈(es.modify i λe=>{e with val:=ρ xo}).toList.map MapEntry.born:=xbd he;rw[Zk]at this;obtain⟨e0,h1,h2⟩:=xam.1 this;rw[<-h2];exact h.lt e0 h1
end
theorem br.out{C H:Hp}{c:Hp->Hp}(h:br C H c)(N:Hp):aF (c (N++C)) (N++H):=by
 obtain⟨e,F,hp⟩:=h.spec;refine .perm ((hp (N++C)).trans ?_);rw[xai];refine xcn N ?_;have:=hp C;rw[<-e]at this;exact this.symm
end Go.Sx
set_option maxRecDepth 100000
namespace Go.Proofs
open Go Go.Sx Tryz
section
open aC
section
variable {kp:Nat} {K:Kd} {ord ag tr:zL} {C:Hp} {S:Nat->aC.Fn}
def Ay(N:dU)(r:Nat):Int:=match N r with|some d=>(d.v:Int)|none=> -1
theorem BX{N:dU}{r:Nat}(hl:live N r)(h2:∀d,N r=some d->2<=r):∃lo hi,got N r=[iv (Ay N r),u32 lo,u32 hi]/\∀e,N r=some e->lo=e.lo/\hi=e.hi:=by
 cases h:N r with
 |some d=>
  refine⟨d.lo,d.hi,?_,λe he=>by cases he;exact⟨rfl,rfl⟩⟩;rw[fh h (h2 d h)];simp[bH,Ay,h]
 |none=>
  have hr:r<2:=by
   rcases hl with hl|⟨d,hd⟩
   ·exact hl
   rw[h]at hd;cases hd
  refine⟨r,r,?_,λe he=>by cases he⟩;rw[gH hr];simp[Ay,h]
theorem Bc(h:cQ kp K ord ag tr C){r:Nat}(hr:r<4294967296)(hl:live K.N r)(h2:∀d,K.N r=some d->2<=r)(y:Nat):
  Rd zQ 225 #[ptr kp,u32 r,iv (y:Int)] C (· =.tuple #[u32 (pl K.N y r),u32 (ph K.N y r)]):=by
 have h0:=h;obtain⟨b,rfl,hO⟩:=h;obtain⟨lo,hi,hg,he⟩:=BX hl h2;refine aK λg=>Gf (Nil.ptr (af.mk (aa.eq (mP h0 hr) ?_)));intro b5 _;refine St.whole (r:=got K.N r) (by exact .head _) rfl (bJ _ _).1 (bJ _ _).2 ?_;rw[hg];refine Ld.f ?_;refine ae.lT (Br.dec (λe=>?_) (λe=>?_))
 ·refine Ld.f ?_;refine Ld.f ?_;cases hN:K.N r with
  |none=>simp[Ay,hN]at e<;>omega
  |some d=>
   obtain⟨rfl,rfl⟩:=he d hN;have hv:d.v=y:=by simp[Ay,hN]at e;omega
   obtain⟨e1,e2⟩:=TE hN hv;exact bD.mk .tail (by rw[e1,e2];rfl)
 obtain⟨e1,e2⟩:=TJ (N:=K.N) (y:=y) (r:=r) λd hd=>by simp[Ay,hd]at e<;>omega
 exact bD.mk .tail (by rw[e1,e2])
def kL(c:Cx):List zV:=[u32 c.r,iv (c.d.v:Int),u32 c.d.lo,u32 c.d.hi,u32 c.wY,u32 c.wX,u32 c.sK,u32 c.sJ]
theorem kD(c:Cx):∀x∈kL c,x.oneCell'=true:=by intro x hx;simp[kL,u32]at hx;rcases hx with rfl|rfl|rfl|rfl|rfl|rfl|rfl|rfl<;>rfl
structure xf(N:dU)(x y:Nat)(l:zL)(all:List Cx):Prop where
 nd:(all.map Cx.r).Nodup
 mem:∀c,c∈all↔c.r∈l/\lF N x y c.r c.d/\c=m5 N y c.r c.d
theorem xf.skip{N:dU}{x y r:Nat}{l:zL}{all:List Cx}{d:Nd}(h:xf N x y l all)(hd:N r=some d)(hn:¬lF N x y r d):xf N x y (l++[r]) all where
 nd:=h.nd
 mem:=λc=>by
  rw[h.mem,xaq];constructor
  ·rintro⟨h1,h2⟩;exact⟨.inl h1,h2⟩
  rintro⟨h1|h1,h2,h3⟩
  ·exact⟨h1,h2,h3⟩
  simp at h1;have:=h2.1;rw[h1,hd]at this;cases this;rw[h1]at h2;exact absurd h2 hn
theorem xf.more{N:dU}{x y r:Nat}{l:zL}{all:List Cx}{d:Nd}(h:xf N x y l all)(hr:r∉l)(hn:lF N x y r d):xf N x y (l++[r]) (all++[m5 N y r d]) where
 nd:=by
  rw[xaB];refine xa9.2 ⟨h.nd,by simp,λa ha b hb e=>?_⟩;simp[m5]at hb;subst e;obtain⟨c,hc,rfl⟩:=xam.1 ha;exact hr (hb▸((h.mem c).1 hc).1)
 mem:=λc=>by
  rw[xaq,h.mem,xaq,xaG,xaG];constructor
  ·rintro(⟨h1,h2⟩|rfl)
   ·exact⟨.inl h1,h2⟩
   exact⟨.inr rfl,hn,rfl⟩
  rintro⟨h1|h1,h2,h3⟩
  ·exact .inl ⟨h1,h2,h3⟩
  right;have h4:=h2.1;rw[h1,hn.1]at h4;cases h4;exact h3.trans (by rw[h1])
theorem xf.all{N:dU}{x y:Nat}{l:zL}{all:List Cx}(h:xf N x y l all)(hl:∀r d,N r=some d->d.v=x->r∈l):Jx N x y all where
 nd:=h.nd
 mem:=λc=>by
  rw[h.mem];exact⟨λh=>h.2,λh=>⟨hl _ _ h.1.1 h.1.2.1,h⟩⟩
theorem zg(h:cQ kp K ord ag tr C){r:Nat}(hl:live K.N r)(h2:∀d,K.N r=some d->2<=r){H:Hp}{c:Hp->Hp}(hh:br C H c){g:Gh}{Q:zV->Hp->Prop}{KP:List PanicEntry->Hp->Prop}
 (hk:∀lo hi,got K.N r=[iv (Ay K.N r),u32 lo,u32 hi]->(∀e,K.N r=some e->lo=e.lo/\hi=e.hi)->Q (.agg #[iv (Ay K.N r),u32 lo,u32 hi]) H):aa zQ g 162 #[ptr kp,u32 r] H Q KP:=by
 have hr:=h.lt hl;obtain⟨lo,hi,hg,he⟩:=BX hl h2;refine aa.eh hh (mP h zO) ?_;have:=hk lo hi hg he;rw[hg];exact this
theorem Ah(h:cQ kp K ord ag tr C)(hok:Ok K S (lv ag)){x y:Nat}(hx:x<K.n):
  Fc zQ 182 #[ptr kp,iv (x:Int),iv (y:Int)] C (λr H=>∃all Na,H=Na++C/\aM 272 8 r (all.map kL) Na/\Jx K.N x y all/\all.length<=1048576):=by
 have hcap:=h.cap;have h0:=h;obtain⟨b,hC,hO⟩:=h;have Ul:∀d r,K.T d=some r↔K.N r=some d:=λd r=>by rw[hok.mid.jy];exact⟨λh=>h.1,λh=>⟨h,λx=>x⟩⟩
 have two:∀{r d},K.N r=some d->2<=r:=λhd=>(hok.mid.two hd).1;refine aK λg=>GH ?_;rw[hC];refine Nil.ptr (af.mk (af.mk (Ld.q ?_)));refine aa.fq (Tw hO.ut hx (λd d' r h1 h2=>by rw[Ul]at h1 h2;rw[h1]at h2;cases h2;rfl) (λd r h1=>by have:=(hok.mid.two ((Ul d r).1 h1)).2;omega)) ?_;rintro w H ⟨sl,l,Nr,rfl,rfl,IT,gw,hmem⟩;refine Ext.two (IT.bE ?_);rw[an];have hl:∀r∈l,∃d,K.N r=some d/\d.v=x:=λr hr=>by obtain⟨d,h1,h2⟩:=(hmem r).1 hr;exact⟨d,(Ul d r).1 h1,h2⟩
 have hlen:l.length<=1048576:=by
  have:=bV (l':=List.range 1048576) gw λr hr=>by
   obtain⟨d,hd,_⟩:=hl r hr;have:=(hok.mid.two hd).2;exact xaO.2 zO
  simpa using this
 refine⟨λvs H=>∃(v:zV) (i:Nat) (all:List Cx) (Na:Hp),vs=[v,iv (i:Int)]/\H=Na++(Nr++C)/\i<=l.length/\aM 272 8 v (all.map kL) Na/\xf K.N x y (l.take i) all/\all.length<=i,
  λvs _=>l.length-bA vs 1,JE.of (br.out (C:=b.CT) (.cons (.app .left)) Nr) ⟨_,0,[],[],rfl,by rw[hC];rfl,xaA _,aM.nil _ _,⟨by simp,by simp⟩,xal _⟩,?_⟩
 rintro w w' H ⟨v,i,all,Na,hw,rfl,hi,ho,Du,hal⟩ gs;simp only[xaz,xbb]at hw;obtain⟨rfl,rfl⟩:=hw;refine ae.cX (Br.dec (λhlt=>?_) (λhge=>?_));rotate_left
 ·have:i=l.length:=by omega
  subst this;rw[xbe]at Du;refine aQ.mk (gY:=Na++C) ?_ ⟨all,Na,by rw[hC],ho,Du.all λr d hd hv=>(hmem r).2 ⟨d,(Ul d r).2 hd,hv⟩,by omega⟩;exact aF.cL .right Na
 obtain⟨r,Dr⟩:∃r,l[i]? =some r:=⟨_,xab hlt⟩;have kA:l.take (i+1)=l.take i++[r]:=by rw[xbv,Dr];rfl
 have hrn:r∉l.take i:=λhm=>by
  have:(l.take (i+1)).Nodup:=gw.sublist (xdU _ _);rw[kA]at this;exact(xa9.1 this).2.2 r hm r zI rfl
 obtain⟨d,hd,tc⟩:=hl r (xay Dr);have X4:=hok.mid.lo hd;have X5:=hok.mid.hi hd;intro YM ED;have next:∀v' R4 ZI,aM 272 8 v' (R4.map kL) ZI->xf K.N x y (l.take (i+1)) R4->R4.length<=i+1->YM [v'] (ZI++(Nr++C)):=λv' R4 ZI h1 h2 h3=>
  ED _ _ λgs=>ae.inc (az.mk ⟨v',i+1,R4,ZI,rfl,rfl,by omega,h1,h2,h3⟩ (by simp[bA];omega))
 refine IT.ld (x:=(r:Int)) (cr Dr) (λy hy=>xaa _ (xad _ hy)) (Nil.ptr (af.mk (zg h0 (.inr ⟨d,hd⟩) (λ_ h=>two h) (.app (.app .here)) λlo hi hg he=>?_)));obtain⟨rfl,rfl⟩:=he d hd;have hvr:Ay K.N r=(x:Int):=by simp[Ay,hd,tc]
 rw[hvr];intro b28 _;refine St.p (by intro z hz;simp[u32]at hz;rcases hz with rfl|rfl|rfl<;>rfl) ?_;obtain⟨H0,UQ⟩:∃H0,H0=(b28,Obj.cells #[iv (x:Int),u32 d.lo,u32 d.hi] 201 zZ)::(Na++(Nr++C)):=⟨_,rfl⟩;have hEq:((b28,Obj.cells [Value.int .i64 (x:Int),u32 d.lo,u32 d.hi].toArray 201 zZ)::(Na++(Nr++C)))=H0:=UQ.symm;rw[hEq];intro J31 abN;have skip:¬lF K.N x y r d->J31 [.bool true] H0:=λhn=>abN _ _ λgs=>Br.yes (JE.of (by rw[UQ];exact .tail) (next w all Na ho (by rw[kA];exact Du.skip hd hn) zO));have take:lF K.N x y r d->J31 [.bool false] H0:=λhn=>by
  refine abN _ _ λgs=>Br.no ?_;rw[UQ];refine ax.q ?_;refine Build.mk (cs:=kL ⟨r,⟨x,d.lo,d.hi⟩,0,0,0,0⟩) zK λb37 _=>?_;refine St.p (kD _) ?_;refine Ld.f ?_;refine aa.eq (Bc h0 (by have:=h0.lt X4;omega) X4 (λ_ h=>two h) y) (Ext.two (af.mk (St.one (by exact .head _) rfl (by simp[kL]) rfl ?_)));refine af.mk (St.one (by exact .head _) rfl (by simp[kL]) rfl ?_);refine Ld.f ?_;refine aa.eq (Bc h0 (by have:=h0.lt X5;omega) X5 (λ_ h=>two h) y) (Ext.two (af.mk (St.one (by exact .head _) rfl (by simp[kL]) rfl ?_)));refine af.mk (St.one (by exact .head _) rfl (by simp[kL]) rfl ?_);have dG:d=⟨x,d.lo,d.hi⟩:=by cases d;simp at tc;subst tc;rfl
  have hcell:kL (m5 K.N y r d)=[u32 r,iv (x:Int),u32 d.lo,u32 d.hi,u32 (pl K.N y d.lo),u32 (ph K.N y d.lo),u32 (pl K.N y d.hi),u32 (ph K.N y d.hi)]:=by
   simp[kL,m5,tc]
  refine ax.whole (r:=kL (m5 K.N y r d)) (by rw[hcell];exact .head _) rfl ?_;refine aj.one (e:=272) (z:=.agg #[.int .u32 0,iv 0,.int .u32 0,.int .u32 0,.int .u32 0,.int .u32 0,.int .u32 0,.int .u32 0]) (k:=8) (r:=kL (m5 K.N y r d)) zK zK zK zD rfl λxb=>?_;refine ho.mi (.cons (.cons (.cons .left))) (by exact .head _) rfl (kD _) ⟨_,rfl,rfl⟩ zP zP λv' ZI cq=>?_;refine JE.of (.skip (.skip .tail)) (next v' (all++[m5 K.N y r d]) ZI (by rw[xaB];exact cq) (by rw[kA];exact Du.more hrn hn) zP)
 refine DR.of (R:=[(b28,Obj.cells #[iv (x:Int),u32 d.lo,u32 d.hi] 201 zZ)]) (by rw[UQ];exact .left (A:=[_])) (Nil.ptr (af.mk (Ld.f ?_)));have heR:aF H0 [(b28,Obj.cells #[iv (x:Int),u32 d.lo,u32 d.hi] 201 zZ)]:=by rw[UQ];exact .left (A:=[_])
 intro F;rw[UQ];refine zg h0 X4 (λ_ h=>two h) (.cons (.app (.app .here))) λlo1 hi1 hg1 UB=>?_;rw[<-UQ];refine⟨heR,wx.mk rfl (ae.ic (Br.dec (λhne=>?_) (λhe=>?_)))⟩
 ·refine Nil.ptr (af.mk (Ld.f ?_));intro F2;rw[UQ];refine zg h0 X5 (λ_ h=>two h) (.cons (.app (.app .here))) λlo2 IV Wo Wp=>?_;rw[<-UQ];refine⟨heR,wx.mk rfl (ae.ic (aI.mk ?_))⟩;by_cases e2:Ay K.N d.hi=(y:Int)
  ·rw[xap (by simpa using e2)];refine JE.mk (take ⟨hd,tc,.inr ?_⟩);cases hN:K.N d.hi with
   |none=>simp[Ay,hN]at e2<;>omega
   |some f=>exact⟨f,rfl,by simp[Ay,hN]at e2;omega⟩
  ·rw[xau (by simpa using e2)];refine JE.mk (skip ?_);rintro⟨_,_,⟨f,hf,UA⟩|⟨f,hf,UA⟩⟩
   ·exact hne (by simp[Ay,hf,UA])
   exact e2 (by simp[Ay,hf,UA])
 have e1:Ay K.N d.lo=(y:Int):=by simpa using he
 refine JE.mk (take ⟨hd,tc,.inl ?_⟩);cases hN:K.N d.lo with
 |none=>simp[Ay,hN]at e1<;>omega
 |some f=>exact⟨f,rfl,by simp[Ay,hN]at e1;omega⟩
end
end
section
open aC
section
def zOf:zV->Int
 | .int _ z=>z
 |_=>0
abbrev vrZ(v:zV)(z:Int):Prop:=v=iv z
def vQ(es:Array MapEntry)(ck:Nat)(ks:List Nd):Prop:=∃m:List (Nd×Int),aT nK vrZ es ck m/\m.map Prod.fst=ks
theorem vQ.empty:vQ #[] 0 []:=⟨[],aT.empty,rfl⟩
theorem vQ.of{es:Array MapEntry}{ck:Nat}{m:List (Nd×Int)}(h:aT nK (λv _=>∃z,v=iv z) es ck m):vQ es ck (m.map Prod.fst):=by
 have hlen:es.toList.length=m.length:=by simpa using h.len
 have hz:((es.toList.zip m).map λp=>((p.2.1,zOf p.1.val):Nd×Int)).map Prod.fst=m.map Prod.fst:=by
  rw[xbR];have:(Prod.fst∘λ(p:MapEntry×(Nd×Int))=>((p.2.1,zOf p.1.val):Nd×Int))=Prod.fst∘Prod.snd:=rfl;rw[this,<-xbR,List.map_snd_zip zO]
 refine⟨_,⟨?_,λi e x he hx=>?_,by rw[hz];exact h.nd,h.born,h.lt⟩,hz⟩
 ·simp[h.len]
 have hi:=(xaR.1 he).1;have IV:i<m.length:=by rw[<-h.len];exact hi
 have hm:m[i]? =some m[i]:=xab IV;obtain⟨h1,z,h2⟩:=h.key i e _ he hm;have hx':x=(m[i].1,zOf e.val):=by
  have e1:es.toList[i]? =some e:=by rw[xbm];exact he
  rw[xar,(List.getElem?_zip_eq_some (z:=(e,m[i]))).2 ⟨e1,hm⟩]at hx;simpa using hx.symm
 subst hx';exact⟨h1,by rw[h2];rfl⟩
theorem Own.sub{g:Gh}{H:Hp}{w:World}(h:Own g H w){y:Nat×Obj}(hy:y∈H):Own g [y] w:=by
 obtain⟨X,Y,rfl⟩:=xc3 hy;exact(h.perm xaU).left (A:=[y])
noncomputable abbrev FF:Func:=Tryz.f184
theorem six{i:Nat}(hi:i<6):¬Pd .any (nZ FF 10) i 6:=λh=>by
 have e6:(nZ FF 10)[6]? =some (bM FF 10 6):=by kernel_rfl
 have:=h _ e6;have hm:(⟨i,.phase⟩:Edge)∈(bM FF 10 6).after:=by
  have ea:(bM FF 10 6).after=#[⟨0,.data⟩,⟨5,.data⟩,⟨3,.data⟩,⟨4,.chain⟩,⟨0,.phase⟩,⟨1,.phase⟩,⟨2,.phase⟩,⟨3,.phase⟩,⟨4,.phase⟩,⟨5,.phase⟩]:=by kernel_rfl
  rw[ea];rcases i with _|_|_|_|_|_|i;all_goals first|omega|simp
 exact this _ hm rfl rfl
end
section
def Jc(ops:Array Oper)(listed:Array Bool):Bool:=(List.range ops.size).all λj=>match ops[j]? with
 |some oj=> !listed.getD j true||oj.after.toList.all λe=> !Region.binds .any e||listed.getD e.on true
 |none=>true
theorem gm{ops:Array Oper}{listed:Array Bool}(h:Jc ops listed=true):eJ .any ops listed:=by
 intro j oj hj hl e he hb;unfold Jc at h;have h1:=xcp.1 h j (xaO.2 (xaR.1 hj).1);simp only[hj,hl,xda,xdZ]at h1;have h2:=xcp.1 h1 e (xdc.2 he);rw[hb]at h2;simpa using h2
theorem Uf{g:Gh}{mb nb:Nat}{es:Array MapEntry}{ck:Nat}{ks:List Nd}{d:Nd}(hmk:vQ es ck ks){c:Obj->Hp}(Qm:∀o o',cu mb o o' (c o) (c o'))(hcn:∀o,(nb,Obj.cells (bH d).toArray 201 zZ)∈c o){K:Hp->Prop}
 (hk:∀es' cC,vQ es' cC (if d∈ks then ks else ks++[d])->K (c (.map es' cC))):
  YG zQ g 10 (nZ FF 10) [7,11] [.map (some mb),ptr nb] (c (.map es ck)) K:=by
 have hm:(mb,Obj.map es ck)∈c (.map es ck):=(Qm _ (.map es ck)).mem;have hn:=hcn (.map es ck);obtain⟨m,hE,rfl⟩:=hmk;intro a w hok hvs hw;simp only[xaM,xcL,xaz,xbb]at hvs;obtain⟨h7,h11⟩:=hvs;obtain⟨n,hnn⟩:∃n,n=a.tmps.size:=⟨_,rfl⟩;obtain⟨fr,hfr⟩:∃fr:Fr,fr=λs=>a.tmps.getD s undef:=⟨_,rfl⟩;have ha:bS a.defers n a fr:=⟨rfl,hnn.symm,λs=>by rw[hfr]⟩;have f7:fr 7=.map (some mb):=by rw[hfr];exact h7
 have f11:fr 11=ptr nb:=by rw[hfr];exact h11
 rw[<-hnn]at hok;have eok:g9 n (nZ FF 10).toList=(Nat.blt 58 n&& (Nat.blt 59 n&& (Nat.blt 60 n&& (Nat.blt 61 n&& (Nat.blt 62 n&& (Nat.blt 63 n&& (true&&true))))))):=by kernel_rfl
 rw[eok]at hok;simp only[xaC,xdY]at hok;obtain⟨k58,k59,k60,k61,k62,k63⟩:=hok;refine wp_region_any zK ?_;obtain⟨z0,Ss⟩:∃z0:Int,z0=(bO m d).getD 0:=⟨_,rfl⟩;obtain⟨S0,Zo⟩:∃S0:World->Prop,S0=λw=>Own g [(nb,Obj.cells (bH d).toArray 201 zZ)] w/\(Instr.lookup 311 (.map (some mb)) (nK d) false).run zQ w=.ok (iv z0) w:=⟨_,rfl⟩;have look:∀{es':Array MapEntry} {cC:Nat} {m':List (Nd×Int)} {H':Hp} {w':World},aT nK vrZ es' cC m'->(mb,Obj.map es' cC)∈H'->Own g H' w'->(bO m' d).getD 0=z0->(Instr.lookup 311 (.map (some mb)) (nK d) false).run zQ w'=.ok (iv z0) w':=by
  intro es' cC m' H' w' h1 h2 h3 h4;have hL:jN zQ 201 (iv 0) false H' (.map (some mb)) (nK d) (· =iv z0):=by
   cases hg:bO m' d with
   |some z=>exact aT.KY (ke:=nK) (k:=d) pR kZ h1 h2 hg (by rintro v rfl;rw[hg]at h4;simp at h4;rw[h4];rfl)
   |none=>exact aT.xF (ke:=nK) (k:=d) pR kZ h1 h2 hg (by rw[hg]at h4;simp at h4;rw[<-h4];rfl)
  obtain⟨v,hr,rfl⟩:=hL.run (P:=zQ) h3 (t:=311) (kt:=201) (e:=3) (kd:=.struct (Tryz.prog.fieldsOf 201)) (i:=(Tryz.prog.info? 3).get zK) zK IC rfl zK zK;exact hr
 have Nq:=hw.yo;have s0:S0 {w with drawn:=w.drawn+1}:=by rw[Zo];exact⟨Own.sub Nq hn,look hE hm Nq Ss.symm⟩
 have hQp:∀{o:Oper} {v:zV} (c:List PanicEntry) (a':Act) (w':World),(λ(e:Exit) (a':Act) (w':World)=>e=.normal/\a'.defers=a.defers/\a'.tmps.size=a.tmps.size/\(∀s,aX (nZ FF 10).toList s=false->a'.tmps.getD s undef=a.tmps.getD s undef)/\∃H',Own g H' w'/\K H') (.panic c) (a'.put o.dst v) w'->
   (λ(e:Exit) (a':Act) (w':World)=>e=.normal/\a'.defers=a.defers/\a'.tmps.size=a.tmps.size/\(∀s,aX (nZ FF 10).toList s=false->a'.tmps.getD s undef=a.tmps.getD s undef)/\∃H',Own g H' w'/\K H') (.panic c) a' w':=by
  rintro _ _ _ _ _ ⟨h,_⟩;cases h
 have hsel:Region.noSelect (nZ FF 10)=true:=by kernel_rfl
 have hkeep:∀i,i<6->∀(j:Nat) (oj:Oper) (w w':World),(nZ FF 10)[j]? =some oj->j≠i->¬nj .any (nZ FF 10) i j->S0 w->(j≠6->S0 w->S0 w')->S0 w':=λi hi j oj w w' _ _ hno h0 hs=>by
  by_cases e:j=6
  ·subst e;exact absurd (λoj iz e he hb heq=>hno (.one iz he hb heq)) (six hi)
  exact hs e h0
 refine cS.any (S:=λj w w'=>j≠6->S0 w->S0 w') ?_;have hsz:(nZ FF 10).size=7:=by kernel_rfl
 rw[hsz];refine cS.take (gm zK) (S0:=S0) (i:=0) (oi:=bM FF 10 0) (v:=.map (some mb)) zK hsel zK zK hQp (λ_ h _ _=>h) (hkeep 0 zD) (.inl ⟨rfl,λw hw=>?_⟩) s0 ?_
 ·rw[ha.eval];have:(execOp (ev fr) (bM FF 10 0))=pure (.value (fr 7)):=rfl
  rw[this,f7];rfl
 have EC:=ha.put (d:=some 58) k58 (.map (some mb));change cS _ _ _ _ _ 6 _ (a.put (some 58) (.map (some mb))) _;refine cS.take (gm zK) (S0:=S0) (i:=1) (oi:=bM FF 10 1) (v:=nK d) zK hsel zK zK hQp (λ_ h _ _=>h) (hkeep 1 zD) (.inl ⟨rfl,λw hw=>?_⟩) s0 ?_
 ·rw[EC.eval];have e:Dm zQ g (bM FF 10 1) (ev (bT fr (some 58) (.map (some mb)))) [(nb,Obj.cells (bH d).toArray 201 zZ)] (λv=>v=nK d)=ax 3 [(nb,Obj.cells (bH d).toArray 201 zZ)] (fr 11) (λv=>v=nK d):=by kernel_rfl
  obtain⟨v,rfl,hr,_⟩:=nE (e.mpr (by rw[f11];exact ax.q rfl));rw[Zo]at hw;exact hr _ hw.1
 have Dw:=EC.put (d:=some 59) k59 (nK d);change cS _ _ _ _ _ 5 _ ((a.put (some 58) (.map (some mb))).put (some 59) (nK d)) _;refine cS.take (gm zK) (S0:=S0) (i:=2) (oi:=bM FF 10 2) (v:=iv z0) zK hsel zK zK hQp (λ_ h _ _=>h) (hkeep 2 zD) (.inl ⟨rfl,λw hw=>?_⟩) s0 ?_
 ·rw[Dw.eval];have e:execOp (ev (bT (bT fr (some 58) (.map (some mb))) (some 59) (nK d))) (bM FF 10 2)=(do pure (.value (<-Instr.lookup 311 (.map (some mb)) (nK d) false))):=rfl;rw[Zo]at hw;rw[e];simp only[Sem.run_bind,hw.2,Result.andThen_ok,Sem.run_pure]
 have Lg:=Dw.put (d:=some 60) k60 (iv z0);change cS _ _ _ _ _ 4 _ (((a.put (some 58) (.map (some mb))).put (some 59) (nK d)).put (some 60) (iv z0)) _;refine cS.take (gm zK) (S0:=S0) (i:=3) (oi:=bM FF 10 3) (v:=iv (IntKind.i64.wrap (z0+1))) zK hsel zK zK hQp (λ_ h _ _=>h) (hkeep 3 zD) (.inl ⟨rfl,λw hw=>?_⟩) s0 ?_
 ·rw[Lg.eval];have e:Dm zQ g (bM FF 10 3) (ev (bT (bT (bT fr (some 58) (.map (some mb))) (some 59) (nK d)) (some 60) (iv z0))) [(nb,Obj.cells (bH d).toArray 201 zZ)] (λv=>v=iv (IntKind.i64.wrap (z0+1)))=ae .num .add (iv z0) (iv 1) (λv=>v=iv (IntKind.i64.wrap (z0+1))):=by kernel_rfl
  obtain⟨v,rfl,hr,_⟩:=nE (e.mpr (ae.add rfl));rw[Zo]at hw;exact hr _ hw.1
 have UJ:=Lg.put (d:=some 61) k61 (iv (IntKind.i64.wrap (z0+1)));change cS _ _ _ _ _ 3 _ ((((a.put (some 58) (.map (some mb))).put (some 59) (nK d)).put (some 60) (iv z0)).put (some 61) (iv (IntKind.i64.wrap (z0+1)))) _;generalize (((a.put (some 58) (.map (some mb))).put (some 59) (nK d)).put (some 60) (iv z0)).put (some 61) (iv (IntKind.i64.wrap (z0+1)))=a4 at UJ;refine cS.all (rs:=[4]) zK zI λi hi=>?_;simp only[xaG]at hi;subst hi;have e4:(nZ FF 10)[4]? =some (bM FF 10 4):=by kernel_rfl
 unfold wpOp;rw[e4];simp only;rw[xae (show Region.wanted (bM FF 10 4) (yielded (nZ FF 10) a4.tmps)=true from rfl)];refine .inl ?_;show(bM FF 10 4).upon zQ a4 _ _ ((execOp a4.eval (bM FF 10 4)).run zQ _);rw[UJ.eval];refine ny.upon (g:=g) (KP:=λ_ _=>False) (aT.U7 (K:=λv H'=>∃es' cC v0 st,aT nK vrZ es' cC (if d∈m.map Prod.fst then m else m++[(d,0)])/\(∃e∈es'.toList,e.born=st)/\H'=c (.map es' cC)/\v=.tuple #[v0,iv (st:Int)])
  (t:=311) (kt:=201) (e:=3) (z:=iv 0) (k:=d) (y0:=(0:Int)) pR kZ IF (o:=bM FF 10 4) (mo:=.tmp 58) (ko:=.tmp 59) rfl rfl rfl zK IC rfl zK rfl hE Qm
  (λes' cC v st h1 h2=>⟨es',cC,v,st,h1,h2,rfl,rfl⟩) _ Nq) ?_ (λ_ _ _ _ h=>h.elim)
 rintro v H1 w1 ie ⟨nQ,mh,v0,st,WD,hst,rfl,rfl⟩;have Ds:(nb,Obj.cells (bH d).toArray 201 zZ)∈c (.map nQ mh):=hcn _;have AD:(mb,Obj.map nQ mh)∈c (.map nQ mh):=(Qm _ (.map nQ mh)).mem;have s1:S0 w1:=by
  rw[Zo];refine⟨Own.sub ie Ds,look WD AD ie ?_⟩;rw[Ss];split
  ·rfl
  rename_i dG;have e1:=gE.2 dG;have e2:bO (m++[(d,0)]) d=some 0:=(fe (by
   have:=WD.nd;rw[xac dG]at this;exact this)).2 zI
  rw[e1,e2];rfl
 refine⟨λ_ _=>s1,?_⟩;have UI:=UJ.put (d:=some 62) k62 (.tuple #[v0,iv (st:Int)]);change cS _ _ _ _ _ 2 _ (a4.put (some 62) (.tuple #[v0,iv (st:Int)])) _;generalize a4.put (some 62) (.tuple #[v0,iv (st:Int)])=a5 at UI;refine cS.take (gm zK) (S0:=S0) (i:=5) (oi:=bM FF 10 5) (v:=iv (st:Int)) zK hsel zK zK hQp (λ_ h _ _=>h) (hkeep 5 zD) (.inl ⟨rfl,λw hw=>?_⟩) s1 ?_
 ·rw[UI.eval];obtain⟨v,rfl,hr,_⟩:=nE (P:=zQ) (g:=g) (o:=bM FF 10 5) (H:=[(nb,Obj.cells (bH d).toArray 201 zZ)]) (k:=λv=>v=iv (st:Int))
   (ρ:=ev (bT (bT (bT (bT (bT fr (some 58) (.map (some mb))) (some 59) (nK d)) (some 60) (iv z0)) (some 61) (iv (IntKind.i64.wrap (z0+1)))) (some 62) (.tuple #[v0,iv (st:Int)]))) ⟨_,_,rfl,rfl,rfl⟩
  rw[Zo]at hw;exact hr _ hw.1
 have UH:=UI.put (d:=some 63) k63 (iv (st:Int));change cS _ _ _ _ _ 1 _ (a5.put (some 63) (iv (st:Int))) _;generalize a5.put (some 63) (iv (st:Int))=a6 at UH;refine cS.all (rs:=[6]) zK zI λi hi=>?_;simp only[xaG]at hi;subst hi;have e6:(nZ FF 10)[6]? =some (bM FF 10 6):=by kernel_rfl
 unfold wpOp;rw[e6];simp only;rw[xae (show Region.wanted (bM FF 10 6) (yielded (nZ FF 10) a6.tmps)=true from rfl)];refine .inl ?_;show(bM FF 10 6).upon zQ a6 _ _ ((execOp a6.eval (bM FF 10 6)).run zQ _);rw[UH.eval];refine ny.upon (g:=g) (KP:=λ_ _=>False) (aT.Tj (vr:=λv _=>∃z:Int,v=iv z) (K:=λ_ H'=>∃es',aT nK (λv _=>∃z:Int,v=iv z) es' mh (if d∈m.map Prod.fst then m else m++[(d,0)])/\H'=c (.map es' mh))
  (o:=bM FF 10 6) (t:=311) (mo:=.tmp 58) (so:=.tmp 63) (xo:=.tmp 61) rfl rfl rfl (WD.mono λv z h=>⟨z,h⟩) hst (λ_=>⟨_,rfl⟩) Qm
  (λes' h1=>⟨es',h1,rfl⟩) _ ie) ?_ (λ_ _ _ _ h=>h.elim)
 rintro v H2 w2 wS ⟨lB,uT,rfl⟩;refine⟨λh=>absurd rfl h,?_⟩;have Zn:bS a.defers n a6 _:=UH;change cS _ _ _ _ _ 0 _ a6 _;refine cS.done zK ⟨rfl,Zn.defers,by rw[Zn.size,hnn],λs hs=>?_,_,wS,hk lB mh ?_⟩ 0
 ·have eD:aX (nZ FF 10).toList s=(Nat.beq s 58||(Nat.beq s 59||(Nat.beq s 60||(Nat.beq s 61||(Nat.beq s 62||(Nat.beq s 63||(false||false))))))):=by kernel_rfl
  rw[eD]at hs;simp only[xaL]at hs;rw[Zn.get];simp only[bT,hs,xaj];rw[hfr]
 have:=vQ.of uT;have e:(if d∈m.map Prod.fst then m else m++[(d,(0:Int))]).map Prod.fst=if d∈m.map Prod.fst then m.map Prod.fst else m.map Prod.fst++[d]:=by
  split<;>simp
 rw[e]at this;exact this
end
section
variable {kp:Nat} {K:Kd} {ord ag tr:zL} {C:Hp} {S:Nat->aC.Fn}
theorem RF{H:Hp}(a b:Nd){K:zV->Hp->Prop}(h:∀x,K (.slice (some ⟨x,0,none⟩) 2 2) ((x,.cells (rows [bH a,bH b]) 201 zZ)::H)):
  aj zQ 293 2 [(0,nK a),(1,nK b)] H K:=by
 refine⟨rows [bH a,bH b],201,3,.agg #[iv 0,.int .u32 0,.int .u32 0],by kernel_rfl,by kernel_rfl,by kernel_rfl,by decide,?_,λx _=>h x⟩;have e1:Array.range (2*3)=#[0,1,2,3,4,5]:=rfl;simp[Instr.fill,Value.cells,nK,bH,e1,rows,u32]
def gM(K:Kd)(x:Nat)(l:List Cx)(ks:List Nd)(m:List Nd):Prop:=m.Nodup/\∀k,k∈m↔((∃c∈l,k∈keys x c)\/k∈ks)/\K.T k=none/\k.lo≠k.hi
theorem gM.step{x:Nat}{l:List Cx}{ks m:List Nd}{d:Nd}(h:gM K x l ks m)(hd:K.T d=none/\d.lo≠d.hi):gM K x l (ks++[d]) (if d∈m then m else m++[d]):=by
 obtain⟨h1,h2⟩:=h;constructor
 ·split
  ·exact h1
  rename_i hn;exact xa9.2 ⟨h1,by simp,λa ha b hb e=>by simp at hb;subst hb;subst e;exact hn ha⟩
 intro k;by_cases hm:d∈m
 ·rw[xae hm,h2,xaq,xaG];constructor
  ·rintro⟨h3|h3,h4⟩
   ·exact⟨.inl h3,h4⟩
   exact⟨.inr (.inl h3),h4⟩
  rintro⟨h3|h3|rfl,h4⟩
  ·exact⟨.inl h3,h4⟩
  ·exact⟨.inr h3,h4⟩
  exact(h2 _).1 hm
 rw[xac hm,xaq,xaG,h2,xaq,xaG];constructor
 ·rintro(⟨h3|h3,h4⟩|rfl)
  ·exact⟨.inl h3,h4⟩
  ·exact⟨.inr (.inl h3),h4⟩
  exact⟨.inr (.inr rfl),hd⟩
 rintro⟨h3|h3|rfl,h4⟩
 ·exact .inl ⟨.inl h3,h4⟩
 ·exact .inl ⟨.inr h3,h4⟩
 exact .inr rfl
theorem gM.skip{x:Nat}{l:List Cx}{ks m:List Nd}{d:Nd}(h:gM K x l ks m)(hd:¬(K.T d=none/\d.lo≠d.hi)):gM K x l (ks++[d]) m:=by
 obtain⟨h1,h2⟩:=h;refine⟨h1,λk=>?_⟩;rw[h2,xaq,xaG];constructor
 ·rintro⟨h3|h3,h4⟩
  ·exact⟨.inl h3,h4⟩
  exact⟨.inr (.inl h3),h4⟩
 rintro⟨h3|h3|rfl,h4⟩
 ·exact⟨.inl h3,h4⟩
 ·exact⟨.inr h3,h4⟩
 exact absurd h4 hd
theorem gM.yV{x:Nat}{l:List Cx}{c:Cx}{m:List Nd}(h:gM K x l (keys x c) m):gM K x (l++[c]) [] m:=by
 obtain⟨h1,h2⟩:=h;refine⟨h1,λk=>?_⟩;rw[h2];constructor
 ·rintro⟨⟨c',hc,hk⟩|h3,h4⟩
  ·exact⟨.inl ⟨c',xad _ hc,hk⟩,h4⟩
  exact⟨.inl ⟨c,by simp,h3⟩,h4⟩
 rintro⟨⟨c',hc,hk⟩|h3,h4⟩
 ·rcases xaq.1 hc with hc|hc
  ·exact⟨.inl ⟨c',hc,hk⟩,h4⟩
  simp at hc;subst hc;exact⟨.inr hk,h4⟩
 cases h3
theorem QO(h:cQ kp K ord ag tr C){x:Nat}(hx:x<K.n){v:zV}{all:List Cx}{Na:Hp}(ha:aM 272 8 v (all.map kL) Na)(hlen:all.length<=1048576):
  Rd zQ 184 #[ptr kp,iv (x:Int),v] (Na++C) (λr=>∃made,r=iv ((made.length:Nat):Int)/\Made K x all made):=by
 have h0:=h;obtain⟨b,hC,hO⟩:=h;refine aK λg=>GF λmb _=>?_;refine ha.bE ?_;rw[xax];refine⟨λvs H=>∃(i:Nat) (es:Array MapEntry) (ck:Nat) (m:List Nd),vs=[iv (i:Int)]/\H=(mb,.map es ck)::(Na++C)/\i<=all.length/\vQ es ck m/\gM K x (all.take i) [] m,
  λvs _=>all.length-bA vs 0,JE.mk ⟨0,_,_,[],rfl,rfl,xaA _,vQ.empty,by simp,by simp⟩,?_⟩
 rintro w H ⟨i,es,ck,m,hw,rfl,hi,hmk,Ut⟩ gs;simp only[xaz,xbb]at hw;subst hw;refine ae.cX (Br.dec (λhlt=>?_) (λhge=>?_));rotate_left
 ·have:i=all.length:=by omega
  subst this;rw[xbe]at Ut;obtain⟨m',he,rfl⟩:=hmk;refine aT.Pu he (.head _) ?_;refine bD.mk .tail ⟨m'.map Prod.fst,by rw[xax],Ut.1,λk=>?_⟩;rw[Ut.2];constructor
  ·rintro⟨h3|h3,h4⟩
   ·exact⟨h3,h4⟩
   cases h3
  rintro⟨h3,h4⟩;exact⟨.inl h3,h4⟩
 obtain⟨c,qO⟩:∃c,all[i]? =some c:=⟨_,xab hlt⟩;have kA:all.take (i+1)=all.take i++[c]:=by rw[xbv,qO];rfl
 refine ha.oh (r:=kL c) (by rw[xar,qO];rfl) (λy hy=>.tail _ (xad _ hy)) ?_;intro b12 _;refine St.p (kD _) ?_;refine Ld.f ?_;refine Ld.f ?_;refine Build.mk (cs:=bH ⟨x,c.wY,c.sK⟩) zK (Ld.f ?_);refine Ld.f ?_;refine Build.mk (cs:=bH ⟨x,c.wX,c.sJ⟩) zK (RF _ _ λxb=>?_);refine aE.mk ?_;refine⟨λvs H=>∃(j:Nat) (es:Array MapEntry) (ck:Nat) (m:List Nd),vs=[iv (j:Int)]/\H=(xb,.cells (rows [bH ⟨x,c.wY,c.sK⟩,bH ⟨x,c.wX,c.sJ⟩]) 201 zZ)::(mb,.map es ck)::(Na++C)/\j<=2/\vQ es ck m/\gM K x (all.take i) ((keys x c).take j) m,
  λvs _=>2-bA vs 0,JE.of (.cons .tail) ⟨0,es,ck,m,rfl,rfl,xaA _,hmk,Ut⟩,?_⟩
 clear hmk Ut;rintro w H ⟨j,es,ck,m,hw,rfl,hj,hmk,Ut⟩ gs;simp only[xaz,xbb]at hw;subst hw;refine ae.cX (b:=2) (Br.dec (λs7=>?_) (λhge=>?_));rotate_left
 ·have:j=2:=by omega
  subst this;refine ae.inc (az.of .tail ⟨i+1,es,ck,m,rfl,rfl,by omega,hmk,?_⟩ (by simp[bA];omega));rw[kA];exact gM.yV Ut
 obtain⟨d,EA,tc⟩:∃d,(keys x c)[j]? =some d/\d.v=x:=by
  rcases j with _|_|j
  ·exact⟨_,rfl,rfl⟩
  ·exact⟨_,rfl,rfl⟩
  omega
 have htj:(keys x c).take (j+1)=(keys x c).take j++[d]:=by rw[xbv,EA];rfl
 have hrow:[bH ⟨x,c.wY,c.sK⟩,bH ⟨x,c.wX,c.sJ⟩][j]? =some (bH d):=by
  have:[bH ⟨x,c.wY,c.sK⟩,bH ⟨x,c.wX,c.sJ⟩]=(keys x c).map bH:=rfl;rw[this,xar,EA];rfl
 intro J34 afy;have next:∀es' cC m' H',vQ es' cC m'->gM K x (all.take i) ((keys x c).take (j+1)) m'->aF H' ((xb,.cells (rows [bH ⟨x,c.wY,c.sK⟩,bH ⟨x,c.wX,c.sJ⟩]) 201 zZ)::(mb,.map es' cC)::(Na++C))->JE J34 [] H':=λes' cC m' H' h1 h2 h3=>
  JE.mk (afy _ λgs=>ae.inc (az.of h3 ⟨j+1,es',cC,m',rfl,rfl,by omega,h1,h2⟩ (by simp[bA];omega)))
 refine ah.nat s7 ?_;have hmem:(xb,Obj.cells (rows [bH ⟨x,c.wY,c.sK⟩,bH ⟨x,c.wX,c.sJ⟩]) 201 zZ)∈(xb,Obj.cells (rows [bH ⟨x,c.wY,c.sK⟩,bH ⟨x,c.wX,c.sJ⟩]) 201 zZ)::(mb,.map es ck)::(Na++C):=.head _;refine ax.row (k:=3) hmem (by simp[bH]) hrow ?_;intro b40 _;refine St.p (λz hz=>by simp[bH,u32]at hz;rcases hz with rfl|rfl|rfl<;>rfl) ?_;refine DR.self ?_;rw[hC];refine Nil.ptr (af.mk (Ld.f ?_));refine ax.q ?_;refine aa.eq (tC (d:=d) hO.ut (by rw[tc];exact hx)) (⟨.refl _,Ext.mk rfl (Ext.mk rfl (Un.not ?_))⟩);have Wa:(!(K.T d).isSome)=decide (K.T d=none):=by cases K.T d<;>simp
 rw[Wa];refine cz.and (decide (d.lo≠d.hi)) (λ_=>?_) rfl λgs=>?_
 ·refine Ld.f ?_;refine Ld.f ?_;exact ae.jD ⟨rfl,rfl⟩
 rw[<-xea];rw[<-hC];refine Br.dec (λhd=>?_) (λhd=>?_)
 ·refine Uf hmk (c:=λo=>(b40,.cells (bH d).toArray 201 zZ)::(xb,.cells (rows [bH ⟨x,c.wY,c.sK⟩,bH ⟨x,c.wX,c.sJ⟩]) 201 zZ)::(mb,o)::(Na++C)) (λo o'=>.tail (.tail (.head _))) (λo=>.head _) λes' cC h1 gs=>?_;exact next es' cC _ _ h1 (by rw[htj];exact Ut.step hd) .tail
 exact next es ck m _ hmk (by rw[htj];exact Ut.skip hd) .tail
end
def jz(l:List Cx):Nat->Nat:=λs=>(l.map λc=>e1 (some c.d) s).sum
theorem nD(c:Cx)(l:List Cx)(s:Nat):jz (c::l) s=e1 (some c.d) s+jz l s:=by simp[jz]
theorem Km(c:Cx)(l:List Cx)(s:Nat):jz (l++[c]) s=jz l s+e1 (some c.d) s:=by simp[jz]
theorem ab4(d:Nd)(s:Nat):e1 (some d) s<=2:=by rw[dR];split<;>split<;>omega
theorem ze(s:Nat):∀l:List Cx,jz l s<=2*l.length
 | []=>xal _
 |c::l=>by rw[nD,xak];have:=ze s l;have:=ab4 c.d s;omega
theorem Bb{s:Nat}:∀{l:List Cx},0<jz l s->∃c∈l,c.d.lo=s\/c.d.hi=s
 | [],h=>by simp[jz]at h
 |c::l,h=>by
  rw[nD]at h;by_cases h0:0<e1 (some c.d) s
  ·refine⟨c,by simp,?_⟩;rw[dR]at h0;by_cases h1:c.d.lo=s
   ·exact .inl h1
   by_cases h2:c.d.hi=s
   ·exact .inr h2
   simp[h1,h2]at h0
  obtain⟨c',hc,h1⟩:=Bb (s:=s) (l:=l) zO;exact⟨c',by simp[hc],h1⟩
theorem Ix{s:Nat}{c:Cx}(hs:c.d.lo=s\/c.d.hi=s):∀{l:List Cx},c∈l->0<jz l s
 |c'::l,h=>by
  rw[nD];rcases xag.1 h with rfl|h
  ·rw[dR];rcases hs with hs|hs
   ·rw[xae hs];omega
   rw[xae hs];omega
  have:=Ix hs h;omega
def Idle(K:Kd):Prop:=∀s,K.N s=none->K.use s=0
theorem tL{K:Kd}{S:Nat->aC.Fn}{E:Nat->Prop}{P:Nat->Nat}(hm:jw K S E P)(hi:Idle K){M:Nat}(hP:∀s,P s<=M)(s:Nat):K.use s<=2097153+M:=by
 cases h:K.N s with
 |none=>rw[hi s h];omega
 |some d=>
  rw[hm.use h];have:=Ce (N:=K.N) (r:=s) K.cap;have:=hm.cap.2;have:=hP s;split<;>omega
section
variable {kp:Nat} {K K0:Kd} {ord ag tr:zL} {C:Hp} {S S0:Nat->aC.Fn} {qM:Nat->Nat} {x y l:Nat} {all done rest:List Cx} {made:List Nd} {P:Nat->Nat}
theorem QI(b:TB K0 S0 qM x y l all made)(h:cQ kp K ord ag tr C)(ht:TI K0 S0 qM x y l made K S done rest P)(hd:∀c∈done,c∈all)(hr:∀c∈rest,c∈all){c:Cx}(hc:c∈all){k:Nd}(hk:k∈keys x c)
 (NG:PL P K.N)(Qd:Idle K)(hP:∀s,P s<=4194304):
  Fc zQ 185 #[ptr kp,iv (k.v:Int),u32 k.lo,u32 k.hi] C (λv C'=>∃r K' S',v=u32 r/\cQ kp K' ord ag tr C'/\TI K0 S0 qM x y l made K' S' done rest P/\xe K0 K' qM x l r/\
   ((k.lo=k.hi/\r=k.lo)\/K'.N r=some k)/\PL P K'.N/\Idle K'/\(∀s d,K.N s=some d->K'.N s=some d)/\(∀s d,K'.N s=some d->s=r\/(K.N s=some d/\K.use s<=K'.use s))):=by
 have Ew:K.n<=64:=by obtain⟨_,_,hO⟩:=h;exact hO.sU
 have lp:=b.T0 hc;have hkv:k.v=x/\sM K0 qM l k.lo/\sM K0 qM l k.hi:=by
  simp only[keys,xag,xaw,xaZ]at hk;rcases hk with rfl|rfl
  ·exact⟨rfl,lp.1.1,lp.1.2⟩
  exact⟨rfl,lp.2.1,lp.2.2⟩
 have x7:=ht.pV b hd hkv.2.1;have mT:=ht.pV b hd hkv.2.2;have hxn:k.v<K.n:=by rw[hkv.1,ht.n];exact b.nb.xn
 by_cases he:k.lo=k.hi
 ·refine Fc.mono (by rw[<-he];exact UR C _ k.lo _) ?_;rintro v C' ⟨rfl,rfl⟩;exact⟨k.lo,K,S,rfl,h,ht,.inl hkv.2.1,.inl ⟨he,rfl⟩,NG,Qd,λ_ _ h=>h,λs d h=>.inr ⟨h,xal _⟩⟩
 cases hT:K.T k with
 |some r=>
  obtain⟨h1,h2⟩:=ht.found b hc hk hT;refine Fc.mono (UT h he hxn hT) ?_;rintro v C' ⟨rfl,rfl⟩;exact⟨r,K,S,rfl,h,ht,h2,.inr h1,NG,Qd,λ_ _ h=>h,λs d h=>.inr ⟨h,xal _⟩⟩
 |none=>
  have hfit:∀{t:Nat},live K.N t->t<2\/t<K.us.length:=λht'=>by
   rcases ht' with ht'|⟨d,dG⟩
   ·exact .inl ht'
   exact .inr (ht.mid.fit dG)
  have hkm:=ht.PK b hd hr hc hk he hkv.2.1 hkv.2.2 hT;refine Fc.mono (US h (d:=k) he ⟨by omega,x7,mT⟩ hxn hT (ht.fits b hkm hT) (hfit x7) (hfit mT) (λs=>by have:=tL ht.mid Qd hP s;omega)) ?_;rintro v C' ⟨r,di,cq,rfl,hN,h2,hrc,hlen,hru,PS,u0,u1,u2,o0,o1,jT⟩;have hPr:P r=0:=by
   apply xdH;intro hne;obtain⟨d,dG⟩:=NG r h2 zO;rw[hN]at dG;cases dG
  obtain⟨g1,g2⟩:=ht.lay b hd hr hc hk he hT hN ⟨h2,hrc⟩ hlen ⟨hru,PS⟩ u0 u1 o0 o1 hPr;have V7:∀s d,K.N s=some d->up K.N r (some k) s=some d:=λs d hs=>by
   rw[aP (λe=>by rw[e,hN]at hs;cases hs)];exact hs
  refine⟨r,_,_,rfl,jT,g1,g2,.inr aL,λt SE h0=>?_,λs hs=>?_,V7,λs d hs=>?_⟩
  ·obtain⟨d,dG⟩:=NG t SE h0;exact⟨d,V7 t d dG⟩
  ·have hs':up K.N r (some k) s=none:=hs;have hne:s≠r:=λe=>by subst e;rw[aL]at hs';cases hs'
   rw[aP hne]at hs';show di.getD s 0=0;by_cases Zv:2<=s
   ·rw[u1 s Zv hne,Qd s hs',dR];have a1:k.lo≠s:=λe=>by
     rcases x7 with h5|⟨d,h5⟩
     ·omega
     rw[e,hs']at h5;cases h5
    have a2:k.hi≠s:=λe=>by
     rcases mT with h5|⟨d,h5⟩
     ·omega
     rw[e,hs']at h5;cases h5
    simp[a1,a2]
   rw[u2 s zO,Qd s hs']
  have hs':up K.N r (some k) s=some d:=hs;by_cases e:s=r
  ·exact .inl e
  rw[aP e]at hs';refine .inr ⟨hs',?_⟩;show K.use s<=di.getD s 0;rw[u1 s (ht.mid.two hs').1 e];omega
theorem NW(h:cQ kp K ord ag tr C)(ht:TI K0 S0 qM x y l made K S done rest P)(NG:PL P K.N)(Qd:Idle K)(hP:∀s,P s<=4194304){r:Nat}(hr:live K.N r):
  Fc zQ 186 #[ptr kp,u32 r] C (λv C'=>∃K',v=.tuple #[]/\cQ kp K' ord ag tr C'/\TI K0 S0 qM x y l made K' S done rest (λs=>P s+if s=r then 1 else 0)/\PL (λs=>P s+if s=r then 1 else 0) K'.N/\Idle K'/\
   K'.N=K.N/\(∀s,K.use s<=K'.use s)/\(2<=r->0<K'.use r)):=by
 have hfit:r<2\/r<K.us.length:=by
  rcases hr with hr|⟨d,hd⟩
  ·exact .inl hr
  exact .inr (ht.mid.fit hd)
 refine Fc.mono (DI h hfit (by have:=tL ht.mid Qd hP r;omega)) ?_;rintro v C' ⟨rfl,jT⟩;by_cases h2:2<=r
 ·have hrd:∃d,K.N r=some d:=by
   rcases hr with hr|hr
   ·omega
   exact hr
  have hlt:r<K.us.length:=by omega
  refine⟨_,rfl,jT,(ht.use (iB r) (my h2 hlt) (λs hs=>tM hs)).congr (λs _=>?_),λt SE h0=>?_,λs hs=>?_,rfl,λs=>?_,λ_=>?_⟩
  ·unfold up;split
   ·rename_i e;subst e;rfl
   rfl
  ·by_cases e:t=r
   ·subst e;exact hrd
   simp[e]at h0;exact NG t SE h0
  ·show(rX K r).getD s 0=0;have hne:s≠r:=λe=>by
    obtain⟨d,hd⟩:=hrd;have hs':K.N s=none:=hs;rw[e,hd]at hs';cases hs'
   rw[tM hne];exact Qd s hs
  ·show K.use s<=(rX K r).getD s 0;by_cases e:s=r
   ·subst e;rw[my h2 hlt];omega
   rw[tM e];exact xal _
  show 0<(rX K r).getD r 0;rw[my h2 hlt];omega
 have e:rX K r=K.us:=by unfold rX;rw[xae zO]
 have eK:({K with us:=rX K r}:Kd)=K:=by rw[e]
 rw[eK]at jT;refine⟨K,rfl,jT,ht.congr (λs hs=>?_),λt SE h0=>?_,Qd,rfl,λ_=>xal _,λh=>absurd h h2⟩
 ·rw[xac zO];rfl
 have h0':0<P t+if t=r then 1 else 0:=h0
 rw[xac zO]at h0';exact NG t SE h0'
theorem xe.mono{K K':Kd}(h:xe K0 K qM x l y)(hm:∀s d,K.N s=some d->K'.N s=some d):xe K0 K' qM x l y:=by
 rcases h with h|⟨e,h1,h2⟩
 ·exact .inl h
 exact .inr ⟨e,hm _ _ h1,h2⟩
end
section
variable {kp:Nat} {K:Kd} {ord ag tr:zL} {C:Hp} {S:Nat->aC.Fn}
structure Kept(K:Kd)(S:Nat->aC.Fn)(K':Kd)(S':Nat->aC.Fn):Prop where
 n:K'.n=K.n
 cap:K'.cap=K.cap
 hold:∀r,K'.hold r=K.hold r
 held:∀g,K'.held S' g↔K.held S g
 fn:∀r,K.hold r≠0->S' r=S r
theorem Xt{x y l:Nat}(hne:x≠y)(hx:x<ag.length)(hy:y<ag.length):lv ((ag.set x (l+1)).set y l)=sO (lv ag) x y l:=by
 funext v
 show((ag.set x (l+1)).set y l).getD v 0=_;rw[gX (by simpa using hy),gX hx];unfold sO;by_cases e:v=y
 ·rw[xae e,xac (by rw[e];exact xbn hne),xae e]
 rw[xac e,xac e]
theorem O4(c:Cx)(rest:List Cx):jz (c::rest)=gJ (gJ (jz rest) [c.d.hi]) [c.d.lo]:=by
 funext s
 rw[nD,dR];unfold gJ;simp only[xcU,xdQ,xc0];omega
theorem pU{x:Nat}{all:List Cx}{made:List Nd}(h:Made K x all made):made.length<=2*all.length:=by
 have h1:=bV (l':=all.flatMap (keys x)) h.nd λk hk=>by
  obtain⟨⟨c,hc,hk'⟩,_⟩:=(h.mem k).1 hk;exact List.mem_flatMap.2 ⟨c,hc,hk'⟩
 have h2:(all.flatMap (keys x)).length=2*all.length:=by
  clear h1 h;induction all with
  |nil=>rfl
  |cons c all ih=>rw[xeo,xaf,ih,xak];simp[keys];omega
 omega
theorem N8{x y l:Nat}{K1:Kd}{S1:Nat->aC.Fn}{all:List Cx}{made:List Nd}(b:TB K S (lv ag) x y l all made)(h:TI K S (lv ag) x y l made K1 S1 all [] (jz all))(hnew:∀r d,K.N r=none->K1.N r=some d->0<K1.use r):Pos K1:=by
 intro r d hd;cases hN:K.N r with
 |none=>exact hnew r d hN hd
 |some d0=>
  rw[h.mid.use hd];rcases b.ok.reach r d0 hN with hh|⟨p,e,hp,Nv⟩
  ·have pD:K1.hold r≠0:=by rw[h.hold];exact hh
   rw[xac pD];omega
  by_cases hm:p∈all.map Cx.r
  ·obtain⟨c,hc,rfl⟩:=xam.1 hm;have hcd:=(b.m6 hc).1;rw[hp]at hcd;cases hcd;have:=Ix (s:=r) Nv hc;omega
  have uP:=h.old hp hm;have:c8 K1.N r K1.cap≠0:=λhe=>by
   have:=jl he p (h.mid.two uP).2 e uP;rcases Nv with Nv|Nv
   ·exact this.1 Nv
   exact this.2 Nv
  omega
theorem Ia(h:cQ kp K ord ag tr C)(hok:Ok K S (lv ag))(ho:Ord K.n (lv ag) ord)(Qd:Idle K){l:Nat}(hl:l+1<K.n):
  Fc zQ 146 #[ptr kp,iv (l:Int)] C (λr C'=>
   (Di K.n ord l (K.held S)+2<=K.cap/\r=.bool true/\∃K' S' fG,cQ kp K' (fT ord l) fG tr C'/\Ok K' S' (lv fG)/\Ord K'.n (lv fG) (fT ord l)/\Idle K'/\Kept K S K' S')\/
   (K.cap<Di K.n ord l (K.held S)+2/\r=.bool false/\C'=C)):=by
 have h0:=h;have hcap:=h.cap;obtain⟨b,hC,hO⟩:=h;have xZ:=hO.ol;have Ew:=hO.sU;have nb:=ho.nb hl;obtain⟨x,hx⟩:∃x,x=ord.getD l 0:=⟨_,rfl⟩;obtain⟨y,hy⟩:∃y,y=ord.getD (l+1) 0:=⟨_,rfl⟩;rw[<-hx,<-hy]at nb;refine aK λg=>G4 ?_;have hmk:(kp,Obj.cells (b.cells K.n) 122 zZ)∈C:=by rw[hC];exact .head _
 have V9:∀z∈b.CO,z∈C:=by rw[hC];exact br.sub (.cons (.app (.app (.app (.app .left)))))
 refine Ld.v hmk ?_;refine hO.od.ld (x:=(x:Int)) (by rw[hx];exact bX zO) V9 (Ld.v hmk ?_);refine ae.inc (hO.od.ld (x:=(y:Int)) (by rw[hy];exact bX zO) V9 (aa.fq (Ah h0 hok nb.xn) ?_));rintro w H ⟨all,Na,rfl,aD,Du,hlen⟩;refine DR.self (Nil.ptr (af.mk (aa.rq (QO h0 nb.xn aD hlen) ?_)));rintro w ⟨made,rfl,P2⟩;have hml:=pU P2;have IQ:=hok.mid.cap;have aeg:=hok.mid.room;refine aa.eq (Bz h0 (m:=made.length) zO zO) ?_;have ai1:Di K.n ord l (K.held S)=K.used-2+made.length:=W5 (N9 hok ho hl (by rw[<-hx,<-hy];exact Du) (by rw[<-hx];exact P2));apply Un.not;by_cases hroom:K.used+made.length<=K.cap;rotate_left
 ·rw[xap hroom];exact Br.yes (aQ.mk .right (.inr ⟨by omega,rfl,rfl⟩))
 rw[xau hroom];apply Br.no;have tb:TB K S (lv ag) x y l all made:=⟨hok,nb,Du,P2,hroom⟩;have gw:=Du.nd;have hge:∀{i:Nat} {c:Cx},all[i]? =some c->c.r∉(all.take i).map Cx.r:=λ{i c} qO hm=>by
  have h1:(all.take (i+1)).map Cx.r=(all.take i).map Cx.r++[c.r]:=by rw[xbv,qO,xaB];rfl
  have h2:((all.take (i+1)).map Cx.r).Nodup:=gw.sublist ((xdU _ _).map _);rw[h1]at h2;exact(xa9.1 h2).2.2 _ hm _ zI rfl
 have kA:∀{i:Nat} {c:Cx},all[i]? =some c->all.take (i+1)=all.take i++[c]:=λqO=>by rw[xbv,qO];rfl
 have hdr:∀{i:Nat} {c:Cx},all[i]? =some c->all.drop i=c::all.drop (i+1):=λ{i c} qO=>by
  obtain⟨hi,e⟩:=xah.1 qO;rw[xaV hi,e]
 have XS:∀{i:Nat},∀c∈all.take i,c∈all:=λc hc=>xcj hc;have hmD:∀{i:Nat},∀c∈all.drop i,c∈all:=λc hc=>xeb hc;refine aD.bE ?_;rw[xax];refine⟨λvs H=>∃(i:Nat) (T':Nd->Option Nat) (C1:Hp),vs=[iv (i:Int)]/\H=Na++C1/\i<=all.length/\cQ kp {K with T:=T'} ord ag tr C1/\jw {K with T:=T'} S (λs=>∃c∈all.take i,s=c.r) zero'/\(∀d,T' d=none\/T' d=K.T d),
  λvs _=>all.length-bA vs 0,JE.mk ⟨0,K.T,C,rfl,rfl,xaA _,h0,hok.mid.congr (λs=>by simp[iu]) (λ_ _=>rfl),λ_=>.inr rfl⟩,?_⟩
 rintro w H ⟨i,T',C1,hw,rfl,hi,kB,Li,Lh⟩ gs;simp only[xaz,xbb]at hw;subst hw;refine ae.cX (Br.dec (λhlt=>?_) (λUz=>?_))
 ·obtain⟨c,qO⟩:∃c,all[i]? =some c:=⟨_,xab hlt⟩;have Le:c∈all:=xay qO;obtain⟨zN,abh,hce⟩:=tb.m6 Le;refine aD.oh (r:=kL c) (by rw[xar,qO];rfl) (λz hz=>xad _ hz) ?_;intro YA _;refine St.p (kD _) ?_;obtain⟨b1,rfl,WC⟩:=kB;refine DR.self (Nil.ptr (af.mk (Ld.f ?_)));refine af.mk (ax.mk (vs:=(bH c.d).toArray) (.head _) (by simp[kL]) rfl ?_);have hTc:T' c.d=some c.r:=(Li.jy c.d c.r).2 ⟨zN,by rintro⟨c',mu,e⟩;exact hge qO (e▸xbd mu)⟩;refine aa.fq (xA (d:=c.d) WC.ut (hok.mid.var zN) hTc) ?_;rintro v YR ⟨rfl,XG⟩;refine ae.inc (az.of .tail ⟨i+1,pB T' c.d none,_,rfl,rfl,by omega,⟨{b1 with CT:=YR},rfl,{WC with ut:=XG}⟩,(Li.aeS (r:=c.r) (d:=c.d) zN ?_).congr (λs=>?_) (λ_ _=>rfl),λd=>?_⟩ (by simp[bA];omega))
  ·rintro⟨c',mu,e⟩;exact hge qO (e▸xbd mu)
  ·rw[kA qO];constructor
   ·rintro(⟨c',mu,e⟩|e)
    ·exact⟨c',xad _ mu,e⟩
    exact⟨c,by simp,e⟩
   rintro⟨c',mu,e⟩;rcases xaq.1 mu with mu|mu
   ·exact .inl ⟨c',mu,e⟩
   simp at mu;subst mu;exact .inr e
  unfold pB;split
  ·exact .inl rfl
  exact Lh d
 have hi':i=all.length:=by omega
 subst hi';rw[xbe]at Li;have hTI:=tb.start Li Lh;refine aD.bE ?_;rw[xax];refine⟨λvs H=>∃(i:Nat) (K1:Kd) (S1:Nat->aC.Fn) (C1:Hp),vs=[iv (i:Int)]/\H=Na++C1/\i<=all.length/\cQ kp K1 ord ag tr C1/\TI K S (lv ag) x y l made K1 S1 (all.take i) (all.drop i) (jz (all.take i))/\
   PL (jz (all.take i)) K1.N/\Idle K1/\(∀r d,K.N r=none->K1.N r=some d->0<K1.use r),
  λvs _=>all.length-bA vs 0,JE.mk ⟨0,_,S,C1,rfl,rfl,xaA _,kB,hTI,λt _ h=>by simp[jz]at h,Qd,λr d h1 h2=>by rw[h1]at h2;cases h2⟩,?_⟩
 clear hTI Li Lh kB T' C1 Uz hi;rintro w H ⟨i,K1,S1,C1,hw,rfl,hi,kB,Lh,UO,Qc,Wg⟩ gs;simp only[xaz,xbb]at hw;subst hw;refine ae.cX (Br.dec (λhlt=>?_) (λUz=>?_))
 ·obtain⟨c,qO⟩:∃c,all[i]? =some c:=⟨_,xab hlt⟩;have Le:c∈all:=xay qO;obtain⟨zN,abh,hce⟩:=tb.m6 Le;rw[hdr qO]at Lh;have gC:∀c'∈c::all.drop (i+1),c'∈all:=by rw[<-hdr qO];exact hmD
  have hPb:∀s,jz (all.take i) s<=2097152:=λs=>by have:=ze s (all.take i);rw[xbA]at this;omega
  refine aD.oh (r:=kL c) (by rw[xar,qO];rfl) (λz hz=>xad _ hz) ?_;intro b53 _;refine St.p (kD _) ?_;refine DR.self (Nil.ptr (af.mk (Ld.f ?_)));refine Ld.f ?_;refine aa.fq (QI tb kB Lh XS gC Le (k:=⟨x,c.wY,c.sK⟩) (by simp[keys]) UO Qc (λs=>by have:=hPb s;omega)) ?_;rintro w C2 ⟨t0,K2,S2,rfl,gz,WB,aao,g0,UN,Ey,agF,ad2⟩;refine Nil.ptr (af.mk (aa.fq (NW gz WB UN Ey (λs=>by have:=hPb s;omega) (WB.p8 tb XS aao)) ?_));rintro w C3 ⟨K3,rfl,wB,hT3,Yf,aeV,hN3,aei,aaP⟩;have abB:∀s,(jz (all.take i) s+if s=t0 then 1 else 0)<=2097153:=λs=>by have:=hPb s;split<;>omega
  refine DR.self (Nil.ptr (af.mk (Ld.f ?_)));refine Ld.f ?_;refine aa.fq (QI tb wB hT3 XS gC Le (k:=⟨x,c.wX,c.sJ⟩) (by simp[keys]) Yf aeV (λs=>by have:=abB s;omega)) ?_;rintro w C4 ⟨t1,K4,S4,rfl,hK4,hT4,aan,g1,Ye,aeU,VQ,ad1⟩;refine Nil.ptr (af.mk (aa.fq (NW hK4 hT4 Ye aeU (λs=>by have:=abB s;omega) (hT4.p8 tb XS aan)) ?_));rintro w C5 ⟨K5,rfl,Zs,hT5,aj7,aeT,hN5,aeh,aaO⟩;have VW:xe K K5 (lv ag) x l t0:=xe.mono aao (λs d hs=>by rw[hN5];exact VQ s d (by rw[hN3];exact hs));have VV:xe K K5 (lv ag) x l t1:=xe.mono aan (λs d hs=>by rw[hN5];exact hs);have g0':(c.wY=c.sK/\t0=c.wY)\/K5.N t0=some ⟨x,c.wY,c.sK⟩:=by
   rcases g0 with g0|g0
   ·exact .inl g0
   exact .inr (by rw[hN5];exact VQ _ _ (by rw[hN3];exact g0))
  have g1':(c.wX=c.sJ/\t1=c.wX)\/K5.N t1=some ⟨x,c.wX,c.sJ⟩:=by
   rcases g1 with g1|g1
   ·exact .inl g1
   exact .inr (by rw[hN5];exact g1)
  have aeC:((all.take i++c::all.drop (i+1)).map Cx.r).Nodup:=by rw[<-hdr qO,xbo];exact gw
  obtain⟨hTn,hT6⟩:=hT5.yV tb XS gC aeC VW VV g0' g1' (P':=jz (all.take (i+1))) (λs _=>by
   rw[kA qO,Km,dR ⟨y,t0,t1⟩];have e1':(if t0=s then 1 else 0)=(if s=t0 then 1 else 0:Nat):=by split<;>split<;>first|rfl|(exfalso;omega)
   have e2':(if t1=s then 1 else 0)=(if s=t1 then 1 else 0:Nat):=by split<;>split<;>first|rfl|(exfalso;omega)
   simp only[e1',e2'];omega)
  have P3:∀{t:Nat},xe K K5 (lv ag) x l t->live K5.N t:=λhk=>hT5.p8 tb XS hk;have X7:∃e,K5.N c.r=some e:=hT5.kept zN;refine Build.mk (cs:=bH ⟨y,t0,t1⟩) zK λb83 _=>?_;refine St.p (λz hz=>by simp[bH,u32]at hz;rcases hz with rfl|rfl|rfl<;>rfl) ?_;obtain⟨b5,rfl,hO5⟩:=Zs;refine DR.self (Nil.ptr (af.mk (Ld.f ?_)));refine Ld.f ?_;refine ax.q ?_;have XE:y<K5.n:=by rw[hT5.n];exact nb.yn
  refine aa.fq (Vo (d:=⟨y,t0,t1⟩) hO5.ar ⟨by show y<64;have:=hO5.sU;omega,P3 VW,P3 VV⟩ X7 (tb.ok.mid.two zN).1) ?_;rintro w CA' ⟨rfl,har⟩;refine DR.self (Nil.ptr (af.mk (Ld.f ?_)));refine ax.q ?_;refine Ld.f ?_;refine aa.fq (HZ (d:=⟨y,t0,t1⟩) (r:=c.r) hO5.ut XE hTn) ?_;rintro w YR ⟨rfl,XG⟩;refine ae.inc (az.of (.skip .tail) ⟨i+1,{K5 with N:=up K5.N c.r (some ⟨y,t0,t1⟩),T:=pB K5.T ⟨y,t0,t1⟩ (some c.r)},S4,_,rfl,rfl,by omega,⟨{b5 with CA:=CA',CT:=YR},rfl,{hO5 with ar:=har,ut:=XG}⟩,by rw[kA qO]at hT6⊢;exact hT6,λt SE hp=>?_,λs hs=>?_,λr d XL hrd=>?_⟩ (by simp[bA];omega))
  ·obtain⟨c',mu,lq⟩:=Bb hp;have afb:=XS c' mu;have Qp:=(tb.m6 afb).1;have hlv:live K.N t:=by
    rcases lq with rfl|rfl
    ·exact tb.ok.mid.lo Qp
    exact tb.ok.mid.hi Qp
   rcases hlv with hlv|⟨d,hd⟩
   ·omega
   exact hT6.kept hd
  ·have hs':up K5.N c.r (some ⟨y,t0,t1⟩) s=none:=hs;have hne:s≠c.r:=λe=>by subst e;rw[aL]at hs';cases hs'
   rw[aP hne]at hs';exact aeT s hs'
  have XK:up K5.N c.r (some ⟨y,t0,t1⟩) r=some d:=hrd;have hne:r≠c.r:=λe=>by rw[e,zN]at XL;cases XL
  rw[aP hne,hN5]at XK;have SF:2<=r:=(hT4.mid.two XK).1;show 0<K5.use r;rcases ad1 r d XK with e|⟨h3,hu3⟩
  ·rw[e]at SF⊢;exact aaO SF
  rw[hN3]at h3;have h5:=aeh r;rcases ad2 r d h3 with e|⟨h1,Ns⟩
  ·rw[e]at SF⊢h5 hu3;have:=aaP SF;omega
  have:=Wg r d XL h1;have:=aei r;omega
 have hi':i=all.length:=by omega
 subst hi';rw[xbe,xck]at Lh;rw[xbe]at UO;have uP:=N8 tb Lh Wg;refine aD.bE ?_;rw[xax];refine⟨λvs H=>∃(i:Nat) (K2:Kd) (C2:Hp),vs=[iv (i:Int)]/\H=Na++C2/\i<=all.length/\cQ kp K2 ord ag tr C2/\jw K2 S1 iu (jz (all.drop i))/\Pos K2/\PL (jz (all.drop i)) K2.N/\xd K2 K1,
  λvs _=>all.length-bA vs 0,JE.mk ⟨0,K1,C1,rfl,rfl,xaA _,kB,Lh.mid.congr (λs=>by simp[iu]) (λ_ _=>rfl),uP,UO,.refl K1⟩,?_⟩
 clear kB UO hi Uz C1;rintro w H ⟨i,K2,C2,hw,rfl,hi,gz,NH,lg,UN,fR⟩ gs;simp only[xaz,xbb]at hw;subst hw;refine ae.cX (Br.dec (λhlt=>?_) (λUz=>?_))
 ·obtain⟨c,qO⟩:∃c,all[i]? =some c:=⟨_,xab hlt⟩;have Le:c∈all:=xay qO;obtain⟨zN,abh,hce⟩:=tb.m6 Le;have hPb:∀s,jz (all.drop i) s<=2097152:=λs=>by have:=ze s (all.drop i);rw[xbS]at this;omega
  have hlo:=h0.lt (hok.mid.lo zN);have hhi:=h0.lt (hok.mid.hi zN);refine aD.oh (r:=kL c) (by rw[xar,qO];rfl) (λz hz=>xad _ hz) ?_;intro ak0 _;refine St.p (kD _) ?_;refine DR.self (Nil.ptr (af.mk (af.mk (Ld.f ?_))));have Ey:Idle K2:=fR.idle Qc;have hub:∀s,K2.use s<2147483648:=λs=>by have:=tL NH Ey hPb s;omega
  rw[hdr qO,O4]at NH UN;refine aa.fq (oU gz NH lg UN hlo hub) ?_;rintro w C3 ⟨rfl,K3,wB,Zp,We,Yf,P5⟩;refine DR.self (Nil.ptr (af.mk (af.mk (Ld.f ?_))));refine aa.fq (oU wB Zp We Yf hhi (λs=>xaE (P5.us s) (hub s))) ?_;rintro w C4 ⟨rfl,K4,hK4,hM4,Y9,Ye,XT⟩;exact ae.inc (az.of .tail ⟨i+1,K4,C4,rfl,rfl,by omega,hK4,hM4,Y9,Ye,XT.trans (P5.trans fR)⟩ (by simp[bA];omega))
 have hi':i=all.length:=by omega
 subst hi';rw[xck]at NH;have Ey:Idle K2:=fR.idle Qc;obtain⟨f1,f2,f3⟩:=Lh.fin tb (K':=K2) (NH.congr (λ_=>xdg) (λ_ _=>rfl)) lg (λh=>fR.N h) fR.n (λr=>by show K2.ho.getD r 0=K1.ho.getD r 0;rw[fR.ho]);have P1:K2.n=K.n:=by rw[fR.n,Lh.n]
 obtain⟨b2,rfl,hO2⟩:=gz;refine DR.self (Ld.n ?_);refine Ld.n ?_;refine ae.inc (hO2.od.mF (x:=(y:Int)) (.app (.cons (.app (.app (.app (.app .left)))))) (by rw[an];omega) λCO1 KT=>?_);refine KT.mF (x:=(x:Int)) (.app (.cons (.app (.app (.app (.app .left)))))) (by rw[xbW,an];omega) λCO2 BM=>?_;refine DR.self (Ld.n ?_);refine Ld.n ?_;refine ae.inc ?_;have nM:=hO2.ol.2;have hxn:=nb.xn;have XE:=nb.yn;refine hO2.lv.mF (x:=((l+1:Nat):Int)) (.app (.cons (.app (.app (.app (.app (.app .left))))))) (by rw[an];omega) λCL1 x7=>?_;refine x7.mF (x:=(l:Int)) (.app (.cons (.app (.app (.app (.app (.app .left))))))) (by rw[xbW,an];omega) λCL2 mT=>?_;rw[gj,gj]at BM mT;have AA:(ord.set l y).set (l+1) x=fT ord l:=by rw[hx,hy];rfl
 rw[AA]at BM;have hlv:lv ((ag.set x (l+1)).set y l)=sO (lv ag) x y l:=Xt nb.ne zO zO;refine aQ.mk .right (.inl ⟨by omega,rfl,K2,S1,_,⟨{b2 with CO:=CO2,CL:=CL2},rfl,{hO2 with od:=BM,lv:=mT,ol:=?_}⟩,by rw[hlv];exact f1,by rw[hlv,P1,hx,hy];exact Tg ho hl,Ey,P1,by rw[fR.cap,Lh.cap],λr=>?_,f2,f3⟩)
 ·rw[kS];simp;exact hO2.ol
 show K2.ho.getD r 0=K.hold r;rw[fR.ho];exact Lh.hold r
end
structure cT(kp:Nat)(K:Kd)(S:Nat->aC.Fn)(ord ag tr:zL)(C:Hp):Prop where
 rep:cQ kp K ord ag tr C
 ok:Ok K S (lv ag)
 od:Ord K.n (lv ag) ord
 idle:Idle K
 tr:wZ K.n K.cap (K.held S) ord tr.reverse
theorem Kept.refl(K:Kd)(S:Nat->aC.Fn):Kept K S K S:=⟨rfl,rfl,λ_=>rfl,λ_=>xdg,λ_ _=>rfl⟩
theorem Kept.trans{K K' K2:Kd}{S S' S2:Nat->aC.Fn}(h:Kept K S K' S')(h':Kept K' S' K2 S2):Kept K S K2 S2:=
 ⟨h'.n.trans h.n,h'.cap.trans h.cap,λr=>(h'.hold r).trans (h.hold r),λg=>(h'.held g).trans (h.held g),λr hr=>(h'.fn r (by rw[h.hold];exact hr)).trans (h.fn r hr)⟩
section
variable {kp:Nat} {K:Kd} {ord ag tr:zL} {C:Hp} {S:Nat->aC.Fn}
theorem I7(h:cT kp K S ord ag tr C){l:Nat}(hl:l+1<K.n)(iy:tr.length<17592186044416):Fc zQ 111 #[ptr kp,iv (l:Int)] C (λr C'=>
   (Di K.n ord l (K.held S)+2<=K.cap/\r=iv 0/\∃K' S' fG,cT kp K' S' (fT ord l) fG (tr++[l]) C'/\Kept K S K' S')\/
   (K.cap<Di K.n ord l (K.held S)+2/\r=iv 9/\C'=C)):=by
 have h0:=h;obtain⟨b,hC,hO⟩:=h.rep;have hn:=hO.sU;refine aK λg=>HD (ae.aG (Br.no (ae.lss (cz.or (decide ((K.n:Int) -2<l)) (λ_=>?_) zI λgs=>?_))))
 ·refine Ld.v (by rw[hC];exact .head _) ?_;exact ae.r3 (c:=(K.n:Int) -2) rfl zO (ae.gtr ⟨rfl,rfl⟩)
 rw[<-xbp];refine Br.F (aa.fq (Ia h.rep h.ok h.od h.idle hl) ?_);rintro w C' (⟨hfit,rfl,K',S',fG,jT,Et,XP,zG,qb⟩|⟨hno,rfl,rfl⟩)
 ·refine Un.not (Br.no ?_);obtain⟨b',rfl,z6⟩:=jT;refine Ld.n ?_;refine aj.int (e:=3) zK zK zK λbx=>?_;refine z6.tr.mi (.cons (.cons (.app (.app (.app (.app (.app (.app .here)))))))) (by exact .head _) (by rw[an];omega) (by rw[an];omega) λv' CR' cq=>?_;refine Nil.ptr (af.mk (St.one (by exact .tail (.head _)) cq.one (by simp[wD.cells]) rfl ?_));refine aQ.mk .tail (.inl ⟨hfit,rfl,K',S',fG,⟨⟨{b' with vt:=v',CR:=CR'},rfl,{z6 with tr:=by rw[cj];exact cq}⟩,Et,XP,zG,?_⟩,qb⟩);rw[qb.n,qb.cap];exact(wZ.afV hO.ol.1 hl hfit h.tr).congr λg=>(qb.held g).symm
 exact Un.not (Br.yes (aQ.here (.inr ⟨hno,rfl,rfl⟩)))
theorem S8{l:Nat}(h:cT kp K S ord ag (tr++[l]) C)(iy:tr.length<17592186044416):Fc zQ 285 #[ptr kp] C (λr C'=>
   r=.tuple #[iv (l:Int),iv 0]/\l+1<K.n/\∃K' S' fG,cT kp K' S' (fT ord l) fG tr C'/\Kept K S K' S'):=by
 have h0:=h;obtain⟨b,hC,hO⟩:=h.rep;have hn:=hO.sU;have PT:=h.tr;rw[List.reverse_append]at PT;obtain⟨hl,hfit,sX⟩:l+1<K.n/\Di K.n ord l (K.held S)+2<=K.cap/\wZ K.n K.cap (K.held S) (fT ord l) tr.reverse:=PT;have hmk:(kp,Obj.cells (b.cells K.n) 122 zZ)∈C:=by rw[hC];exact .head _
 refine aK λg=>FC (ae.aG (cz.or false (λ_=>?_) rfl λgs=>Br.no ?_))
 ·refine Ld.v hmk ?_;refine hO.tr.bE (ae.lT ⟨rfl,?_⟩);rw[xap];rw[an,xaf];simp;omega
 refine Ld.v hmk ?_;refine hO.tr.bE ?_;rw[an,xaf];refine ae.cc (a:=tr.length+1) (b:=1) ?_;rw[xb1];refine Ld.v hmk ?_;refine hO.tr.ld (i:=tr.length) (x:=(l:Int)) (by rw[cj];simp[iw]) (by rw[hC];exact br.sub (.cons (.app (.app (.app (.app (.app (.app .here)))))))) (aa.fq (Ia h.rep h.ok h.od h.idle hl) ?_);rintro w C' (⟨_,rfl,K',S',fG,jT,Et,XP,zG,qb⟩|⟨hno,rfl,rfl⟩);rotate_left
 ·omega
 obtain⟨b',rfl,z6⟩:=jT;refine Ld.n ?_;refine z6.tr.cut (i:=tr.length) (by rw[an];simp) λv' n4=>?_;refine Nil.ptr (af.mk (St.one (by exact .head _) n4.one (by simp[wD.cells]) rfl ?_));refine aQ.here ⟨rfl,hl,K',S',fG,⟨⟨{b' with vt:=v'},rfl,{z6 with tr:=by rw[cj,xeC zI]at n4;exact n4}⟩,Et,XP,zG,?_⟩,qb⟩;rw[qb.n,qb.cap];exact sX.congr λg=>(qb.held g).symm
theorem cT.dz(h:cT kp K S ord ag tr C){r:Nat}(hl:live K.N r):r<1048576:=h.rep.lt hl
theorem cT.nJ(h:cT kp K S ord ag tr C)(r:Nat):K.hold r<=65535:=h.ok.mid.mx r
theorem cT.NX(h:cT kp K S ord ag tr C)(r:Nat):K.use r<=2097153:=by have:=tL h.ok.mid h.idle (M:=0) (λ_=>xal _) r;omega
structure YH(K K':Kd)(r:Nat):Prop where
 n:K'.n=K.n
 cap:K'.cap=K.cap
 used:K'.used=K.used
 N:K'.N=K.N
 hold:∀s,K'.hold s=if s=r/\2<=r then K.hold s+1 else K.hold s
theorem KL(h:cT kp K S ord ag tr C){r:Nat}(hl:live K.N r)(h2:2<=r)(hf:K.hold r=65535):Rd zQ 153 #[ptr kp,u32 r] C (· =iv 8):=by
 have hr:=h.dz hl;obtain⟨b,hC,hO⟩:=h.rep;have hfit:r<K.ho.length:=by
  rcases hl with hl|⟨d,hd⟩
  ·omega
  rw[<-hO.ul.1];exact h.ok.mid.fit hd
 refine aK λg=>wo (ae.aG (Br.no (Nil.ptr (af.mk (aa.eq (mQ h.rep zO) ?_)))));rw[cg.2 hl];refine Un.not (Br.no λJ7 _=>(ae.gW (b:=1) (Br.T (Nil.ptr (af.mk (Ld.u (by rw[hC];exact .head _) ?_))))));refine hO.ho.ld (x:=((K.hold r:Nat):Int)) (bX hfit) (by rw[hC];exact br.sub (.cons (.app (.app (.app .left))))) ?_;rw[hf];exact ae.lT (Br.T (bD.mk (.refl _) rfl))
theorem BF(h:cQ kp K ord ag tr C)(Zq:jw K S iu zero')(Uy:Idle K){r:Nat}(hl:live K.N r)(hf:2<=r->K.hold r<65535):Fc zQ 153 #[ptr kp,u32 r] C (λv C'=>v=iv 0/\∃K',cQ kp K' ord ag [] C'/\
  jw K' S iu zero'/\Idle K'/\YH K K' r/\(∀s,K.use s<=K'.use s)/\(2<=r->0<K'.use r)):=by
 have hr:=h.lt hl;have h0:=h;obtain⟨b,hC,hO⟩:=h;refine aK λg=>wo (ae.aG (Br.no (Nil.ptr (af.mk (aa.eq (mQ h0 zO) ?_)))));rw[cg.2 hl];refine Un.not (Br.no λJ7 hJ7=>?_);have fin:∀(K':Kd) C1,cQ kp K' ord ag tr C1->jw K' S iu zero'->Idle K'->YH K K' r->(∀s,K.use s<=K'.use s)->(2<=r->0<K'.use r)->J7 [] C1:=λK' C1 jT Et zG hm hu hp=>by
  refine hJ7 _ λgs=>?_;obtain⟨b',rfl,z6⟩:=jT;refine Nil.ptr (af.mk (St.one (by exact .head _) rfl (by simp[wD.cells]) rfl ?_));refine aQ.mk (gY:=({b' with vt:=.slice none 0 0,CR:=[]}:wD).hp kp K'.n) ?_ ⟨rfl,K',⟨{b' with vt:=.slice none 0 0,CR:=[]},rfl,{z6 with tr:=aR.nil}⟩,Et,zG,hm,hu,hp⟩;refine .cons (.cL (.cL (.cL (.cL (.cL (.cL .nil _) _) _) _) _) _)
 refine ae.gW (b:=1) (Br.dec (λh2=>?_) (λh2=>?_));rotate_left
 ·refine JE.mk (fin K C h0 Zq Uy ⟨rfl,rfl,rfl,rfl,λs=>?_⟩ (λ_=>xal _) (λh=>by omega));rw[xac zO]
 have o9:2<=r:=by omega
 have Nz:=hf o9;obtain⟨d,hd⟩:∃d,K.N r=some d:=by
  rcases hl with hl|hl
  ·omega
  exact hl
 have hfu:=Zq.fit hd;have PS:=hO.ul;have hfit:r<K.ho.length:=by omega
 subst hC;refine Nil.ptr (af.mk (Ld.f ?_));refine hO.ho.ld (x:=((K.hold r:Nat):Int)) (bX hfit) (br.sub (.cons (.app (.app (.app .left))))) (ae.lT (Br.F (Nil.ptr (af.mk (Ld.f ?_)))));refine hO.ho.ld (x:=((K.hold r:Nat):Int)) (bX hfit) (br.sub (.cons (.app (.app (.app .left))))) (ae.inc (hO.ho.mF (x:=((K.hold r+1:Nat):Int)) (.cons (.app (.app (.app .left)))) (by rw[an];exact hfit) λVA pD=>?_));rw[gj]at pD;have g1:∀s,(K.ho.set r (K.hold r+1)).getD s 0=if s=r then K.hold r+1 else K.hold s:=λs=>gX hfit
 refine Nil.ptr (af.mk (Ld.f ?_));refine pD.ld (x:=((K.hold r+1:Nat):Int)) (by rw[bX (by simpa using hfit),g1,xae rfl]) (br.sub (.cons (.app (.app (.app .left))))) ?_;refine ae.bB (b:=1) (Br.dec (λh3=>?_) (λh3=>?_))
 ·refine Nil.ptr (af.mk (Ld.f ?_));refine hO.us.ld (x:=((K.use r:Nat):Int)) (bX hfu) (br.sub (.cons (.app (.app .left)))) ?_;have hub:=tL Zq Uy (M:=0) (λ_=>xal _) r;refine ae.inc (hO.us.mF (x:=((K.use r+1:Nat):Int)) (.cons (.app (.app .left))) (by rw[an];exact hfu) λSM sW=>?_);rw[gj]at sW;have g2:∀s,(K.us.set r (K.use r+1)).getD s 0=if s=r then K.use r+1 else K.use s:=λs=>gX hfu
  have hM:=Zq.keep (r:=r) (di:=K.us.set r (K.use r+1)) (cq:=K.ho.set r (K.hold r+1)) ⟨d,hd⟩ Nz zI (by rw[g1,xae rfl]) (λs hs=>by rw[g1,xac hs]) (by rw[g2,xae rfl,xae zO]) (λs hs=>by rw[g2,xac hs]);refine JE.mk (fin {K with us:=K.us.set r (K.use r+1),ho:=K.ho.set r (K.hold r+1)} _ ⟨{b with CU:=SM,CH:=VA},rfl,{hO with us:=sW,ho:=pD,ul:=by simp;exact PS}⟩ hM (λs hs=>?_) ⟨rfl,rfl,rfl,rfl,λs=>?_⟩ (λs=>?_) (λ_=>?_))
  ·show(K.us.set r (K.use r+1)).getD s 0=0;have hs':K.N s=none:=hs;rw[g2,xac (λe=>by rw[e,hd]at hs';cases hs')];exact Uy s hs'
  ·show(K.ho.set r (K.hold r+1)).getD s 0=_;rw[g1];by_cases e:s=r
   ·subst e;rw[xae rfl,xae ⟨rfl,o9⟩]
   rw[xac e,xac (λh=>e h.1)]
  ·show K.use s<=(K.us.set r (K.use r+1)).getD s 0;rw[g2];split
   ·rename_i e;subst e;omega
   exact xal _
  show 0<(K.us.set r (K.use r+1)).getD r 0;rw[g2,xae rfl];omega
 have hM:=Zq.keep (r:=r) (di:=K.us) (cq:=K.ho.set r (K.hold r+1)) ⟨d,hd⟩ Nz zI (by rw[g1,xae rfl]) (λs hs=>by rw[g1,xac hs]) (by show K.use r=_;rw[xac zO];rfl) (λs hs=>rfl);refine JE.mk (fin {K with ho:=K.ho.set r (K.hold r+1)} _ ⟨{b with CH:=VA},rfl,{hO with ho:=pD,ul:=by simp;exact PS}⟩ hM Uy ⟨rfl,rfl,rfl,rfl,λs=>?_⟩ (λ_=>xal _) (λ_=>?_));rotate_left
 ·show 0<K.use r;rw[Zq.use hd,xac zO];omega
 show(K.ho.set r (K.hold r+1)).getD s 0=_;rw[g1];by_cases e:s=r
 ·subst e;rw[xae rfl,xae ⟨rfl,o9⟩]
 rw[xac e,xac (λh=>e h.1)]
theorem zq(h:cT kp K S ord ag tr C){r:Nat}(hl:live K.N r)(hf:2<=r->K.hold r<65535):Fc zQ 153 #[ptr kp,u32 r] C (λv C'=>v=iv 0/\∃K',cT kp K' S ord ag [] C'/\YH K K' r):=by
 refine(BF h.rep h.ok.mid h.idle hl hf).mono ?_;rintro v C' ⟨rfl,K',jT,Yh,zG,hm,hu,hp⟩;refine⟨rfl,K',⟨jT,⟨Yh,λs d hs=>?_,by rw[hm.n];exact h.ok.lv,by rw[hm.n,hm.N];exact h.ok.wf⟩,by rw[hm.n];exact h.od,zG,trivial⟩,hm⟩;rw[hm.N]at hs;exact xa2 (h.ok.pos s d hs) (hu s)
end
section
variable {kp:Nat} {K:Kd} {ord ag tr:zL} {C:Hp} {S:Nat->aC.Fn}
theorem T5{K':Kd}{P:Nat->Nat}(hw:WF K.n (lv ag) K.N)(hM:jw K' S iu P)(hN:∀{s d},K'.N s=some d->K.N s=some d)(hn:K'.n=K.n):WF K'.n (lv ag) K'.N:=by
 have same:∀{t},live K'.N t->dep K'.n (lv ag) K'.N t=dep K.n (lv ag) K.N t:=λ{t} ht=>by
  cases e:K'.N t with
  |some f=>rw[ay e,ay (hN e)]
  |none=>
   have KO:t<2:=by
    rcases ht with ht|⟨f,hf⟩
    ·exact ht
    rw[e]at hf;cases hf
   rw[bj e,bj (hw.const KO),hn]
 refine hM.wf λ{s d} hs=>?_;rw[same (hM.lo hs),same (hM.hi hs)];exact⟨(hw.lo (hN hs)).2,(hw.hi (hN hs)).2⟩
structure Sj(K K':Kd)(r:Nat):Prop where
 n:K'.n=K.n
 cap:K'.cap=K.cap
 N:∀s d,K'.N s=some d->K.N s=some d
 hold:∀s,K'.hold s=if s=r/\2<=r then K.hold s-1 else K.hold s
theorem ab5(h:cT kp K S ord ag tr C){r:Nat}(hr:r<4294967296)(h2:2<=r)(h0:K.hold r=0):Rd zQ 98 #[ptr kp,u32 r] C (· =iv 3):=by
 refine aK λg=>yK (ae.aG (Br.no ?_));intro J2 _;refine ae.gW (b:=1) (Br.T (aa.eq (BC h.rep hr (λs=>by have:=h.nJ s;omega)) ?_));rw[h0];exact ae.lT (Br.T (bD.mk (.refl _) rfl))
theorem Af(h:cT kp K S ord ag tr C){r:Nat}(hr:r<4294967296)(hh:2<=r->K.hold r≠0):Fc zQ 98 #[ptr kp,u32 r] C (λv C'=>v=iv 0/\∃K',cT kp K' S ord ag [] C'/\Sj K K' r):=by
 have h0:=h;obtain⟨b,hC,hO⟩:=h.rep;refine aK λg=>yK (ae.aG (Br.no ?_));intro J2 IY;have fin:∀(K':Kd) C1,cQ kp K' ord ag tr C1->Ok K' S (lv ag)->Idle K'->Sj K K' r->J2 [] C1:=λK' C1 jT Et zG hm=>by
  refine IY _ λgs=>?_;obtain⟨b',rfl,z6⟩:=jT;refine Nil.ptr (af.mk (St.one (by exact .head _) rfl (by simp[wD.cells]) rfl ?_));have sY:Ord K'.n (lv ag) ord:=by rw[hm.n];exact h.od
  refine aQ.mk (gY:=({b' with vt:=.slice none 0 0,CR:=[]}:wD).hp kp K'.n) ?_ ⟨rfl,K',⟨⟨{b' with vt:=.slice none 0 0,CR:=[]},rfl,{z6 with tr:=aR.nil}⟩,Et,sY,zG,trivial⟩,hm⟩;refine .cons (.cL (.cL (.cL (.cL (.cL (.cL .nil _) _) _) _) _) _)
 refine ae.gW (b:=1) (Br.dec (λh2=>?_) (λh2=>?_));rotate_left
 ·exact JE.mk (fin K C h.rep h.ok h.idle ⟨rfl,rfl,λ_ _ h=>h,λs=>by rw[xac zO]⟩)
 have o9:2<=r:=by omega
 have pD:=hh o9;obtain⟨d,hd⟩:=h.ok.mid.held r pD;have hfu:=h.ok.mid.fit hd;have PS:=hO.ul;have hfit:r<K.ho.length:=by omega
 have hle:=h.nJ r;refine aa.eq (BC h.rep hr (λs=>by have:=h.nJ s;omega)) (ae.lT (Br.F ?_));subst hC;refine Nil.ptr (af.mk (Ld.f ?_));refine hO.ho.ld (x:=((K.hold r:Nat):Int)) (bX hfit) (br.sub (.cons (.app (.app (.app .left))))) (ae.cc (b:=1) (hO.ho.mF (x:=((K.hold r-1:Nat):Int)) (.cons (.app (.app (.app .left)))) (by rw[an];exact hfit) λVA hhh=>?_));rw[gj]at hhh;have g1:∀s,(K.ho.set r (K.hold r-1)).getD s 0=if s=r then K.hold r-1 else K.hold s:=λs=>gX hfit
 have hM:=h.ok.mid.drop (r:=r) (cq:=K.ho.set r (K.hold r-1)) zO zI (by rw[g1,xae rfl];omega) (λs hs=>by rw[g1,xac hs]);have kB:cQ kp {K with ho:=K.ho.set r (K.hold r-1)} ord ag tr (({b with CH:=VA}:wD).hp kp K.n):=⟨_,rfl,{hO with ho:=hhh,ul:=by simp;exact PS}⟩;have hho:∀s,(K.ho.set r (K.hold r-1)).getD s 0=if s=r/\2<=r then K.hold s-1 else K.hold s:=λs=>by
  rw[g1];by_cases e:s=r
  ·subst e;rw[xae rfl,xae ⟨rfl,o9⟩]
  rw[xac e,xac (λh=>e h.1)]
 refine Nil.ptr (af.mk (Ld.f ?_));refine hhh.ld (x:=((K.hold r-1:Nat):Int)) (by rw[bX (by simpa using hfit),g1,xae rfl]) (br.sub (.cons (.app (.app (.app .left))))) (ae.bB (b:=0) (Br.dec (λh3=>?_) (λh3=>?_)));rotate_left
 ·rw[xac zO]at hM;exact JE.mk (fin {K with ho:=K.ho.set r (K.hold r-1)} _ kB ⟨hM,h.ok.pos,h.ok.lv,h.ok.wf⟩ h.idle ⟨rfl,rfl,λ_ _ h=>h,hho⟩)
 rw[xae zO]at hM;refine Nil.ptr (af.mk ?_);have NH:jw {K with ho:=K.ho.set r (K.hold r-1)} S iu (gJ zero' [r]):=hM.congr (λ_=>xdg) λs _=>by
  unfold up gJ zero';by_cases e:s=r
  ·subst e;simp
  simp[e,xbn e]
 refine aa.fq (oU (P0:=zero') kB NH h.ok.pos (λt SE h0=>?_) (h.dz (.inr ⟨d,hd⟩)) (λs=>by have:=h.NX s;show K.use s<_;omega)) ?_
 ·by_cases e:t=r
  ·subst e;exact⟨d,hd⟩
  have h0':0<zero' t+[r].count t:=h0;simp[zero',xbn e]at h0'
 rintro w C2 ⟨rfl,K2,gz,Zp,We,_,fR⟩;refine JE.mk (fin K2 _ gz ⟨Zp,We,by rw[fR.n];exact h.ok.lv,T5 h.ok.wf Zp (λh=>fR.N h) fR.n⟩ (fR.idle h.idle) ⟨fR.n,fR.cap,λs e hs=>fR.N hs,λs=>?_⟩);show K2.ho.getD s 0=_;rw[fR.ho];exact hho s
structure sL(K:Kd)(S:Nat->aC.Fn)(K':Kd)(S':Nat->aC.Fn)(f:aC.Fn)(r:Nat):Prop where
 n:K'.n=K.n
 cap:K'.cap=K.cap
 used:K'.used<=K.used+1
 N:∀s d,K.N s=some d->K'.N s=some d
 fn:∀s,live K.N s->S' s=S s
 live:live K'.N r
 is:S' r=f
 hold:∀s,K'.hold s=if s=r/\2<=r then K.hold s+1 else K.hold s
theorem IJ(h:cT kp K S ord ag tr C){v lo hi:Nat}(hv:v<K.n)(hlo:live K.N lo)(hhi:live K.N hi)(hlt:lo=hi\/(lv ag v<dep K.n (lv ag) K.N lo/\lv ag v<dep K.n (lv ag) K.N hi)):
  Fc zQ 154 #[ptr kp,iv (v:Int),u32 lo,u32 hi] C (λw C'=>
   (∃r K' S',w=.tuple #[u32 r,iv 0]/\cT kp K' S' ord ag [] C'/\sL K S K' S' (ite S ⟨v,lo,hi⟩) r)\/
   (∃r,w=.tuple #[u32 0,iv 8]/\C'=C/\live K.N r/\2<=r/\K.hold r=65535/\S r=ite S ⟨v,lo,hi⟩)\/
   (w=.tuple #[u32 0,iv 9]/\C'=C/\K.cap<=K.used/\lo≠hi/\K.T ⟨v,lo,hi⟩=none)):=by
 have h0:=h;have aeL:=h.dz hlo;have aeW:=h.dz hhi;have x7:=cg.2 hlo;have mT:=cg.2 hhi;have hfe:ov K ag (v:Int) lo hi=0:=by
  unfold ov;rw[xac zO,xac (by rw[x7,mT];simp),xac];rintro⟨hne,hmin⟩;rcases hlt with e|⟨a,b⟩
  ·exact hne e
  simp only[xbI,lv]at hmin a b;omega
 refine aK λg=>G0 (ae.aG (Br.no (aa.eq (I5 h.rep (v:Int) zO zO (λr d hd=>⟨h.ok.mid.var hd,(h.ok.mid.two hd).1⟩)) ?_)));rw[hfe];refine ae.ic (Br.F (aa.rq (Ip h.rep (lo:=lo) (hi:=hi) hv) ?_));rintro w hw;have there:∀(J9:List zV->Hp->Prop),(∀W3:zV,∀H11:Hp,(∀akA:Fr,aa zQ g 153 #[ptr kp,W3] H11 (λv13 ZL=>ae .num .neq v13 (Value.int .i64 0) λv15=>Br v15
   (aQ (λw C'=>(∃r K' S',w=.tuple #[u32 r,iv 0]/\cT kp K' S' ord ag [] C'/\sL K S K' S' (ite S ⟨v,lo,hi⟩) r)\/
   (∃r,w=.tuple #[u32 0,iv 8]/\C'=C/\live K.N r/\2<=r/\K.hold r=65535/\S r=ite S ⟨v,lo,hi⟩)\/
   (w=.tuple #[u32 0,iv 9]/\C'=C/\K.cap<=K.used/\lo≠hi/\K.T ⟨v,lo,hi⟩=none)) (.returned (.tuple #[(Value.int .u32 0),v13])) ZL) (aQ (λw C'=>(∃r K' S',w=.tuple #[u32 r,iv 0]/\cT kp K' S' ord ag [] C'/\sL K S K' S' (ite S ⟨v,lo,hi⟩) r)\/
   (∃r,w=.tuple #[u32 0,iv 8]/\C'=C/\live K.N r/\2<=r/\K.hold r=65535/\S r=ite S ⟨v,lo,hi⟩)\/
   (w=.tuple #[u32 0,iv 9]/\C'=C/\K.cap<=K.used/\lo≠hi/\K.T ⟨v,lo,hi⟩=none)) (.returned (.tuple #[W3,(Value.int .i64 0)])) ZL)) (cv (aQ (λw C'=>(∃r K' S',w=.tuple #[u32 r,iv 0]/\cT kp K' S' ord ag [] C'/\sL K S K' S' (ite S ⟨v,lo,hi⟩) r)\/
   (∃r,w=.tuple #[u32 0,iv 8]/\C'=C/\live K.N r/\2<=r/\K.hold r=65535/\S r=ite S ⟨v,lo,hi⟩)\/
   (w=.tuple #[u32 0,iv 9]/\C'=C/\K.cap<=K.used/\lo≠hi/\K.T ⟨v,lo,hi⟩=none)))))->J9 [W3] H11)->
   ∀r,live K.N r->S r=ite S ⟨v,lo,hi⟩->J9 [u32 r] C:=λJ9 QC r hr hS=>by
  refine QC _ _ λgs=>?_;by_cases hf:2<=r/\K.hold r=65535
  ·exact aa.eq (KL h hr hf.1 hf.2) (ae.ic (Br.T (aQ.here (.inr (.inl ⟨r,rfl,rfl,hr,hf.1,hf.2,hS⟩)))))
  refine aa.fq (zq h hr (λh2=>by have:=h.nJ r;omega)) ?_;rintro w C' ⟨rfl,K',jT,hm⟩;refine ae.ic (Br.F (aQ.here (.inl ⟨r,K',S,rfl,jT,⟨hm.n,hm.cap,by rw[hm.used];omega,λs d hs=>by rw[hm.N];exact hs,λ_ _=>rfl,by rw[hm.N];exact hr,hS,hm.hold⟩⟩)))
 by_cases he:lo=hi
 ·rw[xae he]at hw;subst hw;refine Ext.two λJ9 QC=>(Un.not (Br.no (JE.mk (there J9 QC lo hlo ?_))))
  funext z
  unfold aC.ite;simp[he]
 rw[xac he]at hw;have lj:lv ag v<dep K.n (lv ag) K.N lo/\lv ag v<dep K.n (lv ag) K.N hi:=by
  rcases hlt with e|e
  ·exact absurd e he
  exact e
 obtain⟨o,ho⟩:∃o,o=K.T ⟨v,lo,hi⟩:=⟨_,rfl⟩;cases o with
 |some r=>
  have hT:K.T ⟨v,lo,hi⟩=some r:=ho.symm;rw[hT]at hw;subst hw;refine Ext.two λJ9 QC=>?_;have hN:=((h.ok.mid.jy _ r).1 hT).1;refine Un.not (Br.no (JE.mk (there J9 QC r (.inr ⟨_,hN⟩) ?_)))
  funext z
  rw[h.ok.mid.int.node hN];rfl
 |none=>
  have hT:K.T ⟨v,lo,hi⟩=none:=ho.symm;rw[hT]at hw;subst hw;refine Ext.two λJ9 QC=>(Un.not (Br.yes (Nil.ptr (af.mk ?_))));have hcap:=h.ok.mid.cap;refine aa.eq (Bz h.rep (m:=1) zO zO) (Un.not ?_);by_cases hroom:K.used+1<=K.cap;rotate_left
  ·rw[xap hroom];exact Br.yes (aQ.here (.inr (.inr ⟨rfl,rfl,by omega,he,hT⟩)))
  rw[xau hroom];refine Br.no (Nil.ptr (af.mk (Build.mk (cs:=bH ⟨v,lo,hi⟩) zK ?_)));have hfit:∀{t:Nat},live K.N t->t<2\/t<K.us.length:=λht'=>by
   rcases ht' with ht'|⟨d,dG⟩
   ·exact .inl ht'
   exact .inr (h.ok.mid.fit dG)
  have Ew:K.n<=64:=by obtain⟨_,_,hO⟩:=h.rep;exact hO.sU
  refine aa.fq (Ig h.rep (d:=⟨v,lo,hi⟩) ⟨by show v<64;omega,hlo,hhi⟩ hv hT zO (hfit hlo) (hfit hhi) (λs=>by have:=h.NX s;omega)) ?_;rintro w C1 ⟨r,di,cq,rfl,hN,h2,hrc,hlen,hru,PS,u0,u1,u2,o0,o1,kB⟩;have Li:=h.ok.mid.lay (r:=r) (d:=⟨v,lo,hi⟩) hN ⟨h2,hrc⟩ hv he hlo hhi hT (λh=>h) rfl zO hlen ⟨hru,PS⟩ u0 u1 o0 o1;have aft:∀s d,K.N s=some d->up K.N r (some ⟨v,lo,hi⟩) s=some d:=λs d hs=>by rw[aP (λe=>by rw[e,hN]at hs;cases hs)];exact hs
  have hne:∀{t:Nat},live K.N t->t≠r:=λht=>fy ht h2 hN;have Qc:Idle {K with N:=up K.N r (some ⟨v,lo,hi⟩),T:=pB K.T ⟨v,lo,hi⟩ (some r),used:=K.used+1,us:=di,ho:=cq}:=λs hs=>by
   have hs':up K.N r (some ⟨v,lo,hi⟩) s=none:=hs;have PV:s≠r:=λe=>by subst e;rw[aL]at hs';cases hs'
   rw[aP PV]at hs';show di.getD s 0=0;by_cases Zv:2<=s
   ·rw[u1 s Zv PV,h.idle s hs',dR];have a1:lo≠s:=λe=>by
     rcases hlo with h5|⟨d,h5⟩
     ·omega
     rw[e,hs']at h5;cases h5
    have a2:hi≠s:=λe=>by
     rcases hhi with h5|⟨d,h5⟩
     ·omega
     rw[e,hs']at h5;cases h5
    simp[a1,a2]
   rw[u2 s zO,h.idle s hs']
  refine JE.mk (QC _ _ λgs=>?_);refine aa.fq (BF kB Li Qc (r:=r) (.inr ⟨_,aL⟩) (λ_=>by show cq.getD r 0<65535;rw[o0];omega)) ?_;rintro w C2 ⟨rfl,K2,gz,NH,Ey,hm,hu,hp⟩;refine ae.ic (Br.F ?_);have P1:K2.n=K.n:=hm.n;have hN2:K2.N=up K.N r (some ⟨v,lo,hi⟩):=hm.N;have hpos:Pos K2:=λs d hs=>by
   by_cases e:s=r
   ·rw[e];exact hp h2
   rw[hN2,aP e]at hs;have h3:=hu s;have h4:({K with N:=up K.N r (some ⟨v,lo,hi⟩),T:=pB K.T ⟨v,lo,hi⟩ (some r),used:=K.used+1,us:=di,ho:=cq}:Kd).use s=di.getD s 0:=rfl;rw[h4,u1 s (h.ok.mid.two hs).1 e]at h3;have:=h.ok.pos s d hs;omega
  have EB:∀{t:Nat},live K.N t->dep K2.n (lv ag) K2.N t=dep K.n (lv ag) K.N t:=λ{t} ht=>by
   rw[hN2,P1];unfold dep;rw[aP (hne ht)]
  have aed:WF K2.n (lv ag) K2.N:=NH.wf λ{s d} hs=>by
   rw[hN2]at hs;by_cases e:s=r
   ·rw[e,aL]at hs;cases hs;rw[EB hlo,EB hhi];exact lj
   rw[aP e]at hs;rw[EB (h.ok.wf.lo hs).1,EB (h.ok.wf.hi hs).1];exact⟨(h.ok.wf.lo hs).2,(h.ok.wf.hi hs).2⟩
  have hS:∀s,live K.N s->up S r (ite S ⟨v,lo,hi⟩) s=S s:=λs hs=>aP (hne hs);refine aQ.here (.inl ⟨r,K2,up S r (ite S ⟨v,lo,hi⟩),rfl,⟨gz,⟨NH,hpos,by rw[P1];exact h.ok.lv,aed⟩,by rw[P1];exact h.od,Ey,trivial⟩,⟨P1,hm.cap,by rw[hm.used];exact xal _,λs d hs=>by rw[hN2];exact aft s d hs,hS,.inr ⟨_,by rw[hN2];exact aL⟩,aL,λs=>?_⟩⟩);rw[hm.hold];show(if s=r/\2<=r then cq.getD s 0+1 else cq.getD s 0)=_;by_cases e:s=r
  ·subst e;rw[xae ⟨rfl,h2⟩,xae ⟨rfl,h2⟩,o0];have:K.hold s=0:=by
    apply xdH;intro hne;obtain⟨d,hd⟩:=h.ok.mid.held s hne;rw[hN]at hd;cases hd
   omega
  rw[xac (λh=>e h.1),xac (λh=>e h.1),o1 s e]
end
theorem hnew{H:Hp}:br [] H (λX=>X++H):=br.left
theorem PO{n:Nat}(hn:n<=64):Fc zQ 91 #[iv (n:Int)] [] (λv H=>aR 3 .i64 v (iw (List.range n)) H):=by
 refine aK λg=>Md (df.ints zO zO λb=>?_);have h0:aR 3 .i64 (.slice (some ⟨b,0,none⟩) n n) (List.replicate n 0) [(b,.cells (aA .i64 (List.replicate n 0)) 3 zZ)]:=by
  have:=aR.made (T:=3) (kd:=.i64) (b:=b) (List.replicate n (0:Int));rw[xbD]at this;exact this
 refine⟨λvs H=>∃j:Nat,vs=[iv (j:Int)]/\j<=n/\aR 3 .i64 (.slice (some ⟨b,0,none⟩) n n) (iw (List.range j)++List.replicate (n-j) 0) H,λvs _=>n-bA vs 0,JE.mk ⟨0,rfl,by omega,by simpa[iw]using h0⟩,?_⟩;rintro w H ⟨j,hw,hj,hs⟩ gs;simp only[xaz,xbb]at hw;subst hw;refine ae.cX (Br.dec (λhlt=>?_) (λhlt=>?_))
 ·refine hs.mF (x:=(j:Int)) .here zP λC' hs'=>?_;refine ae.inc ?_;have e:(iw (List.range j)++List.replicate (n-j) 0).set j (j:Int)=iw (List.range (j+1))++List.replicate (n-(j+1)) 0:=by
   rw[xcG _ _ zI];rw[show n-j=(n-(j+1))+1 by omega,xdn,xcR,cj];simp[iw]
  rw[e]at hs';exact az.of (.refl _) ⟨j+1,rfl,by omega,hs'⟩ (by show n-(((j+1:Nat):Int).toNat)<n-(((j:Nat):Int).toNat);omega)
 obtain rfl:j=n:=by omega
 exact aQ.here (by simpa using hs)
theorem BJ{n:Nat}(hn:n<=64):Fc zQ 42 #[iv (n:Int)] [] (λv H=>∃s,v=.tuple #[s,iv 0]/\aR 3 .i64 s (iw (List.range n)) H):=by
 refine aK λg=>ML (ae.lss ?_);rw[xap zO];refine cz.or false (λ_=>ae.gtr ⟨rfl,by rw[xap zO]⟩) rfl λ_=>Br.no ?_;refine aa.fq (PO hn) ?_;intro s H hs;exact aQ.here ⟨s,rfl,hs⟩
def K0(n cap:Nat):Kd:=⟨n,cap,2,λ_=>none,λ_=>none,[],[]⟩
def S0:Nat->aC.Fn:=λr _=>decide (r=1)
theorem mL{n v:Nat}(hv:v<n):lv (List.range n) v=v:=by
 show(List.range n).getD v 0=v;simp[List.getD,hv]
theorem acy{n cap:Nat}(hc:2<=cap/\cap<=1048576):Ok (K0 n cap) S0 (lv (List.range n)):=by
 have c0:∀k,me (λ_=>none) k=0:=λk=>by induction k with|zero=>rfl|succ k ih=>rw[me,ih];rfl
 have hm:jw (K0 n cap) S0 iu zero':={
  two:=λh=>nomatch h
  var:=λh=>nomatch h
  ne:=λh=>nomatch h
  lo:=λh=>nomatch h
  hi:=λh=>nomatch h
  int:=⟨λ_=>rfl,λ_=>rfl,λh=>nomatch h⟩
  jy:=λd r=>⟨λh=>(nomatch h),λh=>nomatch h.1⟩
  use:=λh=>nomatch h
  len:=rfl
  fit:=λh=>nomatch h
  held:=λr h=>absurd (by simp[Kd.hold,K0]) h
  mx:=λr=>by simp[Kd.hold,K0]
  room:=by show 2=2+me (λ_=>none) _;rw[c0]
  cap:=hc}
 refine⟨hm,λr d h=>(nomatch h),⟨λv hv=>?_,λu v hu hv h=>?_⟩,⟨λh=>(nomatch h),λh=>(nomatch h),λh=>(nomatch h),λh=>(nomatch h),λh=>(nomatch h),λh=>(nomatch h)⟩⟩
 ·have n4:v<n:=hv;rw[mL n4];exact hv
 have sW:u<n:=hu;have n4:v<n:=hv;rwa [mL sW,mL n4]at h
theorem Bm{pt n cap:Nat}{CT:Hp}(hu:nk pt n (λ_=>none) CT)(hc:2<=cap/\cap<=1048576):Fc zQ 44 #[iv (cap:Int),ptr pt] CT (λv H=>∃pa CA,v=.tuple #[.agg #[ptr pa,ptr pt,.slice none 0 0,.slice none 0 0],iv 0]/\gZ pa cap 2 (λ_=>none) CA/\H=CA++CT):=by
 refine aK λg=>MJ λb1 _=>?_;refine aa.fn hnew (Vr hc) ?_;rintro v C ⟨pa,rfl,hA⟩;refine Ext.two (Build.mk (cs:=[ptr pa,ptr pt,.slice none 0 0,.slice none 0 0]) zK (St.q ?_));refine ax.q ?_;exact aQ.mk (.cL .tail _) ⟨pa,C,rfl,hA,rfl⟩
theorem Xq{n cap:Nat}(hn:1<=n/\n<=64)(hc:2<=cap/\cap<=1048576):Fc zQ 23 #[iv (n:Int),iv (cap:Int)] [] (λv C=>∃kp,v=.tuple #[ptr kp,iv 0]/\cT kp (K0 n cap) S0 (List.range n) (List.range n) [] C):=by
 refine aK λg=>M3 (aa.fq (BJ hn.2) ?_);rintro v CO ⟨s,rfl,hO⟩;obtain⟨sa,sl,sc,hse⟩:∃a l c,s=Value.slice a l c:=by obtain⟨a,c,h⟩:=aM.len hO;exact⟨a,_,c,h⟩
 refine Ext.two (ae.ic (cz.or false (λ_=>ae.lss ⟨rfl,by rw[xap zO]⟩) rfl λgs=>?_));refine cz.or false (λ_=>ae.lss ⟨rfl,by rw[xap zO]⟩) rfl λgs=>?_;refine cz.or false (λ_=>ae.gtr ⟨rfl,by rw[xap zO]⟩) rfl λgs=>Br.no ?_;refine aa.fn hnew (S7 hn) ?_;rintro v CT ⟨pt,rfl,hT⟩;refine Ext.two (ae.ic (Br.no (aa.fq (Bm hT hc) ?_)));rintro v H ⟨pa,CA,rfl,hA,rfl⟩;refine Ext.two λb24 _=>(St.q ?_);refine ae.ic (Br.no (DR.self (ax.q ?_)));refine aa.fq (vk (hO.ints.mono λ_ h=>h) zP) ?_;rintro v H ⟨CL,rfl,hL⟩;obtain⟨la,ll,lc,hle⟩:∃a l c,v=Value.slice a l c:=by obtain⟨a,c,h⟩:=aM.len hL;exact⟨a,_,c,h⟩
 refine⟨(.cons (.cL .right _)),?_⟩;subst hse hle;refine Build.mk (cs:=[ptr pa,ptr pt,.slice none 0 0,.slice none 0 0,iv (n:Int),.slice sa sl sc,.slice la ll lc,.slice none 0 0]) zK λWM _=>?_;refine⟨(.skip (.cons (.cL .right _))),?_⟩
 let kb:wD:=⟨pa,pt,.slice none 0 0,.slice none 0 0,.slice sa sl sc,.slice la ll lc,.slice none 0 0,CA,CT,[],[],CO,CL,[]⟩
 refine aQ.mk (gY:=kb.hp WM n) ?_ ⟨WM,rfl,⟨kb,rfl,⟨hA,hT,aR.nil,aR.nil,hO,hL,aR.nil,⟨rfl,by simp[K0]⟩,hn.2,by simp[K0]⟩⟩,acy hc,⟨by simp[K0],λl hl=>?_⟩,λs _=>by simp[Kd.use,K0],trivial⟩
 ·refine .cons (.skip ((aF.assoc).trans ?_));show aF (CA++(CT++(CL++CO))) (CA++(CT++([]++([]++(CO++(CL++[]))))));simp only[xa6,xaH];exact .cL (.cL (.perm xa0) _) _
 have hl':l<n:=hl;have e:(List.range n).getD l 0=l:=mL hl';rw[e];exact⟨hl,mL hl'⟩
end
end Go.Proofs
namespace aC
def aJ(ord path:zL):zL:=path.foldl fT ord
theorem iL{ord path:zL}{l:Nat}:aJ ord (path++[l])=fT (aJ ord path) l:=by simp[aJ]
theorem jY{ord path q:zL}:aJ ord (path++q)=aJ (aJ ord path) q:=by simp[aJ]
theorem e7{ord:zL}:∀{path:zL},(aJ ord path).length=ord.length:=by
 intro path;unfold aJ;induction path generalizing ord with
 |nil=>rfl
 |cons l r ih=>rw[xcN,ih];simp[fT]
structure Rm where
 n:Nat
 size:zL->Nat
 fit:zL->Nat->Bool
def Rm.goes(m:Rm)(p:Nat):zL->zL->zL
 | [],_=>[]
 |c::cs,ord=>if m.fit ord (p+c)then(p+c)::m.goes p cs (fT ord (p+c))else []
theorem Rm.uW(m:Rm)(p:Nat):∀cs ord,(m.goes p cs ord).length<=cs.length
 | [],_=>by simp[goes]
 |c::cs,ord=>by
  rw[goes];split
  ·have:=m.uW p cs (fT ord (p+c));simp only[xak];omega
  simp
theorem Rm.BY(m:Rm)(p:Nat):∀cs ord i,i<(m.goes p cs ord).length->(m.goes p cs ord)[i]? =(cs[i]?).map (p+ ·)/\∃c,cs[i]? =some c/\m.fit (aJ ord ((m.goes p cs ord).take i)) (p+c)=true
 | [],_,i,h=>by simp[goes]at h
 |c::cs,ord,i,h=>by
  by_cases hf:m.fit ord (p+c)=true
  ·rw[goes,xae hf]at h⊢;cases i with
   |zero=>exact⟨by simp,c,rfl,hf⟩
   |succ i=>
    obtain⟨h1,c',h2,h3⟩:=m.BY p cs (fT ord (p+c)) i (by simpa using h);exact⟨by simpa using h1,c',by simpa using h2,by simpa[aJ]using h3⟩
  rw[goes,xac hf]at h;simp at h
theorem Rm.BZ(m:Rm)(p:Nat):∀cs ord c,cs[(m.goes p cs ord).length]? =some c->m.fit (aJ ord (m.goes p cs ord)) (p+c)=false
 | [],_,c,h=>by simp at h
 |c'::cs,ord,c,h=>by
  by_cases hf:m.fit ord (p+c')=true
  ·rw[goes,xae hf]at h⊢;have:=m.BZ p cs (fT ord (p+c')) c (by simpa using h);simpa[aJ]using this
  rw[goes,xac hf]at h⊢;simp only[xa3,xch,xas]at h;subst h;simpa[aJ]using hf
end aC
set_option maxRecDepth 100000
namespace Go.Proofs
open Go Go.Sx Tryz
open aC
def At(kp:Nat)(K:Kd)(S:Nat->aC.Fn)(ord tr:zL)(C:Hp):Prop:=∃K' S' fG,cT kp K' S' ord fG tr C/\Kept K S K' S'
noncomputable def ff(K:Kd)(S:Nat->aC.Fn)(ord:zL):Nat:=sz K.n ord (K.held S)
def kg(K:Kd)(S:Nat->aC.Fn)(ord:zL)(l:Nat):Prop:=Di K.n ord l (K.held S)+2<=K.cap
section
variable {kp:Nat} {K:Kd} {S:Nat->aC.Fn} {ord tr:zL} {C:Hp}
theorem cT.at'{ag:zL}(h:cT kp K S ord ag tr C):At kp K S ord tr C:=⟨K,S,ag,h,.refl _ _⟩
theorem By{ag:zL}(h:cT kp K S ord ag tr C):K.used=ff K S ord+2:=by
 have h1:=AR (h.ok.size h.od);have h2:=h.ok.mid.room;unfold ff;omega
theorem BE{K':Kd}{S':Nat->aC.Fn}(h:Kept K S K' S')(ord:zL):ff K' S' ord=ff K S ord:=by
 unfold ff;rw[h.n];exact Oi h.held
theorem xU{K':Kd}{S':Nat->aC.Fn}(h:Kept K S K' S')(ord:zL)(l:Nat):kg K' S' ord l↔kg K S ord l:=by
 unfold kg;rw[h.n,h.cap,JL h.held]
theorem At.len(h:At kp K S ord tr C):ord.length=K.n:=by
 obtain⟨K',S',fG,h,hk⟩:=h;rw[<-hk.n];exact h.od.len
theorem vC(h:At kp K S ord tr C):ff K S ord<=1048574:=by
 obtain⟨K',S',fG,h,hk⟩:=h;rw[<-BE hk];have:=By h;have:=h.ok.mid.cap;omega
theorem At.sU(h:At kp K S ord tr C):K.n<=64:=by
 obtain⟨K',S',fG,h,hk⟩:=h;obtain⟨b,_,hO⟩:=h.rep;rw[<-hk.n];exact hO.sU
theorem jL(h:At kp K S ord tr C):Rd zQ 107 #[ptr kp] C (· =iv ((ff K S ord:Nat):Int)):=by
 obtain⟨K',S',fG,h,hk⟩:=h;have hs:=By h;have hc:=h.ok.mid.cap;refine(Ub h.rep zO zO).mono ?_;rintro v H ⟨rfl,rfl⟩;exact⟨rfl,by rw[hs,BE hk];rfl⟩
theorem vB(h:At kp K S ord tr C):Rd zQ 222 #[ptr kp] C (· =iv ((tr.length:Nat):Int)):=by
 obtain⟨K',S',fG,h,hk⟩:=h;exact KI h.rep
theorem nU(h:At kp K S ord tr C):Rd zQ 71 #[ptr kp] C (· =iv ((K.n:Nat):Int)):=by
 obtain⟨K',S',fG,h,hk⟩:=h;rw[<-hk.n];exact mO h.rep
theorem RT(h:At kp K S ord tr C):Fc zQ 108 #[ptr kp] C (λr H=>∃N,H=N++C/\aR 3 .i64 r (iw ord) N):=by
 obtain⟨K',S',fG,h,hk⟩:=h;exact xP h.rep
theorem Jl(h:At kp K S ord tr C){l:Nat}(hl:l+1<K.n)(iy:tr.length<17592186044416)(hf:kg K S ord l):Fc zQ 111 #[ptr kp,iv (l:Int)] C (λr C'=>r=iv 0/\At kp K S (fT ord l) (tr++[l]) C'):=by
 obtain⟨K',S',fG,h,hk⟩:=h;refine(I7 h (by rw[hk.n];exact hl) iy).mono ?_;rintro v C' (⟨_,rfl,K2,S2,Xu,h2,s9⟩|⟨hno,_,_⟩)
 ·exact⟨rfl,K2,S2,Xu,h2,hk.trans s9⟩
 have:=(xU hk ord l).2 hf;unfold kg at this;omega
theorem vD(h:At kp K S ord tr C){l:Nat}(hl:l+1<K.n)(iy:tr.length<17592186044416)(hf:¬kg K S ord l):Rd zQ 111 #[ptr kp,iv (l:Int)] C (· =iv 9):=by
 obtain⟨K',S',fG,h,hk⟩:=h;refine(I7 h (by rw[hk.n];exact hl) iy).mono ?_;rintro v C' (⟨aea,_⟩|⟨hno,rfl,rfl⟩)
 ·exact absurd ((xU hk ord l).1 aea) hf
 exact⟨rfl,rfl⟩
theorem Ap{l:Nat}(h:At kp K S ord (tr++[l]) C)(iy:tr.length<17592186044416):Fc zQ 285 #[ptr kp] C (λr C'=>r=.tuple #[iv (l:Int),iv 0]/\At kp K S (fT ord l) tr C'):=by
 obtain⟨K',S',fG,h,hk⟩:=h;refine(S8 h iy).mono ?_;rintro v C' ⟨rfl,_,K2,S2,Xu,h2,s9⟩;exact⟨rfl,K2,S2,Xu,h2,hk.trans s9⟩
theorem Vk{path:zL}(h:At kp K S (aJ ord path) (tr++path) C)(hp:∀l∈path,l+1<K.n){k:Nat}(hk:k<=path.length)(iy:(tr++path).length<17592186044416):Fc zQ 257 #[ptr kp,iv ((tr.length+k:Nat):Int)] C (λr C'=>
   r=.tuple #[iv ((path.length-k:Nat):Int),iv 0]/\At kp K S (aJ ord (path.take k)) (tr++path.take k) C'):=by
 have hlen:=h.len;rw[e7]at hlen;rw[xaf]at iy;refine aK λg=>FW (ae.aG (Br.no ?_));intro J2 IY;refine ae.lss ?_;rw[xap zO];refine Split.go rfl (aa.eq (vB h) (ae.gtr ?_));rw[xap (by rw[xaf];omega)];refine aI.mk (JE.mk (IY _ _ λgs=>Br.no ?_));refine⟨λvs H=>∃m,m<=path.length/\k<=m/\vs=[iv ((path.length-m:Nat):Int)]/\At kp K S (aJ ord (path.take m)) (tr++path.take m) H,λvs _=>path.length-bA vs 0,JE.mk ⟨path.length,xal _,hk,by simp,by simpa using h⟩,?_⟩;rintro w H ⟨m,hm,hkm,hw,AG⟩ gs;simp only[xaz,xbb]at hw;subst hw;refine aa.eq (vB AG) (ae.gW (Br.dec (λhlt=>?_) (λhlt=>?_)))
 ·rw[xaf,xbA]at hlt;obtain⟨m,rfl⟩:∃m',m=m'+1:=⟨m-1,by omega⟩;have e:path.take (m+1)=path.take m++[path[m]]:=by rw[xbv,xab zO];rfl
  rw[e,<-xai,iL]at AG;refine aa.fq (Ap AG zP) ?_;rintro v C' ⟨rfl,h'⟩;rw[pK (by rw[e7,hlen];exact hp _ (xaF _))]at h';refine ae.inc (az.of (.refl _) ⟨m,by omega,by omega,by rw[show path.length-(m+1)+1=path.length-m by omega],h'⟩ ?_);show path.length-(((path.length-(m+1)+1:Nat):Int).toNat)<path.length-(((path.length-(m+1):Nat):Int).toNat);omega
 rw[xaf,xbA]at hlt;obtain rfl:m=k:=by omega
 exact aQ.here ⟨rfl,AG⟩
end
end Go.Proofs
namespace Go.Sx
open Go
section
variable {P:Program} {g:Gh} {H:Hp}
theorem fo.nat{len size b o j:Nat}{kd:IntKind}{k:zV->Prop}(h1:j<len)(h:k (.pointer (some ⟨b,o+j*size,none⟩))):fo len size (.pointer (some ⟨b,o,none⟩)) (.int kd (j:Int)) k:=
 ⟨b,o,kd,(j:Int),rfl,rfl,by omega,by omega,by simpa using h⟩
theorem aZ.aci{o:Oper}{ρ:Operand->zV}{k:zV->Prop}{t e:TypeId}{q kd:IntKind}{n j:Nat}{x i:Operand}{l:List Int}{z:Int}(ho:o.op=.index t x i)(hx:ρ x=.agg (aA q l))(hi:ρ i=.int kd (j:Int))
 (ht:P.underlying t=some (.array n e))(hu:P.underlying e=some (.int q))(hz:cA P e=some 1)(hj:j<n)(hl:l[j]? =some z)(hk:k (.int q z)):aZ P g o ρ H k:=by
 obtain⟨inf,KZ,hs⟩:=aU hz;refine⟨_,λw _=>?_,hk⟩;have hp:=pQ (P:=P) hu hl w;have Qn:(0:Int)<=(j:Int)/\(j:Int)<(n:Int):=by omega
 simp only[execOp,ho,Instr.index,hx,hi,asIntOf,Sem.run_bind,Sem.run_pure,Result.andThen_ok,run_underlying ht,run_sizeOf KZ,hs,xae Qn,xbI,xcc,hp]
end
end Go.Sx
namespace aC
open ak
def clr(m v:Nat):Nat:=if m.testBit v then m^^^2^v else m
def rest(m:Nat)(ord:zL):Nat->Nat
 |0=>m
 |k+1=>clr (rest m ord k) (ord.getD k 0)
section
variable {n m o:Nat} {ord:zL} {F:Fn->Prop}
theorem getD_inj(hn:ord.Nodup){i j:Nat}(hi:i<ord.length)(hj:j<ord.length)(e:ord.getD i 0=ord.getD j 0):i=j:=by
 rw[xan,xan,xab hi,xab hj]at e;exact(List.getElem_inj hn).1 e
theorem Om{l:Nat}(hl:l+1<ord.length):(fT ord l).Perm ord:=by
 unfold fT;have e1:ord=ord.take l++ord.getD l 0::ord.getD (l+1) 0::ord.drop (l+2):=by
  conv=>lhs;rw[<-xbo l ord]
  congr 1;rw[xaV zO,xaV zO];simp[List.getD,xab (show l<ord.length by omega),xab hl]
 have ht:(ord.take l).length=l:=by simp;omega
 have e2:(ord.set l (ord.getD (l+1) 0)).set (l+1) (ord.getD l 0)=ord.take l++ord.getD (l+1) 0::ord.getD l 0::ord.drop (l+2):=by
  generalize hx:ord.getD l 0=x at*;generalize hy:ord.getD (l+1) 0=y at*
  conv=>lhs;rw[e1]
  rw[xcG _ _ zO,ht,xcC,xcE,xcG _ _ zO,ht,Nat.add_sub_cancel_left,xel,xcE]
 rw[e2]
 conv=>rhs;rw[e1]
 exact xcn _ (List.Perm.swap _ _ _)
theorem jX:∀{path:zL} {ord:zL},(∀l∈path,l+1<ord.length)->(aJ ord path).Perm ord
 | [],_,_=>.refl _
 |l::r,ord,h=>by
  show(aJ (fT ord l) r).Perm ord;have h1:=h l zI;exact(jX λx hx=>by rw[kS];exact h x (by simp[hx])).trans (Om h1)
end
def flat(n s:Nat):Rm:=⟨n,λ_=>s,λ_ _=>true⟩
end aC
namespace aC
def EV(i:Nat):Nat->zL
 |0=>[]
 |j+1=>if i<=j then j::EV i j else []
theorem An{i j:Nat}(h:j<=i):EV i j=[]:=by
 cases j with
 |zero=>rfl
 |succ j=>rw[EV,xac zO]
theorem qu{i j:Nat}(h:i<=j):EV i (j+1)=j::EV i j:=by rw[EV,xae h]
theorem Je{i l:Nat}:∀{j},l∈EV i j->i<=l/\l<j
 |0,h=>by simp[EV]at h
 |j+1,h=>by
  by_cases e:i<=j
  ·rw[qu e]at h;rcases xag.1 h with rfl|h
   ·omega
   have:=Je h;omega
  rw[An zO]at h;simp at h
theorem Am(i:Nat):∀j,(EV i j).length=j-i
 |0=>by simp[EV]
 |j+1=>by
  by_cases e:i<=j
  ·rw[qu e,xak,Am i j];omega
  rw[An zO];simp;omega
theorem Jf{i k:Nat}:∀{j:Nat} {a:zL},i<=j->j<a.length->(k<=i->(aJ a (EV i j)).getD k 0=if k=i then a.getD j 0 else a.getD k 0)
 |0,a,hi,hj,hk=>by
  obtain rfl:i=0:=by omega
  obtain rfl:k=0:=by omega
  simp[EV,aJ]
 |j+1,a,hi,hj,hk=>by
  by_cases e:i<=j
  ·rw[qu e];show(aJ (fT a j) (EV i j)).getD k 0=_;rw[Jf (j:=j) e (by rw[kS];omega) hk,eL zO,eL zO];by_cases h:k=i
   ·subst h;simp
   rw[xac h,xac h,xac zO,xac zO]
  obtain rfl:i=j+1:=by omega
  rw[An (xal _)];show a.getD k 0=_;split
  ·rename_i h;rw[h]
  rfl
def YX(p:zL)(x:Nat):Nat:=p.idxOf x
def dN(p q:zL):Nat->zL
 |0=>[]
 |i+1=>dN p q i++EV i (YX (aJ p (dN p q i)) (q.getD i 0))
def path(p q:zL):zL:=dN p q q.length
theorem O1{p:zL}{x:Nat}(h:x∈p):YX p x<p.length:=List.idxOf_lt_length_iff.2 h
theorem Iv{p:zL}{x:Nat}(h:x∈p):p.getD (YX p x) 0=x:=by
 have h1:=O1 h;rw[xan,xab h1];show p[p.idxOf x]=x;exact List.getElem_idxOf h1
section
variable {p q:zL}
theorem ja(hq:q.Nodup)(hp:p.Perm q):∀i,i<=q.length->(∀l∈dN p q i,l+1<p.length)/\(∀k,k<i->(aJ p (dN p q i)).getD k 0=q.getD k 0)/\(i<q.length->i<=YX (aJ p (dN p q i)) (q.getD i 0)/\YX (aJ p (dN p q i)) (q.getD i 0)<p.length)
 |i,hi=>by
  have hlen:=hp.length_eq;have base:(∀l∈dN p q i,l+1<p.length)/\(∀k,k<i->(aJ p (dN p q i)).getD k 0=q.getD k 0):=by
   cases i with
   |zero=>exact⟨λl hl=>by simp[dN]at hl,λk hk=>absurd hk (xc8 _)⟩
   |succ i=>
    obtain⟨h1,h2,h3⟩:=ja hq hp i zO;obtain⟨h4,h5⟩:=h3 zO;have hm:q.getD i 0∈aJ p (dN p q i):=by
     have:q.getD i 0∈q:=by rw[xan,xab (show i<q.length by omega)];exact xaF _
     exact((jX h1).trans hp).mem_iff.2 this
    refine⟨λl hl=>?_,λk hk=>?_⟩
    ·rcases xaq.1 hl with hl|hl
     ·exact h1 l hl
     have:=Je hl;omega
    rw[dN,jY,Jf h4 (by rw[e7];exact h5) zO];split
    ·rename_i e;subst e;exact Iv hm
    exact h2 k zO
  refine⟨base.1,base.2,λhlt=>?_⟩;have hm:q.getD i 0∈aJ p (dN p q i):=by
   have:q.getD i 0∈q:=by rw[xan,xab hlt];exact xaF _
   exact((jX base.1).trans hp).mem_iff.2 this
  have h5:=O1 hm;rw[e7]at h5;refine⟨?_,h5⟩;refine xaY λs7=>?_;have:=base.2 _ (Nat.lt_of_not_le s7);rw[Iv hm]at this;have:=getD_inj hq hlt zO this;omega
theorem zf(hq:q.Nodup)(hp:p.Perm q):aJ p (path p q)=q/\∀l∈path p q,l+1<p.length:=by
 obtain⟨h1,h2,_⟩:=ja hq hp q.length (xal _);refine⟨Cd (by rw[e7];exact hp.length_eq) λi hi=>h2 i ?_,h1⟩;rw[e7,hp.length_eq]at hi;exact hi
theorem q9(hq:q.Nodup)(hp:p.Perm q):∀i,i<=q.length->(dN p q i).length<=i*p.length
 |0,_=>by simp[dN]
 |i+1,hi=>by
  have:=q9 hq hp i zO;obtain⟨_,_,h3⟩:=ja hq hp i zO;rw[dN,xaf,Am,xbz];have:=(h3 zO).2;omega
end
end aC
namespace aC
open ak
section
variable {n l:Nat} {ord:zL} {F G:Fn->Prop} {f c:Fn}
theorem yf:∀l g,fs ord (λg=>F g\/G g) l g↔fs ord F l g\/fs ord G l g
 |0,g=>xdg
 |l+1,g=>by
  constructor
  ·rintro⟨f,hf,b,rfl⟩;rcases(yf l f).1 hf with h|h
   ·exact .inl ⟨f,h,b,rfl⟩
   exact .inr ⟨f,h,b,rfl⟩
  rintro(⟨f,hf,b,rfl⟩|⟨f,hf,b,rfl⟩)
  ·exact⟨f,(yf l f).2 (.inl hf),b,rfl⟩
  exact⟨f,(yf l f).2 (.inr hf),b,rfl⟩
theorem Pe(g:Fn):bc n ord (λg=>F g\/G g) g↔bc n ord F g\/bc n ord G g:=by
 constructor
 ·rintro⟨l,hl,hf,hh⟩;rcases(yf l g).1 hf with h|h
  ·exact .inl ⟨l,hl,h,hh⟩
  exact .inr ⟨l,hl,h,hh⟩
 rintro(⟨l,hl,hf,hh⟩|⟨l,hl,hf,hh⟩)
 ·exact⟨l,hl,(yf l g).2 (.inl hf),hh⟩
 exact⟨l,hl,(yf l g).2 (.inr hf),hh⟩
theorem fc{v:Nat}(h:¬fg f v)(x:Nat)(b:Bool):f (aB x v b)=f x:=by
 have h0:f (aB x v false)=f (aB x v true):=xaY λhne=>h ⟨x,hne⟩;have h1:=iN x v
 conv=>rhs;rw[<-h1]
 cases b<;>cases x.testBit v<;>simp[h0]
theorem Aa(hi:∀j,j<l->¬fg f (ord.getD j 0)):∀k,k<=l->fs ord (λg=>g=f) k f
 |0,_=>rfl
 |k+1,hk=>⟨f,Aa hi k zO,false,funext λx=>(fc (hi k zO) x false).symm⟩
theorem Ab(hi:∀j,j<l->¬fg f (ord.getD j 0)):∀k,k<=l->∀g,fs ord (λg=>g=f) k g->g=f
 |0,_,g,h=>h
 |k+1,hk,g,h=>by
  obtain⟨f',hf,b,rfl⟩:=h;obtain rfl:=Ab hi k zO f' hf;exact funext λx=>fc (hi k zO) x b
theorem xk(hi:∀j,j<l->¬fg f (ord.getD j 0)){b:Bool}(hc:c=λx=>f (aB x (ord.getD l 0) b)):
  (∀j,j<l+1->¬fg c (ord.getD j 0))/\∀g,bc n ord (λg=>g=c) g->bc n ord (λg=>g=f) g:=by
 have h1:fs ord (λg=>g=f) (l+1) c:=⟨f,Aa hi l (xal _),b,hc⟩;have h2:∀j,j<l+1->¬fg c (ord.getD j 0):=λj hj=>qg (l+1) c h1 j hj;refine⟨h2,?_⟩;rintro g ⟨m,hm,hf,hh⟩;by_cases e:m<l+1
 ·obtain rfl:=Ab h2 m zO g hf;exact absurd hh (h2 m e)
 have key:∀d g,fs ord (λg=>g=c) (l+1+d) g->fs ord (λg=>g=f) (l+1+d) g:=λd=>by
  induction d with
  |zero=>intro g hg;obtain rfl:=Ab h2 (l+1) (xal _) g hg;exact h1
  |succ d ih=>rintro g ⟨f',Nz,b',rfl⟩;exact⟨f',ih f' Nz,b',rfl⟩
 obtain⟨d,rfl⟩:∃d,m=l+1+d:=⟨m-(l+1),by omega⟩;exact⟨_,hm,key d g hf,hh⟩
theorem xy(hi:∀j,j<l->¬fg f (ord.getD j 0))(hl:l<n)(hh:fg f (ord.getD l 0)):bc n ord (λg=>g=f) f:=⟨l,hl,Aa hi l (xal _),hh⟩
end
section
variable {K:Kd} {S:Nat->Fn} {ag:Nat->Nat} {ord:zL}
theorem Ok.below(h:Ok K S ag)(ho:Ord K.n ag ord){r l:Nat}(hr:live K.N r)(hl:l<=K.n)(hi:∀j,j<l->¬fg (S r) (ord.getD j 0)):l<=dep K.n ag K.N r:=by
 cases e:K.N r with
 |none=>rw[bj e];exact hl
 |some d=>
  rw[ay e];refine xaY λhlt=>?_;have lj:ag d.v<l:=Nat.lt_of_not_le hlt;have:=hi _ lj;rw[ho.of h.lv (h.mid.var e)]at this;exact this (jc h.wf h.lv h.mid.int e)
theorem Ok.roomFor(h:Ok K S ag)(ho:Ord K.n ag ord){U:Fn->Prop}{k:Nat}(hk:pA U k)(hfit:k+2<=K.cap)(hU:∀g,bc K.n ord (K.held S) g->U g){d:Nd}
 (hlo:live K.N d.lo)(hhi:live K.N d.hi)(hne:d.lo≠d.hi)(hv:d.v<K.n)(hlt:ag d.v<dep K.n ag K.N d.lo/\ag d.v<dep K.n ag K.N d.hi)(hg:U (ite S d))(hT:K.T d=none):K.used<K.cap:=by
 have hs:=h.size ho;have hu:=h.mid.room;obtain⟨l1,a1,a2,a3⟩:=hs;have XR:ite S d∉l1:=λhm=>by
  obtain⟨r,e,hr,he⟩:=(mH h.wf h.lv ho h.mid.int (λr hr=>.inr (h.mid.held r hr)) h.reach (ite S d)).1 ((a3 _).2 hm);have hTd:¬K.N r=some d:=λhN=>by
   have:=(h.mid.jy d r).2 ⟨hN,λx=>x⟩;rw[hT]at this;cases this
  apply hTd;have PV:S r=ite S d:=he.symm;have PR:e.v=d.v:=by
   have e1:=h.lv.lt e.v (h.mid.var hr);have e2:=h.lv.lt d.v hv;rcases xcW (ag e.v) (ag d.v)with hh|hh|hh
   ·exfalso;obtain⟨z,hz⟩:=jc h.wf h.lv h.mid.int hr;rw[PV]at hz;apply hz;unfold ite;have i1:=h.wf.bW h.lv h.mid.int hlo (h.mid.var hr) zO;have i2:=h.wf.bW h.lv h.mid.int hhi (h.mid.var hr) zO;have zJ:d.v≠e.v:=λpD=>by rw[pD]at hh;omega
    simp only[ai,xac zJ,i1,i2]
   ·exact h.lv.inj _ _ (h.mid.var hr) hv hh
   exfalso;have hx:=h.wf.bW h.lv h.mid.int (r:=r) (.inr ⟨e,hr⟩) hv (by rw[ay hr];exact hh);apply hne;refine h.wf.same h.lv h.mid.int hlo hhi λx=>?_;have i1:=h.wf.bW h.lv h.mid.int hlo hv hlt.1;have i2:=h.wf.bW h.lv h.mid.int hhi hv hlt.2;have q1:=hx x false;have q2:=hx x true;rw[PV]at q1 q2;have q3:=q1.trans q2.symm;unfold ite at q3;simp only[ai,xa7,i1,i2,xaD,xaT]at q3;exact q3
  have lq:∀(b:Bool) x,S (if b then e.hi else e.lo) x=S (if b then d.hi else d.lo) x:=λb x=>by
   rw[<-h.wf.child h.lv h.mid.int hr x b,PV,PR];have i1:=h.wf.bW h.lv h.mid.int hlo hv hlt.1;have i2:=h.wf.bW h.lv h.mid.int hhi hv hlt.2;unfold ite;rw[ai,xae rfl,i1,i2];cases b<;>rfl
  have e1:e.lo=d.lo:=h.wf.same h.lv h.mid.int (h.mid.lo hr) hlo λx=>lq false x;have e2:e.hi=d.hi:=h.wf.same h.lv h.mid.int (h.mid.hi hr) hhi λx=>lq true x;have hed:∀a b:Nd,a.v=b.v->a.lo=b.lo->a.hi=b.hi->a=b:=λa b h1 h2 h3=>by
   cases a;cases b;cases h1;cases h2;cases h3;rfl
  rw[hr,hed e d PR e1 e2]
 obtain⟨l2,b1,b2,b3⟩:=hk;have:=bV (l:=ite S d::l1) (l':=l2) (xaW.2 ⟨XR,a1⟩) λg X1=>by
  rcases xag.1 X1 with rfl|X1
  ·exact(b3 _).1 hg
  exact(b3 _).1 (hU g ((a3 g).2 X1))
 rw[xak]at this;omega
end
end aC
