import Derived.Test.YtpndkbhmngcmfaaGreatDoorO2
import Derived.Sort.AssemblyPlain
import Derived.Test.YtpndkbhmngcmfaaGreatDoorProg
import Derived.RangeFuncIn
import Derived.RangeFuncLeaves
import Derived.RangeFuncRecord
import Derived.RangeFuncSeq
set_option linter.unusedVariables false
set_option linter.unusedSimpArgs false
set_option linter.unusedSectionVars false
namespace aE
open an
def td(K:Kd)(ah:Nat->Nat)(l t:Nat):Prop:=live K.N t/\l+1<dep K.n ah K.N t
def xC(K0 K:Kd)(ah:Nat->Nat)(x l t:Nat):Prop:=td K0 ah l t\/∃e,K.N t=some e/\e.v=x/\td K0 ah l e.lo/\td K0 ah l e.hi
structure TI(K0:Kd)(S0:Nat->Fn)(ah:Nat->Nat)(x y l:Nat)(made:List Nd)(K:Kd)(S:Nat->Fn)(done rest:List Cx)(P:Nat->Nat):Prop where
 mid:jw K S (λs=>∃c∈rest,s=c.r) P
 n:K.n=K0.n
 cap:K.cap=K0.cap
 hold:∀r,K.hold r=K0.hold r
 ext:∀r,live K0.N r->S r=S0 r
 old:∀{r d},K0.N r=some d->r∉done.map Cx.r->K.N r=some d
 kept:∀{r d},K0.N r=some d->∃d',K.N r=some d'
 new:∀{r d},K.N r=some d->(K0.N r=some d/\r∉done.map Cx.r)\/(r∈done.map Cx.r/\d.v=y/\xC K0 K ah x l d.lo/\xC K0 K ah x l d.hi)\/(K0.N r=none/\d.v=x/\td K0 ah l d.lo/\td K0 ah l d.hi)
 used:K.used=K0.used+(made.filter λk=>(K.T k).isSome).length
structure TB(K0:Kd)(S0:Nat->Fn)(ah:Nat->Nat)(x y l:Nat)(all:List Cx)(made:List Nd):Prop where
 ok:Ok K0 S0 ah
 nb:Nb K0.n ah x y l
 cx:Kh K0.N x y all
 mad:Made K0 x all made
 room:K0.used+made.length<=K0.cap
section
variable {K0 K:Kd} {S0 S:Nat->Fn} {ah:Nat->Nat} {x y l:Nat} {made:List Nd} {done rest all:List Cx} {P:Nat->Nat}
theorem TB.nv(b:TB K0 S0 ah x y l all made){c:Cx}(hc:c∈all):K0.N c.r=some c.d/\c.d.v=x/\c=nt K0.N y c.r c.d:=by
 obtain⟨⟨h1,h2,_⟩,h3⟩:=(b.cx.mem c).1 hc;exact⟨h1,h2,h3⟩
theorem TB.Uw(b:TB K0 S0 ah x y l all made){c:Cx}(hc:c∈all):(td K0 ah l c.xz/\td K0 ah l c.s8)/\(td K0 ah l c.xy/\td K0 ah l c.s7):=by
 obtain⟨h1,h2,h3⟩:=b.nv hc;have k1:=kB b.ok.wf b.ok.lv b.ok.mid.int b.nb h1 h2 (k:=⟨x,pl K0.N y c.d.lo,pl K0.N y c.d.hi⟩) xbP;have k2:=kB b.ok.wf b.ok.lv b.ok.mid.int b.nb h1 h2 (k:=⟨x,ph K0.N y c.d.lo,ph K0.N y c.d.hi⟩) (xbz _ xbP);rw[h3];exact⟨⟨k1.2.1,k1.2.2⟩,⟨k2.2.1,k2.2.2⟩⟩
theorem TB.level(b:TB K0 S0 ah x y l all made){c:Cx}(hc:c∈all):dep K0.n ah K0.N c.r=l:=by
 obtain⟨h1,h2,_⟩:=b.nv hc;rw[aB h1,h2,b.nb.lx]
theorem TB.start(b:TB K0 S0 ah x y l all made){T:Nd->Option Nat}(hm:jw {K0 with T:=T} S0 (λs=>∃c∈all,s=c.r) zero')(hT:∀d,T d=none\/T d=K0.T d):
  TI K0 S0 ah x y l made {K0 with T:=T} S0 [] all zero' where
 mid:=hm
 n:=rfl
 cap:=rfl
 hold:=λ_=>rfl
 ext:=λ_ _=>rfl
 old:=λh _=>h
 kept:=λh=>⟨_,h⟩
 new:=λh=>.inl ⟨h,by simp⟩
 used:=by
  have:made.filter (λk=>(T k).isSome)=[]:=by
   rw[xd1];intro k hk;have h1:=((b.mad.mem k).1 hk).2.1;rcases hT k with h2|h2
   ·rw[h2];simp
   rw[h2,h1];simp
  show K0.used=K0.used+(made.filter (λk=>(T k).isSome)).length;rw[this];simp
theorem TI.Uy(b:TB K0 S0 ah x y l all made)(h:TI K0 S0 ah x y l made K S done rest P)(hd:∀c∈done,c∈all){t:Nat}(ht:td K0 ah l t):K.N t=K0.N t:=by
 rcases ht with⟨ht|⟨d,dN⟩,hlt⟩
 ·cases e:K.N t with
  |none=>rw[b.ok.wf.const ht]
  |some d=>have:=(h.mid.two e).1;omega
 ·rw[dN];refine h.old dN λhm=>?_;obtain⟨c,hc,e⟩:=xam.1 hm;have:=b.level (hd c hc);rw[e]at this;omega
theorem TI.qi(b:TB K0 S0 ah x y l all made)(h:TI K0 S0 ah x y l made K S done rest P)(hd:∀c∈done,c∈all){t:Nat}(ht:td K0 ah l t):live K.N t:=by
 have e:=h.Uy b hd ht;rcases ht.1 with ht|⟨d,dN⟩
 ·exact .inl ht
 exact .inr ⟨d,by rw[e];exact dN⟩
theorem TI.qn(b:TB K0 S0 ah x y l all made)(h:TI K0 S0 ah x y l made K S done rest P)(hd:∀c∈done,c∈all){t:Nat}(ht:xC K0 K ah x l t):live K.N t:=by
 rcases ht with ht|⟨e,he,_⟩
 ·exact h.qi b hd ht
 exact .inr ⟨e,he⟩
theorem TI.use(h:TI K0 S0 ah x y l made K S done rest P){r:Nat}{dm:zL}(hl:dm.length=K.us.length)(h1:dm.getD r 0=K.use r+1)(h2:∀s,s≠r->dm.getD s 0=K.use s):
  TI K0 S0 ah x y l made {K with us:=dm} S done rest (up P r (P r+1)) where
 mid:=h.mid.more hl h1 h2
 n:=h.n
 cap:=h.cap
 hold:=h.hold
 ext:=h.ext
 old:=h.old
 kept:=h.kept
 new:=h.new
 used:=h.used
theorem TI.congr(h:TI K0 S0 ah x y l made K S done rest P){P':Nat->Nat}(hP:∀s,2<=s->P s=P' s):TI K0 S0 ah x y l made K S done rest P' where
 mid:=h.mid.congr (λ_=>xc8) hP
 n:=h.n
 cap:=h.cap
 hold:=h.hold
 ext:=h.ext
 old:=h.old
 kept:=h.kept
 new:=h.new
 used:=h.used
theorem filter_lt{α:Type}{p:α->Bool}{k:α}:∀{m:List α},k∈m->p k=false->(m.filter p).length<m.length
 | [],h,_=>by simp at h
 |z::m,h,hp=>by
  rcases xag.1 h with rfl|h
  ·rw[xb4,xac (by simp[hp])];have:=xbW p m;simp;omega
  have:=filter_lt h hp;rw[xb4];split
  ·rw[xal,xal];omega
  rw[xal];omega
theorem TI.fits(b:TB K0 S0 ah x y l all made)(h:TI K0 S0 ah x y l made K S done rest P){k:Nd}(hk:k∈made)(hT:K.T k=none):K.used<K.cap:=by
 have h1:=filter_lt (p:=λk=>(K.T k).isSome) hk (by rw[hT];rfl);have h2:=h.used;have h3:=b.room;have h4:=h.cap;omega
theorem nh{T:Nd->Option Nat}{k:Nd}{r:Nat}:∀{m:List Nd},m.Nodup->T k=none->(m.filter λd=>(pO T k (some r) d).isSome).length=(m.filter λd=>(T d).isSome).length+(if k∈m then 1 else 0)
 | [],_,_=>rfl
 |z::m,hn,hT=>by
  obtain⟨h1,h2⟩:=xaX.1 hn;have ih:=nh (r:=r) h2 hT;rw[xb4,xb4];by_cases e:z=k
  ·subst e;rw[iV,hT];simp only[Option.isSome_some,xa4,xcg,xaE,xaU,xal,ih,xac h1,xag,true_or]
  rw[oU e];have e2:(k∈z::m)↔k∈m:=by rw[xag];exact⟨λh=>h.resolve_left (λh=>e h.symm),.inr⟩
  simp only[e2];split
  ·simp only[xal,ih];omega
  exact ih
theorem TB.zY(b:TB K0 S0 ah x y l all made){t:Nat}(ht:td K0 ah l t){e:Nd}(he:K0.N t=some e):l+1<ah e.v:=by
 have:=ht.2;rwa [aB he]at this
theorem TB.BG(b:TB K0 S0 ah x y l all made){c:Cx}(hc:c∈all)(h1:td K0 ah l c.d.lo)(h2:td K0 ah l c.d.hi):False:=by
 obtain⟨⟨_,_,h3⟩,_⟩:=(b.cx.mem c).1 hc;have hy:=b.nb.ly;rcases h3 with⟨e,he,hv⟩|⟨e,he,hv⟩
 ·have:=b.zY h1 he;rw[hv]at this;omega
 have:=b.zY h2 he;rw[hv]at this;omega
theorem TI.Qp(b:TB K0 S0 ah x y l all made)(h:TI K0 S0 ah x y l made K S done rest P)(hd:∀c∈done,c∈all)(hr:∀c∈rest,c∈all){c:Cx}(hc:c∈all){k:Nd}(hk:k∈keys x c)(hne:k.lo≠k.hi)(h1:td K0 ah l k.lo)(h2:td K0 ah l k.hi)(hT:K.T k=none):k∈made:=by
 refine(b.mad.mem k).2 ⟨⟨c,hc,hk⟩,?_,hne⟩;cases e:K0.T k with
 |none=>rfl
 |some s=>
  have hs:=((b.ok.mid.jD k s).1 e).1;have hno:∀c'∈all,s≠c'.r:=λc' mH e'=>by
   have h3:=(b.nv mH).1;rw[<-e',hs]at h3;cases h3;exact b.BG mH h1 h2
  have hs1:K.N s=some k:=by
   refine h.old hs λhm=>?_;obtain⟨c',mH,e'⟩:=xam.1 hm;exact hno c' (hd c' mH) e'.symm
  have:=(h.mid.jD k s).2 ⟨hs1,by rintro⟨c',mH,e'⟩;exact hno c' (hr c' mH) e'⟩;rw[hT]at this;cases this
theorem TI.lay(b:TB K0 S0 ah x y l all made)(h:TI K0 S0 ah x y l made K S done rest P)(hd:∀c∈done,c∈all)(hr:∀c∈rest,c∈all){c:Cx}(hc:c∈all){k:Nd}(hk:k∈keys x c)(hne:k.lo≠k.hi)(hT:K.T k=none)
 {r:Nat}{dm cB:zL}(hN:K.N r=none)(h2:2<=r/\r<K.cap)(hl:dm.length=cB.length)(hf:r<dm.length/\K.us.length<=dm.length)(u0:dm.getD r 0=0)(u1:∀s,2<=s->s≠r->dm.getD s 0=K.use s+e1 (some k) s)(o0:cB.getD r 0=0)(o1:∀s,s≠r->cB.getD s 0=K.hold s)(hP:P r=0):
  TI K0 S0 ah x y l made {K with N:=up K.N r (some k),T:=pO K.T k (some r),used:=K.used+1,us:=dm,ho:=cB} (up S r (ite S k)) done rest P/\xC K0 {K with N:=up K.N r (some k),T:=pO K.T k (some r),used:=K.used+1,us:=dm,ho:=cB} ah x l r:=by
 have lR:=b.Uw hc;have hkv:k.v=x/\td K0 ah l k.lo/\td K0 ah l k.hi:=by
  simp only[keys,xag,xaw,xa1]at hk;rcases hk with rfl|rfl
  ·exact⟨rfl,lR.1.1,lR.1.2⟩
  exact⟨rfl,lR.2.1,lR.2.2⟩
 have hkN:K0.N r=none:=by
  cases e:K0.N r with
  |none=>rfl
  |some d=>obtain⟨d',dN⟩:=h.kept e;rw[hN]at dN;cases dN
 have hkm:=h.Qp b hd hr hc hk hne hkv.2.1 hkv.2.2 hT;have hE:¬∃c∈rest,r=c.r:=by
  rintro⟨c',mH,rfl⟩;have:=(b.nv (hr c' mH)).1;rw[hkN]at this;cases this
 have ES:∀{t},xC K0 K ah x l t->xC K0 {K with N:=up K.N r (some k),T:=pO K.T k (some r),used:=K.used+1,us:=dm,ho:=cB} ah x l t:=λht=>by
  rcases ht with ht|⟨e,he,h3⟩
  ·exact .inl ht
  refine .inr ⟨e,?_,h3⟩;show up K.N r (some k) _=_;rw[aP (λe2=>by rw[e2,hN]at he;cases he)];exact he
 refine⟨⟨h.mid.lay hN h2 (by rw[hkv.1,h.n];exact b.nb.xn) hne (h.qi b hd hkv.2.1) (h.qi b hd hkv.2.2) hT hE hP (h.fits b hkm hT) hl hf u0 u1 o0 o1,h.n,h.cap,λs=>?_,λs hs=>?_,λ{s d} hs hm=>?_,λ{s d} hs=>?_,λ{s d} hs=>?_,?_⟩,?_⟩
 ·show cB.getD s 0=_;rw[<-h.hold];by_cases e:s=r
  ·subst e;rw[o0];refine(xa2 λhno=>?_);obtain⟨d,dN⟩:=h.mid.held s (λe=>hno e.symm);rw[hN]at dN;cases dN
  exact o1 s e
 ·rw[aP (fC hs h2.1 hkN)];exact h.ext s hs
 ·show up K.N r (some k) s=_;rw[aP (λe=>by rw[e,hkN]at hs;cases hs)];exact h.old hs hm
 ·obtain⟨d',dN⟩:=h.kept hs;exact⟨d',by show up K.N r (some k) s=_;rw[aP (λe=>by rw[e,hkN]at hs;cases hs)];exact dN⟩
 ·have hs':up K.N r (some k) s=some d:=hs;by_cases e:s=r
  ·subst e;rw[aN]at hs';cases hs';exact .inr (.inr ⟨hkN,hkv⟩)
  rw[aP e]at hs';rcases h.new hs' with h1|⟨h1,pF,h3,h4⟩|h1
  ·exact .inl h1
  ·exact .inr (.inl ⟨h1,pF,ES h3,ES h4⟩)
  exact .inr (.inr h1)
 ·show K.used+1=K0.used+(made.filter λd=>(pO K.T k (some r) d).isSome).length;rw[nh b.mad.nd hT,xae hkm,h.used];omega
 exact .inr ⟨k,aN,hkv⟩
theorem TI.found(b:TB K0 S0 ah x y l all made)(h:TI K0 S0 ah x y l made K S done rest P){c:Cx}(hc:c∈all){k:Nd}(hk:k∈keys x c){r:Nat}(hT:K.T k=some r):K.N r=some k/\xC K0 K ah x l r:=by
 have lR:=b.Uw hc;have hN:=((h.mid.jD k r).1 hT).1;simp only[keys,xag,xaw,xa1]at hk;rcases hk with rfl|rfl
 ·exact⟨hN,.inr ⟨_,hN,rfl,lR.1.1,lR.1.2⟩⟩
 exact⟨hN,.inr ⟨_,hN,rfl,lR.2.1,lR.2.2⟩⟩
theorem TI.Wr(b:TB K0 S0 ah x y l all made)(h:TI K0 S0 ah x y l made K S done rest P){a a' t:Nat}(la:td K0 ah l a)(EB:td K0 ah l a')(g:(a=a'/\t=a)\/K.N t=some ⟨x,a,a'⟩)(z:Nat):S t z=ite S0 ⟨x,a,a'⟩ z:=by
 rcases g with⟨rfl,rfl⟩|g
 ·rw[h.ext t la.1];unfold ite;simp
 rw[h.mid.int.node g];unfold ite;simp only;rw[h.ext a la.1,h.ext a' EB.1]
theorem TI.Ux(b:TB K0 S0 ah x y l all made)(h:TI K0 S0 ah x y l made K S done rest P)(hd:∀c∈done,c∈all){a a' t:Nat}(ht:td K0 ah l t)(g:K.N t=some ⟨x,a,a'⟩):False:=by
 rw[h.Uy b hd ht]at g;have:=b.zY ht g;have hx:=b.nb.lx;simp only at this;omega
theorem TI.zj(b:TB K0 S0 ah x y l all made){c:Cx}(h:TI K0 S0 ah x y l made K S done (c::rest) P)(hd:∀c∈done,c∈all)(hr:∀c'∈c::rest,c'∈all)(hn:((done++c::rest).map Cx.r).Nodup){t0 t1:Nat}
 (k0:xC K0 K ah x l t0)(k1:xC K0 K ah x l t1)(g0:(c.xz=c.s8/\t0=c.xz)\/K.N t0=some ⟨x,c.xz,c.s8⟩)(g1:(c.xy=c.s7/\t1=c.xy)\/K.N t1=some ⟨x,c.xy,c.s7⟩){P':Nat->Nat}(hP:∀s,2<=s->P' s+e1 (some ⟨y,t0,t1⟩) s=P s+e1 (some c.d) s):
  K.T ⟨y,t0,t1⟩=none/\TI K0 S0 ah x y l made {K with N:=up K.N c.r (some ⟨y,t0,t1⟩),T:=pO K.T ⟨y,t0,t1⟩ (some c.r)} S (done++[c]) rest P':=by
 have hc:=hr c zI;obtain⟨Ag,DM,hce⟩:=b.nv hc;obtain⟨⟨l00,l10⟩,⟨l01,l11⟩⟩:=b.Uw hc;have w:=b.ok.wf;have hi:=b.ok.mid.int;have hlo:=w.lo Ag;have hhi:=w.hi Ag;rw[DM,b.nb.lx]at hlo hhi;have ep:c.xz=pl K0.N y c.d.lo/\c.xy=ph K0.N y c.d.lo/\c.s8=pl K0.N y c.d.hi/\c.s7=ph K0.N y c.d.hi:=by rw[hce];exact⟨rfl,rfl,rfl,rfl⟩
 have both:c.xz=c.s8->c.xy=c.s7->False:=λe1 e2=>by
  rw[ep.1,ep.2.2.1]at e1;rw[ep.2.1,ep.2.2.2]at e2;exact w.ne Ag (w.Vf b.ok.lv hi b.nb.yy hlo.1 hhi.1 hlo.2 hhi.2 e1 e2)
 have ZE:c.r∉done.map Cx.r:=by
  rw[xaF,xa7]at hn;intro hm;exact hn.2.2 _ hm _ zI rfl
 have ZN:=h.old Ag ZE;have fn0:=λz=>h.Wr b l00 l10 g0 z;have fn1:=λz=>h.Wr b l01 l11 g1 z;have hS:∀z,S c.r z=ite S ⟨y,t0,t1⟩ z:=λz=>by
  rw[h.ext c.r (.inr ⟨_,Ag⟩),vJ w b.ok.lv hi b.nb Ag DM z];unfold ite;simp only;have a0:=fn0 z;have a1:=fn1 z;unfold ite at a0 a1;simp only at a0 a1;rw[a0,a1,ep.1,ep.2.1,ep.2.2.1,ep.2.2.2]
 have hne:t0≠t1:=λe=>by
  subst e;rcases g0 with⟨e1,e2⟩|g0
  ·rcases g1 with⟨e3,e4⟩|g1
   ·exact both e1 e3
   rw[e2]at g1;exact h.Ux b hd l00 g1
  rcases g1 with⟨e3,e4⟩|g1
  ·rw[e4]at g0;exact h.Ux b hd l01 g0
  rw[g0]at g1;simp only[xar,Nd.mk.injEq,xdu]at g1;obtain⟨q1,q2⟩:=g1;obtain⟨⟨_,_,YC⟩,_⟩:=(b.cx.mem c).1 hc;rw[ep.1,ep.2.1]at q1;rw[ep.2.2.1,ep.2.2.2]at q2;rcases YC with⟨e,he,hv⟩|⟨e,he,hv⟩
  ·have:=Ud he hv;rw[this.1,this.2]at q1;exact w.ne he q1
  have:=Ud he hv;rw[this.1,this.2]at q2;exact w.ne he q2
 have hT:K.T ⟨y,t0,t1⟩=none:=by
  cases e:K.T ⟨y,t0,t1⟩with
  |none=>rfl
  |some s=>
   obtain⟨hs,Qx⟩:=(h.mid.jD _ s).1 e;rcases h.new hs with⟨h1,_⟩|⟨h1,_⟩|⟨_,h1,_⟩
   ·have q1:=w.lo h1;have q2:=w.hi h1;simp only at q1 q2;rw[b.nb.ly]at q1 q2;have p1:c.xz=c.s8:=by
     rcases g0 with⟨e1,_⟩|g0
     ·exact e1
     exact(h.Ux b hd q1 g0).elim
    have p2:c.xy=c.s7:=by
     rcases g1 with⟨e1,_⟩|g1
     ·exact e1
     exact(h.Ux b hd q2 g1).elim
    exact(both p1 p2).elim
   ·obtain⟨c',mH,e'⟩:=xam.1 h1;have Q2:=(b.nv (hd c' mH)).1;have:c'.r=c.r:=w.same b.ok.lv hi (.inr ⟨_,Q2⟩) (.inr ⟨_,Ag⟩) λz=>by
     rw[<-h.ext c'.r (.inr ⟨_,Q2⟩),<-h.ext c.r (.inr ⟨_,Ag⟩),hS z,e',h.mid.int.node hs z];rfl
    exact absurd (xam.2 ⟨c',mH,this⟩) ZE
   exact absurd h1 (xbp b.nb.ne)
 have ES:∀{t},xC K0 K ah x l t->xC K0 {K with N:=up K.N c.r (some ⟨y,t0,t1⟩),T:=pO K.T ⟨y,t0,t1⟩ (some c.r)} ah x l t:=λht=>by
  rcases ht with ht|⟨e,he,h3⟩
  ·exact .inl ht
  refine .inr ⟨e,?_,h3⟩;show up K.N c.r (some ⟨y,t0,t1⟩) _=_;refine(aP λe2=>?_).trans he;rw[e2,ZN]at he;cases he;exact b.BG hc h3.2.1 h3.2.2
 have hml:∀s,s∈(done++[c]).map Cx.r↔s∈done.map Cx.r\/s=c.r:=λs=>by simp[xao]
 refine⟨hT,⟨(h.mid.zj ZN ⟨c,by simp,rfl⟩ (by rw[h.n];exact b.nb.yn) hne (h.qn b hd k0) (h.qn b hd k1) hT hS hP).congr (λs=>?_) (λ_ _=>rfl),h.n,h.cap,h.hold,h.ext,λ{s d} hs hm=>?_,λ{s d} hs=>?_,λ{s d} hs=>?_,?_⟩⟩
 ·constructor
  ·rintro⟨⟨c',mH,rfl⟩,h2⟩;rcases xag.1 mH with rfl|mH
   ·exact absurd rfl h2
   exact⟨c',mH,rfl⟩
  rintro⟨c',mH,rfl⟩;refine⟨⟨c',xbz _ mH,rfl⟩,λe=>?_⟩;rw[xaF,xa7]at hn;have:=hn.2.1;rw[xaM,xaX]at this;exact this.1 (xam.2 ⟨c',mH,e⟩)
 ·have hm':=λx=>hm ((hml s).2 x);show up K.N c.r _ s=_;rw[aP (λe=>hm' (.inr e))];exact h.old hs (λx=>hm' (.inl x))
 ·by_cases e:s=c.r
  ·exact⟨⟨y,t0,t1⟩,by show up K.N c.r (some _) s=_;rw[e,aN]⟩
  obtain⟨d',dN⟩:=h.kept hs;exact⟨d',by show up K.N c.r (some _) s=_;rw[aP e];exact dN⟩
 ·have hs':up K.N c.r (some ⟨y,t0,t1⟩) s=some d:=hs;by_cases e:s=c.r
  ·rw[e,aN]at hs';cases hs';exact .inr (.inl ⟨(hml s).2 (.inr e),rfl,ES k0,ES k1⟩)
  rw[aP e]at hs';rcases h.new hs' with⟨h1,h2⟩|⟨h1,h2,h3,h4⟩|h1
  ·exact .inl ⟨h1,λhm=>((hml s).1 hm).elim h2 e⟩
  ·exact .inr (.inl ⟨(hml s).2 (.inl h1),h2,ES h3,ES h4⟩)
  exact .inr (.inr h1)
 show K.used=K0.used+(made.filter λd=>(pO K.T ⟨y,t0,t1⟩ (some c.r) d).isSome).length;have hnm:(⟨y,t0,t1⟩:Nd)∉made:=λhm=>by
  obtain⟨⟨c',mH,hk⟩,_⟩:=(b.mad.mem _).1 hm;simp only[keys,xag,xaw,xa1,Nd.mk.injEq]at hk;rcases hk with⟨e,_⟩|⟨e,_⟩
  ·exact b.nb.ne e.symm
  exact b.nb.ne e.symm
 rw[nh b.mad.nd hT,xac hnm,h.used];rfl
theorem TI.levels(b:TB K0 S0 ah x y l all made)(h:TI K0 S0 ah x y l made K S all [] P){s:Nat}{d:Nd}(hs:K.N s=some d):
  th ah x y l d.v<dep K0.n (th ah x y l) K.N d.lo/\th ah x y l d.v<dep K0.n (th ah x y l) K.N d.hi:=by
 have w:=b.ok.wf;have hd:∀c∈all,c∈all:=λ_ h=>h;have Yc:l+1<K0.n:=by have:=b.ok.lv.lt y b.nb.yn;rw[b.nb.ly]at this;exact this
 have sx:th ah x y l x=l+1:=by simp[th]
 have sy:th ah x y l y=l:=by unfold th;rw[xac (xbp b.nb.ne),xae rfl]
 have so:∀v,v<K0.n->ah v≠l->ah v≠l+1->th ah x y l v=ah v:=λv hv h1 h2=>by
  unfold th;rw[xac (λe=>h1 (by rw[e];exact b.nb.lx)),xac (λe=>h2 (by rw[e];exact b.nb.ly))]
 have low:∀{t},td K0 ah l t->l+1<dep K0.n (th ah x y l) K.N t:=λ{t} ht=>by
  have e:=h.Uy b hd ht;cases e2:K0.N t with
  |none=>rw[br (by rw[e,e2])];exact Yc
  |some e'=>
   have:=b.zY ht e2;rw[aB (by rw[e,e2]),so _ (w.var e2) zO zO];exact this
 have ym:∀{t},xC K0 K ah x l t->l<dep K0.n (th ah x y l) K.N t:=λ{t} ht=>by
  rcases ht with ht|⟨e,he,hx,_⟩
  ·have:=low ht;omega
  rw[aB he,hx,sx];omega
 rcases h.new hs with⟨h1,h2⟩|⟨_,h2,h3,h4⟩|⟨_,h2,h3,h4⟩
 ·have hv:=w.var h1;have q1:=w.lo h1;have q2:=w.hi h1;rcases xcT (ah d.v) l with hlt|heq|hgt
  ·rw[so _ hv zO zO];have up':∀{t},live K0.N t->ah d.v<dep K0.n ah K0.N t->ah d.v<dep K0.n (th ah x y l) K.N t:=λ{t} ht lP=>by
    cases e:K.N t with
    |none=>rw[br e];exact xa0 lP (w.iA b.ok.lv t)
    |some e'=>
     rw[aB e];rcases h.new e with⟨g1,_⟩|⟨_,g2,_⟩|⟨g1,_⟩
     ·rw[aB g1]at lP;have hve:=w.var g1;by_cases e1:ah e'.v=l
      ·have:e'.v=x:=b.ok.lv.inj _ _ hve b.nb.xn (by rw[b.nb.lx];exact e1);rw[this,sx];omega
      by_cases e2:ah e'.v=l+1
      ·have:e'.v=y:=b.ok.lv.inj _ _ hve b.nb.yn (by rw[b.nb.ly];exact e2);rw[this,sy];exact hlt
      rw[so _ hve e1 e2];exact lP
     ·rw[g2,sy];exact hlt
     rcases ht with ht|⟨f,hf⟩
     ·have:=(h.mid.two e).1;omega
     rw[g1]at hf;cases hf
   exact⟨up' q1.1 q1.2,up' q2.1 q2.2⟩
  ·have hx:d.v=x:=b.ok.lv.inj _ _ hv b.nb.xn (by rw[b.nb.lx];exact heq);rw[hx,sx];have nc:∀t,t=d.lo\/t=d.hi->∀e,K0.N t=some e->e.v≠y:=λt ht e he hv=>h2 (xam.2 ⟨nt K0.N y s d,(b.cx.mem _).2 ⟨⟨h1,hx,by
    rcases ht with rfl|rfl
    ·exact .inl ⟨e,he,hv⟩
    exact .inr ⟨e,he,hv⟩⟩,rfl⟩,rfl⟩)
   have lw:∀t,t=d.lo\/t=d.hi->live K0.N t->ah d.v<dep K0.n ah K0.N t->td K0 ah l t:=λt ht hlv hlt=>by
    refine⟨hlv,?_⟩;have:=(w.half b.ok.lv b.ok.mid.int b.nb.yy hlv (by omega:l<dep K0.n ah K0.N t)).1.2;rwa [(Ue (nc t ht)).1]at this
   exact⟨low (lw _ (.inl rfl) q1.1 q1.2),low (lw _ (.inr rfl) q2.1 q2.2)⟩
  by_cases e:ah d.v=l+1
  ·have hy:d.v=y:=b.ok.lv.inj _ _ hv b.nb.yn (by rw[b.nb.ly];exact e);rw[hy,sy];have a1:=low ⟨q1.1,by omega⟩;have a2:=low ⟨q2.1,by omega⟩;exact⟨by omega,by omega⟩
  rw[so _ hv zO e];have deep:∀{t},live K0.N t->ah d.v<dep K0.n ah K0.N t->ah d.v<dep K0.n (th ah x y l) K.N t:=λ{t} ht lP=>by
   have hl:td K0 ah l t:=⟨ht,by omega⟩;have e':=h.Uy b hd hl;cases e2:K0.N t with
   |none=>rw[br (by rw[e',e2])];exact b.ok.lv.lt _ hv
   |some f=>
    rw[aB e2]at lP;rw[aB (by rw[e',e2]),so _ (w.var e2) zO zO];exact lP
  exact⟨deep q1.1 q1.2,deep q2.1 q2.2⟩
 ·rw[h2,sy];exact⟨ym h3,ym h4⟩
 rw[h2,sx];exact⟨low h3,low h4⟩
theorem TI.fin(b:TB K0 S0 ah x y l all made)(h:TI K0 S0 ah x y l made K S all [] P){K':Kd}(hm:jw K' S iD zero')(hp:Pos K')(hN:∀{s d},K'.N s=some d->K.N s=some d)(hn:K'.n=K.n)(hh:∀r,K'.hold r=K.hold r):
  Ok K' S (th ah x y l)/\(∀g,K'.held S g↔K0.held S0 g)/\∀r,K0.hold r≠0->S r=S0 r:=by
 have Ow:∀r,K0.hold r≠0->S r=S0 r:=λr hr=>h.ext r (.inr (b.ok.mid.held r hr));refine⟨⟨hm,hp,by rw[hn,h.n];exact TR b.ok.lv b.nb,hm.wf λ{s d} hs=>?_⟩,λg=>?_,Ow⟩
 ·have hl:=h.levels b (hN hs);have same:∀{t},live K'.N t->dep K'.n (th ah x y l) K'.N t=dep K0.n (th ah x y l) K.N t:=λ{t} ht=>by
   cases e:K'.N t with
   |some f=>rw[aB e,aB (hN e)]
   |none=>
    have LH:t<2:=by
     rcases ht with ht|⟨f,hf⟩
     ·exact ht
     rw[e]at hf;cases hf
    have:K.N t=none:=by
     cases e2:K.N t with
     |none=>rfl
     |some f=>have:=(h.mid.two e2).1;omega
    rw[br e,br this,hn,h.n]
  rw[same (hm.lo hs),same (hm.hi hs)];exact hl
 constructor
 ·rintro⟨r,hr,rfl⟩;have hr':K0.hold r≠0:=by rw[<-h.hold,<-hh];exact hr
  exact⟨r,hr',Ow r hr'⟩
 rintro⟨r,hr,rfl⟩;exact⟨r,by show K'.hold r≠0;rw[hh,h.hold];exact hr,(Ow r hr).symm⟩
end
end aE
namespace aE
open an
variable {n cap l:Nat} {ord:zL} {F G:Fn->Prop}
open Classical in
noncomputable def sz(n:Nat)(ord:zL)(F:Fn->Prop):Nat:=if h:∃k,ot (bc n ord F) k then Classical.choose h else 0
theorem Bb{k:Nat}(h:ot (bc n ord F) k):sz n ord F=k:=by
 unfold sz;rw[xej ⟨k,h⟩];exact(xcq (⟨k,h⟩:∃k,ot (bc n ord F) k)).uniq h
def Ob(n:Nat)(ord:zL)(l:Nat)(F:Fn->Prop):Fn->Prop:=λg=>bc n ord F g\/bc n (ff ord l) F g
open Classical in
noncomputable def AP(n:Nat)(ord:zL)(l:Nat)(F:Fn->Prop):Nat:=if h:∃k,ot (Ob n ord l F) k then Classical.choose h else 0
theorem Xy{k:Nat}(h:ot (Ob n ord l F) k):AP n ord l F=k:=by
 unfold AP;rw[xej ⟨k,h⟩];exact(xcq (⟨k,h⟩:∃k,ot (Ob n ord l F) k)).uniq h
theorem O1(e:∀g,F g↔G g):sz n ord F=sz n ord G:=by
 have:F=G:=funext λg=>propext (e g);rw[this]
theorem Ky(e:∀g,F g↔G g):AP n ord l F=AP n ord l G:=by
 have:F=G:=funext λg=>propext (e g);rw[this]
theorem CJ{a b:zL}(hl:a.length=b.length)(h:∀i,i<a.length->a.getD i 0=b.getD i 0):a=b:=by
 refine List.ext_getElem hl λi h1 h2=>?_;have:=h i h1;simpa[List.getD,xab h1,xab h2]using this
theorem pY(hl:l+1<ord.length):ff (ff ord l) l=ord:=by
 refine CJ (by rw[k6,k6]) λi _=>?_;have h2:l+1<(ff ord l).length:=by rw[k6];exact hl
 rw[eT h2,eT hl,eT hl,eT hl];by_cases e:i=l
 ·subst e;simp
 by_cases e2:i=l+1
 ·subst e2;simp
 simp[e,e2]
theorem TA(hl:l+1<ord.length):AP n (ff ord l) l F=AP n ord l F:=by
 have:Ob n (ff ord l) l F=Ob n ord l F:=by
  funext g
  unfold Ob;rw[pY hl];exact propext or_comm
 unfold AP;rw[this]
def xA(n cap:Nat)(F:Fn->Prop):zL->zL->Prop
 |_,[]=>True
 |ord,l::r=>l+1<n/\AP n ord l F+2<=cap/\xA n cap F (ff ord l) r
theorem xA.congr(e:∀g,F g↔G g):∀{tr ord:zL},xA n cap F ord tr->xA n cap G ord tr:=by
 have:F=G:=funext λg=>propext (e g);subst this;exact λ{tr ord} h=>h
theorem xA.af6(hlen:ord.length=n)(hl:l+1<n)(hfit:AP n ord l F+2<=cap){tr:zL}(h:xA n cap F ord tr.reverse):xA n cap F (ff ord l) (tr++[l]).reverse:=by
 rw[List.reverse_append];exact⟨hl,by rw[TA zO];exact hfit,by rw[pY zO];exact h⟩
end aE
namespace aE
open an
variable {n l:Nat} {ord:zL} {L:an.Fs} {F:Fn->Prop}
def gL(n:Nat)(ws:zL):Fn:=λx=>bit ws (x%2^n)
theorem mQ{x v n:Nat}{b:Bool}(hv:v<n):aD x v b%2^n=aD (x%2^n) v b:=by
 apply xaY;intro k;rw[xbk,aj,aj,xbk];by_cases e:k=v
 ·subst e;simp[hv]
 simp[e]
theorem Aq{v:Nat}{ws:zL}(hf:dG n ws)(hv:v<n)(b:Bool):gL n (gf n ws v b)=λx=>gL n ws (aD x v b):=by
 funext x
 unfold gL;rw[eG hf hv (xbu _ (xbJ n)),mQ hv]
theorem RF{ws:zL}{x:Nat}(h:x<2^n):gL n ws x=bit ws x:=by unfold gL;rw[xa3 h]
theorem Jw{a b:zL}(ha:dG n a)(hb:dG n b)(h:gL n a=gL n b):a=b:=ha.ext hb λx hx=>by rw[<-RF hx,<-RF hx,h]
theorem rS{v:Nat}{ws:zL}(hf:dG n ws)(hv:v<n):fm (gL n ws) v↔an.dep n ws v=true:=by
 rw[tV hf hv];constructor
 ·rintro⟨x,hx⟩;refine⟨x%2^n,xbu _ (xbJ n),?_⟩;unfold gL at hx;rwa [mQ hv,mQ hv]at hx
 rintro⟨x,hx,hne⟩;refine⟨x,?_⟩;unfold gL;rwa [mQ hv,mQ hv,xa3 hx]
def cur(n:Nat)(ord:zL)(L:an.Fs):Nat->an.Fs
 |0=>iW L
 |k+1=>given n (cur n ord L k) (ord.getD k 0)
def FT(n:Nat)(L:an.Fs):Fn->Prop:=λg=>∃t∈L,g=gL n t
theorem rW:∀k,(cur n ord L k).Nodup
 |0=>kW L
 |k+1=>ng _ _ _
theorem n6(hL:∀t∈L,dG n t)(hn:n<=16):∀k,∀t∈cur n ord L k,dG n t
 |0,t,h=>hL t (fH.1 h)
 |k+1,t,h=>by obtain⟨u,_,b,rfl⟩:=bZ.1 h;exact dU hn
theorem Ap(hL:∀t∈L,dG n t)(hn:n<=16)(ho:∀i,i<n->ord.getD i 0<n):∀k,k<=n->∀g,fs ord (FT n L) k g↔∃t∈cur n ord L k,g=gL n t
 |0,_,g=>by
  show(∃t∈L,g=gL n t)↔_;constructor
  ·rintro⟨t,h,e⟩;exact⟨t,fH.2 h,e⟩
  rintro⟨t,h,e⟩;exact⟨t,fH.1 h,e⟩
 |k+1,hk,g=>by
  have ih:=Ap hL hn ho k zO;constructor
  ·rintro⟨f,hf,b,rfl⟩;obtain⟨t,ht,rfl⟩:=(ih f).1 hf;exact⟨gf n t (ord.getD k 0) b,bZ.2 ⟨t,ht,b,rfl⟩,(Aq (n6 hL hn k t ht) (ho k zO) b).symm⟩
  rintro⟨t,ht,rfl⟩;obtain⟨u,hu,b,rfl⟩:=bZ.1 ht;exact⟨gL n u,(ih _).2 ⟨u,hu,rfl⟩,b,Aq (n6 hL hn k u hu) (ho k zO) b⟩
theorem qz:∀k g,fs ord F k g->∀j,j<k->¬fm g (ord.getD j 0)
 |0,_,_,_,h=>absurd h (xc7 _)
 |k+1,g,h,j,hj=>by
  obtain⟨f,hf,b,rfl⟩:=h;rintro⟨x,hx⟩;apply hx;by_cases e:ord.getD j 0=ord.getD k 0
  ·show f (aD (aD x _ false) _ b)=f (aD (aD x _ true) _ b);congr 1;apply xaY;intro i;simp only[aj,e];split<;>rfl
  have hlt:j<k:=by
   rcases Nat.lt_succ_iff_lt_or_eq.1 hj with h|h
   ·exact h
   subst h;exact(e rfl).elim
  have:=qz k f hf j hlt;show f (aD (aD x _ false) _ b)=f (aD (aD x _ true) _ b);rw[dx e,dx e];exact xa2 λhne=>this ⟨_,hne⟩
def qj(n:Nat)(ord:zL)(L:an.Fs)(k:Nat):an.Fs:=nodes n (cur n ord L k) (ord.getD k 0)
def fQ(n:Nat)(ord:zL)(L:an.Fs):Nat->Nat
 |0=>0
 |k+1=>fQ n ord L k+(qj n ord L k).length
def Fz(n:Nat)(ord:zL)(L:an.Fs):Nat->an.Fs
 |0=>[]
 |k+1=>Fz n ord L k++qj n ord L k
theorem sX:∀k,(Fz n ord L k).length=fQ n ord L k
 |0=>rfl
 |k+1=>by rw[Fz,fQ,xaf,sX k]
theorem mW{k:Nat}{t:zL}:t∈qj n ord L k↔t∈cur n ord L k/\an.dep n t (ord.getD k 0)=true:=by
 unfold qj nodes;rw[xcP]
theorem Ds(hL:∀t∈L,dG n t)(hn:n<=16):∀k,∀t∈Fz n ord L k,dG n t
 |0,t,h=>by cases h
 |k+1,t,h=>by
  rcases xao.1 h with h|h
  ·exact Ds hL hn k t h
  exact n6 hL hn k t (mW.1 h).1
theorem vW(hL:∀t∈L,dG n t)(hn:n<=16)(ho:∀i,i<n->ord.getD i 0<n):∀m,m<=n->∀g,(∃k,k<m/\fs ord (FT n L) k g/\fm g (ord.getD k 0))↔∃t∈Fz n ord L m,g=gL n t
 |0,_,g=>by simp[Fz]
 |m+1,hm,g=>by
  have ih:=vW hL hn ho m zO g;have ah:(fs ord (FT n L) m g/\fm g (ord.getD m 0))↔∃t∈qj n ord L m,g=gL n t:=by
   rw[Ap hL hn ho m zO];constructor
   ·rintro⟨⟨t,ht,rfl⟩,hh⟩;exact⟨t,mW.2 ⟨ht,(rS (n6 hL hn m t ht) (ho m zO)).1 hh⟩,rfl⟩
   rintro⟨t,ht,rfl⟩;obtain⟨h1,h2⟩:=mW.1 ht;exact⟨⟨t,h1,rfl⟩,(rS (n6 hL hn m t h1) (ho m zO)).2 h2⟩
  constructor
  ·rintro⟨k,hk,h1,h2⟩;by_cases e:k=m
   ·subst e;obtain⟨t,ht,rfl⟩:=ah.1 ⟨h1,h2⟩;exact⟨t,xaa _ ht,rfl⟩
   obtain⟨t,ht,rfl⟩:=ih.1 ⟨k,by omega,h1,h2⟩;exact⟨t,xad _ ht,rfl⟩
  rintro⟨t,ht,rfl⟩;rcases xao.1 ht with ht|ht
  ·obtain⟨k,hk,h⟩:=ih.2 ⟨t,ht,rfl⟩;exact⟨k,by omega,h⟩
  exact⟨m,by omega,ah.2 ⟨t,ht,rfl⟩⟩
theorem vV(hL:∀t∈L,dG n t)(hn:n<=16)(ho:∀i,i<n->ord.getD i 0<n):∀m,m<=n->(Fz n ord L m).Nodup
 |0,_=>List.nodup_nil
 |m+1,hm=>by
  refine xa7.2 ⟨vV hL hn ho m zO,(rW m).filter _,λa ha b hb e=>?_⟩;subst e;obtain⟨k,hk,h1,h2⟩:=(vW hL hn ho m zO (gL n a)).2 ⟨a,ha,rfl⟩;have h3:=(Ap hL hn ho m zO (gL n a)).2 ⟨a,(mW.1 hb).1,rfl⟩;exact qz m _ h3 k hk h2
theorem R4{P:Fn->Prop}{l:an.Fs}(hf:∀t∈l,dG n t)(hn:l.Nodup)(h:∀g,P g↔∃t∈l,g=gL n t):ot P l.length:=by
 refine⟨l.map (gL n),?_,by simp,λg=>?_⟩
 ·refine xb9.2 (hn.imp_of_mem λ{a b} ha hb hne heq=>hne (Jw (hf a ha) (hf b hb) heq))
 rw[h,xam];constructor
 ·rintro⟨t,ht,rfl⟩;exact⟨t,ht,rfl⟩
 rintro⟨t,ht,rfl⟩;exact⟨t,ht,rfl⟩
theorem R5(hL:∀t∈L,dG n t)(hn:n<=16)(ho:∀i,i<n->ord.getD i 0<n):ot (bc n ord (FT n L)) (fQ n ord L n):=by
 rw[<-sX];exact R4 (Ds hL hn n) (vV hL hn ho n (xak _)) (vW hL hn ho n (xak _))
theorem O2(hL:∀t∈L,dG n t)(hn:n<=16)(ho:∀i,i<n->ord.getD i 0<n):sz n ord (FT n L)=fQ n ord L n:=Bb (R5 hL hn ho)
end aE
set_option maxRecDepth 100000
namespace Go.Proofs
open Go Go.Sx Tryz
section
open aE
def u32(r:Nat):zV:=.int .u32 (r:Int)
def bJ(d:Nd):List zV:=[iv (d.v:Int),u32 d.lo,u32 d.hi]
structure oq where
 v:Int
 lo:Nat
 hi:Nat
 tk:Bool
 c:Nat
def oq.row(p:oq):List zV:=[iv p.v,u32 p.lo,u32 p.hi,.bool p.tk,.int .u8 (p.c:Int)]
def fU(N:eA)(r:Nat):Bool:=decide (r<2)||(N r).isSome
theorem cz{N:eA}{r:Nat}:fU N r=true↔live N r:=by
 unfold fU live;rw[xcb,xaQ,xdO]
def got(N:eA)(r:Nat):List zV:=
 if r<2 then [iv (-1),u32 r,u32 r]else match N r with|some d=>bJ d|none=>[iv 0,u32 0,u32 0]
theorem gy{N:eA}{r:Nat}{d:Nd}(h:N r=some d)(h2:2<=r):got N r=bJ d:=by unfold got;rw[xac zO,h]
theorem gQ{N:eA}{r:Nat}(h2:r<2):got N r=[iv (-1),u32 r,u32 r]:=by unfold got;rw[xae h2]
theorem Cq{N:eA}{r:Nat}(h:fU N r=false):got N r=[iv 0,u32 0,u32 0]:=by
 unfold fU at h;rw[xaO,xbw]at h;unfold got;rw[xac h.1];cases hN:N r with
 |none=>rfl
 |some d=>rw[hN]at h;simp at h
def Lj(p:oq):Option Nd:=if p.tk then some ⟨p.v.toNat,p.lo,p.hi⟩else none
structure AN(l:List oq)(fr:zL)(cap used:Nat)(N:eA):Prop where
 cap:l.length<=cap/\cap<=1048576
 two:2<=l.length
 const:∀r,r<2->∃p,l[r]? =some p/\p.v= -1/\p.lo=r/\p.hi=r/\p.tk=true
 nd:∀r,2<=r->N r=(l[r]?).bind Lj
 n0:∀r,r<2->N r=none
 nn:∀(r:Nat) p,2<=r->l[r]? =some p->p.tk=true->0<=p.v
 Tg:fr.Nodup
 lY:∀r,r∈fr↔∃p,l[r]? =some p/\p.tk=false
 used:used+fr.length=l.length
theorem AN.BS{l:List oq}{fr:zL}{cap used:Nat}{N:eA}(h:AN l fr cap used N)(r:Nat):fU N r=(match l[r]? with|some p=>p.tk|none=>false):=by
 unfold fU;by_cases h2:r<2
 ·obtain⟨p,hp,_,_,_,ht⟩:=h.const r h2;simp[h2,hp,ht]
 rw[h.nd r zO];cases hl:l[r]? with
 |none=>simp[h2]
 |some p=>cases ht:p.tk<;>simp[h2,Lj,ht]
theorem AN.af2{l:List oq}{fr:zL}{cap used:Nat}{N:eA}(h:AN l fr cap used N){r:Nat}{p:oq}(hp:l[r]? =some p)(ht:p.tk=true):got N r=p.row.take 3:=by
 by_cases h2:r<2
 ·obtain⟨p',hp',h1,pF,h3,_⟩:=h.const r h2;rw[hp]at hp';cases hp';rw[gQ h2];simp[oq.row,h1,pF,h3]
 have hn:=h.nn r p zO hp ht;rw[gy (d:=⟨p.v.toNat,p.lo,p.hi⟩) (by rw[h.nd r zO,hp];simp[Lj,ht]) zO];simp[bJ,oq.row,Int.toNat_of_nonneg hn]
theorem AN.lt{l:List oq}{fr:zL}{cap used:Nat}{N:eA}(h:AN l fr cap used N){r:Nat}(hr:live N r):r<l.length:=by
 have:=cz.2 hr;rw[h.BS]at this;cases hl:l[r]? with
 |none=>rw[hl]at this;simp at this
 |some p=>exact(xah.1 hl).1
def ik(pa cap used:Nat)(N:eA)(C:Hp):Prop:=
 ∃vl vf l fr Cl Cf,C=(pa,.cells #[iv (cap:Int),vl,vf,iv (used:Int)] 199 zZ)::(Cl++Cf)/\
  aO 203 5 vl (l.map oq.row) Cl/\aR 82 .u32 vf (fr.map (Nat.cast:Nat->Int)) Cf/\AN l fr cap used N
abbrev ptr(b:Nat):zV:=.pointer (some ⟨b,0,none⟩)
theorem row_one(p:oq):∀x∈p.row,x.oneCell'=true:=by intro x hx;simp[oq.row,u32]at hx;rcases hx with rfl|rfl|rfl|rfl|rfl<;>rfl
theorem pX{pa cap used r:Nat}{N:eA}{C:Hp}(h:ik pa cap used N C)(hr:r<4294967296):
  Rd zQ 256 #[ptr pa,u32 r] C (· =.bool (fU N r)):=by
 obtain⟨vl,vf,l,fr,Cl,Cf,rfl,hl,hf,ho⟩:=h;refine aK λg=>Gq (aM.q (Nil.ptr ?_));refine ag.mk (Ld.mk zM rfl ?_);refine hl.bF (ae.cU ?_);rw[xau];rw[ho.BS r];refine cr.and (match l[r]? with|some p=>p.tk|none=>false) (λhlt=>?_) rfl λ_=>bE.mk (.refl _) ?_
 ·have lP:=xcl hlt;apply Nil.ptr;refine ag.mk (Ld.mk zM rfl ?_);have hg:l[r]? =some l[r]:=xab lP;refine hl.X4 (r:=l[r].row) (x:=.bool l[r].tk) (by rw[xas,hg];rfl) rfl (λ_ h=>by exact .tail _ (xad _ h)) ?_;exact⟨rfl,by rw[hg]⟩
 congr 1;by_cases hlt:r<l.length
 ·simp[hlt]
 rw[xaH zO];simp
theorem Rq{pa cap used r:Nat}{N:eA}{C:Hp}(h:ik pa cap used N C)(hr:r<4294967296):
  Rd zQ 212 #[ptr pa,u32 r] C (· =.tuple #[.agg (got N r).toArray,iv (if fU N r then 0 else 3)]):=by
 have h0:=h;obtain⟨vl,vf,l,fr,Cl,Cf,rfl,hl,hf,ho⟩:=h;refine aK λg=>GQ λb1 _=>?_;refine ae.aJ (Br.no (aa.eq (pX h0 hr) (Un.not (Br.mk (λhb=>?_) (λhb=>?_)))))
 ·have hb':fU N r=false:=by simpa using hb
  refine Build.mk (cs:=[iv 0,.int .u32 0,.int .u32 0]) zK (St.q ?_);refine au.q ?_;exact bE.mk .tail (by rw[Cq hb',hb'];rfl)
 have hb':fU N r=true:=by simpa using hb
 have hx:=hb';rw[ho.BS]at hx;cases hg:l[r]? with
 |none=>rw[hg]at hx;simp at hx
 |some p=>
 rw[hg]at hx;simp only at hx;apply Nil.ptr;refine ag.mk (Ld.mk zM rfl ?_);refine hl.X3 (r:=p.row) (by rw[xas,hg];rfl) zD (λ_ h=>by exact .tail _ (.tail _ (xad _ h))) ?_;refine St.p (λx hx=>row_one p x (xci hx)) ?_;refine au.q ?_;exact bE.mk .tail (by rw[ho.af2 hg hx,hb'];rfl)
structure NOk(N:eA)(d:Nd):Prop where
 v:d.v<64
 lo:live N d.lo
 hi:live N d.hi
theorem ik.lt{pa cap used r:Nat}{N:eA}{C:Hp}(h:ik pa cap used N C)(hr:live N r):r<cap/\cap<=1048576:=by
 obtain⟨vl,vf,l,fr,Cl,Cf,rfl,hl,hf,ho⟩:=h;exact⟨xa0 (ho.lt hr) ho.cap.1,ho.cap.2⟩
theorem y5{pa cap used:Nat}{N:eA}{C:Hp}{d:Nd}(h:ik pa cap used N C)(hd:NOk N d):
  Rd zQ 232 #[ptr pa,.agg (bJ d).toArray] C (· =iv 0):=by
 have hlo:=h.lt hd.lo;have hhi:=h.lt hd.hi;refine aK λg=>GG λb1 _=>?_;refine Ld.f ?_;refine ae.lss (cr.or (decide (64<=d.v)) (λ_=>?_) rfl λ_=>?_)
 ·refine Ld.f ?_;exact ae.mh (b:=64) ⟨rfl,rfl⟩
 have hv:=hd.v;refine Br.no' zP λJ hJ=>?_;refine Ld.f ?_;refine aa.eq (pX h zO) ?_;rw[cz.2 hd.lo];refine Un.not (Split.go rfl (Ld.f ?_));refine aa.eq (pX h zO) ?_;rw[cz.2 hd.hi];refine Un.not (aS.mk (JE.mk (hJ _ _ λgs=>Br.no (bE.mk .tail rfl))))
theorem PS{pa cap used r:Nat}{N:eA}{C:Hp}(h:ik pa cap used N C)(hr:∃d,N r=some d)(h2:2<=r):
  Rd zQ 214 #[ptr pa,u32 r] C (· =iv 0):=by
 have hl:=h.lt (.inr hr);refine aK λg=>GO λJ hJ=>?_;refine ae.AR (b:=1) (Split.go zP ?_);refine aa.eq (pX h zO) ?_;rw[cz.2 (.inr hr)];refine Un.not (aS.mk (JE.mk (hJ _ _ λgs=>Br.no (bE.mk (.refl _) rfl))))
theorem Dn{pa cap used:Nat}{N:eA}{C:Hp}(h:ik pa cap used N C):Rd zQ 146 #[ptr pa] C (· =iv (used:Int)):=by
 obtain⟨vl,vf,l,fr,Cl,Cf,rfl,hl,hf,ho⟩:=h;refine aK λg=>HL (ae.aJ (Br.no (Nil.ptr ?_)));refine ag.mk (Ld.mk zM rfl ?_);exact bE.mk (.refl _) rfl
theorem Fv{pa cap used:Nat}{N:eA}{C:Hp}(h:ik pa cap used N C):Rd zQ 230 #[ptr pa] C (· =iv (cap:Int)):=by
 obtain⟨vl,vf,l,fr,Cl,Cf,rfl,hl,hf,ho⟩:=h;refine aK λg=>GI (ae.aJ (Br.no (Nil.ptr ?_)));refine ag.mk (Ld.mk zM rfl ?_);exact bE.mk (.refl _) rfl
section
variable {l:List oq} {fr:zL} {cap used:Nat} {N:eA}
theorem Er(d:Nd){c:Nat}:Lj ⟨(d.v:Int),d.lo,d.hi,true,c⟩=some d:=by simp[Lj]
theorem AN.reuse(h:AN l fr cap used N){r:Nat}(hr:r∈fr){fr':zL}(hf:fr.Perm (r::fr'))(d:Nd):
  2<=r/\r<cap/\N r=none/\AN (l.set r ⟨(d.v:Int),d.lo,d.hi,true,0⟩) fr' cap (used+1) (up N r (some d)):=by
 obtain⟨p,hp,ht⟩:=(h.lY r).1 hr;have hlt:=(xah.1 hp).1;have h2:2<=r:=by
  apply xdI;intro hn;obtain⟨p',hp',_,_,_,ht'⟩:=h.const r zO;rw[hp]at hp';cases hp';rw[ht]at ht';cases ht'
 have gE:=hf.nodup_iff.1 h.Tg;rw[xaX]at gE;refine⟨h2,xa0 hlt h.cap.1,by rw[h.nd r h2,hp];simp[Lj,ht],?_⟩;have fK:∀s,s≠r->(l.set r ⟨(d.v:Int),d.lo,d.hi,true,0⟩)[s]? =l[s]? :=λs hs=>xbN (xbp hs);have jL:(l.set r ⟨(d.v:Int),d.lo,d.hi,true,0⟩)[r]? =some ⟨(d.v:Int),d.lo,d.hi,true,0⟩:=xbR hlt;exact {
  cap:=by simpa using h.cap
  two:=by simpa using h.two
  const:=λs hs=>by rw[fK s zO];exact h.const s hs
  nd:=λs hs=>by
   by_cases e:s=r
   ·subst e;rw[aN,jL];exact(Er d).symm
   rw[aP e,fK s e];exact h.nd s hs
  n0:=λs hs=>by rw[aP zO];exact h.n0 s hs
  nn:=λs q hs hq Qy=>by
   by_cases e:s=r
   ·subst e;rw[jL]at hq;cases hq;exact xcf _
   rw[fK s e]at hq;exact h.nn s q hs hq Qy
  Tg:=gE.2
  lY:=λs=>by
   by_cases e:s=r
   ·subst e;rw[jL];simp[gE.1]
   rw[fK s e,<-h.lY s,hf.mem_iff];simp[e]
  used:=by have:=h.used;have:=hf.length_eq;simp only[xal,xbZ]at*;omega}
theorem AN.grow(h:AN l [] cap used N)(hlt:l.length<cap)(d:Nd):
  2<=l.length/\N l.length=none/\AN (l++[⟨(d.v:Int),d.lo,d.hi,true,0⟩]) [] cap (used+1) (up N l.length (some d)):=by
 have h2:=h.two;refine⟨h2,by rw[h.nd _ h2,xaH (xak _)];rfl,?_⟩;have fK:∀s,s≠l.length->(l++[(⟨(d.v:Int),d.lo,d.hi,true,0⟩:oq)])[s]? =l[s]? :=λs hs=>by
  rw[xeb];split
  ·rfl
  rw[xaH zP,xaH zO]
 have jL:(l++[(⟨(d.v:Int),d.lo,d.hi,true,0⟩:oq)])[l.length]? =some ⟨(d.v:Int),d.lo,d.hi,true,0⟩:=by simp
 exact {
  cap:=by simp;exact⟨hlt,h.cap.2⟩
  two:=by simp;omega
  const:=λs hs=>by rw[fK s zO];exact h.const s hs
  nd:=λs hs=>by
   by_cases e:s=l.length
   ·subst e;rw[aN,jL];exact(Er d).symm
   rw[aP e,fK s e];exact h.nd s hs
  n0:=λs hs=>by rw[aP zO];exact h.n0 s hs
  nn:=λs q hs hq Qy=>by
   by_cases e:s=l.length
   ·subst e;rw[jL]at hq;cases hq;exact xcf _
   rw[fK s e]at hq;exact h.nn s q hs hq Qy
  Tg:=h.Tg
  lY:=λs=>by
   by_cases e:s=l.length
   ·subst e;rw[jL];simp
   rw[fK s e];exact h.lY s
  used:=by have:=h.used;simp at*;omega}
theorem AN.zj(h:AN l fr cap used N){r:Nat}{p:oq}(h2:2<=r)(hp:l[r]? =some p)(ht:p.tk=true)(d:Nd):
  AN (l.set r ⟨(d.v:Int),d.lo,d.hi,true,p.c⟩) fr cap used (up N r (some d)):=by
 have hlt:=(xah.1 hp).1;have fK:∀s,s≠r->(l.set r ⟨(d.v:Int),d.lo,d.hi,true,p.c⟩)[s]? =l[s]? :=λs hs=>xbN (xbp hs);have jL:(l.set r ⟨(d.v:Int),d.lo,d.hi,true,p.c⟩)[r]? =some ⟨(d.v:Int),d.lo,d.hi,true,p.c⟩:=xbR hlt;exact {
  cap:=by simpa using h.cap
  two:=by simpa using h.two
  const:=λs hs=>by rw[fK s zO];exact h.const s hs
  nd:=λs hs=>by
   by_cases e:s=r
   ·subst e;rw[aN,jL];exact(Er d).symm
   rw[aP e,fK s e];exact h.nd s hs
  n0:=λs hs=>by rw[aP zO];exact h.n0 s hs
  nn:=λs q hs hq Qy=>by
   by_cases e:s=r
   ·subst e;rw[jL]at hq;cases hq;exact xcf _
   rw[fK s e]at hq;exact h.nn s q hs hq Qy
  Tg:=h.Tg
  lY:=λs=>by
   by_cases e:s=r
   ·subst e;rw[h.lY,jL,hp];simp[ht]
   rw[fK s e];exact h.lY s
  used:=by simpa using h.used}
theorem AN.free(h:AN l fr cap used N){r:Nat}{p:oq}(h2:2<=r)(hp:l[r]? =some p)(ht:p.tk=true):
  AN (l.set r ⟨0,0,0,false,0⟩) (fr++[r]) cap (used-1) (up N r none)/\0<used:=by
 have hlt:=(xah.1 hp).1;have fK:∀s,s≠r->(l.set r ⟨0,0,0,false,0⟩)[s]? =l[s]? :=λs hs=>xbN (xbp hs);have jL:(l.set r ⟨0,0,0,false,0⟩)[r]? =some ⟨0,0,0,false,0⟩:=xbR hlt;have hnf:r∉fr:=λhm=>by obtain⟨q,hq,Qy⟩:=(h.lY r).1 hm;rw[hp]at hq;cases hq;rw[ht]at Qy;cases Qy
 have hu:fr.length<l.length:=by
  have hn:(r::fr).Nodup:=xaX.2 ⟨hnf,h.Tg⟩;have:=bN (l:=r::fr) (l':=List.range l.length) hn λs hs=>by
   rw[xaJ];rcases xag.1 hs with rfl|hs
   ·exact hlt
   obtain⟨q,hq,_⟩:=(h.lY s).1 hs;exact(xah.1 hq).1
  rw[xaC]at this;exact this
 have ZD:=h.used;refine⟨?_,by omega⟩;exact {
  cap:=by simpa using h.cap
  two:=by simpa using h.two
  const:=λs hs=>by rw[fK s zO];exact h.const s hs
  nd:=λs hs=>by
   by_cases e:s=r
   ·subst e;rw[aN,jL];rfl
   rw[aP e,fK s e];exact h.nd s hs
  n0:=λs hs=>by rw[aP zO];exact h.n0 s hs
  nn:=λs q hs hq Qy=>by
   by_cases e:s=r
   ·subst e;rw[jL]at hq;cases hq;cases Qy
   rw[fK s e]at hq;exact h.nn s q hs hq Qy
  Tg:=by rw[xa7];exact⟨h.Tg,by simp,λa ha c hc=>by simp at hc;subst hc;intro e;subst e;exact hnf ha⟩
  lY:=λs=>by
   rw[xao,xaK];by_cases e:s=r
   ·subst e;rw[jL];simp
   rw[fK s e,<-h.lY];simp[e]
  used:=by simp;omega}
end
theorem mX(l:List oq)(r:Nat)(p:oq):(l.map oq.row).set r p.row=(l.set r p).map oq.row:=by rw[xc3]
theorem SA{pa cap used:Nat}{N:eA}{C:Hp}{d:Nd}(h:ik pa cap used N C)(hd:NOk N d)(hroom:used<cap):
  Fc zQ 254 #[ptr pa,.agg (bJ d).toArray] C (λv C'=>∃r,v=.tuple #[u32 r,iv 0]/\2<=r/\r<cap/\N r=none/\ik pa cap (used+1) (up N r (some d)) C'):=by
 have h0:=h;obtain⟨vl,vf,l,fr,Cl,Cf,rfl,hl,hf,ho⟩:=h;have hcap:=ho.cap;have Jk:=ho.used;refine aK λg=>Gt λb1 _=>?_;refine ae.aJ (Br.no (au.q ?_));refine aa.eq (y5 h0 hd) (ae.fX (Br.F (Nil.ptr ?_)));refine ag.mk (Ld.mk zM rfl ?_);refine hf.bF ?_;rw[xau];refine ae.iF (b:=0) (Br.dec (λhp=>?_) (λhp=>?_))
 ·obtain⟨fr',r,rfl⟩:∃fr' r,fr=fr'++[r]:=⟨fr.dropLast,fr.getLast (by intro e;simp[e]at hp),(xek _).symm⟩;simp only[xaf,xal,xbA]at hp Jk⊢;obtain⟨g1,g2,g3,hok⟩:=ho.reuse (r:=r) zI (fr':=fr') (by exact List.perm_append_singleton _ _) d;apply Nil.ptr;refine ag.mk (Ld.mk zM rfl ?_);refine ae.cf (a:=fr'.length+1) (b:=1) ?_;rw[xb1];refine hf.ld (i:=fr'.length) (x:=(r:Int)) zI (λ_ h=>by exact .tail _ (.tail _ (xaa _ h))) (Nil.ptr ?_);refine ag.mk (Ld.mk zM rfl ?_);refine ae.cf (a:=fr'.length+1) (b:=1) ?_;rw[xb1];refine hf.cut (i:=fr'.length) zI λv' Oq=>?_;have QS:aR 82 .u32 v' (fr'.map (Nat.cast:Nat->Int)) Cf:=by
   rw[xaF,xeE zI]at Oq;exact Oq
  have hone:v'.oneCell'=true:=by obtain⟨a,c,e⟩:=aO.len QS;rw[e];rfl
  refine Nil.ptr (ag.mk (St.one (by exact .tail (.head _)) hone zI rfl ?_));refine DR.self (Nil.ptr (Ld.f ?_));refine au.q ?_;refine Build.mk (cs:=(oq.mk (d.v:Int) d.lo d.hi true 0).row) zK (hl.PC (A:=[_,_]) (B:=Cf) (i:=r) (by rw[xau];have:=(ho.lY r).1 zI;obtain⟨p,hp,_⟩:=this;exact(xah.1 hp).1) rfl (row_one _) λC' hl'=>?_);rw[mX]at hl';simp only[xaN,xbe];refine Nil.ptr (Ld.f ?_);refine ae.inc (Nil.ptr (ag.mk (St.one (by exact .tail (.head _)) rfl zI rfl ?_)));exact aQ.mk .tail ⟨r,rfl,g1,g2,g3,vl,v',_,fr',C',Cf,rfl,hl',QS,hok⟩
 obtain rfl:fr=[]:=xb6 zO;simp only[xbA]at Jk;obtain⟨g1,g3,hok⟩:=ho.grow zO d;apply Nil.ptr;refine ag.mk (Ld.mk zM rfl ?_);refine hl.bF ?_;rw[xau];apply Nil.ptr;refine ag.mk (Ld.mk zM rfl ?_);refine ae.mh (Br.F (DR.of (R:=(b1,.cells (List.toArray (bJ d)) 201 zZ)::(pa,.cells #[iv (cap:Int),vl,vf,iv (used:Int)] 199 zZ)::[]) (.cons (.cons .nil)) (Nil.ptr ?_)));refine ag.mk (Ld.mk zM rfl ?_);refine au.q ?_;refine Build.mk (cs:=(oq.mk (d.v:Int) d.lo d.hi true 0).row) zK (ak.one (z:=.agg #[iv 0,.int .u32 0,.int .u32 0,.bool false,.int .u8 0]) (e:=203) (k:=5) zK zK zK zD rfl λbx=>?_);refine⟨.skip (.cons (.cons .nil)),?_⟩;refine hl.Fu (A:=[_,_,_]) (B:=Cf) (r:=(oq.mk (d.v:Int) d.lo d.hi true 0).row) (by exact .head _) rfl (row_one _) (by exact⟨[iv 0,.int .u32 0,.int .u32 0,.bool false,.int .u8 0],rfl,rfl⟩) zP zP λv' C' hl'=>?_;have oE:aO 203 5 v' ((l++[(⟨(d.v:Int),d.lo,d.hi,true,0⟩:oq)]).map oq.row) C':=by rw[xaF];exact hl'
 simp only[xaN,xbe];refine⟨.skip (.cons (.cons .nil)),?_⟩;have hone:v'.oneCell'=true:=by obtain⟨a,c,e⟩:=oE.len;rw[e];rfl
 refine Nil.ptr (ag.mk (St.one (by exact .tail (.tail (.head _))) hone zI rfl ?_));refine Nil.ptr (Ld.f ?_);refine ae.inc (Nil.ptr (ag.mk (St.one (by exact .tail (.tail (.head _))) rfl zI rfl ?_)));refine Nil.ptr (Ld.f ?_);refine oE.bF (ae.ir (b:=1) (by simp[aU];omega) zI (aM.q (aQ.mk (.skip .tail) ⟨l.length,by simp[u32],g1,by omega,g3,v',vf,_,[],C',Cf,rfl,oE,hf,hok⟩)))
theorem VT{pa cap used r:Nat}{N:eA}{C:Hp}{d:Nd}(h:ik pa cap used N C)(hd:NOk N d)(hr:∃e,N r=some e)(h2:2<=r):
  Fc zQ 191 #[ptr pa,u32 r,.agg (bJ d).toArray] C (λv C'=>v=iv 0/\ik pa cap used (up N r (some d)) C'):=by
 have h0:=h;obtain⟨vl,vf,l,fr,Cl,Cf,rfl,hl,hf,ho⟩:=h;have hx:=cz.2 (.inr hr:live N r);rw[ho.BS]at hx;obtain⟨p,hg,hx⟩:∃p,l[r]? =some p/\p.tk=true:=by
  cases hg:l[r]? with
  |none=>rw[hg]at hx;simp at hx
  |some p=>rw[hg]at hx;exact⟨p,rfl,hx⟩
 refine aK λg=>G9 λb1 _=>?_;refine ae.aJ (Br.no (au.q ?_));refine aa.eq (y5 h0 hd) (ae.fX (Br.F (aa.eq (PS h0 hr h2) (ae.fX (Br.F (DR.self (Nil.ptr ?_)))))));refine ag.mk (Ld.mk zM rfl ?_);refine au.q ?_;refine hl.T8 (A:=[_,_]) (B:=Cf) (r:=p.row) (xs:=bJ d) (n:=3) (by rw[xas,hg];rfl) ⟨rfl,by omega⟩ (by intro x hx;simp[bJ,u32]at hx;rcases hx with rfl|rfl|rfl<;>rfl) λC' hl'=>?_;have e:(bJ d++p.row.drop 3)=(oq.mk (d.v:Int) d.lo d.hi true p.c).row:=by simp[bJ,oq.row,hx]
 rw[e,mX]at hl';exact aQ.mk .tail ⟨rfl,vl,vf,_,fr,C',Cf,rfl,hl',hf,ho.zj h2 hg hx d⟩
theorem SG{pa cap used r:Nat}{N:eA}{C:Hp}(h:ik pa cap used N C)(hr:∃e,N r=some e)(h2:2<=r):
  Fc zQ 168 #[ptr pa,u32 r] C (λv C'=>v=iv 0/\ik pa cap (used-1) (up N r none) C'):=by
 have h0:=h;obtain⟨vl,vf,l,fr,Cl,Cf,rfl,hl,hf,ho⟩:=h;have hx:=cz.2 (.inr hr:live N r);rw[ho.BS]at hx;obtain⟨p,hg,hx⟩:∃p,l[r]? =some p/\p.tk=true:=by
  cases hg:l[r]? with
  |none=>rw[hg]at hx;simp at hx
  |some p=>rw[hg]at hx;exact⟨p,rfl,hx⟩
 obtain⟨hok,hu0⟩:=ho.free h2 hg hx;have hcap:=ho.cap;have Jk:=ho.used;refine aK λg=>Hu (ae.aJ (Br.no (aa.eq (PS h0 hr h2) (ae.fX (Br.F (Nil.ptr ?_))))));refine ag.mk (Ld.mk zM rfl ?_);refine Build.mk (cs:=(oq.mk 0 0 0 false 0).row) zK (hl.PC (A:=[_]) (B:=Cf) (i:=r) (by rw[xau];exact(xah.1 hg).1) rfl (row_one _) λC' hl'=>?_);rw[mX]at hl';simp only[xaN,xbe];refine Nil.ptr (Ld.f ?_);refine ak.int (e:=82) zK zK zK λbx=>?_;have e1:(bx,Obj.cells (aA .u32 [(r:Int)]) 82 zZ)::(pa,Obj.cells #[iv (cap:Int),vl,vf,iv (used:Int)] 199 zZ)::(C'++Cf)=(bx,Obj.cells (aA .u32 [(r:Int)]) 82 zZ)::(pa,Obj.cells #[iv (cap:Int),vl,vf,iv (used:Int)] 199 zZ)::C'++(Cf++[]):=by simp
 rw[e1];refine hf.app (x:=(r:Int)) (B:=[]) (by exact .head _) zP zP λv' Cf' Oq=>?_;have QS:aR 82 .u32 v' ((fr++[r]).map (Nat.cast:Nat->Int)) Cf':=by rw[xaF];exact Oq
 have hone:v'.oneCell'=true:=by obtain⟨a,c,e⟩:=aO.len QS;rw[e];rfl
 simp only[xaN,xaG];refine Nil.ptr (ag.mk (St.one (by exact .tail (.head _)) hone zI rfl ?_));refine Nil.ptr (Ld.f ?_);refine ae.cf (b:=1) (Nil.ptr (ag.mk (St.one (by exact .tail (.head _)) rfl zI rfl ?_)));exact aQ.mk .tail ⟨rfl,vl,v',_,_,C',Cf',rfl,hl',QS,hok⟩
def nK(d:Nd):zV:=.agg (bJ d).toArray
abbrev Ty(v:zV)(r:Nat):Prop:=v=u32 r
theorem I9:Tryz.prog.underlying 201=some (.struct (Tryz.prog.fieldsOf 201)):=by kernel_rfl
theorem qe(a b:Nd):Dz zQ 201 (nK a) (nK b) (decide (a=b)):=by
 refine Dz.flat (fs:=#[⟨"Var",3,0,false, "", "",0⟩,⟨"Lo",82,1,false, "", "",8⟩,⟨"Hi",82,2,false, "", "",12⟩]) zK zK ?_ ?_
 ·intro f hf;simp only[xag,xaw,xa1]at hf;rcases hf with rfl|rfl|rfl
  ·exact⟨by decide,_,_,rfl,rfl,.inl ⟨.i64,_,_,by kernel_rfl,rfl,rfl⟩⟩
  ·exact⟨by decide,_,_,rfl,rfl,.inl ⟨.u32,_,_,by kernel_rfl,rfl,rfl⟩⟩
  exact⟨by decide,_,_,rfl,rfl,.inl ⟨.u32,_,_,by kernel_rfl,rfl,rfl⟩⟩
 obtain⟨a1,a2,a3⟩:=a;obtain⟨b1,b2,b3⟩:=b;simp[bJ,u32];omega
theorem lq(a:Nd):mE zQ 201 (nK a):=by
 refine mE.flat (fs:=#[⟨"Var",3,0,false, "", "",0⟩,⟨"Lo",82,1,false, "", "",8⟩,⟨"Hi",82,2,false, "", "",12⟩]) zK ?_;intro f hf;simp only[xag,xaw,xa1]at hf;rcases hf with rfl|rfl|rfl
 ·exact⟨by decide,_,rfl,.inl ⟨.i64,_,_,by kernel_rfl,rfl,rfl⟩⟩
 ·exact⟨by decide,_,rfl,.inl ⟨.u32,_,_,by kernel_rfl,rfl,rfl⟩⟩
 exact⟨by decide,_,rfl,.inl ⟨.u32,_,_,by kernel_rfl,rfl,rfl⟩⟩
theorem Jb(a:Nd):Instr.sameBits 10000 (nK a) (nK a)=true:=ow 9998 (by intro x hx;simp[bJ,u32]at hx;rcases hx with rfl|rfl|rfl<;>exact .inl ⟨_,_,rfl⟩)
structure UM where
 b:Nat
 es:Array MapEntry
 ck:Nat
 l:List (Nd×Nat)
def Lo(ms:List UM):Hp:=ms.map λm=>(m.b,.map m.es m.ck)
structure Tl(ms:List UM)(n:Nat)(T:Nd->Option Nat):Prop where
 len:ms.length=n
 dV:∀(v:Nat) m,ms[v]? =some m->aT nK Ty m.es m.ck m.l
 var:∀(v:Nat) m,ms[v]? =some m->∀x∈m.l,x.1.v=v
 T:∀d,T d=(ms[d.v]?).bind λm=>bU m.l d
def nJ(pt n:Nat)(T:Nd->Option Nat)(C:Hp):Prop:=
 ∃vs Cs ms,C=(pt,.cells #[vs] 159 zZ)::(Cs++Lo ms)/\aO 160 1 vs (ms.map λm=>[.map (some m.b)]) Cs/\Tl ms n T
theorem qg{ms:List UM}{v:Nat}{m:UM}(h:ms[v]? =some m):(m.b,Obj.map m.es m.ck)∈Lo ms:=xam.2 ⟨m,xaz h,rfl⟩
theorem zN{es':Array MapEntry}{cE:Nat}{l':List (Nd×Nat)}:∀{ms:List UM} {v:Nat} {m:UM},ms[v]? =some m->cu m.b (.map m.es m.ck) (.map es' cE) (Lo ms) (Lo (ms.set v ⟨m.b,es',cE,l'⟩))
 | [],v,m,h=>by simp at h
 |x::ms,0,m,h=>by simp at h;subst h;exact .head _
 |x::ms,v+1,m,h=>by simp at h;exact .tail (zN h)
theorem ya{ms:List UM}{v:Nat}{m m':UM}(h:ms[v]? =some m)(hb:m'.b=m.b):(ms.set v m').map (λm=>[Value.map (some m.b)])=ms.map λm=>[Value.map (some m.b)]:=by
 rw[xc3];apply xbm;intro j;rw[xbG];split
 ·rename_i e;subst e;have hlt:=(xah.1 h).1;have e2:ms[v]=m:=by rw[xab hlt]at h;exact xbE h
  simp[hb,hlt,e2]
 rfl
theorem Tl.add{ms:List UM}{n:Nat}{T:Nd->Option Nat}(h:Tl ms n T){d:Nd}{m:UM}(hm:ms[d.v]? =some m){es':Array MapEntry}{cE r:Nat}(he:aT nK Ty es' cE (c8 m.l d r)):Tl (ms.set d.v ⟨m.b,es',cE,c8 m.l d r⟩) n (pO T d (some r)) where
 len:=by rw[xbZ];exact h.len
 dV:=λv m' hm'=>by
  rw[xbG]at hm';split at hm'
  ·split at hm'
   ·cases hm';exact he
   cases hm'
  exact h.dV v m' hm'
 var:=λv m' hm' x hx=>by
  rw[xbG]at hm';split at hm'
  ·rename_i e;split at hm'
   ·cases hm';subst e;simp only[c8]at hx;split at hx
    ·obtain⟨y,hy,rfl⟩:=xam.1 hx;split
     ·rfl
     exact h.var _ m hm y hy
    rcases xao.1 hx with hx|hx
    ·exact h.var _ m hm x hx
    simp at hx;subst hx;rfl
   cases hm'
  exact h.var v m' hm' x hx
 T:=λe=>by
  have hlt:=(xah.1 hm).1;by_cases ee:e=d
  ·subst ee;rw[iV,xbR hlt];simp[cP]
  rw[oU ee,h.T e];by_cases ev:d.v=e.v
  ·rw[<-ev,xbR hlt,hm];simp[cP,ee]
  rw[xbN ev]
theorem Tl.del{ms:List UM}{n:Nat}{T:Nd->Option Nat}(h:Tl ms n T){d:Nd}{m:UM}(hm:ms[d.v]? =some m){es':Array MapEntry}{cE:Nat}(he:aT nK Ty es' cE (wZ m.l d)):Tl (ms.set d.v ⟨m.b,es',cE,wZ m.l d⟩) n (pO T d none) where
 len:=by rw[xbZ];exact h.len
 dV:=λv m' hm'=>by
  rw[xbG]at hm';split at hm'
  ·split at hm'
   ·cases hm';exact he
   cases hm'
  exact h.dV v m' hm'
 var:=λv m' hm' x hx=>by
  rw[xbG]at hm';split at hm'
  ·rename_i e;split at hm'
   ·cases hm';subst e;exact h.var _ m hm x (xcP.1 hx|>.1)
   cases hm'
  exact h.var v m' hm' x hx
 T:=λe=>by
  have hlt:=(xah.1 hm).1;by_cases ee:e=d
  ·subst ee;rw[iV,xbR hlt];simp[x7]
  rw[oU ee,h.T e];by_cases ev:d.v=e.v
  ·rw[<-ev,xbR hlt,hm];simp[x7,ee]
  rw[xbN ev]
theorem j3{pt n v:Nat}{T:Nd->Option Nat}{C:Hp}(h:nJ pt n T C)(hv:v<n):Rd zQ 213 #[ptr pt,iv (v:Int)] C (· =iv 0):=by
 obtain⟨vs,Cs,ms,rfl,hs,ho⟩:=h;refine aK λg=>GP (ae.aJ (Br.no (ae.lss ?_)));rw[xaq (by omega:¬((v:Int)<0))];refine cr.or false (λ_=>?_) rfl λ_=>Br.no (bE.mk (.refl _) rfl);apply Nil.ptr;refine ag.mk (Ld.mk zM rfl ?_);refine hs.bF ?_;rw[xau,ho.len];exact ae.mh ⟨rfl,by rw[xaq zO]⟩
theorem tT{pt n:Nat}{T:Nd->Option Nat}{C:Hp}{d:Nd}(h:nJ pt n T C)(hv:d.v<n):
  Rd zQ 231 #[ptr pt,nK d] C (· =.tuple #[u32 ((T d).getD 0),.bool (T d).isSome]):=by
 have h0:=h;obtain⟨vs,Cs,ms,rfl,hs,ho⟩:=h;obtain⟨m,hm⟩:∃m,ms[d.v]? =some m:=⟨_,xab (by rw[ho.len];exact hv)⟩;refine aK λg=>GH λb1 _=>?_;refine Ld.f ?_;refine aa.eq (j3 h0 hv) (ae.fX (Br.F (Nil.ptr ?_)));refine ag.mk (Ld.mk zM rfl ?_);refine Ld.f ?_;refine hs.Wp (x:=.map (some m.b)) (by rw[xas,hm];rfl) (λ_ h=>by exact .tail _ (.tail _ (xad _ h))) ?_;refine au.q ?_;have hmem:(m.b,Obj.map m.es m.ck)∈(b1,Obj.cells (Value.cells (nK d)) 201 zZ)::(pt,.cells #[vs] 159 zZ)::(Cs++Lo ms):=.tail _ (.tail _ (xaa _ (qg hm)));have hT:T d=bU m.l d:=by rw[ho.T,hm];rfl
 rw[hT];cases hg:bU m.l d with
 |some r=>
  refine aT.LR (ke:=nK) (k:=d) qe lq (ho.dV _ m hm) hmem hg ?_;rintro v rfl;exact Ext.mk rfl (Ext.mk rfl (bE.mk .tail rfl))
 |none=>
  refine aT.xZ (ke:=nK) (k:=d) qe lq (ho.dV _ m hm) hmem hg ?_;exact Ext.mk rfl (Ext.mk rfl (bE.mk .tail rfl))
theorem IF{pt n r:Nat}{T:Nd->Option Nat}{C:Hp}{d:Nd}(h:nJ pt n T C)(hv:d.v<n)(hT:T d=none):
  Fc zQ 192 #[ptr pt,nK d,u32 r] C (λv C'=>v=iv 0/\nJ pt n (pO T d (some r)) C'):=by
 have h0:=h;obtain⟨vs,Cs,ms,rfl,hs,ho⟩:=h;obtain⟨m,hm⟩:∃m,ms[d.v]? =some m:=⟨_,xab (by rw[ho.len];exact hv)⟩;have hTm:bU m.l d=none:=by rw[ho.T,hm]at hT;exact hT
 refine aK λg=>G8 λb1 _=>?_;refine Ld.f ?_;refine aa.eq (j3 h0 hv) (ae.fX (Br.F (Nil.ptr ?_)));refine ag.mk (Ld.mk zM rfl ?_);refine Ld.f ?_;refine hs.Wp (x:=.map (some m.b)) (by rw[xas,hm];rfl) (λ_ h=>by exact .tail _ (.tail _ (xad _ h))) ?_;refine au.q ?_;have hmem:(m.b,Obj.map m.es m.ck)∈(b1,Obj.cells (Value.cells (nK d)) 201 zZ)::(pt,.cells #[vs] 159 zZ)::(Cs++Lo ms):=.tail _ (.tail _ (xaa _ (qg hm)));refine aT.xZ (ke:=nK) (k:=d) qe lq (ho.dV _ m hm) hmem hTm ?_;refine Ext.mk rfl (Ext.mk rfl (Br.no (DR.self (Nil.ptr ?_))));refine ag.mk (Ld.mk zM rfl ?_);refine Ld.f ?_;refine hs.Wp (x:=.map (some m.b)) (by rw[xas,hm];rfl) (λ_ h=>by exact .tail _ (.tail _ (xad _ h))) ?_;refine au.q ?_;refine aT.OM (ke:=nK) (k:=d) (vr:=Ty) (x:=r) qe lq Jb (ho.dV _ m hm) rfl λes' cE he=>⟨_,.tail (.tail ((zN (l':=c8 m.l d r) hm).aH Cs)),?_⟩;exact aQ.mk .tail ⟨rfl,vs,Cs,_,rfl,by rw[ya hm];exact hs;rfl,ho.add hm he⟩
theorem xU{pt n r:Nat}{T:Nd->Option Nat}{C:Hp}{d:Nd}(h:nJ pt n T C)(hv:d.v<n)(hT:T d=some r):
  Fc zQ 167 #[ptr pt,nK d] C (λv C'=>v=iv 0/\nJ pt n (pO T d none) C'):=by
 have h0:=h;obtain⟨vs,Cs,ms,rfl,hs,ho⟩:=h;obtain⟨m,hm⟩:∃m,ms[d.v]? =some m:=⟨_,xab (by rw[ho.len];exact hv)⟩;have hTm:bU m.l d=some r:=by rw[ho.T,hm]at hT;exact hT
 refine aK λg=>Hv λb1 _=>?_;refine Ld.f ?_;refine aa.eq (j3 h0 hv) (ae.fX (Br.F (Nil.ptr ?_)));refine ag.mk (Ld.mk zM rfl ?_);refine Ld.f ?_;refine hs.Wp (x:=.map (some m.b)) (by rw[xas,hm];rfl) (λ_ h=>by exact .tail _ (.tail _ (xad _ h))) ?_;refine au.q ?_;have hmem:(m.b,Obj.map m.es m.ck)∈(b1,Obj.cells (Value.cells (nK d)) 201 zZ)::(pt,.cells #[vs] 159 zZ)::(Cs++Lo ms):=.tail _ (.tail _ (xaa _ (qg hm)));refine aT.LR (ke:=nK) (k:=d) qe lq (ho.dV _ m hm) hmem hTm ?_;rintro v rfl;refine Ext.mk rfl (Ext.mk rfl (Un.not (Br.no (DR.of (R:=(b1,Obj.cells (Value.cells (nK d)) 201 zZ)::(pt,.cells #[vs] 159 zZ)::Cs) (.cons (.cons .left)) (Nil.ptr ?_)))));refine ag.mk (Ld.mk zM rfl ?_);refine Ld.f ?_;refine hs.Wp (x:=.map (some m.b)) (by rw[xas,hm];rfl) (λ_ h=>by exact .tail _ (.tail _ h)) ?_;refine au.q ?_;refine aT.agd (ke:=nK) (k:=d) qe lq (ho.dV _ m hm) hmem λes' he=>⟨_,.tail (.tail ((zN (l':=wZ m.l d) hm).aH Cs)),?_⟩;exact⟨.cons (.cons .left),aQ.mk .tail ⟨rfl,vs,Cs,_,rfl,by rw[ya hm];exact hs;rfl,ho.del hm he⟩⟩
theorem Tl.start(n:Nat)(bs:zL)(h:bs.length=n):Tl (bs.map λb=>⟨b,#[],0,[]⟩) n (λ_=>none) where
 len:=by simpa using h
 dV:=λv m hm=>by
  rw[xas]at hm;obtain⟨b,_,rfl⟩:=xdv.1 hm;exact aT.empty
 var:=λv m hm x hx=>by
  rw[xas]at hm;obtain⟨b,_,rfl⟩:=xdv.1 hm;simp at hx
 T:=λd=>by
  rw[xas];cases bs[d.v]? <;>simp[bU]
theorem CD(x:zV):∀n:Nat,(List.replicate n [x]).flatten=List.replicate n x
 |0=>rfl
 |n+1=>by rw[xdm,xcz,xdm,CD x n];rfl
theorem TE{n:Nat}(hn:1<=n/\n<=64):Fc zQ 47 #[iv (n:Int)] [] (λv H=>∃pt,v=.tuple #[ptr pt,iv 0]/\nJ pt n (λ_=>none) H):=by
 refine aK λg=>Nx (ae.lss ?_);rw[xaq zO];refine cr.or false (λ_=>ae.gtr ⟨rfl,by rw[xaq zO]⟩) rfl λ_=>Br.no ?_;refine⟨.i64,.i64,n,n,rfl,rfl,xak _,by omega,by omega,?_⟩;intro bs _;refine Build.mk (cs:=[.slice (some ⟨bs,0,none⟩) n n]) zK λpt _=>?_;have hz:madeCells (Value.cells (.map none)) (n*1)=rows ((List.replicate n [Value.map none])++[]):=by
  apply xcZ;apply xbm;intro i;have:=CD (.map none) n;simp only[madeCells,rows,Value.cells,xd4,Array.toList_range,xas,xdH,xbO,xaG];rw[this,xdW];by_cases hi:i<n
  ·simp[hi,xeH]
  simp[hi]
 rw[hz];have hs0:aO 160 1 (.slice (some ⟨bs,0,none⟩) n n) (List.replicate n [Value.map none]) [(bs,.cells (rows ((List.replicate n [Value.map none])++[])) 160 zZ)]:=
  aO.mk' (λr hr=>by rw[xaG]at hr;rw[xca hr];rfl) zI zI
 refine⟨λvs H=>∃(j:Nat) (bl:zL) (Cs:Hp),vs=[iv (j:Int)]/\bl.length=j/\j<=n/\H=(pt,.cells #[.slice (some ⟨bs,0,none⟩) n n] 159 zZ)::(Cs++Lo (bl.map λb=>⟨b,#[],0,[]⟩))/\
  aO 160 1 (.slice (some ⟨bs,0,none⟩) n n) ((bl.map λb=>[Value.map (some b)])++List.replicate (n-j) [Value.map none]) Cs,λvs _=>n-bj vs 0,JE.mk ⟨0,[],_,rfl,rfl,by omega,by simp only[Lo,xcJ,xaG];rfl,by simpa using hs0⟩,?_⟩
 rintro w H ⟨j,bl,Cs,hw,Ou,hj,rfl,hs⟩ gs;simp only[xay,xa5]at hw;subst hw;refine ae.cU (Br.dec (λhlt=>?_) (λhlt=>?_))
 ·refine Nil.ptr (Ld.f ?_);intro b _;have hlen:((bl.map λb=>[Value.map (some b)])++List.replicate (n-j) [Value.map none]).length=n:=by simp;omega
  refine aO.aed (A:=[_,_]) (B:=Lo (bl.map λb=>⟨b,#[],0,[]⟩)) hs (i:=j) (y:=.map none) zO ?_ rfl λC' hs'=>?_
  ·rw[xbC (by simp[Ou])];simp only[xau,Ou,xcC];rw[xdW,xae zO]
  refine ae.inc ?_;have e:((bl.map λb=>[Value.map (some b)])++List.replicate (n-j) [Value.map none]).set j [Value.map (some b)]=((bl++[b]).map λb=>[Value.map (some b)])++List.replicate (n-(j+1)) [Value.map none]:=by
   rw[xcF _ _ (by simp[Ou])];simp only[xau,Ou,xcC];rw[show n-j=(n-(j+1))+1 by omega,xdm,xcE,xaF];simp
  rw[e]at hs';refine az.of ?_ ⟨j+1,bl++[b],C',rfl,by simp[Ou],by omega,rfl,hs'⟩ (by show n-(((j+1:Nat):Int).toNat)<n-(((j:Nat):Int).toNat);omega);refine aI.perm ?_;simp only[xaN,xbe,Lo,xaF,xbL];refine(List.Perm.swap _ _ _).trans (.cons _ ?_);rw[<-xai];exact(List.perm_append_singleton _ _).symm
 obtain rfl:j=n:=by omega
 refine aQ.here ⟨pt,rfl,_,Cs,_,rfl,?_,Tl.start _ bl Ou⟩;rw[xcC]at hs;simpa[xbL,Function.comp_def]using hs
theorem VW{n:Nat}(hn:2<=n/\n<=1048576):Fc zQ 96 #[iv (n:Int)] [] (λv H=>∃pa,v=.tuple #[ptr pa,iv 0]/\ik pa n 2 (λ_=>none) H):=by
 refine aK λg=>MO (ae.lss ?_);rw[xaq zO];refine cr.or false (λ_=>ae.gtr ⟨rfl,by rw[xaq zO]⟩) rfl λ_=>Br.no ?_;refine Build.mk (cs:=[iv (n:Int),.slice none 0 0,.slice none 0 0,iv 2]) zK λpa _=>?_;refine⟨λvs H=>∃(j:Nat) (vl:zV) (Cl:Hp),vs=[u32 j]/\j<=2/\H=(pa,.cells #[iv (n:Int),vl,.slice none 0 0,iv 2] 199 zZ)::Cl/\
  aO 203 5 vl ((List.range j).map λr=>(oq.mk (-1) r r true 255).row) Cl,λvs _=>2-bj vs 0,JE.mk ⟨0,_,[],rfl,by omega,rfl,aO.nil _ _⟩,?_⟩
 rintro w H ⟨j,vl,Cl,hw,hj,rfl,hs⟩ gs;simp only[xay,xa5]at hw;subst hw;refine ae.cU (b:=2) (Br.dec (λhlt=>?_) (λhlt=>?_))
 ·refine Nil.ptr (Ld.f ?_);refine Build.mk (cs:=[iv (-1),u32 j,u32 j]) zK (Build.mk (cs:=(oq.mk (-1) j j true 255).row) zK (ak.one (z:=.agg #[iv 0,.int .u32 0,.int .u32 0,.bool false,.int .u8 0]) (e:=203) (k:=5) zK zK zK zD rfl λbx=>?_));have e1:∀x y:Nat×Obj,x::y::Cl=[x,y]++(Cl++[]):=λx y=>by simp
  rw[e1];refine hs.Fu (A:=[_,_]) (B:=[]) (r:=(oq.mk (-1) j j true 255).row) (by exact .head _) rfl (row_one _) (by exact⟨[iv 0,.int .u32 0,.int .u32 0,.bool false,.int .u8 0],rfl,rfl⟩) zP zP λv' C' hs'=>?_;simp only[xaN,xbe,xaG];have hone:v'.oneCell'=true:=by obtain⟨a,c,e⟩:=hs'.len;rw[e];rfl
  refine Nil.ptr (ag.mk (St.one (by exact .tail (.head _)) hone zI rfl ?_));refine ae.inc (az.of .tail ⟨j+1,v',C',rfl,by omega,rfl,?_⟩ (by show 2-(((j+1:Nat):Int).toNat)<2-(((j:Nat):Int).toNat);omega));rw[xcO,xaF];exact hs'
 obtain rfl:j=2:=by omega
 refine aQ.here ⟨pa,rfl,vl,_,[⟨-1,0,0,true,255⟩,⟨-1,1,1,true,255⟩],[],Cl,[],by rw[xaG];rfl,hs,aR.nil,?_⟩;exact {
  cap:=by simp;omega
  two:=by simp
  const:=λr hr=>by
   have:r=0\/r=1:=by omega
   rcases this with rfl|rfl
   ·exact⟨_,rfl,rfl,rfl,rfl,rfl⟩
   exact⟨_,rfl,rfl,rfl,rfl,rfl⟩
  nd:=λr hr=>by rw[xaH zP];rfl
  n0:=λ_ _=>rfl
  nn:=λr p hr hp _=>by rw[xaH zP]at hp;cases hp
  Tg:=by simp
  lY:=λr=>by
   simp only[xaw,false_iff,not_exists,not_and];intro p hp;have hlt:=(xah.1 hp).1;simp at hlt;have:r=0\/r=1:=by omega
   rcases this with rfl|rfl<;>(simp at hp;subst hp;simp)
  used:=rfl}
structure wR where
 pa:Nat
 pt:Nat
 vu:zV
 vh:zV
 vo:zV
 vl:zV
 vt:zV
 CA:Hp
 CT:Hp
 CU:Hp
 CH:Hp
 CO:Hp
 CL:Hp
 CR:Hp
def wR.cells(b:wR)(n:Nat):Array zV:=#[ptr b.pa,ptr b.pt,b.vu,b.vh,iv (n:Int),b.vo,b.vl,b.vt]
def wR.hp(b:wR)(kp n:Nat):Hp:=(kp,.cells (b.cells n) 124 zZ)::(b.CA++(b.CT++(b.CU++(b.CH++(b.CO++(b.CL++b.CR))))))
structure Zk(b:wR)(K:Kd)(ord ah tr:zL):Prop where
 ar:ik b.pa K.cap K.used K.N b.CA
 ut:nJ b.pt K.n K.T b.CT
 us:aR 21 .i32 b.vu (iw K.us) b.CU
 ho:aR 21 .i32 b.vh (iw K.ho) b.CH
 od:aR 3 .i64 b.vo (iw ord) b.CO
 lv:aR 3 .i64 b.vl (iw ah) b.CL
 tr:aR 3 .i64 b.vt (iw tr) b.CR
 ul:K.us.length=K.ho.length/\K.us.length<=1048576
 rC:K.n<=64
 ol:ord.length=K.n/\ah.length=K.n
def cS(kp:Nat)(K:Kd)(ord ah tr:zL)(C:Hp):Prop:=∃b:wR,C=b.hp kp K.n/\Zk b K ord ah tr
section
variable {kp:Nat} {K:Kd} {ord ah tr:zL} {C:Hp}
theorem cS.cap(h:cS kp K ord ah tr C):K.cap<=1048576:=by
 obtain⟨b,rfl,hb⟩:=h;exact(hb.ar.lt (r:=0) (.inl zD)).2
theorem cS.lt(h:cS kp K ord ah tr C){r:Nat}(hr:live K.N r):r<1048576:=by
 obtain⟨b,rfl,hb⟩:=h;have:=hb.ar.lt hr;omega
theorem bL(N:eA)(r:Nat):(got N r).length=3/\∀x∈got N r,x.oneCell'=true:=by
 unfold got;split
 ·exact⟨rfl,by intro x hx;simp[u32]at hx;rcases hx with rfl|rfl|rfl<;>rfl⟩
 split
 ·exact⟨rfl,by intro x hx;simp[bJ,u32]at hx;rcases hx with rfl|rfl|rfl<;>rfl⟩
 exact⟨rfl,by intro x hx;simp[u32]at hx;rcases hx with rfl|rfl|rfl<;>rfl⟩
theorem m7(h:cS kp K ord ah tr C){r:Nat}(hr:r<4294967296):Rd zQ 169 #[ptr kp,u32 r] C (· =.bool (fU K.N r)):=by
 obtain⟨b,rfl,hb⟩:=h;refine aK λg=>Ht (Nil.ptr (Ld.f ?_));refine aa.eq (Rq hb.ar hr) (Ext.two λb8 _=>(St.whole (r:=got K.N r) (by exact .head _) rfl (bL _ _).1 (bL _ _).2 ?_));refine ae.jM (bE.mk .tail ?_);cases fU K.N r<;>rfl
theorem m6(h:cS kp K ord ah tr C){r:Nat}(hr:r<4294967296):Rd zQ 166 #[ptr kp,u32 r] C (· =.agg (got K.N r).toArray):=by
 obtain⟨b,rfl,hb⟩:=h;refine aK λg=>Hw λb1 _=>?_;refine Nil.ptr (Ld.f ?_);refine aa.eq (Rq hb.ar hr) (Ext.two λyY _=>(St.whole (r:=got K.N r) (by exact .head _) rfl (bL _ _).1 (bL _ _).2 ?_));refine au.whole (r:=got K.N r) (by exact .head _) (bL _ _).1 ?_;refine St.whole (r:=got K.N r) (by exact .tail (.head _)) rfl (bL _ _).1 (bL _ _).2 ?_;refine au.whole (r:=got K.N r) (by exact .tail _ (.head _)) (bL _ _).1 ?_;exact bE.mk (.skip .tail) rfl
theorem BW(h:cS kp K ord ah tr C){m:Nat}(hm:m<=1099511627776)(hu:K.used<=1048576):Rd zQ 187 #[ptr kp,iv (m:Int)] C (· =.bool (decide (K.used+m<=K.cap))):=by
 obtain⟨b,rfl,hb⟩:=h;refine aK λg=>Hg (DR.self (Nil.ptr (Ld.f ?_)));refine Nil.ptr (Ld.f ?_);refine aa.eq (Dn hb.ar) (⟨.refl _,?_⟩);refine ae.eZ (aa.eq (Fv hb.ar) (⟨.refl _,?_⟩));exact ae.AR (bE.mk (.refl _) rfl)
def sr(K:Kd)(r:Nat):zL:=if r<2 then K.us else K.us.set r (K.use r+1)
theorem iH(r:Nat):(sr K r).length=K.us.length:=by unfold sr;split<;>simp
theorem mJ{r:Nat}(h2:2<=r)(hr:r<K.us.length):(sr K r).getD r 0=K.use r+1:=by
 unfold sr;rw[xac zO];simp[List.getD,hr]
theorem uf{r s:Nat}(h:s≠r):(sr K r).getD s 0=K.use s:=by
 unfold sr Kd.use;split
 ·rfl
 simp[List.getD,xbN (xbp h)]
theorem DZ(h:cS kp K ord ah tr C){r:Nat}(hr:r<2\/r<K.us.length)(hb:K.use r+1<2147483648):
  Fc zQ 190 #[ptr kp,u32 r] C (λv C'=>v=.tuple #[]/\cS kp {K with us:=sr K r} ord ah tr C'):=by
 obtain⟨b,rfl,hO⟩:=h;refine aK λg=>He (ae.iF (b:=1) (Br.dec (λh1=>?_) (λh1=>?_)))
 ·have hr':r<K.us.length:=by omega
  refine Nil.ptr (Ld.f ?_);refine hO.us.ld (x:=((K.use r:Nat):Int)) (bW hr') (bB.sub (.cons (.app (.app .left)))) (ae.inc (hO.us.mT (.cons (.app (.app .left))) (by simpa using hr') λC' ho=>?_));refine aQ.here ⟨rfl,{b with CU:=C'},rfl,?_⟩;have e:sr K r=K.us.set r (K.use r+1):=by unfold sr;rw[xac zO]
  exact {hO with us:=by rw[gx]at ho;rw[e];exact ho,ul:=by simp only[e,xbZ];exact hO.ul}
 refine aQ.here ⟨rfl,b,rfl,?_⟩;have e:sr K r=K.us:=by unfold sr;rw[xae zO]
 rw[e];exact hO
end
section
variable {kp:Nat} {K:Kd} {ord ah tr:zL} {C:Hp}
theorem ig{l:zL}{r s x:Nat}(hr:r<l.length):(l.set r x).getD s 0=if s=r then x else l.getD s 0:=by
 simp only[List.getD,xbG];by_cases e:r=s
 ·subst e;simp[hr]
 rw[xac e,xac (xbp e)]
theorem vy(l:zL)(s:Nat):(l++[0]).getD s 0=l.getD s 0:=by
 simp only[List.getD,xeb];split
 ·rfl
 rename_i h;rw[xaH (by omega:l.length<=s)];cases hs:s-l.length<;>simp[hs]
def OL:Hp->Nat
 |_::(_,Obj.cells c _ _)::_=>(match c[2]? with|some (Value.slice _ n _)=>n|_=>0)
 |_=>0
theorem A6{b:wR}{x:Nat×Obj}{n m:Nat}{a:Option Addr}{cp:Nat}(h:b.vu=.slice a m cp):OL (x::b.hp kp n)=m:=by simp[OL,wR.hp,wR.cells,h]
theorem IL(h:cS kp K ord ah tr C){d:Nd}(hd:NOk K.N d)(hv:d.v<K.n)(hT:K.T d=none)(hroom:K.used<K.cap)(hlo:d.lo<2\/d.lo<K.us.length)(hhi:d.hi<2\/d.hi<K.us.length)
 (hb:∀s,K.use s+2<2147483648):
  Fc zQ 204 #[ptr kp,nK d] C (λv C'=>∃r dm cB,v=u32 r/\K.N r=none/\2<=r/\r<K.cap/\dm.length=cB.length/\r<dm.length/\K.us.length<=dm.length/\dm.getD r 0=0/\
   (∀s,2<=s->s≠r->dm.getD s 0=K.use s+e1 (some d) s)/\(∀s,s<2->dm.getD s 0=K.use s)/\cB.getD r 0=0/\(∀s,s≠r->cB.getD s 0=K.hold s)/\
   cS kp {K with N:=up K.N r (some d),T:=pO K.T d (some r),used:=K.used+1,us:=dm,ho:=cB} ord ah tr C'):=by
 have hcap:=h.cap;obtain⟨b,rfl,hO⟩:=h;have Qu:=hO.ul;refine aK λg=>GV λb1 _=>?_;refine DR.of (R:=(b1,.cells (Value.cells (nK d)) 201 zZ)::(kp,.cells (b.cells K.n) 124 zZ)::[]) (.cons (.cons .nil)) (Nil.ptr (Ld.f ?_));refine au.q ?_;refine aa.fq (SA hO.ar hd hroom) ?_;rintro v CA' ⟨r,rfl,h2,hrc,hN,har⟩;refine⟨.cons (.cons .nil),Ext.mk rfl (Ext.mk rfl ?_)⟩;refine⟨λ_ H=>∃(b':wR) (dm cB:zL),H=(b1,.cells (Value.cells (nK d)) 201 zZ)::b'.hp kp K.n/\Zk b' {K with N:=up K.N r (some d),used:=K.used+1,us:=dm,ho:=cB} ord ah tr/\
   K.us.length<=dm.length/\(∀s,dm.getD s 0=K.use s)/\∀s,cB.getD s 0=K.hold s,
  λ_ H=>r+1-OL H,JE.mk ⟨{b with CA:=CA'},K.us,K.ho,rfl,{hO with ar:=har,ul:=Qu},xak _,λ_=>rfl,λ_=>rfl⟩,?_⟩
 rintro H ⟨b',dm,cB,rfl,Ak,hle,hu,hh⟩ gs;have aa9:=Ak.ul;simp only at aa9;refine aM.q (Nil.ptr (Ld.f ?_));refine Ak.us.bF ?_;rw[aq];refine ae.mh (Br.dec (λhge=>?_) (λhge=>?_))
 ·have hge:dm.length<=r:=hge;refine Nil.ptr (Ld.f ?_);refine ak.int (e:=21) zK zK zK λbx=>?_;refine Ak.us.mD (.cons (.cons (.cons (.app (.app .left))))) (by exact .head _) zP zP λvu' Tn xj=>?_;refine Nil.ptr (ag.mk (St.one (by exact .tail (.tail (.head _))) xj.one (by simp[wR.cells]) rfl ?_));refine Nil.ptr (Ld.f ?_);refine ak.int (e:=21) zK zK zK λby'=>?_;refine Ak.ho.mD (.cons (.cons (.cons (.cons (.app (.app (.app .left))))))) (by exact .head _) zP zP λvh' V9 pQ=>?_;refine Nil.ptr (ag.mk (St.one (by exact .tail (.tail (.tail (.head _)))) pQ.one (by simp[wR.cells]) rfl ?_));have e0:∀l:zL,iw l++[0]=iw (l++[0]):=λl=>by rw[cc];rfl
  rw[e0]at xj pQ;refine az.of (.skip (.skip (.refl _))) ⟨{b' with vu:=vu',vh:=vh',CU:=Tn,CH:=V9},dm++[0],cB++[0],rfl,{Ak with us:=xj,ho:=pQ,ul:=by simp at aa9⊢;omega},by simp;omega,λs=>by rw[vy,hu],λs=>by rw[vy,hh]⟩ ?_;obtain⟨a1,c1,e1⟩:=aO.len Ak.us;obtain⟨a2,c2,e2⟩:=aO.len xj;have f1:=A6 (b:=b') (x:=(b1,.cells (Value.cells (nK d)) 201 zZ)) (kp:=kp) (n:=K.n) e1;have f2:=A6 (b:={b' with vu:=vu',vh:=vh',CU:=Tn,CH:=V9}) (x:=(b1,.cells (Value.cells (nK d)) 201 zZ)) (kp:=kp) (n:=K.n) e2;rw[f1];refine xaL (Nat.le_of_eq (xb2 (λz=>r+1-z) f2)) ?_;simp;omega
 have hge:¬dm.length<=r:=hge;have hr1:r<dm.length:=by omega
 have rK:r<cB.length:=by omega
 refine DR.of (R:=(kp,.cells (b'.cells K.n) 124 zZ)::[]) (.skip (.cons .nil)) (Nil.ptr (Ld.f ?_));refine Nil.ptr (Ld.f ?_);refine Ak.us.mT (x:=0) (.cons (.cons (.app (.app .left)))) (by simpa using hr1) λTn xj=>?_;refine Ak.ho.mT (x:=0) (.cons (.cons (.app (.app (.app .left))))) (by simpa using rK) λV9 pQ=>?_;have e0:∀l:zL,(iw l).set r 0=iw (l.set r 0):=λl=>gx l r 0;rw[e0]at xj pQ;have lor:d.lo≠r:=fC hd.lo h2 hN;have hir:d.hi≠r:=fC hd.hi h2 hN;refine Ld.f ?_;have u0:∀s,(dm.set r 0).getD s 0=if s=r then 0 else K.use s:=λs=>by rw[ig hr1];split;rfl;exact hu s
 have h0:∀s,(cB.set r 0).getD s 0=if s=r then 0 else K.hold s:=λs=>by rw[ig rK];split;rfl;exact hh s
 have kE:cS kp {K with N:=up K.N r (some d),used:=K.used+1,us:=dm.set r 0,ho:=cB.set r 0} ord ah tr (({b' with CU:=Tn,CH:=V9}:wR).hp kp K.n):=⟨_,rfl,{Ak with us:=xj,ho:=pQ,ul:=by simp;omega}⟩;refine aa.fq (DZ kE zP (by have:=hb d.lo;show(dm.set r 0).getD d.lo 0+1<_;rw[u0,xac lor];omega)) ?_;rintro v C1 ⟨rfl,gH⟩;refine Ld.f ?_;have u1:∀s,(sr {K with N:=up K.N r (some d),used:=K.used+1,us:=dm.set r 0,ho:=cB.set r 0} d.lo).getD s 0=(if s=r then 0 else K.use s)+(if 2<=s/\s=d.lo then 1 else 0):=λs=>by
  by_cases e:s=d.lo
  ·by_cases h2:2<=s
   ·rw[xae (show 2<=s/\s=d.lo from⟨h2,e⟩),e,mJ zO zP];show(dm.set r 0).getD d.lo 0+1=_;rw[u0]
   rw[xac (show¬(2<=s/\s=d.lo)by omega)];unfold sr;rw[xae zO];show(dm.set r 0).getD s 0=_;rw[u0];rfl
  rw[xac (show¬(2<=s/\s=d.lo)by omega),uf e];show(dm.set r 0).getD s 0=_;rw[u0];rfl
 refine aa.fq (DZ gH (by rw[iH];simp;omega) (by
  have:=hb d.hi;show(sr _ d.lo).getD d.hi 0+1<_;rw[u1,xac hir];split<;>omega)) ?_
 rintro v C2 ⟨rfl,wO⟩;have akq:=wO;obtain⟨b3,rfl,hO3⟩:=wO;refine DR.self (Nil.ptr (Ld.f ?_));refine au.q ?_;refine aa.fq (IF hO3.ut hv hT) ?_;rintro v Zr ⟨rfl,Ye⟩;have u2:∀s,(sr {K with N:=up K.N r (some d),used:=K.used+1,us:=sr {K with N:=up K.N r (some d),used:=K.used+1,us:=dm.set r 0,ho:=cB.set r 0} d.lo,ho:=cB.set r 0} d.hi).getD s 0=(if s=r then 0 else K.use s)+(if 2<=s/\s=d.lo then 1 else 0)+(if 2<=s/\s=d.hi then 1 else 0):=λs=>by
  by_cases e:s=d.hi
  ·by_cases h2:2<=s
   ·rw[xae (show 2<=s/\s=d.hi from⟨h2,e⟩),e,mJ zO (by rw[iH];simp;omega)];show(sr _ d.lo).getD d.hi 0+1=_;rw[u1]
   rw[xac (show¬(2<=s/\s=d.hi)by omega)];unfold sr;rw[xae zO];show(sr _ d.lo).getD s 0=_;rw[u1];rfl
  rw[xac (show¬(2<=s/\s=d.hi)by omega),uf e];show(sr _ d.lo).getD s 0=_;rw[u1];rfl
 refine aQ.mk .tail ⟨r,_,_,rfl,hN,h2,hrc,?_,?_,?_,?_,?_,?_,?_,?_,{b3 with CT:=Zr},rfl,{hO3 with ut:=Ye}⟩
 ·rw[iH,iH];simp;omega
 ·rw[iH,iH];simp;omega
 ·rw[iH,iH];simp;omega
 ·rw[u2,xae rfl,xac (show¬(2<=r/\r=d.lo)by omega),xac (show¬(2<=r/\r=d.hi)by omega)]
 ·intro s Z3 hne;rw[u2,xac hne,dW];have c1:(2<=s/\s=d.lo)↔d.lo=s:=⟨λh=>h.2.symm,λh=>⟨Z3,h.symm⟩⟩;have c2:(2<=s/\s=d.hi)↔d.hi=s:=⟨λh=>h.2.symm,λh=>⟨Z3,h.symm⟩⟩;simp only[c1,c2];omega
 ·intro s hs;rw[u2,xac (show¬s=r by omega),xac (show¬(2<=s/\s=d.lo)by omega),xac (show¬(2<=s/\s=d.hi)by omega)];try simp
 ·rw[h0,xae rfl]
 intro s hne;rw[h0,xac hne]
end
section
variable {kp:Nat} {K:Kd} {ord ah tr:zL} {C:Hp} {S:Nat->aE.Fn}
theorem Vp(B:Hp)(v:Int)(r:Nat)(kv:zV):Rd zQ 189 #[kv,iv v,u32 r,u32 r] B (· =u32 r):=by
 exact aK λg=>pL (ae.bu (Br.T (bE.mk (.refl _) rfl)))
theorem Vr(h:cS kp K ord ah tr C){v lo hi r:Nat}(hne:lo≠hi)(hv:v<K.n)(hT:K.T ⟨v,lo,hi⟩=some r):
  Rd zQ 189 #[ptr kp,iv (v:Int),u32 lo,u32 hi] C (· =u32 r):=by
 obtain⟨b,rfl,hO⟩:=h;refine aK λg=>pL (ae.bu (Br.RV hne (Build.mk (cs:=bJ ⟨v,lo,hi⟩) zK ?_)));intro b3 _;refine St.p (λx hx=>by simp[bJ,u32]at hx;rcases hx with rfl|rfl|rfl<;>rfl) ?_;refine DR.self (Nil.ptr (Ld.f ?_));refine au.q ?_;refine aa.eq (tT (d:=⟨v,lo,hi⟩) hO.ut hv) ?_;rw[hT];exact⟨.refl _,Ext.mk rfl (Ext.mk rfl (Br.yes (bE.mk .tail rfl)))⟩
theorem Vq(h:cS kp K ord ah tr C){d:Nd}(hne:d.lo≠d.hi)(hd:NOk K.N d)(hv:d.v<K.n)(hT:K.T d=none)(hroom:K.used<K.cap)(hlo:d.lo<2\/d.lo<K.us.length)(hhi:d.hi<2\/d.hi<K.us.length)
 (hb:∀s,K.use s+2<2147483648):
  Fc zQ 189 #[ptr kp,iv (d.v:Int),u32 d.lo,u32 d.hi] C (λv C'=>∃r dm cB,v=u32 r/\K.N r=none/\2<=r/\r<K.cap/\dm.length=cB.length/\r<dm.length/\K.us.length<=dm.length/\dm.getD r 0=0/\
   (∀s,2<=s->s≠r->dm.getD s 0=K.use s+e1 (some d) s)/\(∀s,s<2->dm.getD s 0=K.use s)/\cB.getD r 0=0/\(∀s,s≠r->cB.getD s 0=K.hold s)/\
   cS kp {K with N:=up K.N r (some d),T:=pO K.T d (some r),used:=K.used+1,us:=dm,ho:=cB} ord ah tr C'):=by
 have h0:=h;obtain⟨b,rfl,hO⟩:=h;refine aK λg=>pL (ae.bu (Br.RV hne (Build.mk (cs:=bJ d) zK ?_)));intro b3 _;refine St.p (λx hx=>by simp[bJ,u32]at hx;rcases hx with rfl|rfl|rfl<;>rfl) ?_;refine DR.self (Nil.ptr (Ld.f ?_));refine au.q ?_;refine aa.eq (tT (d:=d) hO.ut hv) ?_;rw[hT];refine⟨.refl _,Ext.mk rfl (Ext.mk rfl (Br.no ?_))⟩;refine au.q ?_;refine aa.fq (IL h0 hd hv hT hroom hlo hhi hb) ?_;rintro v C' ⟨r,dm,cB,rfl,hh⟩;exact aQ.mk .tail ⟨r,dm,cB,rfl,hh⟩
structure xB(K' K:Kd):Prop where
 N:∀{s d},K'.N s=some d->K.N s=some d
 n:K'.n=K.n
 cap:K'.cap=K.cap
 ho:K'.ho=K.ho
 us:∀s,K'.use s<=K.use s
 idle:(∀s,K.N s=none->K.use s=0)->∀s,K'.N s=none->K'.use s=0
theorem xB.refl(K:Kd):xB K K:=⟨λh=>h,rfl,rfl,rfl,λ_=>xak _,λh=>h⟩
theorem xB.trans{A B C:Kd}(h:xB A B)(h':xB B C):xB A C:=⟨λx=>h'.N (h.N x),h.n.trans h'.n,h.cap.trans h'.cap,h.ho.trans h'.ho,λs=>xbB (h.us s) (h'.us s),λhi=>h.idle (h'.idle hi)⟩
def PL(P:Nat->Nat)(N:eA):Prop:=∀t,2<=t->0<P t->∃d,N t=some d
def gR(P0:Nat->Nat)(l:zL):Nat->Nat:=λs=>P0 s+l.count s
theorem My{P0:Nat->Nat}{l:zL}{t:Nat}:up (gR P0 (l++[t])) t (gR P0 (l++[t]) t-1)=gR P0 l:=by
 funext s
 unfold up gR;split
 ·rename_i e;subst e;simp
 rename_i e;simp[xbv,xcQ,xbp e]
theorem pg{P0:Nat->Nat}(h:cS kp K ord ah tr C){r:Nat}(hm:jw K S iD (gR P0 [r]))(hp:Pos K)(hl:PL (gR P0 [r]) K.N)(hr:r<1048576)(hbu:∀s,K.use s<2147483648):
  Fc zQ 132 #[ptr kp,u32 r] C (λv C'=>v=.tuple #[]/\∃K',cS kp K' ord ah tr C'/\jw K' S iD P0/\Pos K'/\PL P0 K'.N/\xB K' K):=by
 refine aK λg=>HX (ak.int (e:=82) zK zK zK λbx=>?_);refine aaQ (λk vs H=>∃(w:zV) (Ct C':Hp) (todo:zL) (K':Kd),vs=[w]/\H=Ct++C'/\aR 82 .u32 w (iw todo) Ct/\cS kp K' ord ah tr C'/\jw K' S iD (gR P0 todo)/\Pos K'/\PL (gR P0 todo) K'.N/\xB K' K/\(∀t∈todo,t<1048576)/\k=3*K'.used+todo.length/\k<=3*K.used+1)
  _ ⟨_,[_],C,[r],K,rfl,rfl,aR.made [(r:Int)],h,hm,hp,hl,.refl K,by simpa using hr,rfl,by simp⟩ ?_
 rintro w H hJ gs;obtain⟨k,⟨w',Ct,C',todo,K',hw,rfl,ht,hK,hM,Rg,Ox,oJ,hT,hk,hkb⟩,hkm⟩:=hJ.open;simp only[xay,xa5]at hw;subst hw;refine ht.bF ?_;rw[aq];refine ae.iF (b:=0) (Br.dec (λhpos=>?_) (λhpos=>?_))
 ·have hc1:=hm.cap;obtain⟨pre,t,rfl⟩:∃pre t,todo=pre++[t]:=⟨todo.dropLast,todo.getLast (by intro e;simp[e]at hpos),(xek _).symm⟩;have htl:(pre++[t]).length=pre.length+1:=by simp
  have UT:=hT t zI;refine ht.bF ?_;rw[aq,htl];refine ae.ir (b:=1) ?_ zO ?_
  ·simp[aU];omega
  rw[xb1];refine ht.ld (i:=pre.length) (x:=(t:Int)) (by rw[cc];simp[iw]) (bB.sub .left) (ht.cut (i:=pre.length) zI λw' ht'=>?_);have LH:aR 82 .u32 w' (iw pre) Ct:=by
   rw[cc,xeE zI]at ht';exact ht'
  have hTp:∀s∈pre,s<1048576:=λs hs=>hT s (xad _ hs);refine ae.AR (b:=1) (Br.dec (λh1=>?_) (λh1=>?_))
  ·have hc:∀s,2<=s->gR P0 (pre++[t]) s=gR P0 pre s:=λs hs=>by
    unfold gR;rw[xbv,xcQ];simp;omega
   exact nL.back (.refl _) hkm (3*K'.used+pre.length) ⟨w',Ct,C',pre,K',rfl,rfl,LH,hK,hM.congr (λ_=>xc8) hc,Rg,λs hs h0=>Ox s hs (by rw[hc s hs];exact h0),oJ,hTp,rfl,by simp at hk;omega⟩ (by rw[hk];simp)
  have hPt:0<gR P0 (pre++[t]) t:=by unfold gR;simp;omega
  obtain⟨d,hd⟩:=Ox t zO hPt;have hfit:=hM.fit hd;have Oi:=Rg t d hd;obtain⟨b,rfl,hO⟩:=hK;refine Nil.ptr (Ld.f ?_);refine hO.us.ld (x:=((K'.use t:Nat):Int)) (bW hfit) (bB.sub (.app (.cons (.app (.app .left))))) (ae.ir (b:=1) ?_ zO ?_)
  ·have:=oJ.us t;have:=hbu t;simp[aU];omega
  refine hO.us.mT (x:=((K'.use t-1:Nat):Int)) (.app (.cons (.app (.app .left)))) (by simpa using hfit) λTn xj=>?_;rw[gx]at xj;have g1:∀s,(K'.us.set t (K'.use t-1)).getD s 0=if s=t then K'.use t-1 else K'.use s:=λs=>ig hfit
  have L1:=hM.less (r:=t) (dm:=K'.us.set t (K'.use t-1)) hPt zI (by rw[g1,xae rfl];omega) (λs hs=>by rw[g1,xac hs]);rw[My]at L1;have W8:Zk {b with CU:=Tn} {K' with us:=K'.us.set t (K'.use t-1)} ord ah tr:={hO with us:=xj,ul:=by simp;exact hO.ul};have Rh:xB {K' with us:=K'.us.set t (K'.use t-1)} K:=⟨oJ.N,oJ.n,oJ.cap,oJ.ho,λs=>by
   show(K'.us.set t (K'.use t-1)).getD s 0<=_;rw[g1];have:=oJ.us s;split
   ·rename_i e;subst e;omega
   ·exact this,λhi s hs=>by
   show(K'.us.set t (K'.use t-1)).getD s 0=0;have hs':K'.N s=none:=hs;rw[g1,xac (λe=>by subst e;rw[hd]at hs';cases hs')];exact oJ.idle hi s hs'⟩
  have ab8:PL (gR P0 pre) K'.N:=λs hs h0=>Ox s hs (by unfold gR at h0⊢;rw[xbv];omega);refine Nil.ptr (Ld.f ?_);refine xj.ld (x:=((K'.use t-1:Nat):Int)) (by rw[<-gx];simp[hfit]) (bB.sub (.app (.cons (.app (.app .left))))) ?_;refine ae.iF (b:=0) (Br.dec (λh3=>?_) (λh3=>?_))
  ·refine nL.back (.refl _) hkm (3*K'.used+pre.length) ⟨w',Ct,_,pre,_,rfl,rfl,LH,⟨_,rfl,W8⟩,L1,λs e hs=>?_,ab8,Rh,hTp,rfl,by simp at hk;omega⟩ (by rw[hk];simp);show 0<(K'.us.set t (K'.use t-1)).getD s 0;rw[g1];split
   ·exact h3
   exact Rg s e hs
  have hu0:K'.use t=1:=by omega
  have kE:cS kp {K' with us:=K'.us.set t (K'.use t-1)} ord ah tr (({b with CU:=Tn}:wR).hp kp K'.n):=⟨_,rfl,W8⟩;refine aa.eq (m6 kE zO) ?_;have Te:2<=t:=by omega
  have afc:got K'.N t=bJ d:=gy hd Te;show J4 _ _ _;intro b32 _;rw[afc];refine St.p (λx hx=>by simp[bJ,u32]at hx;rcases hx with rfl|rfl|rfl<;>rfl) ?_;refine DR.self (Nil.ptr (Ld.f ?_));refine au.q ?_;have hTd:K'.T d=some t:=(hM.jD d t).2 ⟨hd,λh=>h⟩;refine aa.fq (xU W8.ut (hM.var hd) hTd) ?_;rintro v Zr ⟨rfl,Ye⟩;refine Nil.ptr (Ld.f ?_);refine aa.fq (SG W8.ar ⟨d,hd⟩ Te) ?_;rintro v CA' ⟨rfl,har⟩;refine Ld.f ?_;refine Ld.f ?_;refine ak.Ww (e:=82) zK zK zK λbz=>?_;refine LH.Xl (.cons (.cons .left)) (dY.block (l:=[(d.lo:Int),(d.hi:Int)]) (by exact .head _) zI) (by simp at hk⊢;omega) (by simp at hk⊢;omega) λw2 Ct2 Jl=>?_;have e0:iw pre++[(d.lo:Int),(d.hi:Int)]=iw (pre++[d.lo,d.hi]):=by rw[cc];rfl
  rw[e0]at Jl;have S8:({K' with us:=K'.us.set t (K'.use t-1)}:Kd).use t=0:=by show(K'.us.set t (K'.use t-1)).getD t 0=0;rw[g1,xae rfl];omega
  have Oy:=L1.free (r:=t) (d:=d) hd (λh=>h) S8;have hed:de K'.N t K'.cap=0:=by have:=L1.use hd;rw[S8]at this;exact(by have h5:de K'.N t K'.cap+_+_=0:=this.symm;omega)
  have jT:=jo hed t (hM.two hd).2 d hd;have afE:gR P0 pre t=0:=by have:=L1.use hd;rw[S8]at this;omega
  have hroom:0<K'.used:=by have:=hM.room;omega
  have hlt:∀x,live K'.N x->x<1048576:=λx hx=>kE.lt hx;have og:∀s,2<=s->gR P0 pre s+e1 (some d) s=gR P0 (pre++[d.lo,d.hi]) s:=λs _=>by
   unfold gR;rw[dW,xbv,xcR,xcR,xdT];simp only[xcY];omega
  refine nL.back (.skip (.skip (.refl _))) hkm (3*(K'.used-1)+(pre++[d.lo,d.hi]).length) ⟨w2,Ct2,_,pre++[d.lo,d.hi],{K' with us:=K'.us.set t (K'.use t-1),N:=up K'.N t none,T:=pO K'.T d none,used:=K'.used-1},rfl,rfl,Jl,
   ⟨{b with CU:=Tn,CT:=Zr,CA:=CA'},rfl,{W8 with ar:=har,ut:=Ye}⟩,Oy.congr (λ_=>xc8) og,λs e hs=>?_,λs hs h0=>?_,⟨λ{s e} hs=>?_,Rh.n,Rh.cap,Rh.ho,Rh.us,λhi s hs=>?_⟩,λs hs=>?_,rfl,by simp at hk⊢;omega⟩ (by simp at hk⊢;omega)
  ·have hne:s≠t:=λe2=>by subst e2;have mu:up K'.N s none s=some e:=hs;rw[aN]at mu;cases mu
   show 0<(K'.us.set t (K'.use t-1)).getD s 0;rw[g1,xac hne];have mu:up K'.N t none s=some e:=hs;rw[aP hne]at mu;exact Rg s e mu
  ·have hne:s≠t:=λe2=>by
    subst e2;rw[<-og s hs,afE]at h0;rw[dW,xac jT.1,xac jT.2]at h0;omega
   show∃e,up K'.N t none s=some e;rw[aP hne];rw[<-og s hs]at h0;by_cases h5:0<gR P0 pre s
   ·exact ab8 s hs h5
   rw[dW]at h0;have:d.lo=s\/d.hi=s:=by
    by_cases h6:d.lo=s
    ·exact .inl h6
    by_cases h7:d.hi=s
    ·exact .inr h7
    rw[xac h6,xac h7]at h0;omega
   rcases this with rfl|rfl
   ·rcases hM.lo hd with h8|h8
    ·omega
    exact h8
   rcases hM.hi hd with h8|h8
   ·omega
   exact h8
  ·have mu:up K'.N t none s=some e:=hs;by_cases e2:s=t
   ·subst e2;rw[aN]at mu;cases mu
   rw[aP e2]at mu;exact oJ.N mu
  ·have mu:up K'.N t none s=none:=hs;show(K'.us.set t (K'.use t-1)).getD s 0=0;by_cases e2:s=t
   ·subst e2;rw[g1,xae rfl];omega
   rw[aP e2]at mu;exact Rh.idle hi s mu
  rcases xao.1 hs with hs|hs
  ·exact hTp s hs
  simp at hs;rcases hs with rfl|rfl
  ·exact hlt _ (hM.lo hd)
  exact hlt _ (hM.hi hd)
 obtain rfl:todo=[]:=xb6 zO;exact aQ.mk .right ⟨rfl,K',hK,hM.congr (λ_=>xc8) (λs _=>by simp[gR]),Rg,λs hs h0=>Ox s hs (by simpa[gR]using h0),oJ⟩
end
abbrev lv(ah:zL):Nat->Nat:=λv=>ah.getD v 0
section
variable {kp:Nat} {K:Kd} {ord ah tr:zL} {C:Hp} {S:Nat->aE.Fn}
theorem tN(h:cS kp K ord ah tr C)(v:Int):Rd zQ 171 #[ptr kp,iv v] C (· =.bool (decide (0<=v/\v<K.n))):=by
 obtain⟨b,rfl,hO⟩:=h;refine aK λg=>Hs (ae.geq (cr.and (decide (v<K.n)) (λ_=>?_) rfl λ_=>bE.mk (.refl _) (by rw[xdJ])));refine Nil.ptr (Ld.f ?_);exact ae.lss ⟨rfl,rfl⟩
theorem yq(h:cS kp K ord ah tr C){r:Nat}(hl:live K.N r)(hv:∀d,K.N r=some d->d.v<K.n)(Xd:r<2->K.N r=none):Rd zQ 253 #[ptr kp,u32 r] C (· =iv ((dep K.n (lv ah) K.N r:Nat):Int)):=by
 have h0:=h;have hr:=h.lt hl;obtain⟨b,rfl,hO⟩:=h;refine aK λg=>Gu (Nil.ptr (ag.mk (aa.eq (m6 h0 zO) ?_)));intro b5 _;refine St.whole (r:=got K.N r) (by exact .head _) rfl (bL _ _).1 (bL _ _).2 ?_;by_cases h2:r<2
 ·rw[gQ h2,br (Xd h2)];refine Ld.f ?_;refine ae.geq (Br.no' zD (Nil.ptr (Ld.f ?_)));exact bE.mk .tail rfl
 obtain⟨d,hd⟩:∃d,K.N r=some d:=by rcases hl with hl|hl;omega;exact hl
 rw[gy hd zO,aB hd];have vj:=hv d hd;have hlen:=hO.ol.2;refine Ld.f ?_;refine ae.geq (Br.To zI (Nil.ptr (Ld.f ?_)));refine Ld.f ?_;exact hO.lv.ld (x:=((ah.getD d.v 0:Nat):Int)) (bW zO) (bB.sub (.cons (.cons (.app (.app (.app (.app (.app .left)))))))) (bE.mk .tail rfl)
def oN(K:Kd)(ah:zL)(v:Int)(lo hi:Nat):Int:=
 if¬(0<=v/\v<K.n)then 2 else if fU K.N lo=false\/fU K.N hi=false then 3 else if lo≠hi/\min (dep K.n (lv ah) K.N lo) (dep K.n (lv ah) K.N hi)<=ah.getD v.toNat 0 then 4 else 0
theorem JA(h:cS kp K ord ah tr C)(v:Int){lo hi:Nat}(hlo:lo<4294967296)(hhi:hi<4294967296)(hv:∀r d,K.N r=some d->d.v<K.n/\2<=r):
  Rd zQ 202 #[ptr kp,iv v,u32 lo,u32 hi] C (· =iv (oN K ah v lo hi)):=by
 have h0:=h;have Xd:∀r,r<2->K.N r=none:=λr hr=>by
  cases e:K.N r with
  |none=>rfl
  |some d=>have:=(hv r d e).2;omega
 obtain⟨b,rfl,hO⟩:=h;refine aK λg=>GX (aa.eq (tN h0 v) (Un.not ?_));by_cases AS:0<=v/\v<K.n;rotate_left
 ·rw[xaq AS];exact Br.yes (bE.mk (.refl _) (by unfold oN;rw[xae AS]))
 rw[xav AS];apply Br.no;obtain⟨n,rfl⟩:∃n:Nat,v=n:=⟨v.toNat,by omega⟩;have hnv:n<K.n:=by omega
 intro J hJ;refine Nil.ptr (ag.mk (aa.eq (m7 h0 hlo) (Un.not ?_)));by_cases jF:fU K.N lo=true;rotate_left
 ·have abx:fU K.N lo=false:=by simpa using jF
  rw[abx];exact Split.XQ rfl (aS.mk (JE.mk (hJ _ _ λgs=>Br.yes (bE.mk (.refl _) (by unfold oN;rw[xac (by simpa using AS),xae (.inl abx)])))))
 rw[jF];refine Split.go rfl (Nil.ptr (ag.mk (aa.eq (m7 h0 hhi) (Un.not ?_))));by_cases hhl:fU K.N hi=true;rotate_left
 ·have abE:fU K.N hi=false:=by simpa using hhl
  rw[abE];exact aS.mk (JE.mk (hJ _ _ λgs=>Br.yes (bE.mk (.refl _) (by unfold oN;rw[xac (by simpa using AS),xae (.inr abE)]))))
 rw[hhl];refine aS.mk (JE.mk (hJ _ _ λgs=>Br.no ?_));intro J2 Jq;have hE:oN K ah n lo hi=if lo≠hi/\min (dep K.n (lv ah) K.N lo) (dep K.n (lv ah) K.N hi)<=ah.getD n 0 then 4 else 0:=by
  unfold oN;rw[xac (by simpa using AS),xac (by rw[jF,hhl];simp)];rfl
 refine DR.self (ae.mF ?_);by_cases hne:lo≠hi;rotate_left
 ·rw[xaq hne];exact Br.no (JE.mk (Jq _ _ λgs=>Br.no (bE.mk (.refl _) (by rw[hE,xac (λh=>hne h.1)]))))
 rw[xav hne];refine Br.yes (Nil.ptr (Ld.f ?_));have hlen:=hO.ol.2;refine hO.lv.ld (x:=((ah.getD n 0:Nat):Int)) (bW zO) (bB.sub (.cons (.app (.app (.app (.app (.app .left))))))) λF=>?_;refine aa.eq (yq h0 (cz.1 jF) (λd hd=>(hv _ _ hd).1) (Xd _)) (⟨.refl _,?_⟩);intro F2;refine aa.eq (yq h0 (cz.1 hhl) (λd hd=>(hv _ _ hd).1) (Xd _)) (⟨.refl _,?_⟩);refine⟨_,_,_,rfl,rfl,?_⟩;have hmin:(if((dep K.n (lv ah) K.N hi:Nat):Int)<((dep K.n (lv ah) K.N lo:Nat):Int)then((dep K.n (lv ah) K.N hi:Nat):Int)else((dep K.n (lv ah) K.N lo:Nat):Int))=((min (dep K.n (lv ah) K.N lo) (dep K.n (lv ah) K.N hi):Nat):Int):=by
  split<;>omega
 rw[hmin];refine ae.mh (aS.mk ?_);by_cases hm:min (dep K.n (lv ah) K.N lo) (dep K.n (lv ah) K.N hi)<=ah.getD n 0
 ·rw[xav hm];exact JE.mk (Jq _ _ λgs=>Br.yes (bE.mk (.refl _) (by rw[hE,xae ⟨hne,hm⟩])))
 rw[xaq hm];exact JE.mk (Jq _ _ λgs=>Br.no (bE.mk (.refl _) (by rw[hE,xac (λh=>hm h.2)])))
theorem IY(h:cS kp K ord ah tr C){v lo hi:Nat}(hv:v<K.n):
  Rd zQ 203 #[ptr kp,iv (v:Int),u32 lo,u32 hi] C (· =if lo=hi then .tuple #[u32 lo,.bool true]else .tuple #[u32 ((K.T ⟨v,lo,hi⟩).getD 0),.bool (K.T ⟨v,lo,hi⟩).isSome]):=by
 obtain⟨b,rfl,hO⟩:=h;refine aK λg=>GW (ae.bu (Br.dec (λhe=>bE.mk (.refl _) (by rw[xae he])) (λhe=>?_)));refine Nil.ptr (ag.mk (Ld.f ?_));exact Build.mk (cs:=bJ ⟨v,lo,hi⟩) zK (aa.eq (tT (d:=⟨v,lo,hi⟩) hO.ut hv) (Ext.mk rfl (Ext.mk rfl (bE.mk (.refl _) (by rw[xac he];rfl)))))
theorem BZ(h:cS kp K ord ah tr C){r:Nat}(hr:r<4294967296)(hb:∀s,K.hold s<2147483648):Rd zQ 131 #[ptr kp,u32 r] C (· =iv ((K.hold r:Nat):Int)):=by
 obtain⟨b,rfl,hO⟩:=h;refine aK λg=>HY (ae.aJ (cr.or (decide (K.ho.length<=r)) (λ_=>?_) zI λ_=>?_))
 ·refine aM.q (Nil.ptr (ag.mk (Ld.f ?_)));refine hO.ho.bF ?_;rw[aq];exact ae.mh ⟨rfl,rfl⟩
 rw[xd3];refine Br.dec (λhge=>?_) (λhlt=>?_)
 ·refine bE.mk (.refl _) ?_;unfold Kd.hold;rw[List.getD,xaH hge];rfl
 refine Nil.ptr (ag.mk (Ld.f ?_));exact hO.ho.ld (x:=((K.hold r:Nat):Int)) (bW zO) (bB.sub (.cons (.app (.app (.app .left))))) (aM.nat (by have:=hb r;simp[aU];omega) (bE.mk (.refl _) rfl))
theorem UH(h:cS kp K ord ah tr C)(h2:2<=K.used)(hu:K.used<=1048576):Rd zQ 111 #[ptr kp] C (· =iv ((K.used-2:Nat):Int)):=by
 obtain⟨b,rfl,hO⟩:=h;refine aK λg=>Io (ae.aJ (Br.no (Nil.ptr (ag.mk (Ld.f ?_)))));exact aa.eq (Dn hO.ar) (ae.ir (b:=2) (by simp[aU];omega) h2 (bE.mk (.refl _) rfl))
theorem LA(h:cS kp K ord ah tr C):Rd zQ 226 #[ptr kp] C (· =iv ((tr.length:Nat):Int)):=by
 obtain⟨b,rfl,hO⟩:=h;refine aK λg=>GM (ae.aJ (Br.no (Nil.ptr (Ld.f ?_))));refine hO.tr.bF ?_;rw[aq];exact bE.mk (.refl _) rfl
theorem kx(h:cS kp K ord ah tr C):Rd zQ 75 #[ptr kp] C (· =iv ((K.n:Nat):Int)):=by
 obtain⟨b,rfl,hO⟩:=h;refine aK λg=>Nc (ae.aJ (Br.no (Nil.ptr (Ld.f ?_))));exact bE.mk (.refl _) rfl
theorem qo(h:cS kp K ord ah tr C){r:Nat}(hr:r<4294967296):Rd zQ 133 #[ptr kp,u32 r] C (· =.tuple #[.agg (got K.N r).toArray,iv (if fU K.N r then 0 else 3)]):=by
 have h0:=h;obtain⟨b,rfl,hO⟩:=h;refine aK λg=>HW λb1 _=>?_;refine ae.aJ (Br.no (Nil.ptr (ag.mk (aa.eq (m7 h0 hr) (Un.not ?_)))));cases hb:fU K.N r with
 |false=>
  refine Br.yes (Build.mk (cs:=[iv 0,.int .u32 0,.int .u32 0]) zK (St.q ?_));refine au.q ?_;exact bE.mk .tail (by rw[Cq hb];rfl)
 |true=>
  refine Br.no (Nil.ptr (ag.mk (aa.eq (m6 h0 hr) (St.whole (r:=got K.N r) (by exact .head _) rfl (bL _ _).1 (bL _ _).2 ?_))));refine au.whole (r:=got K.N r) (by exact .head _) (bL _ _).1 ?_;exact bE.mk .tail rfl
end
theorem vM{B:Hp}{v:zV}{l:List Int}(h:dY .i64 B v l)(hl:l.length<=1099511627776):Fc zQ 49 #[v] B (λr H=>∃C,H=C++B/\aR 3 .i64 r l C):=by
 refine aK λg=>Nv ?_;obtain⟨a,c,rfl,hc⟩:=h.shape;refine⟨.bool a.isNone,by simp[fL],?_⟩;refine Br.mk (λha=>?_) (λha=>?_)
 ·have:l=[]:=by
   rcases h.2 with⟨_,_,h1,h2⟩|⟨b,o,cap,cs,T,fz,h1,_⟩
   ·simpa using h2
   simp at h1;rw[h1.1]at ha;simp at ha
  subst this;exact aQ.here ⟨[],rfl,aR.nil⟩
 refine ak.none (z:=iv 0) (e:=3) (k:=1) zK zK zK λb=>?_;refine(aR.made (T:=3) (kd:=.i64) (b:=b) []).Xl (l2:=l) .left ((show dY .i64 B _ l from h).mono λ_ h=>.tail _ h) zP zP λv' C' ho=>?_;exact aQ.here ⟨C',rfl,by simpa using ho⟩
theorem yh{kp:Nat}{K:Kd}{ord ah tr:zL}{C:Hp}(h:cS kp K ord ah tr C):Fc zQ 112 #[ptr kp] C (λr H=>∃N,H=N++C/\aR 3 .i64 r (iw ord) N):=by
 obtain⟨b,rfl,hO⟩:=h;refine aK λg=>Im (ae.aJ (Br.no (Nil.ptr (Ld.f ?_))));refine aa.fq (vM (hO.od.ints.mono (bB.sub (.cons (.app (.app (.app (.app .left))))))) (by have:=hO.ol.1;have:=hO.rC;simp;omega)) ?_;rintro v C' ⟨N,rfl,ho⟩;exact aQ.here ⟨N,rfl,ho⟩
end
section
def qV(x r:Nat):Prop:=x<2^r/\(r=0\/2^(r-1)<=x)
theorem qV.gt{x r n:Nat}(h:qV x r):n<r↔2^n<=x:=by
 constructor
 ·intro hn;rcases h.2 with h2|h2
  ·omega
  exact xbB (xax zD zO) h2
 intro hn;have:=xaL hn h.1;exact(Nat.pow_lt_pow_iff_right zD).1 this
theorem qV.up{x s t:Nat}(h:qV (x>>>s) t)(h0:s=0\/x>>>s≠0):qV x (s+t):=by
 rw[xaR]at h h0;have hp:=xbJ s;refine⟨?_,?_⟩
 ·have:=h.1;rw[Nat.div_lt_iff_lt_mul hp]at this;rw[xdD,xbI];exact this
 rcases h.2 with h2|h2
 ·subst h2;have:=h.1;rcases h0 with h0|h0
  ·exact .inl zO
  rw[Nat.pow_zero]at this;exact absurd (Nat.lt_one_iff.1 this) h0
 by_cases ht:t=0
 ·subst ht;rcases h0 with h0|h0
  ·exact .inl zO
  have:=h.1;rw[Nat.pow_zero]at this;exact absurd (Nat.lt_one_iff.1 this) h0
 right;have:=(Nat.le_div_iff_mul_le hp).1 h2;rw[show s+t-1=(t-1)+s by omega,xdD];exact this
theorem UC:∀y:Fin 256,∃b:UInt8, zX[y.1]? =some b/\(y.1<2^b.toNat/\(b.toNat=0\/2^(b.toNat-1)<=y.1)):=by
 have h:∀y:Fin 256,(match zX[y.1]? with|some b=>decide (y.1<2^b.toNat/\(b.toNat=0\/2^(b.toNat-1)<=y.1))|none=>false)=true:=by decide+kernel
 intro y;have:=h y;split at this
 ·rename_i b hb;exact⟨b,hb,by simpa using this⟩
 cases this
theorem BT{x:Nat}(hx:x<18446744073709551616)(B:Hp):Rd zQ 252 #[.int .u64 (x:Int)] B (λv=>∃r:Nat,qV x r/\v=iv (r:Int)):=by
 refine aK λg=>Gv λJ1 hJ1=>?_;have h1:∀s,s<=32->x>>>s<4294967296->(s=0\/x>>>s≠0)->J1 [.int .u64 ((x>>>s:Nat):Int),iv (s:Int)] B:=by
  intro s hs hlt h0;refine hJ1 _ _ _ λgs=>?_;intro J2 Jq;have h2:∀s,s<=48->x>>>s<65536->(s=0\/x>>>s≠0)->J2 [.int .u64 ((x>>>s:Nat):Int),iv (s:Int)] B:=by
   intro s hs hlt h0;refine Jq _ _ _ λgs=>?_;intro J3 hJ3;have h3:∀s,s<=56->x>>>s<256->(s=0\/x>>>s≠0)->J3 [.int .u64 ((x>>>s:Nat):Int),iv (s:Int)] B:=by
    intro s hs hlt h0;refine hJ3 _ _ _ λgs=>?_;refine aM.nat (show x>>>s<256 from hlt) ?_;obtain⟨b,hb,hl⟩:=UC ⟨x>>>s,hlt⟩;refine⟨_,_,_,b,rfl,rfl,xcf _,by rw[xbH];exact hb,?_⟩;have Ou:b.toNat<256:=b.toNat_lt;exact aM.q (ae.eZ (bE.mk (.refl _) ⟨s+b.toNat,qV.up (t:=b.toNat) hl h0,rfl⟩))
   refine ae.mh (b:=256) (Br.dec (λhge=>?_) (λhge=>JE.mk (h3 s zO zO h0)));refine ae.gk (b:=8) (by simp only[aU];omega) (ae.eZ (b:=8) ?_);rw[<-xdP];have e:x>>>(s+8)=x>>>s/256:=by rw[xdP,xaR (x>>>s) 8]
   exact JE.mk (h3 (s+8) zO zO (.inr zO))
  refine ae.mh (b:=65536) (Br.dec (λhge=>?_) (λhge=>JE.mk (h2 s zO zO h0)));refine ae.gk (b:=16) (by simp only[aU];omega) (ae.eZ (b:=16) ?_);rw[<-xdP];have e:x>>>(s+16)=x>>>s/65536:=by rw[xdP,xaR (x>>>s) 16]
  exact JE.mk (h2 (s+16) zO zO (.inr zO))
 refine ae.mh (b:=4294967296) (Br.dec (λhge=>?_) (λhge=>JE.mk (h1 0 zO zP (.inl rfl))));refine ae.gk (b:=32) (by simp only[aU];exact hx) ?_;have e:x>>>32=x/4294967296:=by rw[xaR]
 exact JE.mk (h1 32 zO zO (.inr zO))
end
end Go.Proofs
namespace Go.Sx
open Go
section
variable {P:Program} {H C:Hp} {c:Hp->Hp}
theorem bB.re(h:bB C H c)(X:Hp):bB X (c X) c:=by
 induction h with
 |here=>exact .here
 |left=>exact .left
 |cons _ ih=>exact .cons ih
 |app _ ih=>exact .app ih
theorem swap_perm{l:List Int}{i j:Nat}{x y:Int}(hi:l[i]? =some x)(hj:l[j]? =some y):((l.set i y).set j x).Perm l:=by
 have h1:=(xah.1 hi).1;have h2:=(xah.1 hj).1;rw[xcV];intro a;by_cases e:i=j
 ·subst e;rw[hi]at hj;cases hj;rw[List.set_set];have:l.set i x=l:=by
   have hx:l[i]=x:=by rw[xab h1]at hi;exact xbE hi
   rw[<-hx];exact List.set_getElem_self h1
  rw[this]
 have hx:l[i]=x:=by rw[xab h1]at hi;exact xbE hi
 have hy:l[j]=y:=by rw[xab h2]at hj;exact xbE hj
 rw[xdU (by simpa using h2),xdU h1];have:(l.set i y)[j]'(by simpa using h2)=y:=by rw[List.getElem_set_ne e];exact hy
 rw[this,hx];have c1:l.count x≥1:=List.one_le_count_iff.2 (hx▸xaD h1);have c2:l.count y≥1:=List.one_le_count_iff.2 (hy▸xaD h2);by_cases e1:x=a
 ·subst e1;by_cases e2:y=x
  ·subst e2;simp<;>omega
  simp[e2,xbp e2]<;>omega
 by_cases e2:y=a
 ·subst e2;simp[e1]<;>omega
 simp[e1,e2]<;>omega
def up1(vs:List zV):Nat:=match vs with
 | .int _ q::_=>(q+1).toNat
 |_=>0
theorem zh{k:IntKind}{q:Int}{r:List zV}:up1 (.int k q::r)=(q+1).toNat:=rfl
end
end Go.Sx
namespace Go.Sx
open Go
abbrev cv:=Sort.ltInt
section
variable {P:Program} {H C:Hp} {c:Hp->Hp} {T:TypeId} {kd xd k1 k2 k3 k4:IntKind} {v:zV} {d:Array Int}
def Da(T:TypeId)(kd:IntKind)(v:zV)(d:Array Int)(C:Hp):Prop:=aR T kd v d.toList C
theorem Y6(d:Array Int){i:Nat}(hi:i<d.size):d.toList[i]? =some d[i]! :=by
 rw[xbl,getElem!_pos d i hi];exact xbD hi
theorem O5(d:Array Int)(i j:Nat):(Sort.swp d i j).toList=(d.toList.set i d[j]!).set j d[i]! :=by
 unfold Sort.swp;rw[Array.toList_setIfInBounds,Array.toList_setIfInBounds]
theorem Da.ld(h:Da T kd v d C)(hC:∀y∈C,y∈H){i:Nat}(hi:i<d.size){K:zV->Prop}(hk:K (.int kd d[i]!)):ai 1 v (.int xd (i:Int)) λp=>Ld H p K:=
 aR.ld h (Y6 d hi) hC hk
theorem Da.Wf(h:Da T kd v d C)(hh:bB C H c){i j:Nat}(hi:i<d.size)(hj:j<d.size){B:(zV->Prop)->Prop}
 (hB:∀k:zV->Prop,k (.int k2 (i:Int))->B k){K:Hp->Prop}(hk:∀C',Da T kd v (Sort.swp d i j) C'->K (c C')):
  ai 1 v (.int k1 (j:Int)) λp1=>Ld H p1 λx=>B λu=>ai 1 v u λp2=>Ld H p2 λy=>ai 1 v (.int k3 (i:Int)) λp3=>St 1 H p3 x λH1=>ai 1 v (.int k4 (j:Int)) λp4=>St 1 H1 p4 y K:=by
 refine h.ld hh.sub hj (hB _ ?_);refine h.ld hh.sub hi ?_;refine aR.mT h hh (by rw[xb7];exact hi) λC1 h1=>?_;refine h1.mT (hh.re C1) (by rw[xbZ,xb7];exact hj) λC2 h2=>?_;exact hk C2 (by unfold Da;rw[O5];exact h2)
theorem Da.swap(h:Da T kd v d C)(hh:bB C H c){i j:Nat}(hi:i<d.size)(hj:j<d.size){K:Hp->Prop}(hk:∀C',Da T kd v (Sort.swp d i j) C'->K (c C')):
  ai 1 v (.int k1 (j:Int)) λp1=>Ld H p1 λx=>ai 1 v (.int k2 (i:Int)) λp2=>Ld H p2 λy=>ai 1 v (.int k3 (i:Int)) λp3=>St 1 H p3 x λH1=>ai 1 v (.int k4 (j:Int)) λp4=>St 1 H1 p4 y K:=
 h.Wf (B:=λk=>k _) hh hi hj (λ_ h=>h) hk
end
theorem iq{d:Array Int}{n i j:Nat}(h:d.size=n):(Sort.swp d i j).size=n:=(Sort.size_swp d i j).trans h
theorem Qm{a j:Nat}{e:Array Int}(h:¬a<j):Sort.insInner cv a j e=e:=by
 cases j with
 |zero=>rfl
 |succ j=>rw[Sort.insInner,xac zP]
theorem Qn{a j:Nat}{e:Array Int}(h:a<j):Sort.insInner cv a j e=if cv e[j]! e[j-1]! =true then Sort.insInner cv a (j-1) (Sort.swp e j (j-1))else e:=by
 obtain⟨j,rfl⟩:∃k,j=k+1:=⟨j-1,by omega⟩;rw[Sort.insInner,xav h,xcv];rfl
theorem Mp{j:Nat}{e:Array Int}(h:¬1<=j):Sort.shiftDown cv j e=e:=by
 obtain rfl:j=0:=by omega
 rfl
theorem rV{j:Nat}{e:Array Int}(h:1<=j):Sort.shiftDown cv j e=if(!cv e[j]! e[j-1]!)=true then e else Sort.shiftDown cv (j-1) (Sort.swp e j (j-1)):=by
 obtain⟨j,rfl⟩:∃k,j=k+1:=⟨j-1,by omega⟩;rw[Sort.shiftDown];rfl
theorem eV{p:Int->Bool}{d:Array Int}{i j:Nat}(h:0<j):Sort.scanDown p d i j=if(decide (i<=j) &&p d[j]!)=true then Sort.scanDown p d i (j-1)else j:=by
 obtain⟨j,rfl⟩:∃k,j=k+1:=⟨j-1,by omega⟩;rw[Sort.scanDown];rfl
theorem KN{hi f r:Nat}{d:Array Int}(h:hi<=2*r+1):Sort.siftDown cv hi f r d=d:=by
 rw[Sort.siftDown,xej h]
theorem T2{hi f r c:Nat}{d:Array Int}(h:2*r+1<hi)(hc:c=if(decide (2*r+1+1<hi) &&cv d[f+(2*r+1)]! d[f+(2*r+1)+1]!)=true then 2*r+2 else 2*r+1):
  Sort.siftDown cv hi f r d=if(!cv d[f+r]! d[f+c]!)=true then d else Sort.siftDown cv hi f c (Sort.swp d (f+r) (f+c)):=by
 rw[Sort.siftDown,dif_neg zO];split at hc
 ·rename_i hb;subst hc;rw[xae hb];rw[xaB,xaQ]at hb;split
  ·rfl
  rw[xej hb.1]
 rename_i hb;subst hc;rw[xac hb]
theorem IS(hi f r:Nat)(d:Array Int):(Sort.siftDown cv hi f r d).size=d.size:=by
 fun_induction Sort.siftDown cv hi f r d<;>simp_all[Sort.size_swp]
end Go.Sx
set_option maxRecDepth 100000
namespace Go.Proofs
open Go Go.Sx Tryz
section
structure Srt where
 nan:Nat
 less:Nat
 B6:Nat
 KO:Nat
 heap:Nat
 rev:Nat
 pins:Nat
 uL:Nat
 part:Nat
 Z8:Nat
 zy:Nat
 ZA:Nat
 Et:Nat
 piv:Nat
 XP:Nat
section
variable (zs:Srt)
variable {g:Gh} {a0 a1 a2 a3 a4 a5 a6 a7 a8 a9 s8 s7 a12 a13 a14 a15:zV} {H:Hp} {R:Rt}
def L9000:Y1:=λ_ a b c=>lN a a λa=>rt c a b
def L9001:Y2:=λa b c d e=>jB (λf g=>rt e f g) λf=>CF a zs.nan #[b] d (λd g=>Split d true (CF a zs.nan #[c] g (λa d=>Un .not a λa=>aS vT a vF λa=>Split a false (lL b c λa=>aS vF vT a λa=>JE f [a] d) (aS vT vT undef λa=>JE f [a] d)) (cA e)) (aS vF undef vF λa=>lL b c λb=>aS a vT b λa=>JE f [a] g)) (cA e)
def L9002:Y3:=λa b c d e f=>lA c i1 λg=>yA [g] e λe g h i=>lL h d λd=>Br d (yA [h] i λd j k l=>jB (λm n=>Br m (DR n λm=>lS k i1 λo=>lS k i1 λp=>lI 1 b p m λp=>lI 1 b k m λm=>ai 1 b k λq=>St 1 n q p λp=>ai 1 b o λo=>St 1 p o m λm=>lS k i1 λo=>az d j [o] m [k] l) (lA h i1 λd=>az e g [d] n [h] i)) λd=>DR l λe=>lG k c λc=>Br c (lI 1 b k e λc=>lS k i1 λg=>lI 1 b g e λb=>∀e:Hp,
CF (a.add e) zs.less #[c,b] l (λa b=>aS vT a vF λa=>JE d [a] b) fZ) (JE d [vF] l)) (rt f (.tuple #[]) i)
def L9003:Y4:=λa b c d e f g=>yA [c] f λc f h i=>oM (iv 2) h λj=>lA j i1 λj=>oG j d λk=>Br k (rt g (.tuple #[]) i) (jB (λk l=>DR l λm=>lA e h λn=>lI 1 b n m λn=>lA e k λo=>lI 1 b o m λm=>CF a zs.less #[n,m] l (λl m=>Un .not l λl=>Br l (rt g (.tuple #[]) m) (DR m λg=>lA e h λl=>lA e k λn=>lA e k λo=>lI 1 b o g λo=>lA e h λp=>lI 1 b p g λg=>ai 1 b l λl=>St 1 m l o λl=>ai 1 b n λm=>St 1 l m g λg=>az c f [k] g [h] i)) fZ) λc=>jB (λf g=>Br f (lA j i1 λf=>JE c [f] g) (JE c [j] g)) λc=>DR i λf=>lA j i1 λg=>lL g d λd=>Br d (lA e j λd=>lI 1 b d f λd=>lA e j λe=>lA e i1 λe=>lI 1 b e f λb=>∀e:Hp,
CF (a.add e) zs.less #[d,b] i (λa b=>aS vT a vF λa=>JE c [a] b) fZ) (JE c [vF] i))
def L9004:Y3:=λa b c d e f=>lS d c λd=>lS d i1 λg=>ae .num .quo g (iv 2) λg=>yA [g] e λe g h i=>oG h i0 λj=>Br j (CF a zs.KO #[b,h,d,c] i (λ_ j=>lS h i1 λk=>az e g [k] j [h] i) (cA f)) (lS d i1 λd=>yA [d] i λd e g h=>oG g i0 λi=>Br i (DR h λi=>lA c g λj=>lA c g λk=>lI 1 b k i λk=>lI 1 b c i λi=>ai 1 b c λl=>St 1 h l k λk=>ai 1 b j λj=>St 1 k j i λi=>CF a zs.KO #[b,i0,g,c] i (λ_ a=>lS g i1 λb=>az d e [b] a [g] h) (cA f)) (rt f (.tuple #[]) h))
def L9005:Y3:=λ_ a b c d e=>lS c i1 λc=>yB [b,c] d λb c d f g=>lL d f λh=>Br h (DR g λh=>lI 1 a f h λi=>lI 1 a d h λh=>ai 1 a d λj=>St 1 g j i λi=>ai 1 a f λa=>St 1 i a h λa=>lA d i1 λh=>lS f i1 λi=>az b c [h,i] a [d,f] g) (rt e (.tuple #[]) g)
def L9006:Y3:=λa b c d e f=>lA c i1 λg=>yB [g,i0] e λe g h i j=>lL i (iv 5) λk=>Br k (jB (λk l=>lA i i1 λm=>az e g [k,m] l [h,i] j) λe=>yA [h] j λg h i k=>jB (λl m=>Br l (lA i i1 λl=>az g h [l] m [i] k) (lE i d λg=>Br g (rt f vT m) (lS d c λg=>lL g (iv 50) λg=>Br g (rt f vF m) (DR m λg=>lS i i1 λh=>lS i i1 λl=>lI 1 b l g λl=>lI 1 b i g λg=>ai 1 b i λn=>St 1 m n l λl=>ai 1 b h λh=>St 1 l h g λg=>jA (λh=>lS d i λl=>oG l (iv 2) λl=>Br l (lA i i1 λl=>yA [l] h λl m n o=>lL n d λp=>Br p (DR o λp=>lI 1 b n p λq=>lS n i1 λr=>lI 1 b r p λp=>CF a zs.less #[q,p] o (λp q=>Un .not p λp=>Br p (JE e [i] q) (DR q λp=>lS n i1 λr=>lS n i1 λs=>lI 1 b s p λs=>lI 1 b n p λp=>ai 1 b n λt=>St 1 q t s λq=>ai 1 b r λr=>St 1 q r p λp=>lA n i1 λq=>az l m [q] p [n] o)) fZ) (JE e [i] o)) (JE e [i] h)) λe=>lS i c λc=>oG c (iv 2) λc=>Br c (lS i i1 λc=>yA [c] g λc h l m=>oG l i1 λn=>Br n (DR m λn=>lI 1 b l n λo=>lS l i1 λp=>lI 1 b p n λn=>CF a zs.less #[o,n] m (λn o=>Un .not n λn=>Br n (JE e [] o) (DR o λn=>lS l i1 λp=>lS l i1 λq=>lI 1 b q n λq=>lI 1 b l n λn=>ai 1 b l λr=>St 1 o r q λo=>ai 1 b p λp=>St 1 o p n λn=>lS l i1 λo=>az c h [o] n [l] m)) fZ) (JE e [] m)) (JE e [] g))))) λc=>DR k λe=>lL i d λd=>Br d (lI 1 b i e λd=>lS i i1 λg=>lI 1 b g e λb=>∀e:Hp,
CF (a.add e) zs.less #[d,b] k (λa b=>Un .not a λa=>aS vT a vF λa=>JE c [a] b) fZ) (JE c [vF] k)) (rt f vF j)
def L9007:Y4:=λa b c d e f g=>DR f λh=>lI 1 b e h λi=>lI 1 b c h λh=>ai 1 b c λj=>St 1 f j i λf=>ai 1 b e λe=>St 1 f e h λe=>lA c i1 λf=>lS d i1 λd=>yB [f,d] e λd e f h i=>yA [f] i λj k l m=>jB (λn o=>Br n (lA l i1 λn=>az j k [n] o [l] m) (yA [h] o λj k n o=>jB (λp q=>Br p (lS n i1 λp=>az j k [p] q [n] o) (lG l n λj=>Br j (rt g l q) (DR q λg=>lI 1 b n g λj=>lI 1 b l g λg=>ai 1 b l λk=>St 1 q k j λj=>ai 1 b n λk=>St 1 j k g λg=>lA l i1 λj=>lS n i1 λk=>az d e [j,k] g [f,h] i))) λd=>DR o λe=>oQ l n λf=>Br f (lI 1 b c e λf=>lI 1 b n e λe=>∀g:Hp,
CF (a.add g) zs.less #[f,e] o (λe f=>aS vT e vF λe=>JE d [e] f) fZ) (JE d [vF] o))) λd=>DR m λe=>oQ l h λf=>Br f (lI 1 b c e λc=>lI 1 b l e λb=>∀e:Hp,
CF (a.add e) zs.less #[c,b] m (λa b=>Un .not a λa=>aS vT a vF λa=>JE d [a] b) fZ) (JE d [vF] m)
def L9008:Y4:=λa b c d e f g=>DR f λh=>lI 1 b e h λi=>lI 1 b c h λh=>ai 1 b c λj=>St 1 f j i λf=>ai 1 b e λe=>St 1 f e h λe=>lA c i1 λf=>lS d i1 λd=>yA [f] e λe f h i=>jB (λj k=>Br j (lA h i1 λj=>az e f [j] k [h] i) (yA [d] k λe f j k=>jB (λl m=>Br l (lS j i1 λl=>az e f [l] m [j] k) (lG h j λe=>Br e (DR m λe=>lI 1 b c e λf=>lI 1 b j e λe=>ai 1 b j λl=>St 1 m l f λf=>ai 1 b c λl=>St 1 f l e λe=>rt g (tP j vT) e) (DR m λe=>lI 1 b j e λf=>lI 1 b h e λe=>ai 1 b h λl=>St 1 m l f λf=>ai 1 b j λl=>St 1 f l e λe=>lA h i1 λf=>lS j i1 λl=>yB [f,l] e λe f l m n=>yA [l] n λo p q r=>jB (λs t=>Br s (lA q i1 λs=>az o p [s] t [q] r) (yA [m] t λo p s t=>jB (λu v=>Br u (lS s i1 λu=>az o p [u] v [s] t) (lG q s λo=>Br o (DR v λo=>lI 1 b c o λp=>lI 1 b s o λo=>ai 1 b s λu=>St 1 v u p λp=>ai 1 b c λu=>St 1 p u o λo=>rt g (tP s vF) o) (DR v λg=>lI 1 b s g λo=>lI 1 b q g λg=>ai 1 b q λp=>St 1 v p o λo=>ai 1 b s λp=>St 1 o p g λg=>lA q i1 λo=>lS s i1 λp=>az e f [o,p] g [l,m] n))) λe=>DR t λf=>oQ q s λg=>Br g (lI 1 b s f λg=>lI 1 b c f λf=>∀l:Hp,
CF (a.add l) zs.less #[g,f] t (λf g=>Un .not f λf=>aS vT f vF λf=>JE e [f] g) fZ) (JE e [vF] t))) λe=>DR r λf=>oQ q m λg=>Br g (lI 1 b q f λg=>lI 1 b c f λf=>∀l:Hp,
CF (a.add l) zs.less #[g,f] r (λf g=>aS vT f vF λf=>JE e [f] g) fZ) (JE e [vF] r)))) λe=>DR k λf=>oQ h j λg=>Br g (lI 1 b j f λg=>lI 1 b c f λf=>∀j:Hp,
CF (a.add j) zs.less #[g,f] k (λf g=>Un .not f λf=>aS vT f vF λf=>JE e [f] g) fZ) (JE e [vF] k))) λe=>DR i λf=>oQ h d λd=>Br d (lI 1 b h f λd=>lI 1 b c f λb=>∀c:Hp,
CF (a.add c) zs.less #[d,b] i (λa b=>aS vT a vF λa=>JE e [a] b) fZ) (JE e [vF] i)
def L9009:Y3:=λa b c d e f=>lS d c λd=>oG d (iv 8) λg=>Br g (aM .u64 d λg=>lQ 1 e #[(wi 0)] 366 g λg h=>CR f a 282 #[d] h λh i=>ae .num .quo d (iv 4) λj=>oM j (iv 2) λj=>lA c j λj=>lS j i1 λj=>yA [j] i λi j k l=>ae .num .quo d (iv 4) λm=>oM m (iv 2) λm=>lA c m λm=>lA m i1 λm=>oQ k m λm=>Br m (CR f a 283 #[(pt g)] l λa g=>lS h (wi 1) λh=>oA a h λa=>aM .i64 a λa=>jB (λh m=>DR m λn=>lA c h λo=>lA c h λc=>lI 1 b c n λc=>lI 1 b k n λh=>ai 1 b k λn=>St 1 m n c λc=>ai 1 b o λb=>St 1 c b h λb=>lA k i1 λc=>az i j [c] b [k] l) λb=>oG a d λc=>Br c (lS a d λc=>JE b [c] g) (JE b [a] g)) (rt f (.tuple #[]) l)) (rt f (.tuple #[]) e)
def L9010:Y4:=λa b c d e f g=>DR f λh=>lI 1 b d h λi=>lI 1 b c h λb=>CF a zs.less #[i,b] f (λa b=>Br a (Nil e λa=>Ld b a λa=>lA a i1 λa=>Nil e λe=>St 1 b e a λa=>rt g (tP d c) a) (rt g (tP c d) b)) fZ
def L9011:Y5:=λa b c d e f g h=>CF a zs.zy #[b,c,d,f] g (λc d=>lX c λc g=>CF a zs.zy #[b,g,e,f] d (λd e=>lX d λd _=>CF a zs.zy #[b,c,d,f] e (λa b=>lX a λ_ a=>rt h a b) (cA h)) (cA h)) (cA h)
def L9012:Y3:=λa b c d e f=>lS c i1 λg=>lA c i1 λh=>CF a zs.ZA #[b,g,c,h,d] e (λa b=>rt f a b) (cA f)
def L9013:Y3:=λa b c d e f=>lS d c λd=>lW e #[i0] 3 λe g=>ae .num .quo d (iv 4) λh=>oM h i1 λh=>lA c h λh=>ae .num .quo d (iv 4) λi=>oM i (iv 2) λi=>lA c i λi=>ae .num .quo d (iv 4) λj=>oM j (iv 3) λj=>lA c j λc=>jB (λj k=>Ld k (pt e) λl=>lE l i0 λm=>Br m (rt f (tP j i1) k) (lE l (iv 12) λl=>Br l (rt f (tP j (iv 2)) k) (rt f (tP j i0) k))) λj=>oG d (iv 8) λk=>Br k (∀k:Jt,(∀l m n:zV,∀o:Hp,(∀_:Fr,
CF a zs.ZA #[b,l,m,n,(pt e)] o (λp q=>JE j [p] q) (cA f))->k [l,m,n] o)->oG d (iv 50) λd=>Br d (CF a zs.Et #[b,h,(pt e)] g (λd l=>CF a zs.Et #[b,i,(pt e)] l (λl m=>CF a zs.Et #[b,c,(pt e)] m (λa b=>JE k [d,l,a] b) (cA f)) (cA f)) (cA f)) (JE k [h,i,c] g)) (JE j [i] g)
def L9014:Y4:=λa b c d e f g=>∃(h:Jt) (i:Mt),JE h [c,d,e,vT,vT] f/\∀c d e f j:zV,∀k:Hp,h [c,d,e,f,j] k->∀_:Fr,
lS d c λl=>oQ l (iv 12) λm=>Br m (CF a zs.B6 #[b,c,d] k (λ_ m=>rt g (.tuple #[]) m) (cA g)) (lE e i0 λm=>Br m (CF a zs.heap #[b,c,d] k (λ_ m=>rt g (.tuple #[]) m) (cA g)) (jB (λm n=>CF a zs.piv #[b,c,d] n (λn o=>lX n λn p=>jC (λq r s=>jA (λt=>jB (λu v=>Br u (CF a zs.uL #[b,c,d,q] v (λu w=>az h i [u,d,m,f,j] w [c,d,e,f,j] k) (cA g)) (CF a zs.part #[b,c,d,q] v (λu v=>lX u λu w=>lS u c λx=>lS d u λy=>ae .num .quo l (iv 8) λl=>lL x y λz=>Br z (oG x l λx=>CF a zs.XP #[b,c,u,m] v (λ_ z=>lA u i1 λA=>az h i [A,d,m,x,w] z [c,d,e,f,j] k) (cA g)) (oG y l λl=>lA u i1 λx=>CF a zs.XP #[b,x,d,m] v (λ_ v=>az h i [c,u,m,l,w] v [c,d,e,f,j] k) (cA g))) (cA g))) λh=>DR t λi=>lG c i0 λl=>Br l (lS c i1 λl=>lI 1 b l i λl=>lI 1 b q i λi=>∀m:Hp,
CF (a.add m) zs.less #[l,i] t (λi l=>Un .not i λi=>aS vT i vF λi=>JE h [i] l) fZ) (JE h [vF] t)) λh=>lU f (λi=>(lV s j i)) λi=>lU (Value.bool i) (λi=>lE r i1 λj=>(lV s j i)) λi=>Br (Value.bool i) (CF a zs.pins #[b,c,d] s (λi j=>Br i (rt g (.tuple #[]) j) (JE h [] j)) (cA g)) (JE h [] s)) λh=>lE p (iv 2) λi=>Br i (CF a zs.rev #[b,c,d] o (λ_ i=>lS d i1 λj=>lS n c λl=>lS j l λj=>JE h [j,i1] i) (cA g)) (JE h [n,p] o)) (cA g)) λh=>Un .not f λf=>Br f (CF a zs.Z8 #[b,c,d] k (λ_ a=>lS e i1 λb=>JE h [b] a) (cA g)) (JE h [e] k)))
end
structure JZ(zs:Srt):Prop where
 nan:∀{g:Gh} {a0:zV} {H:Hp} {R:Rt},L9000 g a0 H R->aZ zQ g zs.nan #[a0] H R
 less:∀{g:Gh} {a0 a1:zV} {H:Hp} {R:Rt},L9001 zs g a0 a1 H R->aZ zQ g zs.less #[a0,a1] H R
 B6:∀{g:Gh} {a0 a1 a2:zV} {H:Hp} {R:Rt},L9002 zs g a0 a1 a2 H R->aZ zQ g zs.B6 #[a0,a1,a2] H R
 KO:∀{g:Gh} {a0 a1 a2 a3:zV} {H:Hp} {R:Rt},L9003 zs g a0 a1 a2 a3 H R->aZ zQ g zs.KO #[a0,a1,a2,a3] H R
 heap:∀{g:Gh} {a0 a1 a2:zV} {H:Hp} {R:Rt},L9004 zs g a0 a1 a2 H R->aZ zQ g zs.heap #[a0,a1,a2] H R
 rev:∀{g:Gh} {a0 a1 a2:zV} {H:Hp} {R:Rt},L9005 g a0 a1 a2 H R->aZ zQ g zs.rev #[a0,a1,a2] H R
 pins:∀{g:Gh} {a0 a1 a2:zV} {H:Hp} {R:Rt},L9006 zs g a0 a1 a2 H R->aZ zQ g zs.pins #[a0,a1,a2] H R
 uL:∀{g:Gh} {a0 a1 a2 a3:zV} {H:Hp} {R:Rt},L9007 zs g a0 a1 a2 a3 H R->aZ zQ g zs.uL #[a0,a1,a2,a3] H R
 part:∀{g:Gh} {a0 a1 a2 a3:zV} {H:Hp} {R:Rt},L9008 zs g a0 a1 a2 a3 H R->aZ zQ g zs.part #[a0,a1,a2,a3] H R
 Z8:∀{g:Gh} {a0 a1 a2:zV} {H:Hp} {R:Rt},L9009 g a0 a1 a2 H R->aZ zQ g zs.Z8 #[a0,a1,a2] H R
 zy:∀{g:Gh} {a0 a1 a2 a3:zV} {H:Hp} {R:Rt},L9010 zs g a0 a1 a2 a3 H R->aZ zQ g zs.zy #[a0,a1,a2,a3] H R
 ZA:∀{g:Gh} {a0 a1 a2 a3 a4:zV} {H:Hp} {R:Rt},L9011 zs g a0 a1 a2 a3 a4 H R->aZ zQ g zs.ZA #[a0,a1,a2,a3,a4] H R
 Et:∀{g:Gh} {a0 a1 a2:zV} {H:Hp} {R:Rt},L9012 zs g a0 a1 a2 H R->aZ zQ g zs.Et #[a0,a1,a2] H R
 piv:∀{g:Gh} {a0 a1 a2:zV} {H:Hp} {R:Rt},L9013 zs g a0 a1 a2 H R->aZ zQ g zs.piv #[a0,a1,a2] H R
 XP:∀{g:Gh} {a0 a1 a2 a3:zV} {H:Hp} {R:Rt},L9014 zs g a0 a1 a2 a3 H R->aZ zQ g zs.XP #[a0,a1,a2,a3] H R
def zR:Srt:=⟨329,319,313,326,314,317,318,320,321,315,331,328,327,316,306⟩
theorem aam:JZ zR:=⟨λh=>e9 (hn:=.e) func329 h zK,
 λh=>e9 (hn:=(.n .e (.h 1 [4] [] .e .e))) func319 h zK,
 λh=>e9 (hn:=(.n .e (.n (.h 0 [6] [0,1,2] (.n .e (.n (.n (.n .e (.n (.h 0 [7] [0,1,2,6] (.n (.h 1 [30] [0,1,2,6,7] (.h 1 [] [] (.h 0 [0] [] (.h 0 [1] [] (.h 0 [2] [] (.h 2 [3] [] (.h 0 [4] [] (.h 0 [5] [] (.h 0 [6] [] (.h 0 [7] [] (.h 0 [8] [] (.h 0 [9] [] (.h 0 [10] [] (.h 0 [11] [] (.h 0 [12] [] (.h 0 [13] [] (.h 0 [14] [] .e .e) .e) .e) .e) .e) .e) .e) .e) .e) .e) .e) (.h 0 [4] [] (.h 0 [5] [] (.h 0 [6] [] (.h 0 [7] [] (.h 0 [8] [] (.h 0 [9] [] (.h 0 [10] [] (.h 0 [11] [] (.h 0 [12] [] (.h 0 [13] [] (.h 3 [14] [] .e .e) .e) .e) .e) .e) .e) .e) .e) .e) .e) .e)) .e) .e) .e) .e) .e) (.n (.n (.h 0 [0,1,2,3,4,5,6,7,8,9,10,11,12,13,14,15,16,17] [] .e .e) .e) .e)) .e) .e)) .e) .e)) .e) .e))) func313 h zK,
 λh=>e9 (hn:=(.n .e (.n (.h 0 [8] [0,2,3] (.n (.n .e (.n .e (.h 1 [9] [0,2,3,8] (.h 1 [36] [0,2,3,8,9] (.h 1 [] [] (.h 0 [0] [] (.h 0 [1] [] (.h 0 [2] [] (.h 0 [3] [] (.h 2 [4] [] (.h 0 [5] [] (.h 0 [6] [] (.h 0 [7] [] (.h 0 [8] [] (.h 0 [9] [] (.h 0 [10] [] (.h 0 [11] [] (.h 0 [12] [] (.h 0 [13] [] (.h 0 [14] [] (.h 0 [15] [] (.h 0 [16] [] (.h 0 [17] [] (.h 0 [18] [] (.h 0 [19] [] .e .e) .e) .e) .e) .e) .e) .e) .e) .e) .e) .e) .e) .e) .e) .e) (.h 0 [5] [] (.h 0 [6] [] (.h 0 [7] [] (.h 0 [8] [] (.h 0 [9] [] (.h 0 [10] [] (.h 0 [11] [] (.h 0 [12] [] (.h 0 [13] [] (.h 0 [14] [] (.h 0 [15] [] (.h 0 [16] [] (.h 0 [17] [] (.h 0 [18] [] (.h 3 [19] [] .e .e) .e) .e) .e) .e) .e) .e) .e) .e) .e) .e) .e) .e) .e) .e)) .e) .e) .e) .e) .e) .e) (.n (.n (.h 0 [0,1,2,3,4,5,6,7,8,9,10,11,12,13] [] .e .e) .e) (.n (.h 0 [0,1,2,3,4,5,6,7,8,9,10,11,12,13,14,15,16,17,18,19,20,21,22,23] [] .e .e) .e))))) .e) .e) .e))) func326 h zK,
 λh=>e9 (hn:=(.n .e (.n .e (.n .e (.n (.n .e (.n (.h 0 [9] [0,6,7,8] .e .e) .e)) (.n .e (.n (.h 0 [10] [0,6,7] (.n .e (.n (.n (.n (.h 0 [0,1,2,3,4,5,6,7,8,9,10,11,12,13,14,15,16,17,18,19] [] .e .e) .e) .e) .e)) .e) .e))))))) func314 h zK,
 λh=>e9 (hn:=(.n .e (.n .e (.n (.h 0 [6,7] [0] (.n .e (.n (.n (.h 0 [0,1,2,3,4,5,6,7,8,9,10,11,12,13,14,15] [] .e .e) .e) .e)) .e) .e)))) func317 h zK,
 λh=>e9 (hn:=(.n .e (.n .e (.n (.n .e (.n (.h 0 [7,8] [0,1,2] (.n .e (.h 1 [7] [0,1,2,8] (.n (.n (.n (.h 0 [7] [0,1,2,8] (.n (.h 1 [32] [0,1,2,7,8] (.h 1 [] [] (.h 0 [0] [] (.h 0 [1] [] (.h 0 [2] [] (.h 2 [3] [] (.h 0 [4] [] (.h 0 [5] [] (.h 0 [6] [] (.h 0 [7] [] (.h 0 [8] [] (.h 0 [9] [] (.h 0 [10] [] (.h 0 [11] [] (.h 0 [12] [] (.h 0 [13] [] (.h 0 [14] [] (.h 0 [15] [] .e .e) .e) .e) .e) .e) .e) .e) .e) .e) .e) .e) .e) (.h 0 [4] [] (.h 0 [5] [] (.h 0 [6] [] (.h 0 [7] [] (.h 0 [8] [] (.h 0 [9] [] (.h 0 [10] [] (.h 0 [11] [] (.h 0 [12] [] (.h 0 [13] [] (.h 0 [14] [] (.h 3 [15] [] .e .e) .e) .e) .e) .e) .e) .e) .e) .e) .e) .e) .e)) .e) .e) .e) .e) .e) .e) .e) .e) (.n .e (.n .e (.n (.h 0 [0,1,2,3,4,5,6,7,8,9,10,11,12,13,14,15,16,17] [] .e .e) (.h 1 [] [0,1,2,7,8] (.n .e (.n (.n .e (.n (.h 0 [9] [0,1,2,7,8] (.n .e (.n (.n (.n (.n (.h 0 [0,1,2,3,4,5,6,7,8,9,10] [] .e .e) .e) (.h 0 [0,1,2,3,4,5,6,7,8,9,10,11,12,13,14,15,16,17] [] .e .e)) .e) .e)) .e) .e)) .e)) (.n .e (.n (.n .e (.n (.h 0 [10] [0,1,2,7,8] (.n .e (.n (.n (.n (.n (.h 0 [0,1,2,3,4,5,6,7,8,9,10] [] .e .e) .e) (.h 0 [0,1,2,3,4,5,6,7,8,9,10,11,12,13,14,15,16,17] [] .e .e)) .e) .e)) .e) .e)) .e))))))) .e) .e)) .e) .e)) .e)))) func318 h zK,
 λh=>e9 (hn:=(.n .e (.n (.h 0 [0,1,2,3,4,5,6,7,8,9,10,11,12,13,14,15] [] .e .e) (.n .e (.n (.n (.h 0 [9,10] [0,1] (.n (.n (.n (.h 0 [9] [0,1,10] (.n (.h 1 [43] [0,1,9,10] (.h 1 [] [] (.h 0 [0] [] (.h 0 [1] [] (.h 0 [2] [] (.h 2 [3] [] (.h 0 [4] [] (.h 0 [5] [] (.h 0 [6] [] (.h 0 [7] [] (.h 0 [8] [] (.h 0 [9] [] (.h 0 [10] [] (.h 0 [11] [] (.h 0 [12] [] (.h 0 [13] [] (.h 0 [14] [] .e .e) .e) .e) .e) .e) .e) .e) .e) .e) .e) .e) (.h 0 [4] [] (.h 0 [5] [] (.h 0 [6] [] (.h 0 [7] [] (.h 0 [8] [] (.h 0 [9] [] (.h 0 [10] [] (.h 0 [11] [] (.h 0 [12] [] (.h 0 [13] [] (.h 3 [14] [] .e .e) .e) .e) .e) .e) .e) .e) .e) .e) .e) .e)) .e) .e) .e) .e) .e) .e) .e) .e) (.n (.n (.h 0 [10] [0,1,9] (.n (.h 1 [59] [0,1,9,10] (.h 1 [] [] (.h 0 [0] [] (.h 0 [1] [] (.h 0 [2] [] (.h 2 [3] [] (.h 0 [4] [] (.h 0 [5] [] (.h 0 [6] [] (.h 0 [7] [] (.h 0 [8] [] (.h 0 [9] [] (.h 0 [10] [] (.h 0 [11] [] (.h 0 [12] [] (.h 0 [13] [] .e .e) .e) .e) .e) .e) .e) .e) .e) .e) .e) (.h 0 [4] [] (.h 0 [5] [] (.h 0 [6] [] (.h 0 [7] [] (.h 0 [8] [] (.h 0 [9] [] (.h 0 [10] [] (.h 0 [11] [] (.h 0 [12] [] (.h 3 [13] [] .e .e) .e) .e) .e) .e) .e) .e) .e) .e) .e)) .e) .e) .e) .e) .e) .e) .e) .e) (.n .e (.n (.h 0 [0,1,2,3,4,5,6,7,8,9,10,11,12,13,14,15] [] .e .e) .e)))) .e) .e) .e) .e))))) func320 h zK,
 λh=>e9 (hn:=(.n .e (.n (.h 0 [0,1,2,3,4,5,6,7,8,9,10,11,12,13,14,15] [] .e .e) (.n .e (.n (.n (.h 0 [10] [0,1,11] (.n (.h 1 [43] [0,1,10,11] (.h 1 [] [] (.h 0 [0] [] (.h 0 [1] [] (.h 0 [2] [] (.h 2 [3] [] (.h 0 [4] [] (.h 0 [5] [] (.h 0 [6] [] (.h 0 [7] [] (.h 0 [8] [] (.h 0 [9] [] (.h 0 [10] [] (.h 0 [11] [] (.h 0 [12] [] (.h 0 [13] [] .e .e) .e) .e) .e) .e) .e) .e) .e) .e) .e) (.h 0 [4] [] (.h 0 [5] [] (.h 0 [6] [] (.h 0 [7] [] (.h 0 [8] [] (.h 0 [9] [] (.h 0 [10] [] (.h 0 [11] [] (.h 0 [12] [] (.h 3 [13] [] .e .e) .e) .e) .e) .e) .e) .e) .e) .e) .e)) .e) .e) .e) .e) .e) .e) .e) .e) (.n (.n (.h 0 [11] [0,1,10] (.n (.h 1 [60] [0,1,10,11] (.h 1 [] [] (.h 0 [0] [] (.h 0 [1] [] (.h 0 [2] [] (.h 2 [3] [] (.h 0 [4] [] (.h 0 [5] [] (.h 0 [6] [] (.h 0 [7] [] (.h 0 [8] [] (.h 0 [9] [] (.h 0 [10] [] (.h 0 [11] [] (.h 0 [12] [] (.h 0 [13] [] (.h 0 [14] [] .e .e) .e) .e) .e) .e) .e) .e) .e) .e) .e) .e) (.h 0 [4] [] (.h 0 [5] [] (.h 0 [6] [] (.h 0 [7] [] (.h 0 [8] [] (.h 0 [9] [] (.h 0 [10] [] (.h 0 [11] [] (.h 0 [12] [] (.h 0 [13] [] (.h 3 [14] [] .e .e) .e) .e) .e) .e) .e) .e) .e) .e) .e) .e)) .e) .e) .e) .e) .e) .e) .e) .e) (.n (.n .e (.n (.n (.h 0 [0,1,2,3,4,5,6,7,8,9,10,11,12,13,14,15] [] .e .e) .e) .e)) (.n (.h 0 [0,1,2,3,4,5,6,7,8,9,10,11,12,13,14,15] [] .e .e) (.n .e (.n .e (.n (.n (.h 0 [10,11] [0,1] (.n (.n (.n (.h 0 [10] [0,1,11] (.n (.h 1 [112] [0,1,10,11] (.h 1 [] [] (.h 0 [0] [] (.h 0 [1] [] (.h 0 [2] [] (.h 2 [3] [] (.h 0 [4] [] (.h 0 [5] [] (.h 0 [6] [] (.h 0 [7] [] (.h 0 [8] [] (.h 0 [9] [] (.h 0 [10] [] (.h 0 [11] [] (.h 0 [12] [] (.h 0 [13] [] .e .e) .e) .e) .e) .e) .e) .e) .e) .e) .e) (.h 0 [4] [] (.h 0 [5] [] (.h 0 [6] [] (.h 0 [7] [] (.h 0 [8] [] (.h 0 [9] [] (.h 0 [10] [] (.h 0 [11] [] (.h 0 [12] [] (.h 3 [13] [] .e .e) .e) .e) .e) .e) .e) .e) .e) .e) .e)) .e) .e) .e) .e) .e) .e) .e) .e) (.n (.n (.h 0 [11] [0,1,10] (.n (.h 1 [129] [0,1,10,11] (.h 1 [] [] (.h 0 [0] [] (.h 0 [1] [] (.h 0 [2] [] (.h 2 [3] [] (.h 0 [4] [] (.h 0 [5] [] (.h 0 [6] [] (.h 0 [7] [] (.h 0 [8] [] (.h 0 [9] [] (.h 0 [10] [] (.h 0 [11] [] (.h 0 [12] [] (.h 0 [13] [] (.h 0 [14] [] .e .e) .e) .e) .e) .e) .e) .e) .e) .e) .e) .e) (.h 0 [4] [] (.h 0 [5] [] (.h 0 [6] [] (.h 0 [7] [] (.h 0 [8] [] (.h 0 [9] [] (.h 0 [10] [] (.h 0 [11] [] (.h 0 [12] [] (.h 0 [13] [] (.h 3 [14] [] .e .e) .e) .e) .e) .e) .e) .e) .e) .e) .e) .e)) .e) .e) .e) .e) .e) .e) .e) .e) (.n .e (.n (.h 0 [0,1,2,3,4,5,6,7,8,9,10,11,12,13,14,15] [] .e .e) .e)))) .e) .e) .e) (.n (.h 0 [0,1,2,3,4,5,6,7,8,9,10,11,12,13,14,15] [] .e .e) .e)))))))))))) func321 h zK,
 λh=>e9 (hn:=(.n .e (.n .e (.n (.n .e (.n .e (.n .e (.n (.h 0 [9] [0,1,6,7,8] (.n .e (.n (.n (.n .e (.h 1 [10] [0,1,6,7,8,9] .e (.h 0 [0,1,2,3,4,5,6,7,8,9,10,11,12,13,14,15,16,17,18,19] [] .e .e))) .e) .e)) .e) .e)))) .e)))) func315 h zK,
 λh=>e9 (hn:=(.n .e (.n (.n (.h 0 [0,1,2,3,4,5,6,7,8] [] .e .e) .e) .e))) func331 h zK,
 λh=>e9 (hn:=.e) func328 h zK,
 λh=>e9 (hn:=.e) func327 h zK,
 λh=>e9 (hn:=(.n .e (.n .e (.n .e (.n .e (.n .e (.n .e (.h 1 [11] [9] (.n .e (.n (.h 1 [10,11,12] [0,9] .e .e) .e)) .e)))))))) func316 h zK,
 λh=>e9 (hn:=(.n .e (.n .e (.n (.h 0 [1,2,3,8,9] [0] (.n (.n .e (.n .e (.n .e (.h 1 [3] [0,1,2,8,9,10] .e (.n .e (.h 1 [11,12] [0,1,2,3,8,9,10] .e (.h 1 [] [0,1,2,3,8,9,10,11] (.n (.h 0 [] [1] .e .e) .e) (.n (.h 1 [87] [0,1,2,3,8,9,10,11] (.h 1 [] [] (.h 0 [0] [] (.h 0 [1] [] (.h 2 [2] [] (.h 0 [3] [] (.h 0 [4] [] (.h 0 [5] [] (.h 0 [6] [] (.h 0 [7] [] (.h 0 [8] [] (.h 0 [9] [] (.h 0 [10] [] (.h 0 [11] [] (.h 0 [12] [] (.h 0 [13] [] (.h 0 [14] [] .e .e) .e) .e) .e) .e) .e) .e) .e) .e) .e) .e) .e) (.h 0 [3] [] (.h 0 [4] [] (.h 0 [5] [] (.h 0 [6] [] (.h 0 [7] [] (.h 0 [8] [] (.h 0 [9] [] (.h 0 [10] [] (.h 0 [11] [] (.h 0 [12] [] (.h 0 [13] [] (.h 3 [14] [] .e .e) .e) .e) .e) .e) .e) .e) .e) .e) .e) .e) .e)) .e) .e) .e) .e) .e)))))))) .e) .e) .e)))) func306 h zK⟩
end
section
def SXZ(T:TypeId)(kd:IntKind)(v:zV)(d:Array Int):zV->Hp->Prop:=λr C'=>r=.tuple #[]/\Da T kd v d C'
section
variable {v:zV} {d:Array Int} {C:Hp} {T:TypeId} {kd:IntKind} {zs:Srt} (ok:JZ zs)
include ok in
theorem Ur(x:Int)(B:Hp):Rd zQ zs.nan #[.int kd x] B (· =.bool false):=by
 refine aK λg=>ok.nan ?_;exact ae.fX (bE.mk (.refl _) zI)
include ok in
theorem dy(x y:Int)(B:Hp):Rd zQ zs.less #[.int kd x,.int kd y] B (· =.bool (cv x y)):=by
 refine aK λg=>ok.less ?_;intro J1 hJ1;exact aa.eq (Ur ok x B) (Split.XQ rfl (aS.mk (ae.lss (aS.mk (JE.mk (hJ1 _ _ λgs=>bE.mk (.refl _) rfl))))))
include ok in
theorem yw(h:Da T kd v d C){a b:Nat}(hab:a<=b)(hb:b<=d.size)(cL:d.size<1152921504606846976):Fc zQ zs.B6 #[v,iv (a:Int),iv (b:Int)] C (SXZ T kd v (Sort.insertionSort cv d a b)):=by
 refine aK λg=>ok.B6 ?_;refine ae.inc (⟨λvs H=>∃(i:Nat) (e:Array Int),vs=[iv (i:Int)]/\a<i/\e.size=d.size/\Sort.insOuter cv a b i e=Sort.insertionSort cv d a b/\Da T kd v e H,λvs _=>d.size-bj vs 0,JE.mk ⟨a+1,d,rfl,by omega,rfl,rfl,h⟩,?_⟩);rintro w H ⟨i,e,hw,hi,hs,he,hd⟩ gs;simp only[xay,xa5]at hw;subst hw;rw[Sort.insOuter]at he;refine ae.cU (Br.dec (λhlt=>?_) (λhge=>?_));rotate_left
 ·rw[xac hge]at he;exact aQ.here ⟨rfl,by rw[<-he];exact hd⟩
 rw[xae hlt]at he;refine⟨λvs H=>∃(j:Nat) (e:Array Int),vs=[iv (j:Int)]/\a<=j/\j<=i/\e.size=d.size/\Sort.insOuter cv a b (i+1) (Sort.insInner cv a j e)=Sort.insertionSort cv d a b/\Da T kd v e H,λvs _=>bj vs 0,JE.mk ⟨i,e,rfl,by omega,xak _,hs,he,hd⟩,?_⟩;clear hd he hs e;rintro w H ⟨j,e,hw,YG,QI,hs,he,hd⟩ gs;simp only[xay,xa5]at hw;subst hw;intro J hJ;have no:Sort.insInner cv a j e=e->J [.bool false] H:=λhi=>hJ _ _ λgs=>Br.no (ae.inc (az.mk ⟨i+1,e,rfl,by omega,hs,by rw[hi]at he;exact he,hd⟩ (by simp[bj];omega)));have yes:a<j->Sort.insInner cv a j e=Sort.insInner cv a (j-1) (Sort.swp e j (j-1))->J [.bool true] H:=λYG hi=>hJ _ _ λgs=>Br.yes (DR.self (ae.cf (b:=1) (ae.cf (b:=1)
  (hd.swap .here zO zO λC' dN=>ae.cf (b:=1) (az.mk ⟨j-1,_,rfl,by omega,by omega,iq hs,by rw[<-hi];exact he,dN⟩ (by simp[bj];omega))))))
 refine DR.self (ae.iF (Br.dec (λhgt=>?_) λhn=>JE.mk (no (Qm hn))));refine hd.ld (λ_ h=>h) zO (ae.cf (b:=1) (hd.ld (λ_ h=>h) zO λF=>?_));refine aa.eq (dy ok _ _ _) (aS.mk ?_);have hst:=Qn (e:=e) hgt;cases hl:cv e[j]! e[j-1]!
 ·rw[hl]at hst;exact JE.mk (no hst)
 rw[hl]at hst;exact JE.mk (yes hgt hst)
include ok in
theorem T5(h:Da T kd v d C){a b:Nat}(hab:a<b)(hb:b<=d.size)(cL:d.size<1152921504606846976):Fc zQ zs.rev #[v,iv (a:Int),iv (b:Int)] C (SXZ T kd v (Sort.reverseRange d a b)):=by
 refine aK λg=>ok.rev ?_;refine ae.cf (b:=1) (⟨λvs H=>∃(i j:Nat) (e:Array Int),vs=[iv (i:Int),iv (j:Int)]/\j<d.size/\e.size=d.size/\Sort.reverseLoop i j e=Sort.reverseRange d a b/\Da T kd v e H,λvs _=>bj vs 1-bj vs 0,JE.mk ⟨a,b-1,d,rfl,by omega,rfl,rfl,h⟩,?_⟩);rintro w w' H ⟨i,j,e,hw,hj,hs,he,hd⟩ gs;simp only[xay,xa5]at hw;obtain⟨rfl,rfl⟩:=hw;rw[Sort.reverseLoop]at he;refine ae.cU (Br.dec (λhlt=>?_) (λhge=>?_));rotate_left
 ·rw[xac hge]at he;exact aQ.here ⟨rfl,by rw[<-he];exact hd⟩
 rw[xae hlt]at he;refine DR.self (hd.swap .here zO zO λC' dN=>?_);exact ae.inc (ae.cf (b:=1) (az.mk ⟨i+1,j-1,_,rfl,by omega,iq hs,he,dN⟩ (by simp[bj];omega)))
include ok in
theorem PK(h:Da T kd v d C){a b:Nat}(hab:a<b)(hb:b<=d.size)(cL:d.size<1152921504606846976):Fc zQ zs.pins #[v,iv (a:Int),iv (b:Int)] C (λr C'=>r=.bool (Sort.partialInsertionSort cv d a b).2/\Da T kd v (Sort.partialInsertionSort cv d a b).1 C'):=by
 refine aK λg=>ok.pins ?_;refine ae.inc ?_;have fin:∀{e:Array Int} {t:Bool} {H:Hp},(e,t)=Sort.partialInsertionSort cv d a b->Da T kd v e H->aQ (λr C'=>r=.bool (Sort.partialInsertionSort cv d a b).2/\Da T kd v (Sort.partialInsertionSort cv d a b).1 C') (.returned (.bool t)) H:=λhe hd=>by
  rw[<-he];exact aQ.here ⟨rfl,hd⟩
 refine⟨λvs H=>∃(i k:Nat) (e:Array Int),vs=[iv (i:Int),iv (k:Int)]/\k<=5/\a<i/\i<=b/\e.size=d.size/\Sort.partialIns cv a b (5-k) i e=Sort.partialInsertionSort cv d a b/\Da T kd v e H,λvs _=>5-bj vs 1,JE.mk ⟨a+1,0,d,rfl,by omega,by omega,by omega,rfl,rfl,h⟩,?_⟩;rintro w w' H ⟨i0,k,e,hw,hk5,Tc,yD,hs,he,hd⟩ gs;simp only[xay,xa5]at hw;obtain⟨rfl,rfl⟩:=hw;refine ae.cU (b:=5) (Br.dec (λhk=>?_) (λhk=>?_));rotate_left
 ·obtain rfl:k=5:=by omega
  exact fin he hd
 rw[show 5-k=(5-(k+1))+1 by omega,Sort.partialIns_succ]at he;intro J9 Ri;refine⟨λvs H=>∃i:Nat,vs=[iv (i:Int)]/\a<i/\i<=b/\Sort.scanSorted cv e b i=Sort.scanSorted cv e b i0/\Da T kd v e H,λvs _=>b-bj vs 0,JE.mk ⟨i0,rfl,Tc,yD,rfl,hd⟩,?_⟩;clear hd Tc yD;rintro w H ⟨i,hw,Tc,yD,hsc,hd⟩ gs;simp only[xay,xa5]at hw;subst hw;rw[<-hsc]at he;rw[Sort.scanSorted]at hsc;intro J19 acn;have yes:i<b->(!cv e[i]! e[i-1]!)=true->J19 [.bool true] H:=λhlt hl=>acn _ _ λgs=>Br.yes (ae.inc (az.mk ⟨i+1,rfl,by omega,by omega,by rw[<-hsc,xav hlt,hl];rfl,hd⟩ (by simp[bj];omega)));have no:Sort.scanSorted cv e b i=i->J19 [.bool false] H:=λhi=>by
  rw[hi]at he;refine acn _ _ λgs=>Br.no ?_;refine ae.bu (Br.dec (λhz=>?_) (λhne=>?_))
  ·rw[xae hz]at he;exact fin he hd
  rw[xac hne]at he;refine ae.cf (ae.cU (b:=50) (Br.dec (λhz=>?_) (λhz=>?_)))
  ·rw[xae hz]at he;exact fin he hd
  rw[xac hz]at he;refine DR.self (ae.cf (b:=1) (ae.cf (b:=1) (hd.swap .here zO zO λC1 AU=>?_)));have hs1:(Sort.swp e i (i-1)).size=d.size:=iq hs;generalize Sort.swp e i (i-1)=e1 at AU hs1 he;intro J38 afK;have next:∀(f:Array Int) H',f.size=d.size->f=Sort.fixUp cv b i (Sort.fixDown cv a i e1)->Da T kd v f H'->J9 [iv (i:Int)] H':=λf H' h1 h2 dN=>Ri _ _ λgs=>ae.inc (az.mk ⟨i,k+1,f,rfl,by omega,Tc,yD,h1,by rw[h2];exact he,dN⟩ (by simp[bj];omega))
  have tail:∀(f:Array Int) H',f.size=d.size->f=Sort.fixDown cv a i e1->Da T kd v f H'->J38 [] H':=λf H' h1 h2 dN=>by
   refine afK _ λgs=>?_;rw[<-h2]at next
   unfold Sort.fixUp at next
   refine ae.cf (ae.mh (b:=2) (Br.dec (λh2=>?_) (λh2=>JE.mk (next f _ h1 (by rw[xac h2]) dN))));rw[xae h2]at next
   refine ae.inc (⟨λvs H=>∃(j:Nat) (q:Array Int),vs=[iv (j:Int)]/\0<j/\q.size=d.size/\Sort.shiftUp cv b j q=Sort.shiftUp cv b (i+1) f/\Da T kd v q H,λvs _=>b-bj vs 0,JE.mk ⟨i+1,f,rfl,by omega,h1,rfl,dN⟩,?_⟩);rintro w H ⟨j,q,hw,Yv,Yg,hq,EW⟩ gs;simp only[xay,xa5]at hw;subst hw;rw[Sort.shiftUp]at hq;refine ae.cU (Br.dec (λhlt=>?_) (λhge=>?_));rotate_left
   ·rw[xac hge]at hq;exact JE.mk (next q _ Yg hq EW)
   rw[xae hlt]at hq;refine DR.self (EW.ld (λ_ h=>h) zO (ae.cf (b:=1) (EW.ld (λ_ h=>h) zO (aa.eq (dy ok _ _ _) (Un.not ?_)))));cases hl:cv q[j]! q[j-1]!
   ·rw[hl]at hq;exact Br.yes (JE.mk (next q _ Yg hq EW))
   rw[hl]at hq;refine Br.no (DR.self (ae.cf (b:=1) (ae.cf (b:=1) (EW.swap .here zO zO λC2 xm=>?_))));exact ae.inc (az.mk ⟨j+1,_,rfl,by omega,iq Yg,hq,xm⟩ (by simp[bj];omega))
  unfold Sort.fixDown at tail;refine ae.cf (ae.mh (b:=2) (Br.dec (λh2=>?_) (λh2=>JE.mk (tail e1 _ hs1 (by rw[xac h2]) AU))));rw[xae h2]at tail;refine ae.cf (b:=1) (⟨λvs H=>∃(j:Nat) (q:Array Int),vs=[iv (j:Int)]/\j<d.size/\q.size=d.size/\Sort.shiftDown cv j q=Sort.shiftDown cv (i-1) e1/\Da T kd v q H,λvs _=>bj vs 0,JE.mk ⟨i-1,e1,rfl,by omega,hs1,rfl,AU⟩,?_⟩);rintro w H ⟨j,q,hw,Yv,Yg,hq,EW⟩ gs;simp only[xay,xa5]at hw;subst hw;refine ae.mh (b:=1) (Br.dec (λhlt=>?_) (λhge=>JE.mk (tail q _ Yg (by rw[<-hq,Mp hge]) EW)));rw[rV hlt]at hq;refine DR.self (EW.ld (λ_ h=>h) zO (ae.cf (b:=1) (EW.ld (λ_ h=>h) zO (aa.eq (dy ok _ _ _) (Un.not ?_)))));cases hl:cv q[j]! q[j-1]!
  ·rw[hl]at hq;exact Br.yes (JE.mk (tail q _ Yg hq EW))
  rw[hl]at hq;refine Br.no (DR.self (ae.cf (b:=1) (ae.cf (b:=1) (EW.swap .here zO zO λC2 xm=>?_))));exact ae.cf (b:=1) (az.mk ⟨j-1,_,rfl,by omega,iq Yg,hq,xm⟩ (by simp[bj];omega))
 refine DR.self (ae.cU (Br.dec (λhlt=>?_) λhge=>JE.mk (no (by rw[Sort.scanSorted,xac zP]))));refine hd.ld (λ_ h=>h) zO (ae.cf (b:=1) (hd.ld (λ_ h=>h) zO λF=>?_));refine aa.eq (dy ok _ _ _) (Un.not (aS.mk ?_));cases hl:cv e[i]! e[i-1]!
 ·exact JE.mk (yes hlt (by rw[hl];rfl))
 exact JE.mk (no (by rw[Sort.scanSorted,hl,xac zI]))
include ok in
theorem Em(h:Da T kd v d C){a b p:Nat}(hp:a<=p/\p<b)(hb:b<=d.size)(cL:d.size<1152921504606846976):Fc zQ zs.uL #[v,iv (a:Int),iv (b:Int),iv (p:Int)] C
  (λr C'=>r=iv ((Sort.partitionEqual cv d a b p).1:Nat)/\Da T kd v (Sort.partitionEqual cv d a b p).2 C'):=by
 refine aK λg=>ok.uL ?_;refine DR.self (h.swap .here zO zO λC1 hd=>?_);refine ae.inc (ae.cf (b:=1) (⟨λvs H=>∃(i j:Nat) (e:Array Int),vs=[iv (i:Int),iv (j:Int)]/\a<i/\i<=b/\a<=j/\j<b/\e.size=d.size/\Sort.partEqLoop cv a i j e=Sort.partitionEqual cv d a b p/\Da T kd v e H,λvs _=>b-bj vs 0,JE.mk ⟨a+1,b-1,_,rfl,by omega,by omega,by omega,by omega,iq rfl,rfl,hd⟩,?_⟩));clear hd;rintro w w' H0 ⟨i0,j0,e,hw,Tc,yD,YG,hjb,hs,he,hd⟩ gs;simp only[xay,xa5]at hw;obtain⟨rfl,rfl⟩:=hw;rw[Sort.partEqLoop_eq]at he;refine⟨λvs H=>∃i:Nat,vs=[iv (i:Int)]/\i0<=i/\i<=b/\Sort.scanUp (λx=> !cv e[a]! x) e j0 i=Sort.scanUp (λx=> !cv e[a]! x) e j0 i0/\Da T kd v e H,λvs _=>b-bj vs 0,JE.mk ⟨i0,rfl,xak _,yD,rfl,hd⟩,?_⟩;clear hd yD;rintro w H ⟨i,hw,EU,yD,hsc,hd⟩ gs;simp only[xay,xa5]at hw;subst hw;rw[<-hsc]at he;rw[Sort.scanUp]at hsc;intro J23 acm;have yes:i<=j0->(!cv e[a]! e[i]!)=true->J23 [.bool true] H:=λhle hl=>acm _ _ λgs=>Br.yes (ae.inc (az.mk ⟨i+1,rfl,by omega,by omega,by rw[<-hsc,xav hle,hl];rfl,hd⟩ (by simp[bj];omega)));have no:Sort.scanUp (λx=> !cv e[a]! x) e j0 i=i->J23 [.bool false] H:=λhi=>by
  rw[hi]at he;refine acm _ _ λgs=>Br.no ?_;refine⟨λvs H=>∃j:Nat,vs=[iv (j:Int)]/\a<=j/\j<b/\Sort.scanDown (λx=>cv e[a]! x) e i j=Sort.scanDown (λx=>cv e[a]! x) e i j0/\Da T kd v e H,λvs _=>bj vs 0,JE.mk ⟨j0,rfl,YG,hjb,rfl,hd⟩,?_⟩;rintro w H' ⟨j,hw,aft,ae3,UX,dN⟩ gs;simp only[xay,xa5]at hw;subst hw;rw[<-UX]at he;intro J33 Vm;have Km:i<=j->cv e[a]! e[j]! =true->J33 [.bool true] H':=λhle hl=>Vm _ _ λgs=>Br.yes (ae.cf (b:=1) (az.mk ⟨j-1,rfl,by omega,by omega,by rw[<-UX,eV (j:=j) zO,xav hle,hl];rfl,dN⟩ (by simp[bj];omega)));have Wl:Sort.scanDown (λx=>cv e[a]! x) e i j=j->J33 [.bool false] H':=λhj=>by
   rw[hj]at he;refine Vm _ _ λgs=>Br.no ?_;refine ae.iF (Br.dec (λhgt=>?_) (λhle=>?_))
   ·rw[xae hgt]at he;exact aQ.here (by rw[<-he];exact⟨rfl,dN⟩)
   rw[xac hle]at he;refine DR.self (dN.swap .here zO zO λC2 xm=>?_);exact ae.inc (ae.cf (b:=1) (az.mk ⟨i+1,j-1,_,rfl,by omega,by omega,by omega,by omega,iq hs,he,xm⟩ (by simp[bj];omega)))
  refine DR.self (ae.AR (Br.dec (λhle=>?_) λhgt=>JE.mk (Wl ?_)));rotate_left
  ·by_cases h0:j=0
   ·subst h0;rfl
   rw[eV zO,xac zP]
  refine dN.ld (λ_ h=>h) zO ?_;refine dN.ld (λ_ h=>h) zO ?_;intro F;refine aa.eq (dy ok _ _ _) (aS.mk ?_);cases hl:cv e[a]! e[j]!
  ·exact JE.mk (Wl (by rw[eV zO,hl,xac zI]))
  exact JE.mk (Km hle hl)
 refine DR.self (ae.AR (Br.dec (λhle=>?_) λhgt=>JE.mk (no (by rw[Sort.scanUp,xac zP]))));refine hd.ld (λ_ h=>h) zO (hd.ld (λ_ h=>h) zO λF=>?_);refine aa.eq (dy ok _ _ _) (Un.not (aS.mk ?_));cases hl:cv e[a]! e[i]!
 ·exact JE.mk (yes hle (by rw[hl];rfl))
 exact JE.mk (no (by rw[Sort.scanUp,hl,xac zI]))
end
section
variable {v:zV} {d:Array Int} {C:Hp} {T:TypeId} {kd:IntKind} {zs:Srt} (ok:JZ zs)
include ok in
theorem PN(h:Da T kd v d C){a b p:Nat}(hp:a<=p/\p<b)(hb:b<=d.size)(cL:d.size<1152921504606846976):Fc zQ zs.part #[v,iv (a:Int),iv (b:Int),iv (p:Int)] C
  (λr C'=>r=.tuple #[iv ((Sort.partition cv d a b p).1:Nat),.bool (Sort.partition cv d a b p).2.1]/\Da T kd v (Sort.partition cv d a b p).2.2 C'):=by
 obtain⟨R,hR⟩:∃R,R=Sort.partition cv d a b p:=⟨_,rfl⟩;rw[<-hR];refine aK λg=>ok.part ?_;refine DR.self (h.swap .here zO zO λC1 hd=>?_);have hs:(Sort.swp d a p).size=d.size:=iq rfl;have fin:∀{m:Nat} {t:Bool} {e:Array Int} {H:Hp},(m,t,e)=R->Da T kd v e H->aQ (λr C'=>r=.tuple #[iv (R.1:Nat),.bool R.2.1]/\Da T kd v R.2.2 C') (.returned (.tuple #[iv (m:Int),.bool t])) H:=λhe hd=>by
  rw[<-he];exact aQ.here ⟨rfl,hd⟩
 unfold Sort.partition at hR;simp only at hR;generalize Sort.swp d a p=e at hd hs hR;refine ae.inc (ae.cf (b:=1) (⟨λvs H=>∃i:Nat,vs=[iv (i:Int)]/\a<i/\i<=b/\Sort.scanUp (λx=>cv x e[a]!) e (b-1) i=Sort.scanUp (λx=>cv x e[a]!) e (b-1) (a+1)/\Da T kd v e H,λvs _=>b-bj vs 0,JE.mk ⟨a+1,rfl,by omega,by omega,rfl,hd⟩,?_⟩));clear hd;rintro w H ⟨i,hw,Tc,yD,hsc,hd⟩ gs;simp only[xay,xa5]at hw;subst hw;rw[<-hsc]at hR;rw[Sort.scanUp]at hsc;intro Zm E0;have yes:i<b->cv e[i]! e[a]! =true->Zm [.bool true] H:=λhle hl=>E0 _ _ λgs=>Br.yes (ae.inc (az.mk ⟨i+1,rfl,by omega,by omega,by rw[<-hsc,xav (show i<=b-1 by omega),hl];rfl,hd⟩ (by simp[bj];omega)));have no:Sort.scanUp (λx=>cv x e[a]!) e (b-1) i=i->Zm [.bool false] H:=λhi=>by
  rw[hi]at hR;refine E0 _ _ λgs=>Br.no ?_;refine⟨λvs H=>∃j:Nat,vs=[iv (j:Int)]/\a<=j/\j<b/\Sort.scanDown (λx=> !cv x e[a]!) e i j=Sort.scanDown (λx=> !cv x e[a]!) e i (b-1)/\Da T kd v e H,λvs _=>bj vs 0,JE.mk ⟨b-1,rfl,by omega,by omega,rfl,hd⟩,?_⟩;clear hd;rintro w H ⟨j,hw,YG,hjb,UX,hd⟩ gs;simp only[xay,xa5]at hw;subst hw;rw[<-UX]at hR;intro J27 YN;have Km:i<=j->(!cv e[j]! e[a]!)=true->J27 [.bool true] H:=λhle hl=>YN _ _ λgs=>Br.yes (ae.cf (b:=1) (az.mk ⟨j-1,rfl,by omega,by omega,by rw[<-UX,eV (j:=j) zO,xav hle,hl];rfl,hd⟩ (by simp[bj];omega)));have Wl:Sort.scanDown (λx=> !cv x e[a]!) e i j=j->J27 [.bool false] H:=λhj=>by
   rw[hj]at hR;refine YN _ _ λgs=>Br.no ?_;refine ae.iF (Br.dec (λhgt=>?_) (λhle=>?_))
   ·rw[xae hgt]at hR;refine DR.self (hd.swap .here zO zO λC2 xm=>?_);exact fin hR.symm xm
   rw[xac hle]at hR;refine DR.self (hd.swap .here zO zO λC2 xm=>?_);refine ae.inc (ae.cf (b:=1) ?_);obtain⟨L,hL⟩:∃L,L=Sort.partLoop cv a (i+1) (j-1) (Sort.swp e i j):=⟨_,rfl⟩;rw[<-hL]at hR;have mu:(Sort.swp e i j).size=d.size:=iq hs;generalize Sort.swp e i j=e0 at hL xm mu;refine⟨λvs H=>∃(i j:Nat) (e:Array Int),vs=[iv (i:Int),iv (j:Int)]/\a<i/\i<=b/\a<=j/\j<b/\e.size=d.size/\L=Sort.partLoop cv a i j e/\Da T kd v e H,λvs _=>b-bj vs 0,JE.mk ⟨i+1,j-1,e0,rfl,by omega,by omega,by omega,by omega,mu,hL,xm⟩,?_⟩;clear xm hd Tc yD YG hjb hle Km YN J27 E0 Zm yes hL mu hs hsc hi UX hj;rintro w w' H0 ⟨i0,j0,e,hw,Tc,yD,YG,hjb,hs,he,hd⟩ gs;simp only[xay,xa5]at hw;obtain⟨rfl,rfl⟩:=hw;rw[Sort.partLoop_eq]at he;refine⟨λvs H=>∃i:Nat,vs=[iv (i:Int)]/\i0<=i/\i<=b/\Sort.scanUp (λx=>cv x e[a]!) e j0 i=Sort.scanUp (λx=>cv x e[a]!) e j0 i0/\Da T kd v e H,λvs _=>b-bj vs 0,JE.mk ⟨i0,rfl,xak _,yD,rfl,hd⟩,?_⟩;clear hd yD;rintro w H ⟨i,hw,EU,yD,hsc,hd⟩ gs;simp only[xay,xa5]at hw;subst hw;rw[<-hsc]at he;rw[Sort.scanUp]at hsc;intro J64 acj;have yes:i<=j0->cv e[i]! e[a]! =true->J64 [.bool true] H:=λhle hl=>acj _ _ λgs=>Br.yes (ae.inc (az.mk ⟨i+1,rfl,by omega,by omega,by rw[<-hsc,xav hle,hl];rfl,hd⟩ (by simp[bj];omega)));have no:Sort.scanUp (λx=>cv x e[a]!) e j0 i=i->J64 [.bool false] H:=λhi=>by
    rw[hi]at he;refine acj _ _ λgs=>Br.no ?_;refine⟨λvs H=>∃j:Nat,vs=[iv (j:Int)]/\a<=j/\j<b/\Sort.scanDown (λx=> !cv x e[a]!) e i j=Sort.scanDown (λx=> !cv x e[a]!) e i j0/\Da T kd v e H,λvs _=>bj vs 0,JE.mk ⟨j0,rfl,YG,hjb,rfl,hd⟩,?_⟩;rintro w H' ⟨j,hw,aft,ae3,UX,dN⟩ gs;simp only[xay,xa5]at hw;subst hw;rw[<-UX]at he;intro J74 aci;have Km:i<=j->(!cv e[j]! e[a]!)=true->J74 [.bool true] H':=λhle hl=>aci _ _ λgs=>Br.yes (ae.cf (b:=1) (az.mk ⟨j-1,rfl,by omega,by omega,by rw[<-UX,eV (j:=j) zO,xav hle,hl];rfl,dN⟩ (by simp[bj];omega)));have Wl:Sort.scanDown (λx=> !cv x e[a]!) e i j=j->J74 [.bool false] H':=λhj=>by
     rw[hj]at he;refine aci _ _ λgs=>Br.no ?_;refine ae.iF (Br.dec (λhgt=>?_) (λhle=>?_))
     ·rw[xae hgt]at he;rw[he]at hR;refine DR.self (dN.swap .here zO zO λC2 xm=>?_);exact fin hR.symm xm
     rw[xac hle]at he;refine DR.self (dN.swap .here zO zO λC2 xm=>?_);exact ae.inc (ae.cf (b:=1) (az.mk ⟨i+1,j-1,_,rfl,by omega,by omega,by omega,by omega,iq hs,he,xm⟩ (by simp[bj];omega)))
    refine DR.self (ae.AR (Br.dec (λhle=>?_) λhgt=>JE.mk (Wl ?_)));rotate_left
    ·by_cases h0:j=0
     ·subst h0;rfl
     rw[eV zO,xac zP]
    refine dN.ld (λ_ h=>h) zO ?_;refine dN.ld (λ_ h=>h) zO ?_;intro F;refine aa.eq (dy ok _ _ _) (Un.not (aS.mk ?_));cases hl:cv e[j]! e[a]!
    ·exact JE.mk (Km hle (by rw[hl];rfl))
    exact JE.mk (Wl (by rw[eV zO,hl,xac zI]))
   refine DR.self (ae.AR (Br.dec (λhle=>?_) λhgt=>JE.mk (no (by rw[Sort.scanUp,xac zP]))));refine hd.ld (λ_ h=>h) zO (hd.ld (λ_ h=>h) zO λF=>?_);refine aa.eq (dy ok _ _ _) (aS.mk ?_);cases hl:cv e[i]! e[a]!
   ·exact JE.mk (no (by rw[Sort.scanUp,hl,xac zI]))
   exact JE.mk (yes hle hl)
  refine DR.self (ae.AR (Br.dec (λhle=>?_) λhgt=>JE.mk (Wl ?_)));rotate_left
  ·by_cases h0:j=0
   ·subst h0;rfl
   rw[eV zO,xac zP]
  refine hd.ld (λ_ h=>h) zO (hd.ld (λ_ h=>h) zO λF=>?_);refine aa.eq (dy ok _ _ _) (Un.not (aS.mk ?_));cases hl:cv e[j]! e[a]!
  ·exact JE.mk (Km hle (by rw[hl];rfl))
  exact JE.mk (Wl (by rw[eV zO,hl,xac zI]))
 refine DR.self (ae.AR (Br.dec (λhle=>?_) λhgt=>JE.mk (no (by rw[Sort.scanUp,xac zP]))));refine hd.ld (λ_ h=>h) zO (hd.ld (λ_ h=>h) zO λF=>?_);refine aa.eq (dy ok _ _ _) (aS.mk ?_);cases hl:cv e[i]! e[a]!
 ·exact JE.mk (no (by rw[Sort.scanUp,hl,xac zI]))
 exact JE.mk (yes zO hl)
include ok in
theorem Bm(h:Da T kd v d C){lo hi f:Nat}(hlo:lo<=d.size)(hb:f+hi<=d.size)(cL:d.size<1152921504606846976):Fc zQ zs.KO #[v,iv (lo:Int),iv (hi:Int),iv (f:Int)] C (SXZ T kd v (Sort.siftDown cv hi f lo d)):=by
 refine aK λg=>ok.KO ?_;refine⟨λvs H=>∃(i:Nat) (e:Array Int),vs=[iv (i:Int)]/\i<=d.size/\e.size=d.size/\Sort.siftDown cv hi f i e=Sort.siftDown cv hi f lo d/\Da T kd v e H,λvs _=>d.size-bj vs 0,JE.mk ⟨lo,d,rfl,hlo,rfl,rfl,h⟩,?_⟩;rintro w H ⟨r,e,hw,hr,hs,he,hd⟩ gs;simp only[xay,xa5]at hw;subst hw;refine ae.wY (a:=2) (ae.inc (ae.mh (Br.dec (λhge=>?_) (λhlt=>?_))))
 ·rw[KN hge]at he;exact aQ.here ⟨rfl,by rw[<-he];exact hd⟩
 have Oo:=λc=>T2 (c:=c) (d:=e) (f:=f) (show 2*r+1<hi by omega);intro J9 Ri;have go:∀c:Nat,r<c->c<hi->(c=if(decide (2*r+1+1<hi) &&cv e[f+(2*r+1)]! e[f+(2*r+1)+1]!)=true then 2*r+2 else 2*r+1)->J9 [iv (c:Int)] H:=λc hrc aj1 hc=>by
  rw[Oo c hc]at he;refine Ri _ _ λgs=>?_;refine DR.self (ae.eZ (hd.ld (λ_ h=>h) zO (ae.eZ (hd.ld (λ_ h=>h) zO (aa.eq (dy ok _ _ _) (Un.not ?_))))));cases hl:cv e[f+r]! e[f+c]!
  ·rw[hl]at he;exact Br.yes (aQ.here ⟨rfl,by rw[<-he];exact hd⟩)
  rw[hl]at he;refine Br.no (DR.self (ae.eZ (ae.eZ (ae.eZ (hd.Wf .here (i:=f+r) (j:=f+c) (B:=λk=>ae .num .add (iv (f:Int)) (iv (r:Int)) k) zO zO (λk hk=>ae.eZ hk) λC1 AU=>?_)))));exact az.mk ⟨c,_,rfl,by omega,iq hs,he,AU⟩ (by simp[bj];omega)
 intro Zl ack;have stay:(decide (2*r+1+1<hi) &&cv e[f+(2*r+1)]! e[f+(2*r+1)+1]!)=false->Zl [.bool false] H:=λhc=>ack _ _ λgs=>Br.no (JE.mk (go _ zO zO (by rw[hc];rfl)));refine DR.self (ae.inc (ae.cU (Br.dec (λhc=>?_) λhc=>JE.mk (stay (by rw[xaq hc];rfl)))));refine ae.eZ (hd.ld (λ_ h=>h) zO (ae.eZ (ae.inc (hd.ld (λ_ h=>h) zO λF=>?_))));refine aa.eq (dy ok _ _ _) (aS.mk ?_);cases hl:cv e[f+(2*r+1)]! e[f+(2*r+1)+1]!
 ·exact JE.mk (stay (by rw[hl,xel]))
 exact JE.mk (ack _ _ λgs=>Br.yes (ae.inc (JE.mk (go _ zO hc (by rw[hl,xav hc];rfl)))))
include ok in
theorem LI(h:Da T kd v d C){a b:Nat}(hab:a<b)(hb:b<=d.size)(cL:d.size<1152921504606846976):Fc zQ zs.heap #[v,iv (a:Int),iv (b:Int)] C (SXZ T kd v (Sort.heapSort cv d a b)):=by
 refine aK λg=>ok.heap ?_;obtain⟨B,hB⟩:∃B,B=Sort.heapBuild cv (b-a) a ((b-a-1) /2+1) d:=⟨_,rfl⟩;have hH:Sort.heapSort cv d a b=Sort.heapPop cv a (b-a) B:=by rw[hB];rfl
 rw[hH];refine ae.cf (ae.cf (b:=1) (ae.tI (b:=2) (by simp[aU];omega) zO (⟨λvs H=>∃(q:Int) (e:Array Int),vs=[iv q]/\ -1<=q/\q<(b:Int) -a/\e.size=d.size/\B=Sort.heapBuild cv (b-a) a (q+1).toNat e/\Da T kd v e H,λvs _=>up1 vs,JE.mk ⟨(((b-a-1) /2:Nat):Int),d,rfl,by omega,by omega,rfl,hB,h⟩,?_⟩)));clear hB hH;rintro w H ⟨q,e,hw,yz,tO,hs,he,hd⟩ gs;simp only[xay,xa5]at hw;subst hw;refine ae.geq (Br.dec (λh0=>?_) (λhn=>?_))
 ·obtain⟨i,rfl⟩:∃i:Nat,q=i:=⟨q.toNat,by omega⟩;rw[show((i:Int)+1).toNat=i+1 by omega,Sort.heapBuild]at he;refine aa.fq (Bm ok hd zO zO zO) ?_;rintro w C1 ⟨rfl,AU⟩;exact ae.sB (c:=(i:Int) -1) rfl zO (az.mk ⟨(i:Int) -1,_,rfl,by omega,by omega,by rw[IS];exact hs,by rw[show((i:Int) -1+1).toNat=i by omega];exact he,AU⟩ (by rw[zh,zh];omega))
 obtain rfl:q= -1:=by omega
 have he:B=e:=he;subst he;refine ae.cf (b:=1) (⟨λvs H=>∃(q:Int) (e:Array Int),vs=[iv q]/\ -1<=q/\q<(b:Int) -a/\e.size=d.size/\Sort.heapPop cv a (q+1).toNat e=Sort.heapPop cv a (b-a) B/\Da T kd v e H,λvs _=>up1 vs,JE.mk ⟨((b-a-1:Nat):Int),B,rfl,by omega,by omega,hs,by rw[show(((b-a-1:Nat):Int)+1).toNat=b-a by omega],hd⟩,?_⟩);clear hd hs hn;rintro w H ⟨q,e,hw,yz,tO,hs,he,hd⟩ gs;simp only[xay,xa5]at hw;subst hw;refine ae.geq (Br.dec (λh0=>?_) (λhn=>?_));rotate_left
 ·obtain rfl:q= -1:=by omega
  have he:e=Sort.heapPop cv a (b-a) B:=he;exact aQ.here ⟨rfl,by rw[<-he];exact hd⟩
 obtain⟨i,rfl⟩:∃i:Nat,q=i:=⟨q.toNat,by omega⟩;rw[show((i:Int)+1).toNat=i+1 by omega,Sort.heapPop]at he;refine DR.self (ae.eZ (ae.eZ (hd.swap .here zO zO λC1 AU=>?_)));have hs1:(Sort.swp e a (a+i)).size=d.size:=iq hs;refine aa.fq (Bm ok AU (lo:=0) zO zO zO) ?_;rintro w C2 ⟨rfl,xm⟩;exact ae.sB (c:=(i:Int) -1) rfl zO (az.mk ⟨(i:Int) -1,_,rfl,by omega,by omega,by rw[IS];exact hs1,by rw[show((i:Int) -1+1).toNat=i by omega];exact he,xm⟩ (by rw[zh,zh];omega))
end
section
variable {v:zV} {d:Array Int} {C:Hp} {T:TypeId} {kd:IntKind} {zs:Srt} (ok:JZ zs)
theorem xlt{a b:Nat}(ha:a<18446744073709551616)(hb:b<18446744073709551616):a^^^b<18446744073709551616:=Nat.xor_lt_two_pow (n:=64) ha hb
theorem OA(b x:Nat)(hx:x<18446744073709551616):Fc zQ 283 #[ptr b] [(b,.cells #[.int .u64 (x:Int)] 366 zZ)]
  (λr H=>∃y:Nat,y<18446744073709551616/\r=.int .u64 (y:Int)/\H=[(b,.cells #[.int .u64 (y:Int)] 366 zZ)]):=by
 refine aK λg=>F0 (DR.self (Nil.ptr (Ld.q ?_)));refine Nil.ptr (Ld.q ?_);refine ae.tj (b:=13) (ae.Xt hx (xbu _ zD) ?_);have h1:=xlt hx (xbu (x<<<13) (show 0<18446744073709551616 by decide));generalize x^^^x<<<13%18446744073709551616=x1 at h1;refine Nil.ptr (St.one (by exact .head _) rfl zI rfl ?_);refine DR.self (Nil.ptr (Ld.q ?_));refine Nil.ptr (Ld.q ?_);refine ae.gk (b:=7) h1 ?_;have h2:x1>>>7<18446744073709551616:=by rw[xaR];omega
 refine ae.Xt h1 h2 ?_;have h3:=xlt h1 h2;generalize x1^^^x1>>>7=x2 at h3;refine Nil.ptr (St.one (by exact .head _) rfl zI rfl ?_);refine DR.self (Nil.ptr (Ld.q ?_));refine Nil.ptr (Ld.q ?_);refine ae.tj (b:=17) (ae.Xt h3 (xbu _ zD) ?_);have h4:=xlt h3 (xbu (x2<<<17) (show 0<18446744073709551616 by decide));generalize x2^^^x2<<<17%18446744073709551616=x3 at h4;refine Nil.ptr (St.one (by exact .head _) rfl zI rfl ?_);refine Nil.ptr (Ld.q ?_);exact aQ.here ⟨x3,h4,rfl,rfl⟩
theorem JP{x:Nat}(hx:x<18446744073709551616)(B:Hp):Rd zQ 201 #[.int .u64 (x:Int)] B (λv=>∃r:Nat,qV x r/\v=iv (r:Int)):=by
 refine aK λg=>GY (Br.no (aa.rq (BT hx B) ?_));rintro w hw;exact bE.mk (.refl _) hw
theorem Ul{x:Nat}(h0:0<x)(hx:x<1152921504606846976)(B:Hp):Rd zQ 282 #[iv (x:Int)] B (λv=>∃r:Nat,0<r/\r<=2*x/\v=.int .u64 (r:Int)):=by
 refine aK λg=>F1 (aM.q (aa.rq (JP zO B) ?_));rintro w ⟨r,hr,rfl⟩;have hr1:0<r:=by
  rcases Nat.eq_zero_or_pos r with e|e
  ·subst e;have:=hr.1;omega
  exact e
 have h2:2^(r-1)<=x:=by
  rcases hr.2 with e|e
  ·omega
  exact e
 have h3:2^r=2*2^(r-1):=by
  obtain⟨k,rfl⟩:∃k,r=k+1:=⟨r-1,by omega⟩;rw[xb1,xc6];omega
 refine ae.tj (a:=1) ?_;have e:1<<<r%18446744073709551616=2^r:=by
  rw[xdk,xdE];exact xa3 zO
 rw[e];exact bE.mk (.refl _) ⟨2^r,xbJ r,by omega,rfl⟩
include ok in
theorem VM(h:Da T kd v d C){a b:Nat}(hab:a<b)(hb:b<=d.size)(cL:d.size<1152921504606846976):Fc zQ zs.Z8 #[v,iv (a:Int),iv (b:Int)] C (λr C'=>r=.tuple #[]/\∃e,Sort.PermIn a b d e/\Da T kd v e C'):=by
 refine aK λg=>ok.Z8 ?_;refine ae.cf (ae.mh (b:=8) (Br.dec (λh8=>?_) (λ_=>aQ.here ⟨rfl,d,Sort.permIn_refl _ _ _,h⟩)));refine aM.q λb4 _=>(St.one (by exact .head _) rfl zI rfl ?_);refine aa.rq (Ul zO zO C) ?_;rintro w ⟨m,hm0,hm,rfl⟩;refine ae.tI (b:=4) (by simp[aU];omega) zO (ae.wY (b:=2) (ae.eZ (ae.cf (b:=1) ?_)));refine⟨λvs H=>∃(i x:Nat) (C':Hp) (e:Array Int),vs=[iv (i:Int)]/\a<=i/\x<18446744073709551616/\H=(b4,.cells #[.int .u64 (x:Int)] 366 zZ)::C'/\Sort.PermIn a b d e/\Da T kd v e C',λvs _=>b-bj vs 0,
  JE.mk ⟨_,b-a,C,d,rfl,by omega,by omega,rfl,Sort.permIn_refl _ _ _,h⟩,?_⟩
 rintro w H ⟨i,x,C',e,hw,Tc,hx,rfl,hp,hd⟩ gs;simp only[xay,xa5]at hw;subst hw;have hs:=hp.1;refine ae.tI (b:=4) (by simp[aU];omega) zO (ae.wY (b:=2) (ae.eZ (ae.inc (ae.AR (Br.dec (λhle=>?_) (λ_=>aQ.mk .tail ⟨rfl,e,hp,hd⟩))))));refine aa.fn (.left (A:=C')) (OA b4 x hx) ?_;rintro w H' ⟨y,hy,rfl,rfl⟩;refine ae.cf (b:=1) (ae.fY (by simp[aU];omega) (by simp[aU];omega) ?_);have hand:y&&& (m-1)<m:=by have:=xb3 (n:=y) (m:=m-1);omega
 generalize y&&& (m-1)=z at hand;refine aM.q λJ28 afN=>?_;have go:∀o:Nat,o<b-a->J28 [iv (o:Int)] ([(b4,Obj.cells #[.int .u64 (y:Int)] 366 zZ)]++C'):=λo ho=>by
  refine afN _ _ λgs=>?_;refine DR.self (ae.eZ (ae.eZ (hd.swap (.cons .here) zO zO λC1 AU=>?_)));exact ae.inc (az.mk ⟨i+1,y,C1,_,rfl,by omega,hy,rfl,Sort.permIn_trans _ _ _ _ _ hp (Sort.swp_permIn _ a b i (a+o) Tc zO zO zO zO),AU⟩ (by simp[bj];omega))
 refine ae.mh (Br.dec (λhge=>?_) (λhlt=>JE.mk (go z zO)));exact ae.cf (JE.mk (go _ zO))
def OQZ(b:Nat)(C:Hp)(i j:Nat):zV->Hp->Prop:=λr H=>(r=.tuple #[iv (i:Int),iv (j:Int)]\/r=.tuple #[iv (j:Int),iv (i:Int)])/\∃z:Int,H=(b,.cells #[iv z] 3 zZ)::C
include ok in
theorem uN(h:Da T kd v d C){b:Nat}{z:Int}{i j:Nat}(hi:i<d.size)(hj:j<d.size):
  Fc zQ zs.zy #[v,iv (i:Int),iv (j:Int),ptr b] ((b,.cells #[iv z] 3 zZ)::C) (OQZ b C i j):=by
 refine aK λg=>ok.zy ?_;refine DR.self (h.ld (λ_ h=>.tail _ h) hj (h.ld (λ_ h=>.tail _ h) hi (aa.eq (dy ok _ _ _) (Br.mk (λ_=>?_) (λ_=>aQ.here ⟨.inl rfl,z,rfl⟩)))));refine Nil.ptr (Ld.q ?_);refine ae.add (Nil.ptr (St.one (by exact .head _) rfl zI rfl ?_));exact aQ.here ⟨.inr rfl,_,rfl⟩
def MQZ(b:Nat)(C:Hp)(p:Nat->Prop):zV->Hp->Prop:=λr H=>(∃m:Nat,r=iv (m:Int)/\p m)/\∃z:Int,H=(b,.cells #[iv z] 3 zZ)::C
include ok in
theorem Jd(h:Da T kd v d C){b:Nat}{z:Int}{i j k:Nat}(hi:i<d.size)(hj:j<d.size)(hk:k<d.size):
  Fc zQ zs.ZA #[v,iv (i:Int),iv (j:Int),iv (k:Int),ptr b] ((b,.cells #[iv z] 3 zZ)::C) (MQZ b C λm=>m=i\/m=j\/m=k):=by
 refine aK λg=>ok.ZA ?_;refine aa.fq (uN ok h hi hj) ?_;rintro w H ⟨hw,z1,rfl⟩;obtain⟨i1,j1,rfl,hij⟩:∃i1 j1:Nat,w=.tuple #[iv (i1:Int),iv (j1:Int)]/\((i1=i/\j1=j)\/(i1=j/\j1=i)):=by
  rcases hw with rfl|rfl
  ·exact⟨i,j,rfl,.inl ⟨rfl,rfl⟩⟩
  exact⟨j,i,rfl,.inr ⟨rfl,rfl⟩⟩
 refine Ext.two (aa.fq (uN ok h (i:=j1) (j:=k) zO hk) ?_);rintro w H ⟨hw,z2,rfl⟩;obtain⟨j2,k2,rfl,U7⟩:∃j2 k2:Nat,w=.tuple #[iv (j2:Int),iv (k2:Int)]/\((j2=j1/\k2=k)\/(j2=k/\k2=j1)):=by
  rcases hw with rfl|rfl
  ·exact⟨_,_,rfl,.inl ⟨rfl,rfl⟩⟩
  exact⟨_,_,rfl,.inr ⟨rfl,rfl⟩⟩
 refine Ext.two (aa.fq (uN ok h (i:=i1) (j:=j2) zO zO) ?_);rintro w H ⟨hw,z3,rfl⟩;rcases hw with rfl|rfl
 ·exact Ext.mk rfl (Ext.mk rfl (aQ.here ⟨⟨_,rfl,by omega⟩,_,rfl⟩))
 exact Ext.mk rfl (Ext.mk rfl (aQ.here ⟨⟨_,rfl,by omega⟩,_,rfl⟩))
include ok in
theorem uW(h:Da T kd v d C){b:Nat}{z:Int}{i:Nat}(h0:0<i)(hi:i+1<d.size)(cL:d.size<1152921504606846976):
  Fc zQ zs.Et #[v,iv (i:Int),ptr b] ((b,.cells #[iv z] 3 zZ)::C) (MQZ b C λm=>i<=m+1/\m<=i+1):=by
 refine aK λg=>ok.Et ?_;refine ae.cf (b:=1) (ae.inc (aa.fq (Jd ok h zO zO hi) ?_));rintro w H ⟨⟨m,rfl,hm⟩,z',rfl⟩;exact aQ.here ⟨⟨m,rfl,by omega⟩,z',rfl⟩
include ok in
theorem Uf(h:Da T kd v d C){a b:Nat}(hab:a<b)(hb:b<=d.size)(cL:d.size<1152921504606846976):
  Rd zQ zs.piv #[v,iv (a:Int),iv (b:Int)] C (λr=>∃(p:Nat) (q:Int),r=.tuple #[iv (p:Int),iv q]/\a<=p/\p<b):=by
 refine aK λg=>ok.piv ?_;refine ae.cf λb2 _=>(ae.tI (b:=4) (by simp[aU];omega) zO (ae.wY (b:=1) (ae.eZ (ae.tI (b:=4) (by simp[aU];omega) zO (ae.wY (b:=2) (ae.eZ (ae.tI (b:=4) (by simp[aU];omega) zO (ae.wY (b:=3) (ae.eZ ?_)))))))));intro J13 afQ;have fin:∀(p:Nat) (z:Int),a<=p->p<b->J13 [iv (p:Int)] ((b2,.cells #[iv z] 3 zZ)::C):=λp z ve kD=>by
  refine afQ _ _ λgs=>?_;refine Ld.q ?_;refine ae.jM (Br.dec (λ_=>bE.mk .tail ⟨p,_,rfl,ve,kD⟩) (λ_=>?_));exact ae.jM (Br.dec (λ_=>bE.mk .tail ⟨p,_,rfl,ve,kD⟩) (λ_=>bE.mk .tail ⟨p,_,rfl,ve,kD⟩))
 refine ae.mh (b:=8) (Br.dec (λh8=>?_) (λ_=>JE.mk (fin _ _ zO zO)));intro J21 afP;have three:∀(x y u:Nat) (z:Int),a<=x/\x<b->a<=y/\y<b->a<=u/\u<b->J21 [iv (x:Int),iv (y:Int),iv (u:Int)] ((b2,.cells #[iv z] 3 zZ)::C):=λx y u z hx hy hu=>by
  refine afP _ _ _ _ λgs=>?_;refine aa.fq (Jd ok h zO zO zO) ?_;rintro w H ⟨⟨m,rfl,hm⟩,z',rfl⟩;exact JE.mk (fin _ _ zO zO)
 refine ae.mh (b:=50) (Br.dec (λh50=>?_) (λ_=>JE.mk (three _ _ _ _ zO zO zO)));refine aa.fq (uW ok h zO zO cL) ?_;rintro w H ⟨⟨m1,rfl,AT⟩,z1,rfl⟩;refine aa.fq (uW ok h zO zO cL) ?_;rintro w H ⟨⟨m2,rfl,tQ⟩,z2,rfl⟩;refine aa.fq (uW ok h zO zO cL) ?_;rintro w H ⟨⟨m3,rfl,hm3⟩,z3,rfl⟩;exact JE.mk (three _ _ _ _ zO zO zO)
def PSZ(T:TypeId)(kd:IntKind)(v:zV)(d:Array Int)(a b:Nat):zV->Hp->Prop:=λr C'=>r=.tuple #[]/\∃e,(Sort.PermIn a b d e/\Sort.SortedIn cv a b e)/\Da T kd v e C'
include ok in
theorem Ui:∀(N:Nat) {C:Hp} {d:Array Int} (h:Da T kd v d C) {a b:Nat} (hN:b-a<=N) (hab:a<=b) (hb:b<=d.size) (cL:d.size<1152921504606846976) (hB:Sort.Below cv a b d) (z:Int),Fc zQ zs.XP #[v,iv (a:Int),iv (b:Int),iv z] C (PSZ T kd v d a b):=by
 intro N;induction N with
 |zero=>
  intro C d h a b hN hab hb cL hB z g;refine ok.XP (R:=aQ _) ?_;unfold L9014;refine⟨λvs H=>vs=[iv (a:Int),iv (b:Int),iv z,.bool true,.bool true]/\H=C,λ_ _=>0,JE.mk ⟨rfl,rfl⟩,?_⟩;rintro w1 w2 w3 w4 w5 H ⟨hw,rfl⟩ gs;simp only[xay,xa5]at hw;obtain⟨rfl,rfl,rfl,rfl,rfl⟩:=hw;refine ae.cf (ae.AR (b:=12) (Br.T (aa.fq (yw ok h hab hb cL) ?_)));rintro w C' ⟨rfl,hd⟩;exact aQ.here ⟨rfl,_,Sort.insertionSort_holds Sort.swo_ltInt d a b hab hb,hd⟩
 |succ N ih=>
  intro C d h a b hN hab hb cL hB z g;refine ok.XP (R:=aQ _) ?_;unfold L9014;obtain⟨G,hG⟩:∃G:Array Int->Prop,G=λR=>Sort.PermIn a b d R/\Sort.SortedIn cv a b R:=⟨_,rfl⟩;have fin:∀{R:Array Int} {H:Hp},G R->Da T kd v R H->aQ (PSZ T kd v d a b) (.returned (.tuple #[])) H:=λhR hd=>by
   subst hG;exact aQ.here ⟨rfl,_,hR,hd⟩
  refine⟨λvs H=>∃(a b:Nat) (z:Int) (t1 t2:Bool) (e:Array Int),vs=[iv (a:Int),iv (b:Int),iv z,.bool t1,.bool t2]/\b-a<=N+1/\a<=b/\b<=e.size/\e.size=d.size/\Sort.Below cv a b e/\(∀R,Sort.PermIn a b e R->Sort.SortedIn cv a b R->G R)/\Da T kd v e H,λvs _=>bj vs 1-bj vs 0,
   JE.mk ⟨a,b,z,true,true,d,rfl,hN,hab,hb,rfl,hB,by subst hG;exact λR h1 h2=>⟨h1,h2⟩,h⟩,?_⟩
  clear h hN hab hb hB hG;rintro w1 w2 w3 w4 w5 H ⟨a,b,z,t1,t2,e,hw,hN,hab,hb,hs,hB,Oo,h⟩ gs;simp only[xay,xa5]at hw;obtain⟨rfl,rfl,rfl,rfl,rfl⟩:=hw;refine ae.cf (ae.AR (b:=12) (Br.dec (λh12=>?_) (λh12=>?_)))
  ·refine aa.fq (yw ok h hab hb zO) ?_;rintro w C' ⟨rfl,hd⟩;obtain⟨q1,q2⟩:=Sort.insertionSort_holds Sort.swo_ltInt e a b hab hb;exact fin (Oo _ q1 q2) hd
  refine ae.jM (Br.dec (λ_=>?_) (λ_=>?_))
  ·refine aa.fq (LI ok h zO hb zO) ?_;rintro w C' ⟨rfl,hd⟩;obtain⟨q1,q2⟩:=Sort.heapSort_holds Sort.swo_ltInt e a b hab hb;exact fin (Oo _ q1 q2) hd
  intro Zm E0;have k17:∀(z1:Int) H1 e1,Sort.PermIn a b e e1->Da T kd v e1 H1->Zm [iv z1] H1:=λz1 H1 e1 p1 h1=>by
   have hs1:=p1.1;refine E0 _ _ λgs=>?_;refine aa.rq (Uf ok h1 (a:=a) (b:=b) zO zO zO) ?_;rintro w ⟨p,q,rfl,ve,kD⟩;refine Ext.two λJ25 afO=>?_;have k25:∀(p:Nat) (q:Int) H2 e2,a<=p->p<b->Sort.PermIn a b e e2->Da T kd v e2 H2->J25 [iv (p:Int),iv q] H2:=λp q H2 e2 ve kD p2 h2=>by
    have mu:=p2.1;refine afO _ _ _ λgs=>?_;intro J30 afM;have k30:∀H3 e3,Sort.PermIn a b e e3->Da T kd v e3 H3->J30 [] H3:=λH3 e3 p3 h3=>by
     have hs3:=p3.1;have wP:=hB.perm hb p3;have hb3:b<=e3.size:=by omega
     refine afM _ λgs=>?_;intro J33 Vm;have k33:∀(t:Bool),(t=true->0<a/\cv e3[a-1]! e3[p]! =false)->J33 [.bool t] H3:=λt ht=>by
      refine Vm _ _ λgs=>?_;refine Br.mk (λet=>?_) (λ_=>?_)
      ·obtain⟨ha0,hnl⟩:=ht et;refine aa.fq (Em ok h3 ⟨ve,kD⟩ hb3 zO) ?_;rintro w C' ⟨rfl,hd⟩;obtain⟨g1,g2,g3,g4,g5⟩:=Sort.round_eq Sort.swo_ltInt (Sort.partitionEqual_holds cv) ha0 ve kD hb3 wP hnl (mid:=(Sort.partitionEqual cv e3 a b p).1) (d4:=(Sort.partitionEqual cv e3 a b p).2) rfl;generalize (Sort.partitionEqual cv e3 a b p).1=m at*;generalize (Sort.partitionEqual cv e3 a b p).2=e4 at*;exact az.mk ⟨m,b,z1,t1,t2,e4,rfl,by omega,by omega,by omega,by omega,g4,λR r1 r2=>by
        obtain⟨q1,q2⟩:=g5 R r1 r2;exact Oo R (Sort.permIn_trans _ _ _ _ _ p3 q1) q2,hd⟩ (by simp[bj];omega)
      refine aa.fq (PN ok h3 ⟨ve,kD⟩ hb3 zO) ?_;rintro w C' ⟨rfl,hd⟩;obtain⟨g1,g2,g3,g4,g5,g6,g7⟩:=Sort.round_part Sort.swo_ltInt (Sort.partition_holds cv) ve kD hb3 wP (mid:=(Sort.partition cv e3 a b p).1) (ap:=(Sort.partition cv e3 a b p).2.1) (d4:=(Sort.partition cv e3 a b p).2.2) rfl;generalize (Sort.partition cv e3 a b p).1=m at*;generalize (Sort.partition cv e3 a b p).2.1=t at*;generalize (Sort.partition cv e3 a b p).2.2=e4 at*;refine Ext.two (ae.cf (ae.cf (ae.tI (b:=8) (by simp[aU];omega) zO (ae.cU (Br.dec (λ_=>?_) (λ_=>?_))))))
      ·refine ae.mh (aa.fq (ih hd (a:=a) (b:=m) zO zO zO zO g4 z1) ?_);rintro w C' ⟨rfl,e5,⟨l1,l2⟩,dN⟩;obtain⟨hBL,gG⟩:=g6 _ l1 l2;have hs5:=l1.1;refine ae.inc ?_;exact az.mk ⟨m+1,b,z1,_,t,e5,rfl,by omega,by omega,by omega,by omega,hBL,λR r1 r2=>by
        obtain⟨q1,q2⟩:=gG R r1 r2;exact Oo R (Sort.permIn_trans _ _ _ _ _ p3 q1) q2,dN⟩ (by simp[bj];omega)
      refine ae.mh (ae.inc (aa.fq (ih hd (a:=m+1) (b:=b) zO zO zO zO g5 z1) ?_));rintro w C' ⟨rfl,e5,⟨l1,l2⟩,dN⟩;obtain⟨hBL,gG⟩:=g7 _ l1 l2;have hs5:=l1.1;exact az.mk ⟨a,m,z1,_,t,e5,rfl,by omega,by omega,by omega,by omega,hBL,λR r1 r2=>by
       obtain⟨q1,q2⟩:=gG R r1 r2;exact Oo R (Sort.permIn_trans _ _ _ _ _ p3 q1) q2,dN⟩ (by simp[bj];omega)
     refine DR.self (ae.iF (b:=0) (Br.dec (λh0=>?_) (λ_=>JE.mk (k33 false nofun))));refine ae.cf (b:=1) (h3.ld (λ_ h=>h) zO (h3.ld (λ_ h=>h) zO λF=>?_));exact aa.eq (dy ok _ _ _) (Un.not (aS.mk (JE.mk (k33 _ λht=>⟨h0,by simpa using ht⟩))))
    refine cr.and t2 (λ_=>⟨rfl,rfl⟩) rfl λgs=>?_;refine cr.and (decide (q=1)) (λ_=>ae.jM ⟨rfl,rfl⟩) rfl λgs=>?_;refine Br.mk (λ_=>?_) (λ_=>JE.mk (k30 _ _ p2 h2));refine aa.fq (PK ok h2 zO (show b<=e2.size by omega) zO) ?_;rintro w C' ⟨rfl,hd⟩;obtain⟨q1,q2⟩:=Sort.partialInsertionSort_holds Sort.swo_ltInt e2 a b zO zO (hB.perm hb p2);exact Br.mk (λet=>fin (Oo _ (Sort.permIn_trans _ _ _ _ _ p2 q1) (q2 et)) hd) (λ_=>JE.mk (k30 _ _ (Sort.permIn_trans _ _ _ _ _ p2 q1) hd))
   refine ae.jM (Br.dec (λ_=>?_) (λ_=>JE.mk (k25 p q _ _ ve kD p1 h1)));refine aa.fq (T5 ok h1 (a:=a) (b:=b) zO zO zO) ?_;rintro w C' ⟨rfl,hd⟩;exact ae.cf (b:=1) (ae.cf (ae.cf (JE.mk (k25 _ _ _ _ zO zO (Sort.permIn_trans _ _ _ _ _ p1 (Sort.reverseRange_holds e1 a b hab zO)) hd))))
  refine Un.not (Br.mk (λ_=>?_) (λ_=>JE.mk (k17 _ _ _ (Sort.permIn_refl _ _ _) h)));refine aa.fq (VM ok h (a:=a) (b:=b) zO hb zO) ?_;rintro w C' ⟨rfl,e1,p1,hd⟩;exact ae.sub (JE.mk (k17 _ _ _ p1 hd))
end
def Pb(l:List Int):List Int:=l.mergeSort λx y=>decide (x<=y)
theorem XF{d e:Array Int}(h1:Sort.PermIn 0 d.size d e)(h2:Sort.SortedIn cv 0 d.size e):e.toList=Pb d.toList:=by
 rw[Sort.sorted_unique_holds Sort.swo_ltInt (λx y h1 h2=>by simp[Sort.ltInt]at h1 h2;omega) d e h1 h2];unfold Pb;congr 1
 funext x y
 show(!decide (y<x))=decide (x<=y);rw[xcN];simp
def XG(l:zL):zL:=l.mergeSort λx y=>decide (x<=y)
theorem xM(l:zL):(XG l).Perm l:=List.mergeSort_perm _ _
theorem TY(l:zL):(XG l).Pairwise λx y=>x<=y:=
 (List.pairwise_mergeSort (le:=λx y:Nat=>decide (x<=y)) (λa b c h1 h2=>by simp only[xaQ]at*;omega) (λa b=>by simp only[xcb,xaQ];omega) l).imp λh=>xcl h
theorem TW(l:zL):Pb (iw l)=iw (XG l):=by
 refine List.Perm.eq_of_pairwise (le:=λx y:Int=>x<=y) (λa b _ _ h1 h2=>Int.le_antisymm h1 h2) ?_ ?_ ((List.mergeSort_perm _ _).trans ((xM l).map _).symm)
 ·exact(List.pairwise_mergeSort (le:=λx y:Int=>decide (x<=y)) (λa b c h1 h2=>by simp only[xaQ]at*;omega) (λa b=>by simp only[xcb,xaQ];omega) _).imp λh=>xcl h
 exact xb9.2 ((TY l).imp λh=>by omega)
theorem TZ{v:zV}{C:Hp}{l:List Int}(h:aR 82 .u32 v l C)(cL:l.length<1152921504606846976):Fc zQ 291 #[v] C (λr C'=>r=.tuple #[]/\aR 82 .u32 v (Pb l) C'):=by
 refine aK λg=>FX (h.bF ?_);refine aM.q (aa.rq (JP zO C) ?_);rintro w ⟨r,_,rfl⟩;have hd:Da 82 .u32 v l.toArray C:=h;refine aa.fn .here (Ui aam l.length hd (a:=0) (b:=l.length) zO zO zI (by simpa using cL) (.inl rfl) _) ?_;rintro w C' ⟨rfl,e,⟨h1,h2⟩,dN⟩;have he:=XF (d:=l.toArray) (by simpa using h1) (by simpa using h2);exact aQ.here ⟨rfl,by rw[show Pb l=e.toList from he.symm];exact dN⟩
end
end Go.Proofs
namespace Go.Sx
open Go
section
variable {P:Program} {g:Gh} {F:Fence} {n:Nat} {ops:Array Oper} {Q:Exit->Act->World->Prop} {rest:List Oper} {o:Oper} {a:Act} {fr:Fr} {w:World} {H:Hp}
abbrev DD(ds:List Deferred)(n:Nat)(a:Act)(fr:Fr):Prop:=bS ds n a fr
variable {ds:List Deferred}
theorem DD.put(h:DD ds n a fr){d:Option Nat}(hd:dJ n d=true)(v:zV):DD ds n (a.put d v) (bV fr d v):=bS.put h hd v
theorem iZ{v0:zV}(hF:∀f,F.fn f)(hg:o.guard=none)(gE:∀c,o.op≠.defer c)(hd:dJ n o.dst=true)(ha:DD ds n a fr)(hw:Own g H w)(h:DH P g o (ev fr) H (· =v0))
 (k:∀a',DD ds n a' (bV fr o.dst v0)->wpListIn F 0 P ops Q rest a' w):wpListIn F 0 P ops Q (o::rest) a w:=by
 refine wpListIn_plain hg λK hK=>⟨λf _=>hF f,?_⟩;rw[Oper.semAt_eq _ _ _ gE,ha.eval];obtain⟨v,hv,hr,_⟩:=nT h;rw[hr w hw];subst hv;exact hK _ _ (k _ (ha.put hd _))
theorem IM{s:Sem zV}{K:zV->Hp->Prop}(hF:∀f,F.fn f)(hg:o.guard=none)(gE:∀c,o.op≠.defer c)(hd:dJ n o.dst=true)(ha:DD ds n a fr)(he:execOp (ev fr) o=(do pure (.value (<-s))))
 (h:∃v w' H',s.run P w=.ok v w'/\Own g H' w'/\K v H')
 (k:∀v H' w' a',K v H'->Own g H' w'->DD ds n a' (bV fr o.dst v)->wpListIn F 0 P ops Q rest a' w'):wpListIn F 0 P ops Q (o::rest) a w:=by
 refine wpListIn_plain hg λK hK=>⟨λf _=>hF f,?_⟩;rw[Oper.semAt_eq _ _ _ gE,ha.eval,he];obtain⟨v,w',H',hr,ho,hk⟩:=h;simp only[Sem.run_bind,hr,Result.andThen_ok,Sem.run_pure];exact hK _ _ (k v H' w' _ hk ho (ha.put hd _))
theorem O9{s:Sem zV}{K:zV->Hp->Prop}(hF:∀f,F.fn f)(hg:o.guard=none)(gE:∀c,o.op≠.defer c)(hd:dJ n o.dst=true)(ha:DD ds n a fr)(hw:Own g H w)(he:execOp (ev fr) o=(do pure (.value (<-s))))
 (h:SZ P g o (ev fr) H K (λ_ _=>False))
 (k:∀v H' w' a',K v H'->Own g H' w'->DD ds n a' (bV fr o.dst v)->wpListIn F 0 P ops Q rest a' w'):wpListIn F 0 P ops Q (o::rest) a w:=by
 have h1:=uO (n3 fr) h w hw;rw[he]at h1;refine IM (g:=g) (K:=K) hF hg gE hd ha he ?_ k;cases hs:s.run P w with
 |ok v w'=>
  simp only[Sem.run_bind,hs,Result.andThen_ok,Sem.run_pure,nO]at h1;obtain⟨H',ho,hk⟩:=h1;exact⟨v,w',H',rfl,ho,hk⟩
 |halt x w'=>
  simp only[Sem.run_bind,hs,Result.andThen]at h1;cases x<;>simp only[nO]at h1;obtain⟨_,_,hk⟩:=h1;exact hk.elim
theorem aaw{s:Sem Unit}{K:zV->Hp->Prop}(hF:∀f,F.fn f)(hg:o.guard=none)(gE:∀c,o.op≠.defer c)(hd:dJ n o.dst=true)(ha:DD ds n a fr)(hw:Own g H w)(he:execOp (ev fr) o=(do s;pure .skip))
 (h:SZ P g o (ev fr) H K (λ_ _=>False))
 (k:∀H' w' a',K undef H'->Own g H' w'->DD ds n a' (bV fr o.dst undef)->wpListIn F 0 P ops Q rest a' w'):wpListIn F 0 P ops Q (o::rest) a w:=by
 have h1:=uO (n3 fr) h w hw;rw[he]at h1;refine wpListIn_plain hg λK hK=>⟨λf _=>hF f,?_⟩;rw[Oper.semAt_eq _ _ _ gE,ha.eval,he];cases hs:s.run P w with
 |ok v w'=>
  simp only[Sem.run_bind,hs,Result.andThen_ok,Sem.run_pure,nO]at h1⊢;obtain⟨H',ho,hk⟩:=h1;exact hK _ _ (k H' w' _ hk ho (ha.put hd _))
 |halt x w'=>
  simp only[Sem.run_bind,hs,Result.andThen]at h1;cases x<;>simp only[nO]at h1;obtain⟨_,_,hk⟩:=h1;exact hk.elim
theorem vZ{m:Nat}{args:List zV}(hl:args.length<=m):DD [] m {tmps:=args.toArray++Array.replicate (m-args.toArray.size) undef,defers:=[]} (fJ args 0):=by
 refine⟨rfl,by simp;omega,λs=>?_⟩;rw[lH,xat,xd7];simp only[xdc,xc7,xaU,xdi];by_cases hs:s<args.length
 ·simp[hs,List.getD]
 rw[xac hs,xdh];have:args.getD s undef=undef:=by simp[List.getD,xaH (xcW hs)]
 rw[this];split<;>rfl
theorem Own.putObj{g:Gh}{H H':Hp}{w:World}{b:Nat}{o o':Obj}(h:Own g H w)(u:cu b o o' H H'):Own g H' (w.putObj b o'):=by
 have hb:=h.lt u.mem;exact h.bV u rfl rfl rfl (World.putObj_heap_same hb) λc hc=>World.putObj_heap_other hc
def Kf{α:Type}(P:Program)(f:FuncId)(cap:Array zV)(B:Hp)(enc:α->zV)(N:Nat)(S:List α->Prop):Prop:=
 ∀(g:Gh) (l:Nat) (G:List α->Hp->Prop),
  (∀ss x A X W,G ss A->ss.length<N->Own g (A++X) W->YieldAt Fence.wide 0 P l #[enc x] W (λe W'=>e=.returned (.bool true)/\∃A',G (ss++[x]) A'/\Own g (A'++X) W'))->
  ∀A W,G [] A->Own g (A++B) W->CallsIn Fence.wide 0 P f (#[.func (.yield l) #[] #[]]++cap) W (λe W'=>(∃v,e=.returned v)/\∃ss A',S ss/\G ss A'/\Own g (A'++B) W')
open Classical in
noncomputable def qk(p:Nat->Prop):Nat:=if h:∃k,p k then Classical.choose (kj h)else 0
theorem Ez{p:Nat->Prop}{k:Nat}(h:p k):qk p<=k:=by
 unfold qk;rw[xej ⟨k,h⟩];exact(xcq (kj ⟨k,h⟩)).2 k h
theorem z4{p:Nat->Prop}(h:∃k,p k):p (qk p):=by
 unfold qk;rw[xej h];exact(xcq (kj h)).1
theorem DV{c:Code}(J:Nat->Act->World->Prop){k:Nat}(h0:J k a w)
 (round:∀k a w,J k a w->c.wpIn F 0 P (Exit.then (λa' w'=>∃k',k'<k/\J k' a' w') Q) a w):(Code.loop c).wpIn F 0 P Q a w:=by
 refine wpIn_loop (λa w=>∃k,J k a w) (λa w=>qk λk=>J k a w) ⟨k,h0⟩ λa w h=>?_;refine Code.wpIn_mono (λe a' w' hq=>?_) (round _ a w (z4 h));cases e with
 |normal=>
  obtain⟨k',hlt,hj⟩:=hq;exact⟨⟨k',hj⟩,xaL (Ez hj) hlt⟩
 |_=>exact hq
end
end Go.Sx
set_option maxRecDepth 100000
namespace Go.Proofs
open Go Go.Sx Tryz
section
open aE
section
variable {es:Array MapEntry} {ck b:Nat} {m:List (Nd×Nat)}
theorem Kx(B:Hp):Fc zQ 263 #[.map (some b)] B
  (λv H=>∃bm,v=.func (.func 292) #[] #[ptr bm]/\H=(bm,.cells #[.map (some b)] 160 zZ)::B):=by
 refine aK λg=>Gj λb1 _=>?_;exact aQ.here ⟨b1,rfl,rfl⟩
noncomputable abbrev VF:Func:=Tryz.f292
def VAt(g:Gh)(bi b:Nat)(l:Nat)(es:Array MapEntry)(ck:Nat)(m:List (Nd×Nat))(G:zL->Hp->Prop)(B:Hp)(k:Nat)(a:Act)(w:World):Prop:=
 ∃(fr:Fr) (ss:zL) (A:Hp) (seen:Array Nat),DD [] 15 a fr/\fr 0=.func (.yield l) #[] #[]/\fr 6=ptr bi/\G ss A/\Own g (A++((bi,.mapIter (some b) ck seen ck)::B)) w/\
  (ss++(dB es m seen).map Prod.snd).Perm (m.map Prod.snd)/\k=(dB es m seen).length
theorem DX{bm:Nat}{fz:Nat×Nat}(h:aT nK Ty es ck m):Kf zQ 292 #[ptr bm] [(bm,.cells #[.map (some b)] 160 fz),(b,.map es ck)] u32 m.length
  (λss=>ss.Perm (m.map Prod.snd)):=by
 intro g l G hY A W h0 hW;have hF:∀f,Fence.wide.fn f:=λ_=>trivial;refine callsIn_of_wp func292 rfl trivial ?_;have ha:=vZ (m:=15) (args:=[.func (.yield l) #[] #[],ptr bm]) zI;refine wpIn_seq ?_;refine wpIn_region_lit ?_;obtain⟨B,hB⟩:∃B,B=[(bm,Obj.cells #[.map (some b)] 160 fz),(b,.map es ck)]:=⟨_,rfl⟩;rw[<-hB]at hW;have AT:(bm,Obj.cells #[.map (some b)] 160 fz)∈A++B:=by rw[hB];exact xaa _ (.head _)
 have tQ:(b,Obj.map es ck)∈A++B:=by rw[hB];exact xaa _ (.tail _ (.head _))
 have hmB:∀{X:Hp},(b,Obj.map es ck)∈X++B:=by intro X;rw[hB];exact xaa _ (.tail _ (.head _))
 rw[<-hB];have e0:DH zQ g (bO VF 0 0) (ev (fJ [.func (.yield l) #[] #[],ptr bm] 0)) (A++B) (λx=>x=.map (some b))=Ld (A++B) (ptr bm) (λx=>x=.map (some b)):=by kernel_rfl
 refine iZ (g:=g) (n:=15) (v0:=.map (some b)) hF rfl zC rfl ha hW (e0.mpr (Ld.mk AT rfl rfl)) λa1 EY=>?_;refine IM (g:=g) (n:=15) (s:=Instr.range 160 (.map (some b))) (K:=λv H=>∃bi,v=ptr bi/\H=(bi,.mapIter (some b) ck #[] ck)::(A++B)) hF rfl zC rfl EY rfl
  (Rng.run (.inr ⟨b,es,ck,rfl,tQ,λbi _=>⟨bi,rfl,rfl⟩⟩) hW (t:=160) (kt:=201) (e:=82) zK) λv H' w1 a2 hv kQ AW=>?_
 obtain⟨bi,rfl,rfl⟩:=hv;refine wpListIn_nil ?_;have xh:Own g (A++((bi,.mapIter (some b) ck #[] ck)::B)) w1:=kQ.perm (xaT).symm;clear kQ EY ha hW AT tQ;refine wpIn_block ?_;refine DV (VAt g bi b l es ck m G B) (k:=(dB es m #[]).length) ⟨_,[],A,#[],AW,rfl,rfl,h0,xh,by rw[uh h];exact .refl _,rfl⟩ ?_;clear AW xh h0 e0 A;rintro k a w ⟨fr,ss,A,seen,ha,f0,f6,hG,hw,dF,hk⟩;refine wpIn_seq ?_;refine wpIn_region_lit ?_;have e6:ev fr (.tmp 6)=ptr bi:=f6;refine IM (g:=g) (n:=15) (s:=Instr.next (ptr bi) false 0)
  (K:=λv H=>(dB es m seen=[]/\v=.tuple #[.bool false]/\H=A++((bi,.mapIter (some b) ck seen ck)::B))\/
   ∃(e:MapEntry) (x:Nd×Nat) (seen':Array Nat),v=.tuple #[.bool true,e.key,e.val]/\e.val=u32 x.2/\(dB es m seen).Perm (x::dB es m seen')/\seen'.back?=some e.born/\es.find? (·.born==e.born)=some e/\
    H=A++((bi,.mapIter (some b) ck seen' ck)::B)) hF rfl zC rfl ha ?_
  (Nxt.run (h.next (bi:=bi) (bm:=b) (seen:=seen) (H:=A++((bi,.mapIter (some b) ck seen ck)::B)) (xaa _ (.tail _ (by rw[hB];exact .tail _ (.head _)))) (xaa _ (.head _))
   (λe x seen' he hk hv hp hb hf=>⟨_,(cu.head _).aH A,.inr ⟨e,x,seen',rfl,hv,hp,hb,hf,rfl⟩⟩) (λhu=>.inl ⟨hu,rfl,rfl⟩)) hw) λv H' w1 a1 hv kQ EY=>?_
 ·rw[e6.symm];rfl
 rcases hv with⟨hu,rfl,rfl⟩|⟨e,x,seen',rfl,Af,hp,hbk,hfi,rfl⟩
 ·refine iZ (g:=g) (n:=15) (v0:=.bool false) hF rfl zC rfl EY kQ ⟨_,_,rfl,rfl,rfl⟩ λa2 AW=>?_;refine wpListIn_nil ?_;refine wpIn_seq ?_;refine wpIn_cond_false (by rw[AW.eval];rfl) ?_;refine wpIn_exit ?_;simp only[Exit.then,Exit.inBlock,xa4,bodyPost];refine⟨AW.defers,_,results_none rfl _ _ _,⟨_,rfl⟩,ss,A,?_,hG,(kQ.perm xaT).tail⟩;rw[hu,xcJ,xaG]at dF;exact dF
 refine iZ (g:=g) (n:=15) (v0:=.bool true) hF rfl zC rfl EY kQ ⟨_,_,rfl,rfl,rfl⟩ λa2 AW=>?_;refine wpListIn_nil ?_;refine wpIn_seq ?_;refine wpIn_cond_true (by rw[AW.eval];rfl) ?_;refine wpIn_skip ?_;refine wpIn_block ?_;refine wpIn_seq ?_;refine wpIn_region_lit ?_;refine IM (g:=g) (n:=15) (s:=Instr.entry (ptr bi)) (K:=λv H=>v=.tuple #[e.key,e.val]/\H=A++((bi,.mapIter (some b) ck seen' ck)::B)) hF rfl zC rfl AW ?_ ?_ λv H' w2 a3 hv xh LZ=>?_
 ·rw[e6.symm];rfl
 ·obtain⟨v,hr,hv⟩:=SV.run (P:=zQ) (k:=λv=>v=.tuple #[e.key,e.val]) ⟨bi,b,ck,seen',e.born,ck,es,e,rfl,xaa _ (.head _),hbk,xaa _ (.tail _ (by rw[hB];exact .tail _ (.head _))),hfi,rfl⟩ kQ;exact⟨v,w1,_,hr,kQ,hv,rfl⟩
 obtain⟨rfl,rfl⟩:=hv;refine iZ (g:=g) (n:=15) (v0:=u32 x.2) hF rfl zC rfl LZ xh ⟨_,_,rfl,rfl,Af⟩ λa4 Vi=>?_;refine iZ (g:=g) (n:=15) (v0:=u32 x.2) hF rfl zC rfl Vi xh (show u32 x.2=u32 x.2 from rfl) λa5 Vh=>?_;refine wpListIn_nil ?_;refine wpIn_seq ?_;refine wpIn_region_lit ?_;refine iZ (g:=g) (n:=15) (v0:=.func (.yield l) #[] #[]) hF rfl zC rfl Vh xh f0 λa6 Vg=>?_;refine iZ (g:=g) (n:=15) (v0:=u32 x.2) hF rfl zC rfl Vg xh (show u32 x.2=u32 x.2 from rfl) λa7 ZR=>?_;have hlen:(dB es m seen).length=(dB es m seen').length+1:=by rw[hp.length_eq];rfl
 have hlt:ss.length<m.length:=by
  have:=dF.length_eq;simp only[xaf,xau]at this⊢;omega
 obtain⟨fn,tmps,assign,body,hy,hR⟩:=hY _ x.2 A _ w2 hG hlt xh;refine wpListIn_plain rfl λK hK=>⟨λ_ _=>trivial,?_⟩;rw[Oper.semAt_eq _ _ _ zC,ZR.eval];have hex:∀F7:Fr,F7=bV (bV (bV (bV (bV (bV (bV fr (some 7) (.tuple #[.bool true,e.key,e.val])) (some 8) (.bool true)) (some 9) (.tuple #[e.key,e.val])) (some 10) (u32 x.2)) (some 4) (u32 x.2)) (some 11) (.func (.yield l) #[] #[])) (some 12) (u32 x.2)->(execOp (ev F7) (bO VF 3 2)).run zQ w2=.ok (.round l fn tmps assign body) w2:=λF7 hF7=>by
  have v11:ev F7 (.tmp 11)=.func (.yield l) #[] #[]:=by rw[hF7];rfl
  have v12:ev F7 (.tmp 12)=u32 x.2:=by rw[hF7];rfl
  have e11:execOp (ev F7) (bO VF 3 2)=(do let d <-resolve (ev F7) {callee:=.value (.tmp 11),args:=#[.tmp 12],argTypes:=#[82]} 4;invoke d.target d.args):=rfl;rw[e11];simp[resolve,Deferred.ofValue,v11,v12,invoke,go_sem,hy]
 refine(xb2 (Oper.uponIn Fence.wide 0 zQ (bO VF 3 2) a7 K _) (hex _ rfl)).mpr ⟨λh=>(by cases h),hR.mono ?_⟩;rintro e' w3 ⟨rfl,A',hG',hw3⟩;refine hK _ _ ?_;have ha8:=ZR.put (d:=some 13) rfl (.bool true);refine iZ (g:=g) (n:=15) (v0:=.bool false) hF rfl zC rfl ha8 hw3 ⟨_,rfl,rfl⟩ λa9 ha9=>?_;refine wpListIn_nil ?_;refine wpIn_cond_false (by rw[ha9.eval];rfl) ?_;refine wpIn_skip ?_;refine⟨(dB es m seen').length,by omega,_,ss++[x.2],A',seen',ha9,f0,f6,hG',hw3,?_,rfl⟩;rw[xai];exact((hp.map Prod.snd).append_left ss).symm.trans dF
end
end
section
open aE
section
noncomputable abbrev AF:Func:=Tryz.f305
variable {f:FuncId} {cap:Array zV} {B:Hp} {N:Nat} {S:zL->Prop}
noncomputable def dh:Code:=match AF.body with|some (.seq _ (.seq (.seq _ (.block _ (.rangeFunc _ _ c _))) _))=>c|_=>.skip
noncomputable def fe:Code:=match AF.body with|some (.seq _ (.seq (.seq _ (.block _ (.rangeFunc _ _ _ c))) _))=>c|_=>.skip
noncomputable def VU(i:Nat):Oper:=match fe with| .block _ (.region _ ops _)=>(match ops[i]? with|some o=>o|none=>default)|_=>default
def kK(fn:FuncId)(tmps:Array zV)(assign body:Code)(D:Nat):Loop:={state:=.ready,pending:=none,fn,tmps,params:=#[7],assign,body,defers:=D}
def APG(l D bs:Nat)(fn:FuncId)(tmps:Array zV)(assign body:Code)(ss:zL)(A:Hp):Prop:=
 ∃v C',A=(l,.loop (kK fn tmps assign body D))::(D,.deferred (some []))::(bs,.cells #[v] 189 zZ)::C'/\aR 82 .u32 v (iw ss) C'
theorem Sy{g:Gh}{l D bs:Nat}{fn:FuncId}{tmps:Array zV}{fr:Fr}(hsz:tmps.size=13)(fK:∀s,tmps.getD s undef=fr s)(f2:fr 2=ptr bs){ss:zL}{x:Nat}{A X:Hp}{W:World}
 (hG:APG l D bs fn tmps dh fe ss A)(hl:ss.length<1099511627776)(hW:Own g (A++X) W):
  YieldAt Fence.wide 0 zQ l #[u32 x] W (λe W'=>e=.returned (.bool true)/\∃A',APG l D bs fn tmps dh fe (ss++[x]) A'/\Own g (A'++X) W'):=by
 obtain⟨v,C',rfl,ho⟩:=hG;have hF:∀f,(Fence.wide.inRound l).fn f:=λ_=>trivial;have hL:W.heap[l]? =some (.loop (kK fn tmps dh fe D)):=hW.has _ (.head _);refine⟨fn,_,dh,fe,run_yield hL rfl,roundIn_of_wpIn trivial ?_⟩;have ha:DD [] 13 {tmps:=tmps.setIfInBounds 7 (u32 x),defers:=[]} (bV fr (some 7) (u32 x)):=(DD.put (a:={tmps:=tmps,defers:=[]}) (d:=some 7) ⟨rfl,hsz,fK⟩ rfl (u32 x));have ha:DD [] 13 {tmps:=(#[7].zip #[u32 x]).foldl (λtmps (t,a)=>tmps.setIfInBounds t a) tmps,defers:=[]} (bV fr (some 7) (u32 x)):=by simpa using ha
 change Code.wpIn _ 0 zQ (.region _ #[_] false) _ _ _;refine wpIn_region_lit ?_;refine iZ (g:=g) (n:=13) (v0:=u32 x) hF rfl zC rfl ha hW rfl λa1 EY=>?_;refine wpListIn_nil ?_;have hbr:=run_beginRound (P:=zQ) hL rfl;refine⟨_,hbr,?_⟩;have W6:=hW.putObj (o':=.loop {kK fn tmps dh fe D with state:=.busy}) (.head _);change Code.wpIn _ 0 zQ (.block _ (.region _ #[_,_,_,_,_] false)) _ _ _;refine wpIn_block ?_;refine wpIn_region_lit ?_;obtain⟨H1,hH1⟩:∃H1,H1=(l,Obj.loop {kK fn tmps dh fe D with state:=.busy})::(((D,.deferred (some []))::(bs,.cells #[v] 189 zZ)::C')++X):=⟨_,rfl⟩
 replace W6:Own g H1 (W.putObj l (.loop {kK fn tmps dh fe D with state:=.busy})):=by rw[hH1];exact W6
 have e0:DH zQ g (VU 0) (ev (bV (bV fr (some 7) (u32 x)) (some 5) (u32 x))) H1 (λz=>z=v)=Ld H1 (fr 2) (λz=>z=v):=by kernel_rfl
 refine iZ (g:=g) (n:=13) (v0:=v) hF rfl zC rfl EY W6 (e0.mpr (by rw[f2];exact Ld.mk (by rw[hH1];exact .tail _ (.tail _ (.head _))) rfl rfl)) λa2 AW=>?_;refine iZ (g:=g) (n:=13) (v0:=u32 x) hF rfl zC rfl AW W6 rfl λa3 LZ=>?_;have eb:∀K:zV->Hp->Prop,ak zQ 189 1 [(0,.int .u32 (x:Int))] H1 K=SZ zQ g (VU 2) (ev (bV (bV (bV (bV fr (some 7) (u32 x)) (some 5) (u32 x)) (some 8) v) (some 9) (u32 x))) H1 K (λ_ _=>False):=λK=>by kernel_rfl
 refine O9 (g:=g) (n:=13) (s:=_) (K:=λv H=>∃b,v=.slice (some ⟨b,0,none⟩) 1 1/\H=(b,.cells (aA .u32 [(x:Int)]) 82 zZ)::H1) hF rfl zC rfl LZ W6 rfl
  ((eb _).mp (ak.int zK zK zK λb=>⟨b,rfl,rfl⟩)) λv1 H2 w2 a4 hv hW2 Vi=>?_
 obtain⟨b,rfl,rfl⟩:=hv;have hn:(iw ss).length=ss.length:=aq ss;obtain⟨H2,ZX⟩:∃H2,H2=(b,Obj.cells (aA .u32 [(x:Int)]) 82 zZ)::H1:=⟨_,rfl⟩;rw[<-ZX]at hW2;refine O9 (g:=g) (n:=13) (s:=_) (K:=λv' H=>∃C2,aR 82 .u32 v' (iw (ss++[x])) C2/\H=(b,Obj.cells (aA .u32 [(x:Int)]) 82 zZ)::(l,Obj.loop {kK fn tmps dh fe D with state:=.busy})::(D,.deferred (some []))::(bs,.cells #[v] 189 zZ)::(C2++X))
  hF rfl zC rfl Vi hW2 (by simp only[execOp,resolve,invoke,builtin];simp[bind,Sem.bind];rfl) ?_ λv2 H3 w3 a5 hv Vj Vh=>?_
 ·have e1:∀K:zV->Hp->Prop,App zQ 82 1 4 (.int .u32 0) H2 v (.slice (some ⟨b,0,none⟩) 1 1) K=
   SZ zQ g (VU 3) (ev (bV (bV (bV (bV (bV fr (some 7) (u32 x)) (some 5) (u32 x)) (some 8) v) (some 9) (u32 x)) (some 10) (.slice (some ⟨b,0,none⟩) 1 1))) H2 K (λ_ _=>False):=λK=>by kernel_rfl
  refine(e1 _).mp ?_;rw[ZX,hH1];refine ho.mD (.cons (.cons (.cons (.cons .left)))) (by exact .head _) zO zO λv' C2 Cd=>⟨C2,?_,rfl⟩;rw[cc];exact Cd
 obtain⟨C2,Cd,rfl⟩:=hv;have es:∀(H:Hp) (K:zV->Hp->Prop),St 1 H (fr 2) v2 (λH'=>K undef H')=SZ zQ g (VU 4) (ev (bV (bV (bV (bV (bV (bV fr (some 7) (u32 x)) (some 5) (u32 x)) (some 8) v) (some 9) (u32 x)) (some 10) (.slice (some ⟨b,0,none⟩) 1 1)) (some 11) v2)) H K (λ_ _=>False):=λH K=>by kernel_rfl
 refine aaw (g:=g) (n:=13) (s:=_) (K:=λ_ H=>H=(b,Obj.cells (aA .u32 [(x:Int)]) 82 zZ)::(l,Obj.loop {kK fn tmps dh fe D with state:=.busy})::(D,.deferred (some []))::(bs,.cells #[v2] 189 zZ)::(C2++X))
  hF rfl zC rfl Vh Vj rfl ((es _ _).mp ?_) λH4 w4 a6 hv hW4 Vg=>?_
 ·rw[f2];exact St.one (.tail (.tail (.tail (.head _)))) Cd.one zI rfl rfl
 subst hv;refine wpListIn_nil ?_;simp only[Exit.inBlock,roundPost];refine⟨_,_,run_endRound none (hW4.has _ (.tail _ (.head _))),rfl,_,⟨v2,C2,rfl,Cd⟩,?_⟩;exact(hW4.putObj (.tail (.head _))).tail
theorem MH(hg:Kf zQ f cap B u32 N S)(hc:bQ zQ f=true)(hN:N<=1099511627776):
  Fc zQ 305 #[.slice none 0 0,.func (.func f) #[] cap] B (λv H=>∃ss C',S ss/\H=C'++B/\aR 82 .u32 v (iw ss) C'):=by
 intro g w hw;rw[<-callsIn_wide (n:=0)];have hF:∀f,Fence.wide.fn f:=λ_=>trivial;refine callsIn_of_wp_marks func305 rfl trivial ?_;have ha:=vZ (m:=13) (args:=[.slice none 0 0,.func (.func f) #[] cap]) zI;refine wpIn_seq ?_;refine wpIn_region_lit ?_;refine O9 (g:=g) (n:=13) (s:=_) (K:=λv H=>∃bs,v=ptr bs/\H=(bs,.cells #[.slice none 0 0] 189 zZ)::B) hF rfl zC rfl ha hw rfl (λbs _=>⟨bs,rfl,rfl⟩) λv H1 w1 a1 hv kQ EY=>?_;obtain⟨bs,rfl,rfl⟩:=hv;refine iZ (g:=g) (n:=13) (v0:=.slice none 0 0) hF rfl zC rfl EY kQ rfl λa2 AW=>?_;refine wpListIn_nil ?_;refine wpIn_seq ?_;refine wpIn_seq ?_;refine wpIn_region_lit ?_;refine iZ (g:=g) (n:=13) (v0:=.func (.func f) #[] cap) hF rfl zC rfl AW kQ rfl λa3 LZ=>?_;refine wpListIn_nil ?_;refine wpIn_block ?_;refine wpIn_rangeFunc λfn hfn=>?_;have LL:=(kQ.alloc (.deferred (some []))).alloc (.loop (kK fn a3.tmps dh fe w1.heap.size));have f6:a3.tmps[6]?.getD undef=.func (.func f) #[] cap:=by have:=LZ.get 6;rw[xat]at this;exact this
 obtain⟨W1,W6⟩:∃W1,W1=(w1.alloc (.deferred (some []))).alloc (.loop (kK fn a3.tmps dh fe w1.heap.size)):=⟨_,rfl⟩;rw[<-W6]at LL;refine⟨w1.heap.size+1,[{target:=.collected w1.heap.size,args:=#[]}],W1,{target:=.fn (.func f) cap,args:=#[.func (.yield (w1.heap.size+1)) #[] #[]]},W1,f,#[.func (.yield (w1.heap.size+1)) #[] #[]]++cap,W1,?_,?_,λ_ _=>trivial,?_,λh=>(by cases h),?_⟩
 ·rw[W6];exact run_enterLoop_outer fn a3.tmps #[7] _ _
 ·simp[resolve,Deferred.ofValue,f6,go_sem]
 ·simp[invoke,go_sem];exact dX hc _ _
 have hsz:(w1.alloc (.deferred (some []))).heap.size=w1.heap.size+1:=by simp
 rw[hsz]at LL;refine CallsIn.mono (hg g (w1.heap.size+1) (APG (w1.heap.size+1) w1.heap.size bs fn a3.tmps dh fe) (λss x A X W hG hl hW=>Sy LZ.size LZ.get rfl hG zO hW) [_,_,_] W1 ⟨_,[],rfl,aR.nil⟩ LL) ?_;rintro e W2 ⟨⟨v0,rfl⟩,ss,A',hS,⟨v,C',rfl,ho⟩,hW2⟩;refine⟨none,_,run_endLoop (hW2.has _ (.head _)) (by simp[kK]),?_⟩;have Vj:=hW2.putObj (o':=.loop {kK fn a3.tmps dh fe w1.heap.size with state:=.exhausted}) (.head _);simp only[Exit.then,Exit.inBlock];have Vi:DD [{target:=.collected w1.heap.size,args:=#[]}] 13 {a3 with defers:=[{target:=.collected w1.heap.size,args:=#[]}]++a3.defers} (bV (bV (bV (fJ [.slice none 0 0,.func (.func f) #[] cap] 0) (some 2) (ptr bs)) (some 4) (.slice none 0 0)) (some 6) (.func (.func f) #[] cap)):=
  ⟨by rw[LZ.defers];rfl,LZ.size,LZ.get⟩
 refine wpIn_seq ?_;refine wpIn_region_lit ?_;obtain⟨H3,hH3⟩:∃H3,H3=(w1.heap.size+1,Obj.loop {kK fn a3.tmps dh fe w1.heap.size with state:=.exhausted})::(((w1.heap.size,.deferred (some []))::(bs,.cells #[v] 189 zZ)::C')++B):=⟨_,rfl⟩
 replace Vj:Own g H3 (W2.putObj (w1.heap.size+1) (.loop {kK fn a3.tmps dh fe w1.heap.size with state:=.exhausted})):=by rw[hH3];exact Vj
 have e0:DH zQ g (bO AF 4 0) (ev (bV (bV (bV (fJ [.slice none 0 0,.func (.func f) #[] cap] 0) (some 2) (ptr bs)) (some 4) (.slice none 0 0)) (some 6) (.func (.func f) #[] cap))) H3 (λz=>z=v)=Ld H3 (ptr bs) (λz=>z=v):=by kernel_rfl
 refine iZ (g:=g) (n:=13) (v0:=v) hF rfl zC rfl Vi Vj (e0.mpr (Ld.mk (by rw[hH3];exact .tail _ (.tail _ (.head _))) rfl rfl)) λa5 Vh=>?_;refine iZ (g:=g) (n:=13) (v0:=v) hF rfl zC rfl Vh Vj rfl λa6 Vg=>?_;refine wpListIn_nil ?_;refine wpIn_ret ?_;simp only[Exit.then,bodyPostM];rw[Vg.defers];rw[hH3]at Vj;refine⟨by simp,.inl ⟨w1.heap.size,_,rfl,run_takeDeferred (Vj.has _ (.tail _ (.head _))),?_⟩⟩;have hW4:=Vj.putObj (o':=.deferred none) (.tail (.head _));refine⟨_,results_tmp rfl _ _ _,C'++B,hW4.tail.tail.tail,v,C'++B,?_,.refl _,ss,C',hS,rfl,ho⟩;have:=Vg.get 4;rw[this];rfl
end
section
variable {f:FuncId} {cap:Array zV} {B:Hp} {N:Nat} {S:zL->Prop}
theorem Fe(hg:Kf zQ f cap B u32 N S)(hc:bQ zQ f=true)(hN:N<=1099511627776):
  Fc zQ 290 #[.func (.func f) #[] cap] B (λv H=>∃ss C',S ss/\H=C'++B/\aR 82 .u32 v (iw ss) C'):=by
 refine aK λg=>FY (aa.fq (MH hg hc hN) ?_);rintro v H h;exact aQ.here h
theorem Uh{l':List Int}{ss:zL}(h:l'.Perm (iw ss)):∃l:zL,l.Perm ss/\l'=iw l:=by
 refine⟨l'.map Int.toNat,?_,?_⟩
 ·have:=h.map Int.toNat;rw[iw,xbL]at this;have e:(Int.toNat∘(Nat.cast:Nat->Int))=id:=by funext x;simp
  rw[e,xd0]at this;exact this
 unfold iw;rw[xbL];have:∀x∈l',((Nat.cast:Nat->Int)∘Int.toNat) x=x:=λx hx=>by
  obtain⟨n,_,rfl⟩:=xam.1 (h.mem_iff.1 hx);simp
 rw[xbi this,List.map_id']
theorem KJ(hg:Kf zQ f cap B u32 N S)(hS:∀ss,S ss->ss.length<=N)(hc:bQ zQ f=true)(hN:N<=1099511627776):
  Fc zQ 262 #[.func (.func f) #[] cap] B (λv H=>∃ss l C',S ss/\l.Perm ss/\H=C'++B/\aR 82 .u32 v (iw l) C'):=by
 refine aK λg=>Gk (aa.fq (Fe hg hc hN) ?_);rintro v H ⟨ss,C',hs,rfl,ho⟩;have hlen:=hS ss hs;refine aa.fn (.left (A:=B)) (TZ ho (by rw[aq];omega)) ?_;rintro w C2 ⟨rfl,cB⟩;rw[TW]at cB;exact aQ.here ⟨ss,_,C2,hs,xM ss,rfl,cB⟩
end
theorem T6{pt n v:Nat}{T:Nd->Option Nat}{C:Hp}(h:nJ pt n T C)(hv:v<n)(hinj:∀d d' r,T d=some r->T d'=some r->d=d')(hb:∀d r,T d=some r->r<1048576):
  Fc zQ 228 #[ptr pt,iv (v:Int)] C (λr H=>∃w l N,r=.tuple #[w,iv 0]/\H=N++C/\aR 82 .u32 w (iw l) N/\l.Nodup/\∀r,r∈l↔∃d,T d=some r/\d.v=v):=by
 have h0:=h;obtain⟨vs,Cs,ms,rfl,hs,ho⟩:=h;obtain⟨m,hm⟩:∃m,ms[v]? =some m:=⟨_,xab (by rw[ho.len];exact hv)⟩;have he:=ho.dV v m hm;have hT:∀d:Nd,d.v=v->T d=bU m.l d:=λd hd=>by rw[ho.T,hd,hm];rfl
 have hmem:∀d r,(d,r)∈m.l↔T d=some r/\d.v=v:=λd r=>by
  constructor
  ·intro hx;have hd:=ho.var v m hm _ hx;exact⟨by rw[hT d hd];exact(fk he.nd).2 hx,hd⟩
  rintro⟨h1,h2⟩;rw[hT d h2]at h1;exact(fk he.nd).1 h1
 have gE:(m.l.map Prod.snd).Nodup:=by
  refine xb9.2 ((xb9.1 he.nd).imp_of_mem λ{a b} ha hb' hne e=>hne ?_);have h1:=((hmem a.1 a.2).1 ha).1;have h2:=((hmem b.1 b.2).1 hb').1;rw[<-e]at h2;exact hinj _ _ _ h1 h2
 have hlen:m.l.length<=1048576:=by
  have:=bN (l':=List.range 1048576) gE λx hx=>by
   obtain⟨y,hy,rfl⟩:=xam.1 hx;exact xaJ.2 (hb _ _ ((hmem y.1 y.2).1 hy).1)
  simpa using this
 refine aK λg=>GK (aa.eq (j3 h0 hv) (ae.fX (Br.F (Nil.ptr ?_))));refine ag.mk (Ld.mk zM rfl ?_);refine hs.Wp (x:=.map (some m.b)) (by rw[xas,hm];rfl) (λ_ h=>by exact .tail _ (xad _ h)) ?_;refine aa.fq (Kx (b:=m.b) _) ?_;rintro w H ⟨bm,rfl,rfl⟩;obtain⟨X,Y,hXY⟩:=xc1 (qg hm);have dF:((bm,Obj.cells #[.map (some m.b)] 160 zZ)::(pt,.cells #[vs] 159 zZ)::(Cs++Lo ms)).Perm
   ([(bm,.cells #[.map (some m.b)] 160 zZ),(m.b,.map m.es m.ck)]++((pt,.cells #[vs] 159 zZ)::(Cs++(X++Y)))):=by
  rw[hXY];refine .cons _ ?_;show((pt,_)::(Cs++(X++(m.b,_)::Y))).Perm ((m.b,_)::(pt,_)::(Cs++(X++Y)));refine .trans (.cons _ ?_) (.swap _ _ _);rw[<-xai,<-xai];exact xaT
 refine aa.pre (.perm dF) ?_;refine aa.fq (KJ (DX he) (λss hss=>by rw[hss.length_eq,xau];exact xak _) zK zO) ?_;rintro w H ⟨ss,l,C',hss,hl,rfl,hown⟩;have oE:l.Perm (m.l.map Prod.snd):=hl.trans hss;refine aQ.mk (gW:=C'++((pt,.cells #[vs] 159 zZ)::(Cs++Lo ms))) ?_ ⟨w,l,C',rfl,rfl,hown,oE.nodup_iff.2 gE,λr=>?_⟩
 ·rw[xai];refine aI.cT ?_ C';exact(aI.perm dF.symm).trans .tail
 rw[oE.mem_iff,xam];constructor
 ·rintro⟨y,hy,rfl⟩;exact⟨y.1,(hmem y.1 y.2).1 hy⟩
 rintro⟨d,hd⟩;exact⟨(d,r),(hmem d r).2 hd,rfl⟩
end
end Go.Proofs
namespace Go.Sx
open Go
section
variable {P:Program} {g:Gh} {H:Hp} {κ β:Type} [DecidableEq κ] {ke:κ->zV} {vr:zV->β->Prop} {es:Array MapEntry} {ck b:Nat} {m:List (κ×β)} {K:zV->Hp->Prop} {KP:List PanicEntry->Hp->Prop}
omit [DecidableEq κ] in
theorem aT.sameKey(h:aT ke vr es ck m){i:Nat}{k:κ}{x:β}(hi:m[i]? =some (k,x)):es.modify i (λe=>{e with key:=ke k})=es:=by
 apply Array.ext_getElem?;intro j;rw[xbx];split
 ·rename_i e;subst e;cases he:es[i]? with
  |none=>rfl
  |some e0=>rw[xbj,<-(h.key i e0 _ he hi).1]
 ·rfl
theorem aT.VD{o:Oper}{ρ:Operand->zV}{t kt e:TypeId}{kd:TypeDesc}{mo ko:Operand}{z:zV}{k:κ}{y0:β}(hk:∀a b,Dz P kt (ke a) (ke b) (decide (a=b)))(hc:∀a,mE P kt (ke a))(hb:∀a,Instr.sameBits 10000 (ke a) (ke a)=true)
 (ho:o.op=.mapEntry t mo ko)(hm':ρ mo=.map (some b))(hk':ρ ko=ke k)(ht:P.underlying t=some (.map kt e))(Cg:P.underlying kt=some kd)(abZ:cJ kd=true)(hzd:ef P e=some z)(hvz:vr z y0)
 (h:aT ke vr es ck m){c:Obj->Hp}(QZ:∀o o',cu b o o' (c o) (c o'))
 (h1:∀es' cE v st,aT ke vr es' cE (if k∈m.map Prod.fst then m else m++[(k,y0)])->(∃e∈es'.toList,e.born=st)->K (.tuple #[v,.int .i64 (st:Int)]) (c (.map es' cE))):dD P g o ρ (c (.map es ck)) K KP:=by
 have EP:(b,Obj.map es ck)∈c (.map es ck):=(QZ _ (.map es ck)).mem;obtain⟨i,hi,xl⟩:=cD hzd;refine dD.ofValue (s:=Instr.mapEntry t (.map (some b)) (ke k)) (by simp only[execOp,ho,hm',hk']) λw hw=>?_;have eY:=λb=>hc k b w;rcases h.CG hk k with⟨j,x,e0,g1,g2,g3,g4⟩|⟨g1,g2⟩
 ·have oe:=gm (P:=P) Cg abZ g4 w;have hj:=(xaP.1 g1).1;have hkey:es[j].key=ke k:=(h.key j _ _ (xbD hj) g2).1;have hmem:k∈m.map Prod.fst:=xam.2 ⟨_,xaz g2,rfl⟩;obtain⟨w',hs,hown⟩:=bP (P:=P) hw (es.modify j λe=>{e with key:=ke k}) ck (by rw[h.sameKey g2];exact QZ _ (.map es ck));refine⟨.tuple #[e0.val,.int .i64 (es[j].born:Int)],w',_,?_,hown,h1 es ck e0.val es[j].born (by rw[xae hmem];exact h) ⟨es[j],by simp,rfl⟩⟩;simp[Instr.mapEntry,run_underlying ht,aX hw EP,eY,oe,hj,Instr.keyThatStays,hkey,hb k,hs,goInt]
 have oe:=gm (P:=P) Cg abZ g2 w;obtain⟨w',hs,hown⟩:=bP (P:=P) hw (es.push {key:=ke k,val:=z,born:=ck}) (ck+1) (QZ _ _);have tQ:=h.more (k:=k) g1 hvz;have e2:c8 m k y0=m++[(k,y0)]:=by unfold c8;rw[xac g1]
 rw[e2]at tQ;refine⟨.tuple #[z,.int .i64 (ck:Int)],w',_,?_,hown,h1 _ _ z ck (by rw[xac g1];exact tQ) ⟨_,by rw[xep];exact xaa _ (.head _),rfl⟩⟩;simp[Instr.mapEntry,run_underlying ht,aX hw EP,eY,oe,dH hi xl,hs,goInt]
omit [DecidableEq κ] in
theorem aT.TT{o:Oper}{ρ:Operand->zV}{t:TypeId}{mo so xo:Operand}{st:Nat}(ho:o.op=.entryStore t mo so xo)(hm':ρ mo=.map (some b))(hs':ρ so=.int .i64 (st:Int))
 (h:aT ke vr es ck m)(hst:∃e∈es.toList,e.born=st)(hv:∀x,vr (ρ xo) x){c:Obj->Hp}(QZ:∀o o',cu b o o' (c o) (c o'))
 (h1:∀es',aT ke vr es' ck m->K undef (c (.map es' ck))):dD P g o ρ (c (.map es ck)) K KP:=by
 have EP:(b,Obj.map es ck)∈c (.map es ck):=(QZ _ (.map es ck)).mem;refine dD.rB (s:=Instr.entryStore t (.map (some b)) (.int .i64 (st:Int)) (ρ xo)) (by simp only[execOp,ho,hm',hs']) λw hw=>?_;obtain⟨i,hi⟩:∃i,es.findIdx? (λe=>(e.born:Int)==(st:Int))=some i:=by
  obtain⟨e,he,rfl⟩:=hst;rw[<-xdO,Array.findIdx?_isSome];rw[Array.any_eq_true'];exact⟨e,by simpa using he,by simp⟩
 obtain⟨w',hs,hown⟩:=bP (P:=P) hw (es.modify i λe=>{e with val:=ρ xo}) ck (QZ _ _);have ZO:((es.modify i λe=>{e with val:=ρ xo}).toList.map MapEntry.born)=es.toList.map MapEntry.born:=by
  apply xbm;intro j;simp only[xas,xbl,xbx];split
  ·cases es[j]? <;>rfl
  rfl
 refine⟨w',_,?_,hown,h1 _ ⟨by simp[h.len],λj e x he hx=>?_,h.nd,by rw[ZO];exact h.born,λe he=>?_⟩⟩
 ·simp only[Instr.entryStore,Sem.run_bind,aX hw EP,Result.andThen_ok,asInt,asIntOf,Sem.run_pure];simp only[hi,hs]
 ·rw[xbx]at he;split at he
  ·cases h0:es[j]? with
   |none=>rw[h0]at he;simp at he
   |some e0=>
    rw[h0]at he;simp only[xbj,xar]at he;subst he;exact⟨(h.key j _ _ h0 hx).1,hv _⟩
  exact h.key j _ _ he hx
 have:e.born∈(es.modify i λe=>{e with val:=ρ xo}).toList.map MapEntry.born:=xba he;rw[ZO]at this;obtain⟨e0,h1,h2⟩:=xam.1 this;rw[<-h2];exact h.lt e0 h1
end
theorem bB.out{C H:Hp}{c:Hp->Hp}(h:bB C H c)(N:Hp):aI (c (N++C)) (N++H):=by
 obtain⟨e,F,hp⟩:=h.spec;refine .perm ((hp (N++C)).trans ?_);rw[xai];refine xcn N ?_;have:=hp C;rw[<-e]at this;exact this.symm
end Go.Sx
set_option maxRecDepth 100000
namespace Go.Proofs
open Go Go.Sx Tryz
section
open aE
section
variable {kp:Nat} {K:Kd} {ord ah tr:zL} {C:Hp} {S:Nat->aE.Fn}
def AO(N:eA)(r:Nat):Int:=match N r with|some d=>(d.v:Int)|none=> -1
theorem Cr{N:eA}{r:Nat}(hl:live N r)(h2:∀d,N r=some d->2<=r):∃lo hi,got N r=[iv (AO N r),u32 lo,u32 hi]/\∀e,N r=some e->lo=e.lo/\hi=e.hi:=by
 cases h:N r with
 |some d=>
  refine⟨d.lo,d.hi,?_,λe he=>by cases he;exact⟨rfl,rfl⟩⟩;rw[gy h (h2 d h)];simp[bJ,AO,h]
 |none=>
  have hr:r<2:=by
   rcases hl with hl|⟨d,hd⟩
   ·exact hl
   rw[h]at hd;cases hd
  refine⟨r,r,?_,λe he=>by cases he⟩;rw[gQ hr];simp[AO,h]
theorem Bz(h:cS kp K ord ah tr C){r:Nat}(hr:r<4294967296)(hl:live K.N r)(h2:∀d,K.N r=some d->2<=r)(y:Nat):
  Rd zQ 229 #[ptr kp,u32 r,iv (y:Int)] C (· =.tuple #[u32 (pl K.N y r),u32 (ph K.N y r)]):=by
 have h0:=h;obtain⟨b,rfl,hO⟩:=h;obtain⟨lo,hi,hg,he⟩:=Cr hl h2;refine aK λg=>GJ (Nil.ptr (ag.mk (aa.eq (m6 h0 hr) ?_)));intro b5 _;refine St.whole (r:=got K.N r) (by exact .head _) rfl (bL _ _).1 (bL _ _).2 ?_;rw[hg];refine Ld.f ?_;refine ae.jM (Br.dec (λe=>?_) (λe=>?_))
 ·refine Ld.f ?_;refine Ld.f ?_;cases hN:K.N r with
  |none=>simp[AO,hN]at e<;>omega
  |some d=>
   obtain⟨rfl,rfl⟩:=he d hN;have hv:d.v=y:=by simp[AO,hN]at e;omega
   obtain⟨e1,e2⟩:=Ud hN hv;exact bE.mk .tail (by rw[e1,e2];rfl)
 obtain⟨e1,e2⟩:=Ue (N:=K.N) (y:=y) (r:=r) λd hd=>by simp[AO,hd]at e<;>omega
 exact bE.mk .tail (by rw[e1,e2])
def kP(c:Cx):List zV:=[u32 c.r,iv (c.d.v:Int),u32 c.d.lo,u32 c.d.hi,u32 c.xz,u32 c.xy,u32 c.s8,u32 c.s7]
theorem kH(c:Cx):∀x∈kP c,x.oneCell'=true:=by intro x hx;simp[kP,u32]at hx;rcases hx with rfl|rfl|rfl|rfl|rfl|rfl|rfl|rfl<;>rfl
structure xD(N:eA)(x y:Nat)(l:zL)(all:List Cx):Prop where
 nd:(all.map Cx.r).Nodup
 mem:∀c,c∈all↔c.r∈l/\l6 N x y c.r c.d/\c=nt N y c.r c.d
theorem xD.skip{N:eA}{x y r:Nat}{l:zL}{all:List Cx}{d:Nd}(h:xD N x y l all)(hd:N r=some d)(hn:¬l6 N x y r d):xD N x y (l++[r]) all where
 nd:=h.nd
 mem:=λc=>by
  rw[h.mem,xao];constructor
  ·rintro⟨h1,h2⟩;exact⟨.inl h1,h2⟩
  rintro⟨h1|h1,h2,h3⟩
  ·exact⟨h1,h2,h3⟩
  simp at h1;have:=h2.1;rw[h1,hd]at this;cases this;rw[h1]at h2;exact absurd h2 hn
theorem xD.more{N:eA}{x y r:Nat}{l:zL}{all:List Cx}{d:Nd}(h:xD N x y l all)(hr:r∉l)(hn:l6 N x y r d):xD N x y (l++[r]) (all++[nt N y r d]) where
 nd:=by
  rw[xaF];refine xa7.2 ⟨h.nd,by simp,λa ha b hb e=>?_⟩;simp[nt]at hb;subst e;obtain⟨c,hc,rfl⟩:=xam.1 ha;exact hr (hb▸((h.mem c).1 hc).1)
 mem:=λc=>by
  rw[xao,h.mem,xao,xaK,xaK];constructor
  ·rintro(⟨h1,h2⟩|rfl)
   ·exact⟨.inl h1,h2⟩
   exact⟨.inr rfl,hn,rfl⟩
  rintro⟨h1|h1,h2,h3⟩
  ·exact .inl ⟨h1,h2,h3⟩
  right;have h4:=h2.1;rw[h1,hn.1]at h4;cases h4;exact h3.trans (by rw[h1])
theorem xD.all{N:eA}{x y:Nat}{l:zL}{all:List Cx}(h:xD N x y l all)(hl:∀r d,N r=some d->d.v=x->r∈l):Kh N x y all where
 nd:=h.nd
 mem:=λc=>by
  rw[h.mem];exact⟨λh=>h.2,λh=>⟨hl _ _ h.1.1 h.1.2.1,h⟩⟩
theorem zz(h:cS kp K ord ah tr C){r:Nat}(hl:live K.N r)(h2:∀d,K.N r=some d->2<=r){H:Hp}{c:Hp->Hp}(hh:bB C H c){g:Gh}{Q:zV->Hp->Prop}{KP:List PanicEntry->Hp->Prop}
 (hk:∀lo hi,got K.N r=[iv (AO K.N r),u32 lo,u32 hi]->(∀e,K.N r=some e->lo=e.lo/\hi=e.hi)->Q (.agg #[iv (AO K.N r),u32 lo,u32 hi]) H):aa zQ g 166 #[ptr kp,u32 r] H Q KP:=by
 have hr:=h.lt hl;obtain⟨lo,hi,hg,he⟩:=Cr hl h2;refine aa.eh hh (m6 h zO) ?_;have:=hk lo hi hg he;rw[hg];exact this
theorem Au(h:cS kp K ord ah tr C)(hok:Ok K S (lv ah)){x y:Nat}(hx:x<K.n):
  Fc zQ 186 #[ptr kp,iv (x:Int),iv (y:Int)] C (λr H=>∃all Na,H=Na++C/\aO 272 8 r (all.map kP) Na/\Kh K.N x y all/\all.length<=1048576):=by
 have hcap:=h.cap;have h0:=h;obtain⟨b,hC,hO⟩:=h;have US:∀d r,K.T d=some r↔K.N r=some d:=λd r=>by rw[hok.mid.jD];exact⟨λh=>h.1,λh=>⟨h,λx=>x⟩⟩
 have two:∀{r d},K.N r=some d->2<=r:=λhd=>(hok.mid.two hd).1;refine aK λg=>Hh ?_;rw[hC];refine Nil.ptr (ag.mk (ag.mk (Ld.q ?_)));refine aa.fq (T6 hO.ut hx (λd d' r h1 h2=>by rw[US]at h1 h2;rw[h1]at h2;cases h2;rfl) (λd r h1=>by have:=(hok.mid.two ((US d r).1 h1)).2;omega)) ?_;rintro w H ⟨sl,l,Nr,rfl,rfl,Ca,gE,hmem⟩;refine Ext.two (Ca.bF ?_);rw[aq];have hl:∀r∈l,∃d,K.N r=some d/\d.v=x:=λr hr=>by obtain⟨d,h1,h2⟩:=(hmem r).1 hr;exact⟨d,(US d r).1 h1,h2⟩
 have hlen:l.length<=1048576:=by
  have:=bN (l':=List.range 1048576) gE λr hr=>by
   obtain⟨d,hd,_⟩:=hl r hr;have:=(hok.mid.two hd).2;exact xaJ.2 zO
  simpa using this
 refine⟨λvs H=>∃(v:zV) (i:Nat) (all:List Cx) (Na:Hp),vs=[v,iv (i:Int)]/\H=Na++(Nr++C)/\i<=l.length/\aO 272 8 v (all.map kP) Na/\xD K.N x y (l.take i) all/\all.length<=i,
  λvs _=>l.length-bj vs 1,JE.of (bB.out (C:=b.CT) (.cons (.app .left)) Nr) ⟨_,0,[],[],rfl,by rw[hC];rfl,xaA _,aO.nil _ _,⟨by simp,by simp⟩,xak _⟩,?_⟩
 rintro w w' H ⟨v,i,all,Na,hw,rfl,hi,ho,DM,hal⟩ gs;simp only[xay,xa5]at hw;obtain⟨rfl,rfl⟩:=hw;refine ae.cU (Br.dec (λhlt=>?_) (λhge=>?_));rotate_left
 ·have:i=l.length:=by omega
  subst this;rw[xbc]at DM;refine aQ.mk (gW:=Na++C) ?_ ⟨all,Na,by rw[hC],ho,DM.all λr d hd hv=>(hmem r).2 ⟨d,(US d r).2 hd,hv⟩,by omega⟩;exact aI.cT .right Na
 obtain⟨r,DJ⟩:∃r,l[i]? =some r:=⟨_,xab hlt⟩;have kR:l.take (i+1)=l.take i++[r]:=by rw[xbn,DJ];rfl
 have ZE:r∉l.take i:=λhm=>by
  have:(l.take (i+1)).Nodup:=gE.sublist (xdX _ _);rw[kR]at this;exact(xa7.1 this).2.2 r hm r zI rfl
 obtain⟨d,hd,vj⟩:=hl r (xaz DJ);have YA:=hok.mid.lo hd;have YB:=hok.mid.hi hd;intro Zm E0;have next:∀v' SF Na',aO 272 8 v' (SF.map kP) Na'->xD K.N x y (l.take (i+1)) SF->SF.length<=i+1->Zm [v'] (Na'++(Nr++C)):=λv' SF Na' h1 h2 h3=>
  E0 _ _ λgs=>ae.inc (az.mk ⟨v',i+1,SF,Na',rfl,rfl,by omega,h1,h2,h3⟩ (by simp[bj];omega))
 refine Ca.ld (x:=(r:Int)) (cI DJ) (λy hy=>xaa _ (xad _ hy)) (Nil.ptr (ag.mk (zz h0 (.inr ⟨d,hd⟩) (λ_ h=>two h) (.app (.app .here)) λlo hi hg he=>?_)));obtain⟨rfl,rfl⟩:=he d hd;have hvr:AO K.N r=(x:Int):=by simp[AO,hd,vj]
 rw[hvr];intro b28 _;refine St.p (by intro z hz;simp[u32]at hz;rcases hz with rfl|rfl|rfl<;>rfl) ?_;obtain⟨H0,Vn⟩:∃H0,H0=(b28,Obj.cells #[iv (x:Int),u32 d.lo,u32 d.hi] 201 zZ)::(Na++(Nr++C)):=⟨_,rfl⟩;have hEq:((b28,Obj.cells [Value.int .i64 (x:Int),u32 d.lo,u32 d.hi].toArray 201 zZ)::(Na++(Nr++C)))=H0:=Vn.symm;rw[hEq];intro J31 Rj;have skip:¬l6 K.N x y r d->J31 [.bool true] H0:=λhn=>Rj _ _ λgs=>Br.yes (JE.of (by rw[Vn];exact .tail) (next w all Na ho (by rw[kR];exact DM.skip hd hn) zO));have take:l6 K.N x y r d->J31 [.bool false] H0:=λhn=>by
  refine Rj _ _ λgs=>Br.no ?_;rw[Vn];refine au.q ?_;refine Build.mk (cs:=kP ⟨r,⟨x,d.lo,d.hi⟩,0,0,0,0⟩) zK λb37 _=>?_;refine St.p (kH _) ?_;refine Ld.f ?_;refine aa.eq (Bz h0 (by have:=h0.lt YA;omega) YA (λ_ h=>two h) y) (Ext.two (ag.mk (St.one (by exact .head _) rfl (by simp[kP]) rfl ?_)));refine ag.mk (St.one (by exact .head _) rfl (by simp[kP]) rfl ?_);refine Ld.f ?_;refine aa.eq (Bz h0 (by have:=h0.lt YB;omega) YB (λ_ h=>two h) y) (Ext.two (ag.mk (St.one (by exact .head _) rfl (by simp[kP]) rfl ?_)));refine ag.mk (St.one (by exact .head _) rfl (by simp[kP]) rfl ?_);have dN:d=⟨x,d.lo,d.hi⟩:=by cases d;simp at vj;subst vj;rfl
  have hcell:kP (nt K.N y r d)=[u32 r,iv (x:Int),u32 d.lo,u32 d.hi,u32 (pl K.N y d.lo),u32 (ph K.N y d.lo),u32 (pl K.N y d.hi),u32 (ph K.N y d.hi)]:=by
   simp[kP,nt,vj]
  refine au.whole (r:=kP (nt K.N y r d)) (by rw[hcell];exact .head _) rfl ?_;refine ak.one (e:=272) (z:=.agg #[.int .u32 0,iv 0,.int .u32 0,.int .u32 0,.int .u32 0,.int .u32 0,.int .u32 0,.int .u32 0]) (k:=8) (r:=kP (nt K.N y r d)) zK zK zK zD rfl λxb=>?_;refine ho.mD (.cons (.cons (.cons .left))) (by exact .head _) rfl (kH _) ⟨_,rfl,rfl⟩ zP zP λv' Na' cB=>?_;refine JE.of (.skip (.skip .tail)) (next v' (all++[nt K.N y r d]) Na' (by rw[xaF];exact cB) (by rw[kR];exact DM.more ZE hn) zP)
 refine DR.of (R:=[(b28,Obj.cells #[iv (x:Int),u32 d.lo,u32 d.hi] 201 zZ)]) (by rw[Vn];exact .left (A:=[_])) (Nil.ptr (ag.mk (Ld.f ?_)));have heR:aI H0 [(b28,Obj.cells #[iv (x:Int),u32 d.lo,u32 d.hi] 201 zZ)]:=by rw[Vn];exact .left (A:=[_])
 intro F;rw[Vn];refine zz h0 YA (λ_ h=>two h) (.cons (.app (.app .here))) λlo1 hi1 hg1 Vb=>?_;rw[<-Vn];refine⟨heR,A1.mk rfl (ae.fX (Br.dec (λhne=>?_) (λhe=>?_)))⟩
 ·refine Nil.ptr (ag.mk (Ld.f ?_));intro F2;rw[Vn];refine zz h0 YB (λ_ h=>two h) (.cons (.app (.app .here))) λlo2 Jm WU WW=>?_;rw[<-Vn];refine⟨heR,A1.mk rfl (ae.fX (aS.mk ?_))⟩;by_cases e2:AO K.N d.hi=(y:Int)
  ·rw[xaq (by simpa using e2)];refine JE.mk (take ⟨hd,vj,.inr ?_⟩);cases hN:K.N d.hi with
   |none=>simp[AO,hN]at e2<;>omega
   |some f=>exact⟨f,rfl,by simp[AO,hN]at e2;omega⟩
  ·rw[xav (by simpa using e2)];refine JE.mk (skip ?_);rintro⟨_,_,⟨f,hf,Va⟩|⟨f,hf,Va⟩⟩
   ·exact hne (by simp[AO,hf,Va])
   exact e2 (by simp[AO,hf,Va])
 have e1:AO K.N d.lo=(y:Int):=by simpa using he
 refine JE.mk (take ⟨hd,vj,.inl ?_⟩);cases hN:K.N d.lo with
 |none=>simp[AO,hN]at e1<;>omega
 |some f=>exact⟨f,rfl,by simp[AO,hN]at e1;omega⟩
end
end
section
open aE
section
def zOf:zV->Int
 | .int _ z=>z
 |_=>0
abbrev vrZ(v:zV)(z:Int):Prop:=v=iv z
def wh(es:Array MapEntry)(ck:Nat)(ks:List Nd):Prop:=∃m:List (Nd×Int),aT nK vrZ es ck m/\m.map Prod.fst=ks
theorem wh.empty:wh #[] 0 []:=⟨[],aT.empty,rfl⟩
theorem wh.of{es:Array MapEntry}{ck:Nat}{m:List (Nd×Int)}(h:aT nK (λv _=>∃z,v=iv z) es ck m):wh es ck (m.map Prod.fst):=by
 have hlen:es.toList.length=m.length:=by simpa using h.len
 have hz:((es.toList.zip m).map λp=>((p.2.1,zOf p.1.val):Nd×Int)).map Prod.fst=m.map Prod.fst:=by
  rw[xbL];have:(Prod.fst∘λ(p:MapEntry×(Nd×Int))=>((p.2.1,zOf p.1.val):Nd×Int))=Prod.fst∘Prod.snd:=rfl;rw[this,<-xbL,List.map_snd_zip zO]
 refine⟨_,⟨?_,λi e x he hx=>?_,by rw[hz];exact h.nd,h.born,h.lt⟩,hz⟩
 ·simp[h.len]
 have hi:=(xaP.1 he).1;have Jm:i<m.length:=by rw[<-h.len];exact hi
 have hm:m[i]? =some m[i]:=xab Jm;obtain⟨h1,z,h2⟩:=h.key i e _ he hm;have hx':x=(m[i].1,zOf e.val):=by
  have e1:es.toList[i]? =some e:=by rw[xbl];exact he
  rw[xas,(List.getElem?_zip_eq_some (z:=(e,m[i]))).2 ⟨e1,hm⟩]at hx;simpa using hx.symm
 subst hx';exact⟨h1,by rw[h2];rfl⟩
theorem Own.sub{g:Gh}{H:Hp}{w:World}(h:Own g H w){y:Nat×Obj}(hy:y∈H):Own g [y] w:=by
 obtain⟨X,Y,rfl⟩:=xc1 hy;exact(h.perm xaT).left (A:=[y])
noncomputable abbrev FF:Func:=Tryz.f188
theorem six{i:Nat}(hi:i<6):¬PX .any (oa FF 10) i 6:=λh=>by
 have e6:(oa FF 10)[6]? =some (bO FF 10 6):=by kernel_rfl
 have:=h _ e6;have hm:(⟨i,.phase⟩:Edge)∈(bO FF 10 6).after:=by
  have ea:(bO FF 10 6).after=#[⟨0,.data⟩,⟨5,.data⟩,⟨3,.data⟩,⟨4,.chain⟩,⟨0,.phase⟩,⟨1,.phase⟩,⟨2,.phase⟩,⟨3,.phase⟩,⟨4,.phase⟩,⟨5,.phase⟩]:=by kernel_rfl
  rw[ea];rcases i with _|_|_|_|_|_|i;all_goals first|omega|simp
 exact this _ hm rfl rfl
end
section
def JI(ops:Array Oper)(listed:Array Bool):Bool:=(List.range ops.size).all λj=>match ops[j]? with
 |some oj=> !listed.getD j true||oj.after.toList.all λe=> !Region.binds .any e||listed.getD e.on true
 |none=>true
theorem gB{ops:Array Oper}{listed:Array Bool}(h:JI ops listed=true):eS .any ops listed:=by
 intro j oj hj hl e he hb;unfold JI at h;have h1:=xcr.1 h j (xaJ.2 (xaP.1 hj).1);simp only[hj,hl,xdb,xd3]at h1;have h2:=xcr.1 h1 e (xdd.2 he);rw[hb]at h2;simpa using h2
theorem UL{g:Gh}{mb nb:Nat}{es:Array MapEntry}{ck:Nat}{ks:List Nd}{d:Nd}(hmk:wh es ck ks){c:Obj->Hp}(QZ:∀o o',cu mb o o' (c o) (c o'))(hcn:∀o,(nb,Obj.cells (bJ d).toArray 201 zZ)∈c o){K:Hp->Prop}
 (hk:∀es' cE,wh es' cE (if d∈ks then ks else ks++[d])->K (c (.map es' cE))):
  Zf zQ g 10 (oa FF 10) [7,11] [.map (some mb),ptr nb] (c (.map es ck)) K:=by
 have hm:(mb,Obj.map es ck)∈c (.map es ck):=(QZ _ (.map es ck)).mem;have hn:=hcn (.map es ck);obtain⟨m,hE,rfl⟩:=hmk;intro a w hok hvs hw;simp only[xaM,xcJ,xay,xa5]at hvs;obtain⟨h7,h11⟩:=hvs;obtain⟨n,hnn⟩:∃n,n=a.tmps.size:=⟨_,rfl⟩;obtain⟨fr,hfr⟩:∃fr:Fr,fr=λs=>a.tmps.getD s undef:=⟨_,rfl⟩;have ha:bS a.defers n a fr:=⟨rfl,hnn.symm,λs=>by rw[hfr]⟩;have f7:fr 7=.map (some mb):=by rw[hfr];exact h7
 have f11:fr 11=ptr nb:=by rw[hfr];exact h11
 rw[<-hnn]at hok;have eok:iu n (oa FF 10).toList=(Nat.blt 58 n&& (Nat.blt 59 n&& (Nat.blt 60 n&& (Nat.blt 61 n&& (Nat.blt 62 n&& (Nat.blt 63 n&& (true&&true))))))):=by kernel_rfl
 rw[eok]at hok;simp only[xaB,xd2]at hok;obtain⟨k58,k59,k60,k61,k62,k63⟩:=hok;refine wp_region_any zK ?_;obtain⟨z0,S6⟩:∃z0:Int,z0=(bU m d).getD 0:=⟨_,rfl⟩;obtain⟨S0,ZS⟩:∃S0:World->Prop,S0=λw=>Own g [(nb,Obj.cells (bJ d).toArray 201 zZ)] w/\(Instr.lookup 311 (.map (some mb)) (nK d) false).run zQ w=.ok (iv z0) w:=⟨_,rfl⟩;have look:∀{es':Array MapEntry} {cE:Nat} {m':List (Nd×Int)} {H':Hp} {w':World},aT nK vrZ es' cE m'->(mb,Obj.map es' cE)∈H'->Own g H' w'->(bU m' d).getD 0=z0->(Instr.lookup 311 (.map (some mb)) (nK d) false).run zQ w'=.ok (iv z0) w':=by
  intro es' cE m' H' w' h1 h2 h3 h4;have hL:jQ zQ 201 (iv 0) false H' (.map (some mb)) (nK d) (· =iv z0):=by
   cases hg:bU m' d with
   |some z=>exact aT.LR (ke:=nK) (k:=d) qe lq h1 h2 hg (by rintro v rfl;rw[hg]at h4;simp at h4;rw[h4];rfl)
   |none=>exact aT.xZ (ke:=nK) (k:=d) qe lq h1 h2 hg (by rw[hg]at h4;simp at h4;rw[<-h4];rfl)
  obtain⟨v,hr,rfl⟩:=hL.run (P:=zQ) h3 (t:=311) (kt:=201) (e:=3) (kd:=.struct (Tryz.prog.fieldsOf 201)) (i:=(Tryz.prog.info? 3).get zK) zK I9 rfl zK zK;exact hr
 have Oh:=hw.yN;have s0:S0 {w with drawn:=w.drawn+1}:=by rw[ZS];exact⟨Own.sub Oh hn,look hE hm Oh S6.symm⟩
 have hQp:∀{o:Oper} {v:zV} (c:List PanicEntry) (a':Act) (w':World),(λ(e:Exit) (a':Act) (w':World)=>e=.normal/\a'.defers=a.defers/\a'.tmps.size=a.tmps.size/\(∀s,aY (oa FF 10).toList s=false->a'.tmps.getD s undef=a.tmps.getD s undef)/\∃H',Own g H' w'/\K H') (.panic c) (a'.put o.dst v) w'->
   (λ(e:Exit) (a':Act) (w':World)=>e=.normal/\a'.defers=a.defers/\a'.tmps.size=a.tmps.size/\(∀s,aY (oa FF 10).toList s=false->a'.tmps.getD s undef=a.tmps.getD s undef)/\∃H',Own g H' w'/\K H') (.panic c) a' w':=by
  rintro _ _ _ _ _ ⟨h,_⟩;cases h
 have hsel:Region.noSelect (oa FF 10)=true:=by kernel_rfl
 have hkeep:∀i,i<6->∀(j:Nat) (oj:Oper) (w w':World),(oa FF 10)[j]? =some oj->j≠i->¬nH .any (oa FF 10) i j->S0 w->(j≠6->S0 w->S0 w')->S0 w':=λi hi j oj w w' _ _ hno h0 hs=>by
  by_cases e:j=6
  ·subst e;exact absurd (λoj iE e he hb heq=>hno (.one iE he hb heq)) (six hi)
  exact hs e h0
 refine cV.any (S:=λj w w'=>j≠6->S0 w->S0 w') ?_;have hsz:(oa FF 10).size=7:=by kernel_rfl
 rw[hsz];refine cV.take (gB zK) (S0:=S0) (i:=0) (oi:=bO FF 10 0) (v:=.map (some mb)) zK hsel zK zK hQp (λ_ h _ _=>h) (hkeep 0 zD) (.inl ⟨rfl,λw hw=>?_⟩) s0 ?_
 ·rw[ha.eval];have:(execOp (ev fr) (bO FF 10 0))=pure (.value (fr 7)):=rfl
  rw[this,f7];rfl
 have EY:=ha.put (d:=some 58) k58 (.map (some mb));change cV _ _ _ _ _ 6 _ (a.put (some 58) (.map (some mb))) _;refine cV.take (gB zK) (S0:=S0) (i:=1) (oi:=bO FF 10 1) (v:=nK d) zK hsel zK zK hQp (λ_ h _ _=>h) (hkeep 1 zD) (.inl ⟨rfl,λw hw=>?_⟩) s0 ?_
 ·rw[EY.eval];have e:DH zQ g (bO FF 10 1) (ev (bV fr (some 58) (.map (some mb)))) [(nb,Obj.cells (bJ d).toArray 201 zZ)] (λv=>v=nK d)=au 3 [(nb,Obj.cells (bJ d).toArray 201 zZ)] (fr 11) (λv=>v=nK d):=by kernel_rfl
  obtain⟨v,rfl,hr,_⟩:=nT (e.mpr (by rw[f11];exact au.q rfl));rw[ZS]at hw;exact hr _ hw.1
 have AW:=EY.put (d:=some 59) k59 (nK d);change cV _ _ _ _ _ 5 _ ((a.put (some 58) (.map (some mb))).put (some 59) (nK d)) _;refine cV.take (gB zK) (S0:=S0) (i:=2) (oi:=bO FF 10 2) (v:=iv z0) zK hsel zK zK hQp (λ_ h _ _=>h) (hkeep 2 zD) (.inl ⟨rfl,λw hw=>?_⟩) s0 ?_
 ·rw[AW.eval];have e:execOp (ev (bV (bV fr (some 58) (.map (some mb))) (some 59) (nK d))) (bO FF 10 2)=(do pure (.value (<-Instr.lookup 311 (.map (some mb)) (nK d) false))):=rfl;rw[ZS]at hw;rw[e];simp only[Sem.run_bind,hw.2,Result.andThen_ok,Sem.run_pure]
 have LZ:=AW.put (d:=some 60) k60 (iv z0);change cV _ _ _ _ _ 4 _ (((a.put (some 58) (.map (some mb))).put (some 59) (nK d)).put (some 60) (iv z0)) _;refine cV.take (gB zK) (S0:=S0) (i:=3) (oi:=bO FF 10 3) (v:=iv (IntKind.i64.wrap (z0+1))) zK hsel zK zK hQp (λ_ h _ _=>h) (hkeep 3 zD) (.inl ⟨rfl,λw hw=>?_⟩) s0 ?_
 ·rw[LZ.eval];have e:DH zQ g (bO FF 10 3) (ev (bV (bV (bV fr (some 58) (.map (some mb))) (some 59) (nK d)) (some 60) (iv z0))) [(nb,Obj.cells (bJ d).toArray 201 zZ)] (λv=>v=iv (IntKind.i64.wrap (z0+1)))=ae .num .add (iv z0) (iv 1) (λv=>v=iv (IntKind.i64.wrap (z0+1))):=by kernel_rfl
  obtain⟨v,rfl,hr,_⟩:=nT (e.mpr (ae.add rfl));rw[ZS]at hw;exact hr _ hw.1
 have Vi:=LZ.put (d:=some 61) k61 (iv (IntKind.i64.wrap (z0+1)));change cV _ _ _ _ _ 3 _ ((((a.put (some 58) (.map (some mb))).put (some 59) (nK d)).put (some 60) (iv z0)).put (some 61) (iv (IntKind.i64.wrap (z0+1)))) _;generalize (((a.put (some 58) (.map (some mb))).put (some 59) (nK d)).put (some 60) (iv z0)).put (some 61) (iv (IntKind.i64.wrap (z0+1)))=a4 at Vi;refine cV.all (rs:=[4]) zK zI λi hi=>?_;simp only[xaK]at hi;subst hi;have e4:(oa FF 10)[4]? =some (bO FF 10 4):=by kernel_rfl
 unfold wpOp;rw[e4];simp only;rw[xae (show Region.wanted (bO FF 10 4) (yielded (oa FF 10) a4.tmps)=true from rfl)];refine .inl ?_;show(bO FF 10 4).upon zQ a4 _ _ ((execOp a4.eval (bO FF 10 4)).run zQ _);rw[Vi.eval];refine nO.upon (g:=g) (KP:=λ_ _=>False) (aT.VD (K:=λv H'=>∃es' cE v0 st,aT nK vrZ es' cE (if d∈m.map Prod.fst then m else m++[(d,0)])/\(∃e∈es'.toList,e.born=st)/\H'=c (.map es' cE)/\v=.tuple #[v0,iv (st:Int)])
  (t:=311) (kt:=201) (e:=3) (z:=iv 0) (k:=d) (y0:=(0:Int)) qe lq Jb (o:=bO FF 10 4) (mo:=.tmp 58) (ko:=.tmp 59) rfl rfl rfl zK I9 rfl zK rfl hE QZ
  (λes' cE v st h1 h2=>⟨es',cE,v,st,h1,h2,rfl,rfl⟩) _ Oh) ?_ (λ_ _ _ _ h=>h.elim)
 rintro v H1 w1 kQ ⟨n4,mB,v0,st,W9,hst,rfl,rfl⟩;have DK:(nb,Obj.cells (bJ d).toArray 201 zZ)∈c (.map n4 mB):=hcn _;have AT:(mb,Obj.map n4 mB)∈c (.map n4 mB):=(QZ _ (.map n4 mB)).mem;have s1:S0 w1:=by
  rw[ZS];refine⟨Own.sub kQ DK,look W9 AT kQ ?_⟩;rw[S6];split
  ·rfl
  rename_i dN;have e1:=gN.2 dN;have e2:bU (m++[(d,0)]) d=some 0:=(fk (by
   have:=W9.nd;rw[xac dN]at this;exact this)).2 zI
  rw[e1,e2];rfl
 refine⟨λ_ _=>s1,?_⟩;have Vh:=Vi.put (d:=some 62) k62 (.tuple #[v0,iv (st:Int)]);change cV _ _ _ _ _ 2 _ (a4.put (some 62) (.tuple #[v0,iv (st:Int)])) _;generalize a4.put (some 62) (.tuple #[v0,iv (st:Int)])=a5 at Vh;refine cV.take (gB zK) (S0:=S0) (i:=5) (oi:=bO FF 10 5) (v:=iv (st:Int)) zK hsel zK zK hQp (λ_ h _ _=>h) (hkeep 5 zD) (.inl ⟨rfl,λw hw=>?_⟩) s1 ?_
 ·rw[Vh.eval];obtain⟨v,rfl,hr,_⟩:=nT (P:=zQ) (g:=g) (o:=bO FF 10 5) (H:=[(nb,Obj.cells (bJ d).toArray 201 zZ)]) (k:=λv=>v=iv (st:Int))
   (ρ:=ev (bV (bV (bV (bV (bV fr (some 58) (.map (some mb))) (some 59) (nK d)) (some 60) (iv z0)) (some 61) (iv (IntKind.i64.wrap (z0+1)))) (some 62) (.tuple #[v0,iv (st:Int)]))) ⟨_,_,rfl,rfl,rfl⟩
  rw[ZS]at hw;exact hr _ hw.1
 have Vg:=Vh.put (d:=some 63) k63 (iv (st:Int));change cV _ _ _ _ _ 1 _ (a5.put (some 63) (iv (st:Int))) _;generalize a5.put (some 63) (iv (st:Int))=a6 at Vg;refine cV.all (rs:=[6]) zK zI λi hi=>?_;simp only[xaK]at hi;subst hi;have e6:(oa FF 10)[6]? =some (bO FF 10 6):=by kernel_rfl
 unfold wpOp;rw[e6];simp only;rw[xae (show Region.wanted (bO FF 10 6) (yielded (oa FF 10) a6.tmps)=true from rfl)];refine .inl ?_;show(bO FF 10 6).upon zQ a6 _ _ ((execOp a6.eval (bO FF 10 6)).run zQ _);rw[Vg.eval];refine nO.upon (g:=g) (KP:=λ_ _=>False) (aT.TT (vr:=λv _=>∃z:Int,v=iv z) (K:=λ_ H'=>∃es',aT nK (λv _=>∃z:Int,v=iv z) es' mB (if d∈m.map Prod.fst then m else m++[(d,0)])/\H'=c (.map es' mB))
  (o:=bO FF 10 6) (t:=311) (mo:=.tmp 58) (so:=.tmp 63) (xo:=.tmp 61) rfl rfl rfl (W9.mono λv z h=>⟨z,h⟩) hst (λ_=>⟨_,rfl⟩) QZ
  (λes' h1=>⟨es',h1,rfl⟩) _ kQ) ?_ (λ_ _ _ _ h=>h.elim)
 rintro v H2 w2 xh ⟨l5,vp,rfl⟩;refine⟨λh=>absurd rfl h,?_⟩;have ZR:bS a.defers n a6 _:=Vg;change cV _ _ _ _ _ 0 _ a6 _;refine cV.done zK ⟨rfl,ZR.defers,by rw[ZR.size,hnn],λs hs=>?_,_,xh,hk l5 mB ?_⟩ 0
 ·have eD:aY (oa FF 10).toList s=(Nat.beq s 58||(Nat.beq s 59||(Nat.beq s 60||(Nat.beq s 61||(Nat.beq s 62||(Nat.beq s 63||(false||false))))))):=by kernel_rfl
  rw[eD]at hs;simp only[xaO]at hs;rw[ZR.get];simp only[bV,hs,xaj];rw[hfr]
 have:=wh.of vp;have e:(if d∈m.map Prod.fst then m else m++[(d,(0:Int))]).map Prod.fst=if d∈m.map Prod.fst then m.map Prod.fst else m.map Prod.fst++[d]:=by
  split<;>simp
 rw[e]at this;exact this
end
section
variable {kp:Nat} {K:Kd} {ord ah tr:zL} {C:Hp} {S:Nat->aE.Fn}
theorem Sd{H:Hp}(a b:Nd){K:zV->Hp->Prop}(h:∀x,K (.slice (some ⟨x,0,none⟩) 2 2) ((x,.cells (rows [bJ a,bJ b]) 201 zZ)::H)):
  ak zQ 293 2 [(0,nK a),(1,nK b)] H K:=by
 refine⟨rows [bJ a,bJ b],201,3,.agg #[iv 0,.int .u32 0,.int .u32 0],by kernel_rfl,by kernel_rfl,by kernel_rfl,by decide,?_,λx _=>h x⟩;have e1:Array.range (2*3)=#[0,1,2,3,4,5]:=rfl;simp[Instr.fill,Value.cells,nK,bJ,e1,rows,u32]
def gT(K:Kd)(x:Nat)(l:List Cx)(ks:List Nd)(m:List Nd):Prop:=m.Nodup/\∀k,k∈m↔((∃c∈l,k∈keys x c)\/k∈ks)/\K.T k=none/\k.lo≠k.hi
theorem gT.step{x:Nat}{l:List Cx}{ks m:List Nd}{d:Nd}(h:gT K x l ks m)(hd:K.T d=none/\d.lo≠d.hi):gT K x l (ks++[d]) (if d∈m then m else m++[d]):=by
 obtain⟨h1,h2⟩:=h;constructor
 ·split
  ·exact h1
  rename_i hn;exact xa7.2 ⟨h1,by simp,λa ha b hb e=>by simp at hb;subst hb;subst e;exact hn ha⟩
 intro k;by_cases hm:d∈m
 ·rw[xae hm,h2,xao,xaK];constructor
  ·rintro⟨h3|h3,h4⟩
   ·exact⟨.inl h3,h4⟩
   exact⟨.inr (.inl h3),h4⟩
  rintro⟨h3|h3|rfl,h4⟩
  ·exact⟨.inl h3,h4⟩
  ·exact⟨.inr h3,h4⟩
  exact(h2 _).1 hm
 rw[xac hm,xao,xaK,h2,xao,xaK];constructor
 ·rintro(⟨h3|h3,h4⟩|rfl)
  ·exact⟨.inl h3,h4⟩
  ·exact⟨.inr (.inl h3),h4⟩
  exact⟨.inr (.inr rfl),hd⟩
 rintro⟨h3|h3|rfl,h4⟩
 ·exact .inl ⟨.inl h3,h4⟩
 ·exact .inl ⟨.inr h3,h4⟩
 exact .inr rfl
theorem gT.skip{x:Nat}{l:List Cx}{ks m:List Nd}{d:Nd}(h:gT K x l ks m)(hd:¬(K.T d=none/\d.lo≠d.hi)):gT K x l (ks++[d]) m:=by
 obtain⟨h1,h2⟩:=h;refine⟨h1,λk=>?_⟩;rw[h2,xao,xaK];constructor
 ·rintro⟨h3|h3,h4⟩
  ·exact⟨.inl h3,h4⟩
  exact⟨.inr (.inl h3),h4⟩
 rintro⟨h3|h3|rfl,h4⟩
 ·exact⟨.inl h3,h4⟩
 ·exact⟨.inr h3,h4⟩
 exact absurd h4 hd
theorem gT.zj{x:Nat}{l:List Cx}{c:Cx}{m:List Nd}(h:gT K x l (keys x c) m):gT K x (l++[c]) [] m:=by
 obtain⟨h1,h2⟩:=h;refine⟨h1,λk=>?_⟩;rw[h2];constructor
 ·rintro⟨⟨c',hc,hk⟩|h3,h4⟩
  ·exact⟨.inl ⟨c',xad _ hc,hk⟩,h4⟩
  exact⟨.inl ⟨c,by simp,h3⟩,h4⟩
 rintro⟨⟨c',hc,hk⟩|h3,h4⟩
 ·rcases xao.1 hc with hc|hc
  ·exact⟨.inl ⟨c',hc,hk⟩,h4⟩
  simp at hc;subst hc;exact⟨.inr hk,h4⟩
 cases h3
theorem Rx(h:cS kp K ord ah tr C){x:Nat}(hx:x<K.n){v:zV}{all:List Cx}{Na:Hp}(ha:aO 272 8 v (all.map kP) Na)(hlen:all.length<=1048576):
  Rd zQ 188 #[ptr kp,iv (x:Int),v] (Na++C) (λr=>∃made,r=iv ((made.length:Nat):Int)/\Made K x all made):=by
 have h0:=h;obtain⟨b,hC,hO⟩:=h;refine aK λg=>Hf λmb _=>?_;refine ha.bF ?_;rw[xau];refine⟨λvs H=>∃(i:Nat) (es:Array MapEntry) (ck:Nat) (m:List Nd),vs=[iv (i:Int)]/\H=(mb,.map es ck)::(Na++C)/\i<=all.length/\wh es ck m/\gT K x (all.take i) [] m,
  λvs _=>all.length-bj vs 0,JE.mk ⟨0,_,_,[],rfl,rfl,xaA _,wh.empty,by simp,by simp⟩,?_⟩
 rintro w H ⟨i,es,ck,m,hw,rfl,hi,hmk,U1⟩ gs;simp only[xay,xa5]at hw;subst hw;refine ae.cU (Br.dec (λhlt=>?_) (λhge=>?_));rotate_left
 ·have:i=all.length:=by omega
  subst this;rw[xbc]at U1;obtain⟨m',he,rfl⟩:=hmk;refine aT.Qd he (.head _) ?_;refine bE.mk .tail ⟨m'.map Prod.fst,by rw[xau],U1.1,λk=>?_⟩;rw[U1.2];constructor
  ·rintro⟨h3|h3,h4⟩
   ·exact⟨h3,h4⟩
   cases h3
  rintro⟨h3,h4⟩;exact⟨.inl h3,h4⟩
 obtain⟨c,oF⟩:∃c,all[i]? =some c:=⟨_,xab hlt⟩;have kR:all.take (i+1)=all.take i++[c]:=by rw[xbn,oF];rfl
 refine ha.oB (r:=kP c) (by rw[xas,oF];rfl) (λy hy=>.tail _ (xad _ hy)) ?_;intro Tk _;refine St.p (kH _) ?_;refine Ld.f ?_;refine Ld.f ?_;refine Build.mk (cs:=bJ ⟨x,c.xz,c.s8⟩) zK (Ld.f ?_);refine Ld.f ?_;refine Build.mk (cs:=bJ ⟨x,c.xy,c.s7⟩) zK (Sd _ _ λxb=>?_);refine aG.mk ?_;refine⟨λvs H=>∃(j:Nat) (es:Array MapEntry) (ck:Nat) (m:List Nd),vs=[iv (j:Int)]/\H=(xb,.cells (rows [bJ ⟨x,c.xz,c.s8⟩,bJ ⟨x,c.xy,c.s7⟩]) 201 zZ)::(mb,.map es ck)::(Na++C)/\j<=2/\wh es ck m/\gT K x (all.take i) ((keys x c).take j) m,
  λvs _=>2-bj vs 0,JE.of (.cons .tail) ⟨0,es,ck,m,rfl,rfl,xaA _,hmk,U1⟩,?_⟩
 clear hmk U1;rintro w H ⟨j,es,ck,m,hw,rfl,hj,hmk,U1⟩ gs;simp only[xay,xa5]at hw;subst hw;refine ae.cU (b:=2) (Br.dec (λrL=>?_) (λhge=>?_));rotate_left
 ·have:j=2:=by omega
  subst this;refine ae.inc (az.of .tail ⟨i+1,es,ck,m,rfl,rfl,by omega,hmk,?_⟩ (by simp[bj];omega));rw[kR];exact gT.zj U1
 obtain⟨d,EW,vj⟩:∃d,(keys x c)[j]? =some d/\d.v=x:=by
  rcases j with _|_|j
  ·exact⟨_,rfl,rfl⟩
  ·exact⟨_,rfl,rfl⟩
  omega
 have htj:(keys x c).take (j+1)=(keys x c).take j++[d]:=by rw[xbn,EW];rfl
 have hrow:[bJ ⟨x,c.xz,c.s8⟩,bJ ⟨x,c.xy,c.s7⟩][j]? =some (bJ d):=by
  have:[bJ ⟨x,c.xz,c.s8⟩,bJ ⟨x,c.xy,c.s7⟩]=(keys x c).map bJ:=rfl;rw[this,xas,EW];rfl
 intro J34 afL;have next:∀es' cE m' H',wh es' cE m'->gT K x (all.take i) ((keys x c).take (j+1)) m'->aI H' ((xb,.cells (rows [bJ ⟨x,c.xz,c.s8⟩,bJ ⟨x,c.xy,c.s7⟩]) 201 zZ)::(mb,.map es' cE)::(Na++C))->JE J34 [] H':=λes' cE m' H' h1 h2 h3=>
  JE.mk (afL _ λgs=>ae.inc (az.of h3 ⟨j+1,es',cE,m',rfl,rfl,by omega,h1,h2⟩ (by simp[bj];omega)))
 refine ai.nat rL ?_;have hmem:(xb,Obj.cells (rows [bJ ⟨x,c.xz,c.s8⟩,bJ ⟨x,c.xy,c.s7⟩]) 201 zZ)∈(xb,Obj.cells (rows [bJ ⟨x,c.xz,c.s8⟩,bJ ⟨x,c.xy,c.s7⟩]) 201 zZ)::(mb,.map es ck)::(Na++C):=.head _;refine au.row (k:=3) hmem (by simp[bJ]) hrow ?_;intro b40 _;refine St.p (λz hz=>by simp[bJ,u32]at hz;rcases hz with rfl|rfl|rfl<;>rfl) ?_;refine DR.self ?_;rw[hC];refine Nil.ptr (ag.mk (Ld.f ?_));refine au.q ?_;refine aa.eq (tT (d:=d) hO.ut (by rw[vj];exact hx)) (⟨.refl _,Ext.mk rfl (Ext.mk rfl (Un.not ?_))⟩);have WG:(!(K.T d).isSome)=decide (K.T d=none):=by cases K.T d<;>simp
 rw[WG];refine cr.and (decide (d.lo≠d.hi)) (λ_=>?_) rfl λgs=>?_
 ·refine Ld.f ?_;refine Ld.f ?_;exact ae.mF ⟨rfl,rfl⟩
 rw[<-xdJ];rw[<-hC];refine Br.dec (λhd=>?_) (λhd=>?_)
 ·refine UL hmk (c:=λo=>(b40,.cells (bJ d).toArray 201 zZ)::(xb,.cells (rows [bJ ⟨x,c.xz,c.s8⟩,bJ ⟨x,c.xy,c.s7⟩]) 201 zZ)::(mb,o)::(Na++C)) (λo o'=>.tail (.tail (.head _))) (λo=>.head _) λes' cE h1 gs=>?_;exact next es' cE _ _ h1 (by rw[htj];exact U1.step hd) .tail
 exact next es ck m _ hmk (by rw[htj];exact U1.skip hd) .tail
end
def jE(l:List Cx):Nat->Nat:=λs=>(l.map λc=>e1 (some c.d) s).sum
theorem nS(c:Cx)(l:List Cx)(s:Nat):jE (c::l) s=e1 (some c.d) s+jE l s:=by simp[jE]
theorem Lb(c:Cx)(l:List Cx)(s:Nat):jE (l++[c]) s=jE l s+e1 (some c.d) s:=by simp[jE]
theorem acC(d:Nd)(s:Nat):e1 (some d) s<=2:=by rw[dW];split<;>split<;>omega
theorem zx(s:Nat):∀l:List Cx,jE l s<=2*l.length
 | []=>xak _
 |c::l=>by rw[nS,xal];have:=zx s l;have:=acC c.d s;omega
theorem By{s:Nat}:∀{l:List Cx},0<jE l s->∃c∈l,c.d.lo=s\/c.d.hi=s
 | [],h=>by simp[jE]at h
 |c::l,h=>by
  rw[nS]at h;by_cases h0:0<e1 (some c.d) s
  ·refine⟨c,by simp,?_⟩;rw[dW]at h0;by_cases h1:c.d.lo=s
   ·exact .inl h1
   by_cases h2:c.d.hi=s
   ·exact .inr h2
   simp[h1,h2]at h0
  obtain⟨c',hc,h1⟩:=By (s:=s) (l:=l) zO;exact⟨c',by simp[hc],h1⟩
theorem I4{s:Nat}{c:Cx}(hs:c.d.lo=s\/c.d.hi=s):∀{l:List Cx},c∈l->0<jE l s
 |c'::l,h=>by
  rw[nS];rcases xag.1 h with rfl|h
  ·rw[dW];rcases hs with hs|hs
   ·rw[xae hs];omega
   rw[xae hs];omega
  have:=I4 hs h;omega
def Idle(K:Kd):Prop:=∀s,K.N s=none->K.use s=0
theorem ue{K:Kd}{S:Nat->aE.Fn}{E:Nat->Prop}{P:Nat->Nat}(hm:jw K S E P)(hi:Idle K){M:Nat}(hP:∀s,P s<=M)(s:Nat):K.use s<=2097153+M:=by
 cases h:K.N s with
 |none=>rw[hi s h];omega
 |some d=>
  rw[hm.use h];have:=CK (N:=K.N) (r:=s) K.cap;have:=hm.cap.2;have:=hP s;split<;>omega
section
variable {kp:Nat} {K K0:Kd} {ord ah tr:zL} {C:Hp} {S S0:Nat->aE.Fn} {qX:Nat->Nat} {x y l:Nat} {all done rest:List Cx} {made:List Nd} {P:Nat->Nat}
theorem Rp(b:TB K0 S0 qX x y l all made)(h:cS kp K ord ah tr C)(ht:TI K0 S0 qX x y l made K S done rest P)(hd:∀c∈done,c∈all)(hr:∀c∈rest,c∈all){c:Cx}(hc:c∈all){k:Nd}(hk:k∈keys x c)
 (Ox:PL P K.N)(QO:Idle K)(hP:∀s,P s<=4194304):
  Fc zQ 189 #[ptr kp,iv (k.v:Int),u32 k.lo,u32 k.hi] C (λv C'=>∃r K' S',v=u32 r/\cS kp K' ord ah tr C'/\TI K0 S0 qX x y l made K' S' done rest P/\xC K0 K' qX x l r/\
   ((k.lo=k.hi/\r=k.lo)\/K'.N r=some k)/\PL P K'.N/\Idle K'/\(∀s d,K.N s=some d->K'.N s=some d)/\(∀s d,K'.N s=some d->s=r\/(K.N s=some d/\K.use s<=K'.use s))):=by
 have LO:K.n<=64:=by obtain⟨_,_,hO⟩:=h;exact hO.rC
 have lR:=b.Uw hc;have hkv:k.v=x/\td K0 qX l k.lo/\td K0 qX l k.hi:=by
  simp only[keys,xag,xaw,xa1]at hk;rcases hk with rfl|rfl
  ·exact⟨rfl,lR.1.1,lR.1.2⟩
  exact⟨rfl,lR.2.1,lR.2.2⟩
 have yC:=ht.qi b hd hkv.2.1;have oE:=ht.qi b hd hkv.2.2;have hxn:k.v<K.n:=by rw[hkv.1,ht.n];exact b.nb.xn
 by_cases he:k.lo=k.hi
 ·refine Fc.mono (by rw[<-he];exact Vp C _ k.lo _) ?_;rintro v C' ⟨rfl,rfl⟩;exact⟨k.lo,K,S,rfl,h,ht,.inl hkv.2.1,.inl ⟨he,rfl⟩,Ox,QO,λ_ _ h=>h,λs d h=>.inr ⟨h,xak _⟩⟩
 cases hT:K.T k with
 |some r=>
  obtain⟨h1,h2⟩:=ht.found b hc hk hT;refine Fc.mono (Vr h he hxn hT) ?_;rintro v C' ⟨rfl,rfl⟩;exact⟨r,K,S,rfl,h,ht,h2,.inr h1,Ox,QO,λ_ _ h=>h,λs d h=>.inr ⟨h,xak _⟩⟩
 |none=>
  have hfit:∀{t:Nat},live K.N t->t<2\/t<K.us.length:=λht'=>by
   rcases ht' with ht'|⟨d,dN⟩
   ·exact .inl ht'
   exact .inr (ht.mid.fit dN)
  have hkm:=ht.Qp b hd hr hc hk he hkv.2.1 hkv.2.2 hT;refine Fc.mono (Vq h (d:=k) he ⟨by omega,yC,oE⟩ hxn hT (ht.fits b hkm hT) (hfit yC) (hfit oE) (λs=>by have:=ue ht.mid QO hP s;omega)) ?_;rintro v C' ⟨r,dm,cB,rfl,hN,h2,hrc,hlen,hru,Qu,u0,u1,u2,o0,o1,jX⟩;have hPr:P r=0:=by
   apply xdI;intro hne;obtain⟨d,dN⟩:=Ox r h2 zO;rw[hN]at dN;cases dN
  obtain⟨g1,g2⟩:=ht.lay b hd hr hc hk he hT hN ⟨h2,hrc⟩ hlen ⟨hru,Qu⟩ u0 u1 o0 o1 hPr;have WD:∀s d,K.N s=some d->up K.N r (some k) s=some d:=λs d hs=>by
   rw[aP (λe=>by rw[e,hN]at hs;cases hs)];exact hs
  refine⟨r,_,_,rfl,jX,g1,g2,.inr aN,λt Te h0=>?_,λs hs=>?_,WD,λs d hs=>?_⟩
  ·obtain⟨d,dN⟩:=Ox t Te h0;exact⟨d,WD t d dN⟩
  ·have hs':up K.N r (some k) s=none:=hs;have hne:s≠r:=λe=>by subst e;rw[aN]at hs';cases hs'
   rw[aP hne]at hs';show dm.getD s 0=0;by_cases Z3:2<=s
   ·rw[u1 s Z3 hne,QO s hs',dW];have a1:k.lo≠s:=λe=>by
     rcases yC with h5|⟨d,h5⟩
     ·omega
     rw[e,hs']at h5;cases h5
    have a2:k.hi≠s:=λe=>by
     rcases oE with h5|⟨d,h5⟩
     ·omega
     rw[e,hs']at h5;cases h5
    simp[a1,a2]
   rw[u2 s zO,QO s hs']
  have hs':up K.N r (some k) s=some d:=hs;by_cases e:s=r
  ·exact .inl e
  rw[aP e]at hs';refine .inr ⟨hs',?_⟩;show K.use s<=dm.getD s 0;rw[u1 s (ht.mid.two hs').1 e];omega
theorem OJ(h:cS kp K ord ah tr C)(ht:TI K0 S0 qX x y l made K S done rest P)(Ox:PL P K.N)(QO:Idle K)(hP:∀s,P s<=4194304){r:Nat}(hr:live K.N r):
  Fc zQ 190 #[ptr kp,u32 r] C (λv C'=>∃K',v=.tuple #[]/\cS kp K' ord ah tr C'/\TI K0 S0 qX x y l made K' S done rest (λs=>P s+if s=r then 1 else 0)/\PL (λs=>P s+if s=r then 1 else 0) K'.N/\Idle K'/\
   K'.N=K.N/\(∀s,K.use s<=K'.use s)/\(2<=r->0<K'.use r)):=by
 have hfit:r<2\/r<K.us.length:=by
  rcases hr with hr|⟨d,hd⟩
  ·exact .inl hr
  exact .inr (ht.mid.fit hd)
 refine Fc.mono (DZ h hfit (by have:=ue ht.mid QO hP r;omega)) ?_;rintro v C' ⟨rfl,jX⟩;by_cases h2:2<=r
 ·have hrd:∃d,K.N r=some d:=by
   rcases hr with hr|hr
   ·omega
   exact hr
  have hlt:r<K.us.length:=by omega
  refine⟨_,rfl,jX,(ht.use (iH r) (mJ h2 hlt) (λs hs=>uf hs)).congr (λs _=>?_),λt Te h0=>?_,λs hs=>?_,rfl,λs=>?_,λ_=>?_⟩
  ·unfold up;split
   ·rename_i e;subst e;rfl
   rfl
  ·by_cases e:t=r
   ·subst e;exact hrd
   simp[e]at h0;exact Ox t Te h0
  ·show(sr K r).getD s 0=0;have hne:s≠r:=λe=>by
    obtain⟨d,hd⟩:=hrd;have hs':K.N s=none:=hs;rw[e,hd]at hs';cases hs'
   rw[uf hne];exact QO s hs
  ·show K.use s<=(sr K r).getD s 0;by_cases e:s=r
   ·subst e;rw[mJ h2 hlt];omega
   rw[uf e];exact xak _
  show 0<(sr K r).getD r 0;rw[mJ h2 hlt];omega
 have e:sr K r=K.us:=by unfold sr;rw[xae zO]
 have eK:({K with us:=sr K r}:Kd)=K:=by rw[e]
 rw[eK]at jX;refine⟨K,rfl,jX,ht.congr (λs hs=>?_),λt Te h0=>?_,QO,rfl,λ_=>xak _,λh=>absurd h h2⟩
 ·rw[xac zO];rfl
 have h0':0<P t+if t=r then 1 else 0:=h0
 rw[xac zO]at h0';exact Ox t Te h0'
theorem xC.mono{K K':Kd}(h:xC K0 K qX x l y)(hm:∀s d,K.N s=some d->K'.N s=some d):xC K0 K' qX x l y:=by
 rcases h with h|⟨e,h1,h2⟩
 ·exact .inl h
 exact .inr ⟨e,hm _ _ h1,h2⟩
end
section
variable {kp:Nat} {K:Kd} {ord ah tr:zL} {C:Hp} {S:Nat->aE.Fn}
structure Kept(K:Kd)(S:Nat->aE.Fn)(K':Kd)(S':Nat->aE.Fn):Prop where
 n:K'.n=K.n
 cap:K'.cap=K.cap
 hold:∀r,K'.hold r=K.hold r
 held:∀g,K'.held S' g↔K.held S g
 fn:∀r,K.hold r≠0->S' r=S r
theorem X1{x y l:Nat}(hne:x≠y)(hx:x<ah.length)(hy:y<ah.length):lv ((ah.set x (l+1)).set y l)=th (lv ah) x y l:=by
 funext v
 show((ah.set x (l+1)).set y l).getD v 0=_;rw[ig (by simpa using hy),ig hx];unfold th;by_cases e:v=y
 ·rw[xae e,xac (by rw[e];exact xbp hne),xae e]
 rw[xac e,xac e]
theorem PM(c:Cx)(rest:List Cx):jE (c::rest)=gR (gR (jE rest) [c.d.hi]) [c.d.lo]:=by
 funext s
 rw[nS,dW];unfold gR;simp only[xcR,xdT,xcY];omega
theorem qh{x:Nat}{all:List Cx}{made:List Nd}(h:Made K x all made):made.length<=2*all.length:=by
 have h1:=bN (l':=all.flatMap (keys x)) h.nd λk hk=>by
  obtain⟨⟨c,hc,hk'⟩,_⟩:=(h.mem k).1 hk;exact List.mem_flatMap.2 ⟨c,hc,hk'⟩
 have h2:(all.flatMap (keys x)).length=2*all.length:=by
  clear h1 h;induction all with
  |nil=>rfl
  |cons c all ih=>rw[xeq,xaf,ih,xal];simp[keys];omega
 omega
theorem OQ{x y l:Nat}{K1:Kd}{S1:Nat->aE.Fn}{all:List Cx}{made:List Nd}(b:TB K S (lv ah) x y l all made)(h:TI K S (lv ah) x y l made K1 S1 all [] (jE all))(hnew:∀r d,K.N r=none->K1.N r=some d->0<K1.use r):Pos K1:=by
 intro r d hd;cases hN:K.N r with
 |none=>exact hnew r d hN hd
 |some d0=>
  rw[h.mid.use hd];rcases b.ok.reach r d0 hN with hh|⟨p,e,hp,Oj⟩
  ·have pQ:K1.hold r≠0:=by rw[h.hold];exact hh
   rw[xac pQ];omega
  by_cases hm:p∈all.map Cx.r
  ·obtain⟨c,hc,rfl⟩:=xam.1 hm;have hcd:=(b.nv hc).1;rw[hp]at hcd;cases hcd;have:=I4 (s:=r) Oj hc;omega
  have ve:=h.old hp hm;have:de K1.N r K1.cap≠0:=λhe=>by
   have:=jo he p (h.mid.two ve).2 e ve;rcases Oj with Oj|Oj
   ·exact this.1 Oj
   exact this.2 Oj
  omega
theorem II(h:cS kp K ord ah tr C)(hok:Ok K S (lv ah))(ho:Ord K.n (lv ah) ord)(QO:Idle K){l:Nat}(hl:l+1<K.n):
  Fc zQ 150 #[ptr kp,iv (l:Int)] C (λr C'=>
   (AP K.n ord l (K.held S)+2<=K.cap/\r=.bool true/\∃K' S' fI,cS kp K' (ff ord l) fI tr C'/\Ok K' S' (lv fI)/\Ord K'.n (lv fI) (ff ord l)/\Idle K'/\Kept K S K' S')\/
   (K.cap<AP K.n ord l (K.held S)+2/\r=.bool false/\C'=C)):=by
 have h0:=h;have hcap:=h.cap;obtain⟨b,hC,hO⟩:=h;have xk:=hO.ol;have LO:=hO.rC;have nb:=ho.nb hl;obtain⟨x,hx⟩:∃x,x=ord.getD l 0:=⟨_,rfl⟩;obtain⟨y,hy⟩:∃y,y=ord.getD (l+1) 0:=⟨_,rfl⟩;rw[<-hx,<-hy]at nb;refine aK λg=>HG ?_;have hmk:(kp,Obj.cells (b.cells K.n) 124 zZ)∈C:=by rw[hC];exact .head _
 have WE:∀z∈b.CO,z∈C:=by rw[hC];exact bB.sub (.cons (.app (.app (.app (.app .left)))))
 refine Ld.v hmk ?_;refine hO.od.ld (x:=(x:Int)) (by rw[hx];exact bW zO) WE (Ld.v hmk ?_);refine ae.inc (hO.od.ld (x:=(y:Int)) (by rw[hy];exact bW zO) WE (aa.fq (Au h0 hok nb.xn) ?_));rintro w H ⟨all,Na,rfl,aF,DM,hlen⟩;refine DR.self (Nil.ptr (ag.mk (aa.rq (Rx h0 nb.xn aF hlen) ?_)));rintro w ⟨made,rfl,QD⟩;have hml:=qh QD;have Jk:=hok.mid.cap;have aet:=hok.mid.room;refine aa.eq (BW h0 (m:=made.length) zO zO) ?_;have ajd:AP K.n ord l (K.held S)=K.used-2+made.length:=Xy (OR hok ho hl (by rw[<-hx,<-hy];exact DM) (by rw[<-hx];exact QD));apply Un.not;by_cases hroom:K.used+made.length<=K.cap;rotate_left
 ·rw[xaq hroom];exact Br.yes (aQ.mk .right (.inr ⟨by omega,rfl,rfl⟩))
 rw[xav hroom];apply Br.no;have tb:TB K S (lv ah) x y l all made:=⟨hok,nb,DM,QD,hroom⟩;have gE:=DM.nd;have hge:∀{i:Nat} {c:Cx},all[i]? =some c->c.r∉(all.take i).map Cx.r:=λ{i c} oF hm=>by
  have h1:(all.take (i+1)).map Cx.r=(all.take i).map Cx.r++[c.r]:=by rw[xbn,oF,xaF];rfl
  have h2:((all.take (i+1)).map Cx.r).Nodup:=gE.sublist ((xdX _ _).map _);rw[h1]at h2;exact(xa7.1 h2).2.2 _ hm _ zI rfl
 have kR:∀{i:Nat} {c:Cx},all[i]? =some c->all.take (i+1)=all.take i++[c]:=λoF=>by rw[xbn,oF];rfl
 have hdr:∀{i:Nat} {c:Cx},all[i]? =some c->all.drop i=c::all.drop (i+1):=λ{i c} oF=>by
  obtain⟨hi,e⟩:=xah.1 oF;rw[xaV hi,e]
 have Yq:∀{i:Nat},∀c∈all.take i,c∈all:=λc hc=>xci hc;have hmD:∀{i:Nat},∀c∈all.drop i,c∈all:=λc hc=>List.mem_of_mem_drop hc;refine aF.bF ?_;rw[xau];refine⟨λvs H=>∃(i:Nat) (T':Nd->Option Nat) (C1:Hp),vs=[iv (i:Int)]/\H=Na++C1/\i<=all.length/\cS kp {K with T:=T'} ord ah tr C1/\jw {K with T:=T'} S (λs=>∃c∈all.take i,s=c.r) zero'/\(∀d,T' d=none\/T' d=K.T d),
  λvs _=>all.length-bj vs 0,JE.mk ⟨0,K.T,C,rfl,rfl,xaA _,h0,hok.mid.congr (λs=>by simp[iD]) (λ_ _=>rfl),λ_=>.inr rfl⟩,?_⟩
 rintro w H ⟨i,T',C1,hw,rfl,hi,kE,L1,L0⟩ gs;simp only[xay,xa5]at hw;subst hw;refine ae.cU (Br.dec (λhlt=>?_) (λU9=>?_))
 ·obtain⟨c,oF⟩:∃c,all[i]? =some c:=⟨_,xab hlt⟩;have Jn:c∈all:=xaz oF;obtain⟨Ag,abM,hce⟩:=tb.nv Jn;refine aF.oB (r:=kP c) (by rw[xas,oF];rfl) (λz hz=>xad _ hz) ?_;intro Y9 _;refine St.p (kH _) ?_;obtain⟨b1,rfl,W8⟩:=kE;refine DR.self (Nil.ptr (ag.mk (Ld.f ?_)));refine ag.mk (au.mk (vs:=(bJ c.d).toArray) (.head _) (by simp[kP]) rfl ?_);have hTc:T' c.d=some c.r:=(L1.jD c.d c.r).2 ⟨Ag,by rintro⟨c',mH,e⟩;exact hge oF (e▸xba mH)⟩;refine aa.fq (xU (d:=c.d) W8.ut (hok.mid.var Ag) hTc) ?_;rintro v Zr ⟨rfl,Ye⟩;refine ae.inc (az.of .tail ⟨i+1,pO T' c.d none,_,rfl,rfl,by omega,⟨{b1 with CT:=Zr},rfl,{W8 with ut:=Ye}⟩,(L1.ae6 (r:=c.r) (d:=c.d) Ag ?_).congr (λs=>?_) (λ_ _=>rfl),λd=>?_⟩ (by simp[bj];omega))
  ·rintro⟨c',mH,e⟩;exact hge oF (e▸xba mH)
  ·rw[kR oF];constructor
   ·rintro(⟨c',mH,e⟩|e)
    ·exact⟨c',xad _ mH,e⟩
    exact⟨c,by simp,e⟩
   rintro⟨c',mH,e⟩;rcases xao.1 mH with mH|mH
   ·exact .inl ⟨c',mH,e⟩
   simp at mH;subst mH;exact .inr e
  unfold pO;split
  ·exact .inl rfl
  exact L0 d
 have hi':i=all.length:=by omega
 subst hi';rw[xbc]at L1;have hTI:=tb.start L1 L0;refine aF.bF ?_;rw[xau];refine⟨λvs H=>∃(i:Nat) (K1:Kd) (S1:Nat->aE.Fn) (C1:Hp),vs=[iv (i:Int)]/\H=Na++C1/\i<=all.length/\cS kp K1 ord ah tr C1/\TI K S (lv ah) x y l made K1 S1 (all.take i) (all.drop i) (jE (all.take i))/\
   PL (jE (all.take i)) K1.N/\Idle K1/\(∀r d,K.N r=none->K1.N r=some d->0<K1.use r),
  λvs _=>all.length-bj vs 0,JE.mk ⟨0,_,S,C1,rfl,rfl,xaA _,kE,hTI,λt _ h=>by simp[jE]at h,QO,λr d h1 h2=>by rw[h1]at h2;cases h2⟩,?_⟩
 clear hTI L1 L0 kE T' C1 U9 hi;rintro w H ⟨i,K1,S1,C1,hw,rfl,hi,kE,L0,Vl,QN,WL⟩ gs;simp only[xay,xa5]at hw;subst hw;refine ae.cU (Br.dec (λhlt=>?_) (λU9=>?_))
 ·obtain⟨c,oF⟩:∃c,all[i]? =some c:=⟨_,xab hlt⟩;have Jn:c∈all:=xaz oF;obtain⟨Ag,abM,hce⟩:=tb.nv Jn;rw[hdr oF]at L0;have gK:∀c'∈c::all.drop (i+1),c'∈all:=by rw[<-hdr oF];exact hmD
  have hPb:∀s,jE (all.take i) s<=2097152:=λs=>by have:=zx s (all.take i);rw[xbs]at this;omega
  refine aF.oB (r:=kP c) (by rw[xas,oF];rfl) (λz hz=>xad _ hz) ?_;intro b53 _;refine St.p (kH _) ?_;refine DR.self (Nil.ptr (ag.mk (Ld.f ?_)));refine Ld.f ?_;refine aa.fq (Rp tb kE L0 Yq gK Jn (k:=⟨x,c.xz,c.s8⟩) (by simp[keys]) Vl QN (λs=>by have:=hPb s;omega)) ?_;rintro w C2 ⟨t0,K2,S2,rfl,gH,hT2,aaU,g0,Vk,ET,agN,aeh⟩;refine Nil.ptr (ag.mk (aa.fq (OJ gH hT2 Vk ET (λs=>by have:=hPb s;omega) (hT2.qn tb Yq aaU)) ?_));rintro w C3 ⟨K3,rfl,wO,hT3,YK,ae9,hN3,aev,abj⟩;have ab6:∀s,(jE (all.take i) s+if s=t0 then 1 else 0)<=2097153:=λs=>by have:=hPb s;split<;>omega
  refine DR.self (Nil.ptr (ag.mk (Ld.f ?_)));refine Ld.f ?_;refine aa.fq (Rp tb wO hT3 Yq gK Jn (k:=⟨x,c.xy,c.s7⟩) (by simp[keys]) YK ae9 (λs=>by have:=ab6 s;omega)) ?_;rintro w C4 ⟨t1,K4,S4,rfl,hK4,hT4,aaT,g1,YJ,ae8,Wn,aeg⟩;refine Nil.ptr (ag.mk (aa.fq (OJ hK4 hT4 YJ ae8 (λs=>by have:=ab6 s;omega) (hT4.qn tb Yq aaT)) ?_));rintro w C5 ⟨K5,rfl,ZW,hT5,akl,ae7,hN5,aeu,abi⟩;have Wu:xC K K5 (lv ah) x l t0:=xC.mono aaU (λs d hs=>by rw[hN5];exact Wn s d (by rw[hN3];exact hs));have Ws:xC K K5 (lv ah) x l t1:=xC.mono aaT (λs d hs=>by rw[hN5];exact hs);have g0':(c.xz=c.s8/\t0=c.xz)\/K5.N t0=some ⟨x,c.xz,c.s8⟩:=by
   rcases g0 with g0|g0
   ·exact .inl g0
   exact .inr (by rw[hN5];exact Wn _ _ (by rw[hN3];exact g0))
  have g1':(c.xy=c.s7/\t1=c.xy)\/K5.N t1=some ⟨x,c.xy,c.s7⟩:=by
   rcases g1 with g1|g1
   ·exact .inl g1
   exact .inr (by rw[hN5];exact g1)
  have aeQ:((all.take i++c::all.drop (i+1)).map Cx.r).Nodup:=by rw[<-hdr oF,xbr];exact gE
  obtain⟨hTn,hT6⟩:=hT5.zj tb Yq gK aeQ Wu Ws g0' g1' (P':=jE (all.take (i+1))) (λs _=>by
   rw[kR oF,Lb,dW ⟨y,t0,t1⟩];have e1':(if t0=s then 1 else 0)=(if s=t0 then 1 else 0:Nat):=by split<;>split<;>first|rfl|(exfalso;omega)
   have e2':(if t1=s then 1 else 0)=(if s=t1 then 1 else 0:Nat):=by split<;>split<;>first|rfl|(exfalso;omega)
   simp only[e1',e2'];omega)
  have QE:∀{t:Nat},xC K K5 (lv ah) x l t->live K5.N t:=λhk=>hT5.qn tb Yq hk;have YC:∃e,K5.N c.r=some e:=hT5.kept Ag;refine Build.mk (cs:=bJ ⟨y,t0,t1⟩) zK λb83 _=>?_;refine St.p (λz hz=>by simp[bJ,u32]at hz;rcases hz with rfl|rfl|rfl<;>rfl) ?_;obtain⟨b5,rfl,hO5⟩:=ZW;refine DR.self (Nil.ptr (ag.mk (Ld.f ?_)));refine Ld.f ?_;refine au.q ?_;have Yc:y<K5.n:=by rw[hT5.n];exact nb.yn
  refine aa.fq (VT (d:=⟨y,t0,t1⟩) hO5.ar ⟨by show y<64;have:=hO5.rC;omega,QE Wu,QE Ws⟩ YC (tb.ok.mid.two Ag).1) ?_;rintro w CA' ⟨rfl,har⟩;refine DR.self (Nil.ptr (ag.mk (Ld.f ?_)));refine au.q ?_;refine Ld.f ?_;refine aa.fq (IF (d:=⟨y,t0,t1⟩) (r:=c.r) hO5.ut Yc hTn) ?_;rintro w Zr ⟨rfl,Ye⟩;refine ae.inc (az.of (.skip .tail) ⟨i+1,{K5 with N:=up K5.N c.r (some ⟨y,t0,t1⟩),T:=pO K5.T ⟨y,t0,t1⟩ (some c.r)},S4,_,rfl,rfl,by omega,⟨{b5 with CA:=CA',CT:=Zr},rfl,{hO5 with ar:=har,ut:=Ye}⟩,by rw[kR oF]at hT6⊢;exact hT6,λt Te hp=>?_,λs hs=>?_,λr d Yj hrd=>?_⟩ (by simp[bj];omega))
  ·obtain⟨c',mH,lT⟩:=By hp;have afp:=Yq c' mH;have Q2:=(tb.nv afp).1;have hlv:live K.N t:=by
    rcases lT with rfl|rfl
    ·exact tb.ok.mid.lo Q2
    exact tb.ok.mid.hi Q2
   rcases hlv with hlv|⟨d,hd⟩
   ·omega
   exact hT6.kept hd
  ·have hs':up K5.N c.r (some ⟨y,t0,t1⟩) s=none:=hs;have hne:s≠c.r:=λe=>by subst e;rw[aN]at hs';cases hs'
   rw[aP hne]at hs';exact ae7 s hs'
  have Yi:up K5.N c.r (some ⟨y,t0,t1⟩) r=some d:=hrd;have hne:r≠c.r:=λe=>by rw[e,Ag]at Yj;cases Yj
  rw[aP hne,hN5]at Yi;have Tf:2<=r:=(hT4.mid.two Yi).1;show 0<K5.use r;rcases aeg r d Yi with e|⟨h3,hu3⟩
  ·rw[e]at Tf⊢;exact abi Tf
  rw[hN3]at h3;have h5:=aeu r;rcases aeh r d h3 with e|⟨h1,S8⟩
  ·rw[e]at Tf⊢h5 hu3;have:=abj Tf;omega
  have:=WL r d Yj h1;have:=aev r;omega
 have hi':i=all.length:=by omega
 subst hi';rw[xbc,xcj]at L0;rw[xbc]at Vl;have ve:=OQ tb L0 WL;refine aF.bF ?_;rw[xau];refine⟨λvs H=>∃(i:Nat) (K2:Kd) (C2:Hp),vs=[iv (i:Int)]/\H=Na++C2/\i<=all.length/\cS kp K2 ord ah tr C2/\jw K2 S1 iD (jE (all.drop i))/\Pos K2/\PL (jE (all.drop i)) K2.N/\xB K2 K1,
  λvs _=>all.length-bj vs 0,JE.mk ⟨0,K1,C1,rfl,rfl,xaA _,kE,L0.mid.congr (λs=>by simp[iD]) (λ_ _=>rfl),ve,Vl,.refl K1⟩,?_⟩
 clear kE Vl hi U9 C1;rintro w H ⟨i,K2,C2,hw,rfl,hi,gH,Oy,kD,Vk,fV⟩ gs;simp only[xay,xa5]at hw;subst hw;refine ae.cU (Br.dec (λhlt=>?_) (λU9=>?_))
 ·obtain⟨c,oF⟩:∃c,all[i]? =some c:=⟨_,xab hlt⟩;have Jn:c∈all:=xaz oF;obtain⟨Ag,abM,hce⟩:=tb.nv Jn;have hPb:∀s,jE (all.drop i) s<=2097152:=λs=>by have:=zx s (all.drop i);rw[xb5]at this;omega
  have hlo:=h0.lt (hok.mid.lo Ag);have hhi:=h0.lt (hok.mid.hi Ag);refine aF.oB (r:=kP c) (by rw[xas,oF];rfl) (λz hz=>xad _ hz) ?_;intro alc _;refine St.p (kH _) ?_;refine DR.self (Nil.ptr (ag.mk (ag.mk (Ld.f ?_))));have ET:Idle K2:=fV.idle QN;have hub:∀s,K2.use s<2147483648:=λs=>by have:=ue Oy ET hPb s;omega
  rw[hdr oF,PM]at Oy Vk;refine aa.fq (pg gH Oy kD Vk hlo hub) ?_;rintro w C3 ⟨rfl,K3,wO,ZT,WK,YK,QG⟩;refine DR.self (Nil.ptr (ag.mk (ag.mk (Ld.f ?_))));refine aa.fq (pg wO ZT WK YK hhi (λs=>xaL (QG.us s) (hub s))) ?_;rintro w C4 ⟨rfl,K4,hK4,hM4,ZF,YJ,Yr⟩;exact ae.inc (az.of .tail ⟨i+1,K4,C4,rfl,rfl,by omega,hK4,hM4,ZF,YJ,Yr.trans (QG.trans fV)⟩ (by simp[bj];omega))
 have hi':i=all.length:=by omega
 subst hi';rw[xcj]at Oy;have ET:Idle K2:=fV.idle QN;obtain⟨f1,f2,f3⟩:=L0.fin tb (K':=K2) (Oy.congr (λ_=>xc8) (λ_ _=>rfl)) kD (λh=>fV.N h) fV.n (λr=>by show K2.ho.getD r 0=K1.ho.getD r 0;rw[fV.ho]);have QC:K2.n=K.n:=by rw[fV.n,L0.n]
 obtain⟨b2,rfl,hO2⟩:=gH;refine DR.self (Ld.n ?_);refine Ld.n ?_;refine ae.inc (hO2.od.mT (x:=(y:Int)) (.app (.cons (.app (.app (.app (.app .left)))))) (by rw[aq];omega) λCO1 LL=>?_);refine LL.mT (x:=(x:Int)) (.app (.cons (.app (.app (.app (.app .left)))))) (by rw[xbZ,aq];omega) λCO2 Cd=>?_;refine DR.self (Ld.n ?_);refine Ld.n ?_;refine ae.inc ?_;have jF:=hO2.ol.2;have hxn:=nb.xn;have Yc:=nb.yn;refine hO2.lv.mT (x:=((l+1:Nat):Int)) (.app (.cons (.app (.app (.app (.app (.app .left))))))) (by rw[aq];omega) λCL1 yC=>?_;refine yC.mT (x:=(l:Int)) (.app (.cons (.app (.app (.app (.app (.app .left))))))) (by rw[xbZ,aq];omega) λCL2 oE=>?_;rw[gx,gx]at Cd oE;have yx:(ord.set l y).set (l+1) x=ff ord l:=by rw[hx,hy];rfl
 rw[yx]at Cd;have hlv:lv ((ah.set x (l+1)).set y l)=th (lv ah) x y l:=X1 nb.ne zO zO;refine aQ.mk .right (.inl ⟨by omega,rfl,K2,S1,_,⟨{b2 with CO:=CO2,CL:=CL2},rfl,{hO2 with od:=Cd,lv:=oE,ol:=?_}⟩,by rw[hlv];exact f1,by rw[hlv,QC,hx,hy];exact TQ ho hl,ET,QC,by rw[fV.cap,L0.cap],λr=>?_,f2,f3⟩)
 ·rw[k6];simp;exact hO2.ol
 show K2.ho.getD r 0=K.hold r;rw[fV.ho];exact L0.hold r
end
structure cZ(kp:Nat)(K:Kd)(S:Nat->aE.Fn)(ord ah tr:zL)(C:Hp):Prop where
 rep:cS kp K ord ah tr C
 ok:Ok K S (lv ah)
 od:Ord K.n (lv ah) ord
 idle:Idle K
 tr:xA K.n K.cap (K.held S) ord tr.reverse
theorem Kept.refl(K:Kd)(S:Nat->aE.Fn):Kept K S K S:=⟨rfl,rfl,λ_=>rfl,λ_=>xc8,λ_ _=>rfl⟩
theorem Kept.trans{K K' K2:Kd}{S S' S2:Nat->aE.Fn}(h:Kept K S K' S')(h':Kept K' S' K2 S2):Kept K S K2 S2:=
 ⟨h'.n.trans h.n,h'.cap.trans h.cap,λr=>(h'.hold r).trans (h.hold r),λg=>(h'.held g).trans (h.held g),λr hr=>(h'.fn r (by rw[h.hold];exact hr)).trans (h.fn r hr)⟩
section
variable {kp:Nat} {K:Kd} {ord ah tr:zL} {C:Hp} {S:Nat->aE.Fn}
theorem JC(h:cZ kp K S ord ah tr C){l:Nat}(hl:l+1<K.n)(ei:tr.length<17592186044416):Fc zQ 115 #[ptr kp,iv (l:Int)] C (λr C'=>
   (AP K.n ord l (K.held S)+2<=K.cap/\r=iv 0/\∃K' S' fI,cZ kp K' S' (ff ord l) fI (tr++[l]) C'/\Kept K S K' S')\/
   (K.cap<AP K.n ord l (K.held S)+2/\r=iv 9/\C'=C)):=by
 have h0:=h;obtain⟨b,hC,hO⟩:=h.rep;have hn:=hO.rC;refine aK λg=>Ij (ae.aJ (Br.no (ae.lss (cr.or (decide ((K.n:Int) -2<l)) (λ_=>?_) zI λgs=>?_))))
 ·refine Ld.v (by rw[hC];exact .head _) ?_;exact ae.sB (c:=(K.n:Int) -2) rfl zO (ae.gtr ⟨rfl,rfl⟩)
 rw[<-xbb];refine Br.F (aa.fq (II h.rep h.ok h.od h.idle hl) ?_);rintro w C' (⟨hfit,rfl,K',S',fI,jX,EN,Yn,Ae,qt⟩|⟨hno,rfl,rfl⟩)
 ·refine Un.not (Br.no ?_);obtain⟨b',rfl,Ak⟩:=jX;refine Ld.n ?_;refine ak.int (e:=3) zK zK zK λbx=>?_;refine Ak.tr.mD (.cons (.cons (.app (.app (.app (.app (.app (.app .here)))))))) (by exact .head _) (by rw[aq];omega) (by rw[aq];omega) λv' CR' cB=>?_;refine Nil.ptr (ag.mk (St.one (by exact .tail (.head _)) cB.one (by simp[wR.cells]) rfl ?_));refine aQ.mk .tail (.inl ⟨hfit,rfl,K',S',fI,⟨⟨{b' with vt:=v',CR:=CR'},rfl,{Ak with tr:=by rw[cc];exact cB}⟩,EN,Yn,Ae,?_⟩,qt⟩);rw[qt.n,qt.cap];exact(xA.af6 hO.ol.1 hl hfit h.tr).congr λg=>(qt.held g).symm
 exact Un.not (Br.yes (aQ.here (.inr ⟨hno,rfl,rfl⟩)))
theorem TJ{l:Nat}(h:cZ kp K S ord ah (tr++[l]) C)(ei:tr.length<17592186044416):Fc zQ 289 #[ptr kp] C (λr C'=>
   r=.tuple #[iv (l:Int),iv 0]/\l+1<K.n/\∃K' S' fI,cZ kp K' S' (ff ord l) fI tr C'/\Kept K S K' S'):=by
 have h0:=h;obtain⟨b,hC,hO⟩:=h.rep;have hn:=hO.rC;have Qv:=h.tr;rw[List.reverse_append]at Qv;obtain⟨hl,hfit,qq⟩:l+1<K.n/\AP K.n ord l (K.held S)+2<=K.cap/\xA K.n K.cap (K.held S) (ff ord l) tr.reverse:=Qv;have hmk:(kp,Obj.cells (b.cells K.n) 124 zZ)∈C:=by rw[hC];exact .head _
 refine aK λg=>FZ (ae.aJ (cr.or false (λ_=>?_) rfl λgs=>Br.no ?_))
 ·refine Ld.v hmk ?_;refine hO.tr.bF (ae.jM ⟨rfl,?_⟩);rw[xaq];rw[aq,xaf];simp;omega
 refine Ld.v hmk ?_;refine hO.tr.bF ?_;rw[aq,xaf];refine ae.cf (a:=tr.length+1) (b:=1) ?_;rw[xb1];refine Ld.v hmk ?_;refine hO.tr.ld (i:=tr.length) (x:=(l:Int)) (by rw[cc];simp[iw]) (by rw[hC];exact bB.sub (.cons (.app (.app (.app (.app (.app (.app .here)))))))) (aa.fq (II h.rep h.ok h.od h.idle hl) ?_);rintro w C' (⟨_,rfl,K',S',fI,jX,EN,Yn,Ae,qt⟩|⟨hno,rfl,rfl⟩);rotate_left
 ·omega
 obtain⟨b',rfl,Ak⟩:=jX;refine Ld.n ?_;refine Ak.tr.cut (i:=tr.length) (by rw[aq];simp) λv' mr=>?_;refine Nil.ptr (ag.mk (St.one (by exact .head _) mr.one (by simp[wR.cells]) rfl ?_));refine aQ.here ⟨rfl,hl,K',S',fI,⟨⟨{b' with vt:=v'},rfl,{Ak with tr:=by rw[cc,xeE zI]at mr;exact mr}⟩,EN,Yn,Ae,?_⟩,qt⟩;rw[qt.n,qt.cap];exact qq.congr λg=>(qt.held g).symm
theorem cZ.eC(h:cZ kp K S ord ah tr C){r:Nat}(hl:live K.N r):r<1048576:=h.rep.lt hl
theorem cZ.nX(h:cZ kp K S ord ah tr C)(r:Nat):K.hold r<=65535:=h.ok.mid.mx r
theorem cZ.OK(h:cZ kp K S ord ah tr C)(r:Nat):K.use r<=2097153:=by have:=ue h.ok.mid h.idle (M:=0) (λ_=>xak _) r;omega
structure Zh(K K':Kd)(r:Nat):Prop where
 n:K'.n=K.n
 cap:K'.cap=K.cap
 used:K'.used=K.used
 N:K'.N=K.N
 hold:∀s,K'.hold s=if s=r/\2<=r then K.hold s+1 else K.hold s
theorem LD(h:cZ kp K S ord ah tr C){r:Nat}(hl:live K.N r)(h2:2<=r)(hf:K.hold r=65535):Rd zQ 157 #[ptr kp,u32 r] C (· =iv 8):=by
 have hr:=h.eC hl;obtain⟨b,hC,hO⟩:=h.rep;have hfit:r<K.ho.length:=by
  rcases hl with hl|⟨d,hd⟩
  ·omega
  rw[<-hO.ul.1];exact h.ok.mid.fit hd
 refine aK λg=>wH (ae.aJ (Br.no (Nil.ptr (ag.mk (aa.eq (m7 h.rep zO) ?_)))));rw[cz.2 hl];refine Un.not (Br.no λJ7 _=>(ae.iF (b:=1) (Br.T (Nil.ptr (ag.mk (Ld.u (by rw[hC];exact .head _) ?_))))));refine hO.ho.ld (x:=((K.hold r:Nat):Int)) (bW hfit) (by rw[hC];exact bB.sub (.cons (.app (.app (.app .left))))) ?_;rw[hf];exact ae.jM (Br.T (bE.mk (.refl _) rfl))
theorem B4(h:cS kp K ord ah tr C)(ZU:jw K S iD zero')(U8:Idle K){r:Nat}(hl:live K.N r)(hf:2<=r->K.hold r<65535):Fc zQ 157 #[ptr kp,u32 r] C (λv C'=>v=iv 0/\∃K',cS kp K' ord ah [] C'/\
  jw K' S iD zero'/\Idle K'/\Zh K K' r/\(∀s,K.use s<=K'.use s)/\(2<=r->0<K'.use r)):=by
 have hr:=h.lt hl;have h0:=h;obtain⟨b,hC,hO⟩:=h;refine aK λg=>wH (ae.aJ (Br.no (Nil.ptr (ag.mk (aa.eq (m7 h0 zO) ?_)))));rw[cz.2 hl];refine Un.not (Br.no λJ7 hJ7=>?_);have fin:∀(K':Kd) C1,cS kp K' ord ah tr C1->jw K' S iD zero'->Idle K'->Zh K K' r->(∀s,K.use s<=K'.use s)->(2<=r->0<K'.use r)->J7 [] C1:=λK' C1 jX EN Ae hm hu hp=>by
  refine hJ7 _ λgs=>?_;obtain⟨b',rfl,Ak⟩:=jX;refine Nil.ptr (ag.mk (St.one (by exact .head _) rfl (by simp[wR.cells]) rfl ?_));refine aQ.mk (gW:=({b' with vt:=.slice none 0 0,CR:=[]}:wR).hp kp K'.n) ?_ ⟨rfl,K',⟨{b' with vt:=.slice none 0 0,CR:=[]},rfl,{Ak with tr:=aR.nil}⟩,EN,Ae,hm,hu,hp⟩;refine .cons (.cT (.cT (.cT (.cT (.cT (.cT .nil _) _) _) _) _) _)
 refine ae.iF (b:=1) (Br.dec (λh2=>?_) (λh2=>?_));rotate_left
 ·refine JE.mk (fin K C h0 ZU U8 ⟨rfl,rfl,rfl,rfl,λs=>?_⟩ (λ_=>xak _) (λh=>by omega));rw[xac zO]
 have pF:2<=r:=by omega
 have Oq:=hf pF;obtain⟨d,hd⟩:∃d,K.N r=some d:=by
  rcases hl with hl|hl
  ·omega
  exact hl
 have hfu:=ZU.fit hd;have Qu:=hO.ul;have hfit:r<K.ho.length:=by omega
 subst hC;refine Nil.ptr (ag.mk (Ld.f ?_));refine hO.ho.ld (x:=((K.hold r:Nat):Int)) (bW hfit) (bB.sub (.cons (.app (.app (.app .left))))) (ae.jM (Br.F (Nil.ptr (ag.mk (Ld.f ?_)))));refine hO.ho.ld (x:=((K.hold r:Nat):Int)) (bW hfit) (bB.sub (.cons (.app (.app (.app .left))))) (ae.inc (hO.ho.mT (x:=((K.hold r+1:Nat):Int)) (.cons (.app (.app (.app .left)))) (by rw[aq];exact hfit) λV9 pQ=>?_));rw[gx]at pQ;have g1:∀s,(K.ho.set r (K.hold r+1)).getD s 0=if s=r then K.hold r+1 else K.hold s:=λs=>ig hfit
 refine Nil.ptr (ag.mk (Ld.f ?_));refine pQ.ld (x:=((K.hold r+1:Nat):Int)) (by rw[bW (by simpa using hfit),g1,xae rfl]) (bB.sub (.cons (.app (.app (.app .left))))) ?_;refine ae.bu (b:=1) (Br.dec (λh3=>?_) (λh3=>?_))
 ·refine Nil.ptr (ag.mk (Ld.f ?_));refine hO.us.ld (x:=((K.use r:Nat):Int)) (bW hfu) (bB.sub (.cons (.app (.app .left)))) ?_;have hub:=ue ZU U8 (M:=0) (λ_=>xak _) r;refine ae.inc (hO.us.mT (x:=((K.use r+1:Nat):Int)) (.cons (.app (.app .left))) (by rw[aq];exact hfu) λTn xj=>?_);rw[gx]at xj;have g2:∀s,(K.us.set r (K.use r+1)).getD s 0=if s=r then K.use r+1 else K.use s:=λs=>ig hfu
  have hM:=ZU.keep (r:=r) (dm:=K.us.set r (K.use r+1)) (cB:=K.ho.set r (K.hold r+1)) ⟨d,hd⟩ Oq zI (by rw[g1,xae rfl]) (λs hs=>by rw[g1,xac hs]) (by rw[g2,xae rfl,xae zO]) (λs hs=>by rw[g2,xac hs]);refine JE.mk (fin {K with us:=K.us.set r (K.use r+1),ho:=K.ho.set r (K.hold r+1)} _ ⟨{b with CU:=Tn,CH:=V9},rfl,{hO with us:=xj,ho:=pQ,ul:=by simp;exact Qu}⟩ hM (λs hs=>?_) ⟨rfl,rfl,rfl,rfl,λs=>?_⟩ (λs=>?_) (λ_=>?_))
  ·show(K.us.set r (K.use r+1)).getD s 0=0;have hs':K.N s=none:=hs;rw[g2,xac (λe=>by rw[e,hd]at hs';cases hs')];exact U8 s hs'
  ·show(K.ho.set r (K.hold r+1)).getD s 0=_;rw[g1];by_cases e:s=r
   ·subst e;rw[xae rfl,xae ⟨rfl,pF⟩]
   rw[xac e,xac (λh=>e h.1)]
  ·show K.use s<=(K.us.set r (K.use r+1)).getD s 0;rw[g2];split
   ·rename_i e;subst e;omega
   exact xak _
  show 0<(K.us.set r (K.use r+1)).getD r 0;rw[g2,xae rfl];omega
 have hM:=ZU.keep (r:=r) (dm:=K.us) (cB:=K.ho.set r (K.hold r+1)) ⟨d,hd⟩ Oq zI (by rw[g1,xae rfl]) (λs hs=>by rw[g1,xac hs]) (by show K.use r=_;rw[xac zO];rfl) (λs hs=>rfl);refine JE.mk (fin {K with ho:=K.ho.set r (K.hold r+1)} _ ⟨{b with CH:=V9},rfl,{hO with ho:=pQ,ul:=by simp;exact Qu}⟩ hM U8 ⟨rfl,rfl,rfl,rfl,λs=>?_⟩ (λ_=>xak _) (λ_=>?_));rotate_left
 ·show 0<K.use r;rw[ZU.use hd,xac zO];omega
 show(K.ho.set r (K.hold r+1)).getD s 0=_;rw[g1];by_cases e:s=r
 ·subst e;rw[xae rfl,xae ⟨rfl,pF⟩]
 rw[xac e,xac (λh=>e h.1)]
theorem z6(h:cZ kp K S ord ah tr C){r:Nat}(hl:live K.N r)(hf:2<=r->K.hold r<65535):Fc zQ 157 #[ptr kp,u32 r] C (λv C'=>v=iv 0/\∃K',cZ kp K' S ord ah [] C'/\Zh K K' r):=by
 refine(B4 h.rep h.ok.mid h.idle hl hf).mono ?_;rintro v C' ⟨rfl,K',jX,YM,Ae,hm,hu,hp⟩;refine⟨rfl,K',⟨jX,⟨YM,λs d hs=>?_,by rw[hm.n];exact h.ok.lv,by rw[hm.n,hm.N];exact h.ok.wf⟩,by rw[hm.n];exact h.od,Ae,trivial⟩,hm⟩;rw[hm.N]at hs;exact xa0 (h.ok.pos s d hs) (hu s)
end
section
variable {kp:Nat} {K:Kd} {ord ah tr:zL} {C:Hp} {S:Nat->aE.Fn}
theorem UB{K':Kd}{P:Nat->Nat}(hw:WF K.n (lv ah) K.N)(hM:jw K' S iD P)(hN:∀{s d},K'.N s=some d->K.N s=some d)(hn:K'.n=K.n):WF K'.n (lv ah) K'.N:=by
 have same:∀{t},live K'.N t->dep K'.n (lv ah) K'.N t=dep K.n (lv ah) K.N t:=λ{t} ht=>by
  cases e:K'.N t with
  |some f=>rw[aB e,aB (hN e)]
  |none=>
   have LH:t<2:=by
    rcases ht with ht|⟨f,hf⟩
    ·exact ht
    rw[e]at hf;cases hf
   rw[br e,br (hw.const LH),hn]
 refine hM.wf λ{s d} hs=>?_;rw[same (hM.lo hs),same (hM.hi hs)];exact⟨(hw.lo (hN hs)).2,(hw.hi (hN hs)).2⟩
structure SU(K K':Kd)(r:Nat):Prop where
 n:K'.n=K.n
 cap:K'.cap=K.cap
 N:∀s d,K'.N s=some d->K.N s=some d
 hold:∀s,K'.hold s=if s=r/\2<=r then K.hold s-1 else K.hold s
theorem acD(h:cZ kp K S ord ah tr C){r:Nat}(hr:r<4294967296)(h2:2<=r)(h0:K.hold r=0):Rd zQ 102 #[ptr kp,u32 r] C (· =iv 3):=by
 refine aK λg=>wJ (ae.aJ (Br.no ?_));intro J2 _;refine ae.iF (b:=1) (Br.T (aa.eq (BZ h.rep hr (λs=>by have:=h.nX s;omega)) ?_));rw[h0];exact ae.jM (Br.T (bE.mk (.refl _) rfl))
theorem Ar(h:cZ kp K S ord ah tr C){r:Nat}(hr:r<4294967296)(hh:2<=r->K.hold r≠0):Fc zQ 102 #[ptr kp,u32 r] C (λv C'=>v=iv 0/\∃K',cZ kp K' S ord ah [] C'/\SU K K' r):=by
 have h0:=h;obtain⟨b,hC,hO⟩:=h.rep;refine aK λg=>wJ (ae.aJ (Br.no ?_));intro J2 Jq;have fin:∀(K':Kd) C1,cS kp K' ord ah tr C1->Ok K' S (lv ah)->Idle K'->SU K K' r->J2 [] C1:=λK' C1 jX EN Ae hm=>by
  refine Jq _ λgs=>?_;obtain⟨b',rfl,Ak⟩:=jX;refine Nil.ptr (ag.mk (St.one (by exact .head _) rfl (by simp[wR.cells]) rfl ?_));have tC:Ord K'.n (lv ah) ord:=by rw[hm.n];exact h.od
  refine aQ.mk (gW:=({b' with vt:=.slice none 0 0,CR:=[]}:wR).hp kp K'.n) ?_ ⟨rfl,K',⟨⟨{b' with vt:=.slice none 0 0,CR:=[]},rfl,{Ak with tr:=aR.nil}⟩,EN,tC,Ae,trivial⟩,hm⟩;refine .cons (.cT (.cT (.cT (.cT (.cT (.cT .nil _) _) _) _) _) _)
 refine ae.iF (b:=1) (Br.dec (λh2=>?_) (λh2=>?_));rotate_left
 ·exact JE.mk (fin K C h.rep h.ok h.idle ⟨rfl,rfl,λ_ _ h=>h,λs=>by rw[xac zO]⟩)
 have pF:2<=r:=by omega
 have pQ:=hh pF;obtain⟨d,hd⟩:=h.ok.mid.held r pQ;have hfu:=h.ok.mid.fit hd;have Qu:=hO.ul;have hfit:r<K.ho.length:=by omega
 have hle:=h.nX r;refine aa.eq (BZ h.rep hr (λs=>by have:=h.nX s;omega)) (ae.jM (Br.F ?_));subst hC;refine Nil.ptr (ag.mk (Ld.f ?_));refine hO.ho.ld (x:=((K.hold r:Nat):Int)) (bW hfit) (bB.sub (.cons (.app (.app (.app .left))))) (ae.cf (b:=1) (hO.ho.mT (x:=((K.hold r-1:Nat):Int)) (.cons (.app (.app (.app .left)))) (by rw[aq];exact hfit) λV9 hhh=>?_));rw[gx]at hhh;have g1:∀s,(K.ho.set r (K.hold r-1)).getD s 0=if s=r then K.hold r-1 else K.hold s:=λs=>ig hfit
 have hM:=h.ok.mid.drop (r:=r) (cB:=K.ho.set r (K.hold r-1)) zO zI (by rw[g1,xae rfl];omega) (λs hs=>by rw[g1,xac hs]);have kE:cS kp {K with ho:=K.ho.set r (K.hold r-1)} ord ah tr (({b with CH:=V9}:wR).hp kp K.n):=⟨_,rfl,{hO with ho:=hhh,ul:=by simp;exact Qu}⟩;have hho:∀s,(K.ho.set r (K.hold r-1)).getD s 0=if s=r/\2<=r then K.hold s-1 else K.hold s:=λs=>by
  rw[g1];by_cases e:s=r
  ·subst e;rw[xae rfl,xae ⟨rfl,pF⟩]
  rw[xac e,xac (λh=>e h.1)]
 refine Nil.ptr (ag.mk (Ld.f ?_));refine hhh.ld (x:=((K.hold r-1:Nat):Int)) (by rw[bW (by simpa using hfit),g1,xae rfl]) (bB.sub (.cons (.app (.app (.app .left))))) (ae.bu (b:=0) (Br.dec (λh3=>?_) (λh3=>?_)));rotate_left
 ·rw[xac zO]at hM;exact JE.mk (fin {K with ho:=K.ho.set r (K.hold r-1)} _ kE ⟨hM,h.ok.pos,h.ok.lv,h.ok.wf⟩ h.idle ⟨rfl,rfl,λ_ _ h=>h,hho⟩)
 rw[xae zO]at hM;refine Nil.ptr (ag.mk ?_);have Oy:jw {K with ho:=K.ho.set r (K.hold r-1)} S iD (gR zero' [r]):=hM.congr (λ_=>xc8) λs _=>by
  unfold up gR zero';by_cases e:s=r
  ·subst e;simp
  simp[e,xbp e]
 refine aa.fq (pg (P0:=zero') kE Oy h.ok.pos (λt Te h0=>?_) (h.eC (.inr ⟨d,hd⟩)) (λs=>by have:=h.OK s;show K.use s<_;omega)) ?_
 ·by_cases e:t=r
  ·subst e;exact⟨d,hd⟩
  have h0':0<zero' t+[r].count t:=h0;simp[zero',xbp e]at h0'
 rintro w C2 ⟨rfl,K2,gH,ZT,WK,_,fV⟩;refine JE.mk (fin K2 _ gH ⟨ZT,WK,by rw[fV.n];exact h.ok.lv,UB h.ok.wf ZT (λh=>fV.N h) fV.n⟩ (fV.idle h.idle) ⟨fV.n,fV.cap,λs e hs=>fV.N hs,λs=>?_⟩);show K2.ho.getD s 0=_;rw[fV.ho];exact hho s
structure tc(K:Kd)(S:Nat->aE.Fn)(K':Kd)(S':Nat->aE.Fn)(f:aE.Fn)(r:Nat):Prop where
 n:K'.n=K.n
 cap:K'.cap=K.cap
 used:K'.used<=K.used+1
 N:∀s d,K.N s=some d->K'.N s=some d
 fn:∀s,live K.N s->S' s=S s
 live:live K'.N r
 is:S' r=f
 hold:∀s,K'.hold s=if s=r/\2<=r then K.hold s+1 else K.hold s
theorem Je(h:cZ kp K S ord ah tr C){v lo hi:Nat}(hv:v<K.n)(hlo:live K.N lo)(hhi:live K.N hi)(hlt:lo=hi\/(lv ah v<dep K.n (lv ah) K.N lo/\lv ah v<dep K.n (lv ah) K.N hi)):
  Fc zQ 158 #[ptr kp,iv (v:Int),u32 lo,u32 hi] C (λw C'=>
   (∃r K' S',w=.tuple #[u32 r,iv 0]/\cZ kp K' S' ord ah [] C'/\tc K S K' S' (ite S ⟨v,lo,hi⟩) r)\/
   (∃r,w=.tuple #[u32 0,iv 8]/\C'=C/\live K.N r/\2<=r/\K.hold r=65535/\S r=ite S ⟨v,lo,hi⟩)\/
   (w=.tuple #[u32 0,iv 9]/\C'=C/\K.cap<=K.used/\lo≠hi/\K.T ⟨v,lo,hi⟩=none)):=by
 have h0:=h;have aeZ:=h.eC hlo;have afa:=h.eC hhi;have yC:=cz.2 hlo;have oE:=cz.2 hhi;have hfe:oN K ah (v:Int) lo hi=0:=by
  unfold oN;rw[xac zO,xac (by rw[yC,oE];simp),xac];rintro⟨hne,hmin⟩;rcases hlt with e|⟨a,b⟩
  ·exact hne e
  simp only[xbH,lv]at hmin a b;omega
 refine aK λg=>HE (ae.aJ (Br.no (aa.eq (JA h.rep (v:Int) zO zO (λr d hd=>⟨h.ok.mid.var hd,(h.ok.mid.two hd).1⟩)) ?_)));rw[hfe];refine ae.fX (Br.F (aa.rq (IY h.rep (lo:=lo) (hi:=hi) hv) ?_));rintro w hw;have there:∀(J9:List zV->Hp->Prop),(∀Xv:zV,∀H11:Hp,(∀akN:Fr,aa zQ g 157 #[ptr kp,Xv] H11 (λv13 H14=>ae .num .neq v13 (Value.int .i64 0) λv15=>Br v15
   (aQ (λw C'=>(∃r K' S',w=.tuple #[u32 r,iv 0]/\cZ kp K' S' ord ah [] C'/\tc K S K' S' (ite S ⟨v,lo,hi⟩) r)\/
   (∃r,w=.tuple #[u32 0,iv 8]/\C'=C/\live K.N r/\2<=r/\K.hold r=65535/\S r=ite S ⟨v,lo,hi⟩)\/
   (w=.tuple #[u32 0,iv 9]/\C'=C/\K.cap<=K.used/\lo≠hi/\K.T ⟨v,lo,hi⟩=none)) (.returned (.tuple #[(Value.int .u32 0),v13])) H14) (aQ (λw C'=>(∃r K' S',w=.tuple #[u32 r,iv 0]/\cZ kp K' S' ord ah [] C'/\tc K S K' S' (ite S ⟨v,lo,hi⟩) r)\/
   (∃r,w=.tuple #[u32 0,iv 8]/\C'=C/\live K.N r/\2<=r/\K.hold r=65535/\S r=ite S ⟨v,lo,hi⟩)\/
   (w=.tuple #[u32 0,iv 9]/\C'=C/\K.cap<=K.used/\lo≠hi/\K.T ⟨v,lo,hi⟩=none)) (.returned (.tuple #[Xv,(Value.int .i64 0)])) H14)) (cA (aQ (λw C'=>(∃r K' S',w=.tuple #[u32 r,iv 0]/\cZ kp K' S' ord ah [] C'/\tc K S K' S' (ite S ⟨v,lo,hi⟩) r)\/
   (∃r,w=.tuple #[u32 0,iv 8]/\C'=C/\live K.N r/\2<=r/\K.hold r=65535/\S r=ite S ⟨v,lo,hi⟩)\/
   (w=.tuple #[u32 0,iv 9]/\C'=C/\K.cap<=K.used/\lo≠hi/\K.T ⟨v,lo,hi⟩=none)))))->J9 [Xv] H11)->
   ∀r,live K.N r->S r=ite S ⟨v,lo,hi⟩->J9 [u32 r] C:=λJ9 Ri r hr hS=>by
  refine Ri _ _ λgs=>?_;by_cases hf:2<=r/\K.hold r=65535
  ·exact aa.eq (LD h hr hf.1 hf.2) (ae.fX (Br.T (aQ.here (.inr (.inl ⟨r,rfl,rfl,hr,hf.1,hf.2,hS⟩)))))
  refine aa.fq (z6 h hr (λh2=>by have:=h.nX r;omega)) ?_;rintro w C' ⟨rfl,K',jX,hm⟩;refine ae.fX (Br.F (aQ.here (.inl ⟨r,K',S,rfl,jX,⟨hm.n,hm.cap,by rw[hm.used];omega,λs d hs=>by rw[hm.N];exact hs,λ_ _=>rfl,by rw[hm.N];exact hr,hS,hm.hold⟩⟩)))
 by_cases he:lo=hi
 ·rw[xae he]at hw;subst hw;refine Ext.two λJ9 Ri=>(Un.not (Br.no (JE.mk (there J9 Ri lo hlo ?_))))
  funext z
  unfold aE.ite;simp[he]
 rw[xac he]at hw;have lP:lv ah v<dep K.n (lv ah) K.N lo/\lv ah v<dep K.n (lv ah) K.N hi:=by
  rcases hlt with e|e
  ·exact absurd e he
  exact e
 obtain⟨o,ho⟩:∃o,o=K.T ⟨v,lo,hi⟩:=⟨_,rfl⟩;cases o with
 |some r=>
  have hT:K.T ⟨v,lo,hi⟩=some r:=ho.symm;rw[hT]at hw;subst hw;refine Ext.two λJ9 Ri=>?_;have hN:=((h.ok.mid.jD _ r).1 hT).1;refine Un.not (Br.no (JE.mk (there J9 Ri r (.inr ⟨_,hN⟩) ?_)))
  funext z
  rw[h.ok.mid.int.node hN];rfl
 |none=>
  have hT:K.T ⟨v,lo,hi⟩=none:=ho.symm;rw[hT]at hw;subst hw;refine Ext.two λJ9 Ri=>(Un.not (Br.yes (Nil.ptr (ag.mk ?_))));have hcap:=h.ok.mid.cap;refine aa.eq (BW h.rep (m:=1) zO zO) (Un.not ?_);by_cases hroom:K.used+1<=K.cap;rotate_left
  ·rw[xaq hroom];exact Br.yes (aQ.here (.inr (.inr ⟨rfl,rfl,by omega,he,hT⟩)))
  rw[xav hroom];refine Br.no (Nil.ptr (ag.mk (Build.mk (cs:=bJ ⟨v,lo,hi⟩) zK ?_)));have hfit:∀{t:Nat},live K.N t->t<2\/t<K.us.length:=λht'=>by
   rcases ht' with ht'|⟨d,dN⟩
   ·exact .inl ht'
   exact .inr (h.ok.mid.fit dN)
  have LO:K.n<=64:=by obtain⟨_,_,hO⟩:=h.rep;exact hO.rC
  refine aa.fq (IL h.rep (d:=⟨v,lo,hi⟩) ⟨by show v<64;omega,hlo,hhi⟩ hv hT zO (hfit hlo) (hfit hhi) (λs=>by have:=h.OK s;omega)) ?_;rintro w C1 ⟨r,dm,cB,rfl,hN,h2,hrc,hlen,hru,Qu,u0,u1,u2,o0,o1,kE⟩;have L1:=h.ok.mid.lay (r:=r) (d:=⟨v,lo,hi⟩) hN ⟨h2,hrc⟩ hv he hlo hhi hT (λh=>h) rfl zO hlen ⟨hru,Qu⟩ u0 u1 o0 o1;have afG:∀s d,K.N s=some d->up K.N r (some ⟨v,lo,hi⟩) s=some d:=λs d hs=>by rw[aP (λe=>by rw[e,hN]at hs;cases hs)];exact hs
  have hne:∀{t:Nat},live K.N t->t≠r:=λht=>fC ht h2 hN;have QN:Idle {K with N:=up K.N r (some ⟨v,lo,hi⟩),T:=pO K.T ⟨v,lo,hi⟩ (some r),used:=K.used+1,us:=dm,ho:=cB}:=λs hs=>by
   have hs':up K.N r (some ⟨v,lo,hi⟩) s=none:=hs;have Qx:s≠r:=λe=>by subst e;rw[aN]at hs';cases hs'
   rw[aP Qx]at hs';show dm.getD s 0=0;by_cases Z3:2<=s
   ·rw[u1 s Z3 Qx,h.idle s hs',dW];have a1:lo≠s:=λe=>by
     rcases hlo with h5|⟨d,h5⟩
     ·omega
     rw[e,hs']at h5;cases h5
    have a2:hi≠s:=λe=>by
     rcases hhi with h5|⟨d,h5⟩
     ·omega
     rw[e,hs']at h5;cases h5
    simp[a1,a2]
   rw[u2 s zO,h.idle s hs']
  refine JE.mk (Ri _ _ λgs=>?_);refine aa.fq (B4 kE L1 QN (r:=r) (.inr ⟨_,aN⟩) (λ_=>by show cB.getD r 0<65535;rw[o0];omega)) ?_;rintro w C2 ⟨rfl,K2,gH,Oy,ET,hm,hu,hp⟩;refine ae.fX (Br.F ?_);have QC:K2.n=K.n:=hm.n;have hN2:K2.N=up K.N r (some ⟨v,lo,hi⟩):=hm.N;have hpos:Pos K2:=λs d hs=>by
   by_cases e:s=r
   ·rw[e];exact hp h2
   rw[hN2,aP e]at hs;have h3:=hu s;have h4:({K with N:=up K.N r (some ⟨v,lo,hi⟩),T:=pO K.T ⟨v,lo,hi⟩ (some r),used:=K.used+1,us:=dm,ho:=cB}:Kd).use s=dm.getD s 0:=rfl;rw[h4,u1 s (h.ok.mid.two hs).1 e]at h3;have:=h.ok.pos s d hs;omega
  have EX:∀{t:Nat},live K.N t->dep K2.n (lv ah) K2.N t=dep K.n (lv ah) K.N t:=λ{t} ht=>by
   rw[hN2,QC];unfold dep;rw[aP (hne ht)]
  have aeq:WF K2.n (lv ah) K2.N:=Oy.wf λ{s d} hs=>by
   rw[hN2]at hs;by_cases e:s=r
   ·rw[e,aN]at hs;cases hs;rw[EX hlo,EX hhi];exact lP
   rw[aP e]at hs;rw[EX (h.ok.wf.lo hs).1,EX (h.ok.wf.hi hs).1];exact⟨(h.ok.wf.lo hs).2,(h.ok.wf.hi hs).2⟩
  have hS:∀s,live K.N s->up S r (ite S ⟨v,lo,hi⟩) s=S s:=λs hs=>aP (hne hs);refine aQ.here (.inl ⟨r,K2,up S r (ite S ⟨v,lo,hi⟩),rfl,⟨gH,⟨Oy,hpos,by rw[QC];exact h.ok.lv,aeq⟩,by rw[QC];exact h.od,ET,trivial⟩,⟨QC,hm.cap,by rw[hm.used];exact xak _,λs d hs=>by rw[hN2];exact afG s d hs,hS,.inr ⟨_,by rw[hN2];exact aN⟩,aN,λs=>?_⟩⟩);rw[hm.hold];show(if s=r/\2<=r then cB.getD s 0+1 else cB.getD s 0)=_;by_cases e:s=r
  ·subst e;rw[xae ⟨rfl,h2⟩,xae ⟨rfl,h2⟩,o0];have:K.hold s=0:=by
    apply xdI;intro hne;obtain⟨d,hd⟩:=h.ok.mid.held s hne;rw[hN]at hd;cases hd
   omega
  rw[xac (λh=>e h.1),xac (λh=>e h.1),o1 s e]
end
theorem hnew{H:Hp}:bB [] H (λX=>X++H):=bB.left
theorem Qs{n:Nat}(hn:n<=64):Fc zQ 95 #[iv (n:Int)] [] (λv H=>aR 3 .i64 v (iw (List.range n)) H):=by
 refine aK λg=>MP (dj.ints zO zO λb=>?_);have h0:aR 3 .i64 (.slice (some ⟨b,0,none⟩) n n) (List.replicate n 0) [(b,.cells (aA .i64 (List.replicate n 0)) 3 zZ)]:=by
  have:=aR.made (T:=3) (kd:=.i64) (b:=b) (List.replicate n (0:Int));rw[xbV]at this;exact this
 refine⟨λvs H=>∃j:Nat,vs=[iv (j:Int)]/\j<=n/\aR 3 .i64 (.slice (some ⟨b,0,none⟩) n n) (iw (List.range j)++List.replicate (n-j) 0) H,λvs _=>n-bj vs 0,JE.mk ⟨0,rfl,by omega,by simpa[iw]using h0⟩,?_⟩;rintro w H ⟨j,hw,hj,hs⟩ gs;simp only[xay,xa5]at hw;subst hw;refine ae.cU (Br.dec (λhlt=>?_) (λhlt=>?_))
 ·refine hs.mT (x:=(j:Int)) .here zP λC' hs'=>?_;refine ae.inc ?_;have e:(iw (List.range j)++List.replicate (n-j) 0).set j (j:Int)=iw (List.range (j+1))++List.replicate (n-(j+1)) 0:=by
   rw[xcF _ _ zI];rw[show n-j=(n-(j+1))+1 by omega,xdm,xcO,cc];simp[iw]
  rw[e]at hs';exact az.of (.refl _) ⟨j+1,rfl,by omega,hs'⟩ (by show n-(((j+1:Nat):Int).toNat)<n-(((j:Nat):Int).toNat);omega)
 obtain rfl:j=n:=by omega
 exact aQ.here (by simpa using hs)
theorem sL{n:Nat}(hn:n<=64):Fc zQ 46 #[iv (n:Int)] [] (λv H=>∃s,v=.tuple #[s,iv 0]/\aR 3 .i64 s (iw (List.range n)) H):=by
 refine aK λg=>za (ae.lss ?_);rw[xaq zO];refine cr.or false (λ_=>ae.gtr ⟨rfl,by rw[xaq zO]⟩) rfl λ_=>Br.no ?_;refine aa.fq (Qs hn) ?_;intro s H hs;exact aQ.here ⟨s,rfl,hs⟩
def K0(n cap:Nat):Kd:=⟨n,cap,2,λ_=>none,λ_=>none,[],[]⟩
def S0:Nat->aE.Fn:=λr _=>decide (r=1)
theorem mY{n v:Nat}(hv:v<n):lv (List.range n) v=v:=by
 show(List.range n).getD v 0=v;simp[List.getD,hv]
theorem acW{n cap:Nat}(hc:2<=cap/\cap<=1048576):Ok (K0 n cap) S0 (lv (List.range n)):=by
 have c0:∀k,mz (λ_=>none) k=0:=λk=>by induction k with|zero=>rfl|succ k ih=>rw[mz,ih];rfl
 have hm:jw (K0 n cap) S0 iD zero':={
  two:=λh=>nomatch h
  var:=λh=>nomatch h
  ne:=λh=>nomatch h
  lo:=λh=>nomatch h
  hi:=λh=>nomatch h
  int:=⟨λ_=>rfl,λ_=>rfl,λh=>nomatch h⟩
  jD:=λd r=>⟨λh=>(nomatch h),λh=>nomatch h.1⟩
  use:=λh=>nomatch h
  len:=rfl
  fit:=λh=>nomatch h
  held:=λr h=>absurd (by simp[Kd.hold,K0]) h
  mx:=λr=>by simp[Kd.hold,K0]
  room:=by show 2=2+mz (λ_=>none) _;rw[c0]
  cap:=hc}
 refine⟨hm,λr d h=>(nomatch h),⟨λv hv=>?_,λu v hu hv h=>?_⟩,⟨λh=>(nomatch h),λh=>(nomatch h),λh=>(nomatch h),λh=>(nomatch h),λh=>(nomatch h),λh=>(nomatch h)⟩⟩
 ·have mr:v<n:=hv;rw[mY mr];exact hv
 have xj:u<n:=hu;have mr:v<n:=hv;rwa [mY xj,mY mr]at h
theorem BJ{pt n cap:Nat}{CT:Hp}(hu:nJ pt n (λ_=>none) CT)(hc:2<=cap/\cap<=1048576):Fc zQ 48 #[iv (cap:Int),ptr pt] CT (λv H=>∃pa CA,v=.tuple #[.agg #[ptr pa,ptr pt,.slice none 0 0,.slice none 0 0],iv 0]/\ik pa cap 2 (λ_=>none) CA/\H=CA++CT):=by
 refine aK λg=>Nw λb1 _=>?_;refine aa.fn hnew (VW hc) ?_;rintro v C ⟨pa,rfl,hA⟩;refine Ext.two (Build.mk (cs:=[ptr pa,ptr pt,.slice none 0 0,.slice none 0 0]) zK (St.q ?_));refine au.q ?_;exact aQ.mk (.cT .tail _) ⟨pa,C,rfl,hA,rfl⟩
theorem PZ{n cap:Nat}(hn:1<=n/\n<=64)(hc:2<=cap/\cap<=1048576):Fc zQ 27 #[iv (n:Int),iv (cap:Int)] [] (λv C=>∃kp,v=.tuple #[ptr kp,iv 0]/\cZ kp (K0 n cap) S0 (List.range n) (List.range n) [] C):=by
 refine aK λg=>zc (aa.fq (sL hn.2) ?_);rintro v CO ⟨s,rfl,hO⟩;obtain⟨sa,sl,sc,hse⟩:∃a l c,s=Value.slice a l c:=by obtain⟨a,c,h⟩:=aO.len hO;exact⟨a,_,c,h⟩
 refine Ext.two (ae.fX (cr.or false (λ_=>ae.lss ⟨rfl,by rw[xaq zO]⟩) rfl λgs=>?_));refine cr.or false (λ_=>ae.lss ⟨rfl,by rw[xaq zO]⟩) rfl λgs=>?_;refine cr.or false (λ_=>ae.gtr ⟨rfl,by rw[xaq zO]⟩) rfl λgs=>Br.no ?_;refine aa.fn hnew (TE hn) ?_;rintro v CT ⟨pt,rfl,hT⟩;refine Ext.two (ae.fX (Br.no (aa.fq (BJ hT hc) ?_)));rintro v H ⟨pa,CA,rfl,hA,rfl⟩;refine Ext.two λb24 _=>(St.q ?_);refine ae.fX (Br.no (DR.self (au.q ?_)));refine aa.fq (vM (hO.ints.mono λ_ h=>h) zP) ?_;rintro v H ⟨CL,rfl,hL⟩;obtain⟨la,ll,lc,hle⟩:∃a l c,v=Value.slice a l c:=by obtain⟨a,c,h⟩:=aO.len hL;exact⟨a,_,c,h⟩
 refine⟨(.cons (.cT .right _)),?_⟩;subst hse hle;refine Build.mk (cs:=[ptr pa,ptr pt,.slice none 0 0,.slice none 0 0,iv (n:Int),.slice sa sl sc,.slice la ll lc,.slice none 0 0]) zK λXk _=>?_;refine⟨(.skip (.cons (.cT .right _))),?_⟩
 let kb:wR:=⟨pa,pt,.slice none 0 0,.slice none 0 0,.slice sa sl sc,.slice la ll lc,.slice none 0 0,CA,CT,[],[],CO,CL,[]⟩
 refine aQ.mk (gW:=kb.hp Xk n) ?_ ⟨Xk,rfl,⟨kb,rfl,⟨hA,hT,aR.nil,aR.nil,hO,hL,aR.nil,⟨rfl,by simp[K0]⟩,hn.2,by simp[K0]⟩⟩,acW hc,⟨by simp[K0],λl hl=>?_⟩,λs _=>by simp[Kd.use,K0],trivial⟩
 ·refine .cons (.skip ((aI.assoc).trans ?_));show aI (CA++(CT++(CL++CO))) (CA++(CT++([]++([]++(CO++(CL++[]))))));simp only[xbe,xaG];exact .cT (.cT (.perm xaW) _) _
 have hl':l<n:=hl;have e:(List.range n).getD l 0=l:=mY hl';rw[e];exact⟨hl,mY hl'⟩
end
end Go.Proofs
namespace aE
def ax(ord path:zL):zL:=path.foldl ff ord
theorem fP{ord path:zL}{l:Nat}:ax ord (path++[l])=ff (ax ord path) l:=by simp[ax]
theorem cm{ord path q:zL}:ax ord (path++q)=ax (ax ord path) q:=by simp[ax]
theorem fh{ord:zL}:∀{path:zL},(ax ord path).length=ord.length:=by
 intro path;unfold ax;induction path generalizing ord with
 |nil=>rfl
 |cons l r ih=>rw[xcL,ih];simp[ff]
def kI:Nat->zL
 |2=>[0]
 |3=>[1,0,1,0,1]
 |4=>[2,1,0,2,0,1,2,0,2,1,0,2,0,1,2,0,2,1,0,2,0,1,2]
 |_=>[]
structure Rm where
 n:Nat
 size:zL->Nat
 fit:zL->Nat->Bool
def Rm.goes(m:Rm)(p:Nat):zL->zL->zL
 | [],_=>[]
 |c::cs,ord=>if m.fit ord (p+c)then(p+c)::m.goes p cs (ff ord (p+c))else []
def Rm.keep(m:Rm)(ord path:zL):Nat->Nat
 |0=>0
 |i+1=>if m.size (ax ord (path.take (i+1)))<m.size (ax ord (path.take (m.keep ord path i)))then i+1 else m.keep ord path i
def Rm.visit(m:Rm)(w p:Nat)(ord:zL):zL×Nat:=
 let path:=m.goes p (kI w) ord
 let k:=m.keep ord path path.length
 (path.take k,path.length+(path.length-k))
def Rm.all(m:Rm)(w:Nat)(ord:zL):Nat->zL×Nat
 |0=>([],0)
 |i+1=>let a:=m.all w ord i;let b:=m.visit w i (ax ord a.1);(a.1++b.1,a.2+b.2)
def Rm.pass(m:Rm)(w:Nat)(ord:zL):zL×Nat:=m.all w ord (m.n+1-w)
theorem Rm.kF(m:Rm)(p:Nat):∀cs ord,(m.goes p cs ord).length<=cs.length
 | [],_=>by simp[goes]
 |c::cs,ord=>by
  rw[goes];split
  ·have:=m.kF p cs (ff ord (p+c));simp only[xal];omega
  simp
theorem Rm.qx(m:Rm)(p:Nat):∀cs ord i,i<(m.goes p cs ord).length->(m.goes p cs ord)[i]? =(cs[i]?).map (p+ ·)/\∃c,cs[i]? =some c/\m.fit (ax ord ((m.goes p cs ord).take i)) (p+c)=true
 | [],_,i,h=>by simp[goes]at h
 |c::cs,ord,i,h=>by
  by_cases hf:m.fit ord (p+c)=true
  ·rw[goes,xae hf]at h⊢;cases i with
   |zero=>exact⟨by simp,c,rfl,hf⟩
   |succ i=>
    obtain⟨h1,c',h2,h3⟩:=m.qx p cs (ff ord (p+c)) i (by simpa using h);exact⟨by simpa using h1,c',by simpa using h2,by simpa[ax]using h3⟩
  rw[goes,xac hf]at h;simp at h
theorem Rm.vw(m:Rm)(p:Nat):∀cs ord c,cs[(m.goes p cs ord).length]? =some c->m.fit (ax ord (m.goes p cs ord)) (p+c)=false
 | [],_,c,h=>by simp at h
 |c'::cs,ord,c,h=>by
  by_cases hf:m.fit ord (p+c')=true
  ·rw[goes,xae hf]at h⊢;have:=m.vw p cs (ff ord (p+c')) c (by simpa using h);simpa[ax]using this
  rw[goes,xac hf]at h⊢;simp only[xbA,xbY,xar]at h;subst h;simpa[ax]using hf
theorem Rm.Cu(m:Rm)(p:Nat){cs ord:zL}{l:Nat}(h:l∈m.goes p cs ord):∃c∈cs,l=p+c:=by
 obtain⟨i,hi,e⟩:=xeg h;obtain⟨h1,c,h2,_⟩:=m.qx p cs ord i hi;rw[xab hi,e,h2]at h1;exact⟨c,xaz h2,by simpa using h1⟩
theorem Rm.z7(m:Rm)(ord path:zL):∀i,m.keep ord path i<=i
 |0=>xak _
 |i+1=>by rw[keep];split;omega;have:=m.z7 ord path i;omega
theorem Rm.u4(m:Rm)(ord path:zL):∀i j,j<=i->m.size (ax ord (path.take (m.keep ord path i)))<=m.size (ax ord (path.take j))
 |0,j,h=>by
  obtain rfl:j=0:=by omega
  exact xak _
 |i+1,j,h=>by
  by_cases e:j=i+1
  ·subst e;rw[keep];split<;>omega
  have:=m.u4 ord path i j zO;rw[keep];split<;>omega
theorem Ff{w c:Nat}(h:c∈kI w):c+2<=w:=by
 unfold kI at h;split at h
 ·simp at h;omega
 ·simp at h;omega
 ·simp at h;omega
 simp at h
theorem JJ(w:Nat):(kI w).length<=23:=by
 unfold kI;split<;>simp
theorem Rm.Kv(m:Rm){w p:Nat}{ord:zL}{l:Nat}(h:l∈(m.visit w p ord).1):l+2<=p+w:=by
 obtain⟨c,hc,rfl⟩:=m.Cu p (xci h);have:=Ff hc;omega
theorem Rm.q5(m:Rm)(w p:Nat)(ord:zL):(m.visit w p ord).1.length<=23/\(m.visit w p ord).2<=46:=by
 have h1:=m.kF p (kI w) ord;have h2:=JJ w;have h3:=m.z7 ord (m.goes p (kI w) ord) (m.goes p (kI w) ord).length;constructor
 ·show(List.take _ _).length<=23;rw[xbs];omega
 show _+(_-_)<=46;omega
theorem Rm.A5(m:Rm)(w p:Nat)(ord:zL):m.size (ax ord (m.visit w p ord).1)<=m.size ord:=by
 have:=m.u4 ord (m.goes p (kI w) ord) (m.goes p (kI w) ord).length 0 (xaA _);simpa[visit,ax]using this
theorem Rm.SB(m:Rm)(w:Nat)(ord:zL):∀i,m.size (ax ord (m.all w ord i).1)<=m.size ord
 |0=>xak _
 |i+1=>by
  have h1:=m.SB w ord i;have h2:=m.A5 w i (ax ord (m.all w ord i).1);show m.size (ax ord (_++_))<=_;rw[cm];exact xbB h2 h1
theorem Rm.JW(m:Rm)(w:Nat)(ord:zL):∀i,(m.all w ord i).1.length<=23*i/\(m.all w ord i).2<=46*i
 |0=>⟨xak _,xak _⟩
 |i+1=>by
  have h1:=m.JW w ord i;have h2:=m.q5 w i (ax ord (m.all w ord i).1);constructor
  ·show((m.all w ord i).1++(m.visit w i (ax ord (m.all w ord i).1)).1).length<=_;rw[xaf];omega
  show(m.all w ord i).2+(m.visit w i (ax ord (m.all w ord i).1)).2<=_;omega
theorem Rm.JV(m:Rm){w:Nat}{ord:zL}{l:Nat}:∀{i},l∈(m.all w ord i).1->l+3<=i+w
 |0,h=>by simp[all]at h
 |i+1,h=>by
  rcases xao.1 h with h|h
  ·have:=m.JV h;omega
  have:=m.Kv h;omega
theorem Rm.all_succ(m:Rm)(w:Nat)(ord:zL)(i:Nat):m.all w ord (i+1)=((m.all w ord i).1++(m.visit w i (ax ord (m.all w ord i).1)).1,(m.all w ord i).2+(m.visit w i (ax ord (m.all w ord i).1)).2):=rfl
end aE
set_option maxRecDepth 100000
namespace Go.Proofs
open Go Go.Sx Tryz
open aE
def At(kp:Nat)(K:Kd)(S:Nat->aE.Fn)(ord tr:zL)(C:Hp):Prop:=∃K' S' fI,cZ kp K' S' ord fI tr C/\Kept K S K' S'
noncomputable def cO(K:Kd)(S:Nat->aE.Fn)(ord:zL):Nat:=sz K.n ord (K.held S)
def gw(K:Kd)(S:Nat->aE.Fn)(ord:zL)(l:Nat):Prop:=AP K.n ord l (K.held S)+2<=K.cap
section
variable {kp:Nat} {K:Kd} {S:Nat->aE.Fn} {ord tr:zL} {C:Hp}
theorem cZ.at'{ah:zL}(h:cZ kp K S ord ah tr C):At kp K S ord tr C:=⟨K,S,ah,h,.refl _ _⟩
theorem BV{ah:zL}(h:cZ kp K S ord ah tr C):K.used=cO K S ord+2:=by
 have h1:=Bb (h.ok.size h.od);have h2:=h.ok.mid.room;unfold cO;omega
theorem B3{K':Kd}{S':Nat->aE.Fn}(h:Kept K S K' S')(ord:zL):cO K' S' ord=cO K S ord:=by
 unfold cO;rw[h.n];exact O1 h.held
theorem yo{K':Kd}{S':Nat->aE.Fn}(h:Kept K S K' S')(ord:zL)(l:Nat):gw K' S' ord l↔gw K S ord l:=by
 unfold gw;rw[h.n,h.cap,Ky h.held]
theorem At.len(h:At kp K S ord tr C):ord.length=K.n:=by
 obtain⟨K',S',fI,h,hk⟩:=h;rw[<-hk.n];exact h.od.len
theorem pJ(h:At kp K S ord tr C):cO K S ord<=1048574:=by
 obtain⟨K',S',fI,h,hk⟩:=h;rw[<-B3 hk];have:=BV h;have:=h.ok.mid.cap;omega
theorem At.rC(h:At kp K S ord tr C):K.n<=64:=by
 obtain⟨K',S',fI,h,hk⟩:=h;obtain⟨b,_,hO⟩:=h.rep;rw[<-hk.n];exact hO.rC
theorem di(h:At kp K S ord tr C):Rd zQ 111 #[ptr kp] C (· =iv ((cO K S ord:Nat):Int)):=by
 obtain⟨K',S',fI,h,hk⟩:=h;have hs:=BV h;have hc:=h.ok.mid.cap;refine(UH h.rep zO zO).mono ?_;rintro v H ⟨rfl,rfl⟩;exact⟨rfl,by rw[hs,B3 hk];rfl⟩
theorem qO(h:At kp K S ord tr C):Rd zQ 226 #[ptr kp] C (· =iv ((tr.length:Nat):Int)):=by
 obtain⟨K',S',fI,h,hk⟩:=h;exact LA h.rep
theorem l7(h:At kp K S ord tr C):Rd zQ 75 #[ptr kp] C (· =iv ((K.n:Nat):Int)):=by
 obtain⟨K',S',fI,h,hk⟩:=h;rw[<-hk.n];exact kx h.rep
theorem Ss(h:At kp K S ord tr C):Fc zQ 112 #[ptr kp] C (λr H=>∃N,H=N++C/\aR 3 .i64 r (iw ord) N):=by
 obtain⟨K',S',fI,h,hk⟩:=h;exact yh h.rep
theorem tZ(h:At kp K S ord tr C){l:Nat}(hl:l+1<K.n)(ei:tr.length<17592186044416)(hf:gw K S ord l):Fc zQ 115 #[ptr kp,iv (l:Int)] C (λr C'=>r=iv 0/\At kp K S (ff ord l) (tr++[l]) C'):=by
 obtain⟨K',S',fI,h,hk⟩:=h;refine(JC h (by rw[hk.n];exact hl) ei).mono ?_;rintro v C' (⟨_,rfl,K2,S2,X2,h2,tF⟩|⟨hno,_,_⟩)
 ·exact⟨rfl,K2,S2,X2,h2,hk.trans tF⟩
 have:=(yo hk ord l).2 hf;unfold gw at this;omega
theorem pK(h:At kp K S ord tr C){l:Nat}(hl:l+1<K.n)(ei:tr.length<17592186044416)(hf:¬gw K S ord l):Rd zQ 115 #[ptr kp,iv (l:Int)] C (· =iv 9):=by
 obtain⟨K',S',fI,h,hk⟩:=h;refine(JC h (by rw[hk.n];exact hl) ei).mono ?_;rintro v C' (⟨Yd,_⟩|⟨hno,rfl,rfl⟩)
 ·exact absurd ((yo hk ord l).1 Yd) hf
 exact⟨rfl,rfl⟩
theorem AE{l:Nat}(h:At kp K S ord (tr++[l]) C)(ei:tr.length<17592186044416):Fc zQ 289 #[ptr kp] C (λr C'=>r=.tuple #[iv (l:Int),iv 0]/\At kp K S (ff ord l) tr C'):=by
 obtain⟨K',S',fI,h,hk⟩:=h;refine(TJ h ei).mono ?_;rintro v C' ⟨rfl,_,K2,S2,X2,h2,tF⟩;exact⟨rfl,K2,S2,X2,h2,hk.trans tF⟩
theorem Xz(h:At kp K S ord tr C){l:Nat}(hl:l+1<K.n)(ei:tr.length<17592186044416)(hf:gw K S ord l):Fc zQ 274 #[ptr kp,iv (l:Int)] C (λr C'=>
   r=.tuple #[.agg #[iv (l:Int),iv ((cO K S ord:Nat):Int),iv ((cO K S (ff ord l):Nat):Int)],iv 0]/\At kp K S (ff ord l) (tr++[l]) C'):=by
 refine aK λg=>wx λb1 _=>?_;refine aa.eq (di h) (Build.mk (cs:=[iv (l:Int),iv ((cO K S ord:Nat):Int),iv 0]) zK λb6 _=>?_);refine St.q ?_;refine aa.fq (tZ h hl ei hf) ?_;rintro v C' ⟨rfl,h'⟩;refine ae.fX (Br.F (aa.eq (di h') (ag.mk (St.one (by exact .head _) rfl zI rfl ?_))));refine au.q ?_;refine St.q ?_;refine au.q ?_;exact aQ.mk (.skip .tail) ⟨rfl,h'⟩
theorem XA(h:At kp K S ord tr C){l:Nat}(hl:l+1<K.n)(ei:tr.length<17592186044416)(hf:¬gw K S ord l):Rd zQ 274 #[ptr kp,iv (l:Int)] C (· =.tuple #[.agg #[iv 0,iv 0,iv 0],iv 9]):=by
 refine aK λg=>wx λb1 _=>?_;refine aa.eq (di h) (Build.mk (cs:=[iv (l:Int),iv ((cO K S ord:Nat):Int),iv 0]) zK λb6 _=>?_);refine St.q ?_;refine aa.eq (pK h hl ei hf) (ae.fX (Br.T (Build.mk (cs:=[iv 0,iv 0,iv 0]) zK (St.q ?_))));refine au.q ?_;exact bE.mk (.skip .tail) rfl
theorem JR{path:zL}(h:At kp K S (ax ord path) (tr++path) C)(hp:∀l∈path,l+1<K.n){k:Nat}(hk:k<=path.length)(ei:(tr++path).length<17592186044416):Fc zQ 261 #[ptr kp,iv ((tr.length+k:Nat):Int)] C (λr C'=>
   r=.tuple #[iv ((path.length-k:Nat):Int),iv 0]/\At kp K S (ax ord (path.take k)) (tr++path.take k) C'):=by
 have hlen:=h.len;rw[fh]at hlen;rw[xaf]at ei;refine aK λg=>Gm (ae.aJ (Br.no ?_));intro J2 Jq;refine ae.lss ?_;rw[xaq zO];refine Split.go rfl (aa.eq (qO h) (ae.gtr ?_));rw[xaq (by rw[xaf];omega)];refine aS.mk (JE.mk (Jq _ _ λgs=>Br.no ?_));refine⟨λvs H=>∃m,m<=path.length/\k<=m/\vs=[iv ((path.length-m:Nat):Int)]/\At kp K S (ax ord (path.take m)) (tr++path.take m) H,λvs _=>path.length-bj vs 0,JE.mk ⟨path.length,xak _,hk,by simp,by simpa using h⟩,?_⟩;rintro w H ⟨m,hm,hkm,hw,AV⟩ gs;simp only[xay,xa5]at hw;subst hw;refine aa.eq (qO AV) (ae.iF (Br.dec (λhlt=>?_) (λhlt=>?_)))
 ·rw[xaf,xbs]at hlt;obtain⟨m,rfl⟩:∃m',m=m'+1:=⟨m-1,by omega⟩;have e:path.take (m+1)=path.take m++[path[m]]:=by rw[xbn,xab zO];rfl
  rw[e,<-xai,fP]at AV;refine aa.fq (AE AV zP) ?_;rintro v C' ⟨rfl,h'⟩;rw[pY (by rw[fh,hlen];exact hp _ (xaD _))]at h';refine ae.inc (az.of (.refl _) ⟨m,by omega,by omega,by rw[show path.length-(m+1)+1=path.length-m by omega],h'⟩ ?_);show path.length-(((path.length-(m+1)+1:Nat):Int).toNat)<path.length-(((path.length-(m+1):Nat):Int).toNat);omega
 rw[xaf,xbs]at hlt;obtain rfl:m=k:=by omega
 exact aQ.here ⟨rfl,AV⟩
end
theorem Fg{w:Nat}(hw:2<=w/\w<=4):Fc zQ 272 #[iv (w:Int)] [] (λv H=>∃s,v=.tuple #[s,iv 0]/\aR 3 .i64 s (iw (kI w)) H):=by
 refine aK λg=>Ga ?_;obtain rfl|rfl|rfl:w=2\/w=3\/w=4:=by omega
 ·refine ae.jM (Br.T (ak.int (e:=3) zK zK zK λbx=>?_));exact aQ.here ⟨_,rfl,aR.made [0]⟩
 ·refine ae.jM (Br.F (ae.jM (Br.T (⟨aA .i64 (iw (kI 3)),3,1,iv 0,by kernel_rfl,by kernel_rfl,by kernel_rfl,by decide,by kernel_rfl,λbx _=>?_⟩))));exact aQ.here ⟨_,rfl,aR.made (iw (kI 3))⟩
 refine ae.jM (Br.F (ae.jM (Br.F (ae.jM (Br.T (⟨aA .i64 (iw (kI 4)),3,1,iv 0,by kernel_rfl,by kernel_rfl,by kernel_rfl,by decide,by kernel_rfl,λbx _=>?_⟩))))));exact aQ.here ⟨_,rfl,aR.made (iw (kI 4))⟩
end Go.Proofs
namespace Go.Sx
open Go
section
variable {P:Program} {g:Gh} {H:Hp}
theorem fy.nat{len size b o j:Nat}{kd:IntKind}{k:zV->Prop}(h1:j<len)(h:k (.pointer (some ⟨b,o+j*size,none⟩))):fy len size (.pointer (some ⟨b,o,none⟩)) (.int kd (j:Int)) k:=
 ⟨b,o,kd,(j:Int),rfl,rfl,by omega,by omega,by simpa using h⟩
theorem bA.acK{o:Oper}{ρ:Operand->zV}{k:zV->Prop}{t e:TypeId}{q kd:IntKind}{n j:Nat}{x i:Operand}{l:List Int}{z:Int}(ho:o.op=.index t x i)(hx:ρ x=.agg (aA q l))(hi:ρ i=.int kd (j:Int))
 (ht:P.underlying t=some (.array n e))(hu:P.underlying e=some (.int q))(hz:cC P e=some 1)(hj:j<n)(hl:l[j]? =some z)(hk:k (.int q z)):bA P g o ρ H k:=by
 obtain⟨inf,LS,hs⟩:=aV hz;refine⟨_,λw _=>?_,hk⟩;have hp:=qd (P:=P) hu hl w;have Q0:(0:Int)<=(j:Int)/\(j:Int)<(n:Int):=by omega
 simp only[execOp,ho,Instr.index,hx,hi,asIntOf,Sem.run_bind,Sem.run_pure,Result.andThen_ok,run_underlying ht,run_sizeOf LS,hs,xae Q0,xbH,xbO,hp]
end
end Go.Sx
namespace aE
open an
def clr(m v:Nat):Nat:=if m.testBit v then m^^^2^v else m
def rest(m:Nat)(ord:zL):Nat->Nat
 |0=>m
 |k+1=>clr (rest m ord k) (ord.getD k 0)
section
variable {n m o:Nat} {ord:zL} {F:Fn->Prop}
theorem getD_inj(hn:ord.Nodup){i j:Nat}(hi:i<ord.length)(hj:j<ord.length)(e:ord.getD i 0=ord.getD j 0):i=j:=by
 rw[xap,xap,xab hi,xab hj]at e;exact(List.getElem_inj hn).1 e
theorem Xx{k k' l:Nat}(h:ot (bc n ord F) k)(h':ot (bc n (ff ord l) F) k'):AP n ord l F<=k+k':=by
 unfold AP;split
 ·rename_i hh;obtain⟨l0,h1,h2,h3⟩:=xcq hh;obtain⟨l1,a1,a2,a3⟩:=h;obtain⟨l2,b1,b2,b3⟩:=h';have:=bN (l':=l1++l2) h1 λg hg=>by
   rcases(h3 g).2 hg with h|h
   ·exact xad _ ((a3 g).1 h)
   exact xaa _ ((b3 g).1 h)
  rw[xaf]at this;omega
 omega
theorem O4{l:Nat}(hl:l+1<ord.length):(ff ord l).Perm ord:=by
 unfold ff;have e1:ord=ord.take l++ord.getD l 0::ord.getD (l+1) 0::ord.drop (l+2):=by
  conv=>lhs;rw[<-xbr l ord]
  congr 1;rw[xaV zO,xaV zO];simp[List.getD,xab (show l<ord.length by omega),xab hl]
 have ht:(ord.take l).length=l:=by simp;omega
 have e2:(ord.set l (ord.getD (l+1) 0)).set (l+1) (ord.getD l 0)=ord.take l++ord.getD (l+1) 0::ord.getD l 0::ord.drop (l+2):=by
  generalize hx:ord.getD l 0=x at*;generalize hy:ord.getD (l+1) 0=y at*
  conv=>lhs;rw[e1]
  rw[xcF _ _ zO,ht,xcC,xcE,xcF _ _ zO,ht,Nat.add_sub_cancel_left,xem,xcE]
 rw[e2]
 conv=>rhs;rw[e1]
 exact xcn _ (List.Perm.swap _ _ _)
theorem j4:∀{path:zL} {ord:zL},(∀l∈path,l+1<ord.length)->(ax ord path).Perm ord
 | [],_,_=>.refl _
 |l::r,ord,h=>by
  show(ax (ff ord l) r).Perm ord;have h1:=h l zI;exact(j4 λx hx=>by rw[k6];exact h x (by simp[hx])).trans (O4 h1)
end
def flat(n s:Nat):Rm:=⟨n,λ_=>s,λ_ _=>true⟩
end aE
namespace aE
def Fk(i:Nat):Nat->zL
 |0=>[]
 |j+1=>if i<=j then j::Fk i j else []
theorem AA{i j:Nat}(h:j<=i):Fk i j=[]:=by
 cases j with
 |zero=>rfl
 |succ j=>rw[Fk,xac zO]
theorem qN{i j:Nat}(h:i<=j):Fk i (j+1)=j::Fk i j:=by rw[Fk,xae h]
theorem JM{i l:Nat}:∀{j},l∈Fk i j->i<=l/\l<j
 |0,h=>by simp[Fk]at h
 |j+1,h=>by
  by_cases e:i<=j
  ·rw[qN e]at h;rcases xag.1 h with rfl|h
   ·omega
   have:=JM h;omega
  rw[AA zO]at h;simp at h
theorem Az(i:Nat):∀j,(Fk i j).length=j-i
 |0=>by simp[Fk]
 |j+1=>by
  by_cases e:i<=j
  ·rw[qN e,xal,Az i j];omega
  rw[AA zO];simp;omega
theorem JN{i k:Nat}:∀{j:Nat} {a:zL},i<=j->j<a.length->(k<=i->(ax a (Fk i j)).getD k 0=if k=i then a.getD j 0 else a.getD k 0)
 |0,a,hi,hj,hk=>by
  obtain rfl:i=0:=by omega
  obtain rfl:k=0:=by omega
  simp[Fk,ax]
 |j+1,a,hi,hj,hk=>by
  by_cases e:i<=j
  ·rw[qN e];show(ax (ff a j) (Fk i j)).getD k 0=_;rw[JN (j:=j) e (by rw[k6];omega) hk,eT zO,eT zO];by_cases h:k=i
   ·subst h;simp
   rw[xac h,xac h,xac zO,xac zO]
  obtain rfl:i=j+1:=by omega
  rw[AA (xak _)];show a.getD k 0=_;split
  ·rename_i h;rw[h]
  rfl
def Zw(p:zL)(x:Nat):Nat:=p.idxOf x
def dQ(p q:zL):Nat->zL
 |0=>[]
 |i+1=>dQ p q i++Fk i (Zw (ax p (dQ p q i)) (q.getD i 0))
def path(p q:zL):zL:=dQ p q q.length
theorem PG{p:zL}{x:Nat}(h:x∈p):Zw p x<p.length:=List.idxOf_lt_length_iff.2 h
theorem I2{p:zL}{x:Nat}(h:x∈p):p.getD (Zw p x) 0=x:=by
 have h1:=PG h;rw[xap,xab h1];show p[p.idxOf x]=x;exact List.getElem_idxOf h1
section
variable {p q:zL}
theorem jc(hq:q.Nodup)(hp:p.Perm q):∀i,i<=q.length->(∀l∈dQ p q i,l+1<p.length)/\(∀k,k<i->(ax p (dQ p q i)).getD k 0=q.getD k 0)/\(i<q.length->i<=Zw (ax p (dQ p q i)) (q.getD i 0)/\Zw (ax p (dQ p q i)) (q.getD i 0)<p.length)
 |i,hi=>by
  have hlen:=hp.length_eq;have base:(∀l∈dQ p q i,l+1<p.length)/\(∀k,k<i->(ax p (dQ p q i)).getD k 0=q.getD k 0):=by
   cases i with
   |zero=>exact⟨λl hl=>by simp[dQ]at hl,λk hk=>absurd hk (xc7 _)⟩
   |succ i=>
    obtain⟨h1,h2,h3⟩:=jc hq hp i zO;obtain⟨h4,h5⟩:=h3 zO;have hm:q.getD i 0∈ax p (dQ p q i):=by
     have:q.getD i 0∈q:=by rw[xap,xab (show i<q.length by omega)];exact xaD _
     exact((j4 h1).trans hp).mem_iff.2 this
    refine⟨λl hl=>?_,λk hk=>?_⟩
    ·rcases xao.1 hl with hl|hl
     ·exact h1 l hl
     have:=JM hl;omega
    rw[dQ,cm,JN h4 (by rw[fh];exact h5) zO];split
    ·rename_i e;subst e;exact I2 hm
    exact h2 k zO
  refine⟨base.1,base.2,λhlt=>?_⟩;have hm:q.getD i 0∈ax p (dQ p q i):=by
   have:q.getD i 0∈q:=by rw[xap,xab hlt];exact xaD _
   exact((j4 base.1).trans hp).mem_iff.2 this
  have h5:=PG hm;rw[fh]at h5;refine⟨?_,h5⟩;refine xa2 λrL=>?_;have:=base.2 _ (Nat.lt_of_not_le rL);rw[I2 hm]at this;have:=getD_inj hq hlt zO this;omega
theorem tL(hq:q.Nodup)(hp:p.Perm q):ax p (path p q)=q/\∀l∈path p q,l+1<p.length:=by
 obtain⟨h1,h2,_⟩:=jc hq hp q.length (xak _);refine⟨CJ (by rw[fh];exact hp.length_eq) λi hi=>h2 i ?_,h1⟩;rw[fh,hp.length_eq]at hi;exact hi
theorem rA(hq:q.Nodup)(hp:p.Perm q):∀i,i<=q.length->(dQ p q i).length<=i*p.length
 |0,_=>by simp[dQ]
 |i+1,hi=>by
  have:=rA hq hp i zO;obtain⟨_,_,h3⟩:=jc hq hp i zO;rw[dQ,xaf,Az,xbt];have:=(h3 zO).2;omega
end
end aE
