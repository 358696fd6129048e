import Derived.Test.YtpndkbhmngcmfaaGreatDoorJ3
import Derived.Test.YtpndkbhmngcmfaaGreatDoorJ2
import Derived.Lib.LaidTab
import GoSem.ClaimJoined
set_option linter.unusedVariables false
set_option linter.unusedSimpArgs false
set_option linter.unusedSectionVars false
set_option maxRecDepth 100000
namespace Go.Proofs
open Go Go.Sx
section
open Fm Sw au
abbrev NS:=List (List UInt8×Nat)
abbrev FN:=List (List UInt8×au.Fn)
theorem wE{k:List UInt8}{old x:Nat}:∀{ns:NS},(ns.map Prod.fst).Nodup->aN ns k=some old->(ns.map Prod.snd++[x]).Perm (old::(bQ ns k x).map Prod.snd):=by
 have key:∀{ns:NS},(ns.map Prod.fst).Nodup->aN ns k=some old->(x::ns.map Prod.snd).Perm (old::(ns.map λy=>if y.1=k then(k,x)else y).map Prod.snd):=by
  intro ns;induction ns with
  |nil=>intro _ h;simp[aN]at h
  |cons p ns ih=>
   intro nd h;obtain⟨h1,h2⟩:=xaT.1 nd;by_cases e:p.1=k
   ·have:old=p.2:=by
     unfold aN at h;rw[xbz,xaL e]at h;simpa using h.symm
    subst this;have Av:(ns.map λy=>if y.1=k then(k,x)else y)=ns:=by
     refine(xbA λy hy=>?_).trans (List.map_id ns);rw[xab λe'=>h1 (by rw[e,<-e'];exact xan.2 ⟨y,hy,rfl⟩)];rfl
    simp only[xaC,xae e,Av];exact .swap _ _ _
   have hg:aN ns k=some old:=by
    unfold aN at h⊢;rw[xbz,xay e]at h;exact h
   simp only[xaC,xab e];exact(List.Perm.swap _ _ _).trans (((ih h2 hg).cons _).trans (.swap _ _ _))
 intro ns nd h;have hk:k∈ns.map Prod.fst:=by
  rcases Classical.em (k∈ns.map Prod.fst)with h'|h'
  ·exact h'
  rw[eC.2 h']at h;cases h
 unfold bQ;rw[xae hk];exact(xaK (l₁:=ns.map Prod.snd) (l₂:=[x])).trans (key nd h)
theorem G5{k:List UInt8}{x:Nat}{ns:NS}(h:aN ns k=none):bQ ns k x=ns++[(k,x)]:=by
 unfold bQ;rw[xab (eC.1 h)]
def eB(S:Nat->au.Fn)(ns:NS):FN:=ns.map λp=>(p.1,S p.2)
theorem qL{S:Nat->au.Fn}{ns:NS}{k:List UInt8}{x:Nat}:eB S (bQ ns k x)=bQ (eB S ns) k (S x):=by
 unfold bQ eB;have e:(ns.map λp=>(p.1,S p.2)).map Prod.fst=ns.map Prod.fst:=by rw[xbJ];rfl
 rw[e];split
 ·rw[xbJ,xbJ];refine xbA λy _=>?_;show(λp:List UInt8×Nat=>(p.1,S p.2)) (if y.1=k then(k,x)else y)=if y.1=k then(k,S x)else(y.1,S y.2)
  split<;>rfl
 rw[xaz];rfl
theorem kf{S:Nat->au.Fn}{a:List UInt8}:∀ns:NS,aN (eB S ns) a=(aN ns a).map S
 | []=>rfl
 |p::ns=>by
  have ih:=kf (S:=S) (a:=a) ns;unfold aN eB at*;rw[xaC,xbz,xbz];by_cases e:p.1=a
  ·simp[e]
  simp only[e,xc2];exact ih
theorem ij{S S':Nat->au.Fn}{ns:NS}(h:∀p∈ns,S' p.2=S p.2):eB S' ns=eB S ns:=xbA λp hp=>by rw[h p hp]
theorem EE{n:Nat}{ord:zL}{f:au.Fn}(hn:n<=8):sz n ord (λg=>g=f)<=256:=by
 obtain⟨k,hk,hc⟩:=sn (n:=n) (ord:=ord) (F:=λg=>g=f) (L:=[f]) (cap:=1*2^n+2) (λg hg=>by rw[hg];exact .head _) (xak _);rw[y9 hk];have:2^n<=2^8:=xaI zD hn;omega
abbrev dM(T:TypeId)(fz:Nat×Nat):Nat×Obj:=(1,.cells powC T fz)
abbrev jd(sp kp mb:Nat)(es:Array MapEntry)(ck:Nat)(C:Hp):Hp:=(sp,.cells #[ptr kp,.map (some mb)] 48 zZ)::(mb,.map es ck)::C
structure rS(kp n cap:Nat)(K:Kd)(S:Nat->au.Fn)(ord af tr:zL)(C:Hp)(es:Array MapEntry)(ck:Nat)(ns:NS):Prop where
 ks:cc kp K S ord af tr C
 dF:IC es ck ns
 hb:aI (K0 n cap) S0 K S (ns.map Prod.snd)
section
variable {sp kp mb n cap:Nat} {K:Kd} {S:Nat->au.Fn} {ord af tr:zL} {C:Hp} {es:Array MapEntry} {ck:Nat} {ns:NS} {T:TypeId} {fz:Nat×Nat}
theorem ie{xs:zL}(h:aI (K0 n cap) S0 K S xs){x:Nat}(hx:x∈xs)(h2:2<=x):K.hold x≠0:=by
 rw[h.hold,xae h2];have:=xcc.2 hx;omega
theorem AL{xs:zL}(h:aI (K0 n cap) S0 K S xs)(s:Nat):K.hold s<=xs.length:=by
 have:=h.le s;have e:(K0 n cap).hold s=0:=by
  show([]:zL).getD s 0=0;simp
 omega
theorem pL{xs:zL}(h:aI (K0 n cap) S0 K S xs)(hK:cc kp K S ord af tr C){x:Nat}(hx:x∈xs):au.live K.N x:=by
 by_cases h2:2<=x
 ·exact hK.jH x (ie h hx h2)
 exact .inl zO
theorem AM{xs:zL}(h:aI (K0 n cap) S0 K S xs)(g:au.Fn)(hg:K.held S g):∃x∈xs,S x=g:=by
 have:=h.held (P:=λg=>∃x∈xs,S x=g) (λx hx=>⟨x,hx,rfl⟩) g hg;rcases this with h'|h'
 ·obtain⟨s,hs,_⟩:=h';exfalso;have e:(K0 n cap).hold s=0:=by
   show([]:zL).getD s 0=0;simp
  exact hs e
 exact h'
theorem EK{x:Nat}{nm:List UInt8}(hK:cc kp K S ord af tr C)(hE:IC es ck ns)(hH:aI (K0 n cap) S0 K S (ns.map Prod.snd++[x]))(hx:au.live K.N x)(hn:n<=8):
  Fc zQ 77 #[ptr sp,ah nm,u32 x] (dM T fz::jd sp kp mb es ck C) (λr H=>r=eL (dec (sz n ord (λg=>g=S x))) 0 0/\∃K' es' dO C' eH,H=dM T fz::jd sp kp mb es' dO C'/\rS kp n cap K' S ord af eH C' es' dO (bQ ns nm x)/\(eH=tr\/eH=[])):=by
 refine aW λg=>x5 λb1 _ J3 h3=>?_;have Jn:K.n=n:=hH.n;have go:∀(K':Kd) (C':Hp) (eH:zL),cc kp K' S ord af eH C'->aI (K0 n cap) S0 K' S ((bQ ns nm x).map Prod.snd)->(eH=tr\/eH=[])->J3 [] ((b1,Obj.cells #[ah [],nI 0,nI 0] 27 zZ)::dM T fz::jd sp kp mb es ck C'):=λK' C' eH gU K4 Ka=>by
  refine h3 _ λ_=>?_;have J4:x∈(bQ ns nm x).map Prod.snd:=by
   have:(nm,x)∈bQ ns nm x:=by
    unfold bQ;split
    ·rename_i h;obtain⟨y,hy,e⟩:=xan.1 h;exact xan.2 ⟨y,hy,by rw[xae e]⟩
    exact xaa _ (.head _)
   exact xan.2 ⟨_,this,rfl⟩
  have Ee:au.live K'.N x:=pL K4 gU J4;have hn':K'.n=n:=K4.n;refine Ld.v (v:=.map (some mb)) (.tail _ (.tail _ (.head _))) ?_;refine hE.cz (k:=nm) (b:=mb) (x:=x) dw wo rfl λes' dO K6=>⟨_,.tail (.tail (.tail (.head _))),?_⟩;refine Ld.v (v:=ptr kp) (.tail _ (.tail _ (.head _))) (ak.int (e:=82) zK zK zK λbx=>?_);refine aa.eq (Bt (X:=[(bx,_),(b1,_),dM T fz,(sp,_),(mb,_)]) gU Ee (.head _)) (Ext.two ?_);rw[hn'];have hsz:=EE (n:=n) (ord:=ord) (f:=S x) hn;generalize sz n ord (λg=>g=S x)=m at hsz⊢;refine aa.eq (Bn (n:=m) zO (.tail _ (.tail _ (.head _)))) (aa.eq (pq (dec m) 0 _) ?_);refine St.whole (r:=cJ (dec m) 0 0) (.tail (.head _)) rfl rfl (aD _ _ _) (az.whole (r:=cJ (dec m) 0 0) (.tail _ (.head _)) rfl ?_);exact aZ.mk (.skip .tail) ⟨rfl,K',es',dO,C',eH,rfl,⟨gU,K6,K4⟩,Ka⟩
 refine Ld.v (v:=.map (some mb)) (.tail _ (.tail _ (.head _))) ?_;refine hE.look (k:=nm) dw (b:=mb) (.tail _ (.tail _ (.tail _ (.head _)))) (λold v ho hv=>?_) (λho=>?_)
 ·subst hv;have hp:=(wE (x:=x) hE.nd ho);have KZ:=hH.perm hp;have I1:old∈old::(bQ ns nm x).map Prod.snd:=.head _;refine Ext.mk rfl (Ext.mk rfl (Br.yes (Ld.v (v:=ptr kp) (.tail _ (.tail _ (.head _))) ?_)));refine aa.fn (args:=#[ptr kp,u32 old]) (.cons (.cons (.cons (.cons .here)))) (pV hK (by have:=hK.cH (pL KZ hK I1);omega) (λh2=>ie KZ I1 h2)) ?_;rintro _ C' ⟨rfl,K',gU,hf⟩;exact JE.mk (go K' C' [] gU (KZ.Er hf) (.inr rfl))
 refine Ext.mk rfl (Ext.mk rfl (Br.no (JE.mk (go K C tr hK ?_ (.inl rfl)))));rw[G5 ho,xaz];exact hH
theorem qs{x:Nat}{nm:List UInt8}(hK:cc kp K S ord af tr C)(hE:IC es ck ns)(hH:aI (K0 n cap) S0 K S (ns.map Prod.snd++[x]))(hx:au.live K.N x)(hn:n<=8):
  Fc zQ 35 #[ptr sp,ah nm,u32 x,nI 0] (dM T fz::jd sp kp mb es ck C) (λr H=>r=eL (dec (sz n ord (λg=>g=S x))) 0 0/\∃K' es' dO C' eH,H=dM T fz::jd sp kp mb es' dO C'/\rS kp n cap K' S ord af eH C' es' dO (bQ ns nm x)/\(eH=tr\/eH=[])):=by
 refine aW λg=>o7 λb1 _=>ae.nM (a:=0) (b:=0) (Br.F ?_);refine aa.fn (.cons .here) (EK hK hE hH hx hn) ?_;rintro _ H ⟨rfl,h⟩;refine St.whole (r:=cJ (dec (sz n ord (λg=>g=S x))) 0 0) (.head _) rfl rfl (aD _ _ _) (az.whole (r:=cJ (dec (sz n ord (λg=>g=S x))) 0 0) (.head _) rfl ?_);exact aZ.mk .tail ⟨rfl,h⟩
theorem mw{x e:Nat}{nm:List UInt8}(he:e≠0)(B:Hp):Rd zQ 35 #[ptr sp,ah nm,u32 x,nI e] B (· =eL [] 0 e):=by
 refine aW λg=>o7 λb1 _=>ae.nM (b:=0) (Br.T (aa.eq (dN 0 e _) ?_) he);refine St.whole (r:=cJ [] 0 e) (.head _) rfl rfl (aD _ _ _) (az.whole (r:=cJ [] 0 e) (.head _) rfl ?_);exact bS.mk .tail rfl
def Iy(sp kp mb n cap:Nat)(S:Nat->au.Fn)(ord af tr:zL)(es:Array MapEntry)(ck:Nat)(ns:NS)(T:TypeId)(fz:Nat×Nat)(C:Hp)(nm l:List UInt8)(iK:Nat)(r:zV)(H:Hp):Prop:=
 (∃a e,Reads n l (.bad a e)/\e≠0/\(r=if e=14\/e=2\/e=7 then eL [] (iK+a) e else eL [] 0 e)/\H=dM T fz::jd sp kp mb es ck C)\/
 ∃t l',Reads n l (.ok t l')/\((∃x K' S' es' dO C',r=eL (dec (sz n ord (λg=>g=t.fn))) 0 0/\H=dM T fz::jd sp kp mb es' dO C'/\rS kp n cap K' S' ord af [] C' es' dO (bQ ns nm x)/\S' x=t.fn/\∀p∈ns,S' p.2=S p.2)\/
  (∃K' S' C' eH,r=eL [] 0 9/\H=dM T fz::jd sp kp mb es ck C'/\rS kp n cap K' S' ord af eH C' es ck ns/\(∀p∈ns,S' p.2=S p.2)/\¬Fits (aC n ord (λg=>(∃x∈ns.map Prod.snd,S x=g)\/t.ei g)) cap))
theorem GL{a b:Nat}{x y:Nat}(h:(Value.tuple #[u32 a,nI x])=.tuple #[u32 b,nI y]):a=b/\x=y:=by
 simp only[Value.tuple.injEq,Array.mk.injEq,xa0,u32,nI,Value.int.injEq,xdi,xdl]at h;omega
set_option maxHeartbeats 1000000 in
theorem EJ(hI:rS kp n cap K S ord af tr C es ck ns)(hn:n<=8)(hm:ns.length<=1000){nm text:List UInt8}{iK:Nat}(hf:iK<=text.length)(hl:text.length<=400):
  Fc zQ 21 #[ptr sp,ah nm,ah text,nI iK] (dM T fz::jd sp kp mb es ck C) (Iy sp kp mb n cap S ord af tr es ck ns T fz C nm (text.drop iK) iK):=by
 have hK:=hI.ks;have Jn:K.n=n:=hI.hb.n;have Ot:K.cap=cap:=hI.hb.cap;have hlen:(ns.map Prod.snd).length=ns.length:=xav _;have Ic:2^n<=2^8:=xaI zD hn;refine aW λg=>yE λb1 _=>?_;refine DR.of (R:=[(sp,.cells #[ptr kp,.map (some mb)] 48 zZ)]) (.ki (.tail _ (.tail _ (.head _)))) (Ld.v (v:=ptr kp) (.head _) ?_);refine br.iR (l:=text) (i:=iK) (j:=text.length) rfl zK rfl (.inr ⟨_,.i64,rfl,rfl⟩) (.inl ⟨rfl,rfl⟩) hf (xak _) ?_;rw[xb3];refine aa.fn (args:=#[ptr kp,ah (text.drop iK)]) (.cons (.cons (.cons (.cons .here)))) (A5 hK (text.drop iK) (λs=>by have:=AL hI.hb s;rw[Jn];omega)) ?_;rw[Jn];rintro r C2 (⟨rfl,a,e,hb,rfl⟩|⟨t,l',x,e,hr,rfl,hb⟩)
 ·have he:=hb.fit;refine⟨.ki (.tail _ (.tail _ (.head _))),Ext.mk rfl (Ext.mk rfl (Ext.mk rfl (ae.bN (b:=14) (bL.or (decide (e=2)) (λ_=>ae.bN (b:=2) ⟨rfl,rfl⟩) rfl λ_=>?_))))⟩;rw[<-xaV];refine bL.or (decide (e=7)) (λ_=>ae.bN (b:=7) ⟨rfl,rfl⟩) rfl λ_=>?_;rw[<-xaV];have ha:iK+a<9223372036854775808:=by
   have:=hb.place;rw[xbu]at this;omega
  refine Br.dec (λh=>?_) (λh=>?_)
  ·refine ae.iA (by simpa only[cv]using ha) (aa.eq (dN (iK+a) e _) ?_);refine St.whole (r:=cJ [] (iK+a) e) (.head _) rfl rfl (aD _ _ _) (az.whole (r:=cJ [] (iK+a) e) (.head _) rfl ?_);exact aZ.mk .tail (.inl ⟨a,e,hb,he,by rw[xae zO],rfl⟩)
  refine aa.eq (mw (x:=0) he _) ?_;refine St.whole (r:=cJ [] 0 e) (.head _) rfl rfl (aD _ _ _) (az.whole (r:=cJ [] 0 e) (.head _) rfl ?_);exact aZ.mk .tail (.inl ⟨a,e,hb,he,by rw[xab zO],rfl⟩)
 rcases hb with⟨x',K',S',eH,ee,gU,hh,Ee,Mi,rfl⟩|⟨ee,⟨K',S',eH,gU,hh⟩,hno⟩
 ·obtain⟨rfl,rfl⟩:=GL ee;refine⟨.ki (.tail _ (.tail _ (.head _))),Ext.mk rfl (Ext.mk rfl (Ext.mk rfl (ae.bN (a:=0) (b:=14) (bL.or false (λ_=>ae.bN (a:=0) (b:=2) ⟨rfl,rfl⟩) rfl λ_=>bL.or false (λ_=>ae.bN (a:=0) (b:=7) ⟨rfl,rfl⟩) rfl λ_=>Br.no ?_))))⟩;refine aa.fn (args:=#[ptr sp,ah nm,u32 x,nI 0]) (.cons .here) (qs gU hI.dF (hI.hb.more hh) Ee hn) ?_;rintro _ H ⟨rfl,K2,es',dO,C',eG,rfl,KX,B5⟩;rw[Mi];refine St.whole (r:=cJ (dec (sz n ord (λg=>g=t.fn))) 0 0) (.head _) rfl rfl (aD _ _ _) (az.whole (r:=cJ (dec (sz n ord (λg=>g=t.fn))) 0 0) (.head _) rfl ?_);have ht:eG=[]:=B5.elim id id;subst ht;refine aZ.mk .tail (.inr ⟨t,l',hr,.inl ⟨x,K2,S',es',dO,C',rfl,rfl,KX,Mi,λp hp=>?_⟩⟩);exact(fF hK gU hh λh2=>ie hI.hb (xan.2 ⟨p,hp,rfl⟩) h2).2
 obtain⟨rfl,rfl⟩:=GL ee;refine⟨.ki (.tail _ (.tail _ (.head _))),Ext.mk rfl (Ext.mk rfl (Ext.mk rfl (ae.bN (a:=9) (b:=14) (bL.or false (λ_=>ae.bN (a:=9) (b:=2) ⟨rfl,rfl⟩) rfl λ_=>bL.or false (λ_=>ae.bN (a:=9) (b:=7) ⟨rfl,rfl⟩) rfl λ_=>Br.no ?_))))⟩;refine aa.eq (mw (x:=0) zD _) ?_;refine St.whole (r:=cJ [] 0 9) (.head _) rfl rfl (aD _ _ _) (az.whole (r:=cJ [] 0 9) (.head _) rfl ?_);refine aZ.mk .tail (.inr ⟨t,l',hr,.inr ⟨K',S',C2,eH,rfl,rfl,⟨gU,hI.dF,by have:=hI.hb.more hh;rwa [xaR]at this⟩,λp hp=>(fF hK gU hh λh2=>ie hI.hb (xan.2 ⟨p,hp,rfl⟩) h2).2,λhF=>hno ?_⟩⟩);rw[Jn,Ot];exact Fits.mono (λg hg=>cr (λg h=>h.imp (AM hI.hb g) id) hg) hF
end
def eY(T:TypeId)(fz:Nat×Nat)(sp n cap:Nat)(ord:zL)(F:FN)(tr:zL)(H:Hp):Prop:=
 ∃kp mb K S af ns es ck C,H=dM T fz::jd sp kp mb es ck C/\rS kp n cap K S ord af tr C es ck ns/\eB S ns=F
def cf(F:FN)(t:List UInt8):Bool:=(aN F t).isSome
theorem AN{S:Nat->au.Fn}{ns:NS}:gA ns=cf (eB S ns):=funext λt=>by
 unfold gA cf;rw[kf];cases aN ns t<;>rfl
def Bg(T:TypeId)(fz:Nat×Nat)(sp n cap:Nat)(ord:zL)(F:FN)(tr:zL)(H:Hp):Prop:=
 Fc zQ 15 #[ptr sp] H (λv H'=>v=.tuple #[]/\eY T fz sp n cap ord F tr H')
section
variable {T:TypeId} {fz:Nat×Nat} {sp n cap:Nat} {ord:zL} {F:FN} {tr:zL} {H0:Hp}
theorem eY.bg(h:eY T fz sp n cap ord F tr H0):Bg T fz sp n cap ord F tr H0:=by
 obtain⟨kp,mb,K,S,af,ns,es,ck,C,rfl,h1,h2⟩:=h;refine aW λg=>o9 (Ld.v (v:=ptr kp) (.tail _ (.head _)) (ae.bB (Br.no ?_)));exact aZ.mk (.refl _) ⟨rfl,kp,mb,K,S,af,ns,es,ck,C,rfl,h1,h2⟩
abbrev Gv(sp:Nat):Nat×Obj:=(sp,.cells #[.pointer none,.map none] 48 zZ)
theorem uM(B:Hp):Fc zQ 7 #[] B (λv H=>∃sp,v=ptr sp/\H=Gv sp::B):=by
 refine aW λg=>BV (Build.mk (cs:=[.pointer none,.map none]) zK λsp _=>?_);exact aZ.mk (.refl _) ⟨sp,rfl,rfl⟩
theorem q9:Bg T fz sp 8 1000 (List.range 8) [] [] [dM T fz,Gv sp]:=by
 refine aW λg=>o9 (Ld.v (v:=.pointer none) (.tail _ (.head _)) (ae.EP (Br.yes ?_)));refine aa.fn hnew (zz (n:=8) (cap:=1000) zD zD) ?_;rintro _ C ⟨kp,rfl,hK⟩;refine Ext.two (Nil.ptr (.mk (St.one (c':=#[ptr kp,.map none]) ((cm.head _).tail.ax C) rfl (show 0<2 by decide) rfl ?_)));intro mb _;refine Nil.ptr (.mk (St.one (c':=#[ptr kp,.map (some mb)]) (((cm.head _).tail.ax C).tail) rfl (show 1<2 by decide) rfl ?_));refine aZ.mk (dY:=dM T fz::jd sp kp mb #[] 0 C) (.perm ?_) ⟨rfl,kp,mb,_,_,_,[],_,_,C,rfl,⟨hK,bh.empty,.refl⟩,rfl⟩;refine(xaK (l₁:=(mb,Obj.map #[] 0)::C) (l₂:=[dM T fz,(sp,.cells #[ptr kp,.map (some mb)] 48 zZ)])).trans ?_;exact .refl _
theorem wJ(hB:Bg T fz sp n cap ord F tr H0){text:List UInt8}(hl:400<text.length):
  Fc zQ 8 #[ptr sp,ah text] H0 (λr H=>r=eL [] 0 13/\eY T fz sp n cap ord F tr H):=by
 refine aW λg=>nv λb1 _=>ae.bB (Br.no (aa.fn (.cons .here) hB ?_));rintro _ H ⟨rfl,hS⟩;refine aA.of (ae.mY (b:=400) (Br.T (aa.eq (dN 0 13 _) ?_)));refine St.whole (r:=cJ [] 0 13) (.head _) rfl rfl (aD _ _ _) (az.whole (r:=cJ [] 0 13) (.head _) rfl ?_);exact aZ.mk .tail ⟨rfl,hS⟩
structure LJ(T:TypeId)(fz:Nat×Nat)(sp n cap:Nat)(ord:zL)(F:FN)(tr:zL)(i:Nat)(ws:List Wd)(m:Nat)(Q:zV->Hp->Prop):Prop where
 h1:∀p,ot m (wq (kG.getD i ([],[])).2 ws) ws=some p->∀H,eY T fz sp n cap ord F tr H->Q (eL [] p 14) H
 h2:ot m (wq (kG.getD i ([],[])).2 ws) ws=none->∀p,nL (cf F) (wq (kG.getD i ([],[])).2 ws) ws=some p->∀H,eY T fz sp n cap ord F tr H->Q (eL [] p 15) H
 h3:ot m (wq (kG.getD i ([],[])).2 ws) ws=none->nL (cf F) (wq (kG.getD i ([],[])).2 ws) ws=none->∀kp mb K S af ns es ck C N av,rS kp n cap K S ord af tr C es ck ns->eB S ns=F->ay 78 4 av ((rdv (wq (kG.getD i ([],[])).2 ws) ws).map gk) N->
  Fc zQ (Cb.getD i 0) #[ptr sp,av] (N++(dM T fz::jd sp kp mb es ck C)) (λr H=>(∃t a e,r=eL t a e)/\∃N' H',H=N'++H'/\Q r H')
theorem DD:(kG.all λc=>decide (c.2.length<=3))=true:=by decide
theorem BC:((List.range 19).all λi=>bE zQ (Cb.getD i 0))=true:=by kernel_rfl
set_option maxHeartbeats 1000000 in
theorem gK(hB:Bg T fz sp n cap ord F tr H0){text:List UInt8}(hl:text.length<=400){w:Wd}{ws:List Wd}(hw:jV 0 none text=w::ws){i:Nat}(hc:cmd w.t=some i){Q:zV->Hp->Prop}
 (E5:(kG.getD i ([],[])).2=[43]->∀B:Hp,Fc zQ 31 #[ah [110],nI ws.length] B (λv H=>v=ah (List.replicate ws.length 110)/\H=B))
 (hQ:LJ T fz sp n cap ord F tr i ws text.length Q):Fc zQ 8 #[ptr sp,ah text] H0 Q:=by
 have hi:=BB hc;have vv:bE zQ (Cb.getD i 0)=true:=xb2.1 BC i (xaP.2 hi);have Hs:(kG.getD i ([],[])).2.length<=3:=by
  have hi':i<kG.length:=hi;rw[xaA,xad hi'];exact xbV (xb2.1 DD _ (xaN hi'))
 obtain⟨Ao,B4⟩:=g7 text 0 none;rw[hw]at Ao B4;rw[xai]at Ao;refine aW λg=>nv λb1 _=>ae.bB (Br.no (aa.fn (.cons .here) hB ?_));rintro _ _ ⟨rfl,kp,mb,K,S,af,ns,es,ck,C,rfl,hI,hF⟩;refine aA.of (ae.mY (b:=400) (Br.F (aa.fq (ob text hl _) ?_)));rintro v H ⟨N,rfl,hs⟩;rw[hw]at hs;refine hs.c6 ?_;rw[xav,xai];refine ae.bN (b:=0) (Br.F ?_);have hv:=(Sl.dV hs zD).mono (B':=N++((b1,Obj.cells #[ah [],nI 0,nI 0] 27 zZ)::(dM T fz::jd sp kp mb es ck C))) λy hy=>xac _ hy;refine ai.sl hv (i:=0) (r:=w.cells) rfl λp hp=>ag.at hp λq hq=>Ld.at (v:=ah w.t) (r:=[nI w.a,nI w.e]) hq (λy hy=>hy) ?_;refine aa.eq (mA sp w.t _) ?_;rw[hc];refine Ext.mk rfl (Ext.mk rfl λIu _=>St.whole (r:=jm sp i) (.head _) rfl rfl (pX sp i) (Br.yes ?_));refine DR.of (R:=[(Iu,.cells (jm sp i).toArray 54 zZ)]) (.ki (.head _)) (Ld.u (v:=ah (kG.getD i ([],[])).2) (.head _) ?_);refine cF.tail hv λv' sC=>aA.of λ_=>?_;refine aa.fq (CC hI.dF (T:=48) (fz:=(0,0)) (kv:=ptr kp) (mb:=mb) (sp:=sp) (.tail _ (xaa _ (.tail _ (.tail _ (.head _))))) (.tail _ (xaa _ (.tail _ (.tail _ (.tail _ (.head _)))))) (kG.getD i ([],[])).2 Hs ws zO (λx hx=>by have:=(B4 x (.tail _ hx)).1;simp only[xco,xa5]at this;omega) (sC.mono λy hy=>.tail _ hy) text.length E5) ?_;have N6:gA ns=cf F:=by rw[AN,hF]
 rw[N6];have hS:eY T fz sp n cap ord F tr (dM T fz::jd sp kp mb es ck C):=⟨kp,mb,K,S,af,ns,es,ck,C,rfl,hI,hF⟩;have bad:∀(p e:Nat) (N2:Hp),e≠0->Q (eL [] p e) (dM T fz::jd sp kp mb es ck C)->∀Cd:Nat,
   St 3 ((Cd,.cells #[ah [],nI 0,nI 0] 27 zZ)::(N2++((Iu,.cells (jm sp i).toArray 54 zZ)::(N++((b1,Obj.cells #[ah [],nI 0,nI 0] 27 zZ)::(dM T fz::jd sp kp mb es ck C)))))) (.pointer (some ⟨Cd,0,none⟩)) (eL [] p e) λLF=>
   ag 2 (.pointer (some ⟨Cd,0,none⟩)) λM5=>Ld LF M5 λM4=>ae .num .neq M4 (iv 0) λM3=>
   Br M3 (az 3 LF (.pointer (some ⟨Cd,0,none⟩)) λM1=>St 3 LF (.pointer (some ⟨b1,0,none⟩)) M1 λMJ=>az 3 MJ (.pointer (some ⟨b1,0,none⟩)) λM0=>aZ Q (.returned M0) MJ) False:=λp e N2 he hq Cd=>by
  refine St.whole (r:=cJ [] p e) (.head _) rfl rfl (aD _ _ _) (Ld.u (v:=nI e) (.head _) (ae.nM (b:=0) (Br.T ?_ he)));refine az.whole (r:=cJ [] p e) (.head _) rfl (St.whole (r:=cJ [] p e) (.tail ((cm.tail ((cm.head _).ax N)).ax N2)) rfl rfl (aD _ _ _) (az.whole (r:=cJ [] p e) (.tail _ (xaa _ (.tail _ (xaa _ (.head _))))) rfl ?_));exact aZ.mk (.skip (.cq (.skip (.cq .tail)))) hq
 have uL:∀{H:Hp} {p v:zV} {K1 K2:Hp->Prop},St 3 H p v K1->(∀X,K1 X->K2 X)->St 3 H p v K2:=λh hk=>by
  obtain⟨b,o,c,T,H',h1,h2,h3,h4,h5,h6⟩:=h;exact⟨b,o,c,T,H',h1,h2,h3,h4,h5,hk _ h6⟩
 have vO:∀{v:zV} {A B:Prop},Br v A False->Br v A B:=λh=>by
  obtain⟨b,rfl,h1,h2⟩:=h;exact⟨b,rfl,h1,λe=>(h2 e).elim⟩
 have u6:∀{H:Hp} {p:zV} {K1 K2:zV->Prop},Ld H p K1->(∀X,K1 X->K2 X)->Ld H p K2:=λh hk=>by
  obtain⟨b,o,c,T,fz,v,h1,h2,h3,h4⟩:=h;exact⟨b,o,c,T,fz,v,h1,h2,h3,hk _ h4⟩
 have vI:∀{j:Nat} {p:zV} {K1 K2:zV->Prop},ag j p K1->(∀X,K1 X->K2 X)->ag j p K2:=λh hk=>by
  obtain⟨b,o,h1,h2⟩:=h;exact⟨b,o,h1,hk _ h2⟩
 have rM:∀{v w:zV} {K1 K2:zV->Prop},ae .num .neq v w K1->(∀X,K1 X->K2 X)->ae .num .neq v w K2:=λh hk=>by
  obtain⟨b,h1,h2⟩:=h;exact⟨b,h1,hk _ h2⟩
 rintro _ H ⟨N2,rfl,hR⟩;rcases hR with⟨p,hp,rfl⟩|⟨hn,p,hp,rfl⟩|⟨hn,Gc,av,rfl,gf⟩
 ·refine⟨.cq (.ki (.head _)),Ext.mk rfl (Ext.mk rfl λCd _ _=>?_)⟩;exact uL (bad p 14 N2 zD (hQ.h1 p hp _ hS) Cd) λX h=>vI h λa h=>u6 h λb h=>rM h λc h=>vO h
 ·refine⟨.cq (.ki (.head _)),Ext.mk rfl (Ext.mk rfl λCd _ _=>?_)⟩;exact uL (bad p 15 N2 zD (hQ.h2 hn p hp _ hS) Cd) λX h=>vI h λa h=>u6 h λb h=>rM h λc h=>vO h
 refine⟨.cq (.ki (.head _)),Ext.mk rfl (Ext.mk rfl λCd _ _=>?_)⟩;refine St.whole (r:=cJ [] 0 0) (.head _) rfl rfl (aD _ _ _) (Ld.u (v:=nI 0) (.head _) (ae.nM (a:=0) (b:=0) (Br.F ?_)));refine Ld.u (v:=.func (.func (Cb.getD i 0)) #[ptr sp] #[]) (.tail _ (xaa _ (.head _))) (bp.of rfl vv ?_);refine aa.pre (H':=(b1,Obj.cells #[ah [],nI 0,nI 0] 27 zZ)::(N2++(dM T fz::jd sp kp mb es ck C))) ((aM.skip (.cA (.skip (.cq (.refl _))) N2)).trans (.perm xbo)) ?_;refine aa.fn (args:=#[ptr sp,av]) (.cons .here) (hQ.h3 hn Gc kp mb K S af ns es ck C N2 av hI hF gf) ?_;rintro _ _ ⟨⟨t,a,e,rfl⟩,N',H',rfl,hq⟩;refine St.whole (r:=cJ t a e) (.head _) rfl rfl (aD _ _ _) (az.whole (r:=cJ t a e) (.head _) rfl ?_);exact aZ.mk (.skip (.cq (.refl _))) hq
end
section
variable {T:TypeId} {fz:Nat×Nat} {sp n cap:Nat} {ord:zL} {F:FN} {tr:zL} {H0:Hp}
def xK(T:TypeId)(fz:Nat×Nat)(sp n cap:Nat)(ord:zL)(F:FN)(tr:zL)(nm l:List UInt8)(iK:Nat)(r:zV)(H:Hp):Prop:=
 (∃a e,Reads n l (.bad a e)/\e≠0/\(r=if e=14\/e=2\/e=7 then eL [] (iK+a) e else eL [] 0 e)/\eY T fz sp n cap ord F tr H)\/
 ∃t l',Reads n l (.ok t l')/\((r=eL (dec (sz n ord (λg=>g=t.fn))) 0 0/\eY T fz sp n cap ord (bQ F nm t.fn) [] H)\/
  (r=eL [] 0 9/\(∃eH,eY T fz sp n cap ord F eH H)/\¬Fits (aC n ord (λg=>(∃p∈F,p.2=g)\/t.ei g)) cap))
theorem r9{nm l:List UInt8}{iK:Nat}{r:zV}{H:Hp}(h:xK T fz sp n cap ord F tr nm l iK r H):∃t a e,r=eL t a e:=by
 rcases h with⟨a,e,_,_,rfl,_⟩|⟨t,l',_,⟨rfl,_⟩|⟨rfl,_⟩⟩
 ·split
  ·exact⟨_,_,_,rfl⟩
  exact⟨_,_,_,rfl⟩
 ·exact⟨_,_,_,rfl⟩
 exact⟨_,_,_,rfl⟩
theorem zj{kp mb:Nat}{K:Kd}{S:Nat->au.Fn}{af:zL}{es:Array MapEntry}{ck:Nat}{ns:NS}{C:Hp}(hI:rS kp n cap K S ord af tr C es ck ns)(hF:eB S ns=F){nm l:List UInt8}{iK:Nat}{r:zV}{H:Hp}
 (h:Iy sp kp mb n cap S ord af tr es ck ns T fz C nm l iK r H):xK T fz sp n cap ord F tr nm l iK r H:=by
 rcases h with⟨a,e,h1,h2,h3,rfl⟩|⟨t,l',h1,⟨x,K',S',es',dO,C',rfl,rfl,KY,hx,hs⟩|⟨K',S',C',eH,rfl,rfl,KY,hs,hno⟩⟩
 ·exact .inl ⟨a,e,h1,h2,h3,kp,mb,K,S,af,ns,es,ck,C,rfl,hI,hF⟩
 ·exact .inr ⟨t,l',h1,.inl ⟨rfl,kp,mb,K',S',af,_,es',dO,C',rfl,KY,by rw[qL,ij hs,hF,hx]⟩⟩
 refine .inr ⟨t,l',h1,.inr ⟨rfl,⟨eH,kp,mb,K',S',af,ns,es,ck,C',rfl,KY,by rw[ij hs,hF]⟩,λhf=>hno ?_⟩⟩;refine Fits.mono (λg hg=>cr (λg h=>?_) hg) hf;refine h.imp ?_ id;rintro⟨x,hx,rfl⟩;obtain⟨p,hp,rfl⟩:=xan.1 hx;exact⟨(p.1,S p.2),by rw[<-hF];exact xan.2 ⟨p,hp,rfl⟩,rfl⟩
theorem mL(hB:Bg T fz sp n cap ord F tr H0){text:List UInt8}(hl:text.length<=400){w:Wd}{ws:List Wd}(hw:jV 0 none text=w::ws)(hc:cmd w.t=none){Q:zV->Hp->Prop}
 (sE:(nY w.t=false\/∀w2 Ch,ws=w2::Ch->w2.t≠[61])->∀H,eY T fz sp n cap ord F tr H->Q (eL [] w.a 15) H)
 (E4:∀w2 Ch,nY w.t=true->ws=w2::Ch->w2.t=[61]->n<=8/\F.length<=1000/\∀r H,xK T fz sp n cap ord F tr w.t (text.drop (w2.e+sN (text.drop w2.e))) (w2.e+sN (text.drop w2.e)) r H->Q r H):
  Fc zQ 8 #[ptr sp,ah text] H0 Q:=by
 obtain⟨Ao,B4⟩:=g7 text 0 none;rw[hw]at Ao B4;rw[xai]at Ao;have Ho:w.t.length<=400:=by
  have:=(B4 w (.head _)).1;simp only[xco,xa5]at this;omega
 refine aW λg=>nv λb1 _=>ae.bB (Br.no (aa.fn (.cons .here) hB ?_));rintro _ _ ⟨rfl,kp,mb,K,S,af,ns,es,ck,C,rfl,hI,hF⟩;have hS:eY T fz sp n cap ord F tr (dM T fz::jd sp kp mb es ck C):=⟨kp,mb,K,S,af,ns,es,ck,C,rfl,hI,hF⟩;refine aA.of (ae.mY (b:=400) (Br.F (aa.fq (ob text hl _) ?_)));rintro v H ⟨N,rfl,hs⟩;rw[hw]at hs;refine hs.c6 ?_;rw[xav,xai];refine ae.bN (b:=0) (Br.F ?_);have F7:=Sl.dV hs zD;refine ai.sl F7 (i:=0) (r:=w.cells) rfl λp hp=>ag.at hp λq hq=>Ld.at (v:=ah w.t) (r:=[nI w.a,nI w.e]) hq (λy hy=>xac _ hy) ?_;refine aa.eq (mA sp w.t _) ?_;rw[hc];refine Ext.mk rfl (Ext.mk rfl λIu _=>St.whole (r:=[ah [],ah [],.nilFunc]) (.head _) rfl rfl pz (Br.no ?_));refine ai.sl F7 (i:=0) (r:=w.cells) rfl λp hp=>ag.at hp λq hq=>Ld.at (v:=ah w.t) (r:=[nI w.a,nI w.e]) hq (λy hy=>.tail _ (xac _ hy)) ?_;refine aa.eq (qq sp w.t Ho _) (Un.not ?_)
 /- a fault -/
 have bad:(nY w.t=false\/∀w2 Ch,ws=w2::Ch->w2.t≠[61])->ai 3 v (nI 0) λMZ=>ag 1 MZ λMY=>Ld ((Iu,.cells #[ah [],ah [],.nilFunc] 54 zZ)::(N++((b1,Obj.cells #[ah [],nI 0,nI 0] 27 zZ)::(dM T fz::jd sp kp mb es ck C)))) MY λMX=>
   aa zQ g 16 #[MX,nI 15] ((Iu,.cells #[ah [],ah [],.nilFunc] 54 zZ)::(N++((b1,Obj.cells #[ah [],nI 0,nI 0] 27 zZ)::(dM T fz::jd sp kp mb es ck C)))) (λMW O8=>
   St 3 O8 (.pointer (some ⟨b1,0,none⟩)) MW λMI=>az 3 MI (.pointer (some ⟨b1,0,none⟩)) λMV=>aZ Q (.returned MV) MI) (dj (aZ Q)):=λhb=>by
  refine ai.sl F7 (i:=0) (r:=w.cells) rfl λp hp=>ag.at hp λq hq=>Ld.at (v:=nI w.a) (r:=[nI w.e]) hq (λy hy=>.tail _ (xac _ hy)) ?_;refine aa.eq (dN w.a 15 _) (St.whole (r:=cJ [] w.a 15) (.tail ((cm.head _).ax N)) rfl rfl (aD _ _ _) (az.whole (r:=cJ [] w.a 15) (.tail _ (xaa _ (.head _))) rfl ?_));exact aZ.mk (.skip (.cq .tail)) (sE hb _ hS)
 cases hnm:nY w.t with
 |false=>
  refine bL.or true (λh=>absurd h zD) rfl λ_=>bL.or true (λh=>absurd h zD) rfl λ_=>Br.yes ?_;exact bad (.inl hnm)
 |true=>
  refine bL.or (decide (ws.length+1<2)) (λ_=>hs.c6 ?_) rfl λ_=>?_
  ·rw[xav,xai];exact ae.fN (b:=2) ⟨rfl,rfl⟩
  rw[show(!true)=false from rfl,xdr];cases ws with
  |nil=>
   refine bL.or true (λh=>absurd h zD) rfl λ_=>Br.yes ?_;exact bad (.inr λ_ _ e=>by cases e)
  |cons w2 Ch=>
   rw[xay (by rw[xai];omega)];refine bL.or (decide (w2.t≠[61])) (λ_=>?_) rfl λ_=>?_
   ·refine ai.sl F7 (i:=1) (r:=w2.cells) rfl λp hp=>ag.at hp λq hq=>Ld.at (v:=ah w2.t) (r:=[nI w2.a,nI w2.e]) hq (λy hy=>.tail _ (xac _ hy)) ?_;exact ae.za (b:=[61]) ⟨rfl,rfl⟩
   rw[xdr];refine Br.dec (λhne=>bad (.inr λ_ _ e=>by cases e;exact hne)) (λheq=>?_);have heq:w2.t=[61]:=xdt.1 heq;obtain⟨NI,pN,E4⟩:=E4 w2 Ch hnm rfl heq;have HQ:w2.e<=text.length:=by have:=(B4 w2 (.tail _ (.head _))).2;omega
   have Dr:=BI (text.drop w2.e);rw[xbu]at Dr;refine DR.of (R:=(b1,Obj.cells #[ah [],nI 0,nI 0] 27 zZ)::N) (.skip ((aM.perm xaK).trans (.cons ?_))) ?_
   ·exact .right
   refine ai.sl F7 (i:=0) (r:=w.cells) rfl λp hp=>ag.at hp λq hq=>Ld.at (v:=ah w.t) (r:=[nI w.a,nI w.e]) hq (λy hy=>.tail _ hy) ?_;refine ai.sl F7 (i:=1) (r:=w2.cells) rfl λp hp=>az.at hp rfl zD (λy hy=>.tail _ hy) ?_;refine aa.eq (zb text hl w2 HQ _) ⟨.skip ((aM.perm xaK).trans (.cons .right)),?_⟩;refine aa.fn (args:=#[ptr sp,ah w.t,ah text,nI (w2.e+sN (text.drop w2.e))]) (.cons (.app (.cons .here))) (EJ hI NI (by rw[<-hF]at pN;unfold eB at pN;rw[xav]at pN;exact pN) zO hl) ?_;rintro r H hr;have hq:=E4 r H (zj hI hF hr);obtain⟨t,a,e,rfl⟩:=r9 (zj hI hF hr);refine⟨.skip ((aM.perm xaK).trans (.cons .right)),?_⟩;refine St.whole (r:=cJ t a e) (.tail ((cm.head _).ax N)) rfl rfl (aD _ _ _) (az.whole (r:=cJ t a e) (.tail _ (xaa _ (.head _))) rfl ?_);exact aZ.mk (.skip (.cq .tail)) hq
end
section
variable {T:TypeId} {fz:Nat×Nat} {sp kp mb n cap:Nat} {ord af tr:zL} {F:FN} {K:Kd} {S:Nat->au.Fn} {es:Array MapEntry} {ck:Nat} {ns:NS} {C N:Hp} {av:zV}
def FR(T:TypeId)(fz:Nat×Nat)(sp n cap:Nat)(ord:zL)(F:FN)(nm:List UInt8)(f:au.Fn)(r:zV)(H:Hp):Prop:=
 (r=eL (dec (sz n ord (λg=>g=f))) 0 0/\eY T fz sp n cap ord (bQ F nm f) [] H)\/
 (r=eL [] 0 9/\(∃eH,eY T fz sp n cap ord F eH H)/\¬Fits (aC n ord (λg=>(∃p∈F,p.2=g)\/g=f)) cap)
theorem rS.get(hI:rS kp n cap K S ord af tr C es ck ns)(hF:eB S ns=F){t:List UInt8}{f:au.Fn}(h:aN F t=some f):∃r,aN ns t=some r/\S r=f/\au.live K.N r:=by
 rw[<-hF,kf]at h;cases hr:aN ns t with
 |none=>rw[hr]at h;cases h
 |some r=>
  rw[hr]at h;cases h;exact⟨r,rfl,rfl,pL hI.hb hI.ks (xan.2 ⟨(t,r),(gH hI.dF.nd).1 hr,rfl⟩)⟩
theorem Ez{w0 w1 w2:Wd×Nat}{l:List (Wd×Nat)}{a b:Nat}{B:Hp}(hE:IC es ck ns)(hsp:(sp,Obj.cells #[ptr kp,.map (some mb)] 48 zZ)∈B)(hmb:(mb,Obj.map es ck)∈B)(hv:Sl 4 B av ((w0::w1::w2::l).map gk))(ha:aN ns w1.1.t=some a)(hb:aN ns w2.1.t=some b):
  Rd zQ 97 #[ptr sp,av] B (· =.tuple #[u32 a,u32 b]):=by
 refine aW λg=>xQ (Ld.v (v:=.map (some mb)) hsp ?_);refine ai.sl hv (i:=1) (r:=gk w1) rfl λp hp=>ag.at hp λq hq=>ag.at hq λq2 gP=>Ld.at (v:=ah w1.1.t) (r:=[nI w1.1.a,nI w1.1.e,nI w1.2]) gP (λy hy=>hy) ?_;refine hE.hit (k:=w1.1.t) dw (b:=mb) hmb ha λv Ar=>?_;subst Ar;refine Ld.v (v:=.map (some mb)) hsp ?_;refine ai.sl hv (i:=2) (r:=gk w2) rfl λp hp=>ag.at hp λq hq=>ag.at hq λq2 gP=>Ld.at (v:=ah w2.1.t) (r:=[nI w2.1.a,nI w2.1.e,nI w2.2]) gP (λy hy=>hy) ?_;refine hE.hit (k:=w2.1.t) dw (b:=mb) hmb hb λv Ar=>?_;subst Ar;exact bS.mk (.refl _) rfl
def DM(sG:FuncId)(g:Gh)(a0 a1:zV)(H:Hp)(R:Rt):Prop:=
sY H (.cells #[(.string (ByteArray.mk #[])),(iv 0),(iv 0)] 27 zZ) λb1 H2=>
aa zQ g 97 #[a0,a1] H2 (λv3 H4=>
Ext 0 v3 λv5=>
Ext 1 v3 λv6=>
Nil a0 λv7=>
ag 0 v7 λv8=>
Ld H4 v8 λv9=>
aa zQ g sG #[v9,v5,v6] H4 (λv10 Eu=>
Ext 0 v10 λNg=>
Ext 1 v10 λIS=>
ai 4 a1 (iv 0) λNf=>
ag 0 Nf λJJ=>
ag 0 JJ λJH=>
Ld Eu JH λJG=>
aa zQ g 35 #[a0,JG,Ng,IS] Eu (λJF Pc=>
St 3 Pc (.pointer (some ⟨b1,0,none⟩)) JF λIK=>
az 3 IK (.pointer (some ⟨b1,0,none⟩)) λNb=>
R (.returned Nb) IK) (dj R)) (dj R)) (dj R)
abbrev GF(Q:zV->Hp->Prop):zV->Hp->Prop:=λr H=>(∃t a e,r=eL t a e)/\∃N' H',H=N'++H'/\Q r H'
theorem vJ{nm:List UInt8}{f:au.Fn}{w:zV}{C2:Hp}(hI:rS kp n cap K S ord af tr C es ck ns)(hF:eB S ns=F)(hn:n<=8)(hD:jj kp K S ord af tr f w C2):
  ∃x e,w=.tuple #[u32 x,nI e]/\Fc zQ 35 #[ptr sp,ah nm,u32 x,nI e] (dM T fz::jd sp kp mb es ck C2) (λr H=>(∃t a e,r=eL t a e)/\FR T fz sp n cap ord F nm f r H):=by
 have hK:=hI.ks;rcases hD with⟨x,K',S',rfl,gU,hg⟩|⟨rfl,⟨K',S',eH,gU,_,hk⟩,hno⟩
 ·refine⟨x,0,rfl,?_⟩;have hh:=aI.refl.grow hK.jH hg;rw[xa2]at hh;have Ee:au.live K'.N x:=by
   by_cases h2:2<=x
   ·exact gU.jH x (by rw[hh.hold,xae h2];simp)
   exact .inl zO
  refine Fc.mono (qs gU hI.dF (hI.hb.more hh) Ee hn) ?_;rintro r H ⟨rfl,K2,es',dO,C',eG,rfl,KX,ht⟩;have ht:eG=[]:=ht.elim id id;subst ht;have hs:∀p∈ns,S' p.2=S p.2:=λp hp=>(fF hK gU hh λh2=>ie hI.hb (xan.2 ⟨p,hp,rfl⟩) h2).2;rw[hg.is];exact⟨⟨_,_,_,rfl⟩,.inl ⟨rfl,kp,mb,K2,S',af,_,es',dO,C',rfl,KX,by rw[qL,ij hs,hF,hg.is]⟩⟩
 refine⟨0,9,rfl,Fc.mono (mw zD _) ?_⟩;rintro r H ⟨rfl,rfl⟩;have hh:=aI.refl.kept hk;have hb:=hI.hb.more hh;rw[xaR]at hb;have hs:∀p∈ns,S' p.2=S p.2:=λp hp=>(fF hK gU hh λh2=>ie hI.hb (xan.2 ⟨p,hp,rfl⟩) h2).2;refine⟨⟨_,_,_,rfl⟩,.inr ⟨rfl,⟨eH,kp,mb,K',S',af,ns,es,ck,C2,rfl,⟨gU,hI.dF,hb⟩,by rw[ij hs,hF]⟩,λhf=>hno ?_⟩⟩;rw[hI.hb.n,hI.hb.cap];refine Fits.mono (λg hg=>cr (λg h=>?_) hg) hf;refine h.imp (λh=>?_) id;obtain⟨x,hx,rfl⟩:=AM hI.hb g h;obtain⟨p,hp,rfl⟩:=xan.1 hx;exact⟨(p.1,S p.2),by rw[<-hF];exact xan.2 ⟨p,hp,rfl⟩,rfl⟩
theorem sO{sG:FuncId}{g:Gh}{w0 w1 w2:Wd×Nat}{a b:Nat}{f:au.Fn}(hI:rS kp n cap K S ord af tr C es ck ns)(hF:eB S ns=F)(hn:n<=8)(gf:ay 78 4 av ([w0,w1,w2].map gk) N)(ha:aN ns w1.1.t=some a)(hb:aN ns w2.1.t=some b)
 (hop:Fc zQ sG #[ptr kp,u32 a,u32 b] C (jj kp K S ord af tr f)):DM sG g (ptr sp) av (N++(dM T fz::jd sp kp mb es ck C)) (aZ (GF (FR T fz sp n cap ord F w0.1.t f))):=by
 intro b1 _;have hv:=(Sl.dV gf zD).mono (B':=(b1,Obj.cells #[ah [],nI 0,nI 0] 27 zZ)::(N++(dM T fz::jd sp kp mb es ck C))) λy hy=>.tail _ (xac _ hy);refine aa.eq (Ez hI.dF (.tail _ (xaa _ (.tail _ (.head _)))) (.tail _ (xaa _ (.tail _ (.tail _ (.head _))))) hv ha hb) (Ext.two ?_);refine Ld.v (v:=ptr kp) (.tail _ (xaa _ (.tail _ (.head _)))) ?_;refine aa.fn (args:=#[ptr kp,u32 a,u32 b]) (.cons (.app (.cons (.cons (.cons .here))))) hop ?_;intro w C2 hD;obtain⟨x,e,rfl,hmk⟩:=vJ (T:=T) (fz:=fz) (sp:=sp) (mb:=mb) (nm:=w0.1.t) hI hF hn hD;apply Ext.two;refine ai.sl (Sl.dV gf zD) (i:=0) (r:=gk w0) rfl λp hp=>ag.at hp λq hq=>ag.at hq λq2 gP=>Ld.at (v:=ah w0.1.t) (r:=[nI w0.1.a,nI w0.1.e,nI w0.2]) gP (λy hy=>.tail _ (xac _ hy)) ?_;refine aa.fn (args:=#[ptr sp,ah w0.1.t,u32 x,nI e]) (.cons (.app .here)) hmk ?_;rintro _ H ⟨⟨t,a',e',rfl⟩,hq⟩;refine St.whole (r:=cJ t a' e') (.head _) rfl rfl (aD _ _ _) (az.whole (r:=cJ t a' e') (.head _) rfl ?_);exact aZ.mk .tail ⟨⟨_,_,_,rfl⟩,N,H,rfl,hq⟩
theorem Bm{w0 w1 w2:Wd×Nat}{fa fb:au.Fn}(hI:rS kp n cap K S ord af tr C es ck ns)(hF:eB S ns=F)(hn:n<=8)(hm:ns.length<=1000)(gf:ay 78 4 av ([w0,w1,w2].map gk) N)(ha:aN F w1.1.t=some fa)(hb:aN F w2.1.t=some fb){i k:Nat}(Gi:(i=1/\k=5)\/(i=2/\k=7)\/(i=3/\k=6)):
  Fc zQ (Cb.getD i 0) #[ptr sp,av] (N++(dM T fz::jd sp kp mb es ck C)) (GF (FR T fz sp n cap ord F w0.1.t (λx=>(zw k).testBit (2*(fa x).toNat+(fb x).toNat)))):=by
 obtain⟨a,h1,rfl,hla⟩:=hI.get hF ha;obtain⟨b,h2,rfl,hlb⟩:=hI.get hF hb;have Ic:2^n<=2^8:=xaI zD hn;have hB:∀s,K.hold s+2^K.n<=65535:=λs=>by
  have:=AL hI.hb s;rw[xav]at this;have e:K.n=n:=hI.hb.n;rw[e];omega
 rcases Gi with⟨rfl,rfl⟩|⟨rfl,rfl⟩|⟨rfl,rfl⟩
 ·exact aW λg=>yg (show DM 98 g _ _ _ _ from sO hI hF hn gf h1 h2 (vH hI.ks hla hlb hB))
 ·exact aW λg=>yf (show DM 99 g _ _ _ _ from sO hI hF hn gf h1 h2 (A6 hI.ks hla hlb hB))
 exact aW λg=>ye (show DM 100 g _ _ _ _ from sO hI hF hn gf h1 h2 (vA hI.ks hla hlb hB))
theorem Bk{w0 w1:Wd×Nat}{fa:au.Fn}(hI:rS kp n cap K S ord af tr C es ck ns)(hF:eB S ns=F)(hn:n<=8)(hm:ns.length<=1000)(gf:ay 78 4 av ([w0,w1].map gk) N)(ha:aN F w1.1.t=some fa):
  Fc zQ (Cb.getD 4 0) #[ptr sp,av] (N++(dM T fz::jd sp kp mb es ck C)) (GF (FR T fz sp n cap ord F w0.1.t (λx=> !fa x))):=by
 obtain⟨a,h1,rfl,hla⟩:=hI.get hF ha;have Ic:2^n<=2^8:=xaI zD hn;have hB:∀s,K.hold s+2^K.n<=65535:=λs=>by
  have:=AL hI.hb s;rw[xav]at this;have e:K.n=n:=hI.hb.n;rw[e];omega
 refine aW λg=>yd λb1 _=>DR.of (R:=N++[dM T fz,(sp,.cells #[ptr kp,.map (some mb)] 48 zZ),(mb,.map es ck)]) (.skip (.cA (.cons (.cons (.cons .nil))) N)) ?_;refine Ld.v (v:=ptr kp) (xaa _ (.tail _ (.head _))) (Ld.v (v:=.map (some mb)) (xaa _ (.tail _ (.head _))) ?_);have hv:=(Sl.dV gf zD);refine ai.sl hv (i:=1) (r:=gk w1) rfl λp hp=>ag.at hp λq hq=>ag.at hq λq2 gP=>Ld.at (v:=ah w1.1.t) (r:=[nI w1.1.a,nI w1.1.e,nI w1.2]) gP (λy hy=>xac _ hy) ?_;refine hI.dF.hit (k:=w1.1.t) dw (b:=mb) (xaa _ (.tail _ (.tail _ (.head _)))) h1 λv Ar=>?_;subst Ar;refine aa.fn (args:=#[ptr kp,u32 a]) (.cons (.app (.cons (.cons (.cons .here))))) (vR hI.ks hla hB) ?_;intro w C2 hD;obtain⟨x,e,rfl,hmk⟩:=vJ (T:=T) (fz:=fz) (sp:=sp) (mb:=mb) (nm:=w0.1.t) hI hF hn hD;refine⟨.skip (.cA (.cons (.cons (.cons .nil))) N),Ext.two ?_⟩;refine ai.sl hv (i:=0) (r:=gk w0) rfl λp hp=>ag.at hp λq hq=>ag.at hq λq2 gP=>Ld.at (v:=ah w0.1.t) (r:=[nI w0.1.a,nI w0.1.e,nI w0.2]) gP (λy hy=>.tail _ (xac _ hy)) ?_;refine aa.fn (args:=#[ptr sp,ah w0.1.t,u32 x,nI e]) (.cons (.app .here)) hmk ?_;rintro _ H ⟨⟨t,a',e',rfl⟩,hq⟩;refine St.whole (r:=cJ t a' e') (.head _) rfl rfl (aD _ _ _) (az.whole (r:=cJ t a' e') (.head _) rfl ?_);exact aZ.mk .tail ⟨⟨_,_,_,rfl⟩,N,H,rfl,hq⟩
end
section
variable {T:TypeId} {fz:Nat×Nat} {sp kp mb n cap:Nat} {ord af tr:zL} {F:FN} {K:Kd} {S:Nat->au.Fn} {es:Array MapEntry} {ck:Nat} {ns:NS} {C N H0:Hp} {av:zV}
theorem y4(b:Bool)(B:Hp):Rd zQ 106 #[.bool b] B (· =ah [if b then 49 else 48]):=by
 refine aW λg=>uE ?_;cases b
 ·exact Br.no (bS.mk (.refl _) rfl)
 exact Br.yes (bS.mk (.refl _) rfl)
theorem xw{w0 w1:Wd×Nat}{fa fb:au.Fn}(hI:rS kp n cap K S ord af tr C es ck ns)(hF:eB S ns=F)(gf:ay 78 4 av ([w0,w1].map gk) N)(ha:aN F w0.1.t=some fa)(hb:aN F w1.1.t=some fb):
  Fc zQ (Cb.getD 10 0) #[ptr sp,av] (N++(dM T fz::jd sp kp mb es ck C)) (GF (λr H=>∃b:Bool,r=eL [if b then 49 else 48] 0 0/\(b=true↔fa=fb)/\eY T fz sp n cap ord F tr H)):=by
 obtain⟨a,h1,rfl,hla⟩:=hI.get hF ha;obtain⟨b,h2,rfl,hlb⟩:=hI.get hF hb;have hK:=hI.ks;have hv:=(Sl.dV gf zD);have mem:∀{x:Nat×Obj},x∈[dM T fz,(sp,.cells #[ptr kp,.map (some mb)] 48 zZ),(mb,.map es ck)]->x∈N++[dM T fz,(sp,.cells #[ptr kp,.map (some mb)] 48 zZ),(mb,.map es ck)]:=λh=>xaa _ h;refine aW λg=>yb λb1 _=>DR.of (R:=N++[dM T fz,(sp,.cells #[ptr kp,.map (some mb)] 48 zZ),(mb,.map es ck)]) (.skip (.cA (.cons (.cons (.cons .nil))) N)) ?_;refine Ld.v (v:=.map (some mb)) (mem (.tail _ (.head _))) ?_;refine ai.sl hv (i:=0) (r:=gk w0) rfl λp hp=>ag.at hp λq hq=>ag.at hq λq2 gP=>Ld.at (v:=ah w0.1.t) (r:=[nI w0.1.a,nI w0.1.e,nI w0.2]) gP (λy hy=>xac _ hy) ?_;refine hI.dF.hit (k:=w0.1.t) dw (b:=mb) (mem (.tail _ (.tail _ (.head _)))) h1 λv Ar=>?_;subst Ar;refine Ld.v (v:=.map (some mb)) (mem (.tail _ (.head _))) ?_;refine ai.sl hv (i:=1) (r:=gk w1) rfl λp hp=>ag.at hp λq hq=>ag.at hq λq2 gP=>Ld.at (v:=ah w1.1.t) (r:=[nI w1.1.a,nI w1.1.e,nI w1.2]) gP (λy hy=>xac _ hy) ?_;refine hI.dF.hit (k:=w1.1.t) dw (b:=mb) (mem (.tail _ (.tail _ (.head _)))) h2 λv Ar=>?_;subst Ar;refine ae.bN (aa.eq (y4 _ _) ⟨.skip (.cA (.cons (.cons (.cons .nil))) N),aa.eq (pq _ 0 _) ⟨.skip (.cA (.cons (.cons (.cons .nil))) N),?_⟩⟩);generalize Og:decide (a=b)=bb;refine St.whole (r:=cJ [if bb then 49 else 48] 0 0) (.head _) rfl rfl (aD _ _ _) (az.whole (r:=cJ [if bb then 49 else 48] 0 0) (.head _) rfl ?_);refine aZ.mk .tail ⟨⟨_,_,_,rfl⟩,N,_,rfl,bb,rfl,?_,kp,mb,K,S,af,ns,es,ck,C,rfl,hI,hF⟩;rw[<-Og,xaD];exact⟨λe=>by rw[e],λe=>hK.ok.wf.canon hK.ok.lv hK.ok.mid.int _ a b (xak _) hla hlb λz=>by rw[e]⟩
theorem xu{w0:Wd×Nat}{fa:au.Fn}(hI:rS kp n cap K S ord af tr C es ck ns)(hF:eB S ns=F)(gf:ay 78 4 av ([w0].map gk) N)(ha:aN F w0.1.t=some fa)(hs:sat n fa<100):
  Fc zQ (Cb.getD 8 0) #[ptr sp,av] (N++(dM T fz::jd sp kp mb es ck C)) (GF (λr H=>r=eL (dec (sat n fa)) 0 0/\eY T fz sp n cap ord F tr H)):=by
 obtain⟨a,h1,rfl,hla⟩:=hI.get hF ha;have hK:=hI.ks;have hv:=(Sl.dV gf zD);have mem:∀{x:Nat×Obj},x∈[dM T fz,(sp,.cells #[ptr kp,.map (some mb)] 48 zZ),(mb,.map es ck)]->x∈N++[dM T fz,(sp,.cells #[ptr kp,.map (some mb)] 48 zZ),(mb,.map es ck)]:=λh=>xaa _ h;refine aW λg=>yc λb1 _=>DR.of (R:=N++[dM T fz,(sp,.cells #[ptr kp,.map (some mb)] 48 zZ),(mb,.map es ck)]) (.skip (.cA (.cons (.cons (.cons .nil))) N)) ?_;refine Ld.v (v:=ptr kp) (mem (.tail _ (.head _))) (Ld.v (v:=.map (some mb)) (mem (.tail _ (.head _))) ?_);refine ai.sl hv (i:=0) (r:=gk w0) rfl λp hp=>ag.at hp λq hq=>ag.at hq λq2 gP=>Ld.at (v:=ah w0.1.t) (r:=[nI w0.1.a,nI w0.1.e,nI w0.2]) gP (λy hy=>xac _ hy) ?_;refine hI.dF.hit (k:=w0.1.t) dw (b:=mb) (mem (.tail _ (.tail _ (.head _)))) h1 λv Ar=>?_;subst Ar;refine aa.eh (args:=#[ptr kp,u32 a]) (.cons (.app (.cons (.cons (.cons .here))))) (Bu hK hla) ⟨.skip (.cA (.cons (.cons (.cons .nil))) N),Ext.two ?_⟩;rw[show K.n=n from hI.hb.n,xbb (show sat n (S a)<r4 by have:r4=18446744073709551616:=rfl;omega)];refine aa.eq (Bi hs _) (aa.eq (pq _ 0 _) ?_);refine St.whole (r:=cJ (dec (sat n (S a))) 0 0) (.head _) rfl rfl (aD _ _ _) (az.whole (r:=cJ (dec (sat n (S a))) 0 0) (.head _) rfl ?_);exact aZ.mk .tail ⟨⟨_,_,_,rfl⟩,N,_,rfl,rfl,kp,mb,K,S,af,ns,es,ck,C,rfl,hI,hF⟩
theorem j6{s:List UInt8}{ws:List Wd}(h:s≠[43]):wq s ws=s:=by unfold wq;rw[xab h]
theorem mW{t:List UInt8}(h:cf F t=true):∃f,aN F t=some f:=by
 unfold cf at h;cases hm:aN F t with
 |none=>rw[hm]at h;cases h
 |some f=>exact⟨f,rfl⟩
def O0(T:TypeId)(fz:Nat×Nat)(sp n cap:Nat)(ord:zL)(F:FN)(tr:zL)(x y:List UInt8)(r:zV)(H:Hp):Prop:=
 ∃t a e,r=eL t a e/\eY T fz sp n cap ord F tr H/\∀fx fy,aN F x=some fx->aN F y=some fy->e=0/\((t=[49]/\fx=fy)\/(t=[48]/\fx≠fy))
theorem ko(hB:Bg T fz sp n cap ord F tr H0){text:List UInt8}{w x y:Wd}(hl:text.length<=400)(hw:jV 0 none text=[w,x,y])(hc:cmd w.t=some 10)(hr:ot text.length [115,115] [x,y]=none):
  Fc zQ 8 #[ptr sp,ah text] H0 (O0 T fz sp n cap ord F tr x.t y.t):=by
 refine gK hB hl hw hc (λh=>absurd h zD) ⟨λp hp=>?_,λ_ p hp H hS=>?_,λ_ hn kp mb K S af ns es ck C N av hI hF gf=>?_⟩
 ·rw[j6 zD]at hp;have:ot text.length [115,115] [x,y]=some p:=hp;rw[hr]at this;cases this
 ·refine⟨_,_,_,rfl,hS,λfx fy h1 h2=>?_⟩;rw[j6 zD]at hp;have hp:nL (cf F) [115,115] [x,y]=some p:=hp;have e1:cf F x.t=true:=by unfold cf;rw[h1];rfl
  have e2:cf F y.t=true:=by unfold cf;rw[h2];rfl
  simp[nL,e1,e2]at hp
 rw[j6 zD]at hn gf;have hn:nL (cf F) [115,115] [x,y]=none:=hn;have e1:cf F x.t=true:=by
  cases h:cf F x.t with
  |true=>rfl
  |false=>simp[nL,h]at hn
 have e2:cf F y.t=true:=by
  cases h:cf F y.t with
  |true=>rfl
  |false=>simp[nL,h,e1]at hn
 obtain⟨fx,hx⟩:=mW e1;obtain⟨fy,hy⟩:=mW e2;refine Fc.mono (xw hI hF (w0:=(x,_)) (w1:=(y,_)) gf hx hy) ?_;rintro r H ⟨h,N',H',rfl,b,rfl,hb,hS⟩;refine⟨h,N',H',rfl,_,_,_,rfl,hS,λPZ PY h1 h2=>⟨rfl,?_⟩⟩;rw[hx]at h1;rw[hy]at h2;cases h1;cases h2;cases b with
 |true=>exact .inl ⟨rfl,hb.1 rfl⟩
 |false=>exact .inr ⟨rfl,λe=>by have:=hb.2 e;cases this⟩
theorem wI(hB:Bg T fz sp n cap ord F tr H0){text:List UInt8}{w x:Wd}{f:au.Fn}(hl:text.length<=400)(hw:jV 0 none text=[w,x])(hc:cmd w.t=some 8)(hr:ot text.length [115] [x]=none)(hx:aN F x.t=some f)(hs:sat n f<100):
  Fc zQ 8 #[ptr sp,ah text] H0 (λr H=>r=eL (dec (sat n f)) 0 0/\eY T fz sp n cap ord F tr H):=by
 have e1:cf F x.t=true:=by unfold cf;rw[hx];rfl
 refine gK hB hl hw hc (λh=>absurd h zD) ⟨λp hp=>?_,λ_ p hp H hS=>?_,λ_ hn kp mb K S af ns es ck C N av hI hF gf=>?_⟩
 ·rw[j6 zD]at hp;have:ot text.length [115] [x]=some p:=hp;rw[hr]at this;cases this
 ·rw[j6 zD]at hp;have hp:nL (cf F) [115] [x]=some p:=hp;simp[nL,e1]at hp
 rw[j6 zD]at gf;exact xu hI hF (w0:=(x,_)) gf hx hs
theorem z5(hB:Bg T fz sp n cap ord F tr H0){text:List UInt8}{w z x y:Wd}{fx fy:au.Fn}{i k:Nat}(Gi:(i=1/\k=5)\/(i=2/\k=7)\/(i=3/\k=6))(hn:n<=8)(hm:F.length<=1000)(hl:text.length<=400)(hw:jV 0 none text=[w,z,x,y])(hc:cmd w.t=some i)(hr:ot text.length [100,115,115] [z,x,y]=none)(hx:aN F x.t=some fx)(hy:aN F y.t=some fy):
  Fc zQ 8 #[ptr sp,ah text] H0 (FR T fz sp n cap ord F z.t (λv=>(zw k).testBit (2*(fx v).toNat+(fy v).toNat))):=by
 have e1:cf F x.t=true:=by unfold cf;rw[hx];rfl
 have e2:cf F y.t=true:=by unfold cf;rw[hy];rfl
 have hsh:(kG.getD i ([],[])).2=[100,115,115]:=by rcases Gi with⟨rfl,_⟩|⟨rfl,_⟩|⟨rfl,_⟩<;>rfl
 have Lg:wq (kG.getD i ([],[])).2 [z,x,y]=[100,115,115]:=by rw[hsh];exact j6 zD
 refine gK hB hl hw hc (λh=>absurd h (by rw[hsh];decide)) ⟨λp hp=>?_,λ_ p hp H hS=>?_,λ_ hn' kp mb K S af ns es ck C N av hI hF gf=>?_⟩
 ·rw[Lg,hr]at hp;cases hp
 ·rw[Lg]at hp;simp[nL,e1,e2]at hp
 rw[Lg]at gf;exact Bm hI hF hn (by rw[<-hF]at hm;unfold eB at hm;rw[xav]at hm;exact hm) (w0:=(z,_)) (w1:=(x,_)) (w2:=(y,_)) gf hx hy Gi
theorem z2(hB:Bg T fz sp n cap ord F tr H0){text:List UInt8}{w z x:Wd}{fx:au.Fn}(hn:n<=8)(hm:F.length<=1000)(hl:text.length<=400)(hw:jV 0 none text=[w,z,x])(hc:cmd w.t=some 4)(hr:ot text.length [100,115] [z,x]=none)(hx:aN F x.t=some fx):
  Fc zQ 8 #[ptr sp,ah text] H0 (FR T fz sp n cap ord F z.t (λv=> !fx v)):=by
 have e1:cf F x.t=true:=by unfold cf;rw[hx];rfl
 refine gK hB hl hw hc (λh=>absurd h zD) ⟨λp hp=>?_,λ_ p hp H hS=>?_,λ_ hn' kp mb K S af ns es ck C N av hI hF gf=>?_⟩
 ·rw[j6 zD]at hp;have:ot text.length [100,115] [z,x]=some p:=hp;rw[hr]at this;cases this
 ·rw[j6 zD]at hp;have hp:nL (cf F) [100,115] [z,x]=some p:=hp;simp[nL,e1]at hp
 rw[j6 zD]at gf;exact Bk hI hF hn (by rw[<-hF]at hm;unfold eB at hm;rw[xav]at hm;exact hm) (w0:=(z,_)) (w1:=(x,_)) gf hx
end
end
section
open Fm au
def F5(f:Nat->Bool):Nat->Nat
 |0=>0
 |m+1=>F5 f m+if f m then 2^m else 0
theorem zR(f:Nat->Bool):∀m,F5 f m<2^m
 |0=>by show 0<1;decide
 |m+1=>by
  have:=zR f m;unfold F5;rw[xcl];split<;>omega
theorem uY(f:Nat->Bool):∀m j,j<m->(F5 f m).testBit j=f j
 |m+1,j,h=>by
  have hl:=zR f m;unfold F5;by_cases hj:j=m
  ·subst hj;cases hf:f j with
   |true=>simp only[xaS];rw[xcE,Nat.testBit_two_pow_add_eq,xcd hl];rfl
   |false=>simp only[xas,xaG,xci];exact xcd hl
  ·have ih:=uY f m j zO;cases hf:f m with
   |true=>simp only[xaS];rw[xcE,Nat.testBit_two_pow_add_gt zO];exact ih
   |false=>simp only[xas,xaG,xci];exact ih
theorem Fm.Tr.cM{n:Nat}:∀{t:Tr},t.Fit n->∀x,t.fn (x%2^n)=t.fn x
 | .c k,_,x=>rfl
 | .v m,h,x=>by
  have hm:m<n:=h;show(x%2^n).testBit m=x.testBit m;rw[xa4];simp[hm]
 | .no a,h,x=>by show(!a.fn (x%2^n))= !a.fn x;rw[cM (t:=a) h]
 | .bin k a b,h,x=>by
  show(zw k).testBit (2*(a.fn (x%2^n)).toNat+(b.fn (x%2^n)).toNat)=(zw k).testBit (2*(a.fn x).toNat+(b.fn x).toNat);rw[cM (t:=a) h.2.1,cM (t:=b) h.2.2]
 | .ite a b d,h,x=>by
  show(if a.fn (x%2^n)then b.fn (x%2^n)else d.fn (x%2^n))=if a.fn x then b.fn x else d.fn x
  rw[cM (t:=a) h.1,cM (t:=b) h.2.1,cM (t:=d) h.2.2]
theorem Fm.Tr.eJ{n:Nat}{g:Nat->Bool}:∀{t:Tr},t.Fit n->t.ei g->∀x,g (x%2^n)=g x
 | .c k,h,hg,x=>by subst hg;exact Tr.cM (t:=.c k) h x
 | .v m,h,hg,x=>by subst hg;exact Tr.cM (t:=.v m) h x
 | .no a,h,hg,x=>by
  rcases hg with rfl|hg
  ·exact Tr.cM (t:=.no a) h x
  exact eJ (t:=a) h hg x
 | .bin k a b,h,hg,x=>by
  rcases hg with rfl|hg|hg
  ·exact Tr.cM (t:=.bin k a b) h x
  ·exact eJ (t:=a) h.2.1 hg x
  exact eJ (t:=b) h.2.2 hg x
 | .ite a b d,h,hg,x=>by
  rcases hg with rfl|hg|hg|hg
  ·exact Tr.cM (t:=.ite a b d) h x
  ·exact eJ (t:=a) h.1 hg x
  ·exact eJ (t:=b) h.2.1 hg x
  exact eJ (t:=d) h.2.2 hg x
section
variable {n:Nat} {ord:zL}
theorem Cw(hn:n<=16){f:au.Fn}(hf:∀x,f (x%2^n)=f x):∃ws,cI.iO n ws/\fo n ws=f:=
 ⟨gM n λi=>F5 (λj=>f (64*i+j)) 64,oJ hn,rf (λx _=>by rw[uY _ _ _ (xbG _ zD),xc7]) hf⟩
theorem zg{L:List (zL)}(hn:n<=8)(Gd:1<=n)(hf:∀t∈L,cI.iO n t)(hp:ord.Perm (List.range n)):gE n ord L n<=127*L.length+2:=by
 have h1:=om n ord L (n-1);have h2:=z8 (L:=L) hf zO Gd hp;have h4:2^(n-1)*L.length<=128*L.length:=xa7 _ (xbs (xaI zD (show n-1<=7 by omega)) zD);have e:gE n ord L n=gE n ord L (n-1)+(lR n ord L (n-1)).length:=by
  obtain⟨m,rfl⟩:∃m,n=m+1:=⟨n-1,by omega⟩;rfl
 rw[e];omega
theorem DC(hn:n<=8)(Gd:1<=n)(L:List au.Fn)(hL:∀f∈L,∀x,f (x%2^n)=f x){P:au.Fn->Prop}(hP:∀g,P g->g∈L):∃Ts:List (zL),Ts.length=L.length/\(∀t∈Ts,cI.iO n t)/\∀g,P g->FT n Ts g:=by
 have key:∀L:List au.Fn,(∀f∈L,∀x,f (x%2^n)=f x)->∃Ts:List (zL),Ts.length=L.length/\(∀t∈Ts,cI.iO n t)/\∀g∈L,FT n Ts g:=by
  intro L;induction L with
  |nil=>exact λ_=>⟨[],rfl,nofun,nofun⟩
  |cons f L ih=>
   intro h;obtain⟨Ts,h1,h2,h3⟩:=ih λg hg=>h g (.tail _ hg);obtain⟨ws,hw,e⟩:=Cw zO (h f (.head _));refine⟨ws::Ts,by simp[h1],λt ht=>?_,λg hg=>?_⟩
   ·rcases xaf.1 ht with rfl|ht
    ·exact hw
    exact h2 t ht
   rcases xaf.1 hg with rfl|hg
   ·exact⟨ws,.head _,e.symm⟩
   obtain⟨t,ht,e'⟩:=h3 g hg;exact⟨t,.tail _ ht,e'⟩
 obtain⟨Ts,h1,h2,h3⟩:=key L hL;exact⟨Ts,h1,h2,λg hg=>h3 g (hP g hg)⟩
theorem rj(hn:n<=8)(Gd:1<=n)(hp:ord.Perm (List.range n))(L:List au.Fn)(hL:∀f∈L,∀x,f (x%2^n)=f x){c:Nat}(hc:127*L.length+4<=c){P:au.Fn->Prop}(hP:∀g,P g->g∈L):Fits (aC n ord P) c:=by
 obtain⟨Ts,h1,h2,h3⟩:=DC hn Gd L hL hP;have hs:=zg (ord:=ord) hn Gd h2 hp;exact Fits.mono (λg hg=>cr (G:=FT n Ts) h3 hg) ⟨_,Bz h2 zO (uT hp),by omega⟩
end
end
section
open Fm Sw au
section
variable {T:TypeId} {fz:Nat×Nat} {sp kp mb n cap:Nat} {ord af tr:zL} {F:FN} {K:Kd} {S:Nat->au.Fn} {es:Array MapEntry} {ck:Nat} {ns:NS} {C N H0:Hp} {av:zV}
def IB(T:TypeId)(fz:Nat×Nat)(sp n cap:Nat)(ord:zL)(F:FN)(tr:zL)(a b:Wd×Nat)(r:zV)(H:Hp):Prop:=
 if a.2<1\/64<a.2 then r=eL [] a.1.a 1/\eY T fz sp n cap ord F tr H else
 if b.2<2\/1048576<b.2 then r=eL [] b.1.a 1/\eY T fz sp n cap ord F tr H else r=eL [] 0 0/\eY T fz sp a.2 b.2 (List.range a.2) [] [] H
theorem Bl{a b:Wd×Nat}(hI:rS kp n cap K S ord af tr C es ck ns)(hF:eB S ns=F)(gf:ay 78 4 av ([a,b].map gk) N):
  Fc zQ (Cb.getD 0 0) #[ptr sp,av] (N++(dM T fz::jd sp kp mb es ck C)) (GF (IB T fz sp n cap ord F tr a b)):=by
 have hv:=(Sl.dV gf zD);have hS:eY T fz sp n cap ord F tr (dM T fz::jd sp kp mb es ck C):=⟨kp,mb,K,S,af,ns,es,ck,C,rfl,hI,hF⟩;refine aW λg=>yh λb1 _=>?_;have sub:∀y∈N,y∈(b1,Obj.cells #[ah [],nI 0,nI 0] 27 zZ)::(N++(dM T fz::jd sp kp mb es ck C)):=λy hy=>.tail _ (xac _ hy);refine ai.sl hv (i:=0) (r:=gk a) rfl λp hp=>ag.at hp λq hq=>Ld.at (v:=nI a.2) (r:=[]) hq sub (ae.fN (b:=1) ?_);refine bL.or (decide (64<a.2)) (λ_=>ai.sl hv (i:=0) (r:=gk a) rfl λp hp=>ag.at hp λq hq=>Ld.at (v:=nI a.2) (r:=[]) hq sub (ae.mY (b:=64) ⟨rfl,rfl⟩)) rfl λ_=>?_;rw[<-xaV];refine Br.dec (λh=>?_) (λh=>?_)
 ·refine ai.sl hv (i:=0) (r:=gk a) rfl λp hp=>ag.at hp λq hq=>ag.at hq λq2 gP=>Ld.at (v:=nI a.1.a) (r:=[nI a.1.e,nI a.2]) gP sub ?_;refine aa.eq (dN a.1.a 1 _) (St.whole (r:=cJ [] a.1.a 1) (.head _) rfl rfl (aD _ _ _) (az.whole (r:=cJ [] a.1.a 1) (.head _) rfl ?_));exact aZ.mk .tail ⟨⟨_,_,_,rfl⟩,N,_,rfl,by unfold IB;rw[xae h];exact⟨rfl,hS⟩⟩
 refine DR.of (R:=N) (.skip .left) ?_;refine ai.sl hv (i:=0) (r:=gk a) rfl λp hp=>ag.at hp λq hq=>Ld.at (v:=nI a.2) (r:=[]) hq (λy hy=>hy) ?_;refine ai.sl hv (i:=1) (r:=gk b) rfl λp hp=>ag.at hp λq hq=>Ld.at (v:=nI b.2) (r:=[]) hq (λy hy=>hy) ?_;by_cases hb:b.2<2\/1048576<b.2
 ·refine aa.eh hnew (ER (n:=a.2) (cap:=b.2) zO) ⟨.skip .left,Ext.two (ae.nM (a:=1) (b:=0) (Br.T ?_))⟩;refine ai.sl hv (i:=1) (r:=gk b) rfl λp hp=>ag.at hp λq hq=>ag.at hq λq2 gP=>Ld.at (v:=nI b.1.a) (r:=[nI b.1.e,nI b.2]) gP sub ?_;refine aa.eq (dN b.1.a 1 _) (St.whole (r:=cJ [] b.1.a 1) (.head _) rfl rfl (aD _ _ _) (az.whole (r:=cJ [] b.1.a 1) (.head _) rfl ?_));exact aZ.mk .tail ⟨⟨_,_,_,rfl⟩,N,_,rfl,by unfold IB;rw[xab h,xae hb];exact⟨rfl,hS⟩⟩
 refine aa.fn hnew (zz (n:=a.2) (cap:=b.2) zO zO) ?_;rintro _ C2 ⟨G9,rfl,hK⟩;refine⟨.cq (.skip .left),Ext.two (ae.nM (a:=0) (b:=0) (Br.F ?_))⟩;refine Nil.ptr (.mk (St.one (c':=#[ptr G9,.map (some mb)]) (((((cm.head _).tail).ax N).tail).ax C2) rfl (show 0<2 by decide) rfl ?_));intro G6 _;refine Nil.ptr (.mk (St.one (c':=#[ptr G9,.map (some G6)]) ((((((cm.head _).tail).ax N).tail).ax C2).tail) rfl (show 1<2 by decide) rfl ?_));refine Build.mk (cs:=cJ [] 0 0) zK (St.whole (r:=cJ [] 0 0) (((cm.head _).ax C2).tail) rfl rfl (aD _ _ _) (az.whole (r:=cJ [] 0 0) (.tail _ (xaa _ (.head _))) rfl ?_));refine aZ.mk (dY:=dM T fz::jd sp G9 G6 #[] 0 C2) ((aM.cons (.cA (.skip (.cq (.cons (.cons .nil)))) C2)).trans (.perm (xaK (l₁:=(G6,Obj.map #[] 0)::C2) (l₂:=[dM T fz,(sp,.cells #[ptr G9,.map (some G6)] 48 zZ)])))) ⟨⟨_,_,_,rfl⟩,[],_,rfl,?_⟩;unfold IB;rw[xab h,xab hb];exact⟨rfl,G9,G6,_,_,_,[],_,_,C2,rfl,⟨hK,bh.empty,.refl⟩,rfl⟩
theorem z3(hB:Bg T fz sp n cap ord F tr H0){text:List UInt8}{w a b:Wd}{x y:Nat}(hl:text.length<=400)(hw:jV 0 none text=[w,a,b])(hc:cmd w.t=some 0)(hr:ot text.length [110,110] [a,b]=none)(hx:EO a.t=some x)(hy:EO b.t=some y):
  Fc zQ 8 #[ptr sp,ah text] H0 (IB T fz sp n cap ord F tr (a,x) (b,y)):=by
 refine gK hB hl hw hc (λh=>absurd h zD) ⟨λp hp=>?_,λ_ p hp H hS=>?_,λ_ hn kp mb K S af ns es ck C N av hI hF gf=>?_⟩
 ·rw[j6 zD]at hp;have:ot text.length [110,110] [a,b]=some p:=hp;rw[hr]at this;cases this
 ·rw[j6 zD]at hp;have hp:nL (cf F) [110,110] [a,b]=some p:=hp;simp[nL]at hp
 rw[j6 zD]at gf;have e:rdv (kG.getD 0 ([],[])).2 [a,b]=[(a,x),(b,y)]:=by
  show [(a,(vU 110 a.t).getD 0),(b,(vU 110 b.t).getD 0)]=_;have ea:vU 110 a.t=some x:=hx;have eb:vU 110 b.t=some y:=hy;rw[ea,eb];rfl
 rw[e]at gf;exact Bl hI hF gf
end
def we:Tr:=.bin 5 (.v 0) (.v 1)
theorem yS:Reads 8 [120,48,32,38,32,120,49] (.ok we []):=by
 have e0:bM [120,48,32,38,32,120,49]=(3,0,2):=rfl;have e1:bM [38,32,120,49]=(5,0,1):=rfl;have e2:bM [120,49]=(3,1,2):=rfl;have ht:cu 0 [120,48,32,38,32,120,49] [⟨3,0,0⟩,⟨5,3,0⟩,⟨3,5,1⟩,⟨0,7,0⟩]:=
  cu.step e0 zD zD (.blank (cu.step e1 zD zD (.blank (cu.step e2 zD zD .fin))))
 refine .mk zD ht (.call (r:=.ok we [⟨0,7,0⟩]) (Ev.up 4 0 zD (λt x l' e m _ h=>?_) (λ_ e=>by cases e) ?_) (Ev.bD rfl .done))
 ·cases e;have:m=0\/m=1\/m=2\/m=3:=by omega
  rcases this with rfl|rfl|rfl|rfl<;>decide
 exact .call (r:=.ok (.v 0) [⟨5,3,0⟩,⟨3,5,1⟩,⟨0,7,0⟩]) (Ev.t5 .done) (.call (.call (r:=.ok (.v 1) [⟨0,7,0⟩]) (Ev.t5 .done) (.call .done .done)) .done)
theorem yT:we.Fit 8:=⟨by decide,(by show 0<8;decide),(by show 1<8;decide)⟩
theorem DQ:fo 8 (gM 8 λ_=>9838263505978427528)=we.fn:=by
 refine rf (λx hx=>?_) (Tr.cM (t:=we) yT);have h:∀x:Fin 256,((λ_=>9838263505978427528:Nat->Nat) (x.1/64)).testBit (x.1%64)=we.fn x.1:=by decide+kernel
 exact h ⟨x,hx⟩
theorem Cj:gE 8 (List.range 8) [gM 8 λ_=>9838263505978427528] 8=2:=by decide+kernel
theorem GH:sz 8 (List.range 8) (λg=>g=we.fn)=2:=by
 have h:=GN (n:=8) (ord:=List.range 8) (L:=[gM 8 λ_=>9838263505978427528]) (λt ht=>by rw[xaH.1 ht];exact oJ zD) zD (uT (.refl _));rw[Cj]at h;have e:FT 8 [gM 8 λ_=>9838263505978427528]=λg=>g=we.fn:=funext λg=>propext ⟨λ⟨t,ht,e⟩=>by rw[e,xaH.1 ht,DQ],λe=>⟨_,.head _,by rw[e,DQ]⟩⟩;rw[<-e];exact h
theorem yQ:sat 8 we.fn=64:=by decide+kernel
theorem Fm.Tr.qo{t:Tr}{n:Nat}(hf:t.Fit n):∀g∈t.all,∀x,g (x%2^n)=g x:=λg hg=>Tr.eJ hf (Tr.dr.2 hg)
section
variable {T:TypeId} {fz:Nat×Nat} {Y:Hp}
theorem yU:Rd zQ 6 #[] (dM T fz::Y) (· =.bool true):=by
 refine aW λg=>BW (aa.fq (uM _) ?_);rintro _ _ ⟨sp,rfl,rfl⟩;refine ae.bB (Br.no (aa.pre (H':=[dM T fz,Gv sp]++Y) .swap ?_));refine aa.fn (args:=#[ptr sp,ah [102,32,61,32,120,48,32,38,32,120,49]]) (.left (C:=[dM T fz,Gv sp])) (mL (Q:=λr H=>r=eL [50] 0 0/\eY T fz sp 8 1000 (List.range 8) [([102],we.fn)] [] H) q9 zD (w:=⟨[102],0,1⟩) (ws:=[⟨[61],2,3⟩,⟨[120,48],4,6⟩,⟨[38],7,8⟩,⟨[120,49],9,11⟩]) zK zK (λh=>?_) (λw2 Ch _ e OL=>?_)) ?_
 ·exfalso;rcases h with h|h
  ·exact absurd h zD
  exact h _ _ rfl rfl
 ·cases e;refine⟨by decide,by decide,λr H hq=>?_⟩;have hr:Reads 8 (List.drop (3+sN (List.drop 3 [102,32,61,32,120,48,32,38,32,120,49])) [102,32,61,32,120,48,32,38,32,120,49]) (.ok we []):=yS;rcases hq with⟨a,e,hb,_⟩|⟨t,l',hr',hq⟩
  ·exact absurd (hr.uniq hb) nofun
  have:=hr.uniq hr';cases this;rcases hq with⟨rfl,hS⟩|⟨_,_,hno⟩
  ·rw[GH];exact⟨rfl,hS⟩
  refine absurd (rj zD zD (.refl _) we.all (Tr.qo yT) (c:=1000) zD (λg hg=>?_)) hno;rcases hg with⟨p,hp,_⟩|hg
  ·cases hp
  exact Tr.dr.1 hg
 rintro _ H1 ⟨rfl,mi⟩;intro b6 _;refine St.whole (r:=cJ [50] 0 0) (.head _) rfl rfl (aD _ _ _) ?_;refine aa.fn (args:=#[ptr sp,ah [115,97,116,115,32,102]]) (.cons .left) (wI mi.bg (w:=⟨[115,97,116,115],0,4⟩) (x:=⟨[102],5,6⟩) zD zK zK zK (f:=we.fn) rfl (by rw[yQ];decide)) ?_;rintro _ H2 ⟨rfl,gT⟩;rw[yQ];intro P9 _;refine St.whole (r:=cJ (dec 64) 0 0) (.head _) rfl rfl (aD _ _ _) ?_;refine Ld.u (v:=ah [50]) (.tail _ (.head _)) (ae.kR (b:=[50]) ?_);refine bL.and true (λ_=>Ld.u (v:=nI 0) (.tail _ (.head _)) (ae.bN (a:=0) (b:=0) ⟨rfl,rfl⟩)) rfl λ_=>?_;refine bL.and true (λ_=>Ld.u (v:=ah (dec 64)) (.head _) (ae.kR (b:=[54,52]) ⟨rfl,rfl⟩)) rfl λ_=>?_;refine bL.and true (λ_=>Ld.u (v:=nI 0) (.head _) (ae.bN (a:=0) (b:=0) ⟨rfl,rfl⟩)) rfl λ_=>?_;obtain⟨kp,mb,K,S,af,ns,es,ck,C,rfl,_⟩:=gT;exact bS.mk (.skip (.skip (.cons (.cq (.refl _))))) rfl
end
section
variable {T:TypeId} {fz:Nat×Nat} {sp n cap:Nat} {ord tr:zL} {F:FN} {H0 Y:Hp}
def GV(l:List UInt8):Bool:=decide (0<l.length) &&decide (l.length<=300) &&decide (l[0]? ≠some 32)
theorem oh(l:List UInt8)(B:Hp):Rd zQ 9 #[ah l] B (· =.bool (GV l)):=by
 refine aW λg=>BU (aA.of (ae.mY (b:=0) (bL.and (decide (l.length<=300)) (λ_=>aA.of (ae.ET (b:=300) ⟨rfl,rfl⟩)) rfl λ_=>?_)));refine bL.and (decide (l[0]? ≠some 32)) (λh=>?_) rfl λ_=>bS.mk (.refl _) rfl;rw[xam,xaD]at h;obtain⟨b,hb,_⟩:=gV (l:=l) (i:=0) h.1;refine aV.of hb (ae.nM (b:=32) ⟨rfl,?_⟩);congr 1;rw[hb];refine xcT.2 ?_;have:=y3 b 32 zD;simp only[ne_eq,xao];rw[this];exact xc0
theorem qz{l:List UInt8}(h:GV l=true):∃b r,l=b::r/\b≠32/\l.length<=300:=by
 unfold GV at h;simp only[xam,xaD]at h;cases l with
 |nil=>simp at h
 |cons b r=>exact⟨b,r,rfl,λe=>h.2 (by rw[e];rfl),h.1.2⟩
theorem kj(hB:Bg T fz sp n cap ord F tr H0){c b:UInt8}{l:List UInt8}(hc:c≠32)(hb:b≠32)(KI:cmd [c]=none)(hnm:nY [c]=true)(hl:l.length+5<=400)(hn:n<=8)(hF:F.length<=1000):
  Fc zQ 8 #[ptr sp,ah (c::32::61::32::b::l)] H0 (xK T fz sp n cap ord F tr [c] (b::l) 4):=by
 have hw:jV 0 none (c::32::61::32::b::l)=⟨[c],0,1⟩::⟨[61],2,3⟩::jV 4 none (b::l):=by
  show(if c=32 then _ else jV 1 (some [c]) (32::61::32::b::l))=_;rw[xab hc];rfl
 refine mL hB (by simp only[xai];omega) hw KI (λh=>?_) (λw2 Ch _ e OL=>?_)
 ·exfalso;rcases h with h|h
  ·rw[hnm]at h;cases h
  exact h _ _ rfl rfl
 cases e;refine⟨hn,hF,λr H hq=>?_⟩;have e4:3+sN (List.drop 3 (c::32::61::32::b::l))=4:=by
  show 3+((if b=32 then _ else 0)+1)=4;rw[xab hb]
 have hq:xK T fz sp n cap ord F tr [c] (List.drop (3+sN (List.drop 3 (c::32::61::32::b::l))) (c::32::61::32::b::l)) (3+sN (List.drop 3 (c::32::61::32::b::l))) r H:=hq;rw[e4]at hq;exact hq
theorem eY.nd(h:eY T fz sp n cap ord F tr H0):(F.map Prod.fst).Nodup:=by
 obtain⟨kp,mb,K,S,af,ns,es,ck,C,rfl,hI,rfl⟩:=h;have e:(eB S ns).map Prod.fst=ns.map Prod.fst:=by unfold eB;rw[xbJ];rfl
 rw[e];exact hI.dF.nd
theorem eY.perm(h:eY T fz sp n cap ord F tr H0):ord.Perm (List.range n):=by
 obtain⟨kp,mb,K,S,af,ns,es,ck,C,rfl,hI,rfl⟩:=h;have:=hI.ks.perm;rwa [show K.n=n from hI.hb.n]at this
structure JI(F:FN)(fa fb:au.Fn):Prop where
 a:aN F [97]=some fa
 b:aN F [98]=some fb
 ks:∀p∈F,p.1∈[[97],[98],[99],[100]]
 md:∀p∈F,∀x,p.2 (x%2^8)=p.2 x
theorem qN{k:List UInt8}{f:au.Fn}{p:List UInt8×au.Fn}(h:p∈bQ F k f):p=(k,f)\/p∈F:=by
 unfold bQ at h;split at h
 ·obtain⟨y,hy,rfl⟩:=xan.1 h;split
  ·exact .inl rfl
  exact .inr hy
 rcases xaw.1 h with h|h
 ·exact .inr h
 exact .inl (xaH.1 h)
theorem JI.set{fa fb f:au.Fn}(h:JI F fa fb){k:List UInt8}(hk:k=[99]\/k=[100])(hf:∀x,f (x%2^8)=f x):JI (bQ F k f) fa fb:=by
 refine⟨by rw[bA,xab (by rcases hk with rfl|rfl<;>decide)];exact h.a,by rw[bA,xab (by rcases hk with rfl|rfl<;>decide)];exact h.b,λp hp=>?_,λp hp=>?_⟩
 ·rcases qN hp with rfl|hp
  ·rcases hk with rfl|rfl<;>simp
  exact h.ks p hp
 rcases qN hp with rfl|hp
 ·exact hf
 exact h.md p hp
theorem JI.len{fa fb:au.Fn}(h:JI F fa fb)(nd:(F.map Prod.fst).Nodup):F.length<=4:=by
 have:=bG nd (l':=[[97],[98],[99],[100]]) (λx hx=>by
  obtain⟨p,hp,rfl⟩:=xan.1 hx;exact h.ks p hp)
 rwa [xav]at this
theorem JI.room{fa fb:au.Fn}(h:JI F fa fb)(hS:eY T fz sp 8 100000 ord F tr H0){L:List au.Fn}(hL:∀f∈L,∀x,f (x%2^8)=f x)(hl:L.length<=700){P:au.Fn->Prop}(hP:∀g,P g->g∈L):Fits (aC 8 ord (λg=>(∃p∈F,p.2=g)\/P g)) 100000:=by
 have h4:=h.len hS.nd;refine rj zD zD hS.perm (F.map Prod.snd++L) (λf hf=>?_) (by rw[xaq,xav];omega) (λg hg=>?_)
 ·rcases xaw.1 hf with hf|hf
  ·obtain⟨p,hp,rfl⟩:=xan.1 hf;exact h.md p hp
  exact hL f hf
 rcases hg with⟨p,hp,rfl⟩|hg
 ·exact xac _ (xan.2 ⟨p,hp,rfl⟩)
 exact xaa _ (hP g hg)
theorem JI.made{fa fb f:au.Fn}(h:JI F fa fb)(hS:eY T fz sp 8 100000 ord F tr H0)(hf:∀x,f (x%2^8)=f x){nm:List UInt8}{r:zV}{H:Hp}(hq:FR T fz sp 8 100000 ord F nm f r H):
  r=eL (dec (sz 8 ord (λg=>g=f))) 0 0/\eY T fz sp 8 100000 ord (bQ F nm f) [] H:=by
 rcases hq with hq|⟨_,_,hno⟩
 ·exact hq
 exact absurd (h.room hS (L:=[f]) (λg hg=>by rw[xaH.1 hg];exact hf) (by show 1<=700;decide) λg hg=>by rw[hg];exact .head _) hno
theorem JI.read{fa fb:au.Fn}(h:JI F fa fb)(hS:eY T fz sp 8 100000 ord F tr H0){l nm:List UInt8}{t:Tr}(hl:l.length<=400)(ht:IE 8 l t){r:zV}{H:Hp}(hq:xK T fz sp 8 100000 ord F tr nm l 4 r H):
  (Reads 8 l (.ok t [])/\r=eL (dec (sz 8 ord (λg=>g=t.fn))) 0 0/\eY T fz sp 8 100000 ord (bQ F nm t.fn) [] H)\/(∃p,r=eL [] p 7/\eY T fz sp 8 100000 ord F tr H):=by
 rcases hq with⟨a,e,hb,_,hr,Om⟩|⟨t',l',hr,hq⟩
 ·rcases ht with h1|⟨p,h1⟩
  ·exact absurd (h1.uniq hb) nofun
  have:=h1.uniq hb;cases this;exact .inr ⟨_,hr.trans (xae (.inr (.inr rfl))),Om⟩
 rcases ht with h1|⟨p,h1⟩
 ·have:=h1.uniq hr;cases this;rcases hq with hq|⟨_,_,hno⟩
  ·exact .inl ⟨h1,hq⟩
  refine absurd (h.room hS (L:=t.all) (Tr.qo (h1.wt λo ho=>ho.len).1) ?_ λg hg=>Tr.dr.1 hg) hno;have:=h1.rp λo ho=>ho.len;omega
 exact absurd (h1.uniq hr) nofun
theorem eY.out{X:Hp}(h:eY T fz sp n cap ord F tr H0):aM (X++(H0++Y)) (dM T fz::Y):=by
 obtain⟨kp,mb,K,S,af,ns,es,ck,C,rfl,_⟩:=h;exact .cq (.cons (.cq (.refl _)))
theorem GG{i:Nat}(hi:i<3):∃(wd:List UInt8) (sg:UInt8) (k lv:Nat),[ah [97,110,100],ah [111,114],ah [120,111,114]][i]? =some (ah wd)/\[ah [38],ah [124],ah [94]][i]? =some (ah [sg])/\wd.length<=3/\((i+1=1/\k=5)\/(i+1=2/\k=7)\/(i+1=3/\k=6))/\LW sg k lv/\
  cmd wd=some (i+1)/\∃w z x y:Wd,jV 0 none (wd++[32,99,32,97,32,98])=[w,z,x,y]/\w.t=wd/\z.t=[99]/\x.t=[97]/\y.t=[98]/\ot (wd++[32,99,32,97,32,98]).length [100,115,115] [z,x,y]=none:=by
 have:i=0\/i=1\/i=2:=by omega
 rcases this with rfl|rfl|rfl
 ·exact⟨[97,110,100],38,5,4,rfl,rfl,by decide,.inl ⟨rfl,rfl⟩,.inl ⟨rfl,rfl,rfl⟩,by kernel_rfl,⟨[97,110,100],0,3⟩,⟨[99],4,5⟩,⟨[97],6,7⟩,⟨[98],8,9⟩,by kernel_rfl,rfl,rfl,rfl,rfl,by kernel_rfl⟩
 ·exact⟨[111,114],124,7,2,rfl,rfl,by decide,.inr (.inl ⟨rfl,rfl⟩),.inr (.inl ⟨rfl,rfl,rfl⟩),by kernel_rfl,⟨[111,114],0,2⟩,⟨[99],3,4⟩,⟨[97],5,6⟩,⟨[98],7,8⟩,by kernel_rfl,rfl,rfl,rfl,rfl,by kernel_rfl⟩
 exact⟨[120,111,114],94,6,3,rfl,rfl,by decide,.inr (.inr ⟨rfl,rfl⟩),.inr (.inr ⟨rfl,rfl,rfl⟩),by kernel_rfl,⟨[120,111,114],0,3⟩,⟨[99],4,5⟩,⟨[97],6,7⟩,⟨[98],8,9⟩,by kernel_rfl,rfl,rfl,rfl,rfl,by kernel_rfl⟩
theorem z4{fa fb:au.Fn}(h:JI F fa fb)(hS:eY T fz sp 8 100000 ord F tr H0){b:UInt8}{l:List UInt8}{t:Tr}(hb:b≠32)(ht:l.length+5<=400->IE 8 (b::l) t):
  Fc zQ 8 #[ptr sp,ah (100::32::61::32::b::l)] H0 (λr H=>(r=eL (dec (sz 8 ord (λg=>g=t.fn))) 0 0/\(∀x,t.fn (x%2^8)=t.fn x)/\eY T fz sp 8 100000 ord (bQ F [100] t.fn) [] H)\/(∃p e,(e=13\/e=7)/\r=eL [] p e/\eY T fz sp 8 100000 ord F tr H)):=by
 by_cases hl:l.length+5<=400
 ·have hlen:=h.len hS.nd;refine Fc.mono (kj hS.bg zD hb zK zK hl zD zO) ?_;intro r H hq;rcases h.read hS (by simp only[xai];omega) (ht hl) hq with⟨h3,h1,h2⟩|⟨p,h1,h2⟩
  ·exact .inl ⟨h1,Tr.cM (h3.wt λo ho=>ho.len).1,h2⟩
  exact .inr ⟨p,7,.inr rfl,h1,h2⟩
 refine Fc.mono (wJ hS.bg (by simp only[xai];omega)) ?_;rintro r H ⟨h1,h2⟩;exact .inr ⟨0,13,.inl rfl,h1,h2⟩
end
section
variable {T:TypeId} {fz:Nat×Nat} {Y:Hp}
abbrev B2(b:Nat)(t:List UInt8)(a e:Nat):Nat×Obj:=(b,.cells (cJ t a e).toArray 27 zZ)
theorem Ir(f g:List UInt8)(sg:UInt8):(((((([100,32,61,32,40]++f)++[41])++[sg])++[40])++g)++[41])=100::32::61::32::40::(f++(41::sg::40::(g++[41]))):=by simp
theorem Iq(f:List UInt8):(([100,32,61,32,33,40]++f)++[41])=100::32::61::32::33::(40::(f++[41])):=by simp
set_option maxHeartbeats 8000000 in
theorem my{f g:List UInt8}:Rd zQ 3 #[ah f,ah g] (dM T fz::Y) (· =.bool true):=by
 refine aW λgh=>BX (aa.eq yU (Un.not (Br.no (aa.fq (uM _) ?_))));rintro _ _ ⟨sp,rfl,rfl⟩;refine aa.pre (H':=[dM T fz,Gv sp]++Y) .swap ?_;refine aa.fn (args:=#[ptr sp,ah [110,101,119,32,56,32,49,48,48,48,48,48]]) (.left (C:=[dM T fz,Gv sp])) (z3 q9 (w:=⟨[110,101,119],0,3⟩) (a:=⟨[56],4,5⟩) (b:=⟨[49,48,48,48,48,48],6,12⟩) (x:=8) (y:=100000) zD zK zK zK zK zK) ?_;rintro v6 HS hq;have hS:eY T fz sp 8 100000 (List.range 8) [] [] HS:=hq.2;clear hq;intro J8 h8;have MB:∀(X HS:Hp) (n cap:Nat) (ord:zL) (F:FN) (tr:zL) (t:Bool),eY T fz sp n cap ord F tr HS->t=true->aZ (λv H=>H=dM T fz::Y/\v=.bool true) (.returned (.bool t)) (X++(HS++Y)):=λX HS n cap ord F tr t h e=>by
  rw[e];exact bS.mk h.out rfl
 have no:∀(HS:Hp) (F:FN) (tr:zL),eY T fz sp 8 100000 (List.range 8) F tr HS->J8 [.bool true] (HS++Y):=λHS F tr h=>h8 _ _ λ_=>Br.yes (MB [] HS _ _ _ _ _ _ h rfl)
 /- both stand -/
 have main:∀(HS:Hp) (tf tg:Tr) (lf lg:List Tok) (b1 b2:UInt8) (f' g':List UInt8),f=b1::f'->g=b2::g'->f.length<=300->g.length<=300->Reads 8 f (.ok tf lf)->Reads 8 g (.ok tg lg)->eY T fz sp 8 100000 (List.range 8) [([97],tf.fn),([98],tg.fn)] [] HS->J8 [.bool false] (HS++Y):=λHS tf tg lf lg b1 b2 f' g' ef eg vp vk Ht IY hS=>by
  refine h8 _ _ λ_=>Br.no ?_;have ff:tf.Fit 8:=(Ht.wt λo ho=>ho.len).1;have fg:tg.Fit 8:=(IY.wt λo ho=>ho.len).1;refine ak.jg (e:=9) (z:=ah []) [ah [97,110,100],ah [111,114],ah [120,111,114]] zK zK zK zD (by intro r hr;simp only[xaf,xat,xaZ]at hr;rcases hr with rfl|rfl|rfl<;>rfl) rfl rfl λbw=>?_;refine ak.jg (e:=9) (z:=ah []) [ah [38],ah [124],ah [94]] zK zK zK zD (by intro r hr;simp only[xaf,xat,xaZ]at hr;rcases hr with rfl|rfl|rfl<;>rfl) rfl rfl λbs=>?_;obtain⟨cw,Mg⟩:∃c:Nat×Obj,c=(bw,Obj.cells #[ah [97,110,100],ah [111,114],ah [120,111,114]] 9 zZ):=⟨_,rfl⟩;obtain⟨cs,hcs⟩:∃c:Nat×Obj,c=(bs,Obj.cells #[ah [38],ah [124],ah [94]] 9 zZ):=⟨_,rfl⟩;have e1:(bs,Obj.cells [ah [38],ah [124],ah [94]].toArray 9 zZ)::(bw,Obj.cells [ah [97,110,100],ah [111,114],ah [120,111,114]].toArray 9 zZ)::(HS++Y)=cs::cw::(HS++Y):=by rw[hcs,Mg]
  rw[e1];refine⟨λvs H=>∃(i:Nat) (HS:Hp) (F:FN) (tr:zL),vs=[nI i]/\i<=3/\H=cs::cw::(HS++Y)/\eY T fz sp 8 100000 (List.range 8) F tr HS/\JI F tf.fn tg.fn,λvs _=>3-dR vs 0,JE.mk ⟨0,HS,_,[],rfl,by decide,rfl,hS,⟨rfl,rfl,λp hp=>?_,λp hp=>?_⟩⟩,?_⟩
  ·simp only[xaf,xat,xaZ]at hp;rcases hp with rfl|rfl<;>simp
  ·simp only[xaf,xat,xaZ]at hp;rcases hp with rfl|rfl
   ·exact Tr.cM ff
   exact Tr.cM fg
  clear hS HS e1;rintro Pn H ⟨i,HS,F,tr,⟨⟩,hi,rfl,hS,hJ⟩ gs;refine bY.mk (ae.fN (b:=3) (Br.dec (λhlt=>?_) (λhge=>?_)))
  ·obtain⟨wd,sg,k,lv,Ap,yK,Ao,Gi,Kg,KI,w,z,x,y,hw,B4,hz,hx,hy,hr⟩:=GG hlt;intro O6 OB;have next:∀(X HS:Hp) (F:FN) (tr:zL),eY T fz sp 8 100000 (List.range 8) F tr HS->JI F tf.fn tg.fn->O6 [] (X++(cs::cw::(HS++Y))):=λX HS F tr h hj=>
    OB _ λ_=>ae.inc (aR.of (.cq (.refl _)) ⟨i+1,HS,F,tr,rfl,hlt,rfl,h,hj⟩ (by simp only[dR];omega))
   refine ai.nat hlt (Ld.mk (v:=ah wd) (.tail _ (by rw[Mg];exact .head _)) (by have:=Ap;simpa using this) ?_);refine ae.eK (b:=[32,99,32,97,32,98]) zP ?_;have Ox:=hJ.len hS.nd;refine aa.fn (args:=#[ptr sp,ah (wd++[32,99,32,97,32,98])]) (.cons (.cons (.left (A:=Y)))) (z5 hS.bg Gi zD zO zP hw (by rw[B4];exact KI) hr (by rw[hx];exact hJ.a) (by rw[hy];exact hJ.b)) ?_;rw[hz];intro r1 H1 E6;have Fe:∀v,(Tr.bin k tf tg).fn (v%2^8)=(Tr.bin k tf tg).fn v:=Tr.cM (t:=.bin k tf tg) ⟨by omega,ff,fg⟩;obtain⟨rfl,mi⟩:=hJ.made (f:=(Tr.bin k tf tg).fn) hS Fe E6;have AT:=hJ.set (k:=[99]) (.inl rfl) Fe;have B7:aN (bQ F [99] (Tr.bin k tf tg).fn) [99]=some (Tr.bin k tf tg).fn:=by rw[bA,xae rfl]
   generalize bQ F [99] (Tr.bin k tf tg).fn=F1 at mi AT B7;generalize hm:sz 8 (List.range 8) (λg=>g=(Tr.bin k tf tg).fn)=m;intro Lr _;refine St.whole (r:=cJ (dec m) 0 0) (.head _) rfl rfl (aD _ _ _) ?_;refine ae.eK (a:=[100,32,61,32,40]) zP (ae.eK (b:=[41]) zP ?_);refine ai.nat hlt (Ld.mk (v:=ah [sg]) (.tail _ (by rw[hcs];exact .head _)) (by have:=yK;simpa using this) ?_);refine ae.eK (b:=[sg]) zP (ae.eK (b:=[40]) zP (ae.eK zP (ae.eK (b:=[41]) zP ?_)));rw[Ir];refine aa.fn (args:=#[ptr sp,ah _]) (.cons (.cons (.cons (.left (A:=Y))))) (z4 AT mi (t:=.bin k tf tg) zD (λhl=>CZ Kg Ht IY (by simp only[xaq,xai,xa5]at hl⊢;omega))) ?_;intro r2 H2 gP;rw[hm]at gP;obtain⟨t2,a2,e2,F2,eG,rfl,gT,yP,Je,AJ⟩:∃t2 a2 e2 F2 eG,r2=eL t2 a2 e2/\eY T fz sp 8 100000 (List.range 8) F2 eG H2/\JI F2 tf.fn tg.fn/\aN F2 [99]=some (Tr.bin k tf tg).fn/\((e2=13\/e2=7)\/(e2=0/\t2=dec m/\aN F2 [100]=some (Tr.bin k tf tg).fn)):=by
    rcases gP with⟨h1,_,h3⟩|⟨p,e,he,h1,h3⟩
    ·exact⟨_,_,_,_,_,h1,h3,AT.set (.inr rfl) Fe,by rw[bA,xab zD];exact B7,.inr ⟨rfl,rfl,by rw[bA,xae rfl]⟩⟩
    exact⟨_,_,_,_,_,h1,h3,AT,B7,.inl he⟩
   intro ME _;refine St.whole (r:=cJ t2 a2 e2) (.head _) rfl rfl (aD _ _ _) ?_;refine aa.fn (args:=#[ptr sp,ah [115,97,109,101,32,99,32,100]]) (.cons (.cons (.cons (.cons (.left (A:=Y)))))) (ko gT.bg (w:=⟨[115,97,109,101],0,4⟩) (x:=⟨[99],5,6⟩) (y:=⟨[100],7,8⟩) zD zK zK zK) ?_;rintro _ H3 ⟨t3,a3,e3,rfl,Ji,h3⟩;intro MD _;refine St.whole (r:=cJ t3 a3 e3) (.head _) rfl rfl (aD _ _ _) ?_;refine Ld.u (v:=nI e2) (.tail _ (.head _)) (ae.bN (b:=13) (bL.or (decide (e2=7)) (λ_=>Ld.u (v:=nI e2) (.tail _ (.head _)) (ae.bN (b:=7) ⟨rfl,rfl⟩)) rfl λ_=>?_));rw[<-xaV];refine Br.dec (λhs=>?_) (λhs=>?_)
   ·exact JE.mk (next [B2 MD t3 a3 e3,B2 ME t2 a2 e2,B2 Lr (dec m) 0 0] H3 F2 eG Ji yP)
   obtain⟨rfl,rfl,hd⟩:=AJ.resolve_left hs;obtain⟨_,h3⟩:=h3 _ _ Je hd;have wT:t3=[49]:=h3.elim (λh=>h.1) λh=>absurd rfl h.2;subst wT;refine Ld.u (v:=nI 0) (.tail _ (.tail _ (.head _))) (ae.nM (a:=0) (b:=0) (bL.or false (λ_=>Ld.u (v:=nI 0) (.tail _ (.head _)) (ae.nM (a:=0) (b:=0) ⟨rfl,rfl⟩)) rfl λ_=>?_));refine bL.or false (λ_=>Ld.u (v:=ah (dec m)) (.tail _ (.tail _ (.head _))) (Ld.u (v:=ah (dec m)) (.tail _ (.head _)) (ae.za ⟨rfl,by rw[xay (λh=>h rfl)]⟩))) rfl λ_=>?_;refine bL.or false (λ_=>Ld.u (v:=ah [49]) (.head _) (ae.za (b:=[49]) ⟨rfl,rfl⟩)) rfl λ_=>Br.no ?_;exact JE.mk (next [B2 MD [49] a3 e3,B2 ME (dec m) a2 0,B2 Lr (dec m) 0 0] H3 F2 eG Ji yP)
  have Ox:=hJ.len hS.nd;have Fe:∀v,(Tr.no tf).fn (v%2^8)=(Tr.no tf).fn v:=Tr.cM (t:=.no tf) ff;refine aa.fn (args:=#[ptr sp,ah [110,111,116,32,99,32,97]]) (.cons (.cons (.left (A:=Y)))) (z2 hS.bg (w:=⟨[110,111,116],0,3⟩) (z:=⟨[99],4,5⟩) (x:=⟨[97],6,7⟩) zD zO zD zK zK zK hJ.a) ?_;intro r1 H1 E6;obtain⟨rfl,mi⟩:=hJ.made (f:=(Tr.no tf).fn) hS Fe E6;have AT:=hJ.set (k:=[99]) (.inl rfl) Fe;have B7:aN (bQ F [99] (Tr.no tf).fn) [99]=some (Tr.no tf).fn:=by rw[bA,xae rfl]
  generalize bQ F [99] (Tr.no tf).fn=F1 at mi AT B7;generalize hm:sz 8 (List.range 8) (λg=>g=(Tr.no tf).fn)=m;intro OR _;refine St.whole (r:=cJ (dec m) 0 0) (.head _) rfl rfl (aD _ _ _) ?_;refine ae.eK (a:=[100,32,61,32,33,40]) zP (ae.eK (b:=[41]) zP ?_);rw[Iq];refine aa.fn (args:=#[ptr sp,ah _]) (.cons (.cons (.cons (.left (A:=Y))))) (z4 AT mi (t:=.no tf) zD (λhl=>CY Ht zO)) ?_;intro r2 H2 gP;rw[hm]at gP;obtain⟨t2,a2,e2,F2,eG,rfl,gT,yP,Je,AJ⟩:∃t2 a2 e2 F2 eG,r2=eL t2 a2 e2/\eY T fz sp 8 100000 (List.range 8) F2 eG H2/\JI F2 tf.fn tg.fn/\aN F2 [99]=some (Tr.no tf).fn/\((e2=13\/e2=7)\/(e2=0/\t2=dec m/\aN F2 [100]=some (Tr.no tf).fn)):=by
   rcases gP with⟨h1,_,h3⟩|⟨p,e,he,h1,h3⟩
   ·exact⟨_,_,_,_,_,h1,h3,AT.set (.inr rfl) Fe,by rw[bA,xab zD];exact B7,.inr ⟨rfl,rfl,by rw[bA,xae rfl]⟩⟩
   exact⟨_,_,_,_,_,h1,h3,AT,B7,.inl he⟩
  intro OQ _;refine St.whole (r:=cJ t2 a2 e2) (.head _) rfl rfl (aD _ _ _) ?_;refine aa.fn (args:=#[ptr sp,ah [115,97,109,101,32,99,32,100]]) (.cons (.cons (.cons (.cons (.left (A:=Y)))))) (ko gT.bg (w:=⟨[115,97,109,101],0,4⟩) (x:=⟨[99],5,6⟩) (y:=⟨[100],7,8⟩) zD zK zK zK) ?_;rintro _ H3 ⟨t3,a3,e3,rfl,Ji,h3⟩;intro OP _;refine St.whole (r:=cJ t3 a3 e3) (.head _) rfl rfl (aD _ _ _) ?_;refine aa.fn (args:=#[ptr sp,ah [115,97,109,101,32,99,32,97]]) (.cons (.cons (.cons (.cons (.cons (.left (A:=Y))))))) (ko Ji.bg (w:=⟨[115,97,109,101],0,4⟩) (x:=⟨[99],5,6⟩) (y:=⟨[97],7,8⟩) zD zK zK zK) ?_;rintro _ H4 ⟨t4,a4,e4,rfl,Ol,h4⟩;intro Lt _;refine St.whole (r:=cJ t4 a4 e4) (.head _) rfl rfl (aD _ _ _) ?_;have out:∀t:Bool,t=true->aZ (λv H=>H=dM T fz::Y/\v=.bool true) (.returned (.bool t)) (B2 Lt t4 a4 e4::B2 OP t3 a3 e3::B2 OQ t2 a2 e2::B2 OR (dec m) 0 0::cs::cw::(H4++Y)):=λt e=>MB [_,_,_,_,_,_] H4 _ _ _ _ _ t Ol e;refine Ld.u (v:=nI e2) (.tail _ (.tail _ (.head _))) (ae.bN (b:=13) (bL.or (decide (e2=7)) (λ_=>Ld.u (v:=nI e2) (.tail _ (.tail _ (.head _))) (ae.bN (b:=7) ⟨rfl,rfl⟩)) rfl λ_=>?_));rw[<-xaV];refine Br.dec (λhs=>?_) (λhs=>?_)
  ·exact Ld.u (v:=nI 0) (.tail _ (.tail _ (.tail _ (.head _)))) (ae.bN (a:=0) (b:=0) (out _ rfl))
  obtain⟨rfl,rfl,hd⟩:=AJ.resolve_left hs;obtain⟨_,h3⟩:=h3 _ _ Je hd;have wT:t3=[49]:=h3.elim (λh=>h.1) λh=>absurd rfl h.2;subst wT;obtain⟨_,h4⟩:=h4 _ _ Je yP.a;have Nw:t4=[48]:=h4.elim (λh=>by
   exfalso;have:=congrFun h.2 0;have:(!tf.fn 0)=tf.fn 0:=this;cases h:tf.fn 0<;>rw[h]at this<;>cases this) λh=>h.1
  subst Nw;refine Ld.u (v:=nI 0) (.tail _ (.tail _ (.tail _ (.head _)))) (ae.bN (a:=0) (b:=0) (bL.and true (λ_=>Ld.u (v:=nI 0) (.tail _ (.tail _ (.head _))) (ae.bN (a:=0) (b:=0) ⟨rfl,rfl⟩)) rfl λ_=>?_));refine bL.and true (λ_=>Ld.u (v:=ah (dec m)) (.tail _ (.tail _ (.tail _ (.head _)))) (Ld.u (v:=ah (dec m)) (.tail _ (.tail _ (.head _))) (ae.kR ⟨rfl,by rw[xaL rfl]⟩))) rfl λ_=>?_;refine bL.and true (λ_=>Ld.u (v:=ah [49]) (.tail _ (.head _)) (ae.kR (b:=[49]) ⟨rfl,rfl⟩)) rfl λ_=>?_;refine bL.and true (λ_=>Ld.u (v:=ah [48]) (.head _) (ae.kR (b:=[48]) ⟨rfl,rfl⟩)) rfl λ_=>?_;exact out _ rfl
 refine aa.eq (oh f _) (Un.not ?_);cases hpf:GV f with
 |false=>exact Split.zv rfl (bX.mk (bX.mk (bX.mk (JE.mk (no HS _ _ hS)))))
 |true=>
  refine Split.go rfl (aa.eq (oh g _) (Un.not (bX.mk ?_)));cases Hx:GV g with
  |false=>exact Split.zv rfl (bX.mk (bX.mk (JE.mk (no HS _ _ hS))))
  |true=>
   obtain⟨b1,f',ef,HV,vp⟩:=qz hpf;obtain⟨b2,g',eg,Jf,vk⟩:=qz Hx;have wZ:f'.length+1<=300:=by rw[ef]at vp;simpa using vp
   have Jb:g'.length+1<=300:=by rw[eg]at vk;simpa using vk
   refine Split.go rfl (ae.eK (a:=[97,32,61,32]) zP ?_);have e1:[97,32,61,32]++f=97::32::61::32::b1::f':=by rw[ef];rfl
   rw[e1];refine aa.fn (args:=#[ptr sp,ah _]) (.left (A:=Y)) (kj hS.bg zD HV zK zK zO zD zD) ?_;rw[<-ef];intro r1 H1 E6;rcases E6 with⟨a,e,_,he,hr,mi⟩|⟨tf,lf,Ht,⟨rfl,mi⟩|⟨rfl,⟨EA,mi⟩,_⟩⟩
   ·obtain⟨a',rfl⟩:∃a',r1=eL [] a' e:=by
     rw[hr];split
     ·exact⟨_,rfl⟩
     exact⟨_,rfl⟩
    refine qf.mk (v:=nI e) rfl (ae.nM (b:=0) (bX.mk ?_));rw[xaL he];exact Split.zv rfl (bX.mk (JE.mk (no H1 _ _ mi)))
   rotate_left
   ·refine qf.mk (v:=nI 9) rfl (ae.nM (a:=9) (b:=0) (bX.mk ?_));exact Split.zv rfl (bX.mk (JE.mk (no H1 _ _ mi)))
   refine qf.mk (v:=nI 0) rfl (ae.nM (a:=0) (b:=0) (bX.mk (Split.go rfl (ae.eK (a:=[98,32,61,32]) zP ?_))));have e2:[98,32,61,32]++g=98::32::61::32::b2::g':=by rw[eg];rfl
   rw[e2];refine aa.fn (args:=#[ptr sp,ah _]) (.left (A:=Y)) (kj mi.bg zD Jf zK zK zO zD (by show 1<=1000;decide)) ?_;rw[<-eg];intro r2 H2 gP;rcases gP with⟨a,e,_,he,hr,gT⟩|⟨tg,lg,IY,⟨rfl,gT⟩|⟨rfl,⟨eG,gT⟩,_⟩⟩
   ·obtain⟨a',rfl⟩:∃a',r2=eL [] a' e:=by
     rw[hr];split
     ·exact⟨_,rfl⟩
     exact⟨_,rfl⟩
    refine qf.mk (v:=nI e) rfl (ae.nM (b:=0) (bX.mk ?_));rw[xaL he];exact JE.mk (no H2 _ _ gT)
   rotate_left
   ·exact qf.mk (v:=nI 9) rfl (ae.nM (a:=9) (b:=0) (bX.mk (JE.mk (no H2 _ _ gT))))
   exact qf.mk (v:=nI 0) rfl (ae.nM (a:=0) (b:=0) (bX.mk (JE.mk (main H2 tf tg lf lg b1 b2 f' g' ef eg vp vk Ht IY gT))))
end
section
open Go.ChangeShapes Go.WideShapes Go.Deep
theorem GS{f:FuncId}{args:Array zV}{B Y:Hp}{x:Nat×Obj}{Q:zV->Prop}(hp:B.Perm (x::Y))(h:Rd zQ f args (x::Y) Q):Rd zQ f args B Q:=
 λg=>((h g).pre (.perm hp)).mono λe H' ⟨v,dY,h1,h2,h3,h4⟩=>⟨v,B,h1,h2.trans (by rw[h3];exact .perm hp.symm),rfl,h4⟩
theorem zq{a b:String×DataW Unit}{W:World}(h:laidMet zQ [a,b,("internal/strconv.uint64pow10",Lib.tabData .u64 (JR.map λ(x:Nat)=>(x:Int)))] W):∃T fz,W.heap[1]? =some (.cells powC T fz):=by
 obtain⟨_,⟨_,_,_,_,_,_,_,_,_,_,⟨_,_,_,_,_,_,_,_,_,_,⟨g,t,cs,fuel,p,q,h1,h2,h3,h4,_⟩,_⟩,_⟩,_⟩:=h;obtain rfl:g=1:=(xbd ((show Tryz.prog.globalNamed "internal/strconv.uint64pow10" =some 1 by kernel_rfl).symm.trans h1)).symm;obtain rfl:t=335:=(xbd ((show(Tryz.prog.globals[1]?).map (·.type)=some 335 by kernel_rfl).symm.trans h2)).symm;have hc:=Lib.cells_of_tab (n:=20) (e:=40) (k:=.u64) zK zK zK zK h4;unfold World.var? at h3;rw[h1,xcO]at h3;split at h3
 ·rename_i cs' T fz hh;cases h3;refine⟨T,fz,?_⟩;rw[hh];have:cs=powC:=xb8 (by rw[hc];unfold powC;rw[xbJ];rfl);rw[this]
 cases h3
theorem Ac{a b:String×DataW Unit}{W:World}{f:FuncId}{args:Array zV}(hl:laidMet zQ [a,b,("internal/strconv.uint64pow10",Lib.tabData .u64 (JR.map λ(x:Nat)=>(x:Int)))] W)(h:∀T fz Y,Rd zQ f args (dM T fz::Y) (· =.bool true)):Rd zQ f args (whole W) (· =.bool true):=by
 obtain⟨T,fz,hg⟩:=zq hl;have hm:dM T fz∈whole W:=by
  unfold whole;have hs:1<W.heap.size:=(xax.1 hg).1;refine xan.2 ⟨1,xaP.2 hs,?_⟩;rw[xaj,hg];rfl
 obtain⟨s,t,e⟩:=xcD hm;exact GS (Y:=s++t) (by rw[e];exact xbo) (h T fz _)
end
end
end Go.Proofs
