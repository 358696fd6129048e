import Derived.Test.YtgeffephefcdiaaGreatC2
import Derived.Sort.AssemblyPlain
import Derived.Test.YtgeffephefcdiaaGreatC1
import Derived.Test.YtgeffephefcdiaaGreatProg
import Derived.RangeFuncIn
import Derived.RangeFuncLeaves
import Derived.RangeFuncRecord
import Derived.RangeFuncSeq
set_option linter.unusedVariables false
set_option linter.unusedSimpArgs false
set_option linter.unusedSectionVars false
set_option maxRecDepth 100000
namespace Go.Proofs
open Go Go.Sx Tryz
section
open ax
section
variable {kp:Nat} {K:Kd} {ord ah tr:zL} {C:Hp} {S:Nat->ax.Fn}
theorem WJ(B:Hp)(v:Int)(r:Nat)(kv:zV):Rd zQ 299 #[kv,iv v,u32 r,u32 r] B (· =u32 r):=by
 exact aE λg=>qL (ae.dJ (Br.T (br.mk (.refl _) rfl)))
theorem WL(h:cW kp K ord ah tr C){v lo hi r:Nat}(hne:lo≠hi)(hv:v<K.n)(hT:K.T ⟨v,lo,hi⟩=some r):
  Rd zQ 299 #[ptr kp,iv (v:Int),u32 lo,u32 hi] C (· =u32 r):=by
 obtain⟨b,rfl,hO⟩:=h;refine aE λg=>qL (ae.dJ (Br.Tn hne (Build.mk (cs:=bB ⟨v,lo,hi⟩) zK ?_)));intro b3 _;refine St.p (λx hx=>by simp[bB,u32]at hx;rcases hx with rfl|rfl|rfl<;>rfl) ?_;refine DR.self (Nil.ptr (Ld.f ?_));refine az.q ?_;refine aa.eq (uP (d:=⟨v,lo,hi⟩) hO.ut hv) ?_;rw[hT];exact⟨.refl _,Ext.mk rfl (Ext.mk rfl (Br.yes (br.mk .tail rfl)))⟩
theorem WK(h:cW kp K ord ah tr C){d:Nd}(hne:d.lo≠d.hi)(hd:NOk K.N d)(hv:d.v<K.n)(hT:K.T d=none)(hroom:K.used<K.cap)(hlo:d.lo<2\/d.lo<K.us.length)(hhi:d.hi<2\/d.hi<K.us.length)
 (hb:∀s,K.use s+2<2147483648):
  Fc zQ 299 #[ptr kp,iv (d.v:Int),u32 d.lo,u32 d.hi] C (λv C'=>∃r dG cC,v=u32 r/\K.N r=none/\2<=r/\r<K.cap/\dG.length=cC.length/\r<dG.length/\K.us.length<=dG.length/\dG.getD r 0=0/\
   (∀s,2<=s->s≠r->dG.getD s 0=K.use s+e1 (some d) s)/\(∀s,s<2->dG.getD s 0=K.use s)/\cC.getD r 0=0/\(∀s,s≠r->cC.getD s 0=K.hold s)/\
   cW kp {K with N:=up K.N r (some d),T:=qP K.T d (some r),used:=K.used+1,us:=dG,ho:=cC} ord ah tr C'):=by
 have h0:=h;obtain⟨b,rfl,hO⟩:=h;refine aE λg=>qL (ae.dJ (Br.Tn hne (Build.mk (cs:=bB d) zK ?_)));intro b3 _;refine St.p (λx hx=>by simp[bB,u32]at hx;rcases hx with rfl|rfl|rfl<;>rfl) ?_;refine DR.self (Nil.ptr (Ld.f ?_));refine az.q ?_;refine aa.eq (uP (d:=d) hO.ut hv) ?_;rw[hT];refine⟨.refl _,Ext.mk rfl (Ext.mk rfl (Br.no ?_))⟩;refine az.q ?_;refine aa.fq (La h0 hd hv hT hroom hlo hhi hb) ?_;rintro v C' ⟨r,dG,cC,rfl,hh⟩;exact aF.mk .tail ⟨r,dG,cC,rfl,hh⟩
structure yD(K' K:Kd):Prop where
 N:∀{s d},K'.N s=some d->K.N s=some d
 n:K'.n=K.n
 cap:K'.cap=K.cap
 ho:K'.ho=K.ho
 us:∀s,K'.use s<=K.use s
 idle:(∀s,K.N s=none->K.use s=0)->∀s,K'.N s=none->K'.use s=0
theorem yD.refl(K:Kd):yD K K:=⟨λh=>h,rfl,rfl,rfl,λ_=>xai _,λh=>h⟩
theorem yD.trans{A B C:Kd}(h:yD A B)(h':yD B C):yD A C:=⟨λx=>h'.N (h.N x),h.n.trans h'.n,h.cap.trans h'.cap,h.ho.trans h'.ho,λs=>xbS (h.us s) (h'.us s),λhi=>h.idle (h'.idle hi)⟩
def PL(P:Nat->Nat)(N:eG):Prop:=∀t,2<=t->0<P t->∃d,N t=some d
def gY(P0:Nat->Nat)(l:zL):Nat->Nat:=λs=>P0 s+l.count s
theorem Ox{P0:Nat->Nat}{l:zL}{t:Nat}:up (gY P0 (l++[t])) t (gY P0 (l++[t]) t-1)=gY P0 l:=by
 funext s
 unfold up gY;split
 ·rename_i e;subst e;simp
 rename_i e;simp[xbh,xcK,xbb e]
theorem mP{P0:Nat->Nat}(h:cW kp K ord ah tr C){r:Nat}(hm:jU K S iR (gY P0 [r]))(hp:Pos K)(hl:PL (gY P0 [r]) K.N)(hr:r<1048576)(hbu:∀s,K.use s<2147483648):
  Fc zQ 199 #[ptr kp,u32 r] C (λv C'=>v=.tuple #[]/\∃K',cW kp K' ord ah tr C'/\jU K' S iR P0/\Pos K'/\PL P0 K'.N/\yD K' K):=by
 refine aE λg=>JN (au.int (e:=110) zK zK zK λbx=>?_);refine abR (λk vs H=>∃(w:zV) (Ct C':Hp) (todo:zL) (K':Kd),vs=[w]/\H=Ct++C'/\aP 110 .u32 w (iw todo) Ct/\cW kp K' ord ah tr C'/\jU K' S iR (gY P0 todo)/\Pos K'/\PL (gY P0 todo) K'.N/\yD K' K/\(∀t∈todo,t<1048576)/\k=3*K'.used+todo.length/\k<=3*K.used+1)
  _ ⟨_,[_],C,[r],K,rfl,rfl,aP.made [(r:Int)],h,hm,hp,hl,.refl K,by simpa using hr,rfl,by simp⟩ ?_
 rintro w H hJ gs;obtain⟨k,⟨w',Ct,C',todo,K',hw,rfl,ht,hK,hM,SP,PV,pQ,hT,hk,hkb⟩,hkm⟩:=hJ.open;simp only[xax,xa0]at hw;subst hw;refine ht.bP ?_;rw[aq];refine ae.nq (b:=0) (Br.dec (λhpos=>?_) (λhpos=>?_))
 ·have hc1:=hm.cap;obtain⟨pre,t,rfl⟩:∃pre t,todo=pre++[t]:=⟨todo.dropLast,todo.getLast (by intro e;simp[e]at hpos),(xec _).symm⟩;have htl:(pre++[t]).length=pre.length+1:=by simp
  have ht1:=hT t zI;refine ht.bP ?_;rw[aq,htl];refine ae.x5 (b:=1) ?_ zO ?_
  ·simp[bA];omega
  rw[xb7];refine ht.ld (i:=pre.length) (x:=(t:Int)) (by rw[cg];simp[iw]) (bH.sub .left) (ht.cut (i:=pre.length) zI λw' ht'=>?_);have XU:aP 110 .u32 w' (iw pre) Ct:=by
   rw[cg,xeA zI]at ht';exact ht'
  have hTp:∀s∈pre,s<1048576:=λs hs=>hT s (xad _ hs);refine ae.BS (b:=1) (Br.dec (λh1=>?_) (λh1=>?_))
  ·have hc:∀s,2<=s->gY P0 (pre++[t]) s=gY P0 pre s:=λs hs=>by
    unfold gY;rw[xbh,xcK];simp;omega
   exact ow.back (.refl _) hkm (3*K'.used+pre.length) ⟨w',Ct,C',pre,K',rfl,rfl,XU,hK,hM.congr (λ_=>xcY) hc,SP,λs hs h0=>PV s hs (by rw[hc s hs];exact h0),pQ,hTp,rfl,by simp at hk;omega⟩ (by rw[hk];simp)
  have hPt:0<gY P0 (pre++[t]) t:=by unfold gY;simp;omega
  obtain⟨d,hd⟩:=PV t zO hPt;have hfit:=hM.fit hd;have Zv:=SP t d hd;obtain⟨b,rfl,hO⟩:=hK;refine Nil.ptr (Ld.f ?_);refine hO.us.ld (x:=((K'.use t:Nat):Int)) (bI hfit) (bH.sub (.app (.cons (.app (.app .left))))) (ae.x5 (b:=1) ?_ zO ?_)
  ·have:=pQ.us t;have:=hbu t;simp[bA];omega
  refine hO.us.nw (x:=((K'.use t-1:Nat):Int)) (.app (.cons (.app (.app .left)))) (by simpa using hfit) λUz Bb=>?_;rw[fj]at Bb;have g1:∀s,(K'.us.set t (K'.use t-1)).getD s 0=if s=t then K'.use t-1 else K'.use s:=λs=>gU hfit
  have Oa:=hM.less (r:=t) (dG:=K'.us.set t (K'.use t-1)) hPt zI (by rw[g1,xae rfl];omega) (λs hs=>by rw[g1,xac hs]);rw[Ox]at Oa;have Yc:aaA {b with CU:=Uz} {K' with us:=K'.us.set t (K'.use t-1)} ord ah tr:={hO with us:=Bb,ul:=by simp;exact hO.ul};have SQ:yD {K' with us:=K'.us.set t (K'.use t-1)} K:=⟨pQ.N,pQ.n,pQ.cap,pQ.ho,λs=>by
   show(K'.us.set t (K'.use t-1)).getD s 0<=_;rw[g1];have:=pQ.us s;split
   ·rename_i e;subst e;omega
   ·exact this,λhi s hs=>by
   show(K'.us.set t (K'.use t-1)).getD s 0=0;have hs':K'.N s=none:=hs;rw[g1,xac (λe=>by subst e;rw[hd]at hs';cases hs')];exact pQ.idle hi s hs'⟩
  have adl:PL (gY P0 pre) K'.N:=λs hs h0=>PV s hs (by unfold gY at h0⊢;rw[xbh];omega);refine Nil.ptr (Ld.f ?_);refine Bb.ld (x:=((K'.use t-1:Nat):Int)) (by rw[<-fj];simp[hfit]) (bH.sub (.app (.cons (.app (.app .left))))) ?_;refine ae.nq (b:=0) (Br.dec (λh3=>?_) (λh3=>?_))
  ·refine ow.back (.refl _) hkm (3*K'.used+pre.length) ⟨w',Ct,_,pre,_,rfl,rfl,XU,⟨_,rfl,Yc⟩,Oa,λs e hs=>?_,adl,SQ,hTp,rfl,by simp at hk;omega⟩ (by rw[hk];simp);show 0<(K'.us.set t (K'.use t-1)).getD s 0;rw[g1];split
   ·exact h3
   exact SP s e hs
  have hu0:K'.use t=1:=by omega
  have eW:cW kp {K' with us:=K'.us.set t (K'.use t-1)} ord ah tr (({b with CU:=Uz}:uD).hp kp K'.n):=⟨_,rfl,Yc⟩;refine aa.eq (nX eW zO) ?_;have SU:2<=t:=by omega
  have agt:got K'.N t=bB d:=dZ hd SU;show OR _ _ _;intro b32 _;rw[agt];refine St.p (λx hx=>by simp[bB,u32]at hx;rcases hx with rfl|rfl|rfl<;>rfl) ?_;refine DR.self (Nil.ptr (Ld.f ?_));refine az.q ?_;have hTd:K'.T d=some t:=(hM.kA d t).2 ⟨hd,λh=>h⟩;refine aa.fq (yU Yc.ut (hM.var hd) hTd) ?_;rintro v CT' ⟨rfl,Zl⟩;refine Nil.ptr (Ld.f ?_);refine aa.fq (T1 Yc.ar ⟨d,hd⟩ SU) ?_;rintro v CA' ⟨rfl,har⟩;refine Ld.f ?_;refine Ld.f ?_;refine au.RK (e:=110) zK zK zK λbz=>?_;refine XU.Yn (.cons (.cons .left)) (dF.block (l:=[(d.lo:Int),(d.hi:Int)]) (by exact .head _) zI) (by simp at hk⊢;omega) (by simp at hk⊢;omega) λw2 Ct2 RX=>?_;have e0:iw pre++[(d.lo:Int),(d.hi:Int)]=iw (pre++[d.lo,d.hi]):=by rw[cg];rfl
  rw[e0]at RX;have Gr:({K' with us:=K'.us.set t (K'.use t-1)}:Kd).use t=0:=by show(K'.us.set t (K'.use t-1)).getD t 0=0;rw[g1,xae rfl];omega
  have LW:=Oa.free (r:=t) (d:=d) hd (λh=>h) Gr;have hed:dz K'.N t K'.cap=0:=by have:=Oa.use hd;rw[Gr]at this;exact(by have h5:dz K'.N t K'.cap+_+_=0:=this.symm;omega)
  have fN:=j9 hed t (hM.two hd).2 d hd;have ag5:gY P0 pre t=0:=by have:=Oa.use hd;rw[Gr]at this;omega
  have hroom:0<K'.used:=by have:=hM.room;omega
  have hlt:∀x,live K'.N x->x<1048576:=λx hx=>eW.lt hx;have mh:∀s,2<=s->gY P0 pre s+e1 (some d) s=gY P0 (pre++[d.lo,d.hi]) s:=λs _=>by
   unfold gY;rw[eC,xbh,xb5,xb5,xdO];simp only[xcR];omega
  refine ow.back (.skip (.skip (.refl _))) hkm (3*(K'.used-1)+(pre++[d.lo,d.hi]).length) ⟨w2,Ct2,_,pre++[d.lo,d.hi],{K' with us:=K'.us.set t (K'.use t-1),N:=up K'.N t none,T:=qP K'.T d none,used:=K'.used-1},rfl,rfl,RX,
   ⟨{b with CU:=Uz,CT:=CT',CA:=CA'},rfl,{Yc with ar:=har,ut:=Zl}⟩,LW.congr (λ_=>xcY) mh,λs e hs=>?_,λs hs h0=>?_,⟨λ{s e} hs=>?_,SQ.n,SQ.cap,SQ.ho,SQ.us,λhi s hs=>?_⟩,λs hs=>?_,rfl,by simp at hk⊢;omega⟩ (by simp at hk⊢;omega)
  ·have hne:s≠t:=λe2=>by subst e2;have sQ:up K'.N s none s=some e:=hs;rw[aO]at sQ;cases sQ
   show 0<(K'.us.set t (K'.use t-1)).getD s 0;rw[g1,xac hne];have sQ:up K'.N t none s=some e:=hs;rw[aS hne]at sQ;exact SP s e sQ
  ·have hne:s≠t:=λe2=>by
    subst e2;rw[<-mh s hs,ag5]at h0;rw[eC,xac fN.1,xac fN.2]at h0;omega
   show∃e,up K'.N t none s=some e;rw[aS hne];rw[<-mh s hs]at h0;by_cases h5:0<gY P0 pre s
   ·exact adl s hs h5
   rw[eC]at h0;have:d.lo=s\/d.hi=s:=by
    by_cases h6:d.lo=s
    ·exact .inl h6
    by_cases h7:d.hi=s
    ·exact .inr h7
    rw[xac h6,xac h7]at h0;omega
   rcases this with rfl|rfl
   ·rcases hM.lo hd with h8|h8
    ·omega
    exact h8
   rcases hM.hi hd with h8|h8
   ·omega
   exact h8
  ·have sQ:up K'.N t none s=some e:=hs;by_cases e2:s=t
   ·subst e2;rw[aO]at sQ;cases sQ
   rw[aS e2]at sQ;exact pQ.N sQ
  ·have sQ:up K'.N t none s=none:=hs;show(K'.us.set t (K'.use t-1)).getD s 0=0;by_cases e2:s=t
   ·subst e2;rw[g1,xae rfl];omega
   rw[aS e2]at sQ;exact SQ.idle hi s sQ
  rcases xan.1 hs with hs|hs
  ·exact hTp s hs
  simp at hs;rcases hs with rfl|rfl
  ·exact hlt _ (hM.lo hd)
  exact hlt _ (hM.hi hd)
 obtain rfl:todo=[]:=xbX zO;exact aF.mk .right ⟨rfl,K',hK,hM.congr (λ_=>xcY) (λs _=>by simp[gY]),SP,λs hs h0=>PV s hs (by simpa[gY]using h0),pQ⟩
end
abbrev lv(ah:zL):Nat->Nat:=λv=>ah.getD v 0
section
variable {kp:Nat} {K:Kd} {ord ah tr:zL} {C:Hp} {S:Nat->ax.Fn}
theorem rH(h:cW kp K ord ah tr C)(v:Int):Rd zQ 210 #[ptr kp,iv v] C (· =.bool (decide (0<=v/\v<K.n))):=by
 obtain⟨b,rfl,hO⟩:=h;refine aE λg=>JC (ae.geq (cm.and (decide (v<K.n)) (λ_=>?_) rfl λ_=>br.mk (.refl _) (by rw[xdG])));refine Nil.ptr (Ld.f ?_);exact ae.lss ⟨rfl,rfl⟩
theorem zo(h:cW kp K ord ah tr C){r:Nat}(hl:live K.N r)(hv:∀d,K.N r=some d->d.v<K.n)(h01:r<2->K.N r=none):Rd zQ 319 #[ptr kp,u32 r] C (· =iv ((dep K.n (lv ah) K.N r:Nat):Int)):=by
 have h0:=h;have hr:=h.lt hl;obtain⟨b,rfl,hO⟩:=h;refine aE λg=>IE (Nil.ptr (ai.mk (aa.eq (nX h0 zO) ?_)));intro b5 _;refine St.whole (r:=got K.N r) (by exact .head _) rfl (aQ _ _).1 (aQ _ _).2 ?_;by_cases h2:r<2
 ·rw[fG h2,aU (h01 h2)];refine Ld.f ?_;refine ae.geq (Br.XI zD (Nil.ptr (Ld.f ?_)));exact br.mk .tail rfl
 obtain⟨d,hd⟩:∃d,K.N r=some d:=by rcases hl with hl|hl;omega;exact hl
 rw[dZ hd zO,an hd];have lj:=hv d hd;have hlen:=hO.ol.2;refine Ld.f ?_;refine ae.geq (Br.UA zI (Nil.ptr (Ld.f ?_)));refine Ld.f ?_;exact hO.lv.ld (x:=((ah.getD d.v 0:Nat):Int)) (bI zO) (bH.sub (.cons (.cons (.app (.app (.app (.app (.app .left)))))))) (br.mk .tail rfl)
def pS(K:Kd)(ah:zL)(v:Int)(lo hi:Nat):Int:=
 if¬(0<=v/\v<K.n)then 2 else if gG K.N lo=false\/gG K.N hi=false then 3 else if lo≠hi/\min (dep K.n (lv ah) K.N lo) (dep K.n (lv ah) K.N hi)<=ah.getD v.toNat 0 then 4 else 0
theorem L4(h:cW kp K ord ah tr C)(v:Int){lo hi:Nat}(hlo:lo<4294967296)(hhi:hi<4294967296)(hv:∀r d,K.N r=some d->d.v<K.n/\2<=r):
  Rd zQ 243 #[ptr kp,iv v,u32 lo,u32 hi] C (· =iv (pS K ah v lo hi)):=by
 have h0:=h;have h01:∀r,r<2->K.N r=none:=λr hr=>by
  cases e:K.N r with
  |none=>rfl
  |some d=>have:=(hv r d e).2;omega
 obtain⟨b,rfl,hO⟩:=h;refine aE λg=>Jz (aa.eq (rH h0 v) (Un.not ?_));by_cases Gq:0<=v/\v<K.n;rotate_left
 ·rw[xak Gq];exact Br.yes (br.mk (.refl _) (by unfold pS;rw[xae Gq]))
 rw[xam Gq];apply Br.no;obtain⟨n,rfl⟩:∃n:Nat,v=n:=⟨v.toNat,by omega⟩;have hnv:n<K.n:=by omega
 intro J hJ;refine Nil.ptr (ai.mk (aa.eq (nY h0 hlo) (Un.not ?_)));by_cases nD:gG K.N lo=true;rotate_left
 ·have acD:gG K.N lo=false:=by simpa using nD
  rw[acD];exact Split.Vp rfl (aM.mk (JE.mk (hJ _ _ λgs=>Br.yes (br.mk (.refl _) (by unfold pS;rw[xac (by simpa using Gq),xae (.inl acD)])))))
 rw[nD];refine Split.go rfl (Nil.ptr (ai.mk (aa.eq (nY h0 hhi) (Un.not ?_))));by_cases hhl:gG K.N hi=true;rotate_left
 ·have acN:gG K.N hi=false:=by simpa using hhl
  rw[acN];exact aM.mk (JE.mk (hJ _ _ λgs=>Br.yes (br.mk (.refl _) (by unfold pS;rw[xac (by simpa using Gq),xae (.inr acN)]))))
 rw[hhl];refine aM.mk (JE.mk (hJ _ _ λgs=>Br.no ?_));intro J2 BZ;have hE:pS K ah n lo hi=if lo≠hi/\min (dep K.n (lv ah) K.N lo) (dep K.n (lv ah) K.N hi)<=ah.getD n 0 then 4 else 0:=by
  unfold pS;rw[xac (by simpa using Gq),xac (by rw[nD,hhl];simp)];rfl
 refine DR.self (ae.xU ?_);by_cases hne:lo≠hi;rotate_left
 ·rw[xak hne];exact Br.no (JE.mk (BZ _ _ λgs=>Br.no (br.mk (.refl _) (by rw[hE,xac (λh=>hne h.1)]))))
 rw[xam hne];refine Br.yes (Nil.ptr (Ld.f ?_));have hlen:=hO.ol.2;refine hO.lv.ld (x:=((ah.getD n 0:Nat):Int)) (bI zO) (bH.sub (.cons (.app (.app (.app (.app (.app .left))))))) λF=>?_;refine aa.eq (zo h0 (bX.1 nD) (λd hd=>(hv _ _ hd).1) (h01 _)) (⟨.refl _,?_⟩);intro F2;refine aa.eq (zo h0 (bX.1 hhl) (λd hd=>(hv _ _ hd).1) (h01 _)) (⟨.refl _,?_⟩);refine⟨_,_,_,rfl,rfl,?_⟩;have hmin:(if((dep K.n (lv ah) K.N hi:Nat):Int)<((dep K.n (lv ah) K.N lo:Nat):Int)then((dep K.n (lv ah) K.N hi:Nat):Int)else((dep K.n (lv ah) K.N lo:Nat):Int))=((min (dep K.n (lv ah) K.N lo) (dep K.n (lv ah) K.N hi):Nat):Int):=by
  split<;>omega
 rw[hmin];refine ae.s6 (aM.mk ?_);by_cases hm:min (dep K.n (lv ah) K.N lo) (dep K.n (lv ah) K.N hi)<=ah.getD n 0
 ·rw[xam hm];exact JE.mk (BZ _ _ λgs=>Br.yes (br.mk (.refl _) (by rw[hE,xae ⟨hne,hm⟩])))
 rw[xak hm];exact JE.mk (BZ _ _ λgs=>Br.no (br.mk (.refl _) (by rw[hE,xac (λh=>hm h.2)])))
theorem Li(h:cW kp K ord ah tr C){v lo hi:Nat}(hv:v<K.n):
  Rd zQ 244 #[ptr kp,iv (v:Int),u32 lo,u32 hi] C (· =if lo=hi then .tuple #[u32 lo,.bool true]else .tuple #[u32 ((K.T ⟨v,lo,hi⟩).getD 0),.bool (K.T ⟨v,lo,hi⟩).isSome]):=by
 obtain⟨b,rfl,hO⟩:=h;refine aE λg=>Jy (ae.dJ (Br.dec (λhe=>br.mk (.refl _) (by rw[xae he])) (λhe=>?_)));refine Nil.ptr (ai.mk (Ld.f ?_));exact Build.mk (cs:=bB ⟨v,lo,hi⟩) zK (aa.eq (uP (d:=⟨v,lo,hi⟩) hO.ut hv) (Ext.mk rfl (Ext.mk rfl (br.mk (.refl _) (by rw[xac he];rfl)))))
theorem wc(h:cW kp K ord ah tr C){r:Nat}(hr:r<4294967296)(hb:∀s,K.hold s<2147483648):Rd zQ 198 #[ptr kp,u32 r] C (· =iv ((K.hold r:Nat):Int)):=by
 obtain⟨b,rfl,hO⟩:=h;refine aE λg=>JO (ae.aI (cm.or (decide (K.ho.length<=r)) (λ_=>?_) zI λ_=>?_))
 ·refine bc.q (Nil.ptr (ai.mk (Ld.f ?_)));refine hO.ho.bP ?_;rw[aq];exact ae.s6 ⟨rfl,rfl⟩
 rw[xdA];refine Br.dec (λhge=>?_) (λhlt=>?_)
 ·refine br.mk (.refl _) ?_;unfold Kd.hold;rw[List.getD,xaE hge];rfl
 refine Nil.ptr (ai.mk (Ld.f ?_));exact hO.ho.ld (x:=((K.hold r:Nat):Int)) (bI zO) (bH.sub (.cons (.app (.app (.app .left))))) (bc.nat (by have:=hb r;simp[bA];omega) (br.mk (.refl _) rfl))
theorem VT(h:cW kp K ord ah tr C)(h2:2<=K.used)(hu:K.used<=1048576):Rd zQ 140 #[ptr kp] C (· =iv ((K.used-2:Nat):Int)):=by
 obtain⟨b,rfl,hO⟩:=h;refine aE λg=>Ku (ae.aI (Br.no (Nil.ptr (ai.mk (Ld.f ?_)))));exact aa.eq (Ey hO.ar) (ae.x5 (b:=2) (by simp[bA];omega) h2 (br.mk (.refl _) rfl))
theorem NP(h:cW kp K ord ah tr C):Rd zQ 271 #[ptr kp] C (· =iv ((tr.length:Nat):Int)):=by
 obtain⟨b,rfl,hO⟩:=h;refine aE λg=>Ja (ae.aI (Br.no (Nil.ptr (Ld.f ?_))));refine hO.tr.bP ?_;rw[aq];exact br.mk (.refl _) rfl
theorem gP(h:cW kp K ord ah tr C):Rd zQ 185 #[ptr kp] C (· =iv ((K.n:Nat):Int)):=by
 obtain⟨b,rfl,hO⟩:=h;refine aE λg=>J4 (ae.aI (Br.no (Nil.ptr (Ld.f ?_))));exact br.mk (.refl _) rfl
theorem iU(h:cW kp K ord ah tr C){r:Nat}(hr:r<4294967296):Rd zQ 249 #[ptr kp,u32 r] C (· =.tuple #[.agg (got K.N r).toArray,iv (if gG K.N r then 0 else 3)]):=by
 have h0:=h;obtain⟨b,rfl,hO⟩:=h;refine aE λg=>Js λb1 _=>?_;refine ae.aI (Br.no (Nil.ptr (ai.mk (aa.eq (nY h0 hr) (Un.not ?_)))));cases hb:gG K.N r with
 |false=>
  refine Br.yes (Build.mk (cs:=[iv 0,.int .u32 0,.int .u32 0]) zK (St.q ?_));refine az.q ?_;exact br.mk .tail (by rw[D0 hb];rfl)
 |true=>
  refine Br.no (Nil.ptr (ai.mk (aa.eq (nX h0 hr) (St.whole (r:=got K.N r) (by exact .head _) rfl (aQ _ _).1 (aQ _ _).2 ?_))));refine az.whole (r:=got K.N r) (by exact .head _) (aQ _ _).1 ?_;exact br.mk .tail rfl
end
theorem wU{B:Hp}{v:zV}{l:List Int}(h:dF .i64 B v l)(hl:l.length<=1099511627776):Fc zQ 71 #[v] B (λr H=>∃C,H=C++B/\aP 3 .i64 r l C):=by
 refine aE λg=>Pe ?_;obtain⟨a,c,rfl,hc⟩:=h.shape;refine⟨.bool a.isNone,by simp[gu],?_⟩;refine Br.mk (λha=>?_) (λha=>?_)
 ·have:l=[]:=by
   rcases h.2 with⟨_,_,h1,h2⟩|⟨b,o,cap,cs,T,fz,h1,_⟩
   ·simpa using h2
   simp at h1;rw[h1.1]at ha;simp at ha
  subst this;exact aF.here ⟨[],rfl,aP.nil⟩
 refine au.none (z:=iv 0) (e:=3) (k:=1) zK zK zK λb=>?_;refine(aP.made (T:=3) (kd:=.i64) (b:=b) []).Yn (l2:=l) .left ((show dF .i64 B _ l from h).mono λ_ h=>.tail _ h) zP zP λv' C' ho=>?_;exact aF.here ⟨C',rfl,by simpa using ho⟩
theorem zi{kp:Nat}{K:Kd}{ord ah tr:zL}{C:Hp}(h:cW kp K ord ah tr C):Fc zQ 65 #[ptr kp] C (λr H=>∃N,H=N++C/\aP 3 .i64 r (iw ord) N):=by
 obtain⟨b,rfl,hO⟩:=h;refine aE λg=>Ph (ae.aI (Br.no (Nil.ptr (Ld.f ?_))));refine aa.fq (wU (hO.od.ints.mono (bH.sub (.cons (.app (.app (.app (.app .left))))))) (by have:=hO.ol.1;have:=hO.lY;simp;omega)) ?_;rintro v C' ⟨N,rfl,ho⟩;exact aF.here ⟨N,rfl,ho⟩
end
section
def Ay(x r:Nat):Prop:=x<2^r/\(r=0\/2^(r-1)<=x)
theorem Ay.up{x s t:Nat}(h:Ay (x>>>s) t)(h0:s=0\/x>>>s≠0):Ay x (s+t):=by
 rw[xaW]at h h0;have hp:=xa6 s;refine⟨?_,?_⟩
 ·have:=h.1;rw[Nat.div_lt_iff_lt_mul hp]at this;rw[xdl,xcm];exact this
 rcases h.2 with h2|h2
 ·subst h2;have:=h.1;rcases h0 with h0|h0
  ·exact .inl zO
  rw[Nat.pow_zero]at this;exact absurd (Nat.lt_one_iff.1 this) h0
 by_cases ht:t=0
 ·subst ht;rcases h0 with h0|h0
  ·exact .inl zO
  have:=h.1;rw[Nat.pow_zero]at this;exact absurd (Nat.lt_one_iff.1 this) h0
 right;have:=(Nat.le_div_iff_mul_le hp).1 h2;rw[show s+t-1=(t-1)+s by omega,xdl];exact this
theorem VN:∀y:Fin 256,∃b:UInt8, zX[y.1]? =some b/\(y.1<2^b.toNat/\(b.toNat=0\/2^(b.toNat-1)<=y.1)):=by
 have h:∀y:Fin 256,(match zX[y.1]? with|some b=>decide (y.1<2^b.toNat/\(b.toNat=0\/2^(b.toNat-1)<=y.1))|none=>false)=true:=by decide+kernel
 intro y;have:=h y;split at this
 ·rename_i b hb;exact⟨b,hb,by simpa using this⟩
 cases this
theorem Ry{x:Nat}(hx:x<18446744073709551616)(B:Hp):Rd zQ 222 #[.int .u64 (x:Int)] B (λv=>∃r:Nat,Ay x r/\v=iv (r:Int)):=by
 refine aE λg=>JA λJ1 hJ1=>?_;have h1:∀s,s<=32->x>>>s<4294967296->(s=0\/x>>>s≠0)->J1 [.int .u64 ((x>>>s:Nat):Int),iv (s:Int)] B:=by
  intro s hs hlt h0;refine hJ1 _ _ _ λgs=>?_;intro J2 BZ;have h2:∀s,s<=48->x>>>s<65536->(s=0\/x>>>s≠0)->J2 [.int .u64 ((x>>>s:Nat):Int),iv (s:Int)] B:=by
   intro s hs hlt h0;refine BZ _ _ _ λgs=>?_;intro J3 hJ3;have h3:∀s,s<=56->x>>>s<256->(s=0\/x>>>s≠0)->J3 [.int .u64 ((x>>>s:Nat):Int),iv (s:Int)] B:=by
    intro s hs hlt h0;refine hJ3 _ _ _ λgs=>?_;refine bc.nat (show x>>>s<256 from hlt) ?_;obtain⟨b,hb,hl⟩:=VN ⟨x>>>s,hlt⟩;refine⟨_,_,_,b,rfl,rfl,xdf _,by rw[xa3];exact hb,?_⟩;have GC:b.toNat<256:=b.toNat_lt;exact bc.q (ae.fI (br.mk (.refl _) ⟨s+b.toNat,Ay.up (t:=b.toNat) hl h0,rfl⟩))
   refine ae.s6 (b:=256) (Br.dec (λhge=>?_) (λhge=>JE.mk (h3 s zO zO h0)));refine ae.ic (b:=8) (by simp only[bA];omega) (ae.fI (b:=8) ?_);rw[<-xdK];have e:x>>>(s+8)=x>>>s/256:=by rw[xdK,xaW (x>>>s) 8]
   exact JE.mk (h3 (s+8) zO zO (.inr zO))
  refine ae.s6 (b:=65536) (Br.dec (λhge=>?_) (λhge=>JE.mk (h2 s zO zO h0)));refine ae.ic (b:=16) (by simp only[bA];omega) (ae.fI (b:=16) ?_);rw[<-xdK];have e:x>>>(s+16)=x>>>s/65536:=by rw[xdK,xaW (x>>>s) 16]
  exact JE.mk (h2 (s+16) zO zO (.inr zO))
 refine ae.s6 (b:=4294967296) (Br.dec (λhge=>?_) (λhge=>JE.mk (h1 0 zO zP (.inl rfl))));refine ae.ic (b:=32) (by simp only[bA];exact hx) ?_;have e:x>>>32=x/4294967296:=by rw[xaW]
 exact JE.mk (h1 32 zO zO (.inr zO))
end
end Go.Proofs
namespace Go.Sx
open Go
section
variable {P:Program} {H C:Hp} {c:Hp->Hp}
theorem bH.re(h:bH C H c)(X:Hp):bH X (c X) c:=by
 induction h with
 |here=>exact .here
 |left=>exact .left
 |cons _ ih=>exact .cons ih
 |app _ ih=>exact .app ih
theorem swap_perm{l:List Int}{i j:Nat}{x y:Int}(hi:l[i]? =some x)(hj:l[j]? =some y):((l.set i y).set j x).Perm l:=by
 have h1:=(xah.1 hi).1;have h2:=(xah.1 hj).1;rw[xcu];intro a;by_cases e:i=j
 ·subst e;rw[hi]at hj;cases hj;rw[List.set_set];have:l.set i x=l:=by
   have hx:l[i]=x:=by rw[xaa h1]at hi;exact xbp hi
   rw[<-hx];exact List.set_getElem_self h1
  rw[this]
 have hx:l[i]=x:=by rw[xaa h1]at hi;exact xbp hi
 have hy:l[j]=y:=by rw[xaa h2]at hj;exact xbp hj
 rw[xdP (by simpa using h2),xdP h1];have:(l.set i y)[j]'(by simpa using h2)=y:=by rw[List.getElem_set_ne e];exact hy
 rw[this,hx];have c1:l.count x≥1:=List.one_le_count_iff.2 (hx▸xaF h1);have c2:l.count y≥1:=List.one_le_count_iff.2 (hy▸xaF h2);by_cases e1:x=a
 ·subst e1;by_cases e2:y=x
  ·subst e2;simp<;>omega
  simp[e2,xbb e2]<;>omega
 by_cases e2:y=a
 ·subst e2;simp[e1]<;>omega
 simp[e1,e2]<;>omega
def up1(vs:List zV):Nat:=match vs with
 | .int _ q::_=>(q+1).toNat
 |_=>0
theorem AB{k:IntKind}{q:Int}{r:List zV}:up1 (.int k q::r)=(q+1).toNat:=rfl
end
end Go.Sx
namespace Go.Sx
open Go
abbrev cz:=Sort.ltInt
section
variable {P:Program} {H C:Hp} {c:Hp->Hp} {T:TypeId} {kd yc k1 k2 k3 k4:IntKind} {v:zV} {d:Array Int}
def Da(T:TypeId)(kd:IntKind)(v:zV)(d:Array Int)(C:Hp):Prop:=aP T kd v d.toList C
theorem aaj(d:Array Int){i:Nat}(hi:i<d.size):d.toList[i]? =some d[i]! :=by
 rw[xbf,getElem!_pos d i hi];exact xbC hi
theorem Qp(d:Array Int)(i j:Nat):(Sort.swp d i j).toList=(d.toList.set i d[j]!).set j d[i]! :=by
 unfold Sort.swp;rw[Array.toList_setIfInBounds,Array.toList_setIfInBounds]
theorem Da.ld(h:Da T kd v d C)(hC:∀y∈C,y∈H){i:Nat}(hi:i<d.size){K:zV->Prop}(hk:K (.int kd d[i]!)):av 1 v (.int yc (i:Int)) λp=>Ld H p K:=
 aP.ld h (aaj d hi) hC hk
theorem Da.XB(h:Da T kd v d C)(hh:bH C H c){i j:Nat}(hi:i<d.size)(hj:j<d.size){B:(zV->Prop)->Prop}
 (hB:∀k:zV->Prop,k (.int k2 (i:Int))->B k){K:Hp->Prop}(hk:∀C',Da T kd v (Sort.swp d i j) C'->K (c C')):
  av 1 v (.int k1 (j:Int)) λp1=>Ld H p1 λx=>B λu=>av 1 v u λp2=>Ld H p2 λy=>av 1 v (.int k3 (i:Int)) λp3=>St 1 H p3 x λH1=>av 1 v (.int k4 (j:Int)) λp4=>St 1 H1 p4 y K:=by
 refine h.ld hh.sub hj (hB _ ?_);refine h.ld hh.sub hi ?_;refine aP.nw h hh (by rw[xcf];exact hi) λC1 h1=>?_;refine h1.nw (hh.re C1) (by rw[xbR,xcf];exact hj) λC2 h2=>?_;exact hk C2 (by unfold Da;rw[Qp];exact h2)
theorem Da.swap(h:Da T kd v d C)(hh:bH C H c){i j:Nat}(hi:i<d.size)(hj:j<d.size){K:Hp->Prop}(hk:∀C',Da T kd v (Sort.swp d i j) C'->K (c C')):
  av 1 v (.int k1 (j:Int)) λp1=>Ld H p1 λx=>av 1 v (.int k2 (i:Int)) λp2=>Ld H p2 λy=>av 1 v (.int k3 (i:Int)) λp3=>St 1 H p3 x λH1=>av 1 v (.int k4 (j:Int)) λp4=>St 1 H1 p4 y K:=
 h.XB (B:=λk=>k _) hh hi hj (λ_ h=>h) hk
end
theorem jc{d:Array Int}{n i j:Nat}(h:d.size=n):(Sort.swp d i j).size=n:=(Sort.size_swp d i j).trans h
theorem RM{a j:Nat}{e:Array Int}(h:¬a<j):Sort.insInner cz a j e=e:=by
 cases j with
 |zero=>rfl
 |succ j=>rw[Sort.insInner,xac zP]
theorem RN{a j:Nat}{e:Array Int}(h:a<j):Sort.insInner cz a j e=if cz e[j]! e[j-1]! =true then Sort.insInner cz a (j-1) (Sort.swp e j (j-1))else e:=by
 obtain⟨j,rfl⟩:∃k,j=k+1:=⟨j-1,by omega⟩;rw[Sort.insInner,xam h,xcp];rfl
theorem Oo{j:Nat}{e:Array Int}(h:¬1<=j):Sort.shiftDown cz j e=e:=by
 obtain rfl:j=0:=by omega
 rfl
theorem td{j:Nat}{e:Array Int}(h:1<=j):Sort.shiftDown cz j e=if(!cz e[j]! e[j-1]!)=true then e else Sort.shiftDown cz (j-1) (Sort.swp e j (j-1)):=by
 obtain⟨j,rfl⟩:∃k,j=k+1:=⟨j-1,by omega⟩;rw[Sort.shiftDown];rfl
theorem fA{p:Int->Bool}{d:Array Int}{i j:Nat}(h:0<j):Sort.scanDown p d i j=if(decide (i<=j) &&p d[j]!)=true then Sort.scanDown p d i (j-1)else j:=by
 obtain⟨j,rfl⟩:∃k,j=k+1:=⟨j-1,by omega⟩;rw[Sort.scanDown];rfl
theorem M4{hi f r:Nat}{d:Array Int}(h:hi<=2*r+1):Sort.siftDown cz hi f r d=d:=by
 rw[Sort.siftDown,xeb h]
theorem U5{hi f r c:Nat}{d:Array Int}(h:2*r+1<hi)(hc:c=if(decide (2*r+1+1<hi) &&cz d[f+(2*r+1)]! d[f+(2*r+1)+1]!)=true then 2*r+2 else 2*r+1):
  Sort.siftDown cz hi f r d=if(!cz d[f+r]! d[f+c]!)=true then d else Sort.siftDown cz hi f c (Sort.swp d (f+r) (f+c)):=by
 rw[Sort.siftDown,dif_neg zO];split at hc
 ·rename_i hb;subst hc;rw[xae hb];rw[xay,xaJ]at hb;split
  ·rfl
  rw[xeb hb.1]
 rename_i hb;subst hc;rw[xac hb]
theorem Lf(hi f r:Nat)(d:Array Int):(Sort.siftDown cz hi f r d).size=d.size:=by
 fun_induction Sort.siftDown cz hi f r d<;>simp_all[Sort.size_swp]
end Go.Sx
set_option maxRecDepth 100000
namespace Go.Proofs
open Go Go.Sx Tryz
section
structure Srt where
 nan:Nat
 less:Nat
 DG:Nat
 M5:Nat
 heap:Nat
 rev:Nat
 pins:Nat
 vK:Nat
 part:Nat
 brk:Nat
 FU:Nat
 med:Nat
 F0:Nat
 piv:Nat
 YN:Nat
section
variable (zs:Srt)
variable {g:Gh} {a0 a1 a2 a3 a4 a5 a6 a7 a8 a9 tZ tY a12 a13 a14 a15:zV} {H:Hp} {R:Rt}
def L9000:Y1:=λ_ a b c=>lN a a λa=>rt c a b
def L9001:Y2:=λa b c d e=>jB (λf g=>rt e f g) λf=>CF a zs.nan #[b] d (λd g=>Split d true (CF a zs.nan #[c] g (λa d=>Un .not a λa=>aM vT a vF λa=>Split a false (lL b c λa=>aM vF vT a λa=>JE f [a] d) (aM vT vT undef λa=>JE f [a] d)) (dD e)) (aM vF undef vF λa=>lL b c λb=>aM a vT b λa=>JE f [a] g)) (dD e)
def L9002:Y3:=λa b c d e f=>lA c i1 λg=>yA [g] e λe g h i=>lL h d λd=>Br d (yA [h] i λd j k l=>jB (λm n=>Br m (DR n λm=>lS k i1 λo=>lS k i1 λp=>lI 1 b p m λp=>lI 1 b k m λm=>av 1 b k λq=>St 1 n q p λp=>av 1 b o λo=>St 1 p o m λm=>lS k i1 λo=>aC d j [o] m [k] l) (lA h i1 λd=>aC e g [d] n [h] i)) λd=>DR l λe=>lG k c λc=>Br c (lI 1 b k e λc=>lS k i1 λg=>lI 1 b g e λb=>∀e:Hp,
CF (a.add e) zs.less #[c,b] l (λa b=>aM vT a vF λa=>JE d [a] b) fJ) (JE d [vF] l)) (rt f (.tuple #[]) i)
def L9003:Y4:=λa b c d e f g=>yA [c] f λc f h i=>oM (iv 2) h λj=>lA j i1 λj=>oG j d λk=>Br k (rt g (.tuple #[]) i) (jB (λk l=>DR l λm=>lA e h λn=>lI 1 b n m λn=>lA e k λo=>lI 1 b o m λm=>CF a zs.less #[n,m] l (λl m=>Un .not l λl=>Br l (rt g (.tuple #[]) m) (DR m λg=>lA e h λl=>lA e k λn=>lA e k λo=>lI 1 b o g λo=>lA e h λp=>lI 1 b p g λg=>av 1 b l λl=>St 1 m l o λl=>av 1 b n λm=>St 1 l m g λg=>aC c f [k] g [h] i)) fJ) λc=>jB (λf g=>Br f (lA j i1 λf=>JE c [f] g) (JE c [j] g)) λc=>DR i λf=>lA j i1 λg=>lL g d λd=>Br d (lA e j λd=>lI 1 b d f λd=>lA e j λe=>lA e i1 λe=>lI 1 b e f λb=>∀e:Hp,
CF (a.add e) zs.less #[d,b] i (λa b=>aM vT a vF λa=>JE c [a] b) fJ) (JE c [vF] i))
def L9004:Y3:=λa b c d e f=>lS d c λd=>lS d i1 λg=>ae .num .quo g (iv 2) λg=>yA [g] e λe g h i=>oG h i0 λj=>Br j (CF a zs.M5 #[b,h,d,c] i (λ_ j=>lS h i1 λk=>aC e g [k] j [h] i) (dD f)) (lS d i1 λd=>yA [d] i λd e g h=>oG g i0 λi=>Br i (DR h λi=>lA c g λj=>lA c g λk=>lI 1 b k i λk=>lI 1 b c i λi=>av 1 b c λl=>St 1 h l k λk=>av 1 b j λj=>St 1 k j i λi=>CF a zs.M5 #[b,i0,g,c] i (λ_ a=>lS g i1 λb=>aC d e [b] a [g] h) (dD f)) (rt f (.tuple #[]) h))
def L9005:Y3:=λ_ a b c d e=>lS c i1 λc=>yB [b,c] d λb c d f g=>lL d f λh=>Br h (DR g λh=>lI 1 a f h λi=>lI 1 a d h λh=>av 1 a d λj=>St 1 g j i λi=>av 1 a f λa=>St 1 i a h λa=>lA d i1 λh=>lS f i1 λi=>aC b c [h,i] a [d,f] g) (rt e (.tuple #[]) g)
def L9006:Y3:=λa b c d e f=>lA c i1 λg=>yB [g,i0] e λe g h i j=>lL i (iv 5) λk=>Br k (jB (λk l=>lA i i1 λm=>aC e g [k,m] l [h,i] j) λe=>yA [h] j λg h i k=>jB (λl m=>Br l (lA i i1 λl=>aC g h [l] m [i] k) (lE i d λg=>Br g (rt f vT m) (lS d c λg=>lL g (iv 50) λg=>Br g (rt f vF m) (DR m λg=>lS i i1 λh=>lS i i1 λl=>lI 1 b l g λl=>lI 1 b i g λg=>av 1 b i λn=>St 1 m n l λl=>av 1 b h λh=>St 1 l h g λg=>jA (λh=>lS d i λl=>oG l (iv 2) λl=>Br l (lA i i1 λl=>yA [l] h λl m n o=>lL n d λp=>Br p (DR o λp=>lI 1 b n p λq=>lS n i1 λr=>lI 1 b r p λp=>CF a zs.less #[q,p] o (λp q=>Un .not p λp=>Br p (JE e [i] q) (DR q λp=>lS n i1 λr=>lS n i1 λs=>lI 1 b s p λs=>lI 1 b n p λp=>av 1 b n λt=>St 1 q t s λq=>av 1 b r λr=>St 1 q r p λp=>lA n i1 λq=>aC l m [q] p [n] o)) fJ) (JE e [i] o)) (JE e [i] h)) λe=>lS i c λc=>oG c (iv 2) λc=>Br c (lS i i1 λc=>yA [c] g λc h l m=>oG l i1 λn=>Br n (DR m λn=>lI 1 b l n λo=>lS l i1 λp=>lI 1 b p n λn=>CF a zs.less #[o,n] m (λn o=>Un .not n λn=>Br n (JE e [] o) (DR o λn=>lS l i1 λp=>lS l i1 λq=>lI 1 b q n λq=>lI 1 b l n λn=>av 1 b l λr=>St 1 o r q λo=>av 1 b p λp=>St 1 o p n λn=>lS l i1 λo=>aC c h [o] n [l] m)) fJ) (JE e [] m)) (JE e [] g))))) λc=>DR k λe=>lL i d λd=>Br d (lI 1 b i e λd=>lS i i1 λg=>lI 1 b g e λb=>∀e:Hp,
CF (a.add e) zs.less #[d,b] k (λa b=>Un .not a λa=>aM vT a vF λa=>JE c [a] b) fJ) (JE c [vF] k)) (rt f vF j)
def L9007:Y4:=λa b c d e f g=>DR f λh=>lI 1 b e h λi=>lI 1 b c h λh=>av 1 b c λj=>St 1 f j i λf=>av 1 b e λe=>St 1 f e h λe=>lA c i1 λf=>lS d i1 λd=>yB [f,d] e λd e f h i=>yA [f] i λj k l m=>jB (λn o=>Br n (lA l i1 λn=>aC j k [n] o [l] m) (yA [h] o λj k n o=>jB (λp q=>Br p (lS n i1 λp=>aC j k [p] q [n] o) (lG l n λj=>Br j (rt g l q) (DR q λg=>lI 1 b n g λj=>lI 1 b l g λg=>av 1 b l λk=>St 1 q k j λj=>av 1 b n λk=>St 1 j k g λg=>lA l i1 λj=>lS n i1 λk=>aC d e [j,k] g [f,h] i))) λd=>DR o λe=>oQ l n λf=>Br f (lI 1 b c e λf=>lI 1 b n e λe=>∀g:Hp,
CF (a.add g) zs.less #[f,e] o (λe f=>aM vT e vF λe=>JE d [e] f) fJ) (JE d [vF] o))) λd=>DR m λe=>oQ l h λf=>Br f (lI 1 b c e λc=>lI 1 b l e λb=>∀e:Hp,
CF (a.add e) zs.less #[c,b] m (λa b=>Un .not a λa=>aM vT a vF λa=>JE d [a] b) fJ) (JE d [vF] m)
def L9008:Y4:=λa b c d e f g=>DR f λh=>lI 1 b e h λi=>lI 1 b c h λh=>av 1 b c λj=>St 1 f j i λf=>av 1 b e λe=>St 1 f e h λe=>lA c i1 λf=>lS d i1 λd=>yA [f] e λe f h i=>jB (λj k=>Br j (lA h i1 λj=>aC e f [j] k [h] i) (yA [d] k λe f j k=>jB (λl m=>Br l (lS j i1 λl=>aC e f [l] m [j] k) (lG h j λe=>Br e (DR m λe=>lI 1 b c e λf=>lI 1 b j e λe=>av 1 b j λl=>St 1 m l f λf=>av 1 b c λl=>St 1 f l e λe=>rt g (tP j vT) e) (DR m λe=>lI 1 b j e λf=>lI 1 b h e λe=>av 1 b h λl=>St 1 m l f λf=>av 1 b j λl=>St 1 f l e λe=>lA h i1 λf=>lS j i1 λl=>yB [f,l] e λe f l m n=>yA [l] n λo p q r=>jB (λs t=>Br s (lA q i1 λs=>aC o p [s] t [q] r) (yA [m] t λo p s t=>jB (λu v=>Br u (lS s i1 λu=>aC o p [u] v [s] t) (lG q s λo=>Br o (DR v λo=>lI 1 b c o λp=>lI 1 b s o λo=>av 1 b s λu=>St 1 v u p λp=>av 1 b c λu=>St 1 p u o λo=>rt g (tP s vF) o) (DR v λg=>lI 1 b s g λo=>lI 1 b q g λg=>av 1 b q λp=>St 1 v p o λo=>av 1 b s λp=>St 1 o p g λg=>lA q i1 λo=>lS s i1 λp=>aC e f [o,p] g [l,m] n))) λe=>DR t λf=>oQ q s λg=>Br g (lI 1 b s f λg=>lI 1 b c f λf=>∀l:Hp,
CF (a.add l) zs.less #[g,f] t (λf g=>Un .not f λf=>aM vT f vF λf=>JE e [f] g) fJ) (JE e [vF] t))) λe=>DR r λf=>oQ q m λg=>Br g (lI 1 b q f λg=>lI 1 b c f λf=>∀l:Hp,
CF (a.add l) zs.less #[g,f] r (λf g=>aM vT f vF λf=>JE e [f] g) fJ) (JE e [vF] r)))) λe=>DR k λf=>oQ h j λg=>Br g (lI 1 b j f λg=>lI 1 b c f λf=>∀j:Hp,
CF (a.add j) zs.less #[g,f] k (λf g=>Un .not f λf=>aM vT f vF λf=>JE e [f] g) fJ) (JE e [vF] k))) λe=>DR i λf=>oQ h d λd=>Br d (lI 1 b h f λd=>lI 1 b c f λb=>∀c:Hp,
CF (a.add c) zs.less #[d,b] i (λa b=>aM vT a vF λa=>JE e [a] b) fJ) (JE e [vF] i)
def L9009:Y3:=λa b c d e f=>lS d c λd=>oG d (iv 8) λg=>Br g (bc .u64 d λg=>lQ 1 e #[(wi 0)] 371 g λg h=>CR f a 304 #[d] h λh i=>ae .num .quo d (iv 4) λj=>oM j (iv 2) λj=>lA c j λj=>lS j i1 λj=>yA [j] i λi j k l=>ae .num .quo d (iv 4) λm=>oM m (iv 2) λm=>lA c m λm=>lA m i1 λm=>oQ k m λm=>Br m (CR f a 305 #[(pt g)] l λa g=>lS h (wi 1) λh=>oA a h λa=>bc .i64 a λa=>jB (λh m=>DR m λn=>lA c h λo=>lA c h λc=>lI 1 b c n λc=>lI 1 b k n λh=>av 1 b k λn=>St 1 m n c λc=>av 1 b o λb=>St 1 c b h λb=>lA k i1 λc=>aC i j [c] b [k] l) λb=>oG a d λc=>Br c (lS a d λc=>JE b [c] g) (JE b [a] g)) (rt f (.tuple #[]) l)) (rt f (.tuple #[]) e)
def L9010:Y4:=λa b c d e f g=>DR f λh=>lI 1 b d h λi=>lI 1 b c h λb=>CF a zs.less #[i,b] f (λa b=>Br a (Nil e λa=>Ld b a λa=>lA a i1 λa=>Nil e λe=>St 1 b e a λa=>rt g (tP d c) a) (rt g (tP c d) b)) fJ
def L9011:Y5:=λa b c d e f g h=>CF a zs.FU #[b,c,d,f] g (λc d=>lX c λc g=>CF a zs.FU #[b,g,e,f] d (λd e=>lX d λd _=>CF a zs.FU #[b,c,d,f] e (λa b=>lX a λ_ a=>rt h a b) (dD h)) (dD h)) (dD h)
def L9012:Y3:=λa b c d e f=>lS c i1 λg=>lA c i1 λh=>CF a zs.med #[b,g,c,h,d] e (λa b=>rt f a b) (dD f)
def L9013:Y3:=λa b c d e f=>lS d c λd=>lW e #[i0] 3 λe g=>ae .num .quo d (iv 4) λh=>oM h i1 λh=>lA c h λh=>ae .num .quo d (iv 4) λi=>oM i (iv 2) λi=>lA c i λi=>ae .num .quo d (iv 4) λj=>oM j (iv 3) λj=>lA c j λc=>jB (λj k=>Ld k (pt e) λl=>lE l i0 λm=>Br m (rt f (tP j i1) k) (lE l (iv 12) λl=>Br l (rt f (tP j (iv 2)) k) (rt f (tP j i0) k))) λj=>oG d (iv 8) λk=>Br k (∀k:Jt,(∀l m n:zV,∀o:Hp,(∀_:Fr,
CF a zs.med #[b,l,m,n,(pt e)] o (λp q=>JE j [p] q) (dD f))->k [l,m,n] o)->oG d (iv 50) λd=>Br d (CF a zs.F0 #[b,h,(pt e)] g (λd l=>CF a zs.F0 #[b,i,(pt e)] l (λl m=>CF a zs.F0 #[b,c,(pt e)] m (λa b=>JE k [d,l,a] b) (dD f)) (dD f)) (dD f)) (JE k [h,i,c] g)) (JE j [i] g)
def L9014:Y4:=λa b c d e f g=>∃(h:Jt) (i:Mt),JE h [c,d,e,vT,vT] f/\∀c d e f j:zV,∀k:Hp,h [c,d,e,f,j] k->∀_:Fr,
lS d c λl=>oQ l (iv 12) λm=>Br m (CF a zs.DG #[b,c,d] k (λ_ m=>rt g (.tuple #[]) m) (dD g)) (lE e i0 λm=>Br m (CF a zs.heap #[b,c,d] k (λ_ m=>rt g (.tuple #[]) m) (dD g)) (jB (λm n=>CF a zs.piv #[b,c,d] n (λn o=>lX n λn p=>jC (λq r s=>jA (λt=>jB (λu v=>Br u (CF a zs.vK #[b,c,d,q] v (λu w=>aC h i [u,d,m,f,j] w [c,d,e,f,j] k) (dD g)) (CF a zs.part #[b,c,d,q] v (λu v=>lX u λu w=>lS u c λx=>lS d u λy=>ae .num .quo l (iv 8) λl=>lL x y λz=>Br z (oG x l λx=>CF a zs.YN #[b,c,u,m] v (λ_ z=>lA u i1 λA=>aC h i [A,d,m,x,w] z [c,d,e,f,j] k) (dD g)) (oG y l λl=>lA u i1 λx=>CF a zs.YN #[b,x,d,m] v (λ_ v=>aC h i [c,u,m,l,w] v [c,d,e,f,j] k) (dD g))) (dD g))) λh=>DR t λi=>lG c i0 λl=>Br l (lS c i1 λl=>lI 1 b l i λl=>lI 1 b q i λi=>∀m:Hp,
CF (a.add m) zs.less #[l,i] t (λi l=>Un .not i λi=>aM vT i vF λi=>JE h [i] l) fJ) (JE h [vF] t)) λh=>lU f (λi=>(lV s j i)) λi=>lU (Value.bool i) (λi=>lE r i1 λj=>(lV s j i)) λi=>Br (Value.bool i) (CF a zs.pins #[b,c,d] s (λi j=>Br i (rt g (.tuple #[]) j) (JE h [] j)) (dD g)) (JE h [] s)) λh=>lE p (iv 2) λi=>Br i (CF a zs.rev #[b,c,d] o (λ_ i=>lS d i1 λj=>lS n c λl=>lS j l λj=>JE h [j,i1] i) (dD g)) (JE h [n,p] o)) (dD g)) λh=>Un .not f λf=>Br f (CF a zs.brk #[b,c,d] k (λ_ a=>lS e i1 λb=>JE h [b] a) (dD g)) (JE h [e] k)))
end
structure EJ(zs:Srt):Prop where
 nan:∀{g:Gh} {a0:zV} {H:Hp} {R:Rt},L9000 g a0 H R->bE zQ g zs.nan #[a0] H R
 less:∀{g:Gh} {a0 a1:zV} {H:Hp} {R:Rt},L9001 zs g a0 a1 H R->bE zQ g zs.less #[a0,a1] H R
 DG:∀{g:Gh} {a0 a1 a2:zV} {H:Hp} {R:Rt},L9002 zs g a0 a1 a2 H R->bE zQ g zs.DG #[a0,a1,a2] H R
 M5:∀{g:Gh} {a0 a1 a2 a3:zV} {H:Hp} {R:Rt},L9003 zs g a0 a1 a2 a3 H R->bE zQ g zs.M5 #[a0,a1,a2,a3] H R
 heap:∀{g:Gh} {a0 a1 a2:zV} {H:Hp} {R:Rt},L9004 zs g a0 a1 a2 H R->bE zQ g zs.heap #[a0,a1,a2] H R
 rev:∀{g:Gh} {a0 a1 a2:zV} {H:Hp} {R:Rt},L9005 g a0 a1 a2 H R->bE zQ g zs.rev #[a0,a1,a2] H R
 pins:∀{g:Gh} {a0 a1 a2:zV} {H:Hp} {R:Rt},L9006 zs g a0 a1 a2 H R->bE zQ g zs.pins #[a0,a1,a2] H R
 vK:∀{g:Gh} {a0 a1 a2 a3:zV} {H:Hp} {R:Rt},L9007 zs g a0 a1 a2 a3 H R->bE zQ g zs.vK #[a0,a1,a2,a3] H R
 part:∀{g:Gh} {a0 a1 a2 a3:zV} {H:Hp} {R:Rt},L9008 zs g a0 a1 a2 a3 H R->bE zQ g zs.part #[a0,a1,a2,a3] H R
 brk:∀{g:Gh} {a0 a1 a2:zV} {H:Hp} {R:Rt},L9009 g a0 a1 a2 H R->bE zQ g zs.brk #[a0,a1,a2] H R
 FU:∀{g:Gh} {a0 a1 a2 a3:zV} {H:Hp} {R:Rt},L9010 zs g a0 a1 a2 a3 H R->bE zQ g zs.FU #[a0,a1,a2,a3] H R
 med:∀{g:Gh} {a0 a1 a2 a3 a4:zV} {H:Hp} {R:Rt},L9011 zs g a0 a1 a2 a3 a4 H R->bE zQ g zs.med #[a0,a1,a2,a3,a4] H R
 F0:∀{g:Gh} {a0 a1 a2:zV} {H:Hp} {R:Rt},L9012 zs g a0 a1 a2 H R->bE zQ g zs.F0 #[a0,a1,a2] H R
 piv:∀{g:Gh} {a0 a1 a2:zV} {H:Hp} {R:Rt},L9013 zs g a0 a1 a2 H R->bE zQ g zs.piv #[a0,a1,a2] H R
 YN:∀{g:Gh} {a0 a1 a2 a3:zV} {H:Hp} {R:Rt},L9014 zs g a0 a1 a2 a3 H R->bE zQ g zs.YN #[a0,a1,a2,a3] H R
def zR:Srt:=⟨419,413,407,416,408,411,412,414,415,409,420,418,417,410,406⟩
theorem abp:EJ zR:=⟨λh=>cq (hn:=.e) func419 h zK,
 λh=>cq (hn:=(.n .e (.h 1 [4] [] .e .e))) func413 h zK,
 λh=>cq (hn:=(.n .e (.n (.h 0 [6] [0,1,2] (.n .e (.n (.n (.n .e (.n (.h 0 [7] [0,1,2,6] (.n (.h 1 [30] [0,1,2,6,7] (.h 1 [] [] (.h 0 [0] [] (.h 0 [1] [] (.h 0 [2] [] (.h 2 [3] [] (.h 0 [4] [] (.h 0 [5] [] (.h 0 [6] [] (.h 0 [7] [] (.h 0 [8] [] (.h 0 [9] [] (.h 0 [10] [] (.h 0 [11] [] (.h 0 [12] [] (.h 0 [13] [] (.h 0 [14] [] .e .e) .e) .e) .e) .e) .e) .e) .e) .e) .e) .e) (.h 0 [4] [] (.h 0 [5] [] (.h 0 [6] [] (.h 0 [7] [] (.h 0 [8] [] (.h 0 [9] [] (.h 0 [10] [] (.h 0 [11] [] (.h 0 [12] [] (.h 0 [13] [] (.h 3 [14] [] .e .e) .e) .e) .e) .e) .e) .e) .e) .e) .e) .e)) .e) .e) .e) .e) .e) (.n (.n (.h 0 [0,1,2,3,4,5,6,7,8,9,10,11,12,13,14,15,16,17] [] .e .e) .e) .e)) .e) .e)) .e) .e)) .e) .e))) func407 h zK,
 λh=>cq (hn:=(.n .e (.n (.h 0 [8] [0,2,3] (.n (.n .e (.n .e (.h 1 [9] [0,2,3,8] (.h 1 [36] [0,2,3,8,9] (.h 1 [] [] (.h 0 [0] [] (.h 0 [1] [] (.h 0 [2] [] (.h 0 [3] [] (.h 2 [4] [] (.h 0 [5] [] (.h 0 [6] [] (.h 0 [7] [] (.h 0 [8] [] (.h 0 [9] [] (.h 0 [10] [] (.h 0 [11] [] (.h 0 [12] [] (.h 0 [13] [] (.h 0 [14] [] (.h 0 [15] [] (.h 0 [16] [] (.h 0 [17] [] (.h 0 [18] [] (.h 0 [19] [] .e .e) .e) .e) .e) .e) .e) .e) .e) .e) .e) .e) .e) .e) .e) .e) (.h 0 [5] [] (.h 0 [6] [] (.h 0 [7] [] (.h 0 [8] [] (.h 0 [9] [] (.h 0 [10] [] (.h 0 [11] [] (.h 0 [12] [] (.h 0 [13] [] (.h 0 [14] [] (.h 0 [15] [] (.h 0 [16] [] (.h 0 [17] [] (.h 0 [18] [] (.h 3 [19] [] .e .e) .e) .e) .e) .e) .e) .e) .e) .e) .e) .e) .e) .e) .e) .e)) .e) .e) .e) .e) .e) .e) (.n (.n (.h 0 [0,1,2,3,4,5,6,7,8,9,10,11,12,13] [] .e .e) .e) (.n (.h 0 [0,1,2,3,4,5,6,7,8,9,10,11,12,13,14,15,16,17,18,19,20,21,22,23] [] .e .e) .e))))) .e) .e) .e))) func416 h zK,
 λh=>cq (hn:=(.n .e (.n .e (.n .e (.n (.n .e (.n (.h 0 [9] [0,6,7,8] .e .e) .e)) (.n .e (.n (.h 0 [10] [0,6,7] (.n .e (.n (.n (.n (.h 0 [0,1,2,3,4,5,6,7,8,9,10,11,12,13,14,15,16,17,18,19] [] .e .e) .e) .e) .e)) .e) .e))))))) func408 h zK,
 λh=>cq (hn:=(.n .e (.n .e (.n (.h 0 [6,7] [0] (.n .e (.n (.n (.h 0 [0,1,2,3,4,5,6,7,8,9,10,11,12,13,14,15] [] .e .e) .e) .e)) .e) .e)))) func411 h zK,
 λh=>cq (hn:=(.n .e (.n .e (.n (.n .e (.n (.h 0 [7,8] [0,1,2] (.n .e (.h 1 [7] [0,1,2,8] (.n (.n (.n (.h 0 [7] [0,1,2,8] (.n (.h 1 [32] [0,1,2,7,8] (.h 1 [] [] (.h 0 [0] [] (.h 0 [1] [] (.h 0 [2] [] (.h 2 [3] [] (.h 0 [4] [] (.h 0 [5] [] (.h 0 [6] [] (.h 0 [7] [] (.h 0 [8] [] (.h 0 [9] [] (.h 0 [10] [] (.h 0 [11] [] (.h 0 [12] [] (.h 0 [13] [] (.h 0 [14] [] (.h 0 [15] [] .e .e) .e) .e) .e) .e) .e) .e) .e) .e) .e) .e) .e) (.h 0 [4] [] (.h 0 [5] [] (.h 0 [6] [] (.h 0 [7] [] (.h 0 [8] [] (.h 0 [9] [] (.h 0 [10] [] (.h 0 [11] [] (.h 0 [12] [] (.h 0 [13] [] (.h 0 [14] [] (.h 3 [15] [] .e .e) .e) .e) .e) .e) .e) .e) .e) .e) .e) .e) .e)) .e) .e) .e) .e) .e) .e) .e) .e) (.n .e (.n .e (.n (.h 0 [0,1,2,3,4,5,6,7,8,9,10,11,12,13,14,15,16,17] [] .e .e) (.h 1 [] [0,1,2,7,8] (.n .e (.n (.n .e (.n (.h 0 [9] [0,1,2,7,8] (.n .e (.n (.n (.n (.n (.h 0 [0,1,2,3,4,5,6,7,8,9,10] [] .e .e) .e) (.h 0 [0,1,2,3,4,5,6,7,8,9,10,11,12,13,14,15,16,17] [] .e .e)) .e) .e)) .e) .e)) .e)) (.n .e (.n (.n .e (.n (.h 0 [10] [0,1,2,7,8] (.n .e (.n (.n (.n (.n (.h 0 [0,1,2,3,4,5,6,7,8,9,10] [] .e .e) .e) (.h 0 [0,1,2,3,4,5,6,7,8,9,10,11,12,13,14,15,16,17] [] .e .e)) .e) .e)) .e) .e)) .e))))))) .e) .e)) .e) .e)) .e)))) func412 h zK,
 λh=>cq (hn:=(.n .e (.n (.h 0 [0,1,2,3,4,5,6,7,8,9,10,11,12,13,14,15] [] .e .e) (.n .e (.n (.n (.h 0 [9,10] [0,1] (.n (.n (.n (.h 0 [9] [0,1,10] (.n (.h 1 [43] [0,1,9,10] (.h 1 [] [] (.h 0 [0] [] (.h 0 [1] [] (.h 0 [2] [] (.h 2 [3] [] (.h 0 [4] [] (.h 0 [5] [] (.h 0 [6] [] (.h 0 [7] [] (.h 0 [8] [] (.h 0 [9] [] (.h 0 [10] [] (.h 0 [11] [] (.h 0 [12] [] (.h 0 [13] [] (.h 0 [14] [] .e .e) .e) .e) .e) .e) .e) .e) .e) .e) .e) .e) (.h 0 [4] [] (.h 0 [5] [] (.h 0 [6] [] (.h 0 [7] [] (.h 0 [8] [] (.h 0 [9] [] (.h 0 [10] [] (.h 0 [11] [] (.h 0 [12] [] (.h 0 [13] [] (.h 3 [14] [] .e .e) .e) .e) .e) .e) .e) .e) .e) .e) .e) .e)) .e) .e) .e) .e) .e) .e) .e) .e) (.n (.n (.h 0 [10] [0,1,9] (.n (.h 1 [59] [0,1,9,10] (.h 1 [] [] (.h 0 [0] [] (.h 0 [1] [] (.h 0 [2] [] (.h 2 [3] [] (.h 0 [4] [] (.h 0 [5] [] (.h 0 [6] [] (.h 0 [7] [] (.h 0 [8] [] (.h 0 [9] [] (.h 0 [10] [] (.h 0 [11] [] (.h 0 [12] [] (.h 0 [13] [] .e .e) .e) .e) .e) .e) .e) .e) .e) .e) .e) (.h 0 [4] [] (.h 0 [5] [] (.h 0 [6] [] (.h 0 [7] [] (.h 0 [8] [] (.h 0 [9] [] (.h 0 [10] [] (.h 0 [11] [] (.h 0 [12] [] (.h 3 [13] [] .e .e) .e) .e) .e) .e) .e) .e) .e) .e) .e)) .e) .e) .e) .e) .e) .e) .e) .e) (.n .e (.n (.h 0 [0,1,2,3,4,5,6,7,8,9,10,11,12,13,14,15] [] .e .e) .e)))) .e) .e) .e) .e))))) func414 h zK,
 λh=>cq (hn:=(.n .e (.n (.h 0 [0,1,2,3,4,5,6,7,8,9,10,11,12,13,14,15] [] .e .e) (.n .e (.n (.n (.h 0 [10] [0,1,11] (.n (.h 1 [43] [0,1,10,11] (.h 1 [] [] (.h 0 [0] [] (.h 0 [1] [] (.h 0 [2] [] (.h 2 [3] [] (.h 0 [4] [] (.h 0 [5] [] (.h 0 [6] [] (.h 0 [7] [] (.h 0 [8] [] (.h 0 [9] [] (.h 0 [10] [] (.h 0 [11] [] (.h 0 [12] [] (.h 0 [13] [] .e .e) .e) .e) .e) .e) .e) .e) .e) .e) .e) (.h 0 [4] [] (.h 0 [5] [] (.h 0 [6] [] (.h 0 [7] [] (.h 0 [8] [] (.h 0 [9] [] (.h 0 [10] [] (.h 0 [11] [] (.h 0 [12] [] (.h 3 [13] [] .e .e) .e) .e) .e) .e) .e) .e) .e) .e) .e)) .e) .e) .e) .e) .e) .e) .e) .e) (.n (.n (.h 0 [11] [0,1,10] (.n (.h 1 [60] [0,1,10,11] (.h 1 [] [] (.h 0 [0] [] (.h 0 [1] [] (.h 0 [2] [] (.h 2 [3] [] (.h 0 [4] [] (.h 0 [5] [] (.h 0 [6] [] (.h 0 [7] [] (.h 0 [8] [] (.h 0 [9] [] (.h 0 [10] [] (.h 0 [11] [] (.h 0 [12] [] (.h 0 [13] [] (.h 0 [14] [] .e .e) .e) .e) .e) .e) .e) .e) .e) .e) .e) .e) (.h 0 [4] [] (.h 0 [5] [] (.h 0 [6] [] (.h 0 [7] [] (.h 0 [8] [] (.h 0 [9] [] (.h 0 [10] [] (.h 0 [11] [] (.h 0 [12] [] (.h 0 [13] [] (.h 3 [14] [] .e .e) .e) .e) .e) .e) .e) .e) .e) .e) .e) .e)) .e) .e) .e) .e) .e) .e) .e) .e) (.n (.n .e (.n (.n (.h 0 [0,1,2,3,4,5,6,7,8,9,10,11,12,13,14,15] [] .e .e) .e) .e)) (.n (.h 0 [0,1,2,3,4,5,6,7,8,9,10,11,12,13,14,15] [] .e .e) (.n .e (.n .e (.n (.n (.h 0 [10,11] [0,1] (.n (.n (.n (.h 0 [10] [0,1,11] (.n (.h 1 [112] [0,1,10,11] (.h 1 [] [] (.h 0 [0] [] (.h 0 [1] [] (.h 0 [2] [] (.h 2 [3] [] (.h 0 [4] [] (.h 0 [5] [] (.h 0 [6] [] (.h 0 [7] [] (.h 0 [8] [] (.h 0 [9] [] (.h 0 [10] [] (.h 0 [11] [] (.h 0 [12] [] (.h 0 [13] [] .e .e) .e) .e) .e) .e) .e) .e) .e) .e) .e) (.h 0 [4] [] (.h 0 [5] [] (.h 0 [6] [] (.h 0 [7] [] (.h 0 [8] [] (.h 0 [9] [] (.h 0 [10] [] (.h 0 [11] [] (.h 0 [12] [] (.h 3 [13] [] .e .e) .e) .e) .e) .e) .e) .e) .e) .e) .e)) .e) .e) .e) .e) .e) .e) .e) .e) (.n (.n (.h 0 [11] [0,1,10] (.n (.h 1 [129] [0,1,10,11] (.h 1 [] [] (.h 0 [0] [] (.h 0 [1] [] (.h 0 [2] [] (.h 2 [3] [] (.h 0 [4] [] (.h 0 [5] [] (.h 0 [6] [] (.h 0 [7] [] (.h 0 [8] [] (.h 0 [9] [] (.h 0 [10] [] (.h 0 [11] [] (.h 0 [12] [] (.h 0 [13] [] (.h 0 [14] [] .e .e) .e) .e) .e) .e) .e) .e) .e) .e) .e) .e) (.h 0 [4] [] (.h 0 [5] [] (.h 0 [6] [] (.h 0 [7] [] (.h 0 [8] [] (.h 0 [9] [] (.h 0 [10] [] (.h 0 [11] [] (.h 0 [12] [] (.h 0 [13] [] (.h 3 [14] [] .e .e) .e) .e) .e) .e) .e) .e) .e) .e) .e) .e)) .e) .e) .e) .e) .e) .e) .e) .e) (.n .e (.n (.h 0 [0,1,2,3,4,5,6,7,8,9,10,11,12,13,14,15] [] .e .e) .e)))) .e) .e) .e) (.n (.h 0 [0,1,2,3,4,5,6,7,8,9,10,11,12,13,14,15] [] .e .e) .e)))))))))))) func415 h zK,
 λh=>cq (hn:=(.n .e (.n .e (.n (.n .e (.n .e (.n .e (.n (.h 0 [9] [0,1,6,7,8] (.n .e (.n (.n (.n .e (.h 1 [10] [0,1,6,7,8,9] .e (.h 0 [0,1,2,3,4,5,6,7,8,9,10,11,12,13,14,15,16,17,18,19] [] .e .e))) .e) .e)) .e) .e)))) .e)))) func409 h zK,
 λh=>cq (hn:=(.n .e (.n (.n (.h 0 [0,1,2,3,4,5,6,7,8] [] .e .e) .e) .e))) func420 h zK,
 λh=>cq (hn:=.e) func418 h zK,
 λh=>cq (hn:=.e) func417 h zK,
 λh=>cq (hn:=(.n .e (.n .e (.n .e (.n .e (.n .e (.n .e (.h 1 [11] [9] (.n .e (.n (.h 1 [10,11,12] [0,9] .e .e) .e)) .e)))))))) func410 h zK,
 λh=>cq (hn:=(.n .e (.n .e (.n (.h 0 [1,2,3,8,9] [0] (.n (.n .e (.n .e (.n .e (.h 1 [3] [0,1,2,8,9,10] .e (.n .e (.h 1 [11,12] [0,1,2,3,8,9,10] .e (.h 1 [] [0,1,2,3,8,9,10,11] (.n (.h 0 [] [1] .e .e) .e) (.n (.h 1 [87] [0,1,2,3,8,9,10,11] (.h 1 [] [] (.h 0 [0] [] (.h 0 [1] [] (.h 2 [2] [] (.h 0 [3] [] (.h 0 [4] [] (.h 0 [5] [] (.h 0 [6] [] (.h 0 [7] [] (.h 0 [8] [] (.h 0 [9] [] (.h 0 [10] [] (.h 0 [11] [] (.h 0 [12] [] (.h 0 [13] [] (.h 0 [14] [] .e .e) .e) .e) .e) .e) .e) .e) .e) .e) .e) .e) .e) (.h 0 [3] [] (.h 0 [4] [] (.h 0 [5] [] (.h 0 [6] [] (.h 0 [7] [] (.h 0 [8] [] (.h 0 [9] [] (.h 0 [10] [] (.h 0 [11] [] (.h 0 [12] [] (.h 0 [13] [] (.h 3 [14] [] .e .e) .e) .e) .e) .e) .e) .e) .e) .e) .e) .e) .e)) .e) .e) .e) .e) .e)))))))) .e) .e) .e)))) func406 h zK⟩
def zJ:Srt:=⟨308,218,212,303,213,216,217,219,220,214,369,307,306,215,153⟩
theorem abq:EJ zJ:=⟨λh=>cq (hn:=.e) func308 h zK,
 λh=>cq (hn:=(.n .e (.h 1 [4] [] .e .e))) func218 h zK,
 λh=>cq (hn:=(.n .e (.n (.h 0 [6] [0,1,2] (.n .e (.n (.n (.n .e (.n (.h 0 [7] [0,1,2,6] (.n (.h 1 [30] [0,1,2,6,7] (.h 1 [] [] (.h 0 [0] [] (.h 0 [1] [] (.h 0 [2] [] (.h 2 [3] [] (.h 0 [4] [] (.h 0 [5] [] (.h 0 [6] [] (.h 0 [7] [] (.h 0 [8] [] (.h 0 [9] [] (.h 0 [10] [] (.h 0 [11] [] (.h 0 [12] [] (.h 0 [13] [] (.h 0 [14] [] .e .e) .e) .e) .e) .e) .e) .e) .e) .e) .e) .e) (.h 0 [4] [] (.h 0 [5] [] (.h 0 [6] [] (.h 0 [7] [] (.h 0 [8] [] (.h 0 [9] [] (.h 0 [10] [] (.h 0 [11] [] (.h 0 [12] [] (.h 0 [13] [] (.h 3 [14] [] .e .e) .e) .e) .e) .e) .e) .e) .e) .e) .e) .e)) .e) .e) .e) .e) .e) (.n (.n (.h 0 [0,1,2,3,4,5,6,7,8,9,10,11,12,13,14,15,16,17] [] .e .e) .e) .e)) .e) .e)) .e) .e)) .e) .e))) func212 h zK,
 λh=>cq (hn:=(.n .e (.n (.h 0 [8] [0,2,3] (.n (.n .e (.n .e (.h 1 [9] [0,2,3,8] (.h 1 [36] [0,2,3,8,9] (.h 1 [] [] (.h 0 [0] [] (.h 0 [1] [] (.h 0 [2] [] (.h 0 [3] [] (.h 2 [4] [] (.h 0 [5] [] (.h 0 [6] [] (.h 0 [7] [] (.h 0 [8] [] (.h 0 [9] [] (.h 0 [10] [] (.h 0 [11] [] (.h 0 [12] [] (.h 0 [13] [] (.h 0 [14] [] (.h 0 [15] [] (.h 0 [16] [] (.h 0 [17] [] (.h 0 [18] [] (.h 0 [19] [] .e .e) .e) .e) .e) .e) .e) .e) .e) .e) .e) .e) .e) .e) .e) .e) (.h 0 [5] [] (.h 0 [6] [] (.h 0 [7] [] (.h 0 [8] [] (.h 0 [9] [] (.h 0 [10] [] (.h 0 [11] [] (.h 0 [12] [] (.h 0 [13] [] (.h 0 [14] [] (.h 0 [15] [] (.h 0 [16] [] (.h 0 [17] [] (.h 0 [18] [] (.h 3 [19] [] .e .e) .e) .e) .e) .e) .e) .e) .e) .e) .e) .e) .e) .e) .e) .e)) .e) .e) .e) .e) .e) .e) (.n (.n (.h 0 [0,1,2,3,4,5,6,7,8,9,10,11,12,13] [] .e .e) .e) (.n (.h 0 [0,1,2,3,4,5,6,7,8,9,10,11,12,13,14,15,16,17,18,19,20,21,22,23] [] .e .e) .e))))) .e) .e) .e))) func303 h zK,
 λh=>cq (hn:=(.n .e (.n .e (.n .e (.n (.n .e (.n (.h 0 [9] [0,6,7,8] .e .e) .e)) (.n .e (.n (.h 0 [10] [0,6,7] (.n .e (.n (.n (.n (.h 0 [0,1,2,3,4,5,6,7,8,9,10,11,12,13,14,15,16,17,18,19] [] .e .e) .e) .e) .e)) .e) .e))))))) func213 h zK,
 λh=>cq (hn:=(.n .e (.n .e (.n (.h 0 [6,7] [0] (.n .e (.n (.n (.h 0 [0,1,2,3,4,5,6,7,8,9,10,11,12,13,14,15] [] .e .e) .e) .e)) .e) .e)))) func216 h zK,
 λh=>cq (hn:=(.n .e (.n .e (.n (.n .e (.n (.h 0 [7,8] [0,1,2] (.n .e (.h 1 [7] [0,1,2,8] (.n (.n (.n (.h 0 [7] [0,1,2,8] (.n (.h 1 [32] [0,1,2,7,8] (.h 1 [] [] (.h 0 [0] [] (.h 0 [1] [] (.h 0 [2] [] (.h 2 [3] [] (.h 0 [4] [] (.h 0 [5] [] (.h 0 [6] [] (.h 0 [7] [] (.h 0 [8] [] (.h 0 [9] [] (.h 0 [10] [] (.h 0 [11] [] (.h 0 [12] [] (.h 0 [13] [] (.h 0 [14] [] (.h 0 [15] [] .e .e) .e) .e) .e) .e) .e) .e) .e) .e) .e) .e) .e) (.h 0 [4] [] (.h 0 [5] [] (.h 0 [6] [] (.h 0 [7] [] (.h 0 [8] [] (.h 0 [9] [] (.h 0 [10] [] (.h 0 [11] [] (.h 0 [12] [] (.h 0 [13] [] (.h 0 [14] [] (.h 3 [15] [] .e .e) .e) .e) .e) .e) .e) .e) .e) .e) .e) .e) .e)) .e) .e) .e) .e) .e) .e) .e) .e) (.n .e (.n .e (.n (.h 0 [0,1,2,3,4,5,6,7,8,9,10,11,12,13,14,15,16,17] [] .e .e) (.h 1 [] [0,1,2,7,8] (.n .e (.n (.n .e (.n (.h 0 [9] [0,1,2,7,8] (.n .e (.n (.n (.n (.n (.h 0 [0,1,2,3,4,5,6,7,8,9,10] [] .e .e) .e) (.h 0 [0,1,2,3,4,5,6,7,8,9,10,11,12,13,14,15,16,17] [] .e .e)) .e) .e)) .e) .e)) .e)) (.n .e (.n (.n .e (.n (.h 0 [10] [0,1,2,7,8] (.n .e (.n (.n (.n (.n (.h 0 [0,1,2,3,4,5,6,7,8,9,10] [] .e .e) .e) (.h 0 [0,1,2,3,4,5,6,7,8,9,10,11,12,13,14,15,16,17] [] .e .e)) .e) .e)) .e) .e)) .e))))))) .e) .e)) .e) .e)) .e)))) func217 h zK,
 λh=>cq (hn:=(.n .e (.n (.h 0 [0,1,2,3,4,5,6,7,8,9,10,11,12,13,14,15] [] .e .e) (.n .e (.n (.n (.h 0 [9,10] [0,1] (.n (.n (.n (.h 0 [9] [0,1,10] (.n (.h 1 [43] [0,1,9,10] (.h 1 [] [] (.h 0 [0] [] (.h 0 [1] [] (.h 0 [2] [] (.h 2 [3] [] (.h 0 [4] [] (.h 0 [5] [] (.h 0 [6] [] (.h 0 [7] [] (.h 0 [8] [] (.h 0 [9] [] (.h 0 [10] [] (.h 0 [11] [] (.h 0 [12] [] (.h 0 [13] [] (.h 0 [14] [] .e .e) .e) .e) .e) .e) .e) .e) .e) .e) .e) .e) (.h 0 [4] [] (.h 0 [5] [] (.h 0 [6] [] (.h 0 [7] [] (.h 0 [8] [] (.h 0 [9] [] (.h 0 [10] [] (.h 0 [11] [] (.h 0 [12] [] (.h 0 [13] [] (.h 3 [14] [] .e .e) .e) .e) .e) .e) .e) .e) .e) .e) .e) .e)) .e) .e) .e) .e) .e) .e) .e) .e) (.n (.n (.h 0 [10] [0,1,9] (.n (.h 1 [59] [0,1,9,10] (.h 1 [] [] (.h 0 [0] [] (.h 0 [1] [] (.h 0 [2] [] (.h 2 [3] [] (.h 0 [4] [] (.h 0 [5] [] (.h 0 [6] [] (.h 0 [7] [] (.h 0 [8] [] (.h 0 [9] [] (.h 0 [10] [] (.h 0 [11] [] (.h 0 [12] [] (.h 0 [13] [] .e .e) .e) .e) .e) .e) .e) .e) .e) .e) .e) (.h 0 [4] [] (.h 0 [5] [] (.h 0 [6] [] (.h 0 [7] [] (.h 0 [8] [] (.h 0 [9] [] (.h 0 [10] [] (.h 0 [11] [] (.h 0 [12] [] (.h 3 [13] [] .e .e) .e) .e) .e) .e) .e) .e) .e) .e) .e)) .e) .e) .e) .e) .e) .e) .e) .e) (.n .e (.n (.h 0 [0,1,2,3,4,5,6,7,8,9,10,11,12,13,14,15] [] .e .e) .e)))) .e) .e) .e) .e))))) func219 h zK,
 λh=>cq (hn:=(.n .e (.n (.h 0 [0,1,2,3,4,5,6,7,8,9,10,11,12,13,14,15] [] .e .e) (.n .e (.n (.n (.h 0 [10] [0,1,11] (.n (.h 1 [43] [0,1,10,11] (.h 1 [] [] (.h 0 [0] [] (.h 0 [1] [] (.h 0 [2] [] (.h 2 [3] [] (.h 0 [4] [] (.h 0 [5] [] (.h 0 [6] [] (.h 0 [7] [] (.h 0 [8] [] (.h 0 [9] [] (.h 0 [10] [] (.h 0 [11] [] (.h 0 [12] [] (.h 0 [13] [] .e .e) .e) .e) .e) .e) .e) .e) .e) .e) .e) (.h 0 [4] [] (.h 0 [5] [] (.h 0 [6] [] (.h 0 [7] [] (.h 0 [8] [] (.h 0 [9] [] (.h 0 [10] [] (.h 0 [11] [] (.h 0 [12] [] (.h 3 [13] [] .e .e) .e) .e) .e) .e) .e) .e) .e) .e) .e)) .e) .e) .e) .e) .e) .e) .e) .e) (.n (.n (.h 0 [11] [0,1,10] (.n (.h 1 [60] [0,1,10,11] (.h 1 [] [] (.h 0 [0] [] (.h 0 [1] [] (.h 0 [2] [] (.h 2 [3] [] (.h 0 [4] [] (.h 0 [5] [] (.h 0 [6] [] (.h 0 [7] [] (.h 0 [8] [] (.h 0 [9] [] (.h 0 [10] [] (.h 0 [11] [] (.h 0 [12] [] (.h 0 [13] [] (.h 0 [14] [] .e .e) .e) .e) .e) .e) .e) .e) .e) .e) .e) .e) (.h 0 [4] [] (.h 0 [5] [] (.h 0 [6] [] (.h 0 [7] [] (.h 0 [8] [] (.h 0 [9] [] (.h 0 [10] [] (.h 0 [11] [] (.h 0 [12] [] (.h 0 [13] [] (.h 3 [14] [] .e .e) .e) .e) .e) .e) .e) .e) .e) .e) .e) .e)) .e) .e) .e) .e) .e) .e) .e) .e) (.n (.n .e (.n (.n (.h 0 [0,1,2,3,4,5,6,7,8,9,10,11,12,13,14,15] [] .e .e) .e) .e)) (.n (.h 0 [0,1,2,3,4,5,6,7,8,9,10,11,12,13,14,15] [] .e .e) (.n .e (.n .e (.n (.n (.h 0 [10,11] [0,1] (.n (.n (.n (.h 0 [10] [0,1,11] (.n (.h 1 [112] [0,1,10,11] (.h 1 [] [] (.h 0 [0] [] (.h 0 [1] [] (.h 0 [2] [] (.h 2 [3] [] (.h 0 [4] [] (.h 0 [5] [] (.h 0 [6] [] (.h 0 [7] [] (.h 0 [8] [] (.h 0 [9] [] (.h 0 [10] [] (.h 0 [11] [] (.h 0 [12] [] (.h 0 [13] [] .e .e) .e) .e) .e) .e) .e) .e) .e) .e) .e) (.h 0 [4] [] (.h 0 [5] [] (.h 0 [6] [] (.h 0 [7] [] (.h 0 [8] [] (.h 0 [9] [] (.h 0 [10] [] (.h 0 [11] [] (.h 0 [12] [] (.h 3 [13] [] .e .e) .e) .e) .e) .e) .e) .e) .e) .e) .e)) .e) .e) .e) .e) .e) .e) .e) .e) (.n (.n (.h 0 [11] [0,1,10] (.n (.h 1 [129] [0,1,10,11] (.h 1 [] [] (.h 0 [0] [] (.h 0 [1] [] (.h 0 [2] [] (.h 2 [3] [] (.h 0 [4] [] (.h 0 [5] [] (.h 0 [6] [] (.h 0 [7] [] (.h 0 [8] [] (.h 0 [9] [] (.h 0 [10] [] (.h 0 [11] [] (.h 0 [12] [] (.h 0 [13] [] (.h 0 [14] [] .e .e) .e) .e) .e) .e) .e) .e) .e) .e) .e) .e) (.h 0 [4] [] (.h 0 [5] [] (.h 0 [6] [] (.h 0 [7] [] (.h 0 [8] [] (.h 0 [9] [] (.h 0 [10] [] (.h 0 [11] [] (.h 0 [12] [] (.h 0 [13] [] (.h 3 [14] [] .e .e) .e) .e) .e) .e) .e) .e) .e) .e) .e) .e)) .e) .e) .e) .e) .e) .e) .e) .e) (.n .e (.n (.h 0 [0,1,2,3,4,5,6,7,8,9,10,11,12,13,14,15] [] .e .e) .e)))) .e) .e) .e) (.n (.h 0 [0,1,2,3,4,5,6,7,8,9,10,11,12,13,14,15] [] .e .e) .e)))))))))))) func220 h zK,
 λh=>cq (hn:=(.n .e (.n .e (.n (.n .e (.n .e (.n .e (.n (.h 0 [9] [0,1,6,7,8] (.n .e (.n (.n (.n .e (.h 1 [10] [0,1,6,7,8,9] .e (.h 0 [0,1,2,3,4,5,6,7,8,9,10,11,12,13,14,15,16,17,18,19] [] .e .e))) .e) .e)) .e) .e)))) .e)))) func214 h zK,
 λh=>cq (hn:=(.n .e (.n (.n (.h 0 [0,1,2,3,4,5,6,7,8] [] .e .e) .e) .e))) func369 h zK,
 λh=>cq (hn:=.e) func307 h zK,
 λh=>cq (hn:=.e) func306 h zK,
 λh=>cq (hn:=(.n .e (.n .e (.n .e (.n .e (.n .e (.n .e (.h 1 [11] [9] (.n .e (.n (.h 1 [10,11,12] [0,9] .e .e) .e)) .e)))))))) func215 h zK,
 λh=>cq (hn:=(.n .e (.n .e (.n (.h 0 [1,2,3,8,9] [0] (.n (.n .e (.n .e (.n .e (.h 1 [3] [0,1,2,8,9,10] .e (.n .e (.h 1 [11,12] [0,1,2,3,8,9,10] .e (.h 1 [] [0,1,2,3,8,9,10,11] (.n (.h 0 [] [1] .e .e) .e) (.n (.h 1 [87] [0,1,2,3,8,9,10,11] (.h 1 [] [] (.h 0 [0] [] (.h 0 [1] [] (.h 2 [2] [] (.h 0 [3] [] (.h 0 [4] [] (.h 0 [5] [] (.h 0 [6] [] (.h 0 [7] [] (.h 0 [8] [] (.h 0 [9] [] (.h 0 [10] [] (.h 0 [11] [] (.h 0 [12] [] (.h 0 [13] [] (.h 0 [14] [] .e .e) .e) .e) .e) .e) .e) .e) .e) .e) .e) .e) .e) (.h 0 [3] [] (.h 0 [4] [] (.h 0 [5] [] (.h 0 [6] [] (.h 0 [7] [] (.h 0 [8] [] (.h 0 [9] [] (.h 0 [10] [] (.h 0 [11] [] (.h 0 [12] [] (.h 0 [13] [] (.h 3 [14] [] .e .e) .e) .e) .e) .e) .e) .e) .e) .e) .e) .e) .e)) .e) .e) .e) .e) .e)))))))) .e) .e) .e)))) func153 h zK⟩
end
section
def SXZ(T:TypeId)(kd:IntKind)(v:zV)(d:Array Int):zV->Hp->Prop:=λr C'=>r=.tuple #[]/\Da T kd v d C'
section
variable {v:zV} {d:Array Int} {C:Hp} {T:TypeId} {kd:IntKind} {zs:Srt} (ok:EJ zs)
include ok in
theorem Vx(x:Int)(B:Hp):Rd zQ zs.nan #[.int kd x] B (· =.bool false):=by
 refine aE λg=>ok.nan ?_;exact ae.cO (br.mk (.refl _) zI)
include ok in
theorem dM(x y:Int)(B:Hp):Rd zQ zs.less #[.int kd x,.int kd y] B (· =.bool (cz x y)):=by
 refine aE λg=>ok.less ?_;intro J1 hJ1;exact aa.eq (Vx ok x B) (Split.Vp rfl (aM.mk (ae.lss (aM.mk (JE.mk (hJ1 _ _ λgs=>br.mk (.refl _) rfl))))))
include ok in
theorem zq(h:Da T kd v d C){a b:Nat}(hab:a<=b)(hb:b<=d.size)(cD:d.size<1152921504606846976):Fc zQ zs.DG #[v,iv (a:Int),iv (b:Int)] C (SXZ T kd v (Sort.insertionSort cz d a b)):=by
 refine aE λg=>ok.DG ?_;refine ae.inc (⟨λvs H=>∃(i:Nat) (e:Array Int),vs=[iv (i:Int)]/\a<i/\e.size=d.size/\Sort.insOuter cz a b i e=Sort.insertionSort cz d a b/\Da T kd v e H,λvs _=>d.size-bJ vs 0,JE.mk ⟨a+1,d,rfl,by omega,rfl,rfl,h⟩,?_⟩);rintro w H ⟨i,e,hw,hi,hs,he,hd⟩ gs;simp only[xax,xa0]at hw;subst hw;rw[Sort.insOuter]at he;refine ae.eZ (Br.dec (λhlt=>?_) (λhge=>?_));rotate_left
 ·rw[xac hge]at he;exact aF.here ⟨rfl,by rw[<-he];exact hd⟩
 rw[xae hlt]at he;refine⟨λvs H=>∃(j:Nat) (e:Array Int),vs=[iv (j:Int)]/\a<=j/\j<=i/\e.size=d.size/\Sort.insOuter cz a b (i+1) (Sort.insInner cz a j e)=Sort.insertionSort cz d a b/\Da T kd v e H,λvs _=>bJ vs 0,JE.mk ⟨i,e,rfl,by omega,xai _,hs,he,hd⟩,?_⟩;clear hd he hs e;rintro w H ⟨j,e,hw,ZW,ZJ,hs,he,hd⟩ gs;simp only[xax,xa0]at hw;subst hw;intro J hJ;have no:Sort.insInner cz a j e=e->J [.bool false] H:=λhi=>hJ _ _ λgs=>Br.no (ae.inc (aC.mk ⟨i+1,e,rfl,by omega,hs,by rw[hi]at he;exact he,hd⟩ (by simp[bJ];omega)));have yes:a<j->Sort.insInner cz a j e=Sort.insInner cz a (j-1) (Sort.swp e j (j-1))->J [.bool true] H:=λZW hi=>hJ _ _ λgs=>Br.yes (DR.self (ae.bY (b:=1) (ae.bY (b:=1)
  (hd.swap .here zO zO λC' dR=>ae.bY (b:=1) (aC.mk ⟨j-1,_,rfl,by omega,by omega,jc hs,by rw[<-hi];exact he,dR⟩ (by simp[bJ];omega))))))
 refine DR.self (ae.nq (Br.dec (λhgt=>?_) λhn=>JE.mk (no (RM hn))));refine hd.ld (λ_ h=>h) zO (ae.bY (b:=1) (hd.ld (λ_ h=>h) zO λF=>?_));refine aa.eq (dM ok _ _ _) (aM.mk ?_);have hst:=RN (e:=e) hgt;cases hl:cz e[j]! e[j-1]!
 ·rw[hl]at hst;exact JE.mk (no hst)
 rw[hl]at hst;exact JE.mk (yes hgt hst)
include ok in
theorem Va(h:Da T kd v d C){a b:Nat}(hab:a<b)(hb:b<=d.size)(cD:d.size<1152921504606846976):Fc zQ zs.rev #[v,iv (a:Int),iv (b:Int)] C (SXZ T kd v (Sort.reverseRange d a b)):=by
 refine aE λg=>ok.rev ?_;refine ae.bY (b:=1) (⟨λvs H=>∃(i j:Nat) (e:Array Int),vs=[iv (i:Int),iv (j:Int)]/\j<d.size/\e.size=d.size/\Sort.reverseLoop i j e=Sort.reverseRange d a b/\Da T kd v e H,λvs _=>bJ vs 1-bJ vs 0,JE.mk ⟨a,b-1,d,rfl,by omega,rfl,rfl,h⟩,?_⟩);rintro w w' H ⟨i,j,e,hw,hj,hs,he,hd⟩ gs;simp only[xax,xa0]at hw;obtain⟨rfl,rfl⟩:=hw;rw[Sort.reverseLoop]at he;refine ae.eZ (Br.dec (λhlt=>?_) (λhge=>?_));rotate_left
 ·rw[xac hge]at he;exact aF.here ⟨rfl,by rw[<-he];exact hd⟩
 rw[xae hlt]at he;refine DR.self (hd.swap .here zO zO λC' dR=>?_);exact ae.inc (ae.bY (b:=1) (aC.mk ⟨i+1,j-1,_,rfl,by omega,jc hs,he,dR⟩ (by simp[bJ];omega)))
include ok in
theorem Q9(h:Da T kd v d C){a b:Nat}(hab:a<b)(hb:b<=d.size)(cD:d.size<1152921504606846976):Fc zQ zs.pins #[v,iv (a:Int),iv (b:Int)] C (λr C'=>r=.bool (Sort.partialInsertionSort cz d a b).2/\Da T kd v (Sort.partialInsertionSort cz d a b).1 C'):=by
 refine aE λg=>ok.pins ?_;refine ae.inc ?_;have fin:∀{e:Array Int} {t:Bool} {H:Hp},(e,t)=Sort.partialInsertionSort cz d a b->Da T kd v e H->aF (λr C'=>r=.bool (Sort.partialInsertionSort cz d a b).2/\Da T kd v (Sort.partialInsertionSort cz d a b).1 C') (.returned (.bool t)) H:=λhe hd=>by
  rw[<-he];exact aF.here ⟨rfl,hd⟩
 refine⟨λvs H=>∃(i k:Nat) (e:Array Int),vs=[iv (i:Int),iv (k:Int)]/\k<=5/\a<i/\i<=b/\e.size=d.size/\Sort.partialIns cz a b (5-k) i e=Sort.partialInsertionSort cz d a b/\Da T kd v e H,λvs _=>5-bJ vs 1,JE.mk ⟨a+1,0,d,rfl,by omega,by omega,by omega,rfl,rfl,h⟩,?_⟩;rintro w w' H ⟨i0,k,e,hw,hk5,Us,zv,hs,he,hd⟩ gs;simp only[xax,xa0]at hw;obtain⟨rfl,rfl⟩:=hw;refine ae.eZ (b:=5) (Br.dec (λhk=>?_) (λhk=>?_));rotate_left
 ·obtain rfl:k=5:=by omega
  exact fin he hd
 rw[show 5-k=(5-(k+1))+1 by omega,Sort.partialIns_succ]at he;intro J9 SR;refine⟨λvs H=>∃i:Nat,vs=[iv (i:Int)]/\a<i/\i<=b/\Sort.scanSorted cz e b i=Sort.scanSorted cz e b i0/\Da T kd v e H,λvs _=>b-bJ vs 0,JE.mk ⟨i0,rfl,Us,zv,rfl,hd⟩,?_⟩;clear hd Us zv;rintro w H ⟨i,hw,Us,zv,hsc,hd⟩ gs;simp only[xax,xa0]at hw;subst hw;rw[<-hsc]at he;rw[Sort.scanSorted]at hsc;intro J19 adw;have yes:i<b->(!cz e[i]! e[i-1]!)=true->J19 [.bool true] H:=λhlt hl=>adw _ _ λgs=>Br.yes (ae.inc (aC.mk ⟨i+1,rfl,by omega,by omega,by rw[<-hsc,xam hlt,hl];rfl,hd⟩ (by simp[bJ];omega)));have no:Sort.scanSorted cz e b i=i->J19 [.bool false] H:=λhi=>by
  rw[hi]at he;refine adw _ _ λgs=>Br.no ?_;refine ae.dJ (Br.dec (λhz=>?_) (λhne=>?_))
  ·rw[xae hz]at he;exact fin he hd
  rw[xac hne]at he;refine ae.bY (ae.eZ (b:=50) (Br.dec (λhz=>?_) (λhz=>?_)))
  ·rw[xae hz]at he;exact fin he hd
  rw[xac hz]at he;refine DR.self (ae.bY (b:=1) (ae.bY (b:=1) (hd.swap .here zO zO λC1 PR=>?_)));have uJ:(Sort.swp e i (i-1)).size=d.size:=jc hs;generalize Sort.swp e i (i-1)=e1 at PR uJ he;intro J38 aha;have next:∀(f:Array Int) H',f.size=d.size->f=Sort.fixUp cz b i (Sort.fixDown cz a i e1)->Da T kd v f H'->J9 [iv (i:Int)] H':=λf H' h1 h2 dR=>SR _ _ λgs=>ae.inc (aC.mk ⟨i,k+1,f,rfl,by omega,Us,zv,h1,by rw[h2];exact he,dR⟩ (by simp[bJ];omega))
  have tail:∀(f:Array Int) H',f.size=d.size->f=Sort.fixDown cz a i e1->Da T kd v f H'->J38 [] H':=λf H' h1 h2 dR=>by
   refine aha _ λgs=>?_;rw[<-h2]at next
   unfold Sort.fixUp at next
   refine ae.bY (ae.s6 (b:=2) (Br.dec (λh2=>?_) (λh2=>JE.mk (next f _ h1 (by rw[xac h2]) dR))));rw[xae h2]at next
   refine ae.inc (⟨λvs H=>∃(j:Nat) (q:Array Int),vs=[iv (j:Int)]/\0<j/\q.size=d.size/\Sort.shiftUp cz b j q=Sort.shiftUp cz b (i+1) f/\Da T kd v q H,λvs _=>b-bJ vs 0,JE.mk ⟨i+1,f,rfl,by omega,h1,rfl,dR⟩,?_⟩);rintro w H ⟨j,q,hw,Wo,Zo,hq,GA⟩ gs;simp only[xax,xa0]at hw;subst hw;rw[Sort.shiftUp]at hq;refine ae.eZ (Br.dec (λhlt=>?_) (λhge=>?_));rotate_left
   ·rw[xac hge]at hq;exact JE.mk (next q _ Zo hq GA)
   rw[xae hlt]at hq;refine DR.self (GA.ld (λ_ h=>h) zO (ae.bY (b:=1) (GA.ld (λ_ h=>h) zO (aa.eq (dM ok _ _ _) (Un.not ?_)))));cases hl:cz q[j]! q[j-1]!
   ·rw[hl]at hq;exact Br.yes (JE.mk (next q _ Zo hq GA))
   rw[hl]at hq;refine Br.no (DR.self (ae.bY (b:=1) (ae.bY (b:=1) (GA.swap .here zO zO λC2 yh=>?_))));exact ae.inc (aC.mk ⟨j+1,_,rfl,by omega,jc Zo,hq,yh⟩ (by simp[bJ];omega))
  unfold Sort.fixDown at tail;refine ae.bY (ae.s6 (b:=2) (Br.dec (λh2=>?_) (λh2=>JE.mk (tail e1 _ uJ (by rw[xac h2]) PR))));rw[xae h2]at tail;refine ae.bY (b:=1) (⟨λvs H=>∃(j:Nat) (q:Array Int),vs=[iv (j:Int)]/\j<d.size/\q.size=d.size/\Sort.shiftDown cz j q=Sort.shiftDown cz (i-1) e1/\Da T kd v q H,λvs _=>bJ vs 0,JE.mk ⟨i-1,e1,rfl,by omega,uJ,rfl,PR⟩,?_⟩);rintro w H ⟨j,q,hw,Wo,Zo,hq,GA⟩ gs;simp only[xax,xa0]at hw;subst hw;refine ae.s6 (b:=1) (Br.dec (λhlt=>?_) (λhge=>JE.mk (tail q _ Zo (by rw[<-hq,Oo hge]) GA)));rw[td hlt]at hq;refine DR.self (GA.ld (λ_ h=>h) zO (ae.bY (b:=1) (GA.ld (λ_ h=>h) zO (aa.eq (dM ok _ _ _) (Un.not ?_)))));cases hl:cz q[j]! q[j-1]!
  ·rw[hl]at hq;exact Br.yes (JE.mk (tail q _ Zo hq GA))
  rw[hl]at hq;refine Br.no (DR.self (ae.bY (b:=1) (ae.bY (b:=1) (GA.swap .here zO zO λC2 yh=>?_))));exact ae.bY (b:=1) (aC.mk ⟨j-1,_,rfl,by omega,jc Zo,hq,yh⟩ (by simp[bJ];omega))
 refine DR.self (ae.eZ (Br.dec (λhlt=>?_) λhge=>JE.mk (no (by rw[Sort.scanSorted,xac zP]))));refine hd.ld (λ_ h=>h) zO (ae.bY (b:=1) (hd.ld (λ_ h=>h) zO λF=>?_));refine aa.eq (dM ok _ _ _) (Un.not (aM.mk ?_));cases hl:cz e[i]! e[i-1]!
 ·exact JE.mk (yes hlt (by rw[hl];rfl))
 exact JE.mk (no (by rw[Sort.scanSorted,hl,xac zI]))
include ok in
theorem FQ(h:Da T kd v d C){a b p:Nat}(hp:a<=p/\p<b)(hb:b<=d.size)(cD:d.size<1152921504606846976):Fc zQ zs.vK #[v,iv (a:Int),iv (b:Int),iv (p:Int)] C
  (λr C'=>r=iv ((Sort.partitionEqual cz d a b p).1:Nat)/\Da T kd v (Sort.partitionEqual cz d a b p).2 C'):=by
 refine aE λg=>ok.vK ?_;refine DR.self (h.swap .here zO zO λC1 hd=>?_);refine ae.inc (ae.bY (b:=1) (⟨λvs H=>∃(i j:Nat) (e:Array Int),vs=[iv (i:Int),iv (j:Int)]/\a<i/\i<=b/\a<=j/\j<b/\e.size=d.size/\Sort.partEqLoop cz a i j e=Sort.partitionEqual cz d a b p/\Da T kd v e H,λvs _=>b-bJ vs 0,JE.mk ⟨a+1,b-1,_,rfl,by omega,by omega,by omega,by omega,jc rfl,rfl,hd⟩,?_⟩));clear hd;rintro w w' H0 ⟨i0,j0,e,hw,Us,zv,ZW,hjb,hs,he,hd⟩ gs;simp only[xax,xa0]at hw;obtain⟨rfl,rfl⟩:=hw;rw[Sort.partEqLoop_eq]at he;refine⟨λvs H=>∃i:Nat,vs=[iv (i:Int)]/\i0<=i/\i<=b/\Sort.scanUp (λx=> !cz e[a]! x) e j0 i=Sort.scanUp (λx=> !cz e[a]! x) e j0 i0/\Da T kd v e H,λvs _=>b-bJ vs 0,JE.mk ⟨i0,rfl,xai _,zv,rfl,hd⟩,?_⟩;clear hd zv;rintro w H ⟨i,hw,Gw,zv,hsc,hd⟩ gs;simp only[xax,xa0]at hw;subst hw;rw[<-hsc]at he;rw[Sort.scanUp]at hsc;intro J23 adv;have yes:i<=j0->(!cz e[a]! e[i]!)=true->J23 [.bool true] H:=λhle hl=>adv _ _ λgs=>Br.yes (ae.inc (aC.mk ⟨i+1,rfl,by omega,by omega,by rw[<-hsc,xam hle,hl];rfl,hd⟩ (by simp[bJ];omega)));have no:Sort.scanUp (λx=> !cz e[a]! x) e j0 i=i->J23 [.bool false] H:=λhi=>by
  rw[hi]at he;refine adv _ _ λgs=>Br.no ?_;refine⟨λvs H=>∃j:Nat,vs=[iv (j:Int)]/\a<=j/\j<b/\Sort.scanDown (λx=>cz e[a]! x) e i j=Sort.scanDown (λx=>cz e[a]! x) e i j0/\Da T kd v e H,λvs _=>bJ vs 0,JE.mk ⟨j0,rfl,ZW,hjb,rfl,hd⟩,?_⟩;rintro w H' ⟨j,hw,agQ,agk,Wc,dR⟩ gs;simp only[xax,xa0]at hw;subst hw;rw[<-Wc]at he;intro J33 WD;have MC:i<=j->cz e[a]! e[j]! =true->J33 [.bool true] H':=λhle hl=>WD _ _ λgs=>Br.yes (ae.bY (b:=1) (aC.mk ⟨j-1,rfl,by omega,by omega,by rw[<-Wc,fA (j:=j) zO,xam hle,hl];rfl,dR⟩ (by simp[bJ];omega)));have XH:Sort.scanDown (λx=>cz e[a]! x) e i j=j->J33 [.bool false] H':=λhj=>by
   rw[hj]at he;refine WD _ _ λgs=>Br.no ?_;refine ae.nq (Br.dec (λhgt=>?_) (λhle=>?_))
   ·rw[xae hgt]at he;exact aF.here (by rw[<-he];exact⟨rfl,dR⟩)
   rw[xac hle]at he;refine DR.self (dR.swap .here zO zO λC2 yh=>?_);exact ae.inc (ae.bY (b:=1) (aC.mk ⟨i+1,j-1,_,rfl,by omega,by omega,by omega,by omega,jc hs,he,yh⟩ (by simp[bJ];omega)))
  refine DR.self (ae.BS (Br.dec (λhle=>?_) λhgt=>JE.mk (XH ?_)));rotate_left
  ·by_cases h0:j=0
   ·subst h0;rfl
   rw[fA zO,xac zP]
  refine dR.ld (λ_ h=>h) zO ?_;refine dR.ld (λ_ h=>h) zO ?_;intro F;refine aa.eq (dM ok _ _ _) (aM.mk ?_);cases hl:cz e[a]! e[j]!
  ·exact JE.mk (XH (by rw[fA zO,hl,xac zI]))
  exact JE.mk (MC hle hl)
 refine DR.self (ae.BS (Br.dec (λhle=>?_) λhgt=>JE.mk (no (by rw[Sort.scanUp,xac zP]))));refine hd.ld (λ_ h=>h) zO (hd.ld (λ_ h=>h) zO λF=>?_);refine aa.eq (dM ok _ _ _) (Un.not (aM.mk ?_));cases hl:cz e[a]! e[i]!
 ·exact JE.mk (yes hle (by rw[hl];rfl))
 exact JE.mk (no (by rw[Sort.scanUp,hl,xac zI]))
end
section
variable {v:zV} {d:Array Int} {C:Hp} {T:TypeId} {kd:IntKind} {zs:Srt} (ok:EJ zs)
include ok in
theorem Rb(h:Da T kd v d C){a b p:Nat}(hp:a<=p/\p<b)(hb:b<=d.size)(cD:d.size<1152921504606846976):Fc zQ zs.part #[v,iv (a:Int),iv (b:Int),iv (p:Int)] C
  (λr C'=>r=.tuple #[iv ((Sort.partition cz d a b p).1:Nat),.bool (Sort.partition cz d a b p).2.1]/\Da T kd v (Sort.partition cz d a b p).2.2 C'):=by
 obtain⟨R,hR⟩:∃R,R=Sort.partition cz d a b p:=⟨_,rfl⟩;rw[<-hR];refine aE λg=>ok.part ?_;refine DR.self (h.swap .here zO zO λC1 hd=>?_);have hs:(Sort.swp d a p).size=d.size:=jc rfl;have fin:∀{m:Nat} {t:Bool} {e:Array Int} {H:Hp},(m,t,e)=R->Da T kd v e H->aF (λr C'=>r=.tuple #[iv (R.1:Nat),.bool R.2.1]/\Da T kd v R.2.2 C') (.returned (.tuple #[iv (m:Int),.bool t])) H:=λhe hd=>by
  rw[<-he];exact aF.here ⟨rfl,hd⟩
 unfold Sort.partition at hR;simp only at hR;generalize Sort.swp d a p=e at hd hs hR;refine ae.inc (ae.bY (b:=1) (⟨λvs H=>∃i:Nat,vs=[iv (i:Int)]/\a<i/\i<=b/\Sort.scanUp (λx=>cz x e[a]!) e (b-1) i=Sort.scanUp (λx=>cz x e[a]!) e (b-1) (a+1)/\Da T kd v e H,λvs _=>b-bJ vs 0,JE.mk ⟨a+1,rfl,by omega,by omega,rfl,hd⟩,?_⟩));clear hd;rintro w H ⟨i,hw,Us,zv,hsc,hd⟩ gs;simp only[xax,xa0]at hw;subst hw;rw[<-hsc]at hR;rw[Sort.scanUp]at hsc;intro J17 GJ;have yes:i<b->cz e[i]! e[a]! =true->J17 [.bool true] H:=λhle hl=>GJ _ _ λgs=>Br.yes (ae.inc (aC.mk ⟨i+1,rfl,by omega,by omega,by rw[<-hsc,xam (show i<=b-1 by omega),hl];rfl,hd⟩ (by simp[bJ];omega)));have no:Sort.scanUp (λx=>cz x e[a]!) e (b-1) i=i->J17 [.bool false] H:=λhi=>by
  rw[hi]at hR;refine GJ _ _ λgs=>Br.no ?_;refine⟨λvs H=>∃j:Nat,vs=[iv (j:Int)]/\a<=j/\j<b/\Sort.scanDown (λx=> !cz x e[a]!) e i j=Sort.scanDown (λx=> !cz x e[a]!) e i (b-1)/\Da T kd v e H,λvs _=>bJ vs 0,JE.mk ⟨b-1,rfl,by omega,by omega,rfl,hd⟩,?_⟩;clear hd;rintro w H ⟨j,hw,ZW,hjb,Wc,hd⟩ gs;simp only[xax,xa0]at hw;subst hw;rw[<-Wc]at hR;intro J27 Z7;have MC:i<=j->(!cz e[j]! e[a]!)=true->J27 [.bool true] H:=λhle hl=>Z7 _ _ λgs=>Br.yes (ae.bY (b:=1) (aC.mk ⟨j-1,rfl,by omega,by omega,by rw[<-Wc,fA (j:=j) zO,xam hle,hl];rfl,hd⟩ (by simp[bJ];omega)));have XH:Sort.scanDown (λx=> !cz x e[a]!) e i j=j->J27 [.bool false] H:=λhj=>by
   rw[hj]at hR;refine Z7 _ _ λgs=>Br.no ?_;refine ae.nq (Br.dec (λhgt=>?_) (λhle=>?_))
   ·rw[xae hgt]at hR;refine DR.self (hd.swap .here zO zO λC2 yh=>?_);exact fin hR.symm yh
   rw[xac hle]at hR;refine DR.self (hd.swap .here zO zO λC2 yh=>?_);refine ae.inc (ae.bY (b:=1) ?_);obtain⟨L,hL⟩:∃L,L=Sort.partLoop cz a (i+1) (j-1) (Sort.swp e i j):=⟨_,rfl⟩;rw[<-hL]at hR;have sQ:(Sort.swp e i j).size=d.size:=jc hs;generalize Sort.swp e i j=e0 at hL yh sQ;refine⟨λvs H=>∃(i j:Nat) (e:Array Int),vs=[iv (i:Int),iv (j:Int)]/\a<i/\i<=b/\a<=j/\j<b/\e.size=d.size/\L=Sort.partLoop cz a i j e/\Da T kd v e H,λvs _=>b-bJ vs 0,JE.mk ⟨i+1,j-1,e0,rfl,by omega,by omega,by omega,by omega,sQ,hL,yh⟩,?_⟩;clear yh hd Us zv ZW hjb hle MC Z7 J27 GJ J17 yes hL sQ hs hsc hi Wc hj;rintro w w' H0 ⟨i0,j0,e,hw,Us,zv,ZW,hjb,hs,he,hd⟩ gs;simp only[xax,xa0]at hw;obtain⟨rfl,rfl⟩:=hw;rw[Sort.partLoop_eq]at he;refine⟨λvs H=>∃i:Nat,vs=[iv (i:Int)]/\i0<=i/\i<=b/\Sort.scanUp (λx=>cz x e[a]!) e j0 i=Sort.scanUp (λx=>cz x e[a]!) e j0 i0/\Da T kd v e H,λvs _=>b-bJ vs 0,JE.mk ⟨i0,rfl,xai _,zv,rfl,hd⟩,?_⟩;clear hd zv;rintro w H ⟨i,hw,Gw,zv,hsc,hd⟩ gs;simp only[xax,xa0]at hw;subst hw;rw[<-hsc]at he;rw[Sort.scanUp]at hsc;intro J64 adt;have yes:i<=j0->cz e[i]! e[a]! =true->J64 [.bool true] H:=λhle hl=>adt _ _ λgs=>Br.yes (ae.inc (aC.mk ⟨i+1,rfl,by omega,by omega,by rw[<-hsc,xam hle,hl];rfl,hd⟩ (by simp[bJ];omega)));have no:Sort.scanUp (λx=>cz x e[a]!) e j0 i=i->J64 [.bool false] H:=λhi=>by
    rw[hi]at he;refine adt _ _ λgs=>Br.no ?_;refine⟨λvs H=>∃j:Nat,vs=[iv (j:Int)]/\a<=j/\j<b/\Sort.scanDown (λx=> !cz x e[a]!) e i j=Sort.scanDown (λx=> !cz x e[a]!) e i j0/\Da T kd v e H,λvs _=>bJ vs 0,JE.mk ⟨j0,rfl,ZW,hjb,rfl,hd⟩,?_⟩;rintro w H' ⟨j,hw,agQ,agk,Wc,dR⟩ gs;simp only[xax,xa0]at hw;subst hw;rw[<-Wc]at he;intro J74 ads;have MC:i<=j->(!cz e[j]! e[a]!)=true->J74 [.bool true] H':=λhle hl=>ads _ _ λgs=>Br.yes (ae.bY (b:=1) (aC.mk ⟨j-1,rfl,by omega,by omega,by rw[<-Wc,fA (j:=j) zO,xam hle,hl];rfl,dR⟩ (by simp[bJ];omega)));have XH:Sort.scanDown (λx=> !cz x e[a]!) e i j=j->J74 [.bool false] H':=λhj=>by
     rw[hj]at he;refine ads _ _ λgs=>Br.no ?_;refine ae.nq (Br.dec (λhgt=>?_) (λhle=>?_))
     ·rw[xae hgt]at he;rw[he]at hR;refine DR.self (dR.swap .here zO zO λC2 yh=>?_);exact fin hR.symm yh
     rw[xac hle]at he;refine DR.self (dR.swap .here zO zO λC2 yh=>?_);exact ae.inc (ae.bY (b:=1) (aC.mk ⟨i+1,j-1,_,rfl,by omega,by omega,by omega,by omega,jc hs,he,yh⟩ (by simp[bJ];omega)))
    refine DR.self (ae.BS (Br.dec (λhle=>?_) λhgt=>JE.mk (XH ?_)));rotate_left
    ·by_cases h0:j=0
     ·subst h0;rfl
     rw[fA zO,xac zP]
    refine dR.ld (λ_ h=>h) zO ?_;refine dR.ld (λ_ h=>h) zO ?_;intro F;refine aa.eq (dM ok _ _ _) (Un.not (aM.mk ?_));cases hl:cz e[j]! e[a]!
    ·exact JE.mk (MC hle (by rw[hl];rfl))
    exact JE.mk (XH (by rw[fA zO,hl,xac zI]))
   refine DR.self (ae.BS (Br.dec (λhle=>?_) λhgt=>JE.mk (no (by rw[Sort.scanUp,xac zP]))));refine hd.ld (λ_ h=>h) zO (hd.ld (λ_ h=>h) zO λF=>?_);refine aa.eq (dM ok _ _ _) (aM.mk ?_);cases hl:cz e[i]! e[a]!
   ·exact JE.mk (no (by rw[Sort.scanUp,hl,xac zI]))
   exact JE.mk (yes hle hl)
  refine DR.self (ae.BS (Br.dec (λhle=>?_) λhgt=>JE.mk (XH ?_)));rotate_left
  ·by_cases h0:j=0
   ·subst h0;rfl
   rw[fA zO,xac zP]
  refine hd.ld (λ_ h=>h) zO (hd.ld (λ_ h=>h) zO λF=>?_);refine aa.eq (dM ok _ _ _) (Un.not (aM.mk ?_));cases hl:cz e[j]! e[a]!
  ·exact JE.mk (MC hle (by rw[hl];rfl))
  exact JE.mk (XH (by rw[fA zO,hl,xac zI]))
 refine DR.self (ae.BS (Br.dec (λhle=>?_) λhgt=>JE.mk (no (by rw[Sort.scanUp,xac zP]))));refine hd.ld (λ_ h=>h) zO (hd.ld (λ_ h=>h) zO λF=>?_);refine aa.eq (dM ok _ _ _) (aM.mk ?_);cases hl:cz e[i]! e[a]!
 ·exact JE.mk (no (by rw[Sort.scanUp,hl,xac zI]))
 exact JE.mk (yes zO hl)
include ok in
theorem Cy(h:Da T kd v d C){lo hi f:Nat}(hlo:lo<=d.size)(hb:f+hi<=d.size)(cD:d.size<1152921504606846976):Fc zQ zs.M5 #[v,iv (lo:Int),iv (hi:Int),iv (f:Int)] C (SXZ T kd v (Sort.siftDown cz hi f lo d)):=by
 refine aE λg=>ok.M5 ?_;refine⟨λvs H=>∃(i:Nat) (e:Array Int),vs=[iv (i:Int)]/\i<=d.size/\e.size=d.size/\Sort.siftDown cz hi f i e=Sort.siftDown cz hi f lo d/\Da T kd v e H,λvs _=>d.size-bJ vs 0,JE.mk ⟨lo,d,rfl,hlo,rfl,rfl,h⟩,?_⟩;rintro w H ⟨r,e,hw,hr,hs,he,hd⟩ gs;simp only[xax,xa0]at hw;subst hw;refine ae.yb (a:=2) (ae.inc (ae.s6 (Br.dec (λhge=>?_) (λhlt=>?_))))
 ·rw[M4 hge]at he;exact aF.here ⟨rfl,by rw[<-he];exact hd⟩
 have LQ:=λc=>U5 (c:=c) (d:=e) (f:=f) (show 2*r+1<hi by omega);intro J9 SR;have go:∀c:Nat,r<c->c<hi->(c=if(decide (2*r+1+1<hi) &&cz e[f+(2*r+1)]! e[f+(2*r+1)+1]!)=true then 2*r+2 else 2*r+1)->J9 [iv (c:Int)] H:=λc hrc als hc=>by
  rw[LQ c hc]at he;refine SR _ _ λgs=>?_;refine DR.self (ae.fI (hd.ld (λ_ h=>h) zO (ae.fI (hd.ld (λ_ h=>h) zO (aa.eq (dM ok _ _ _) (Un.not ?_))))));cases hl:cz e[f+r]! e[f+c]!
  ·rw[hl]at he;exact Br.yes (aF.here ⟨rfl,by rw[<-he];exact hd⟩)
  rw[hl]at he;refine Br.no (DR.self (ae.fI (ae.fI (ae.fI (hd.XB .here (i:=f+r) (j:=f+c) (B:=λk=>ae .num .add (iv (f:Int)) (iv (r:Int)) k) zO zO (λk hk=>ae.fI hk) λC1 PR=>?_)))));exact aC.mk ⟨c,_,rfl,by omega,jc hs,he,PR⟩ (by simp[bJ];omega)
 intro J36 adu;have stay:(decide (2*r+1+1<hi) &&cz e[f+(2*r+1)]! e[f+(2*r+1)+1]!)=false->J36 [.bool false] H:=λhc=>adu _ _ λgs=>Br.no (JE.mk (go _ zO zO (by rw[hc];rfl)));refine DR.self (ae.inc (ae.eZ (Br.dec (λhc=>?_) λhc=>JE.mk (stay (by rw[xak hc];rfl)))));refine ae.fI (hd.ld (λ_ h=>h) zO (ae.fI (ae.inc (hd.ld (λ_ h=>h) zO λF=>?_))));refine aa.eq (dM ok _ _ _) (aM.mk ?_);cases hl:cz e[f+(2*r+1)]! e[f+(2*r+1)+1]!
 ·exact JE.mk (stay (by rw[hl,xed]))
 exact JE.mk (adu _ _ λgs=>Br.yes (ae.inc (JE.mk (go _ zO hc (by rw[hl,xam hc];rfl)))))
include ok in
theorem NV(h:Da T kd v d C){a b:Nat}(hab:a<b)(hb:b<=d.size)(cD:d.size<1152921504606846976):Fc zQ zs.heap #[v,iv (a:Int),iv (b:Int)] C (SXZ T kd v (Sort.heapSort cz d a b)):=by
 refine aE λg=>ok.heap ?_;obtain⟨B,hB⟩:∃B,B=Sort.heapBuild cz (b-a) a ((b-a-1) /2+1) d:=⟨_,rfl⟩;have hH:Sort.heapSort cz d a b=Sort.heapPop cz a (b-a) B:=by rw[hB];rfl
 rw[hH];refine ae.bY (ae.bY (b:=1) (ae.GQ (b:=2) (by simp[bA];omega) zO (⟨λvs H=>∃(q:Int) (e:Array Int),vs=[iv q]/\ -1<=q/\q<(b:Int) -a/\e.size=d.size/\B=Sort.heapBuild cz (b-a) a (q+1).toNat e/\Da T kd v e H,λvs _=>up1 vs,JE.mk ⟨(((b-a-1) /2:Nat):Int),d,rfl,by omega,by omega,rfl,hB,h⟩,?_⟩)));clear hB hH;rintro w H ⟨q,e,hw,PI,hq2,hs,he,hd⟩ gs;simp only[xax,xa0]at hw;subst hw;refine ae.geq (Br.dec (λh0=>?_) (λhn=>?_))
 ·obtain⟨i,rfl⟩:∃i:Nat,q=i:=⟨q.toNat,by omega⟩;rw[show((i:Int)+1).toNat=i+1 by omega,Sort.heapBuild]at he;refine aa.fq (Cy ok hd zO zO zO) ?_;rintro w C1 ⟨rfl,PR⟩;exact ae.lJ (c:=(i:Int) -1) rfl zO (aC.mk ⟨(i:Int) -1,_,rfl,by omega,by omega,by rw[Lf];exact hs,by rw[show((i:Int) -1+1).toNat=i by omega];exact he,PR⟩ (by rw[AB,AB];omega))
 obtain rfl:q= -1:=by omega
 have he:B=e:=he;subst he;refine ae.bY (b:=1) (⟨λvs H=>∃(q:Int) (e:Array Int),vs=[iv q]/\ -1<=q/\q<(b:Int) -a/\e.size=d.size/\Sort.heapPop cz a (q+1).toNat e=Sort.heapPop cz a (b-a) B/\Da T kd v e H,λvs _=>up1 vs,JE.mk ⟨((b-a-1:Nat):Int),B,rfl,by omega,by omega,hs,by rw[show(((b-a-1:Nat):Int)+1).toNat=b-a by omega],hd⟩,?_⟩);clear hd hs hn;rintro w H ⟨q,e,hw,PI,hq2,hs,he,hd⟩ gs;simp only[xax,xa0]at hw;subst hw;refine ae.geq (Br.dec (λh0=>?_) (λhn=>?_));rotate_left
 ·obtain rfl:q= -1:=by omega
  have he:e=Sort.heapPop cz a (b-a) B:=he;exact aF.here ⟨rfl,by rw[<-he];exact hd⟩
 obtain⟨i,rfl⟩:∃i:Nat,q=i:=⟨q.toNat,by omega⟩;rw[show((i:Int)+1).toNat=i+1 by omega,Sort.heapPop]at he;refine DR.self (ae.fI (ae.fI (hd.swap .here zO zO λC1 PR=>?_)));have uJ:(Sort.swp e a (a+i)).size=d.size:=jc hs;refine aa.fq (Cy ok PR (lo:=0) zO zO zO) ?_;rintro w C2 ⟨rfl,yh⟩;exact ae.lJ (c:=(i:Int) -1) rfl zO (aC.mk ⟨(i:Int) -1,_,rfl,by omega,by omega,by rw[Lf];exact uJ,by rw[show((i:Int) -1+1).toNat=i by omega];exact he,yh⟩ (by rw[AB,AB];omega))
end
section
variable {v:zV} {d:Array Int} {C:Hp} {T:TypeId} {kd:IntKind} {zs:Srt} (ok:EJ zs)
theorem xlt{a b:Nat}(ha:a<18446744073709551616)(hb:b<18446744073709551616):a^^^b<18446744073709551616:=Nat.xor_lt_two_pow (n:=64) ha hb
theorem P5(b x:Nat)(hx:x<18446744073709551616):Fc zQ 305 #[ptr b] [(b,.cells #[.int .u64 (x:Int)] 371 zZ)]
  (λr H=>∃y:Nat,y<18446744073709551616/\r=.int .u64 (y:Int)/\H=[(b,.cells #[.int .u64 (y:Int)] 371 zZ)]):=by
 refine aE λg=>IF (DR.self (Nil.ptr (Ld.q ?_)));refine Nil.ptr (Ld.q ?_);refine ae.kW (b:=13) (ae.Yv hx (xbG _ zD) ?_);have h1:=xlt hx (xbG (x<<<13) (show 0<18446744073709551616 by decide));generalize x^^^x<<<13%18446744073709551616=x1 at h1;refine Nil.ptr (St.one (by exact .head _) rfl zI rfl ?_);refine DR.self (Nil.ptr (Ld.q ?_));refine Nil.ptr (Ld.q ?_);refine ae.ic (b:=7) h1 ?_;have h2:x1>>>7<18446744073709551616:=by rw[xaW];omega
 refine ae.Yv h1 h2 ?_;have h3:=xlt h1 h2;generalize x1^^^x1>>>7=x2 at h3;refine Nil.ptr (St.one (by exact .head _) rfl zI rfl ?_);refine DR.self (Nil.ptr (Ld.q ?_));refine Nil.ptr (Ld.q ?_);refine ae.kW (b:=17) (ae.Yv h3 (xbG _ zD) ?_);have h4:=xlt h3 (xbG (x2<<<17) (show 0<18446744073709551616 by decide));generalize x2^^^x2<<<17%18446744073709551616=x3 at h4;refine Nil.ptr (St.one (by exact .head _) rfl zI rfl ?_);refine Nil.ptr (Ld.q ?_);exact aF.here ⟨x3,h4,rfl,rfl⟩
theorem Bz{x:Nat}(hx:x<18446744073709551616)(B:Hp):Rd zQ 154 #[.int .u64 (x:Int)] B (λv=>∃r:Nat,Ay x r/\v=iv (r:Int)):=by
 refine aE λg=>Km (Br.no (aa.rq (Ry hx B) ?_));rintro w hw;exact br.mk (.refl _) hw
theorem Vs{x:Nat}(h0:0<x)(hx:x<1152921504606846976)(B:Hp):Rd zQ 304 #[iv (x:Int)] B (λv=>∃r:Nat,0<r/\r<=2*x/\v=.int .u64 (r:Int)):=by
 refine aE λg=>IG (bc.q (aa.rq (Bz zO B) ?_));rintro w ⟨r,hr,rfl⟩;have R1:0<r:=by
  rcases Nat.eq_zero_or_pos r with e|e
  ·subst e;have:=hr.1;omega
  exact e
 have h2:2^(r-1)<=x:=by
  rcases hr.2 with e|e
  ·omega
  exact e
 have h3:2^r=2*2^(r-1):=by
  obtain⟨k,rfl⟩:∃k,r=k+1:=⟨r-1,by omega⟩;rw[xb7,xdt];omega
 refine ae.kW (a:=1) ?_;have e:1<<<r%18446744073709551616=2^r:=by
  rw[xco,xdm];exact xbc zO
 rw[e];exact br.mk (.refl _) ⟨2^r,xa6 r,by omega,rfl⟩
include ok in
theorem W5(h:Da T kd v d C){a b:Nat}(hab:a<b)(hb:b<=d.size)(cD:d.size<1152921504606846976):Fc zQ zs.brk #[v,iv (a:Int),iv (b:Int)] C (λr C'=>r=.tuple #[]/\∃e,Sort.PermIn a b d e/\Da T kd v e C'):=by
 refine aE λg=>ok.brk ?_;refine ae.bY (ae.s6 (b:=8) (Br.dec (λh8=>?_) (λ_=>aF.here ⟨rfl,d,Sort.permIn_refl _ _ _,h⟩)));refine bc.q λb4 _=>(St.one (by exact .head _) rfl zI rfl ?_);refine aa.rq (Vs zO zO C) ?_;rintro w ⟨m,hm0,hm,rfl⟩;refine ae.GQ (b:=4) (by simp[bA];omega) zO (ae.yb (b:=2) (ae.fI (ae.bY (b:=1) ?_)));refine⟨λvs H=>∃(i x:Nat) (C':Hp) (e:Array Int),vs=[iv (i:Int)]/\a<=i/\x<18446744073709551616/\H=(b4,.cells #[.int .u64 (x:Int)] 371 zZ)::C'/\Sort.PermIn a b d e/\Da T kd v e C',λvs _=>b-bJ vs 0,
  JE.mk ⟨_,b-a,C,d,rfl,by omega,by omega,rfl,Sort.permIn_refl _ _ _,h⟩,?_⟩
 rintro w H ⟨i,x,C',e,hw,Us,hx,rfl,hp,hd⟩ gs;simp only[xax,xa0]at hw;subst hw;have hs:=hp.1;refine ae.GQ (b:=4) (by simp[bA];omega) zO (ae.yb (b:=2) (ae.fI (ae.inc (ae.BS (Br.dec (λhle=>?_) (λ_=>aF.mk .tail ⟨rfl,e,hp,hd⟩))))));refine aa.fn (.left (A:=C')) (P5 b4 x hx) ?_;rintro w H' ⟨y,hy,rfl,rfl⟩;refine ae.bY (b:=1) (ae.jj (by simp[bA];omega) (by simp[bA];omega) ?_);have hand:y&&& (m-1)<m:=by have:=xc9 (n:=y) (m:=m-1);omega
 generalize y&&& (m-1)=z at hand;refine bc.q λJ28 ahd=>?_;have go:∀o:Nat,o<b-a->J28 [iv (o:Int)] ([(b4,Obj.cells #[.int .u64 (y:Int)] 371 zZ)]++C'):=λo ho=>by
  refine ahd _ _ λgs=>?_;refine DR.self (ae.fI (ae.fI (hd.swap (.cons .here) zO zO λC1 PR=>?_)));exact ae.inc (aC.mk ⟨i+1,y,C1,_,rfl,by omega,hy,rfl,Sort.permIn_trans _ _ _ _ _ hp (Sort.swp_permIn _ a b i (a+o) Us zO zO zO zO),PR⟩ (by simp[bJ];omega))
 refine ae.s6 (Br.dec (λhge=>?_) (λhlt=>JE.mk (go z zO)));exact ae.bY (JE.mk (go _ zO))
def OQZ(b:Nat)(C:Hp)(i j:Nat):zV->Hp->Prop:=λr H=>(r=.tuple #[iv (i:Int),iv (j:Int)]\/r=.tuple #[iv (j:Int),iv (i:Int)])/\∃z:Int,H=(b,.cells #[iv z] 3 zZ)::C
include ok in
theorem vN(h:Da T kd v d C){b:Nat}{z:Int}{i j:Nat}(hi:i<d.size)(hj:j<d.size):
  Fc zQ zs.FU #[v,iv (i:Int),iv (j:Int),ptr b] ((b,.cells #[iv z] 3 zZ)::C) (OQZ b C i j):=by
 refine aE λg=>ok.FU ?_;refine DR.self (h.ld (λ_ h=>.tail _ h) hj (h.ld (λ_ h=>.tail _ h) hi (aa.eq (dM ok _ _ _) (Br.mk (λ_=>?_) (λ_=>aF.here ⟨.inl rfl,z,rfl⟩)))));refine Nil.ptr (Ld.q ?_);refine ae.add (Nil.ptr (St.one (by exact .head _) rfl zI rfl ?_));exact aF.here ⟨.inr rfl,_,rfl⟩
def MQZ(b:Nat)(C:Hp)(p:Nat->Prop):zV->Hp->Prop:=λr H=>(∃m:Nat,r=iv (m:Int)/\p m)/\∃z:Int,H=(b,.cells #[iv z] 3 zZ)::C
include ok in
theorem LF(h:Da T kd v d C){b:Nat}{z:Int}{i j k:Nat}(hi:i<d.size)(hj:j<d.size)(hk:k<d.size):
  Fc zQ zs.med #[v,iv (i:Int),iv (j:Int),iv (k:Int),ptr b] ((b,.cells #[iv z] 3 zZ)::C) (MQZ b C λm=>m=i\/m=j\/m=k):=by
 refine aE λg=>ok.med ?_;refine aa.fq (vN ok h hi hj) ?_;rintro w H ⟨hw,z1,rfl⟩;obtain⟨i1,j1,rfl,hij⟩:∃i1 j1:Nat,w=.tuple #[iv (i1:Int),iv (j1:Int)]/\((i1=i/\j1=j)\/(i1=j/\j1=i)):=by
  rcases hw with rfl|rfl
  ·exact⟨i,j,rfl,.inl ⟨rfl,rfl⟩⟩
  exact⟨j,i,rfl,.inr ⟨rfl,rfl⟩⟩
 refine Ext.two (aa.fq (vN ok h (i:=j1) (j:=k) zO hk) ?_);rintro w H ⟨hw,z2,rfl⟩;obtain⟨j2,k2,rfl,Wn⟩:∃j2 k2:Nat,w=.tuple #[iv (j2:Int),iv (k2:Int)]/\((j2=j1/\k2=k)\/(j2=k/\k2=j1)):=by
  rcases hw with rfl|rfl
  ·exact⟨_,_,rfl,.inl ⟨rfl,rfl⟩⟩
  exact⟨_,_,rfl,.inr ⟨rfl,rfl⟩⟩
 refine Ext.two (aa.fq (vN ok h (i:=i1) (j:=j2) zO zO) ?_);rintro w H ⟨hw,z3,rfl⟩;rcases hw with rfl|rfl
 ·exact Ext.mk rfl (Ext.mk rfl (aF.here ⟨⟨_,rfl,by omega⟩,_,rfl⟩))
 exact Ext.mk rfl (Ext.mk rfl (aF.here ⟨⟨_,rfl,by omega⟩,_,rfl⟩))
include ok in
theorem vY(h:Da T kd v d C){b:Nat}{z:Int}{i:Nat}(h0:0<i)(hi:i+1<d.size)(cD:d.size<1152921504606846976):
  Fc zQ zs.F0 #[v,iv (i:Int),ptr b] ((b,.cells #[iv z] 3 zZ)::C) (MQZ b C λm=>i<=m+1/\m<=i+1):=by
 refine aE λg=>ok.F0 ?_;refine ae.bY (b:=1) (ae.inc (aa.fq (LF ok h zO zO hi) ?_));rintro w H ⟨⟨m,rfl,hm⟩,z',rfl⟩;exact aF.here ⟨⟨m,rfl,by omega⟩,z',rfl⟩
include ok in
theorem Vn(h:Da T kd v d C){a b:Nat}(hab:a<b)(hb:b<=d.size)(cD:d.size<1152921504606846976):
  Rd zQ zs.piv #[v,iv (a:Int),iv (b:Int)] C (λr=>∃(p:Nat) (q:Int),r=.tuple #[iv (p:Int),iv q]/\a<=p/\p<b):=by
 refine aE λg=>ok.piv ?_;refine ae.bY λb2 _=>(ae.GQ (b:=4) (by simp[bA];omega) zO (ae.yb (b:=1) (ae.fI (ae.GQ (b:=4) (by simp[bA];omega) zO (ae.yb (b:=2) (ae.fI (ae.GQ (b:=4) (by simp[bA];omega) zO (ae.yb (b:=3) (ae.fI ?_)))))))));intro J13 ahg;have fin:∀(p:Nat) (z:Int),a<=p->p<b->J13 [iv (p:Int)] ((b2,.cells #[iv z] 3 zZ)::C):=λp z uK iX=>by
  refine ahg _ _ λgs=>?_;refine Ld.q ?_;refine ae.gX (Br.dec (λ_=>br.mk .tail ⟨p,_,rfl,uK,iX⟩) (λ_=>?_));exact ae.gX (Br.dec (λ_=>br.mk .tail ⟨p,_,rfl,uK,iX⟩) (λ_=>br.mk .tail ⟨p,_,rfl,uK,iX⟩))
 refine ae.s6 (b:=8) (Br.dec (λh8=>?_) (λ_=>JE.mk (fin _ _ zO zO)));intro J21 ahf;have three:∀(x y u:Nat) (z:Int),a<=x/\x<b->a<=y/\y<b->a<=u/\u<b->J21 [iv (x:Int),iv (y:Int),iv (u:Int)] ((b2,.cells #[iv z] 3 zZ)::C):=λx y u z hx hy hu=>by
  refine ahf _ _ _ _ λgs=>?_;refine aa.fq (LF ok h zO zO zO) ?_;rintro w H ⟨⟨m,rfl,hm⟩,z',rfl⟩;exact JE.mk (fin _ _ zO zO)
 refine ae.s6 (b:=50) (Br.dec (λh50=>?_) (λ_=>JE.mk (three _ _ _ _ zO zO zO)));refine aa.fq (vY ok h zO zO cD) ?_;rintro w H ⟨⟨m1,rfl,uu⟩,z1,rfl⟩;refine aa.fq (vY ok h zO zO cD) ?_;rintro w H ⟨⟨m2,rfl,me⟩,z2,rfl⟩;refine aa.fq (vY ok h zO zO cD) ?_;rintro w H ⟨⟨m3,rfl,hm3⟩,z3,rfl⟩;exact JE.mk (three _ _ _ _ zO zO zO)
def PSZ(T:TypeId)(kd:IntKind)(v:zV)(d:Array Int)(a b:Nat):zV->Hp->Prop:=λr C'=>r=.tuple #[]/\∃e,(Sort.PermIn a b d e/\Sort.SortedIn cz a b e)/\Da T kd v e C'
include ok in
theorem Lu:∀(N:Nat) {C:Hp} {d:Array Int} (h:Da T kd v d C) {a b:Nat} (hN:b-a<=N) (hab:a<=b) (hb:b<=d.size) (cD:d.size<1152921504606846976) (hB:Sort.Below cz a b d) (z:Int),Fc zQ zs.YN #[v,iv (a:Int),iv (b:Int),iv z] C (PSZ T kd v d a b):=by
 intro N;induction N with
 |zero=>
  intro C d h a b hN hab hb cD hB z g;refine ok.YN (R:=aF _) ?_;unfold L9014;refine⟨λvs H=>vs=[iv (a:Int),iv (b:Int),iv z,.bool true,.bool true]/\H=C,λ_ _=>0,JE.mk ⟨rfl,rfl⟩,?_⟩;rintro w1 w2 w3 w4 w5 H ⟨hw,rfl⟩ gs;simp only[xax,xa0]at hw;obtain⟨rfl,rfl,rfl,rfl,rfl⟩:=hw;refine ae.bY (ae.BS (b:=12) (Br.T (aa.fq (zq ok h hab hb cD) ?_)));rintro w C' ⟨rfl,hd⟩;exact aF.here ⟨rfl,_,Sort.insertionSort_holds Sort.swo_ltInt d a b hab hb,hd⟩
 |succ N ih=>
  intro C d h a b hN hab hb cD hB z g;refine ok.YN (R:=aF _) ?_;unfold L9014;obtain⟨G,hG⟩:∃G:Array Int->Prop,G=λR=>Sort.PermIn a b d R/\Sort.SortedIn cz a b R:=⟨_,rfl⟩;have fin:∀{R:Array Int} {H:Hp},G R->Da T kd v R H->aF (PSZ T kd v d a b) (.returned (.tuple #[])) H:=λhR hd=>by
   subst hG;exact aF.here ⟨rfl,_,hR,hd⟩
  refine⟨λvs H=>∃(a b:Nat) (z:Int) (t1 t2:Bool) (e:Array Int),vs=[iv (a:Int),iv (b:Int),iv z,.bool t1,.bool t2]/\b-a<=N+1/\a<=b/\b<=e.size/\e.size=d.size/\Sort.Below cz a b e/\(∀R,Sort.PermIn a b e R->Sort.SortedIn cz a b R->G R)/\Da T kd v e H,λvs _=>bJ vs 1-bJ vs 0,
   JE.mk ⟨a,b,z,true,true,d,rfl,hN,hab,hb,rfl,hB,by subst hG;exact λR h1 h2=>⟨h1,h2⟩,h⟩,?_⟩
  clear h hN hab hb hB hG;rintro w1 w2 w3 w4 w5 H ⟨a,b,z,t1,t2,e,hw,hN,hab,hb,hs,hB,LQ,h⟩ gs;simp only[xax,xa0]at hw;obtain⟨rfl,rfl,rfl,rfl,rfl⟩:=hw;refine ae.bY (ae.BS (b:=12) (Br.dec (λDZ=>?_) (λDZ=>?_)))
  ·refine aa.fq (zq ok h hab hb zO) ?_;rintro w C' ⟨rfl,hd⟩;obtain⟨q1,q2⟩:=Sort.insertionSort_holds Sort.swo_ltInt e a b hab hb;exact fin (LQ _ q1 q2) hd
  refine ae.gX (Br.dec (λ_=>?_) (λ_=>?_))
  ·refine aa.fq (NV ok h zO hb zO) ?_;rintro w C' ⟨rfl,hd⟩;obtain⟨q1,q2⟩:=Sort.heapSort_holds Sort.swo_ltInt e a b hab hb;exact fin (LQ _ q1 q2) hd
  intro J17 GJ;have k17:∀(z1:Int) H1 e1,Sort.PermIn a b e e1->Da T kd v e1 H1->J17 [iv z1] H1:=λz1 H1 e1 p1 h1=>by
   have uJ:=p1.1;refine GJ _ _ λgs=>?_;refine aa.rq (Vn ok h1 (a:=a) (b:=b) zO zO zO) ?_;rintro w ⟨p,q,rfl,uK,iX⟩;refine Ext.two λJ25 ahe=>?_;have k25:∀(p:Nat) (q:Int) H2 e2,a<=p->p<b->Sort.PermIn a b e e2->Da T kd v e2 H2->J25 [iv (p:Int),iv q] H2:=λp q H2 e2 uK iX p2 h2=>by
    have sQ:=p2.1;refine ahe _ _ _ λgs=>?_;intro J30 ahc;have k30:∀H3 e3,Sort.PermIn a b e e3->Da T kd v e3 H3->J30 [] H3:=λH3 e3 p3 h3=>by
     have hs3:=p3.1;have hB3:=hB.perm hb p3;have SC:b<=e3.size:=by omega
     refine ahc _ λgs=>?_;intro J33 WD;have k33:∀(t:Bool),(t=true->0<a/\cz e3[a-1]! e3[p]! =false)->J33 [.bool t] H3:=λt ht=>by
      refine WD _ _ λgs=>?_;refine Br.mk (λet=>?_) (λ_=>?_)
      ·obtain⟨ha0,hnl⟩:=ht et;refine aa.fq (FQ ok h3 ⟨uK,iX⟩ SC zO) ?_;rintro w C' ⟨rfl,hd⟩;obtain⟨g1,g2,g3,g4,g5⟩:=Sort.round_eq Sort.swo_ltInt (Sort.partitionEqual_holds cz) ha0 uK iX SC hB3 hnl (mid:=(Sort.partitionEqual cz e3 a b p).1) (d4:=(Sort.partitionEqual cz e3 a b p).2) rfl;generalize (Sort.partitionEqual cz e3 a b p).1=m at*;generalize (Sort.partitionEqual cz e3 a b p).2=e4 at*;exact aC.mk ⟨m,b,z1,t1,t2,e4,rfl,by omega,by omega,by omega,by omega,g4,λR r1 r2=>by
        obtain⟨q1,q2⟩:=g5 R r1 r2;exact LQ R (Sort.permIn_trans _ _ _ _ _ p3 q1) q2,hd⟩ (by simp[bJ];omega)
      refine aa.fq (Rb ok h3 ⟨uK,iX⟩ SC zO) ?_;rintro w C' ⟨rfl,hd⟩;obtain⟨g1,g2,g3,g4,g5,g6,g7⟩:=Sort.round_part Sort.swo_ltInt (Sort.partition_holds cz) uK iX SC hB3 (mid:=(Sort.partition cz e3 a b p).1) (ap:=(Sort.partition cz e3 a b p).2.1) (d4:=(Sort.partition cz e3 a b p).2.2) rfl;generalize (Sort.partition cz e3 a b p).1=m at*;generalize (Sort.partition cz e3 a b p).2.1=t at*;generalize (Sort.partition cz e3 a b p).2.2=e4 at*;refine Ext.two (ae.bY (ae.bY (ae.GQ (b:=8) (by simp[bA];omega) zO (ae.eZ (Br.dec (λ_=>?_) (λ_=>?_))))))
      ·refine ae.s6 (aa.fq (ih hd (a:=a) (b:=m) zO zO zO zO g4 z1) ?_);rintro w C' ⟨rfl,e5,⟨l1,l2⟩,dR⟩;obtain⟨hBL,ik⟩:=g6 _ l1 l2;have hs5:=l1.1;refine ae.inc ?_;exact aC.mk ⟨m+1,b,z1,_,t,e5,rfl,by omega,by omega,by omega,by omega,hBL,λR r1 r2=>by
        obtain⟨q1,q2⟩:=ik R r1 r2;exact LQ R (Sort.permIn_trans _ _ _ _ _ p3 q1) q2,dR⟩ (by simp[bJ];omega)
      refine ae.s6 (ae.inc (aa.fq (ih hd (a:=m+1) (b:=b) zO zO zO zO g5 z1) ?_));rintro w C' ⟨rfl,e5,⟨l1,l2⟩,dR⟩;obtain⟨hBL,ik⟩:=g7 _ l1 l2;have hs5:=l1.1;exact aC.mk ⟨a,m,z1,_,t,e5,rfl,by omega,by omega,by omega,by omega,hBL,λR r1 r2=>by
       obtain⟨q1,q2⟩:=ik R r1 r2;exact LQ R (Sort.permIn_trans _ _ _ _ _ p3 q1) q2,dR⟩ (by simp[bJ];omega)
     refine DR.self (ae.nq (b:=0) (Br.dec (λh0=>?_) (λ_=>JE.mk (k33 false nofun))));refine ae.bY (b:=1) (h3.ld (λ_ h=>h) zO (h3.ld (λ_ h=>h) zO λF=>?_));exact aa.eq (dM ok _ _ _) (Un.not (aM.mk (JE.mk (k33 _ λht=>⟨h0,by simpa using ht⟩))))
    refine cm.and t2 (λ_=>⟨rfl,rfl⟩) rfl λgs=>?_;refine cm.and (decide (q=1)) (λ_=>ae.gX ⟨rfl,rfl⟩) rfl λgs=>?_;refine Br.mk (λ_=>?_) (λ_=>JE.mk (k30 _ _ p2 h2));refine aa.fq (Q9 ok h2 zO (show b<=e2.size by omega) zO) ?_;rintro w C' ⟨rfl,hd⟩;obtain⟨q1,q2⟩:=Sort.partialInsertionSort_holds Sort.swo_ltInt e2 a b zO zO (hB.perm hb p2);exact Br.mk (λet=>fin (LQ _ (Sort.permIn_trans _ _ _ _ _ p2 q1) (q2 et)) hd) (λ_=>JE.mk (k30 _ _ (Sort.permIn_trans _ _ _ _ _ p2 q1) hd))
   refine ae.gX (Br.dec (λ_=>?_) (λ_=>JE.mk (k25 p q _ _ uK iX p1 h1)));refine aa.fq (Va ok h1 (a:=a) (b:=b) zO zO zO) ?_;rintro w C' ⟨rfl,hd⟩;exact ae.bY (b:=1) (ae.bY (ae.bY (JE.mk (k25 _ _ _ _ zO zO (Sort.permIn_trans _ _ _ _ _ p1 (Sort.reverseRange_holds e1 a b hab zO)) hd))))
  refine Un.not (Br.mk (λ_=>?_) (λ_=>JE.mk (k17 _ _ _ (Sort.permIn_refl _ _ _) h)));refine aa.fq (W5 ok h (a:=a) (b:=b) zO hb zO) ?_;rintro w C' ⟨rfl,e1,p1,hd⟩;exact ae.sub (JE.mk (k17 _ _ _ p1 hd))
end
def Fz(l:List Int):List Int:=l.mergeSort λx y=>decide (x<=y)
theorem Qz{d e:Array Int}(h1:Sort.PermIn 0 d.size d e)(h2:Sort.SortedIn cz 0 d.size e):e.toList=Fz d.toList:=by
 rw[Sort.sorted_unique_holds Sort.swo_ltInt (λx y h1 h2=>by simp[Sort.ltInt]at h1 h2;omega) d e h1 h2];unfold Fz;congr 1
 funext x y
 show(!decide (y<x))=decide (x<=y);rw[xbU];simp
def Cu(l:zL):zL:=l.mergeSort λx y=>decide (x<=y)
theorem jP(l:zL):(Cu l).Perm l:=List.mergeSort_perm _ _
theorem AK(l:zL):(Cu l).Pairwise λx y=>x<=y:=
 (List.pairwise_mergeSort (le:=λx y:Nat=>decide (x<=y)) (λa b c h1 h2=>by simp only[xaJ]at*;omega) (λa b=>by simp only[xbq,xaJ];omega) l).imp λh=>xcd h
theorem UY{l l':zL}(h:l.Perm l'):Cu l=Cu l':=
 List.Perm.eq_of_pairwise (λa b _ _ h1 h2=>xd6 h1 h2) (AK l) (AK l') (((jP l).trans h).trans (jP l').symm)
theorem Le(l:zL):Fz (iw l)=iw (Cu l):=by
 refine List.Perm.eq_of_pairwise (le:=λx y:Int=>x<=y) (λa b _ _ h1 h2=>Int.le_antisymm h1 h2) ?_ ?_ ((List.mergeSort_perm _ _).trans ((jP l).map _).symm)
 ·exact(List.pairwise_mergeSort (le:=λx y:Int=>decide (x<=y)) (λa b c h1 h2=>by simp only[xaJ]at*;omega) (λa b=>by simp only[xbq,xaJ];omega) _).imp λh=>xcd h
 exact xcc.2 ((AK l).imp λh=>by omega)
theorem UZ{v:zV}{C:Hp}{l:List Int}(h:aP 110 .u32 v l C)(cD:l.length<1152921504606846976):Fc zQ 401 #[v] C (λr C'=>r=.tuple #[]/\aP 110 .u32 v (Fz l) C'):=by
 refine aE λg=>Hu (h.bP ?_);refine bc.q (aa.rq (Bz zO C) ?_);rintro w ⟨r,_,rfl⟩;have hd:Da 110 .u32 v l.toArray C:=h;refine aa.fn .here (Lu abp l.length hd (a:=0) (b:=l.length) zO zO zI (by simpa using cD) (.inl rfl) _) ?_;rintro w C' ⟨rfl,e,⟨h1,h2⟩,dR⟩;have he:=Qz (d:=l.toArray) (by simpa using h1) (by simpa using h2);exact aF.here ⟨rfl,by rw[show Fz l=e.toList from he.symm];exact dR⟩
end
end Go.Proofs
namespace Go.Sx
open Go
section
variable {P:Program} {g:Gh} {F:Fence} {n:Nat} {ops:Array Oper} {Q:Exit->Act->World->Prop} {rest:List Oper} {o:Oper} {a:Act} {fr:Fr} {w:World} {H:Hp}
abbrev x4(ds:List Deferred)(n:Nat)(a:Act)(fr:Fr):Prop:=cE ds n a fr
variable {ds:List Deferred}
theorem x4.put(h:x4 ds n a fr){d:Option Nat}(hd:eH n d=true)(v:zV):x4 ds n (a.put d v) (bt fr d v):=cE.put h hd v
theorem dH{v0:zV}(hF:∀f,F.fn f)(hg:o.guard=none)(fc:∀c,o.op≠.defer c)(hd:eH n o.dst=true)(ha:x4 ds n a fr)(hw:Own g H w)(h:AZ P g o (ev fr) H (· =v0))
 (k:∀a',x4 ds n a' (bt fr o.dst v0)->wpListIn F 0 P ops Q rest a' w):wpListIn F 0 P ops Q (o::rest) a w:=by
 refine wpListIn_plain hg λK hK=>⟨λf _=>hF f,?_⟩;rw[Oper.semAt_eq _ _ _ fc,ha.eval];obtain⟨v,hv,hr,_⟩:=oV h;rw[hr w hw];subst hv;exact hK _ _ (k _ (ha.put hd _))
theorem vi{s:Sem zV}{K:zV->Hp->Prop}(hF:∀f,F.fn f)(hg:o.guard=none)(fc:∀c,o.op≠.defer c)(hd:eH n o.dst=true)(ha:x4 ds n a fr)(he:execOp (ev fr) o=(do pure (.value (<-s))))
 (h:∃v w' H',s.run P w=.ok v w'/\Own g H' w'/\K v H')
 (k:∀v H' w' a',K v H'->Own g H' w'->x4 ds n a' (bt fr o.dst v)->wpListIn F 0 P ops Q rest a' w'):wpListIn F 0 P ops Q (o::rest) a w:=by
 refine wpListIn_plain hg λK hK=>⟨λf _=>hF f,?_⟩;rw[Oper.semAt_eq _ _ _ fc,ha.eval,he];obtain⟨v,w',H',hr,ho,hk⟩:=h;simp only[Sem.run_bind,hr,Result.andThen_ok,Sem.run_pure];exact hK _ _ (k v H' w' _ hk ho (ha.put hd _))
theorem yO{s:Sem zV}{K:zV->Hp->Prop}(hF:∀f,F.fn f)(hg:o.guard=none)(fc:∀c,o.op≠.defer c)(hd:eH n o.dst=true)(ha:x4 ds n a fr)(hw:Own g H w)(he:execOp (ev fr) o=(do pure (.value (<-s))))
 (h:Ny P g o (ev fr) H K (λ_ _=>False))
 (k:∀v H' w' a',K v H'->Own g H' w'->x4 ds n a' (bt fr o.dst v)->wpListIn F 0 P ops Q rest a' w'):wpListIn F 0 P ops Q (o::rest) a w:=by
 have h1:=vP (pe fr) h w hw;rw[he]at h1;refine vi (g:=g) (K:=K) hF hg fc hd ha he ?_ k;cases hs:s.run P w with
 |ok v w'=>
  simp only[Sem.run_bind,hs,Result.andThen_ok,Sem.run_pure,oE]at h1;obtain⟨H',ho,hk⟩:=h1;exact⟨v,w',H',rfl,ho,hk⟩
 |halt x w'=>
  simp only[Sem.run_bind,hs,Result.andThen]at h1;cases x<;>simp only[oE]at h1;obtain⟨_,_,hk⟩:=h1;exact hk.elim
theorem XD{s:Sem Unit}{K:zV->Hp->Prop}(hF:∀f,F.fn f)(hg:o.guard=none)(fc:∀c,o.op≠.defer c)(hd:eH n o.dst=true)(ha:x4 ds n a fr)(hw:Own g H w)(he:execOp (ev fr) o=(do s;pure .skip))
 (h:Ny P g o (ev fr) H K (λ_ _=>False))
 (k:∀H' w' a',K undef H'->Own g H' w'->x4 ds n a' (bt fr o.dst undef)->wpListIn F 0 P ops Q rest a' w'):wpListIn F 0 P ops Q (o::rest) a w:=by
 have h1:=vP (pe fr) h w hw;rw[he]at h1;refine wpListIn_plain hg λK hK=>⟨λf _=>hF f,?_⟩;rw[Oper.semAt_eq _ _ _ fc,ha.eval,he];cases hs:s.run P w with
 |ok v w'=>
  simp only[Sem.run_bind,hs,Result.andThen_ok,Sem.run_pure,oE]at h1⊢;obtain⟨H',ho,hk⟩:=h1;exact hK _ _ (k H' w' _ hk ho (ha.put hd _))
 |halt x w'=>
  simp only[Sem.run_bind,hs,Result.andThen]at h1;cases x<;>simp only[oE]at h1;obtain⟨_,_,hk⟩:=h1;exact hk.elim
theorem nh{m:Nat}{args:List zV}(hl:args.length<=m):x4 [] m {tmps:=args.toArray++Array.replicate (m-args.toArray.size) undef,defers:=[]} (gR args 0):=by
 refine⟨rfl,by simp;omega,λs=>?_⟩;rw[m0,xas,xdY];simp only[xc0,xcX,xa1,xc7];by_cases hs:s<args.length
 ·simp[hs,List.getD]
 rw[xac hs,xc5];have:args.getD s undef=undef:=by simp[List.getD,xaE (xc8 hs)]
 rw[this];split<;>rfl
theorem Own.putObj{g:Gh}{H H':Hp}{w:World}{b:Nat}{o o':Obj}(h:Own g H w)(u:dg b o o' H H'):Own g H' (w.putObj b o'):=by
 have hb:=h.lt u.mem;exact h.bt u rfl rfl rfl (World.putObj_heap_same hb) λc hc=>World.putObj_heap_other hc
def uf{α:Type}(P:Program)(f:FuncId)(cap:Array zV)(B:Hp)(enc:α->zV)(N:Nat)(S:List α->Prop):Prop:=
 ∀(g:Gh) (l:Nat) (G:List α->Hp->Prop),
  (∀ss x A X W,G ss A->ss.length<N->Own g (A++X) W->YieldAt Fence.wide 0 P l #[enc x] W (λe W'=>e=.returned (.bool true)/\∃A',G (ss++[x]) A'/\Own g (A'++X) W'))->
  ∀A W,G [] A->Own g (A++B) W->CallsIn Fence.wide 0 P f (#[.func (.yield l) #[] #[]]++cap) W (λe W'=>(∃v,e=.returned v)/\∃ss A',S ss/\G ss A'/\Own g (A'++B) W')
open Classical in
noncomputable def rG(p:Nat->Prop):Nat:=if h:∃k,p k then Classical.choose (l5 h)else 0
theorem Ga{p:Nat->Prop}{k:Nat}(h:p k):rG p<=k:=by
 unfold rG;rw[xeb ⟨k,h⟩];exact(xcD (l5 ⟨k,h⟩)).2 k h
theorem A5{p:Nat->Prop}(h:∃k,p k):p (rG p):=by
 unfold rG;rw[xeb h];exact(xcD (l5 h)).1
theorem uU{c:Code}(J:Nat->Act->World->Prop){k:Nat}(h0:J k a w)
 (round:∀k a w,J k a w->c.wpIn F 0 P (Exit.then (λa' w'=>∃k',k'<k/\J k' a' w') Q) a w):(Code.loop c).wpIn F 0 P Q a w:=by
 refine wpIn_loop (λa w=>∃k,J k a w) (λa w=>rG λk=>J k a w) ⟨k,h0⟩ λa w h=>?_;refine Code.wpIn_mono (λe a' w' hq=>?_) (round _ a w (A5 h));cases e with
 |normal=>
  obtain⟨k',hlt,hj⟩:=hq;exact⟨⟨k',hj⟩,xau (Ga hj) hlt⟩
 |_=>exact hq
end
end Go.Sx
set_option maxRecDepth 100000
namespace Go.Proofs
open Go Go.Sx Tryz
section
open ax
section
variable {es:Array MapEntry} {ck b:Nat} {m:List (Nd×Nat)}
theorem MO(B:Hp):Fc zQ 392 #[.map (some b)] B
  (λv H=>∃bm,v=.func (.func 402) #[] #[ptr bm]/\H=(bm,.cells #[.map (some b)] 167 zZ)::B):=by
 refine aE λg=>HA λb1 _=>?_;exact aF.here ⟨b1,rfl,rfl⟩
noncomputable abbrev VF:Func:=Tryz.f402
def VAt(g:Gh)(bi b:Nat)(l:Nat)(es:Array MapEntry)(ck:Nat)(m:List (Nd×Nat))(G:zL->Hp->Prop)(B:Hp)(k:Nat)(a:Act)(w:World):Prop:=
 ∃(fr:Fr) (ss:zL) (A:Hp) (seen:Array Nat),x4 [] 15 a fr/\fr 0=.func (.yield l) #[] #[]/\fr 6=ptr bi/\G ss A/\Own g (A++((bi,.mapIter (some b) ck seen ck)::B)) w/\
  (ss++(bT es m seen).map Prod.snd).Perm (m.map Prod.snd)/\k=(bT es m seen).length
theorem Fj{bm:Nat}{fz:Nat×Nat}(h:aD nK PA es ck m):uf zQ 402 #[ptr bm] [(bm,.cells #[.map (some b)] 167 fz),(b,.map es ck)] u32 m.length
  (λss=>ss.Perm (m.map Prod.snd)):=by
 intro g l G hY A W h0 hW;have hF:∀f,Fence.wide.fn f:=λ_=>trivial;refine callsIn_of_wp func402 rfl trivial ?_;have ha:=nh (m:=15) (args:=[.func (.yield l) #[] #[],ptr bm]) zI;refine wpIn_seq ?_;refine wpIn_region_lit ?_;obtain⟨B,hB⟩:∃B,B=[(bm,Obj.cells #[.map (some b)] 167 fz),(b,.map es ck)]:=⟨_,rfl⟩;rw[<-hB]at hW;have uu:(bm,Obj.cells #[.map (some b)] 167 fz)∈A++B:=by rw[hB];exact xab _ (.head _)
 have me:(b,Obj.map es ck)∈A++B:=by rw[hB];exact xab _ (.tail _ (.head _))
 have hmB:∀{X:Hp},(b,Obj.map es ck)∈X++B:=by intro X;rw[hB];exact xab _ (.tail _ (.head _))
 rw[<-hB];have e0:AZ zQ g (fi VF 0 0) (ev (gR [.func (.yield l) #[] #[],ptr bm] 0)) (A++B) (λx=>x=.map (some b))=Ld (A++B) (ptr bm) (λx=>x=.map (some b)):=by kernel_rfl
 refine dH (g:=g) (n:=15) (v0:=.map (some b)) hF rfl zC rfl ha hW (e0.mpr (Ld.mk uu rfl rfl)) λa1 uy=>?_;refine vi (g:=g) (n:=15) (s:=Instr.range 167 (.map (some b))) (K:=λv H=>∃bi,v=ptr bi/\H=(bi,.mapIter (some b) ck #[] ck)::(A++B)) hF rfl zC rfl uy rfl
  (Rng.run (.inr ⟨b,es,ck,rfl,me,λbi _=>⟨bi,rfl,rfl⟩⟩) hW (t:=167) (kt:=226) (e:=110) zK) λv H' w1 a2 hv jg qz=>?_
 obtain⟨bi,rfl,rfl⟩:=hv;refine wpListIn_nil ?_;have o6:Own g (A++((bi,.mapIter (some b) ck #[] ck)::B)) w1:=jg.perm (xaT).symm;clear jg uy ha hW uu me;refine wpIn_block ?_;refine uU (VAt g bi b l es ck m G B) (k:=(bT es m #[]).length) ⟨_,[],A,#[],qz,rfl,rfl,h0,o6,by rw[mI h];exact .refl _,rfl⟩ ?_;clear qz o6 h0 e0 A;rintro k a w ⟨fr,ss,A,seen,ha,f0,f6,hG,hw,dh,hk⟩;refine wpIn_seq ?_;refine wpIn_region_lit ?_;have e6:ev fr (.tmp 6)=ptr bi:=f6;refine vi (g:=g) (n:=15) (s:=Instr.next (ptr bi) false 0)
  (K:=λv H=>(bT es m seen=[]/\v=.tuple #[.bool false]/\H=A++((bi,.mapIter (some b) ck seen ck)::B))\/
   ∃(e:MapEntry) (x:Nd×Nat) (seen':Array Nat),v=.tuple #[.bool true,e.key,e.val]/\e.val=u32 x.2/\(bT es m seen).Perm (x::bT es m seen')/\seen'.back?=some e.born/\es.find? (·.born==e.born)=some e/\
    H=A++((bi,.mapIter (some b) ck seen' ck)::B)) hF rfl zC rfl ha ?_
  (Yp.run (h.next (bi:=bi) (bm:=b) (seen:=seen) (H:=A++((bi,.mapIter (some b) ck seen ck)::B)) (xab _ (.tail _ (by rw[hB];exact .tail _ (.head _)))) (xab _ (.head _))
   (λe x seen' he hk hv hp hb hf=>⟨_,(dg.head _).ca A,.inr ⟨e,x,seen',rfl,hv,hp,hb,hf,rfl⟩⟩) (λhu=>.inl ⟨hu,rfl,rfl⟩)) hw) λv H' w1 a1 hv jg uy=>?_
 ·rw[e6.symm];rfl
 rcases hv with⟨hu,rfl,rfl⟩|⟨e,x,seen',rfl,Gy,hp,hbk,hfi,rfl⟩
 ·refine dH (g:=g) (n:=15) (v0:=.bool false) hF rfl zC rfl uy jg ⟨_,_,rfl,rfl,rfl⟩ λa2 qz=>?_;refine wpListIn_nil ?_;refine wpIn_seq ?_;refine wpIn_cond_false (by rw[qz.eval];rfl) ?_;refine wpIn_exit ?_;simp only[Exit.then,Exit.inBlock,xa7,bodyPost];refine⟨qz.defers,_,results_none rfl _ _ _,⟨_,rfl⟩,ss,A,?_,hG,(jg.perm xaT).tail⟩;rw[hu,xb9,xaL]at dh;exact dh
 refine dH (g:=g) (n:=15) (v0:=.bool true) hF rfl zC rfl uy jg ⟨_,_,rfl,rfl,rfl⟩ λa2 qz=>?_;refine wpListIn_nil ?_;refine wpIn_seq ?_;refine wpIn_cond_true (by rw[qz.eval];rfl) ?_;refine wpIn_skip ?_;refine wpIn_block ?_;refine wpIn_seq ?_;refine wpIn_region_lit ?_;refine vi (g:=g) (n:=15) (s:=Instr.entry (ptr bi)) (K:=λv H=>v=.tuple #[e.key,e.val]/\H=A++((bi,.mapIter (some b) ck seen' ck)::B)) hF rfl zC rfl qz ?_ ?_ λv H' w2 a3 hv o6 uM=>?_
 ·rw[e6.symm];rfl
 ·obtain⟨v,hr,hv⟩:=KR.run (P:=zQ) (k:=λv=>v=.tuple #[e.key,e.val]) ⟨bi,b,ck,seen',e.born,ck,es,e,rfl,xab _ (.head _),hbk,xab _ (.tail _ (by rw[hB];exact .tail _ (.head _))),hfi,rfl⟩ jg;exact⟨v,w1,_,hr,jg,hv,rfl⟩
 obtain⟨rfl,rfl⟩:=hv;refine dH (g:=g) (n:=15) (v0:=u32 x.2) hF rfl zC rfl uM o6 ⟨_,_,rfl,rfl,Gy⟩ λa4 GH=>?_;refine dH (g:=g) (n:=15) (v0:=u32 x.2) hF rfl zC rfl GH o6 (show u32 x.2=u32 x.2 from rfl) λa5 GG=>?_;refine wpListIn_nil ?_;refine wpIn_seq ?_;refine wpIn_region_lit ?_;refine dH (g:=g) (n:=15) (v0:=.func (.yield l) #[] #[]) hF rfl zC rfl GG o6 f0 λa6 GF=>?_;refine dH (g:=g) (n:=15) (v0:=u32 x.2) hF rfl zC rfl GF o6 (show u32 x.2=u32 x.2 from rfl) λa7 Wx=>?_;have hlen:(bT es m seen).length=(bT es m seen').length+1:=by rw[hp.length_eq];rfl
 have hlt:ss.length<m.length:=by
  have:=dh.length_eq;simp only[xaf,xav]at this⊢;omega
 obtain⟨fn,tmps,assign,body,hy,hR⟩:=hY _ x.2 A _ w2 hG hlt o6;refine wpListIn_plain rfl λK hK=>⟨λ_ _=>trivial,?_⟩;rw[Oper.semAt_eq _ _ _ zC,Wx.eval];have hex:∀F7:Fr,F7=bt (bt (bt (bt (bt (bt (bt fr (some 7) (.tuple #[.bool true,e.key,e.val])) (some 8) (.bool true)) (some 9) (.tuple #[e.key,e.val])) (some 10) (u32 x.2)) (some 4) (u32 x.2)) (some 11) (.func (.yield l) #[] #[])) (some 12) (u32 x.2)->(execOp (ev F7) (fi VF 3 2)).run zQ w2=.ok (.round l fn tmps assign body) w2:=λF7 hF7=>by
  have v11:ev F7 (.tmp 11)=.func (.yield l) #[] #[]:=by rw[hF7];rfl
  have v12:ev F7 (.tmp 12)=u32 x.2:=by rw[hF7];rfl
  have Yh:execOp (ev F7) (fi VF 3 2)=(do let d <-resolve (ev F7) {callee:=.value (.tmp 11),args:=#[.tmp 12],argTypes:=#[110]} 4;invoke d.target d.args):=rfl;rw[Yh];simp[resolve,Deferred.ofValue,v11,v12,invoke,go_sem,hy]
 refine(xce (Oper.uponIn Fence.wide 0 zQ (fi VF 3 2) a7 K _) (hex _ rfl)).mpr ⟨λh=>(by cases h),hR.mono ?_⟩;rintro e' w3 ⟨rfl,A',hG',V4⟩;refine hK _ _ ?_;have ha8:=Wx.put (d:=some 13) rfl (.bool true);refine dH (g:=g) (n:=15) (v0:=.bool false) hF rfl zC rfl ha8 V4 ⟨_,rfl,rfl⟩ λa9 ha9=>?_;refine wpListIn_nil ?_;refine wpIn_cond_false (by rw[ha9.eval];rfl) ?_;refine wpIn_skip ?_;refine⟨(bT es m seen').length,by omega,_,ss++[x.2],A',seen',ha9,f0,f6,hG',V4,?_,rfl⟩;rw[xaj];exact((hp.map Prod.snd).append_left ss).symm.trans dh
end
end
section
open ax
section
noncomputable abbrev AF:Func:=Tryz.f405
variable {f:FuncId} {cap:Array zV} {B:Hp} {N:Nat} {S:zL->Prop}
noncomputable def dA:Code:=match AF.body with|some (.seq _ (.seq (.seq _ (.block _ (.rangeFunc _ _ c _))) _))=>c|_=>.skip
noncomputable def fP:Code:=match AF.body with|some (.seq _ (.seq (.seq _ (.block _ (.rangeFunc _ _ _ c))) _))=>c|_=>.skip
noncomputable def Xc(i:Nat):Oper:=match fP with| .block _ (.region _ ops _)=>(match ops[i]? with|some o=>o|none=>default)|_=>default
def my(fn:FuncId)(tmps:Array zV)(assign body:Code)(D:Nat):Loop:={state:=.ready,pending:=none,fn,tmps,params:=#[7],assign,body,defers:=D}
def APG(l D bs:Nat)(fn:FuncId)(tmps:Array zV)(assign body:Code)(ss:zL)(A:Hp):Prop:=
 ∃v C',A=(l,.loop (my fn tmps assign body D))::(D,.deferred (some []))::(bs,.cells #[v] 194 zZ)::C'/\aP 110 .u32 v (iw ss) C'
theorem TS{g:Gh}{l D bs:Nat}{fn:FuncId}{tmps:Array zV}{fr:Fr}(hsz:tmps.size=13)(gT:∀s,tmps.getD s undef=fr s)(f2:fr 2=ptr bs){ss:zL}{x:Nat}{A X:Hp}{W:World}
 (hG:APG l D bs fn tmps dA fP ss A)(hl:ss.length<1099511627776)(hW:Own g (A++X) W):
  YieldAt Fence.wide 0 zQ l #[u32 x] W (λe W'=>e=.returned (.bool true)/\∃A',APG l D bs fn tmps dA fP (ss++[x]) A'/\Own g (A'++X) W'):=by
 obtain⟨v,C',rfl,ho⟩:=hG;have hF:∀f,(Fence.wide.inRound l).fn f:=λ_=>trivial;have hL:W.heap[l]? =some (.loop (my fn tmps dA fP D)):=hW.has _ (.head _);refine⟨fn,_,dA,fP,run_yield hL rfl,roundIn_of_wpIn trivial ?_⟩;have ha:x4 [] 13 {tmps:=tmps.setIfInBounds 7 (u32 x),defers:=[]} (bt fr (some 7) (u32 x)):=(x4.put (a:={tmps:=tmps,defers:=[]}) (d:=some 7) ⟨rfl,hsz,gT⟩ rfl (u32 x));have ha:x4 [] 13 {tmps:=(#[7].zip #[u32 x]).foldl (λtmps (t,a)=>tmps.setIfInBounds t a) tmps,defers:=[]} (bt fr (some 7) (u32 x)):=by simpa using ha
 change Code.wpIn _ 0 zQ (.region _ #[_] false) _ _ _;refine wpIn_region_lit ?_;refine dH (g:=g) (n:=13) (v0:=u32 x) hF rfl zC rfl ha hW rfl λa1 uy=>?_;refine wpListIn_nil ?_;have hbr:=run_beginRound (P:=zQ) hL rfl;refine⟨_,hbr,?_⟩;have DW:=hW.putObj (o':=.loop {my fn tmps dA fP D with state:=.busy}) (.head _);change Code.wpIn _ 0 zQ (.block _ (.region _ #[_,_,_,_,_] false)) _ _ _;refine wpIn_block ?_;refine wpIn_region_lit ?_;obtain⟨H1,Z9⟩:∃H1,H1=(l,Obj.loop {my fn tmps dA fP D with state:=.busy})::(((D,.deferred (some []))::(bs,.cells #[v] 194 zZ)::C')++X):=⟨_,rfl⟩
 replace DW:Own g H1 (W.putObj l (.loop {my fn tmps dA fP D with state:=.busy})):=by rw[Z9];exact DW
 have e0:AZ zQ g (Xc 0) (ev (bt (bt fr (some 7) (u32 x)) (some 5) (u32 x))) H1 (λz=>z=v)=Ld H1 (fr 2) (λz=>z=v):=by kernel_rfl
 refine dH (g:=g) (n:=13) (v0:=v) hF rfl zC rfl uy DW (e0.mpr (by rw[f2];exact Ld.mk (by rw[Z9];exact .tail _ (.tail _ (.head _))) rfl rfl)) λa2 qz=>?_;refine dH (g:=g) (n:=13) (v0:=u32 x) hF rfl zC rfl qz DW rfl λa3 uM=>?_;have eb:∀K:zV->Hp->Prop,au zQ 194 1 [(0,.int .u32 (x:Int))] H1 K=Ny zQ g (Xc 2) (ev (bt (bt (bt (bt fr (some 7) (u32 x)) (some 5) (u32 x)) (some 8) v) (some 9) (u32 x))) H1 K (λ_ _=>False):=λK=>by kernel_rfl
 refine yO (g:=g) (n:=13) (s:=_) (K:=λv H=>∃b,v=.slice (some ⟨b,0,none⟩) 1 1/\H=(b,.cells (ay .u32 [(x:Int)]) 110 zZ)::H1) hF rfl zC rfl uM DW rfl
  ((eb _).mp (au.int zK zK zK λb=>⟨b,rfl,rfl⟩)) λv1 H2 w2 a4 hv SK GH=>?_
 obtain⟨b,rfl,rfl⟩:=hv;have hn:(iw ss).length=ss.length:=aq ss;obtain⟨H2,hH2⟩:∃H2,H2=(b,Obj.cells (ay .u32 [(x:Int)]) 110 zZ)::H1:=⟨_,rfl⟩;rw[<-hH2]at SK;refine yO (g:=g) (n:=13) (s:=_) (K:=λv' H=>∃C2,aP 110 .u32 v' (iw (ss++[x])) C2/\H=(b,Obj.cells (ay .u32 [(x:Int)]) 110 zZ)::(l,Obj.loop {my fn tmps dA fP D with state:=.busy})::(D,.deferred (some []))::(bs,.cells #[v] 194 zZ)::(C2++X))
  hF rfl zC rfl GH SK (by simp only[execOp,resolve,invoke,builtin];simp[bind,Sem.bind];rfl) ?_ λv2 H3 w3 a5 hv Bk GG=>?_
 ·have e1:∀K:zV->Hp->Prop,App zQ 110 1 4 (.int .u32 0) H2 v (.slice (some ⟨b,0,none⟩) 1 1) K=
   Ny zQ g (Xc 3) (ev (bt (bt (bt (bt (bt fr (some 7) (u32 x)) (some 5) (u32 x)) (some 8) v) (some 9) (u32 x)) (some 10) (.slice (some ⟨b,0,none⟩) 1 1))) H2 K (λ_ _=>False):=λK=>by kernel_rfl
  refine(e1 _).mp ?_;rw[hH2,Z9];refine ho.qJ (.cons (.cons (.cons (.cons .left)))) (by exact .head _) zO zO λv' C2 tM=>⟨C2,?_,rfl⟩;rw[cg];exact tM
 obtain⟨C2,tM,rfl⟩:=hv;have es:∀(H:Hp) (K:zV->Hp->Prop),St 1 H (fr 2) v2 (λH'=>K undef H')=Ny zQ g (Xc 4) (ev (bt (bt (bt (bt (bt (bt fr (some 7) (u32 x)) (some 5) (u32 x)) (some 8) v) (some 9) (u32 x)) (some 10) (.slice (some ⟨b,0,none⟩) 1 1)) (some 11) v2)) H K (λ_ _=>False):=λH K=>by kernel_rfl
 refine XD (g:=g) (n:=13) (s:=_) (K:=λ_ H=>H=(b,Obj.cells (ay .u32 [(x:Int)]) 110 zZ)::(l,Obj.loop {my fn tmps dA fP D with state:=.busy})::(D,.deferred (some []))::(bs,.cells #[v2] 194 zZ)::(C2++X))
  hF rfl zC rfl GG Bk rfl ((es _ _).mp ?_) λH4 w4 a6 hv Wy GF=>?_
 ·rw[f2];exact St.one (.tail (.tail (.tail (.head _)))) tM.one zI rfl rfl
 subst hv;refine wpListIn_nil ?_;simp only[Exit.inBlock,roundPost];refine⟨_,_,run_endRound none (Wy.has _ (.tail _ (.head _))),rfl,_,⟨v2,C2,rfl,tM⟩,?_⟩;exact(Wy.putObj (.tail (.head _))).tail
theorem OI(hg:uf zQ f cap B u32 N S)(hc:aT zQ f=true)(hN:N<=1099511627776):
  Fc zQ 405 #[.slice none 0 0,.func (.func f) #[] cap] B (λv H=>∃ss C',S ss/\H=C'++B/\aP 110 .u32 v (iw ss) C'):=by
 intro g w hw;rw[<-callsIn_wide (n:=0)];have hF:∀f,Fence.wide.fn f:=λ_=>trivial;refine callsIn_of_wp_marks func405 rfl trivial ?_;have ha:=nh (m:=13) (args:=[.slice none 0 0,.func (.func f) #[] cap]) zI;refine wpIn_seq ?_;refine wpIn_region_lit ?_;refine yO (g:=g) (n:=13) (s:=_) (K:=λv H=>∃bs,v=ptr bs/\H=(bs,.cells #[.slice none 0 0] 194 zZ)::B) hF rfl zC rfl ha hw rfl (λbs _=>⟨bs,rfl,rfl⟩) λv H1 w1 a1 hv jg uy=>?_;obtain⟨bs,rfl,rfl⟩:=hv;refine dH (g:=g) (n:=13) (v0:=.slice none 0 0) hF rfl zC rfl uy jg rfl λa2 qz=>?_;refine wpListIn_nil ?_;refine wpIn_seq ?_;refine wpIn_seq ?_;refine wpIn_region_lit ?_;refine dH (g:=g) (n:=13) (v0:=.func (.func f) #[] cap) hF rfl zC rfl qz jg rfl λa3 uM=>?_;refine wpListIn_nil ?_;refine wpIn_block ?_;refine wpIn_rangeFunc λfn hfn=>?_;have ye:=(jg.alloc (.deferred (some []))).alloc (.loop (my fn a3.tmps dA fP w1.heap.size));have f6:a3.tmps[6]?.getD undef=.func (.func f) #[] cap:=by have:=uM.get 6;rw[xas]at this;exact this
 obtain⟨W1,DW⟩:∃W1,W1=(w1.alloc (.deferred (some []))).alloc (.loop (my fn a3.tmps dA fP w1.heap.size)):=⟨_,rfl⟩;rw[<-DW]at ye;refine⟨w1.heap.size+1,[{target:=.collected w1.heap.size,args:=#[]}],W1,{target:=.fn (.func f) cap,args:=#[.func (.yield (w1.heap.size+1)) #[] #[]]},W1,f,#[.func (.yield (w1.heap.size+1)) #[] #[]]++cap,W1,?_,?_,λ_ _=>trivial,?_,λh=>(by cases h),?_⟩
 ·rw[DW];exact run_enterLoop_outer fn a3.tmps #[7] _ _
 ·simp[resolve,Deferred.ofValue,f6,go_sem]
 ·simp[invoke,go_sem];exact eE hc _ _
 have hsz:(w1.alloc (.deferred (some []))).heap.size=w1.heap.size+1:=by simp
 rw[hsz]at ye;refine CallsIn.mono (hg g (w1.heap.size+1) (APG (w1.heap.size+1) w1.heap.size bs fn a3.tmps dA fP) (λss x A X W hG hl hW=>TS uM.size uM.get rfl hG zO hW) [_,_,_] W1 ⟨_,[],rfl,aP.nil⟩ ye) ?_;rintro e W2 ⟨⟨v0,rfl⟩,ss,A',hS,⟨v,C',rfl,ho⟩,SK⟩;refine⟨none,_,run_endLoop (SK.has _ (.head _)) (by simp[my]),?_⟩;have Bk:=SK.putObj (o':=.loop {my fn a3.tmps dA fP w1.heap.size with state:=.exhausted}) (.head _);simp only[Exit.then,Exit.inBlock];have GH:x4 [{target:=.collected w1.heap.size,args:=#[]}] 13 {a3 with defers:=[{target:=.collected w1.heap.size,args:=#[]}]++a3.defers} (bt (bt (bt (gR [.slice none 0 0,.func (.func f) #[] cap] 0) (some 2) (ptr bs)) (some 4) (.slice none 0 0)) (some 6) (.func (.func f) #[] cap)):=
  ⟨by rw[uM.defers];rfl,uM.size,uM.get⟩
 refine wpIn_seq ?_;refine wpIn_region_lit ?_;obtain⟨H3,Z8⟩:∃H3,H3=(w1.heap.size+1,Obj.loop {my fn a3.tmps dA fP w1.heap.size with state:=.exhausted})::(((w1.heap.size,.deferred (some []))::(bs,.cells #[v] 194 zZ)::C')++B):=⟨_,rfl⟩
 replace Bk:Own g H3 (W2.putObj (w1.heap.size+1) (.loop {my fn a3.tmps dA fP w1.heap.size with state:=.exhausted})):=by rw[Z8];exact Bk
 have e0:AZ zQ g (fi AF 4 0) (ev (bt (bt (bt (gR [.slice none 0 0,.func (.func f) #[] cap] 0) (some 2) (ptr bs)) (some 4) (.slice none 0 0)) (some 6) (.func (.func f) #[] cap))) H3 (λz=>z=v)=Ld H3 (ptr bs) (λz=>z=v):=by kernel_rfl
 refine dH (g:=g) (n:=13) (v0:=v) hF rfl zC rfl GH Bk (e0.mpr (Ld.mk (by rw[Z8];exact .tail _ (.tail _ (.head _))) rfl rfl)) λa5 GG=>?_;refine dH (g:=g) (n:=13) (v0:=v) hF rfl zC rfl GG Bk rfl λa6 GF=>?_;refine wpListIn_nil ?_;refine wpIn_ret ?_;simp only[Exit.then,bodyPostM];rw[GF.defers];rw[Z8]at Bk;refine⟨by simp,.inl ⟨w1.heap.size,_,rfl,run_takeDeferred (Bk.has _ (.tail _ (.head _))),?_⟩⟩;have Wy:=Bk.putObj (o':=.deferred none) (.tail (.head _));refine⟨_,results_tmp rfl _ _ _,C'++B,Wy.tail.tail.tail,v,C'++B,?_,.refl _,ss,C',hS,rfl,ho⟩;have:=GF.get 4;rw[this];rfl
end
section
variable {f:FuncId} {cap:Array zV} {B:Hp} {N:Nat} {S:zL->Prop}
theorem GW(hg:uf zQ f cap B u32 N S)(hc:aT zQ f=true)(hN:N<=1099511627776):
  Fc zQ 400 #[.func (.func f) #[] cap] B (λv H=>∃ss C',S ss/\H=C'++B/\aP 110 .u32 v (iw ss) C'):=by
 refine aE λg=>Hv (aa.fq (OI hg hc hN) ?_);rintro v H h;exact aF.here h
theorem Vo{l':List Int}{ss:zL}(h:l'.Perm (iw ss)):∃l:zL,l.Perm ss/\l'=iw l:=by
 refine⟨l'.map Int.toNat,?_,?_⟩
 ·have:=h.map Int.toNat;rw[iw,xbO]at this;have e:(Int.toNat∘(Nat.cast:Nat->Int))=id:=by funext x;simp
  rw[e,xeg]at this;exact this
 unfold iw;rw[xbO];have:∀x∈l',((Nat.cast:Nat->Int)∘Int.toNat) x=x:=λx hx=>by
  obtain⟨n,_,rfl⟩:=xao.1 (h.mem_iff.1 hx);simp
 rw[xbj this,List.map_id']
theorem MY(hg:uf zQ f cap B u32 N S)(hS:∀ss,S ss->ss.length<=N)(hc:aT zQ f=true)(hN:N<=1099511627776):
  Fc zQ 391 #[.func (.func f) #[] cap] B (λv H=>∃ss l C',S ss/\l.Perm ss/\H=C'++B/\aP 110 .u32 v (iw l) C'):=by
 refine aE λg=>HB (aa.fq (GW hg hc hN) ?_);rintro v H ⟨ss,C',hs,rfl,ho⟩;have hlen:=hS ss hs;refine aa.fn (.left (A:=B)) (UZ ho (by rw[aq];omega)) ?_;rintro w C2 ⟨rfl,cC⟩;rw[Le]at cC;exact aF.here ⟨ss,_,C2,hs,jP ss,rfl,cC⟩
end
theorem Vb{pt n v:Nat}{T:Nd->Option Nat}{C:Hp}(h:ov pt n T C)(hv:v<n)(hinj:∀d d' r,T d=some r->T d'=some r->d=d')(hb:∀d r,T d=some r->r<1048576):
  Fc zQ 366 #[ptr pt,iv (v:Int)] C (λr H=>∃w l N,r=.tuple #[w,iv 0]/\H=N++C/\aP 110 .u32 w (iw l) N/\l.Nodup/\∀r,r∈l↔∃d,T d=some r/\d.v=v):=by
 have h0:=h;obtain⟨vs,Cs,ms,rfl,hs,ho⟩:=h;obtain⟨m,hm⟩:∃m,ms[v]? =some m:=⟨_,xaa (by rw[ho.len];exact hv)⟩;have he:=ho.dK v m hm;have hT:∀d:Nd,d.v=v->T d=aG m.l d:=λd hd=>by rw[ho.T,hd,hm];rfl
 have hmem:∀d r,(d,r)∈m.l↔T d=some r/\d.v=v:=λd r=>by
  constructor
  ·intro hx;have hd:=ho.var v m hm _ hx;exact⟨by rw[hT d hd];exact(dX he.nd).2 hx,hd⟩
  rintro⟨h1,h2⟩;rw[hT d h2]at h1;exact(dX he.nd).1 h1
 have fc:(m.l.map Prod.snd).Nodup:=by
  refine xcc.2 ((xcc.1 he.nd).imp_of_mem λ{a b} ha hb' hne e=>hne ?_);have h1:=((hmem a.1 a.2).1 ha).1;have h2:=((hmem b.1 b.2).1 hb').1;rw[<-e]at h2;exact hinj _ _ _ h1 h2
 have hlen:m.l.length<=1048576:=by
  have:=cy (l':=List.range 1048576) fc λx hx=>by
   obtain⟨y,hy,rfl⟩:=xao.1 hx;exact xaM.2 (hb _ _ ((hmem y.1 y.2).1 hy).1)
  simpa using this
 refine aE λg=>HU (aa.eq (lB h0 hv) (ae.cO (Br.F (Nil.ptr ?_))));refine ai.mk (Ld.mk zM rfl ?_);refine hs.XK (x:=.map (some m.b)) (by rw[xat,hm];rfl) (λ_ h=>by exact .tail _ (xad _ h)) ?_;refine aa.fq (MO (b:=m.b) _) ?_;rintro w H ⟨bm,rfl,rfl⟩;obtain⟨X,Y,hXY⟩:=xde (rB hm);have dh:((bm,Obj.cells #[.map (some m.b)] 167 zZ)::(pt,.cells #[vs] 166 zZ)::(Cs++NF ms)).Perm
   ([(bm,.cells #[.map (some m.b)] 167 zZ),(m.b,.map m.es m.ck)]++((pt,.cells #[vs] 166 zZ)::(Cs++(X++Y)))):=by
  rw[hXY];refine .cons _ ?_;show((pt,_)::(Cs++(X++(m.b,_)::Y))).Perm ((m.b,_)::(pt,_)::(Cs++(X++Y)));refine .trans (.cons _ ?_) (.swap _ _ _);rw[<-xaj,<-xaj];exact xaT
 refine aa.pre (.perm dh) ?_;refine aa.fq (MY (Fj he) (λss Zn=>by rw[Zn.length_eq,xav];exact xai _) zK zO) ?_;rintro w H ⟨ss,l,C',Zn,hl,rfl,hown⟩;have qR:l.Perm (m.l.map Prod.snd):=hl.trans Zn;refine aF.mk (nH:=C'++((pt,.cells #[vs] 166 zZ)::(Cs++NF ms))) ?_ ⟨w,l,C',rfl,rfl,hown,qR.nodup_iff.2 fc,λr=>?_⟩
 ·rw[xaj];refine aN.c8 ?_ C';exact(aN.perm dh.symm).trans .tail
 rw[qR.mem_iff,xao];constructor
 ·rintro⟨y,hy,rfl⟩;exact⟨y.1,(hmem y.1 y.2).1 hy⟩
 rintro⟨d,hd⟩;exact⟨(d,r),(hmem d r).2 hd,rfl⟩
end
end Go.Proofs
namespace Go.Sx
open Go
section
variable {P:Program} {g:Gh} {H:Hp} {κ β:Type} [DecidableEq κ] {ke:κ->zV} {vr:zV->β->Prop} {es:Array MapEntry} {ck b:Nat} {m:List (κ×β)} {K:zV->Hp->Prop} {KP:List PanicEntry->Hp->Prop}
omit [DecidableEq κ] in
theorem aD.sameKey(h:aD ke vr es ck m){i:Nat}{k:κ}{x:β}(hi:m[i]? =some (k,x)):es.modify i (λe=>{e with key:=ke k})=es:=by
 apply Array.ext_getElem?;intro j;rw[xbY];split
 ·rename_i e;subst e;cases he:es[i]? with
  |none=>rfl
  |some e0=>rw[xck,<-(h.key i e0 _ he hi).1]
 ·rfl
theorem aD.WY{o:Oper}{ρ:Operand->zV}{t kt e:TypeId}{kd:TypeDesc}{mo ko:Operand}{z:zV}{k:κ}{y0:β}(hk:∀a b,BJ P kt (ke a) (ke b) (decide (a=b)))(hc:∀a,mD P kt (ke a))(hb:∀a,Instr.sameBits 10000 (ke a) (ke a)=true)
 (ho:o.op=.mapEntry t mo ko)(hm':ρ mo=.map (some b))(hk':ρ ko=ke k)(ht:P.underlying t=some (.map kt e))(DT:P.underlying kt=some kd)(ac8:cU kd=true)(hzd:fK P e=some z)(hvz:vr z y0)
 (h:aD ke vr es ck m){c:Obj->Hp}(Sw:∀o o',dg b o o' (c o) (c o'))
 (h1:∀es' bD v st,aD ke vr es' bD (if k∈m.map Prod.fst then m else m++[(k,y0)])->(∃e∈es'.toList,e.born=st)->K (.tuple #[v,.int .i64 (st:Int)]) (c (.map es' bD))):oC P g o ρ (c (.map es ck)) K KP:=by
 have yf:(b,Obj.map es ck)∈c (.map es ck):=(Sw _ (.map es ck)).mem;obtain⟨i,hi,yg⟩:=cJ hzd;refine oC.ofValue (s:=Instr.mapEntry t (.map (some b)) (ke k)) (by simp only[execOp,ho,hm',hk']) λw hw=>?_;have fE:=λb=>hc k b w;rcases h.Eb hk k with⟨j,x,e0,g1,g2,g3,g4⟩|⟨g1,g2⟩
 ·have pB:=gM (P:=P) DT ac8 g4 w;have hj:=(xaU.1 g1).1;have hkey:es[j].key=ke k:=(h.key j _ _ (xbC hj) g2).1;have hmem:k∈m.map Prod.fst:=xao.2 ⟨_,xaw g2,rfl⟩;obtain⟨w',hs,hown⟩:=bU (P:=P) hw (es.modify j λe=>{e with key:=ke k}) ck (by rw[h.sameKey g2];exact Sw _ (.map es ck));refine⟨.tuple #[e0.val,.int .i64 (es[j].born:Int)],w',_,?_,hown,h1 es ck e0.val es[j].born (by rw[xae hmem];exact h) ⟨es[j],by simp,rfl⟩⟩;simp[Instr.mapEntry,run_underlying ht,aY hw yf,fE,pB,hj,Instr.keyThatStays,hkey,hb k,hs,goInt]
 have pB:=gM (P:=P) DT ac8 g2 w;obtain⟨w',hs,hown⟩:=bU (P:=P) hw (es.push {key:=ke k,val:=z,born:=ck}) (ck+1) (Sw _ _);have me:=h.more (k:=k) g1 hvz;have e2:eo m k y0=m++[(k,y0)]:=by unfold eo;rw[xac g1]
 rw[e2]at me;refine⟨.tuple #[z,.int .i64 (ck:Int)],w',_,?_,hown,h1 _ _ z ck (by rw[xac g1];exact me) ⟨_,by rw[xel];exact xab _ (.head _),rfl⟩⟩;simp[Instr.mapEntry,run_underlying ht,aY hw yf,fE,pB,dV hi yg,hs,goInt]
omit [DecidableEq κ] in
theorem aD.UU{o:Oper}{ρ:Operand->zV}{t:TypeId}{mo so xo:Operand}{st:Nat}(ho:o.op=.entryStore t mo so xo)(hm':ρ mo=.map (some b))(hs':ρ so=.int .i64 (st:Int))
 (h:aD ke vr es ck m)(hst:∃e∈es.toList,e.born=st)(hv:∀x,vr (ρ xo) x){c:Obj->Hp}(Sw:∀o o',dg b o o' (c o) (c o'))
 (h1:∀es',aD ke vr es' ck m->K undef (c (.map es' ck))):oC P g o ρ (c (.map es ck)) K KP:=by
 have yf:(b,Obj.map es ck)∈c (.map es ck):=(Sw _ (.map es ck)).mem;refine oC.sI (s:=Instr.entryStore t (.map (some b)) (.int .i64 (st:Int)) (ρ xo)) (by simp only[execOp,ho,hm',hs']) λw hw=>?_;obtain⟨i,hi⟩:∃i,es.findIdx? (λe=>(e.born:Int)==(st:Int))=some i:=by
  obtain⟨e,he,rfl⟩:=hst;rw[<-xdJ,Array.findIdx?_isSome];rw[Array.any_eq_true'];exact⟨e,by simpa using he,by simp⟩
 obtain⟨w',hs,hown⟩:=bU (P:=P) hw (es.modify i λe=>{e with val:=ρ xo}) ck (Sw _ _);have hbn:((es.modify i λe=>{e with val:=ρ xo}).toList.map MapEntry.born)=es.toList.map MapEntry.born:=by
  apply xbg;intro j;simp only[xat,xbf,xbY];split
  ·cases es[j]? <;>rfl
  rfl
 refine⟨w',_,?_,hown,h1 _ ⟨by simp[h.len],λj e x he hx=>?_,h.nd,by rw[hbn];exact h.born,λe he=>?_⟩⟩
 ·simp only[Instr.entryStore,Sem.run_bind,aY hw yf,Result.andThen_ok,asInt,asIntOf,Sem.run_pure];simp only[hi,hs]
 ·rw[xbY]at he;split at he
  ·cases h0:es[j]? with
   |none=>rw[h0]at he;simp at he
   |some e0=>
    rw[h0]at he;simp only[xck,xaq]at he;subst he;exact⟨(h.key j _ _ h0 hx).1,hv _⟩
  exact h.key j _ _ he hx
 have:e.born∈(es.modify i λe=>{e with val:=ρ xo}).toList.map MapEntry.born:=xaR he;rw[hbn]at this;obtain⟨e0,h1,h2⟩:=xao.1 this;rw[<-h2];exact h.lt e0 h1
end
theorem bH.out{C H:Hp}{c:Hp->Hp}(h:bH C H c)(N:Hp):aN (c (N++C)) (N++H):=by
 obtain⟨e,F,hp⟩:=h.spec;refine .perm ((hp (N++C)).trans ?_);rw[xaj];refine xbZ N ?_;have:=hp C;rw[<-e]at this;exact this.symm
end Go.Sx
set_option maxRecDepth 100000
namespace Go.Proofs
open Go Go.Sx Tryz
section
open ax
section
variable {kp:Nat} {K:Kd} {ord ah tr:zL} {C:Hp} {S:Nat->ax.Fn}
def BN(N:eG)(r:Nat):Int:=match N r with|some d=>(d.v:Int)|none=> -1
theorem D1{N:eG}{r:Nat}(hl:live N r)(h2:∀d,N r=some d->2<=r):∃lo hi,got N r=[iv (BN N r),u32 lo,u32 hi]/\∀e,N r=some e->lo=e.lo/\hi=e.hi:=by
 cases h:N r with
 |some d=>
  refine⟨d.lo,d.hi,?_,λe he=>by cases he;exact⟨rfl,rfl⟩⟩;rw[dZ h (h2 d h)];simp[bB,BN,h]
 |none=>
  have hr:r<2:=by
   rcases hl with hl|⟨d,hd⟩
   ·exact hl
   rw[h]at hd;cases hd
  refine⟨r,r,?_,λe he=>by cases he⟩;rw[fG hr];simp[BN,h]
theorem C7(h:cW kp K ord ah tr C){r:Nat}(hr:r<4294967296)(hl:live K.N r)(h2:∀d,K.N r=some d->2<=r)(y:Nat):
  Rd zQ 367 #[ptr kp,u32 r,iv (y:Int)] C (· =.tuple #[u32 (pl K.N y r),u32 (ph K.N y r)]):=by
 have h0:=h;obtain⟨b,rfl,hO⟩:=h;obtain⟨lo,hi,hg,he⟩:=D1 hl h2;refine aE λg=>HT (Nil.ptr (ai.mk (aa.eq (nX h0 hr) ?_)));intro b5 _;refine St.whole (r:=got K.N r) (by exact .head _) rfl (aQ _ _).1 (aQ _ _).2 ?_;rw[hg];refine Ld.f ?_;refine ae.gX (Br.dec (λe=>?_) (λe=>?_))
 ·refine Ld.f ?_;refine Ld.f ?_;cases hN:K.N r with
  |none=>simp[BN,hN]at e<;>omega
  |some d=>
   obtain⟨rfl,rfl⟩:=he d hN;have hv:d.v=y:=by simp[BN,hN]at e;omega
   obtain⟨e1,e2⟩:=Vk hN hv;exact br.mk .tail (by rw[e1,e2];rfl)
 obtain⟨e1,e2⟩:=Vl (N:=K.N) (y:=y) (r:=r) λd hd=>by simp[BN,hd]at e<;>omega
 exact br.mk .tail (by rw[e1,e2])
def mE(c:Cx):List zV:=[u32 c.r,iv (c.d.v:Int),u32 c.d.lo,u32 c.d.hi,u32 c.yu,u32 c.yq,u32 c.tZ,u32 c.tY]
theorem mq(c:Cx):∀x∈mE c,x.oneCell'=true:=by intro x hx;simp[mE,u32]at hx;rcases hx with rfl|rfl|rfl|rfl|rfl|rfl|rfl|rfl<;>rfl
structure yF(N:eG)(x y:Nat)(l:zL)(all:List Cx):Prop where
 nd:(all.map Cx.r).Nodup
 mem:∀c,c∈all↔c.r∈l/\m8 N x y c.r c.d/\c=oc N y c.r c.d
theorem yF.skip{N:eG}{x y r:Nat}{l:zL}{all:List Cx}{d:Nd}(h:yF N x y l all)(hd:N r=some d)(hn:¬m8 N x y r d):yF N x y (l++[r]) all where
 nd:=h.nd
 mem:=λc=>by
  rw[h.mem,xan];constructor
  ·rintro⟨h1,h2⟩;exact⟨.inl h1,h2⟩
  rintro⟨h1|h1,h2,h3⟩
  ·exact⟨h1,h2,h3⟩
  simp at h1;have:=h2.1;rw[h1,hd]at this;cases this;rw[h1]at h2;exact absurd h2 hn
theorem yF.more{N:eG}{x y r:Nat}{l:zL}{all:List Cx}{d:Nd}(h:yF N x y l all)(hr:r∉l)(hn:m8 N x y r d):yF N x y (l++[r]) (all++[oc N y r d]) where
 nd:=by
  rw[xaH];refine xa2.2 ⟨h.nd,by simp,λa ha b hb e=>?_⟩;simp[oc]at hb;subst e;obtain⟨c,hc,rfl⟩:=xao.1 ha;exact hr (hb▸((h.mem c).1 hc).1)
 mem:=λc=>by
  rw[xan,h.mem,xan,xaz,xaz];constructor
  ·rintro(⟨h1,h2⟩|rfl)
   ·exact⟨.inl h1,h2⟩
   exact⟨.inr rfl,hn,rfl⟩
  rintro⟨h1|h1,h2,h3⟩
  ·exact .inl ⟨h1,h2,h3⟩
  right;have h4:=h2.1;rw[h1,hn.1]at h4;cases h4;exact h3.trans (by rw[h1])
theorem yF.all{N:eG}{x y:Nat}{l:zL}{all:List Cx}(h:yF N x y l all)(hl:∀r d,N r=some d->d.v=x->r∈l):My N x y all where
 nd:=h.nd
 mem:=λc=>by
  rw[h.mem];exact⟨λh=>h.2,λh=>⟨hl _ _ h.1.1 h.1.2.1,h⟩⟩
theorem A0(h:cW kp K ord ah tr C){r:Nat}(hl:live K.N r)(h2:∀d,K.N r=some d->2<=r){H:Hp}{c:Hp->Hp}(hh:bH C H c){g:Gh}{Q:zV->Hp->Prop}{KP:List PanicEntry->Hp->Prop}
 (hk:∀lo hi,got K.N r=[iv (BN K.N r),u32 lo,u32 hi]->(∀e,K.N r=some e->lo=e.lo/\hi=e.hi)->Q (.agg #[iv (BN K.N r),u32 lo,u32 hi]) H):aa zQ g 287 #[ptr kp,u32 r] H Q KP:=by
 have hr:=h.lt hl;obtain⟨lo,hi,hg,he⟩:=D1 hl h2;refine aa.eh hh (nX h zO) ?_;have:=hk lo hi hg he;rw[hg];exact this
theorem Bt(h:cW kp K ord ah tr C)(hok:Ok K S (lv ah)){x y:Nat}(hx:x<K.n):
  Fc zQ 297 #[ptr kp,iv (x:Int),iv (y:Int)] C (λr H=>∃all Na,H=Na++C/\aV 367 8 r (all.map mE) Na/\My K.N x y all/\all.length<=1048576):=by
 have hcap:=h.cap;have h0:=h;obtain⟨b,hC,hO⟩:=h;have V9:∀d r,K.T d=some r↔K.N r=some d:=λd r=>by rw[hok.mid.kA];exact⟨λh=>h.1,λh=>⟨h,λx=>x⟩⟩
 have two:∀{r d},K.N r=some d->2<=r:=λhd=>(hok.mid.two hd).1;refine aE λg=>IM ?_;rw[hC];refine Nil.ptr (ai.mk (ai.mk (Ld.q ?_)));refine aa.fq (Vb hO.ut hx (λd d' r h1 h2=>by rw[V9]at h1 h2;rw[h1]at h2;cases h2;rfl) (λd r h1=>by have:=(hok.mid.two ((V9 d r).1 h1)).2;omega)) ?_;rintro w H ⟨sl,l,Nr,rfl,rfl,RZ,fc,hmem⟩;refine Ext.two (RZ.bP ?_);rw[aq];have hl:∀r∈l,∃d,K.N r=some d/\d.v=x:=λr hr=>by obtain⟨d,h1,h2⟩:=(hmem r).1 hr;exact⟨d,(V9 d r).1 h1,h2⟩
 have hlen:l.length<=1048576:=by
  have:=cy (l':=List.range 1048576) fc λr hr=>by
   obtain⟨d,hd,_⟩:=hl r hr;have:=(hok.mid.two hd).2;exact xaM.2 zO
  simpa using this
 refine⟨λvs H=>∃(v:zV) (i:Nat) (all:List Cx) (Na:Hp),vs=[v,iv (i:Int)]/\H=Na++(Nr++C)/\i<=l.length/\aV 367 8 v (all.map mE) Na/\yF K.N x y (l.take i) all/\all.length<=i,
  λvs _=>l.length-bJ vs 1,JE.of (bH.out (C:=b.CT) (.cons (.app .left)) Nr) ⟨_,0,[],[],rfl,by rw[hC];rfl,xaO _,aV.nil _ _,⟨by simp,by simp⟩,xai _⟩,?_⟩
 rintro w w' H ⟨v,i,all,Na,hw,rfl,hi,ho,BW,Ww⟩ gs;simp only[xax,xa0]at hw;obtain⟨rfl,rfl⟩:=hw;refine ae.eZ (Br.dec (λhlt=>?_) (λhge=>?_));rotate_left
 ·have:i=l.length:=by omega
  subst this;rw[xbm]at BW;refine aF.mk (nH:=Na++C) ?_ ⟨all,Na,by rw[hC],ho,BW.all λr d hd hv=>(hmem r).2 ⟨d,(V9 d r).2 hd,hv⟩,by omega⟩;exact aN.c8 .right Na
 obtain⟨r,EY⟩:∃r,l[i]? =some r:=⟨_,xaa hlt⟩;have nA:l.take (i+1)=l.take i++[r]:=by rw[xbs,EY];rfl
 have hrn:r∉l.take i:=λhm=>by
  have:(l.take (i+1)).Nodup:=fc.sublist (xdS _ _);rw[nA]at this;exact(xa2.1 this).2.2 r hm r zI rfl
 obtain⟨d,hd,lj⟩:=hl r (xaw EY);have ZQ:=hok.mid.lo hd;have ZR:=hok.mid.hi hd;intro J17 GJ;have next:∀v' T0 Na',aV 367 8 v' (T0.map mE) Na'->yF K.N x y (l.take (i+1)) T0->T0.length<=i+1->J17 [v'] (Na'++(Nr++C)):=λv' T0 Na' h1 h2 h3=>
  GJ _ _ λgs=>ae.inc (aC.mk ⟨v',i+1,T0,Na',rfl,rfl,by omega,h1,h2,h3⟩ (by simp[bJ];omega))
 refine RZ.ld (x:=(r:Int)) (cL EY) (λy hy=>xab _ (xad _ hy)) (Nil.ptr (ai.mk (A0 h0 (.inr ⟨d,hd⟩) (λ_ h=>two h) (.app (.app .here)) λlo hi hg he=>?_)));obtain⟨rfl,rfl⟩:=he d hd;have hvr:BN K.N r=(x:Int):=by simp[BN,hd,lj]
 rw[hvr];intro b28 _;refine St.p (by intro z hz;simp[u32]at hz;rcases hz with rfl|rfl|rfl<;>rfl) ?_;obtain⟨H0,WE⟩:∃H0,H0=(b28,Obj.cells #[iv (x:Int),u32 d.lo,u32 d.hi] 226 zZ)::(Na++(Nr++C)):=⟨_,rfl⟩;have hEq:((b28,Obj.cells [Value.int .i64 (x:Int),u32 d.lo,u32 d.hi].toArray 226 zZ)::(Na++(Nr++C)))=H0:=WE.symm;rw[hEq];intro J31 SS;have skip:¬m8 K.N x y r d->J31 [.bool true] H0:=λhn=>SS _ _ λgs=>Br.yes (JE.of (by rw[WE];exact .tail) (next w all Na ho (by rw[nA];exact BW.skip hd hn) zO));have take:m8 K.N x y r d->J31 [.bool false] H0:=λhn=>by
  refine SS _ _ λgs=>Br.no ?_;rw[WE];refine az.q ?_;refine Build.mk (cs:=mE ⟨r,⟨x,d.lo,d.hi⟩,0,0,0,0⟩) zK λb37 _=>?_;refine St.p (mq _) ?_;refine Ld.f ?_;refine aa.eq (C7 h0 (by have:=h0.lt ZQ;omega) ZQ (λ_ h=>two h) y) (Ext.two (ai.mk (St.one (by exact .head _) rfl (by simp[mE]) rfl ?_)));refine ai.mk (St.one (by exact .head _) rfl (by simp[mE]) rfl ?_);refine Ld.f ?_;refine aa.eq (C7 h0 (by have:=h0.lt ZR;omega) ZR (λ_ h=>two h) y) (Ext.two (ai.mk (St.one (by exact .head _) rfl (by simp[mE]) rfl ?_)));refine ai.mk (St.one (by exact .head _) rfl (by simp[mE]) rfl ?_);have dR:d=⟨x,d.lo,d.hi⟩:=by cases d;simp at lj;subst lj;rfl
  have hcell:mE (oc K.N y r d)=[u32 r,iv (x:Int),u32 d.lo,u32 d.hi,u32 (pl K.N y d.lo),u32 (ph K.N y d.lo),u32 (pl K.N y d.hi),u32 (ph K.N y d.hi)]:=by
   simp[mE,oc,lj]
  refine az.whole (r:=mE (oc K.N y r d)) (by rw[hcell];exact .head _) rfl ?_;refine au.one (e:=367) (z:=.agg #[.int .u32 0,iv 0,.int .u32 0,.int .u32 0,.int .u32 0,.int .u32 0,.int .u32 0,.int .u32 0]) (k:=8) (r:=mE (oc K.N y r d)) zK zK zK zD rfl λxb=>?_;refine ho.qJ (.cons (.cons (.cons .left))) (by exact .head _) rfl (mq _) ⟨_,rfl,rfl⟩ zP zP λv' Na' cC=>?_;refine JE.of (.skip (.skip .tail)) (next v' (all++[oc K.N y r d]) Na' (by rw[xaH];exact cC) (by rw[nA];exact BW.more hrn hn) zP)
 refine DR.of (R:=[(b28,Obj.cells #[iv (x:Int),u32 d.lo,u32 d.hi] 226 zZ)]) (by rw[WE];exact .left (A:=[_])) (Nil.ptr (ai.mk (Ld.f ?_)));have heR:aN H0 [(b28,Obj.cells #[iv (x:Int),u32 d.lo,u32 d.hi] 226 zZ)]:=by rw[WE];exact .left (A:=[_])
 intro F;rw[WE];refine A0 h0 ZQ (λ_ h=>two h) (.cons (.app (.app .here))) λlo1 hi1 hg1 Gz=>?_;rw[<-WE];refine⟨heR,B7.mk rfl (ae.cO (Br.dec (λhne=>?_) (λhe=>?_)))⟩
 ·refine Nil.ptr (ai.mk (Ld.f ?_));intro F2;rw[WE];refine A0 h0 ZR (λ_ h=>two h) (.cons (.app (.app .here))) λlo2 LP Uo Up=>?_;rw[<-WE];refine⟨heR,B7.mk rfl (ae.cO (aM.mk ?_))⟩;by_cases e2:BN K.N d.hi=(y:Int)
  ·rw[xak (by simpa using e2)];refine JE.mk (take ⟨hd,lj,.inr ?_⟩);cases hN:K.N d.hi with
   |none=>simp[BN,hN]at e2<;>omega
   |some f=>exact⟨f,rfl,by simp[BN,hN]at e2;omega⟩
  ·rw[xam (by simpa using e2)];refine JE.mk (skip ?_);rintro⟨_,_,⟨f,hf,Sk⟩|⟨f,hf,Sk⟩⟩
   ·exact hne (by simp[BN,hf,Sk])
   exact e2 (by simp[BN,hf,Sk])
 have e1:BN K.N d.lo=(y:Int):=by simpa using he
 refine JE.mk (take ⟨hd,lj,.inl ?_⟩);cases hN:K.N d.lo with
 |none=>simp[BN,hN]at e1<;>omega
 |some f=>exact⟨f,rfl,by simp[BN,hN]at e1;omega⟩
end
end
section
open ax
section
def zOf:zV->Int
 | .int _ z=>z
 |_=>0
abbrev vrZ(v:zV)(z:Int):Prop:=v=iv z
def xu(es:Array MapEntry)(ck:Nat)(ks:List Nd):Prop:=∃m:List (Nd×Int),aD nK vrZ es ck m/\m.map Prod.fst=ks
theorem xu.empty:xu #[] 0 []:=⟨[],aD.empty,rfl⟩
theorem xu.of{es:Array MapEntry}{ck:Nat}{m:List (Nd×Int)}(h:aD nK (λv _=>∃z,v=iv z) es ck m):xu es ck (m.map Prod.fst):=by
 have hlen:es.toList.length=m.length:=by simpa using h.len
 have hz:((es.toList.zip m).map λp=>((p.2.1,zOf p.1.val):Nd×Int)).map Prod.fst=m.map Prod.fst:=by
  rw[xbO];have:(Prod.fst∘λ(p:MapEntry×(Nd×Int))=>((p.2.1,zOf p.1.val):Nd×Int))=Prod.fst∘Prod.snd:=rfl;rw[this,<-xbO,List.map_snd_zip zO]
 refine⟨_,⟨?_,λi e x he hx=>?_,by rw[hz];exact h.nd,h.born,h.lt⟩,hz⟩
 ·simp[h.len]
 have hi:=(xaU.1 he).1;have LP:i<m.length:=by rw[<-h.len];exact hi
 have hm:m[i]? =some m[i]:=xaa LP;obtain⟨h1,z,h2⟩:=h.key i e _ he hm;have hx':x=(m[i].1,zOf e.val):=by
  have e1:es.toList[i]? =some e:=by rw[xbf];exact he
  rw[xat,(List.getElem?_zip_eq_some (z:=(e,m[i]))).2 ⟨e1,hm⟩]at hx;simpa using hx.symm
 subst hx';exact⟨h1,by rw[h2];rfl⟩
theorem Own.sub{g:Gh}{H:Hp}{w:World}(h:Own g H w){y:Nat×Obj}(hy:y∈H):Own g [y] w:=by
 obtain⟨X,Y,rfl⟩:=xde hy;exact(h.perm xaT).left (A:=[y])
noncomputable abbrev FF:Func:=Tryz.f298
theorem six{i:Nat}(hi:i<6):¬Rk .any (pz FF 10) i 6:=λh=>by
 have e6:(pz FF 10)[6]? =some (fi FF 10 6):=by kernel_rfl
 have:=h _ e6;have hm:(⟨i,.phase⟩:Edge)∈(fi FF 10 6).after:=by
  have ea:(fi FF 10 6).after=#[⟨0,.data⟩,⟨5,.data⟩,⟨3,.data⟩,⟨4,.chain⟩,⟨0,.phase⟩,⟨1,.phase⟩,⟨2,.phase⟩,⟨3,.phase⟩,⟨4,.phase⟩,⟨5,.phase⟩]:=by kernel_rfl
  rw[ea];rcases i with _|_|_|_|_|_|i;all_goals first|omega|simp
 exact this _ hm rfl rfl
end
section
def Mc(ops:Array Oper)(listed:Array Bool):Bool:=(List.range ops.size).all λj=>match ops[j]? with
 |some oj=> !listed.getD j true||oj.after.toList.all λe=> !Region.binds .any e||listed.getD e.on true
 |none=>true
theorem gZ{ops:Array Oper}{listed:Array Bool}(h:Mc ops listed=true):fw .any ops listed:=by
 intro j oj hj hl e he hb;unfold Mc at h;have h1:=xc6.1 h j (xaM.2 (xaU.1 hj).1);simp only[hj,hl,xcy,xdA]at h1;have h2:=xc6.1 h1 e (xc2.2 he);rw[hb]at h2;simpa using h2
theorem VZ{g:Gh}{mb nb:Nat}{es:Array MapEntry}{ck:Nat}{ks:List Nd}{d:Nd}(hmk:xu es ck ks){c:Obj->Hp}(Sw:∀o o',dg mb o o' (c o) (c o'))(hcn:∀o,(nb,Obj.cells (bB d).toArray 226 zZ)∈c o){K:Hp->Prop}
 (hk:∀es' bD,xu es' bD (if d∈ks then ks else ks++[d])->K (c (.map es' bD))):
  aaw zQ g 10 (pz FF 10) [7,11] [.map (some mb),ptr nb] (c (.map es ck)) K:=by
 have hm:(mb,Obj.map es ck)∈c (.map es ck):=(Sw _ (.map es ck)).mem;have hn:=hcn (.map es ck);obtain⟨m,hE,rfl⟩:=hmk;intro a w hok hvs hw;simp only[xaC,xb9,xax,xa0]at hvs;obtain⟨h7,h11⟩:=hvs;obtain⟨n,hnn⟩:∃n,n=a.tmps.size:=⟨_,rfl⟩;obtain⟨fr,hfr⟩:∃fr:Fr,fr=λs=>a.tmps.getD s undef:=⟨_,rfl⟩;have ha:cE a.defers n a fr:=⟨rfl,hnn.symm,λs=>by rw[hfr]⟩;have f7:fr 7=.map (some mb):=by rw[hfr];exact h7
 have f11:fr 11=ptr nb:=by rw[hfr];exact h11
 rw[<-hnn]at hok;have eok:jd n (pz FF 10).toList=(Nat.blt 58 n&& (Nat.blt 59 n&& (Nat.blt 60 n&& (Nat.blt 61 n&& (Nat.blt 62 n&& (Nat.blt 63 n&& (true&&true))))))):=by kernel_rfl
 rw[eok]at hok;simp only[xay,xdW]at hok;obtain⟨k58,k59,k60,k61,k62,k63⟩:=hok;refine wp_region_any zK ?_;obtain⟨z0,XS⟩:∃z0:Int,z0=(aG m d).getD 0:=⟨_,rfl⟩;obtain⟨S0,SO⟩:∃S0:World->Prop,S0=λw=>Own g [(nb,Obj.cells (bB d).toArray 226 zZ)] w/\(Instr.lookup 429 (.map (some mb)) (nK d) false).run zQ w=.ok (iv z0) w:=⟨_,rfl⟩;have look:∀{es':Array MapEntry} {bD:Nat} {m':List (Nd×Int)} {H':Hp} {w':World},aD nK vrZ es' bD m'->(mb,Obj.map es' bD)∈H'->Own g H' w'->(aG m' d).getD 0=z0->(Instr.lookup 429 (.map (some mb)) (nK d) false).run zQ w'=.ok (iv z0) w':=by
  intro es' bD m' H' w' h1 h2 h3 h4;have hL:kg zQ 226 (iv 0) false H' (.map (some mb)) (nK d) (· =iv z0):=by
   cases hg:aG m' d with
   |some z=>exact aD.Gu (ke:=nK) (k:=d) ru mV h1 h2 hg (by rintro v rfl;rw[hg]at h4;simp at h4;rw[h4];rfl)
   |none=>exact aD.vV (ke:=nK) (k:=d) ru mV h1 h2 hg (by rw[hg]at h4;simp at h4;rw[<-h4];rfl)
  obtain⟨v,hr,rfl⟩:=hL.run (P:=zQ) h3 (t:=429) (kt:=226) (e:=3) (kd:=.struct (Tryz.prog.fieldsOf 226)) (i:=(Tryz.prog.info? 3).get zK) zK Lz rfl zK zK;exact hr
 have Uj:=hw.z9;have s0:S0 {w with drawn:=w.drawn+1}:=by rw[SO];exact⟨Own.sub Uj hn,look hE hm Uj XS.symm⟩
 have hQp:∀{o:Oper} {v:zV} (c:List PanicEntry) (a':Act) (w':World),(λ(e:Exit) (a':Act) (w':World)=>e=.normal/\a'.defers=a.defers/\a'.tmps.size=a.tmps.size/\(∀s,bQ (pz FF 10).toList s=false->a'.tmps.getD s undef=a.tmps.getD s undef)/\∃H',Own g H' w'/\K H') (.panic c) (a'.put o.dst v) w'->
   (λ(e:Exit) (a':Act) (w':World)=>e=.normal/\a'.defers=a.defers/\a'.tmps.size=a.tmps.size/\(∀s,bQ (pz FF 10).toList s=false->a'.tmps.getD s undef=a.tmps.getD s undef)/\∃H',Own g H' w'/\K H') (.panic c) a' w':=by
  rintro _ _ _ _ _ ⟨h,_⟩;cases h
 have hsel:Region.noSelect (pz FF 10)=true:=by kernel_rfl
 have hkeep:∀i,i<6->∀(j:Nat) (oj:Oper) (w w':World),(pz FF 10)[j]? =some oj->j≠i->¬ou .any (pz FF 10) i j->S0 w->(j≠6->S0 w->S0 w')->S0 w':=λi hi j oj w w' _ _ hno h0 hs=>by
  by_cases e:j=6
  ·subst e;exact absurd (λoj js e he hb heq=>hno (.one js he hb heq)) (six hi)
  exact hs e h0
 refine di.any (S:=λj w w'=>j≠6->S0 w->S0 w') ?_;have hsz:(pz FF 10).size=7:=by kernel_rfl
 rw[hsz];refine di.take (gZ zK) (S0:=S0) (i:=0) (oi:=fi FF 10 0) (v:=.map (some mb)) zK hsel zK zK hQp (λ_ h _ _=>h) (hkeep 0 zD) (.inl ⟨rfl,λw hw=>?_⟩) s0 ?_
 ·rw[ha.eval];have:(execOp (ev fr) (fi FF 10 0))=pure (.value (fr 7)):=rfl
  rw[this,f7];rfl
 have uy:=ha.put (d:=some 58) k58 (.map (some mb));change di _ _ _ _ _ 6 _ (a.put (some 58) (.map (some mb))) _;refine di.take (gZ zK) (S0:=S0) (i:=1) (oi:=fi FF 10 1) (v:=nK d) zK hsel zK zK hQp (λ_ h _ _=>h) (hkeep 1 zD) (.inl ⟨rfl,λw hw=>?_⟩) s0 ?_
 ·rw[uy.eval];have e:AZ zQ g (fi FF 10 1) (ev (bt fr (some 58) (.map (some mb)))) [(nb,Obj.cells (bB d).toArray 226 zZ)] (λv=>v=nK d)=az 3 [(nb,Obj.cells (bB d).toArray 226 zZ)] (fr 11) (λv=>v=nK d):=by kernel_rfl
  obtain⟨v,rfl,hr,_⟩:=oV (e.mpr (by rw[f11];exact az.q rfl));rw[SO]at hw;exact hr _ hw.1
 have qz:=uy.put (d:=some 59) k59 (nK d);change di _ _ _ _ _ 5 _ ((a.put (some 58) (.map (some mb))).put (some 59) (nK d)) _;refine di.take (gZ zK) (S0:=S0) (i:=2) (oi:=fi FF 10 2) (v:=iv z0) zK hsel zK zK hQp (λ_ h _ _=>h) (hkeep 2 zD) (.inl ⟨rfl,λw hw=>?_⟩) s0 ?_
 ·rw[qz.eval];have e:execOp (ev (bt (bt fr (some 58) (.map (some mb))) (some 59) (nK d))) (fi FF 10 2)=(do pure (.value (<-Instr.lookup 429 (.map (some mb)) (nK d) false))):=rfl;rw[SO]at hw;rw[e];simp only[Sem.run_bind,hw.2,Result.andThen_ok,Sem.run_pure]
 have uM:=qz.put (d:=some 60) k60 (iv z0);change di _ _ _ _ _ 4 _ (((a.put (some 58) (.map (some mb))).put (some 59) (nK d)).put (some 60) (iv z0)) _;refine di.take (gZ zK) (S0:=S0) (i:=3) (oi:=fi FF 10 3) (v:=iv (IntKind.i64.wrap (z0+1))) zK hsel zK zK hQp (λ_ h _ _=>h) (hkeep 3 zD) (.inl ⟨rfl,λw hw=>?_⟩) s0 ?_
 ·rw[uM.eval];have e:AZ zQ g (fi FF 10 3) (ev (bt (bt (bt fr (some 58) (.map (some mb))) (some 59) (nK d)) (some 60) (iv z0))) [(nb,Obj.cells (bB d).toArray 226 zZ)] (λv=>v=iv (IntKind.i64.wrap (z0+1)))=ae .num .add (iv z0) (iv 1) (λv=>v=iv (IntKind.i64.wrap (z0+1))):=by kernel_rfl
  obtain⟨v,rfl,hr,_⟩:=oV (e.mpr (ae.add rfl));rw[SO]at hw;exact hr _ hw.1
 have GH:=uM.put (d:=some 61) k61 (iv (IntKind.i64.wrap (z0+1)));change di _ _ _ _ _ 3 _ ((((a.put (some 58) (.map (some mb))).put (some 59) (nK d)).put (some 60) (iv z0)).put (some 61) (iv (IntKind.i64.wrap (z0+1)))) _;generalize (((a.put (some 58) (.map (some mb))).put (some 59) (nK d)).put (some 60) (iv z0)).put (some 61) (iv (IntKind.i64.wrap (z0+1)))=a4 at GH;refine di.all (rs:=[4]) zK zI λi hi=>?_;simp only[xaz]at hi;subst hi;have e4:(pz FF 10)[4]? =some (fi FF 10 4):=by kernel_rfl
 unfold wpOp;rw[e4];simp only;rw[xae (show Region.wanted (fi FF 10 4) (yielded (pz FF 10) a4.tmps)=true from rfl)];refine .inl ?_;show(fi FF 10 4).upon zQ a4 _ _ ((execOp a4.eval (fi FF 10 4)).run zQ _);rw[GH.eval];refine oE.upon (g:=g) (KP:=λ_ _=>False) (aD.WY (K:=λv H'=>∃es' bD v0 st,aD nK vrZ es' bD (if d∈m.map Prod.fst then m else m++[(d,0)])/\(∃e∈es'.toList,e.born=st)/\H'=c (.map es' bD)/\v=.tuple #[v0,iv (st:Int)])
  (t:=429) (kt:=226) (e:=3) (z:=iv 0) (k:=d) (y0:=(0:Int)) ru mV LC (o:=fi FF 10 4) (mo:=.tmp 58) (ko:=.tmp 59) rfl rfl rfl zK Lz rfl zK rfl hE Sw
  (λes' bD v st h1 h2=>⟨es',bD,v,st,h1,h2,rfl,rfl⟩) _ Uj) ?_ (λ_ _ _ _ h=>h.elim)
 rintro v H1 w1 jg ⟨kE,jT,v0,st,Ut,hst,rfl,rfl⟩;have Um:(nb,Obj.cells (bB d).toArray 226 zZ)∈c (.map kE jT):=hcn _;have uu:(mb,Obj.map kE jT)∈c (.map kE jT):=(Sw _ (.map kE jT)).mem;have s1:S0 w1:=by
  rw[SO];refine⟨Own.sub jg Um,look Ut uu jg ?_⟩;rw[XS];split
  ·rfl
  rename_i dR;have e1:=iB.2 dR;have e2:aG (m++[(d,0)]) d=some 0:=(dX (by
   have:=Ut.nd;rw[xac dR]at this;exact this)).2 zI
  rw[e1,e2];rfl
 refine⟨λ_ _=>s1,?_⟩;have GG:=GH.put (d:=some 62) k62 (.tuple #[v0,iv (st:Int)]);change di _ _ _ _ _ 2 _ (a4.put (some 62) (.tuple #[v0,iv (st:Int)])) _;generalize a4.put (some 62) (.tuple #[v0,iv (st:Int)])=a5 at GG;refine di.take (gZ zK) (S0:=S0) (i:=5) (oi:=fi FF 10 5) (v:=iv (st:Int)) zK hsel zK zK hQp (λ_ h _ _=>h) (hkeep 5 zD) (.inl ⟨rfl,λw hw=>?_⟩) s1 ?_
 ·rw[GG.eval];obtain⟨v,rfl,hr,_⟩:=oV (P:=zQ) (g:=g) (o:=fi FF 10 5) (H:=[(nb,Obj.cells (bB d).toArray 226 zZ)]) (k:=λv=>v=iv (st:Int))
   (ρ:=ev (bt (bt (bt (bt (bt fr (some 58) (.map (some mb))) (some 59) (nK d)) (some 60) (iv z0)) (some 61) (iv (IntKind.i64.wrap (z0+1)))) (some 62) (.tuple #[v0,iv (st:Int)]))) ⟨_,_,rfl,rfl,rfl⟩
  rw[SO]at hw;exact hr _ hw.1
 have GF:=GG.put (d:=some 63) k63 (iv (st:Int));change di _ _ _ _ _ 1 _ (a5.put (some 63) (iv (st:Int))) _;generalize a5.put (some 63) (iv (st:Int))=a6 at GF;refine di.all (rs:=[6]) zK zI λi hi=>?_;simp only[xaz]at hi;subst hi;have e6:(pz FF 10)[6]? =some (fi FF 10 6):=by kernel_rfl
 unfold wpOp;rw[e6];simp only;rw[xae (show Region.wanted (fi FF 10 6) (yielded (pz FF 10) a6.tmps)=true from rfl)];refine .inl ?_;show(fi FF 10 6).upon zQ a6 _ _ ((execOp a6.eval (fi FF 10 6)).run zQ _);rw[GF.eval];refine oE.upon (g:=g) (KP:=λ_ _=>False) (aD.UU (vr:=λv _=>∃z:Int,v=iv z) (K:=λ_ H'=>∃es',aD nK (λv _=>∃z:Int,v=iv z) es' jT (if d∈m.map Prod.fst then m else m++[(d,0)])/\H'=c (.map es' jT))
  (o:=fi FF 10 6) (t:=429) (mo:=.tmp 58) (so:=.tmp 63) (xo:=.tmp 61) rfl rfl rfl (Ut.mono λv z h=>⟨z,h⟩) hst (λ_=>⟨_,rfl⟩) Sw
  (λes' h1=>⟨es',h1,rfl⟩) _ jg) ?_ (λ_ _ _ _ h=>h.elim)
 rintro v H2 w2 o6 ⟨gV,sW,rfl⟩;refine⟨λh=>absurd rfl h,?_⟩;have Wx:cE a.defers n a6 _:=GF;change di _ _ _ _ _ 0 _ a6 _;refine di.done zK ⟨rfl,Wx.defers,by rw[Wx.size,hnn],λs hs=>?_,_,o6,hk gV jT ?_⟩ 0
 ·have eD:bQ (pz FF 10).toList s=(Nat.beq s 58||(Nat.beq s 59||(Nat.beq s 60||(Nat.beq s 61||(Nat.beq s 62||(Nat.beq s 63||(false||false))))))):=by kernel_rfl
  rw[eD]at hs;simp only[xaG]at hs;rw[Wx.get];simp only[bt,hs,xag];rw[hfr]
 have:=xu.of sW;have e:(if d∈m.map Prod.fst then m else m++[(d,(0:Int))]).map Prod.fst=if d∈m.map Prod.fst then m.map Prod.fst else m.map Prod.fst++[d]:=by
  split<;>simp
 rw[e]at this;exact this
end
section
variable {kp:Nat} {K:Kd} {ord ah tr:zL} {C:Hp} {S:Nat->ax.Fn}
theorem TD{H:Hp}(a b:Nd){K:zV->Hp->Prop}(h:∀x,K (.slice (some ⟨x,0,none⟩) 2 2) ((x,.cells (rows [bB a,bB b]) 226 zZ)::H)):
  au zQ 309 2 [(0,nK a),(1,nK b)] H K:=by
 refine⟨rows [bB a,bB b],226,3,.agg #[iv 0,.int .u32 0,.int .u32 0],by kernel_rfl,by kernel_rfl,by kernel_rfl,by decide,?_,λx _=>h x⟩;have e1:Array.range (2*3)=#[0,1,2,3,4,5]:=rfl;simp[Instr.fill,Value.cells,nK,bB,e1,rows,u32]
def iK(K:Kd)(x:Nat)(l:List Cx)(ks:List Nd)(m:List Nd):Prop:=m.Nodup/\∀k,k∈m↔((∃c∈l,k∈keys x c)\/k∈ks)/\K.T k=none/\k.lo≠k.hi
theorem iK.step{x:Nat}{l:List Cx}{ks m:List Nd}{d:Nd}(h:iK K x l ks m)(hd:K.T d=none/\d.lo≠d.hi):iK K x l (ks++[d]) (if d∈m then m else m++[d]):=by
 obtain⟨h1,h2⟩:=h;constructor
 ·split
  ·exact h1
  rename_i hn;exact xa2.2 ⟨h1,by simp,λa ha b hb e=>by simp at hb;subst hb;subst e;exact hn ha⟩
 intro k;by_cases hm:d∈m
 ·rw[xae hm,h2,xan,xaz];constructor
  ·rintro⟨h3|h3,h4⟩
   ·exact⟨.inl h3,h4⟩
   exact⟨.inr (.inl h3),h4⟩
  rintro⟨h3|h3|rfl,h4⟩
  ·exact⟨.inl h3,h4⟩
  ·exact⟨.inr h3,h4⟩
  exact(h2 _).1 hm
 rw[xac hm,xan,xaz,h2,xan,xaz];constructor
 ·rintro(⟨h3|h3,h4⟩|rfl)
  ·exact⟨.inl h3,h4⟩
  ·exact⟨.inr (.inl h3),h4⟩
  exact⟨.inr (.inr rfl),hd⟩
 rintro⟨h3|h3|rfl,h4⟩
 ·exact .inl ⟨.inl h3,h4⟩
 ·exact .inl ⟨.inr h3,h4⟩
 exact .inr rfl
theorem iK.skip{x:Nat}{l:List Cx}{ks m:List Nd}{d:Nd}(h:iK K x l ks m)(hd:¬(K.T d=none/\d.lo≠d.hi)):iK K x l (ks++[d]) m:=by
 obtain⟨h1,h2⟩:=h;refine⟨h1,λk=>?_⟩;rw[h2,xan,xaz];constructor
 ·rintro⟨h3|h3,h4⟩
  ·exact⟨.inl h3,h4⟩
  exact⟨.inr (.inl h3),h4⟩
 rintro⟨h3|h3|rfl,h4⟩
 ·exact⟨.inl h3,h4⟩
 ·exact⟨.inr h3,h4⟩
 exact absurd h4 hd
theorem iK.AE{x:Nat}{l:List Cx}{c:Cx}{m:List Nd}(h:iK K x l (keys x c) m):iK K x (l++[c]) [] m:=by
 obtain⟨h1,h2⟩:=h;refine⟨h1,λk=>?_⟩;rw[h2];constructor
 ·rintro⟨⟨c',hc,hk⟩|h3,h4⟩
  ·exact⟨.inl ⟨c',xad _ hc,hk⟩,h4⟩
  exact⟨.inl ⟨c,by simp,h3⟩,h4⟩
 rintro⟨⟨c',hc,hk⟩|h3,h4⟩
 ·rcases xan.1 hc with hc|hc
  ·exact⟨.inl ⟨c',hc,hk⟩,h4⟩
  simp at hc;subst hc;exact⟨.inr hk,h4⟩
 cases h3
theorem S7(h:cW kp K ord ah tr C){x:Nat}(hx:x<K.n){v:zV}{all:List Cx}{Na:Hp}(ha:aV 367 8 v (all.map mE) Na)(hlen:all.length<=1048576):
  Rd zQ 298 #[ptr kp,iv (x:Int),v] (Na++C) (λr=>∃made,r=iv ((made.length:Nat):Int)/\Made K x all made):=by
 have h0:=h;obtain⟨b,hC,hO⟩:=h;refine aE λg=>IL λmb _=>?_;refine ha.bP ?_;rw[xav];refine⟨λvs H=>∃(i:Nat) (es:Array MapEntry) (ck:Nat) (m:List Nd),vs=[iv (i:Int)]/\H=(mb,.map es ck)::(Na++C)/\i<=all.length/\xu es ck m/\iK K x (all.take i) [] m,
  λvs _=>all.length-bJ vs 0,JE.mk ⟨0,_,_,[],rfl,rfl,xaO _,xu.empty,by simp,by simp⟩,?_⟩
 rintro w H ⟨i,es,ck,m,hw,rfl,hi,hmk,Wj⟩ gs;simp only[xax,xa0]at hw;subst hw;refine ae.eZ (Br.dec (λhlt=>?_) (λhge=>?_));rotate_left
 ·have:i=all.length:=by omega
  subst this;rw[xbm]at Wj;obtain⟨m',he,rfl⟩:=hmk;refine aD.Rx he (.head _) ?_;refine br.mk .tail ⟨m'.map Prod.fst,by rw[xav],Wj.1,λk=>?_⟩;rw[Wj.2];constructor
  ·rintro⟨h3|h3,h4⟩
   ·exact⟨h3,h4⟩
   cases h3
  rintro⟨h3,h4⟩;exact⟨.inl h3,h4⟩
 obtain⟨c,pO⟩:∃c,all[i]? =some c:=⟨_,xaa hlt⟩;have nA:all.take (i+1)=all.take i++[c]:=by rw[xbs,pO];rfl
 refine ha.DA (r:=mE c) (by rw[xat,pO];rfl) (λy hy=>.tail _ (xad _ hy)) ?_;intro Uw _;refine St.p (mq _) ?_;refine Ld.f ?_;refine Ld.f ?_;refine Build.mk (cs:=bB ⟨x,c.yu,c.tZ⟩) zK (Ld.f ?_);refine Ld.f ?_;refine Build.mk (cs:=bB ⟨x,c.yq,c.tY⟩) zK (TD _ _ λxb=>?_);refine aR.mk ?_;refine⟨λvs H=>∃(j:Nat) (es:Array MapEntry) (ck:Nat) (m:List Nd),vs=[iv (j:Int)]/\H=(xb,.cells (rows [bB ⟨x,c.yu,c.tZ⟩,bB ⟨x,c.yq,c.tY⟩]) 226 zZ)::(mb,.map es ck)::(Na++C)/\j<=2/\xu es ck m/\iK K x (all.take i) ((keys x c).take j) m,
  λvs _=>2-bJ vs 0,JE.of (.cons .tail) ⟨0,es,ck,m,rfl,rfl,xaO _,hmk,Wj⟩,?_⟩
 clear hmk Wj;rintro w H ⟨j,es,ck,m,hw,rfl,hj,hmk,Wj⟩ gs;simp only[xax,xa0]at hw;subst hw;refine ae.eZ (b:=2) (Br.dec (λqy=>?_) (λhge=>?_));rotate_left
 ·have:j=2:=by omega
  subst this;refine ae.inc (aC.of .tail ⟨i+1,es,ck,m,rfl,rfl,by omega,hmk,?_⟩ (by simp[bJ];omega));rw[nA];exact iK.AE Wj
 obtain⟨d,GA,lj⟩:∃d,(keys x c)[j]? =some d/\d.v=x:=by
  rcases j with _|_|j
  ·exact⟨_,rfl,rfl⟩
  ·exact⟨_,rfl,rfl⟩
  omega
 have htj:(keys x c).take (j+1)=(keys x c).take j++[d]:=by rw[xbs,GA];rfl
 have hrow:[bB ⟨x,c.yu,c.tZ⟩,bB ⟨x,c.yq,c.tY⟩][j]? =some (bB d):=by
  have:[bB ⟨x,c.yu,c.tZ⟩,bB ⟨x,c.yq,c.tY⟩]=(keys x c).map bB:=rfl;rw[this,xat,GA];rfl
 intro J34 ahb;have next:∀es' bD m' H',xu es' bD m'->iK K x (all.take i) ((keys x c).take (j+1)) m'->aN H' ((xb,.cells (rows [bB ⟨x,c.yu,c.tZ⟩,bB ⟨x,c.yq,c.tY⟩]) 226 zZ)::(mb,.map es' bD)::(Na++C))->JE J34 [] H':=λes' bD m' H' h1 h2 h3=>
  JE.mk (ahb _ λgs=>ae.inc (aC.of h3 ⟨j+1,es',bD,m',rfl,rfl,by omega,h1,h2⟩ (by simp[bJ];omega)))
 refine av.nat qy ?_;have hmem:(xb,Obj.cells (rows [bB ⟨x,c.yu,c.tZ⟩,bB ⟨x,c.yq,c.tY⟩]) 226 zZ)∈(xb,Obj.cells (rows [bB ⟨x,c.yu,c.tZ⟩,bB ⟨x,c.yq,c.tY⟩]) 226 zZ)::(mb,.map es ck)::(Na++C):=.head _;refine az.row (k:=3) hmem (by simp[bB]) hrow ?_;intro b40 _;refine St.p (λz hz=>by simp[bB,u32]at hz;rcases hz with rfl|rfl|rfl<;>rfl) ?_;refine DR.self ?_;rw[hC];refine Nil.ptr (ai.mk (Ld.f ?_));refine az.q ?_;refine aa.eq (uP (d:=d) hO.ut (by rw[lj];exact hx)) (⟨.refl _,Ext.mk rfl (Ext.mk rfl (Un.not ?_))⟩);have XW:(!(K.T d).isSome)=decide (K.T d=none):=by cases K.T d<;>simp
 rw[XW];refine cm.and (decide (d.lo≠d.hi)) (λ_=>?_) rfl λgs=>?_
 ·refine Ld.f ?_;refine Ld.f ?_;exact ae.xU ⟨rfl,rfl⟩
 rw[<-xdG];rw[<-hC];refine Br.dec (λhd=>?_) (λhd=>?_)
 ·refine VZ hmk (c:=λo=>(b40,.cells (bB d).toArray 226 zZ)::(xb,.cells (rows [bB ⟨x,c.yu,c.tZ⟩,bB ⟨x,c.yq,c.tY⟩]) 226 zZ)::(mb,o)::(Na++C)) (λo o'=>.tail (.tail (.head _))) (λo=>.head _) λes' bD h1 gs=>?_;exact next es' bD _ _ h1 (by rw[htj];exact Wj.step hd) .tail
 exact next es ck m _ hmk (by rw[htj];exact Wj.skip hd) .tail
end
def kB(l:List Cx):Nat->Nat:=λs=>(l.map λc=>e1 (some c.d) s).sum
theorem oT(c:Cx)(l:List Cx)(s:Nat):kB (c::l) s=e1 (some c.d) s+kB l s:=by simp[kB]
theorem Nu(c:Cx)(l:List Cx)(s:Nat):kB (l++[c]) s=kB l s+e1 (some c.d) s:=by simp[kB]
theorem adO(d:Nd)(s:Nat):e1 (some d) s<=2:=by rw[eC];split<;>split<;>omega
theorem AX(s:Nat):∀l:List Cx,kB l s<=2*l.length
 | []=>xai _
 |c::l=>by rw[oT,xaB];have:=AX s l;have:=adO c.d s;omega
theorem CZ{s:Nat}:∀{l:List Cx},0<kB l s->∃c∈l,c.d.lo=s\/c.d.hi=s
 | [],h=>by simp[kB]at h
 |c::l,h=>by
  rw[oT]at h;by_cases h0:0<e1 (some c.d) s
  ·refine⟨c,by simp,?_⟩;rw[eC]at h0;by_cases h1:c.d.lo=s
   ·exact .inl h1
   by_cases h2:c.d.hi=s
   ·exact .inr h2
   simp[h1,h2]at h0
  obtain⟨c',hc,h1⟩:=CZ (s:=s) (l:=l) zO;exact⟨c',by simp[hc],h1⟩
theorem Lt{s:Nat}{c:Cx}(hs:c.d.lo=s\/c.d.hi=s):∀{l:List Cx},c∈l->0<kB l s
 |c'::l,h=>by
  rw[oT];rcases xal.1 h with rfl|h
  ·rw[eC];rcases hs with hs|hs
   ·rw[xae hs];omega
   rw[xae hs];omega
  have:=Lt hs h;omega
def Idle(K:Kd):Prop:=∀s,K.N s=none->K.use s=0
theorem uZ{K:Kd}{S:Nat->ax.Fn}{E:Nat->Prop}{P:Nat->Nat}(hm:jU K S E P)(hi:Idle K){M:Nat}(hP:∀s,P s<=M)(s:Nat):K.use s<=2097153+M:=by
 cases h:K.N s with
 |none=>rw[hi s h];omega
 |some d=>
  rw[hm.use h];have:=Ef (N:=K.N) (r:=s) K.cap;have:=hm.cap.2;have:=hP s;split<;>omega
section
variable {kp:Nat} {K K0:Kd} {ord ah tr:zL} {C:Hp} {S S0:Nat->ax.Fn} {si:Nat->Nat} {x y l:Nat} {all done rest:List Cx} {made:List Nd} {P:Nat->Nat}
theorem SX(b:TB K0 S0 si x y l all made)(h:cW kp K ord ah tr C)(ht:TI K0 S0 si x y l made K S done rest P)(hd:∀c∈done,c∈all)(hr:∀c∈rest,c∈all){c:Cx}(hc:c∈all){k:Nd}(hk:k∈keys x c)
 (PV:PL P K.N)(Sg:Idle K)(hP:∀s,P s<=4194304):
  Fc zQ 299 #[ptr kp,iv (k.v:Int),u32 k.lo,u32 k.hi] C (λv C'=>∃r K' S',v=u32 r/\cW kp K' ord ah tr C'/\TI K0 S0 si x y l made K' S' done rest P/\yE K0 K' si x l r/\
   ((k.lo=k.hi/\r=k.lo)\/K'.N r=some k)/\PL P K'.N/\Idle K'/\(∀s d,K.N s=some d->K'.N s=some d)/\(∀s d,K'.N s=some d->s=r\/(K.N s=some d/\K.use s<=K'.use s))):=by
 have sR:K.n<=64:=by obtain⟨_,_,hO⟩:=h;exact hO.lY
 have j7:=b.VG hc;have hkv:k.v=x/\ud K0 si l k.lo/\ud K0 si l k.hi:=by
  simp only[keys,xal,xaQ,xbH]at hk;rcases hk with rfl|rfl
  ·exact⟨rfl,j7.1.1,j7.1.2⟩
  exact⟨rfl,j7.2.1,j7.2.2⟩
 have DS:=ht.rF b hd hkv.2.1;have qR:=ht.rF b hd hkv.2.2;have hxn:k.v<K.n:=by rw[hkv.1,ht.n];exact b.nb.xn
 by_cases he:k.lo=k.hi
 ·refine Fc.mono (by rw[<-he];exact WJ C _ k.lo _) ?_;rintro v C' ⟨rfl,rfl⟩;exact⟨k.lo,K,S,rfl,h,ht,.inl hkv.2.1,.inl ⟨he,rfl⟩,PV,Sg,λ_ _ h=>h,λs d h=>.inr ⟨h,xai _⟩⟩
 cases hT:K.T k with
 |some r=>
  obtain⟨h1,h2⟩:=ht.found b hc hk hT;refine Fc.mono (WL h he hxn hT) ?_;rintro v C' ⟨rfl,rfl⟩;exact⟨r,K,S,rfl,h,ht,h2,.inr h1,PV,Sg,λ_ _ h=>h,λs d h=>.inr ⟨h,xai _⟩⟩
 |none=>
  have hfit:∀{t:Nat},live K.N t->t<2\/t<K.us.length:=λht'=>by
   rcases ht' with ht'|⟨d,dR⟩
   ·exact .inl ht'
   exact .inr (ht.mid.fit dR)
  have hkm:=ht.RQ b hd hr hc hk he hkv.2.1 hkv.2.2 hT;refine Fc.mono (WK h (d:=k) he ⟨by omega,DS,qR⟩ hxn hT (ht.fits b hkm hT) (hfit DS) (hfit qR) (λs=>by have:=uZ ht.mid Sg hP s;omega)) ?_;rintro v C' ⟨r,dG,cC,rfl,hN,h2,hrc,hlen,hru,NU,u0,u1,u2,o0,o1,dk⟩;have hPr:P r=0:=by
   apply xdF;intro hne;obtain⟨d,dR⟩:=PV r h2 zO;rw[hN]at dR;cases dR
  obtain⟨g1,g2⟩:=ht.lay b hd hr hc hk he hT hN ⟨h2,hrc⟩ hlen ⟨hru,NU⟩ u0 u1 o0 o1 hPr;have hup:∀s d,K.N s=some d->up K.N r (some k) s=some d:=λs d hs=>by
   rw[aS (λe=>by rw[e,hN]at hs;cases hs)];exact hs
  refine⟨r,_,_,rfl,dk,g1,g2,.inr aO,λt SU h0=>?_,λs hs=>?_,hup,λs d hs=>?_⟩
  ·obtain⟨d,dR⟩:=PV t SU h0;exact⟨d,hup t d dR⟩
  ·have hs':up K.N r (some k) s=none:=hs;have hne:s≠r:=λe=>by subst e;rw[aO]at hs';cases hs'
   rw[aS hne]at hs';show dG.getD s 0=0;by_cases h2s:2<=s
   ·rw[u1 s h2s hne,Sg s hs',eC];have a1:k.lo≠s:=λe=>by
     rcases DS with h5|⟨d,h5⟩
     ·omega
     rw[e,hs']at h5;cases h5
    have a2:k.hi≠s:=λe=>by
     rcases qR with h5|⟨d,h5⟩
     ·omega
     rw[e,hs']at h5;cases h5
    simp[a1,a2]
   rw[u2 s zO,Sg s hs']
  have hs':up K.N r (some k) s=some d:=hs;by_cases e:s=r
  ·exact .inl e
  rw[aS e]at hs';refine .inr ⟨hs',?_⟩;show K.use s<=dG.getD s 0;rw[u1 s (ht.mid.two hs').1 e];omega
theorem Qc(h:cW kp K ord ah tr C)(ht:TI K0 S0 si x y l made K S done rest P)(PV:PL P K.N)(Sg:Idle K)(hP:∀s,P s<=4194304){r:Nat}(hr:live K.N r):
  Fc zQ 300 #[ptr kp,u32 r] C (λv C'=>∃K',v=.tuple #[]/\cW kp K' ord ah tr C'/\TI K0 S0 si x y l made K' S done rest (λs=>P s+if s=r then 1 else 0)/\PL (λs=>P s+if s=r then 1 else 0) K'.N/\Idle K'/\
   K'.N=K.N/\(∀s,K.use s<=K'.use s)/\(2<=r->0<K'.use r)):=by
 have hfit:r<2\/r<K.us.length:=by
  rcases hr with hr|⟨d,hd⟩
  ·exact .inl hr
  exact .inr (ht.mid.fit hd)
 refine Fc.mono (Fl h hfit (by have:=uZ ht.mid Sg hP r;omega)) ?_;rintro v C' ⟨rfl,dk⟩;by_cases h2:2<=r
 ·have hrd:∃d,K.N r=some d:=by
   rcases hr with hr|hr
   ·omega
   exact hr
  have hlt:r<K.us.length:=by omega
  refine⟨_,rfl,dk,(ht.use (jy r) (nJ h2 hlt) (λs hs=>u3 hs)).congr (λs _=>?_),λt SU h0=>?_,λs hs=>?_,rfl,λs=>?_,λ_=>?_⟩
  ·unfold up;split
   ·rename_i e;subst e;rfl
   rfl
  ·by_cases e:t=r
   ·subst e;exact hrd
   simp[e]at h0;exact PV t SU h0
  ·show(tx K r).getD s 0=0;have hne:s≠r:=λe=>by
    obtain⟨d,hd⟩:=hrd;have hs':K.N s=none:=hs;rw[e,hd]at hs';cases hs'
   rw[u3 hne];exact Sg s hs
  ·show K.use s<=(tx K r).getD s 0;by_cases e:s=r
   ·subst e;rw[nJ h2 hlt];omega
   rw[u3 e];exact xai _
  show 0<(tx K r).getD r 0;rw[nJ h2 hlt];omega
 have e:tx K r=K.us:=by unfold tx;rw[xae zO]
 have eK:({K with us:=tx K r}:Kd)=K:=by rw[e]
 rw[eK]at dk;refine⟨K,rfl,dk,ht.congr (λs hs=>?_),λt SU h0=>?_,Sg,rfl,λ_=>xai _,λh=>absurd h h2⟩
 ·rw[xac zO];rfl
 have h0':0<P t+if t=r then 1 else 0:=h0
 rw[xac zO]at h0';exact PV t SU h0'
theorem yE.mono{K K':Kd}(h:yE K0 K si x l y)(hm:∀s d,K.N s=some d->K'.N s=some d):yE K0 K' si x l y:=by
 rcases h with h|⟨e,h1,h2⟩
 ·exact .inl h
 exact .inr ⟨e,hm _ _ h1,h2⟩
end
section
variable {kp:Nat} {K:Kd} {ord ah tr:zL} {C:Hp} {S:Nat->ax.Fn}
structure Kept(K:Kd)(S:Nat->ax.Fn)(K':Kd)(S':Nat->ax.Fn):Prop where
 n:K'.n=K.n
 cap:K'.cap=K.cap
 hold:∀r,K'.hold r=K.hold r
 held:∀g,K'.held S' g↔K.held S g
 fn:∀r,K.hold r≠0->S' r=S r
theorem YY{x y l:Nat}(hne:x≠y)(hx:x<ah.length)(hy:y<ah.length):lv ((ah.set x (l+1)).set y l)=ug (lv ah) x y l:=by
 funext v
 show((ah.set x (l+1)).set y l).getD v 0=_;rw[gU (by simpa using hy),gU hx];unfold ug;by_cases e:v=y
 ·rw[xae e,xac (by rw[e];exact xbb hne),xae e]
 rw[xac e,xac e]
theorem Ra(c:Cx)(rest:List Cx):kB (c::rest)=gY (gY (kB rest) [c.d.hi]) [c.d.lo]:=by
 funext s
 rw[oT,eC];unfold gY;simp only[xb5,xdO,xcR];omega
theorem rE{x:Nat}{all:List Cx}{made:List Nd}(h:Made K x all made):made.length<=2*all.length:=by
 have h1:=cy (l':=all.flatMap (keys x)) h.nd λk hk=>by
  obtain⟨⟨c,hc,hk'⟩,_⟩:=(h.mem k).1 hk;exact List.mem_flatMap.2 ⟨c,hc,hk'⟩
 have h2:(all.flatMap (keys x)).length=2*all.length:=by
  clear h1 h;induction all with
  |nil=>rfl
  |cons c all ih=>rw[xem,xaf,ih,xaB];simp[keys];omega
 omega
theorem Qg{x y l:Nat}{K1:Kd}{S1:Nat->ax.Fn}{all:List Cx}{made:List Nd}(b:TB K S (lv ah) x y l all made)(h:TI K S (lv ah) x y l made K1 S1 all [] (kB all))(hnew:∀r d,K.N r=none->K1.N r=some d->0<K1.use r):Pos K1:=by
 intro r d hd;cases hN:K.N r with
 |none=>exact hnew r d hN hd
 |some d0=>
  rw[h.mid.use hd];rcases b.ok.reach r d0 hN with hh|⟨p,e,hp,PK⟩
  ·have pN:K1.hold r≠0:=by rw[h.hold];exact hh
   rw[xac pN];omega
  by_cases hm:p∈all.map Cx.r
  ·obtain⟨c,hc,rfl⟩:=xao.1 hm;have hcd:=(b.oe hc).1;rw[hp]at hcd;cases hcd;have:=Lt (s:=r) PK hc;omega
  have uK:=h.old hp hm;have:dz K1.N r K1.cap≠0:=λhe=>by
   have:=j9 he p (h.mid.two uK).2 e uK;rcases PK with PK|PK
   ·exact this.1 PK
   exact this.2 PK
  omega
theorem K8(h:cW kp K ord ah tr C)(hok:Ok K S (lv ah))(ho:Ord K.n (lv ah) ord)(Sg:Idle K){l:Nat}(hl:l+1<K.n):
  Fc zQ 211 #[ptr kp,iv (l:Int)] C (λr C'=>
   (BO K.n ord l (K.held S)+2<=K.cap/\r=.bool true/\∃K' S' bW,cW kp K' (fR ord l) bW tr C'/\Ok K' S' (lv bW)/\Ord K'.n (lv bW) (fR ord l)/\Idle K'/\Kept K S K' S')\/
   (K.cap<BO K.n ord l (K.held S)+2/\r=.bool false/\C'=C)):=by
 have h0:=h;have hcap:=h.cap;obtain⟨b,hC,hO⟩:=h;have EZ:=hO.ol;have sR:=hO.lY;have nb:=ho.nb hl;obtain⟨x,hx⟩:∃x,x=ord.getD l 0:=⟨_,rfl⟩;obtain⟨y,hy⟩:∃y,y=ord.getD (l+1) 0:=⟨_,rfl⟩;rw[<-hx,<-hy]at nb;refine aE λg=>JB ?_;have hmk:(kp,Obj.cells (b.cells K.n) 141 zZ)∈C:=by rw[hC];exact .head _
 have XV:∀z∈b.CO,z∈C:=by rw[hC];exact bH.sub (.cons (.app (.app (.app (.app .left)))))
 refine Ld.v hmk ?_;refine hO.od.ld (x:=(x:Int)) (by rw[hx];exact bI zO) XV (Ld.v hmk ?_);refine ae.inc (hO.od.ld (x:=(y:Int)) (by rw[hy];exact bI zO) XV (aa.fq (Bt h0 hok nb.xn) ?_));rintro w H ⟨all,Na,rfl,aJ,BW,hlen⟩;refine DR.self (Nil.ptr (ai.mk (aa.rq (S7 h0 nb.xn aJ hlen) ?_)));rintro w ⟨made,rfl,R6⟩;have hml:=rE R6;have LM:=hok.mid.cap;have afP:=hok.mid.room;refine aa.eq (DC h0 (m:=made.length) zO zO) ?_;have akE:BO K.n ord l (K.held S)=K.used-2+made.length:=Yy (Qh hok ho hl (by rw[<-hx,<-hy];exact BW) (by rw[<-hx];exact R6));apply Un.not;by_cases hroom:K.used+made.length<=K.cap;rotate_left
 ·rw[xak hroom];exact Br.yes (aF.mk .right (.inr ⟨by omega,rfl,rfl⟩))
 rw[xam hroom];apply Br.no;have tb:TB K S (lv ah) x y l all made:=⟨hok,nb,BW,R6,hroom⟩;have fc:=BW.nd;have hge:∀{i:Nat} {c:Cx},all[i]? =some c->c.r∉(all.take i).map Cx.r:=λ{i c} pO hm=>by
  have h1:(all.take (i+1)).map Cx.r=(all.take i).map Cx.r++[c.r]:=by rw[xbs,pO,xaH];rfl
  have h2:((all.take (i+1)).map Cx.r).Nodup:=fc.sublist ((xdS _ _).map _);rw[h1]at h2;exact(xa2.1 h2).2.2 _ hm _ zI rfl
 have nA:∀{i:Nat} {c:Cx},all[i]? =some c->all.take (i+1)=all.take i++[c]:=λpO=>by rw[xbs,pO];rfl
 have hdr:∀{i:Nat} {c:Cx},all[i]? =some c->all.drop i=c::all.drop (i+1):=λ{i c} pO=>by
  obtain⟨hi,e⟩:=xah.1 pO;rw[xbu hi,e]
 have ZB:∀{i:Nat},∀c∈all.take i,c∈all:=λc hc=>xcH hc;have hmD:∀{i:Nat},∀c∈all.drop i,c∈all:=λc hc=>List.mem_of_mem_drop hc;refine aJ.bP ?_;rw[xav];refine⟨λvs H=>∃(i:Nat) (T':Nd->Option Nat) (C1:Hp),vs=[iv (i:Int)]/\H=Na++C1/\i<=all.length/\cW kp {K with T:=T'} ord ah tr C1/\jU {K with T:=T'} S (λs=>∃c∈all.take i,s=c.r) zero'/\(∀d,T' d=none\/T' d=K.T d),
  λvs _=>all.length-bJ vs 0,JE.mk ⟨0,K.T,C,rfl,rfl,xaO _,h0,hok.mid.congr (λs=>by simp[iR]) (λ_ _=>rfl),λ_=>.inr rfl⟩,?_⟩
 rintro w H ⟨i,T',C1,hw,rfl,hi,eW,Oa,N8⟩ gs;simp only[xax,xa0]at hw;subst hw;refine ae.eZ (Br.dec (λhlt=>?_) (λSi=>?_))
 ·obtain⟨c,pO⟩:∃c,all[i]? =some c:=⟨_,xaa hlt⟩;have GB:c∈all:=xaw pO;obtain⟨Bh,acY,hce⟩:=tb.oe GB;refine aJ.DA (r:=mE c) (by rw[xat,pO];rfl) (λz hz=>xad _ hz) ?_;intro Yl _;refine St.p (mq _) ?_;obtain⟨b1,rfl,Yc⟩:=eW;refine DR.self (Nil.ptr (ai.mk (Ld.f ?_)));refine ai.mk (az.mk (vs:=(bB c.d).toArray) (.head _) (by simp[mE]) rfl ?_);have hTc:T' c.d=some c.r:=(Oa.kA c.d c.r).2 ⟨Bh,by rintro⟨c',o8,e⟩;exact hge pO (e▸xaR o8)⟩;refine aa.fq (yU (d:=c.d) Yc.ut (hok.mid.var Bh) hTc) ?_;rintro v CT' ⟨rfl,Zl⟩;refine ae.inc (aC.of .tail ⟨i+1,qP T' c.d none,_,rfl,rfl,by omega,⟨{b1 with CT:=CT'},rfl,{Yc with ut:=Zl}⟩,(Oa.ago (r:=c.r) (d:=c.d) Bh ?_).congr (λs=>?_) (λ_ _=>rfl),λd=>?_⟩ (by simp[bJ];omega))
  ·rintro⟨c',o8,e⟩;exact hge pO (e▸xaR o8)
  ·rw[nA pO];constructor
   ·rintro(⟨c',o8,e⟩|e)
    ·exact⟨c',xad _ o8,e⟩
    exact⟨c,by simp,e⟩
   rintro⟨c',o8,e⟩;rcases xan.1 o8 with o8|o8
   ·exact .inl ⟨c',o8,e⟩
   simp at o8;subst o8;exact .inr e
  unfold qP;split
  ·exact .inl rfl
  exact N8 d
 have hi':i=all.length:=by omega
 subst hi';rw[xbm]at Oa;have hTI:=tb.start Oa N8;refine aJ.bP ?_;rw[xav];refine⟨λvs H=>∃(i:Nat) (K1:Kd) (S1:Nat->ax.Fn) (C1:Hp),vs=[iv (i:Int)]/\H=Na++C1/\i<=all.length/\cW kp K1 ord ah tr C1/\TI K S (lv ah) x y l made K1 S1 (all.take i) (all.drop i) (kB (all.take i))/\
   PL (kB (all.take i)) K1.N/\Idle K1/\(∀r d,K.N r=none->K1.N r=some d->0<K1.use r),
  λvs _=>all.length-bJ vs 0,JE.mk ⟨0,_,S,C1,rfl,rfl,xaO _,eW,hTI,λt _ h=>by simp[kB]at h,Sg,λr d h1 h2=>by rw[h1]at h2;cases h2⟩,?_⟩
 clear hTI Oa N8 eW T' C1 Si hi;rintro w H ⟨i,K1,S1,C1,hw,rfl,hi,eW,N8,WB,Sf,XZ⟩ gs;simp only[xax,xa0]at hw;subst hw;refine ae.eZ (Br.dec (λhlt=>?_) (λSi=>?_))
 ·obtain⟨c,pO⟩:∃c,all[i]? =some c:=⟨_,xaa hlt⟩;have GB:c∈all:=xaw pO;obtain⟨Bh,acY,hce⟩:=tb.oe GB;rw[hdr pO]at N8;have jr:∀c'∈c::all.drop (i+1),c'∈all:=by rw[<-hdr pO];exact hmD
  have hPb:∀s,kB (all.take i) s<=2097152:=λs=>by have:=AX s (all.take i);rw[xbI]at this;omega
  refine aJ.DA (r:=mE c) (by rw[xat,pO];rfl) (λz hz=>xad _ hz) ?_;intro b53 _;refine St.p (mq _) ?_;refine DR.self (Nil.ptr (ai.mk (Ld.f ?_)));refine Ld.f ?_;refine aa.fq (SX tb eW N8 ZB jr GB (k:=⟨x,c.yu,c.tZ⟩) (by simp[keys]) WB Sf (λs=>by have:=hPb s;omega)) ?_;rintro w C2 ⟨t0,K2,S2,rfl,dr,hT2,abV,g0,WA,Gv,aid,afv⟩;refine Nil.ptr (ai.mk (aa.fq (Qc dr hT2 WA Gv (λs=>by have:=hPb s;omega) (hT2.rJ tb ZB abV)) ?_));rintro w C3 ⟨K3,rfl,kD,hT3,Z3,agr,hN3,afR,aco⟩;have adj:∀s,(kB (all.take i) s+if s=t0 then 1 else 0)<=2097153:=λs=>by have:=hPb s;split<;>omega
  refine DR.self (Nil.ptr (ai.mk (Ld.f ?_)));refine Ld.f ?_;refine aa.fq (SX tb kD hT3 ZB jr GB (k:=⟨x,c.yq,c.tY⟩) (by simp[keys]) Z3 agr (λs=>by have:=adj s;omega)) ?_;rintro w C4 ⟨t1,K4,S4,rfl,Ob,hT4,abU,g1,Z2,agq,XJ,afu⟩;refine Nil.ptr (ai.mk (aa.fq (Qc Ob hT4 Z2 agq (λs=>by have:=adj s;omega) (hT4.rJ tb ZB abU)) ?_));rintro w C5 ⟨K5,rfl,LX,hT5,alM,agp,hN5,afQ,acn⟩;have XO:yE K K5 (lv ah) x l t0:=yE.mono abV (λs d hs=>by rw[hN5];exact XJ s d (by rw[hN3];exact hs));have XN:yE K K5 (lv ah) x l t1:=yE.mono abU (λs d hs=>by rw[hN5];exact hs);have g0':(c.yu=c.tZ/\t0=c.yu)\/K5.N t0=some ⟨x,c.yu,c.tZ⟩:=by
   rcases g0 with g0|g0
   ·exact .inl g0
   exact .inr (by rw[hN5];exact XJ _ _ (by rw[hN3];exact g0))
  have g1':(c.yq=c.tY/\t1=c.yq)\/K5.N t1=some ⟨x,c.yq,c.tY⟩:=by
   rcases g1 with g1|g1
   ·exact .inl g1
   exact .inr (by rw[hN5];exact g1)
  have af7:((all.take i++c::all.drop (i+1)).map Cx.r).Nodup:=by rw[<-hdr pO,xbt];exact fc
  obtain⟨hTn,hT6⟩:=hT5.AE tb ZB jr af7 XO XN g0' g1' (P':=kB (all.take (i+1))) (λs _=>by
   rw[nA pO,Nu,eC ⟨y,t0,t1⟩];have WZ:(if t0=s then 1 else 0)=(if s=t0 then 1 else 0:Nat):=by split<;>split<;>first|rfl|(exfalso;omega)
   have e2':(if t1=s then 1 else 0)=(if s=t1 then 1 else 0:Nat):=by split<;>split<;>first|rfl|(exfalso;omega)
   simp only[WZ,e2'];omega)
  have R8:∀{t:Nat},yE K K5 (lv ah) x l t->live K5.N t:=λhk=>hT5.rJ tb ZB hk;have ZS:∃e,K5.N c.r=some e:=hT5.kept Bh;refine Build.mk (cs:=bB ⟨y,t0,t1⟩) zK λb83 _=>?_;refine St.p (λz hz=>by simp[bB,u32]at hz;rcases hz with rfl|rfl|rfl<;>rfl) ?_;obtain⟨b5,rfl,hO5⟩:=LX;refine DR.self (Nil.ptr (ai.mk (Ld.f ?_)));refine Ld.f ?_;refine az.q ?_;have Zi:y<K5.n:=by rw[hT5.n];exact nb.yn
  refine aa.fq (Xb (d:=⟨y,t0,t1⟩) hO5.ar ⟨by show y<64;have:=hO5.lY;omega,R8 XO,R8 XN⟩ ZS (tb.ok.mid.two Bh).1) ?_;rintro w CA' ⟨rfl,har⟩;refine DR.self (Nil.ptr (ai.mk (Ld.f ?_)));refine az.q ?_;refine Ld.f ?_;refine aa.fq (K7 (d:=⟨y,t0,t1⟩) (r:=c.r) hO5.ut Zi hTn) ?_;rintro w CT' ⟨rfl,Zl⟩;refine ae.inc (aC.of (.skip .tail) ⟨i+1,{K5 with N:=up K5.N c.r (some ⟨y,t0,t1⟩),T:=qP K5.T ⟨y,t0,t1⟩ (some c.r)},S4,_,rfl,rfl,by omega,⟨{b5 with CA:=CA',CT:=CT'},rfl,{hO5 with ar:=har,ut:=Zl}⟩,by rw[nA pO]at hT6⊢;exact hT6,λt SU hp=>?_,λs hs=>?_,λr d Zt hrd=>?_⟩ (by simp[bJ];omega))
  ·obtain⟨c',o8,kQ⟩:=CZ hp;have agI:=ZB c' o8;have SA:=(tb.oe agI).1;have hlv:live K.N t:=by
    rcases kQ with rfl|rfl
    ·exact tb.ok.mid.lo SA
    exact tb.ok.mid.hi SA
   rcases hlv with hlv|⟨d,hd⟩
   ·omega
   exact hT6.kept hd
  ·have hs':up K5.N c.r (some ⟨y,t0,t1⟩) s=none:=hs;have hne:s≠c.r:=λe=>by subst e;rw[aO]at hs';cases hs'
   rw[aS hne]at hs';exact agp s hs'
  have Zq:up K5.N c.r (some ⟨y,t0,t1⟩) r=some d:=hrd;have hne:r≠c.r:=λe=>by rw[e,Bh]at Zt;cases Zt
  rw[aS hne,hN5]at Zq;have PZ:2<=r:=(hT4.mid.two Zq).1;show 0<K5.use r;rcases afu r d Zq with e|⟨h3,hu3⟩
  ·rw[e]at PZ⊢;exact acn PZ
  rw[hN3]at h3;have h5:=afQ r;rcases afv r d h3 with e|⟨h1,Gr⟩
  ·rw[e]at PZ⊢h5 hu3;have:=aco PZ;omega
  have:=XZ r d Zt h1;have:=afR r;omega
 have hi':i=all.length:=by omega
 subst hi';rw[xbm,xev]at N8;rw[xbm]at WB;have uK:=Qg tb N8 XZ;refine aJ.bP ?_;rw[xav];refine⟨λvs H=>∃(i:Nat) (K2:Kd) (C2:Hp),vs=[iv (i:Int)]/\H=Na++C2/\i<=all.length/\cW kp K2 ord ah tr C2/\jU K2 S1 iR (kB (all.drop i))/\Pos K2/\PL (kB (all.drop i)) K2.N/\yD K2 K1,
  λvs _=>all.length-bJ vs 0,JE.mk ⟨0,K1,C1,rfl,rfl,xaO _,eW,N8.mid.congr (λs=>by simp[iR]) (λ_ _=>rfl),uK,WB,.refl K1⟩,?_⟩
 clear eW WB hi Si C1;rintro w H ⟨i,K2,C2,hw,rfl,hi,dr,LW,iX,WA,dY⟩ gs;simp only[xax,xa0]at hw;subst hw;refine ae.eZ (Br.dec (λhlt=>?_) (λSi=>?_))
 ·obtain⟨c,pO⟩:∃c,all[i]? =some c:=⟨_,xaa hlt⟩;have GB:c∈all:=xaw pO;obtain⟨Bh,acY,hce⟩:=tb.oe GB;have hPb:∀s,kB (all.drop i) s<=2097152:=λs=>by have:=AX s (all.drop i);rw[List.length_drop]at this;omega
  have hlo:=h0.lt (hok.mid.lo Bh);have hhi:=h0.lt (hok.mid.hi Bh);refine aJ.DA (r:=mE c) (by rw[xat,pO];rfl) (λz hz=>xad _ hz) ?_;intro amQ _;refine St.p (mq _) ?_;refine DR.self (Nil.ptr (ai.mk (ai.mk (Ld.f ?_))));have Gv:Idle K2:=dY.idle Sf;have hub:∀s,K2.use s<2147483648:=λs=>by have:=uZ LW Gv hPb s;omega
  rw[hdr pO,Ra]at LW WA;refine aa.fq (mP dr LW iX WA hlo hub) ?_;rintro w C3 ⟨rfl,K3,kD,WC,Ul,Z3,Sa⟩;refine DR.self (Nil.ptr (ai.mk (ai.mk (Ld.f ?_))));refine aa.fq (mP kD WC Ul Z3 hhi (λs=>xau (Sa.us s) (hub s))) ?_;rintro w C4 ⟨rfl,K4,Ob,hM4,hp4,Z2,ZC⟩;exact ae.inc (aC.of .tail ⟨i+1,K4,C4,rfl,rfl,by omega,Ob,hM4,hp4,Z2,ZC.trans (Sa.trans dY)⟩ (by simp[bJ];omega))
 have hi':i=all.length:=by omega
 subst hi';rw[xev]at LW;have Gv:Idle K2:=dY.idle Sf;obtain⟨f1,f2,f3⟩:=N8.fin tb (K':=K2) (LW.congr (λ_=>xcY) (λ_ _=>rfl)) iX (λh=>dY.N h) dY.n (λr=>by show K2.ho.getD r 0=K1.ho.getD r 0;rw[dY.ho]);have Wh:K2.n=K.n:=by rw[dY.n,N8.n]
 obtain⟨b2,rfl,hO2⟩:=dr;refine DR.self (Ld.n ?_);refine Ld.n ?_;refine ae.inc (hO2.od.nw (x:=(y:Int)) (.app (.cons (.app (.app (.app (.app .left)))))) (by rw[aq];omega) λCO1 ye=>?_);refine ye.nw (x:=(x:Int)) (.app (.cons (.app (.app (.app (.app .left)))))) (by rw[xbR,aq];omega) λCO2 tM=>?_;refine DR.self (Ld.n ?_);refine Ld.n ?_;refine ae.inc ?_;have nD:=hO2.ol.2;have hxn:=nb.xn;have Zi:=nb.yn;refine hO2.lv.nw (x:=((l+1:Nat):Int)) (.app (.cons (.app (.app (.app (.app (.app .left))))))) (by rw[aq];omega) λCL1 DS=>?_;refine DS.nw (x:=(l:Int)) (.app (.cons (.app (.app (.app (.app (.app .left))))))) (by rw[xbR,aq];omega) λCL2 qR=>?_;rw[fj,fj]at tM qR;have BT:(ord.set l y).set (l+1) x=fR ord l:=by rw[hx,hy];rfl
 rw[BT]at tM;have hlv:lv ((ah.set x (l+1)).set y l)=ug (lv ah) x y l:=YY nb.ne zO zO;refine aF.mk .right (.inl ⟨by omega,rfl,K2,S1,_,⟨{b2 with CO:=CO2,CL:=CL2},rfl,{hO2 with od:=tM,lv:=qR,ol:=?_}⟩,by rw[hlv];exact f1,by rw[hlv,Wh,hx,hy];exact UQ ho hl,Gv,Wh,by rw[dY.cap,N8.cap],λr=>?_,f2,f3⟩)
 ·rw[mN];simp;exact hO2.ol
 show K2.ho.getD r 0=K.hold r;rw[dY.ho];exact N8.hold r
end
structure cc(kp:Nat)(K:Kd)(S:Nat->ax.Fn)(ord ah tr:zL)(C:Hp):Prop where
 rep:cW kp K ord ah tr C
 ok:Ok K S (lv ah)
 od:Ord K.n (lv ah) ord
 idle:Idle K
 tr:yx K.n K.cap (K.held S) ord tr.reverse
theorem Kept.refl(K:Kd)(S:Nat->ax.Fn):Kept K S K S:=⟨rfl,rfl,λ_=>rfl,λ_=>xcY,λ_ _=>rfl⟩
theorem Kept.trans{K K' K2:Kd}{S S' S2:Nat->ax.Fn}(h:Kept K S K' S')(h':Kept K' S' K2 S2):Kept K S K2 S2:=
 ⟨h'.n.trans h.n,h'.cap.trans h.cap,λr=>(h'.hold r).trans (h.hold r),λg=>(h'.held g).trans (h.held g),λr hr=>(h'.fn r (by rw[h.hold];exact hr)).trans (h.fn r hr)⟩
section
variable {kp:Nat} {K:Kd} {ord ah tr:zL} {C:Hp} {S:Nat->ax.Fn}
theorem Td(h:cc kp K S ord ah tr C){l:Int}(hl:¬(0<=l/\l+1<K.n)):Rd zQ 151 #[ptr kp,iv l] C (· =iv 1):=by
 obtain⟨b,rfl,hO⟩:=h.rep;have hn:=hO.lY;refine aE λg=>xN (ae.aI (Br.no (ae.lss (cm.or (decide ((K.n:Int) -2<l)) (λ_=>?_) zI λgs=>?_))))
 ·refine Ld.n ?_;exact ae.lJ (c:=(K.n:Int) -2) rfl zO (ae.gtr ⟨rfl,rfl⟩)
 rw[<-xa8];exact Br.T (br.mk (.refl _) rfl)
theorem L5(h:cc kp K S ord ah tr C){l:Nat}(hl:l+1<K.n)(eR:tr.length<17592186044416):Fc zQ 151 #[ptr kp,iv (l:Int)] C (λr C'=>
   (BO K.n ord l (K.held S)+2<=K.cap/\r=iv 0/\∃K' S' bW,cc kp K' S' (fR ord l) bW (tr++[l]) C'/\Kept K S K' S')\/
   (K.cap<BO K.n ord l (K.held S)+2/\r=iv 9/\C'=C)):=by
 have h0:=h;obtain⟨b,hC,hO⟩:=h.rep;have hn:=hO.lY;refine aE λg=>xN (ae.aI (Br.no (ae.lss (cm.or (decide ((K.n:Int) -2<l)) (λ_=>?_) zI λgs=>?_))))
 ·refine Ld.v (by rw[hC];exact .head _) ?_;exact ae.lJ (c:=(K.n:Int) -2) rfl zO (ae.gtr ⟨rfl,rfl⟩)
 rw[<-xa8];refine Br.F (aa.fq (K8 h.rep h.ok h.od h.idle hl) ?_);rintro w C' (⟨hfit,rfl,K',S',bW,dk,Bd,Zz,wx,rN⟩|⟨hno,rfl,rfl⟩)
 ·refine Un.not (Br.no ?_);obtain⟨b',rfl,yj⟩:=dk;refine Ld.n ?_;refine au.int (e:=3) zK zK zK λbx=>?_;refine yj.tr.qJ (.cons (.cons (.app (.app (.app (.app (.app (.app .here)))))))) (by exact .head _) (by rw[aq];omega) (by rw[aq];omega) λv' CR' cC=>?_;refine Nil.ptr (ai.mk (St.one (by exact .tail (.head _)) cC.one (by simp[uD.cells]) rfl ?_));refine aF.mk .tail (.inl ⟨hfit,rfl,K',S',bW,⟨⟨{b' with vt:=v',CR:=CR'},rfl,{yj with tr:=by rw[cg];exact cC}⟩,Bd,Zz,wx,?_⟩,rN⟩);rw[rN.n,rN.cap];exact(yx.ahu hO.ol.1 hl hfit h.tr).congr λg=>(rN.held g).symm
 exact Un.not (Br.yes (aF.here (.inr ⟨hno,rfl,rfl⟩)))
theorem UJ{l:Nat}(h:cc kp K S ord ah (tr++[l]) C)(eR:tr.length<17592186044416):Fc zQ 338 #[ptr kp] C (λr C'=>
   r=.tuple #[iv (l:Int),iv 0]/\l+1<K.n/\∃K' S' bW,cc kp K' S' (fR ord l) bW tr C'/\Kept K S K' S'):=by
 have h0:=h;obtain⟨b,hC,hO⟩:=h.rep;have hn:=hO.lY;have DJ:=h.tr;rw[List.reverse_append]at DJ;obtain⟨hl,hfit,uo⟩:l+1<K.n/\BO K.n ord l (K.held S)+2<=K.cap/\yx K.n K.cap (K.held S) (fR ord l) tr.reverse:=DJ;have hmk:(kp,Obj.cells (b.cells K.n) 141 zZ)∈C:=by rw[hC];exact .head _
 refine aE λg=>Ip (ae.aI (cm.or false (λ_=>?_) rfl λgs=>Br.no ?_))
 ·refine Ld.v hmk ?_;refine hO.tr.bP (ae.gX ⟨rfl,?_⟩);rw[xak];rw[aq,xaf];simp;omega
 refine Ld.v hmk ?_;refine hO.tr.bP ?_;rw[aq,xaf];refine ae.bY (a:=tr.length+1) (b:=1) ?_;rw[xb7];refine Ld.v hmk ?_;refine hO.tr.ld (i:=tr.length) (x:=(l:Int)) (by rw[cg];simp[iw]) (by rw[hC];exact bH.sub (.cons (.app (.app (.app (.app (.app (.app .here)))))))) (aa.fq (K8 h.rep h.ok h.od h.idle hl) ?_);rintro w C' (⟨_,rfl,K',S',bW,dk,Bd,Zz,wx,rN⟩|⟨hno,rfl,rfl⟩);rotate_left
 ·omega
 obtain⟨b',rfl,yj⟩:=dk;refine Ld.n ?_;refine yj.tr.cut (i:=tr.length) (by rw[aq];simp) λv' nZ=>?_;refine Nil.ptr (ai.mk (St.one (by exact .head _) nZ.one (by simp[uD.cells]) rfl ?_));refine aF.here ⟨rfl,hl,K',S',bW,⟨⟨{b' with vt:=v'},rfl,{yj with tr:=by rw[cg,xeA zI]at nZ;exact nZ}⟩,Bd,Zz,wx,?_⟩,rN⟩;rw[rN.n,rN.cap];exact uo.congr λg=>(rN.held g).symm
theorem cc.bL(h:cc kp K S ord ah tr C){r:Nat}(hl:live K.N r):r<1048576:=h.rep.lt hl
theorem cc.gf(h:cc kp K S ord ah tr C)(r:Nat):K.hold r<=65535:=h.ok.mid.mx r
theorem cc.Fm(h:cc kp K S ord ah tr C)(r:Nat):K.use r<=2097153:=by have:=uZ h.ok.mid h.idle (M:=0) (λ_=>xai _) r;omega
structure Xm(K K':Kd)(r:Nat):Prop where
 n:K'.n=K.n
 cap:K'.cap=K.cap
 used:K'.used=K.used
 N:K'.N=K.N
 hold:∀s,K'.hold s=if s=r/\2<=r then K.hold s+1 else K.hold s
theorem o5(h:cc kp K S ord ah tr C){r:Nat}(hl:live K.N r)(h2:2<=r)(hf:K.hold r=65535):Rd zQ 141 #[ptr kp,u32 r] C (· =iv 8):=by
 have hr:=h.bL hl;obtain⟨b,hC,hO⟩:=h.rep;have hfit:r<K.ho.length:=by
  rcases hl with hl|⟨d,hd⟩
  ·omega
  rw[<-hO.ul.1];exact h.ok.mid.fit hd
 refine aE λg=>xQ (ae.aI (Br.no (Nil.ptr (ai.mk (aa.eq (nY h.rep zO) ?_)))));rw[bX.2 hl];refine Un.not (Br.no λJ7 _=>(ae.nq (b:=1) (Br.T (Nil.ptr (ai.mk (Ld.u (by rw[hC];exact .head _) ?_))))));refine hO.ho.ld (x:=((K.hold r:Nat):Int)) (bI hfit) (by rw[hC];exact bH.sub (.cons (.app (.app (.app .left))))) ?_;rw[hf];exact ae.gX (Br.T (br.mk (.refl _) rfl))
theorem DE(h:cW kp K ord ah tr C)(hM0:jU K S iR zero')(Wp:Idle K){r:Nat}(hl:live K.N r)(hf:2<=r->K.hold r<65535):Fc zQ 141 #[ptr kp,u32 r] C (λv C'=>v=iv 0/\∃K',cW kp K' ord ah [] C'/\
  jU K' S iR zero'/\Idle K'/\Xm K K' r/\(∀s,K.use s<=K'.use s)/\(2<=r->0<K'.use r)):=by
 have hr:=h.lt hl;have h0:=h;obtain⟨b,hC,hO⟩:=h;refine aE λg=>xQ (ae.aI (Br.no (Nil.ptr (ai.mk (aa.eq (nY h0 zO) ?_)))));rw[bX.2 hl];refine Un.not (Br.no λJ7 hJ7=>?_);have fin:∀(K':Kd) C1,cW kp K' ord ah tr C1->jU K' S iR zero'->Idle K'->Xm K K' r->(∀s,K.use s<=K'.use s)->(2<=r->0<K'.use r)->J7 [] C1:=λK' C1 dk Bd wx hm hu hp=>by
  refine hJ7 _ λgs=>?_;obtain⟨b',rfl,yj⟩:=dk;refine Nil.ptr (ai.mk (St.one (by exact .head _) rfl (by simp[uD.cells]) rfl ?_));refine aF.mk (nH:=({b' with vt:=.slice none 0 0,CR:=[]}:uD).hp kp K'.n) ?_ ⟨rfl,K',⟨{b' with vt:=.slice none 0 0,CR:=[]},rfl,{yj with tr:=aP.nil}⟩,Bd,wx,hm,hu,hp⟩;refine .cons (.c8 (.c8 (.c8 (.c8 (.c8 (.c8 .nil _) _) _) _) _) _)
 refine ae.nq (b:=1) (Br.dec (λh2=>?_) (λh2=>?_));rotate_left
 ·refine JE.mk (fin K C h0 hM0 Wp ⟨rfl,rfl,rfl,rfl,λs=>?_⟩ (λ_=>xai _) (λh=>by omega));rw[xac zO]
 have o9:2<=r:=by omega
 have Sn:=hf o9;obtain⟨d,hd⟩:∃d,K.N r=some d:=by
  rcases hl with hl|hl
  ·omega
  exact hl
 have hfu:=hM0.fit hd;have NU:=hO.ul;have hfit:r<K.ho.length:=by omega
 subst hC;refine Nil.ptr (ai.mk (Ld.f ?_));refine hO.ho.ld (x:=((K.hold r:Nat):Int)) (bI hfit) (bH.sub (.cons (.app (.app (.app .left))))) (ae.gX (Br.F (Nil.ptr (ai.mk (Ld.f ?_)))));refine hO.ho.ld (x:=((K.hold r:Nat):Int)) (bI hfit) (bH.sub (.cons (.app (.app (.app .left))))) (ae.inc (hO.ho.nw (x:=((K.hold r+1:Nat):Int)) (.cons (.app (.app (.app .left)))) (by rw[aq];exact hfit) λUe pN=>?_));rw[fj]at pN;have g1:∀s,(K.ho.set r (K.hold r+1)).getD s 0=if s=r then K.hold r+1 else K.hold s:=λs=>gU hfit
 refine Nil.ptr (ai.mk (Ld.f ?_));refine pN.ld (x:=((K.hold r+1:Nat):Int)) (by rw[bI (by simpa using hfit),g1,xae rfl]) (bH.sub (.cons (.app (.app (.app .left))))) ?_;refine ae.dJ (b:=1) (Br.dec (λh3=>?_) (λh3=>?_))
 ·refine Nil.ptr (ai.mk (Ld.f ?_));refine hO.us.ld (x:=((K.use r:Nat):Int)) (bI hfu) (bH.sub (.cons (.app (.app .left)))) ?_;have hub:=uZ hM0 Wp (M:=0) (λ_=>xai _) r;refine ae.inc (hO.us.nw (x:=((K.use r+1:Nat):Int)) (.cons (.app (.app .left))) (by rw[aq];exact hfu) λUz Bb=>?_);rw[fj]at Bb;have g2:∀s,(K.us.set r (K.use r+1)).getD s 0=if s=r then K.use r+1 else K.use s:=λs=>gU hfu
  have hM:=hM0.keep (r:=r) (dG:=K.us.set r (K.use r+1)) (cC:=K.ho.set r (K.hold r+1)) ⟨d,hd⟩ Sn zI (by rw[g1,xae rfl]) (λs hs=>by rw[g1,xac hs]) (by rw[g2,xae rfl,xae zO]) (λs hs=>by rw[g2,xac hs]);refine JE.mk (fin {K with us:=K.us.set r (K.use r+1),ho:=K.ho.set r (K.hold r+1)} _ ⟨{b with CU:=Uz,CH:=Ue},rfl,{hO with us:=Bb,ho:=pN,ul:=by simp;exact NU}⟩ hM (λs hs=>?_) ⟨rfl,rfl,rfl,rfl,λs=>?_⟩ (λs=>?_) (λ_=>?_))
  ·show(K.us.set r (K.use r+1)).getD s 0=0;have hs':K.N s=none:=hs;rw[g2,xac (λe=>by rw[e,hd]at hs';cases hs')];exact Wp s hs'
  ·show(K.ho.set r (K.hold r+1)).getD s 0=_;rw[g1];by_cases e:s=r
   ·subst e;rw[xae rfl,xae ⟨rfl,o9⟩]
   rw[xac e,xac (λh=>e h.1)]
  ·show K.use s<=(K.us.set r (K.use r+1)).getD s 0;rw[g2];split
   ·rename_i e;subst e;omega
   exact xai _
  show 0<(K.us.set r (K.use r+1)).getD r 0;rw[g2,xae rfl];omega
 have hM:=hM0.keep (r:=r) (dG:=K.us) (cC:=K.ho.set r (K.hold r+1)) ⟨d,hd⟩ Sn zI (by rw[g1,xae rfl]) (λs hs=>by rw[g1,xac hs]) (by show K.use r=_;rw[xac zO];rfl) (λs hs=>rfl);refine JE.mk (fin {K with ho:=K.ho.set r (K.hold r+1)} _ ⟨{b with CH:=Ue},rfl,{hO with ho:=pN,ul:=by simp;exact NU}⟩ hM Wp ⟨rfl,rfl,rfl,rfl,λs=>?_⟩ (λ_=>xai _) (λ_=>?_));rotate_left
 ·show 0<K.use r;rw[hM0.use hd,xac zO];omega
 show(K.ho.set r (K.hold r+1)).getD s 0=_;rw[g1];by_cases e:s=r
 ·subst e;rw[xae rfl,xae ⟨rfl,o9⟩]
 rw[xac e,xac (λh=>e h.1)]
theorem mY(h:cc kp K S ord ah tr C){r:Nat}(hl:live K.N r)(hf:2<=r->K.hold r<65535):Fc zQ 141 #[ptr kp,u32 r] C (λv C'=>v=iv 0/\∃K',cc kp K' S ord ah [] C'/\Xm K K' r):=by
 refine(DE h.rep h.ok.mid h.idle hl hf).mono ?_;rintro v C' ⟨rfl,K',dk,Z6,wx,hm,hu,hp⟩;refine⟨rfl,K',⟨dk,⟨Z6,λs d hs=>?_,by rw[hm.n];exact h.ok.lv,by rw[hm.n,hm.N];exact h.ok.wf⟩,by rw[hm.n];exact h.od,wx,trivial⟩,hm⟩;rw[hm.N]at hs;exact xaN (h.ok.pos s d hs) (hu s)
end
section
variable {kp:Nat} {K:Kd} {ord ah tr:zL} {C:Hp} {S:Nat->ax.Fn}
theorem LI{K':Kd}{P:Nat->Nat}(hw:WF K.n (lv ah) K.N)(hM:jU K' S iR P)(hN:∀{s d},K'.N s=some d->K.N s=some d)(hn:K'.n=K.n):WF K'.n (lv ah) K'.N:=by
 have same:∀{t},live K'.N t->dep K'.n (lv ah) K'.N t=dep K.n (lv ah) K.N t:=λ{t} ht=>by
  cases e:K'.N t with
  |some f=>rw[an e,an (hN e)]
  |none=>
   have XU:t<2:=by
    rcases ht with ht|⟨f,hf⟩
    ·exact ht
    rw[e]at hf;cases hf
   rw[aU e,aU (hw.const XU),hn]
 refine hM.wf λ{s d} hs=>?_;rw[same (hM.lo hs),same (hM.hi hs)];exact⟨(hw.lo (hN hs)).2,(hw.hi (hN hs)).2⟩
structure Az(K K':Kd)(r:Nat):Prop where
 n:K'.n=K.n
 cap:K'.cap=K.cap
 N:∀s d,K'.N s=some d->K.N s=some d
 hold:∀s,K'.hold s=if s=r/\2<=r then K.hold s-1 else K.hold s
theorem adP(h:cc kp K S ord ah tr C){r:Nat}(hr:r<4294967296)(h2:2<=r)(h0:K.hold r=0):Rd zQ 142 #[ptr kp,u32 r] C (· =iv 3):=by
 refine aE λg=>xP (ae.aI (Br.no ?_));intro J2 _;refine ae.nq (b:=1) (Br.T (aa.eq (wc h.rep hr (λs=>by have:=h.gf s;omega)) ?_));rw[h0];exact ae.gX (Br.T (br.mk (.refl _) rfl))
theorem m7(h:cc kp K S ord ah tr C){r:Nat}(hr:r<4294967296)(hh:2<=r->K.hold r≠0):Fc zQ 142 #[ptr kp,u32 r] C (λv C'=>v=iv 0/\∃K',cc kp K' S ord ah [] C'/\Az K K' r):=by
 have h0:=h;obtain⟨b,hC,hO⟩:=h.rep;refine aE λg=>xP (ae.aI (Br.no ?_));intro J2 BZ;have fin:∀(K':Kd) C1,cW kp K' ord ah tr C1->Ok K' S (lv ah)->Idle K'->Az K K' r->J2 [] C1:=λK' C1 dk Bd wx hm=>by
  refine BZ _ λgs=>?_;obtain⟨b',rfl,yj⟩:=dk;refine Nil.ptr (ai.mk (St.one (by exact .head _) rfl (by simp[uD.cells]) rfl ?_));have m5:Ord K'.n (lv ah) ord:=by rw[hm.n];exact h.od
  refine aF.mk (nH:=({b' with vt:=.slice none 0 0,CR:=[]}:uD).hp kp K'.n) ?_ ⟨rfl,K',⟨⟨{b' with vt:=.slice none 0 0,CR:=[]},rfl,{yj with tr:=aP.nil}⟩,Bd,m5,wx,trivial⟩,hm⟩;refine .cons (.c8 (.c8 (.c8 (.c8 (.c8 (.c8 .nil _) _) _) _) _) _)
 refine ae.nq (b:=1) (Br.dec (λh2=>?_) (λh2=>?_));rotate_left
 ·exact JE.mk (fin K C h.rep h.ok h.idle ⟨rfl,rfl,λ_ _ h=>h,λs=>by rw[xac zO]⟩)
 have o9:2<=r:=by omega
 have pN:=hh o9;obtain⟨d,hd⟩:=h.ok.mid.held r pN;have hfu:=h.ok.mid.fit hd;have NU:=hO.ul;have hfit:r<K.ho.length:=by omega
 have hle:=h.gf r;refine aa.eq (wc h.rep hr (λs=>by have:=h.gf s;omega)) (ae.gX (Br.F ?_));subst hC;refine Nil.ptr (ai.mk (Ld.f ?_));refine hO.ho.ld (x:=((K.hold r:Nat):Int)) (bI hfit) (bH.sub (.cons (.app (.app (.app .left))))) (ae.bY (b:=1) (hO.ho.nw (x:=((K.hold r-1:Nat):Int)) (.cons (.app (.app (.app .left)))) (by rw[aq];exact hfit) λUe ZL=>?_));rw[fj]at ZL;have g1:∀s,(K.ho.set r (K.hold r-1)).getD s 0=if s=r then K.hold r-1 else K.hold s:=λs=>gU hfit
 have hM:=h.ok.mid.drop (r:=r) (cC:=K.ho.set r (K.hold r-1)) zO zI (by rw[g1,xae rfl];omega) (λs hs=>by rw[g1,xac hs]);have eW:cW kp {K with ho:=K.ho.set r (K.hold r-1)} ord ah tr (({b with CH:=Ue}:uD).hp kp K.n):=⟨_,rfl,{hO with ho:=ZL,ul:=by simp;exact NU}⟩;have hho:∀s,(K.ho.set r (K.hold r-1)).getD s 0=if s=r/\2<=r then K.hold s-1 else K.hold s:=λs=>by
  rw[g1];by_cases e:s=r
  ·subst e;rw[xae rfl,xae ⟨rfl,o9⟩]
  rw[xac e,xac (λh=>e h.1)]
 refine Nil.ptr (ai.mk (Ld.f ?_));refine ZL.ld (x:=((K.hold r-1:Nat):Int)) (by rw[bI (by simpa using hfit),g1,xae rfl]) (bH.sub (.cons (.app (.app (.app .left))))) (ae.dJ (b:=0) (Br.dec (λh3=>?_) (λh3=>?_)));rotate_left
 ·rw[xac zO]at hM;exact JE.mk (fin {K with ho:=K.ho.set r (K.hold r-1)} _ eW ⟨hM,h.ok.pos,h.ok.lv,h.ok.wf⟩ h.idle ⟨rfl,rfl,λ_ _ h=>h,hho⟩)
 rw[xae zO]at hM;refine Nil.ptr (ai.mk ?_);have LW:jU {K with ho:=K.ho.set r (K.hold r-1)} S iR (gY zero' [r]):=hM.congr (λ_=>xcY) λs _=>by
  unfold up gY zero';by_cases e:s=r
  ·subst e;simp
  simp[e,xbb e]
 refine aa.fq (mP (P0:=zero') eW LW h.ok.pos (λt SU h0=>?_) (h.bL (.inr ⟨d,hd⟩)) (λs=>by have:=h.Fm s;show K.use s<_;omega)) ?_
 ·by_cases e:t=r
  ·subst e;exact⟨d,hd⟩
  have h0':0<zero' t+[r].count t:=h0;simp[zero',xbb e]at h0'
 rintro w C2 ⟨rfl,K2,dr,WC,Ul,_,dY⟩;refine JE.mk (fin K2 _ dr ⟨WC,Ul,by rw[dY.n];exact h.ok.lv,LI h.ok.wf WC (λh=>dY.N h) dY.n⟩ (dY.idle h.idle) ⟨dY.n,dY.cap,λs e hs=>dY.N hs,λs=>?_⟩);show K2.ho.getD s 0=_;rw[dY.ho];exact hho s
structure pW(K:Kd)(S:Nat->ax.Fn)(K':Kd)(S':Nat->ax.Fn)(f:ax.Fn)(r:Nat):Prop where
 n:K'.n=K.n
 cap:K'.cap=K.cap
 used:K'.used<=K.used+1
 N:∀s d,K.N s=some d->K'.N s=some d
 fn:∀s,live K.N s->S' s=S s
 live:live K'.N r
 is:S' r=f
 hold:∀s,K'.hold s=if s=r/\2<=r then K.hold s+1 else K.hold s
theorem A3(h:cc kp K S ord ah tr C){v lo hi:Nat}(hv:v<K.n)(hlo:live K.N lo)(hhi:live K.N hi)(hlt:lo=hi\/(lv ah v<dep K.n (lv ah) K.N lo/\lv ah v<dep K.n (lv ah) K.N hi)):
  Fc zQ 175 #[ptr kp,iv (v:Int),u32 lo,u32 hi] C (λw C'=>
   (∃r K' S',w=.tuple #[u32 r,iv 0]/\cc kp K' S' ord ah [] C'/\pW K S K' S' (ite S ⟨v,lo,hi⟩) r)\/
   (∃r,w=.tuple #[u32 0,iv 8]/\C'=C/\live K.N r/\2<=r/\K.hold r=65535/\S r=ite S ⟨v,lo,hi⟩)\/
   (w=.tuple #[u32 0,iv 9]/\C'=C/\K.cap<=K.used/\lo≠hi/\K.T ⟨v,lo,hi⟩=none)):=by
 have h0:=h;have agi:=h.bL hlo;have ags:=h.bL hhi;have DS:=bX.2 hlo;have qR:=bX.2 hhi;have hfe:pS K ah (v:Int) lo hi=0:=by
  unfold pS;rw[xac zO,xac (by rw[DS,qR];simp),xac];rintro⟨hne,hmin⟩;rcases hlt with e|⟨a,b⟩
  ·exact hne e
  simp only[xa3,lv]at hmin a b;omega
 refine aE λg=>Kl (ae.aI (Br.no (aa.eq (L4 h.rep (v:Int) zO zO (λr d hd=>⟨h.ok.mid.var hd,(h.ok.mid.two hd).1⟩)) ?_)));rw[hfe];refine ae.cO (Br.F (aa.rq (Li h.rep (lo:=lo) (hi:=hi) hv) ?_));rintro w hw;have there:∀(J9:List zV->Hp->Prop),(∀w12:zV,∀H11:Hp,(∀amn:Fr,aa zQ g 141 #[ptr kp,w12] H11 (λv13 H14=>ae .num .neq v13 (Value.int .i64 0) λv15=>Br v15
   (aF (λw C'=>(∃r K' S',w=.tuple #[u32 r,iv 0]/\cc kp K' S' ord ah [] C'/\pW K S K' S' (ite S ⟨v,lo,hi⟩) r)\/
   (∃r,w=.tuple #[u32 0,iv 8]/\C'=C/\live K.N r/\2<=r/\K.hold r=65535/\S r=ite S ⟨v,lo,hi⟩)\/
   (w=.tuple #[u32 0,iv 9]/\C'=C/\K.cap<=K.used/\lo≠hi/\K.T ⟨v,lo,hi⟩=none)) (.returned (.tuple #[(Value.int .u32 0),v13])) H14) (aF (λw C'=>(∃r K' S',w=.tuple #[u32 r,iv 0]/\cc kp K' S' ord ah [] C'/\pW K S K' S' (ite S ⟨v,lo,hi⟩) r)\/
   (∃r,w=.tuple #[u32 0,iv 8]/\C'=C/\live K.N r/\2<=r/\K.hold r=65535/\S r=ite S ⟨v,lo,hi⟩)\/
   (w=.tuple #[u32 0,iv 9]/\C'=C/\K.cap<=K.used/\lo≠hi/\K.T ⟨v,lo,hi⟩=none)) (.returned (.tuple #[w12,(Value.int .i64 0)])) H14)) (dD (aF (λw C'=>(∃r K' S',w=.tuple #[u32 r,iv 0]/\cc kp K' S' ord ah [] C'/\pW K S K' S' (ite S ⟨v,lo,hi⟩) r)\/
   (∃r,w=.tuple #[u32 0,iv 8]/\C'=C/\live K.N r/\2<=r/\K.hold r=65535/\S r=ite S ⟨v,lo,hi⟩)\/
   (w=.tuple #[u32 0,iv 9]/\C'=C/\K.cap<=K.used/\lo≠hi/\K.T ⟨v,lo,hi⟩=none)))))->J9 [w12] H11)->
   ∀r,live K.N r->S r=ite S ⟨v,lo,hi⟩->J9 [u32 r] C:=λJ9 SR r hr hS=>by
  refine SR _ _ λgs=>?_;by_cases hf:2<=r/\K.hold r=65535
  ·exact aa.eq (o5 h hr hf.1 hf.2) (ae.cO (Br.T (aF.here (.inr (.inl ⟨r,rfl,rfl,hr,hf.1,hf.2,hS⟩)))))
  refine aa.fq (mY h hr (λh2=>by have:=h.gf r;omega)) ?_;rintro w C' ⟨rfl,K',dk,hm⟩;refine ae.cO (Br.F (aF.here (.inl ⟨r,K',S,rfl,dk,⟨hm.n,hm.cap,by rw[hm.used];omega,λs d hs=>by rw[hm.N];exact hs,λ_ _=>rfl,by rw[hm.N];exact hr,hS,hm.hold⟩⟩)))
 by_cases he:lo=hi
 ·rw[xae he]at hw;subst hw;refine Ext.two λJ9 SR=>(Un.not (Br.no (JE.mk (there J9 SR lo hlo ?_))))
  funext z
  unfold ax.ite;simp[he]
 rw[xac he]at hw;have gp:lv ah v<dep K.n (lv ah) K.N lo/\lv ah v<dep K.n (lv ah) K.N hi:=by
  rcases hlt with e|e
  ·exact absurd e he
  exact e
 obtain⟨o,ho⟩:∃o,o=K.T ⟨v,lo,hi⟩:=⟨_,rfl⟩;cases o with
 |some r=>
  have hT:K.T ⟨v,lo,hi⟩=some r:=ho.symm;rw[hT]at hw;subst hw;refine Ext.two λJ9 SR=>?_;have hN:=((h.ok.mid.kA _ r).1 hT).1;refine Un.not (Br.no (JE.mk (there J9 SR r (.inr ⟨_,hN⟩) ?_)))
  funext z
  rw[h.ok.mid.int.node hN];rfl
 |none=>
  have hT:K.T ⟨v,lo,hi⟩=none:=ho.symm;rw[hT]at hw;subst hw;refine Ext.two λJ9 SR=>(Un.not (Br.yes (Nil.ptr (ai.mk ?_))));have hcap:=h.ok.mid.cap;refine aa.eq (DC h.rep (m:=1) zO zO) (Un.not ?_);by_cases hroom:K.used+1<=K.cap;rotate_left
  ·rw[xak hroom];exact Br.yes (aF.here (.inr (.inr ⟨rfl,rfl,by omega,he,hT⟩)))
  rw[xam hroom];refine Br.no (Nil.ptr (ai.mk (Build.mk (cs:=bB ⟨v,lo,hi⟩) zK ?_)));have hfit:∀{t:Nat},live K.N t->t<2\/t<K.us.length:=λht'=>by
   rcases ht' with ht'|⟨d,dR⟩
   ·exact .inl ht'
   exact .inr (h.ok.mid.fit dR)
  have sR:K.n<=64:=by obtain⟨_,_,hO⟩:=h.rep;exact hO.lY
  refine aa.fq (La h.rep (d:=⟨v,lo,hi⟩) ⟨by show v<64;omega,hlo,hhi⟩ hv hT zO (hfit hlo) (hfit hhi) (λs=>by have:=h.Fm s;omega)) ?_;rintro w C1 ⟨r,dG,cC,rfl,hN,h2,hrc,hlen,hru,NU,u0,u1,u2,o0,o1,eW⟩;have Oa:=h.ok.mid.lay (r:=r) (d:=⟨v,lo,hi⟩) hN ⟨h2,hrc⟩ hv he hlo hhi hT (λh=>h) rfl zO hlen ⟨hru,NU⟩ u0 u1 o0 o1;have ag7:∀s d,K.N s=some d->up K.N r (some ⟨v,lo,hi⟩) s=some d:=λs d hs=>by rw[aS (λe=>by rw[e,hN]at hs;cases hs)];exact hs
  have hne:∀{t:Nat},live K.N t->t≠r:=λht=>fZ ht h2 hN;have Sf:Idle {K with N:=up K.N r (some ⟨v,lo,hi⟩),T:=qP K.T ⟨v,lo,hi⟩ (some r),used:=K.used+1,us:=dG,ho:=cC}:=λs hs=>by
   have hs':up K.N r (some ⟨v,lo,hi⟩) s=none:=hs;have RY:s≠r:=λe=>by subst e;rw[aO]at hs';cases hs'
   rw[aS RY]at hs';show dG.getD s 0=0;by_cases h2s:2<=s
   ·rw[u1 s h2s RY,h.idle s hs',eC];have a1:lo≠s:=λe=>by
     rcases hlo with h5|⟨d,h5⟩
     ·omega
     rw[e,hs']at h5;cases h5
    have a2:hi≠s:=λe=>by
     rcases hhi with h5|⟨d,h5⟩
     ·omega
     rw[e,hs']at h5;cases h5
    simp[a1,a2]
   rw[u2 s zO,h.idle s hs']
  refine JE.mk (SR _ _ λgs=>?_);refine aa.fq (DE eW Oa Sf (r:=r) (.inr ⟨_,aO⟩) (λ_=>by show cC.getD r 0<65535;rw[o0];omega)) ?_;rintro w C2 ⟨rfl,K2,dr,LW,Gv,hm,hu,hp⟩;refine ae.cO (Br.F ?_);have Wh:K2.n=K.n:=hm.n;have Z5:K2.N=up K.N r (some ⟨v,lo,hi⟩):=hm.N;have hpos:Pos K2:=λs d hs=>by
   by_cases e:s=r
   ·rw[e];exact hp h2
   rw[Z5,aS e]at hs;have h3:=hu s;have h4:({K with N:=up K.N r (some ⟨v,lo,hi⟩),T:=qP K.T ⟨v,lo,hi⟩ (some r),used:=K.used+1,us:=dG,ho:=cC}:Kd).use s=dG.getD s 0:=rfl;rw[h4,u1 s (h.ok.mid.two hs).1 e]at h3;have:=h.ok.pos s d hs;omega
  have Bf:∀{t:Nat},live K.N t->dep K2.n (lv ah) K2.N t=dep K.n (lv ah) K.N t:=λ{t} ht=>by
   rw[Z5,Wh];unfold dep;rw[aS (hne ht)]
  have afK:WF K2.n (lv ah) K2.N:=LW.wf λ{s d} hs=>by
   rw[Z5]at hs;by_cases e:s=r
   ·rw[e,aO]at hs;cases hs;rw[Bf hlo,Bf hhi];exact gp
   rw[aS e]at hs;rw[Bf (h.ok.wf.lo hs).1,Bf (h.ok.wf.hi hs).1];exact⟨(h.ok.wf.lo hs).2,(h.ok.wf.hi hs).2⟩
  have hS:∀s,live K.N s->up S r (ite S ⟨v,lo,hi⟩) s=S s:=λs hs=>aS (hne hs);refine aF.here (.inl ⟨r,K2,up S r (ite S ⟨v,lo,hi⟩),rfl,⟨dr,⟨LW,hpos,by rw[Wh];exact h.ok.lv,afK⟩,by rw[Wh];exact h.od,Gv,trivial⟩,⟨Wh,hm.cap,by rw[hm.used];exact xai _,λs d hs=>by rw[Z5];exact ag7 s d hs,hS,.inr ⟨_,by rw[Z5];exact aO⟩,aO,λs=>?_⟩⟩);rw[hm.hold];show(if s=r/\2<=r then cC.getD s 0+1 else cC.getD s 0)=_;by_cases e:s=r
  ·subst e;rw[xae ⟨rfl,h2⟩,xae ⟨rfl,h2⟩,o0];have:K.hold s=0:=by
    apply xdF;intro hne;obtain⟨d,hd⟩:=h.ok.mid.held s hne;rw[hN]at hd;cases hd
   omega
  rw[xac (λh=>e h.1),xac (λh=>e h.1),o1 s e]
end
theorem hnew{H:Hp}:bH [] H (λX=>X++H):=bH.left
theorem RS{n:Nat}(hn:n<=64):Fc zQ 118 #[iv (n:Int)] [] (λv H=>aP 3 .i64 v (iw (List.range n)) H):=by
 refine aE λg=>KQ (cZ.ints zO zO λb=>?_);have h0:aP 3 .i64 (.slice (some ⟨b,0,none⟩) n n) (List.replicate n 0) [(b,.cells (ay .i64 (List.replicate n 0)) 3 zZ)]:=by
  have:=aP.made (T:=3) (kd:=.i64) (b:=b) (List.replicate n (0:Int));rw[xdZ]at this;exact this
 refine⟨λvs H=>∃j:Nat,vs=[iv (j:Int)]/\j<=n/\aP 3 .i64 (.slice (some ⟨b,0,none⟩) n n) (iw (List.range j)++List.replicate (n-j) 0) H,λvs _=>n-bJ vs 0,JE.mk ⟨0,rfl,by omega,by simpa[iw]using h0⟩,?_⟩;rintro w H ⟨j,hw,hj,hs⟩ gs;simp only[xax,xa0]at hw;subst hw;refine ae.eZ (Br.dec (λhlt=>?_) (λhlt=>?_))
 ·refine hs.nw (x:=(j:Int)) .here zP λC' hs'=>?_;refine ae.inc ?_;have e:(iw (List.range j)++List.replicate (n-j) 0).set j (j:Int)=iw (List.range (j+1))++List.replicate (n-(j+1)) 0:=by
   rw[xcE _ _ zI];rw[show n-j=(n-(j+1))+1 by omega,xda,xcl,cg];simp[iw]
  rw[e]at hs';exact aC.of (.refl _) ⟨j+1,rfl,by omega,hs'⟩ (by show n-(((j+1:Nat):Int).toNat)<n-(((j:Nat):Int).toNat);omega)
 obtain rfl:j=n:=by omega
 exact aF.here (by simpa using hs)
theorem tL{n:Nat}(hn:n<=64):Fc zQ 68 #[iv (n:Int)] [] (λv H=>∃s,v=.tuple #[s,iv 0]/\aP 3 .i64 s (iw (List.range n)) H):=by
 refine aE λg=>Av (ae.lss ?_);rw[xak zO];refine cm.or false (λ_=>ae.gtr ⟨rfl,by rw[xak zO]⟩) rfl λ_=>Br.no ?_;refine aa.fq (RS hn) ?_;intro s H hs;exact aF.here ⟨s,rfl,hs⟩
def K0(n cap:Nat):Kd:=⟨n,cap,2,λ_=>none,λ_=>none,[],[]⟩
def S0:Nat->ax.Fn:=λr _=>decide (r=1)
theorem nV{n v:Nat}(hv:v<n):lv (List.range n) v=v:=by
 show(List.range n).getD v 0=v;simp[List.getD,hv]
theorem ad8{n cap:Nat}(hc:2<=cap/\cap<=1048576):Ok (K0 n cap) S0 (lv (List.range n)):=by
 have c0:∀k,nE (λ_=>none) k=0:=λk=>by induction k with|zero=>rfl|succ k ih=>rw[nE,ih];rfl
 have hm:jU (K0 n cap) S0 iR zero':={
  two:=λh=>nomatch h
  var:=λh=>nomatch h
  ne:=λh=>nomatch h
  lo:=λh=>nomatch h
  hi:=λh=>nomatch h
  int:=⟨λ_=>rfl,λ_=>rfl,λh=>nomatch h⟩
  kA:=λd r=>⟨λh=>(nomatch h),λh=>nomatch h.1⟩
  use:=λh=>nomatch h
  len:=rfl
  fit:=λh=>nomatch h
  held:=λr h=>absurd (by simp[Kd.hold,K0]) h
  mx:=λr=>by simp[Kd.hold,K0]
  room:=by show 2=2+nE (λ_=>none) _;rw[c0]
  cap:=hc}
 refine⟨hm,λr d h=>(nomatch h),⟨λv hv=>?_,λu v hu hv h=>?_⟩,⟨λh=>(nomatch h),λh=>(nomatch h),λh=>(nomatch h),λh=>(nomatch h),λh=>(nomatch h),λh=>(nomatch h)⟩⟩
 ·have nZ:v<n:=hv;rw[nV nZ];exact hv
 have Bb:u<n:=hu;have nZ:v<n:=hv;rwa [nV Bb,nV nZ]at h
theorem Dn{pt n cap:Nat}{CT:Hp}(hu:ov pt n (λ_=>none) CT)(hc:2<=cap/\cap<=1048576):Fc zQ 70 #[iv (cap:Int),ptr pt] CT (λv H=>∃pa CA,v=.tuple #[.agg #[ptr pa,ptr pt,.slice none 0 0,.slice none 0 0],iv 0]/\ja pa cap 2 (λ_=>none) CA/\H=CA++CT):=by
 refine aE λg=>Pf λb1 _=>?_;refine aa.fn hnew (Xd hc) ?_;rintro v C ⟨pa,rfl,hA⟩;refine Ext.two (Build.mk (cs:=[ptr pa,ptr pt,.slice none 0 0,.slice none 0 0]) zK (St.q ?_));refine az.q ?_;exact aF.mk (.c8 .tail _) ⟨pa,C,rfl,hA,rfl⟩
theorem YV{n cap:Nat}(hn:1<=n/\n<=64)(hc:2<=cap/\cap<=1048576):Fc zQ 40 #[iv (n:Int),iv (cap:Int)] [] (λv C=>∃kp,v=.tuple #[ptr kp,iv 0]/\cc kp (K0 n cap) S0 (List.range n) (List.range n) [] C):=by
 refine aE λg=>Ax (aa.fq (tL hn.2) ?_);rintro v CO ⟨s,rfl,hO⟩;obtain⟨sa,sl,sc,hse⟩:∃a l c,s=Value.slice a l c:=by obtain⟨a,c,h⟩:=aV.len hO;exact⟨a,_,c,h⟩
 refine Ext.two (ae.cO (cm.or false (λ_=>ae.lss ⟨rfl,by rw[xak zO]⟩) rfl λgs=>?_));refine cm.or false (λ_=>ae.lss ⟨rfl,by rw[xak zO]⟩) rfl λgs=>?_;refine cm.or false (λ_=>ae.gtr ⟨rfl,by rw[xak zO]⟩) rfl λgs=>Br.no ?_;refine aa.fn hnew (UI hn) ?_;rintro v CT ⟨pt,rfl,hT⟩;refine Ext.two (ae.cO (Br.no (aa.fq (Dn hT hc) ?_)));rintro v H ⟨pa,CA,rfl,hA,rfl⟩;refine Ext.two λb24 _=>(St.q ?_);refine ae.cO (Br.no (DR.self (az.q ?_)));refine aa.fq (wU (hO.ints.mono λ_ h=>h) zP) ?_;rintro v H ⟨CL,rfl,hL⟩;obtain⟨la,ll,lc,hle⟩:∃a l c,v=Value.slice a l c:=by obtain⟨a,c,h⟩:=aV.len hL;exact⟨a,_,c,h⟩
 refine⟨(.cons (.c8 .right _)),?_⟩;subst hse hle;refine Build.mk (cs:=[ptr pa,ptr pt,.slice none 0 0,.slice none 0 0,iv (n:Int),.slice sa sl sc,.slice la ll lc,.slice none 0 0]) zK λYk _=>?_;refine⟨(.skip (.cons (.c8 .right _))),?_⟩
 let kb:uD:=⟨pa,pt,.slice none 0 0,.slice none 0 0,.slice sa sl sc,.slice la ll lc,.slice none 0 0,CA,CT,[],[],CO,CL,[]⟩
 refine aF.mk (nH:=kb.hp Yk n) ?_ ⟨Yk,rfl,⟨kb,rfl,⟨hA,hT,aP.nil,aP.nil,hO,hL,aP.nil,⟨rfl,by simp[K0]⟩,hn.2,by simp[K0]⟩⟩,ad8 hc,⟨by simp[K0],λl hl=>?_⟩,λs _=>by simp[Kd.use,K0],trivial⟩
 ·refine .cons (.skip ((aN.assoc).trans ?_));show aN (CA++(CT++(CL++CO))) (CA++(CT++([]++([]++(CO++(CL++[]))))));simp only[xb4,xaL];exact .c8 (.c8 (.perm xbe) _) _
 have hl':l<n:=hl;have e:(List.range n).getD l 0=l:=nV hl';rw[e];exact⟨hl,nV hl'⟩
end
end Go.Proofs
namespace ax
def aA(ord path:zL):zL:=path.foldl fR ord
theorem gB{ord path:zL}{l:Nat}:aA ord (path++[l])=fR (aA ord path) l:=by simp[aA]
theorem cr{ord path q:zL}:aA ord (path++q)=aA (aA ord path) q:=by simp[aA]
theorem fQ{ord:zL}:∀{path:zL},(aA ord path).length=ord.length:=by
 intro path;unfold aA;induction path generalizing ord with
 |nil=>rfl
 |cons l r ih=>rw[xcI,ih];simp[fR]
def mr:Nat->zL
 |2=>[0]
 |3=>[1,0,1,0,1]
 |4=>[2,1,0,2,0,1,2,0,2,1,0,2,0,1,2,0,2,1,0,2,0,1,2]
 |_=>[]
structure Rm where
 n:Nat
 size:zL->Nat
 fit:zL->Nat->Bool
def Rm.dO(m:Rm)(p:Nat):zL->zL->zL
 | [],_=>[]
 |c::cs,ord=>if m.fit ord (p+c)then(p+c)::m.dO p cs (fR ord (p+c))else []
def Rm.keep(m:Rm)(ord path:zL):Nat->Nat
 |0=>0
 |i+1=>if m.size (aA ord (path.take (i+1)))<m.size (aA ord (path.take (m.keep ord path i)))then i+1 else m.keep ord path i
def Rm.visit(m:Rm)(w p:Nat)(ord:zL):zL×Nat:=
 let path:=m.dO p (mr w) ord
 let k:=m.keep ord path path.length
 (path.take k,path.length+(path.length-k))
def Rm.all(m:Rm)(w:Nat)(ord:zL):Nat->zL×Nat
 |0=>([],0)
 |i+1=>let a:=m.all w ord i;let b:=m.visit w i (aA ord a.1);(a.1++b.1,a.2+b.2)
def Rm.pass(m:Rm)(w:Nat)(ord:zL):zL×Nat:=m.all w ord (m.n+1-w)
theorem Rm.mi(m:Rm)(p:Nat):∀cs ord,(m.dO p cs ord).length<=cs.length
 | [],_=>by simp[dO]
 |c::cs,ord=>by
  rw[dO];split
  ·have:=m.mi p cs (fR ord (p+c));simp only[xaB];omega
  simp
theorem Rm.rR(m:Rm)(p:Nat):∀cs ord i,i<(m.dO p cs ord).length->(m.dO p cs ord)[i]? =(cs[i]?).map (p+ ·)/\∃c,cs[i]? =some c/\m.fit (aA ord ((m.dO p cs ord).take i)) (p+c)=true
 | [],_,i,h=>by simp[dO]at h
 |c::cs,ord,i,h=>by
  by_cases hf:m.fit ord (p+c)=true
  ·rw[dO,xae hf]at h⊢;cases i with
   |zero=>exact⟨by simp,c,rfl,hf⟩
   |succ i=>
    obtain⟨h1,c',h2,h3⟩:=m.rR p cs (fR ord (p+c)) i (by simpa using h);exact⟨by simpa using h1,c',by simpa using h2,by simpa[aA]using h3⟩
  rw[dO,xac hf]at h;simp at h
theorem Rm.wB(m:Rm)(p:Nat):∀cs ord c,cs[(m.dO p cs ord).length]? =some c->m.fit (aA ord (m.dO p cs ord)) (p+c)=false
 | [],_,c,h=>by simp at h
 |c'::cs,ord,c,h=>by
  by_cases hf:m.fit ord (p+c')=true
  ·rw[dO,xae hf]at h⊢;have:=m.wB p cs (fR ord (p+c')) c (by simpa using h);simpa[aA]using this
  rw[dO,xac hf]at h⊢;simp only[xch,xcO,xaq]at h;subst h;simpa[aA]using hf
theorem Rm.D3(m:Rm)(p:Nat){cs ord:zL}{l:Nat}(h:l∈m.dO p cs ord):∃c∈cs,l=p+c:=by
 obtain⟨i,hi,e⟩:=List.getElem_of_mem h;obtain⟨h1,c,h2,_⟩:=m.rR p cs ord i hi;rw[xaa hi,e,h2]at h1;exact⟨c,xaw h2,by simpa using h1⟩
theorem Rm.A7(m:Rm)(ord path:zL):∀i,m.keep ord path i<=i
 |0=>xai _
 |i+1=>by rw[keep];split;omega;have:=m.A7 ord path i;omega
theorem Rm.wg(m:Rm)(ord path:zL):∀i j,j<=i->m.size (aA ord (path.take (m.keep ord path i)))<=m.size (aA ord (path.take j))
 |0,j,h=>by
  obtain rfl:j=0:=by omega
  exact xai _
 |i+1,j,h=>by
  by_cases e:j=i+1
  ·subst e;rw[keep];split<;>omega
  have:=m.wg ord path i j zO;rw[keep];split<;>omega
theorem GY{w c:Nat}(h:c∈mr w):c+2<=w:=by
 unfold mr at h;split at h
 ·simp at h;omega
 ·simp at h;omega
 ·simp at h;omega
 simp at h
theorem Md(w:Nat):(mr w).length<=23:=by
 unfold mr;split<;>simp
theorem Rm.MI(m:Rm){w p:Nat}{ord:zL}{l:Nat}(h:l∈(m.visit w p ord).1):l+2<=p+w:=by
 obtain⟨c,hc,rfl⟩:=m.D3 p (xcH h);have:=GY hc;omega
theorem Rm.sk(m:Rm)(w p:Nat)(ord:zL):(m.visit w p ord).1.length<=23/\(m.visit w p ord).2<=46:=by
 have h1:=m.mi p (mr w) ord;have h2:=Md w;have h3:=m.A7 ord (m.dO p (mr w) ord) (m.dO p (mr w) ord).length;constructor
 ·show(List.take _ _).length<=23;rw[xbI];omega
 show _+(_-_)<=46;omega
theorem Rm.Cb(m:Rm)(w p:Nat)(ord:zL):m.size (aA ord (m.visit w p ord).1)<=m.size ord:=by
 have:=m.wg ord (m.dO p (mr w) ord) (m.dO p (mr w) ord).length 0 (xaO _);simpa[visit,aA]using this
theorem Rm.TW(m:Rm)(w:Nat)(ord:zL):∀i,m.size (aA ord (m.all w ord i).1)<=m.size ord
 |0=>xai _
 |i+1=>by
  have h1:=m.TW w ord i;have h2:=m.Cb w i (aA ord (m.all w ord i).1);show m.size (aA ord (_++_))<=_;rw[cr];exact xbS h2 h1
theorem Rm.Mo(m:Rm)(w:Nat)(ord:zL):∀i,(m.all w ord i).1.length<=23*i/\(m.all w ord i).2<=46*i
 |0=>⟨xai _,xai _⟩
 |i+1=>by
  have h1:=m.Mo w ord i;have h2:=m.sk w i (aA ord (m.all w ord i).1);constructor
  ·show((m.all w ord i).1++(m.visit w i (aA ord (m.all w ord i).1)).1).length<=_;rw[xaf];omega
  show(m.all w ord i).2+(m.visit w i (aA ord (m.all w ord i).1)).2<=_;omega
theorem Rm.Mn(m:Rm){w:Nat}{ord:zL}{l:Nat}:∀{i},l∈(m.all w ord i).1->l+3<=i+w
 |0,h=>by simp[all]at h
 |i+1,h=>by
  rcases xan.1 h with h|h
  ·have:=m.Mn h;omega
  have:=m.MI h;omega
theorem Rm.all_succ(m:Rm)(w:Nat)(ord:zL)(i:Nat):m.all w ord (i+1)=((m.all w ord i).1++(m.visit w i (aA ord (m.all w ord i).1)).1,(m.all w ord i).2+(m.visit w i (aA ord (m.all w ord i).1)).2):=rfl
end ax
set_option maxRecDepth 100000
namespace Go.Proofs
open Go Go.Sx Tryz
open ax
def At(kp:Nat)(K:Kd)(S:Nat->ax.Fn)(ord tr:zL)(C:Hp):Prop:=∃K' S' bW,cc kp K' S' ord bW tr C/\Kept K S K' S'
noncomputable def cI(K:Kd)(S:Nat->ax.Fn)(ord:zL):Nat:=sz K.n ord (K.held S)
def je(K:Kd)(S:Nat->ax.Fn)(ord:zL)(l:Nat):Prop:=BO K.n ord l (K.held S)+2<=K.cap
section
variable {kp:Nat} {K:Kd} {S:Nat->ax.Fn} {ord tr:zL} {C:Hp}
theorem cc.bg{ah:zL}(h:cc kp K S ord ah tr C):At kp K S ord tr C:=⟨K,S,ah,h,.refl _ _⟩
theorem DB{ah:zL}(h:cc kp K S ord ah tr C):K.used=cI K S ord+2:=by
 have h1:=Lb (h.ok.size h.od);have h2:=h.ok.mid.room;unfold cI;omega
theorem rK{K':Kd}{S':Nat->ax.Fn}(h:Kept K S K' S')(ord:zL):cI K' S' ord=cI K S ord:=by
 unfold cI;rw[h.n];exact Qm h.held
theorem zm{K':Kd}{S':Nat->ax.Fn}(h:Kept K S K' S')(ord:zL)(l:Nat):je K' S' ord l↔je K S ord l:=by
 unfold je;rw[h.n,h.cap,MP h.held]
theorem At.len(h:At kp K S ord tr C):ord.length=K.n:=by
 obtain⟨K',S',bW,h,hk⟩:=h;rw[<-hk.n];exact h.od.len
theorem gv(h:At kp K S ord tr C):cI K S ord<=1048574:=by
 obtain⟨K',S',bW,h,hk⟩:=h;rw[<-rK hk];have:=DB h;have:=h.ok.mid.cap;omega
theorem At.lY(h:At kp K S ord tr C):K.n<=64:=by
 obtain⟨K',S',bW,h,hk⟩:=h;obtain⟨b,_,hO⟩:=h.rep;rw[<-hk.n];exact hO.lY
theorem cH(h:At kp K S ord tr C):Rd zQ 140 #[ptr kp] C (· =iv ((cI K S ord:Nat):Int)):=by
 obtain⟨K',S',bW,h,hk⟩:=h;have hs:=DB h;have hc:=h.ok.mid.cap;refine(VT h.rep zO zO).mono ?_;rintro v H ⟨rfl,rfl⟩;exact⟨rfl,by rw[hs,rK hk];rfl⟩
theorem r7(h:At kp K S ord tr C):Rd zQ 271 #[ptr kp] C (· =iv ((tr.length:Nat):Int)):=by
 obtain⟨K',S',bW,h,hk⟩:=h;exact NP h.rep
theorem m9(h:At kp K S ord tr C):Rd zQ 185 #[ptr kp] C (· =iv ((K.n:Nat):Int)):=by
 obtain⟨K',S',bW,h,hk⟩:=h;rw[<-hk.n];exact gP h.rep
theorem TQ(h:At kp K S ord tr C):Fc zQ 65 #[ptr kp] C (λr H=>∃N,H=N++C/\aP 3 .i64 r (iw ord) N):=by
 obtain⟨K',S',bW,h,hk⟩:=h;exact zi h.rep
theorem uT(h:At kp K S ord tr C){l:Nat}(hl:l+1<K.n)(eR:tr.length<17592186044416)(hf:je K S ord l):Fc zQ 151 #[ptr kp,iv (l:Int)] C (λr C'=>r=iv 0/\At kp K S (fR ord l) (tr++[l]) C'):=by
 obtain⟨K',S',bW,h,hk⟩:=h;refine(L5 h (by rw[hk.n];exact hl) eR).mono ?_;rintro v C' (⟨_,rfl,K2,S2,YZ,h2,rO⟩|⟨hno,_,_⟩)
 ·exact⟨rfl,K2,S2,YZ,h2,hk.trans rO⟩
 have:=(zm hk ord l).2 hf;unfold je at this;omega
theorem nf(h:At kp K S ord tr C){l:Nat}(hl:l+1<K.n)(eR:tr.length<17592186044416)(hf:¬je K S ord l):Rd zQ 151 #[ptr kp,iv (l:Int)] C (· =iv 9):=by
 obtain⟨K',S',bW,h,hk⟩:=h;refine(L5 h (by rw[hk.n];exact hl) eR).mono ?_;rintro v C' (⟨RT,_⟩|⟨hno,rfl,rfl⟩)
 ·exact absurd ((zm hk ord l).1 RT) hf
 exact⟨rfl,rfl⟩
theorem BD{l:Nat}(h:At kp K S ord (tr++[l]) C)(eR:tr.length<17592186044416):Fc zQ 338 #[ptr kp] C (λr C'=>r=.tuple #[iv (l:Int),iv 0]/\At kp K S (fR ord l) tr C'):=by
 obtain⟨K',S',bW,h,hk⟩:=h;refine(UJ h eR).mono ?_;rintro v C' ⟨rfl,_,K2,S2,YZ,h2,rO⟩;exact⟨rfl,K2,S2,YZ,h2,hk.trans rO⟩
theorem Yz(h:At kp K S ord tr C){l:Nat}(hl:l+1<K.n)(eR:tr.length<17592186044416)(hf:je K S ord l):Fc zQ 272 #[ptr kp,iv (l:Int)] C (λr C'=>
   r=.tuple #[.agg #[iv (l:Int),iv ((cI K S ord:Nat):Int),iv ((cI K S (fR ord l):Nat):Int)],iv 0]/\At kp K S (fR ord l) (tr++[l]) C'):=by
 refine aE λg=>xI λb1 _=>?_;refine aa.eq (cH h) (Build.mk (cs:=[iv (l:Int),iv ((cI K S ord:Nat):Int),iv 0]) zK λb6 _=>?_);refine St.q ?_;refine aa.fq (uT h hl eR hf) ?_;rintro v C' ⟨rfl,h'⟩;refine ae.cO (Br.F (aa.eq (cH h') (ai.mk (St.one (by exact .head _) rfl zI rfl ?_))));refine az.q ?_;refine St.q ?_;refine az.q ?_;exact aF.mk (.skip .tail) ⟨rfl,h'⟩
theorem YA(h:At kp K S ord tr C){l:Nat}(hl:l+1<K.n)(eR:tr.length<17592186044416)(hf:¬je K S ord l):Rd zQ 272 #[ptr kp,iv (l:Int)] C (· =.tuple #[.agg #[iv 0,iv 0,iv 0],iv 9]):=by
 refine aE λg=>xI λb1 _=>?_;refine aa.eq (cH h) (Build.mk (cs:=[iv (l:Int),iv ((cI K S ord:Nat):Int),iv 0]) zK λb6 _=>?_);refine St.q ?_;refine aa.eq (nf h hl eR hf) (ae.cO (Br.T (Build.mk (cs:=[iv 0,iv 0,iv 0]) zK (St.q ?_))));refine az.q ?_;exact br.mk (.skip .tail) rfl
theorem Mi{path:zL}(h:At kp K S (aA ord path) (tr++path) C)(hp:∀l∈path,l+1<K.n){k:Nat}(hk:k<=path.length)(eR:(tr++path).length<17592186044416):Fc zQ 273 #[ptr kp,iv ((tr.length+k:Nat):Int)] C (λr C'=>
   r=.tuple #[iv ((path.length-k:Nat):Int),iv 0]/\At kp K S (aA ord (path.take k)) (tr++path.take k) C'):=by
 have hlen:=h.len;rw[fQ]at hlen;rw[xaf]at eR;refine aE λg=>I9 (ae.aI (Br.no ?_));intro J2 BZ;refine ae.lss ?_;rw[xak zO];refine Split.go rfl (aa.eq (r7 h) (ae.gtr ?_));rw[xak (by rw[xaf];omega)];refine aM.mk (JE.mk (BZ _ _ λgs=>Br.no ?_));refine⟨λvs H=>∃m,m<=path.length/\k<=m/\vs=[iv ((path.length-m:Nat):Int)]/\At kp K S (aA ord (path.take m)) (tr++path.take m) H,λvs _=>path.length-bJ vs 0,JE.mk ⟨path.length,xai _,hk,by simp,by simpa using h⟩,?_⟩;rintro w H ⟨m,hm,hkm,hw,BX⟩ gs;simp only[xax,xa0]at hw;subst hw;refine aa.eq (r7 BX) (ae.nq (Br.dec (λhlt=>?_) (λhlt=>?_)))
 ·rw[xaf,xbI]at hlt;obtain⟨m,rfl⟩:∃m',m=m'+1:=⟨m-1,by omega⟩;have e:path.take (m+1)=path.take m++[path[m]]:=by rw[xbs,xaa zO];rfl
  rw[e,<-xaj,gB]at BX;refine aa.fq (BD BX zP) ?_;rintro v C' ⟨rfl,h'⟩;rw[q5 (by rw[fQ,hlen];exact hp _ (xaF _))]at h';refine ae.inc (aC.of (.refl _) ⟨m,by omega,by omega,by rw[show path.length-(m+1)+1=path.length-m by omega],h'⟩ ?_);show path.length-(((path.length-(m+1)+1:Nat):Int).toNat)<path.length-(((path.length-(m+1):Nat):Int).toNat);omega
 rw[xaf,xbI]at hlt;obtain rfl:m=k:=by omega
 exact aF.here ⟨rfl,BX⟩
end
theorem GZ{w:Nat}(hw:2<=w/\w<=4):Fc zQ 269 #[iv (w:Int)] [] (λv H=>∃s,v=.tuple #[s,iv 0]/\aP 3 .i64 s (iw (mr w)) H):=by
 refine aE λg=>Jc ?_;obtain rfl|rfl|rfl:w=2\/w=3\/w=4:=by omega
 ·refine ae.gX (Br.T (au.int (e:=3) zK zK zK λbx=>?_));exact aF.here ⟨_,rfl,aP.made [0]⟩
 ·refine ae.gX (Br.F (ae.gX (Br.T (⟨ay .i64 (iw (mr 3)),3,1,iv 0,by kernel_rfl,by kernel_rfl,by kernel_rfl,by decide,by kernel_rfl,λbx _=>?_⟩))));exact aF.here ⟨_,rfl,aP.made (iw (mr 3))⟩
 refine ae.gX (Br.F (ae.gX (Br.F (ae.gX (Br.T (⟨ay .i64 (iw (mr 4)),3,1,iv 0,by kernel_rfl,by kernel_rfl,by kernel_rfl,by decide,by kernel_rfl,λbx _=>?_⟩))))));exact aF.here ⟨_,rfl,aP.made (iw (mr 4))⟩
end Go.Proofs
namespace Go.Sx
open Go
section
variable {P:Program} {g:Gh} {H:Hp}
theorem jb.nat{len size b o j:Nat}{kd:IntKind}{k:zV->Prop}(h1:j<len)(h:k (.pointer (some ⟨b,o+j*size,none⟩))):jb len size (.pointer (some ⟨b,o,none⟩)) (.int kd (j:Int)) k:=
 ⟨b,o,kd,(j:Int),rfl,rfl,by omega,by omega,by simpa using h⟩
theorem jM.adZ{o:Oper}{ρ:Operand->zV}{k:zV->Prop}{t e:TypeId}{q kd:IntKind}{n j:Nat}{x i:Operand}{l:List Int}{z:Int}(ho:o.op=.index t x i)(hx:ρ x=.agg (ay q l))(hi:ρ i=.int kd (j:Int))
 (ht:P.underlying t=some (.array n e))(hu:P.underlying e=some (.int q))(hz:dL P e=some 1)(hj:j<n)(hl:l[j]? =some z)(hk:k (.int q z)):jM P g o ρ H k:=by
 obtain⟨inf,agm,hs⟩:=bG hz;refine⟨_,λw _=>?_,hk⟩;have hp:=ri (P:=P) hu hl w;have Sy:(0:Int)<=(j:Int)/\(j:Int)<(n:Int):=by omega
 simp only[execOp,ho,Instr.index,hx,hi,asIntOf,Sem.run_bind,Sem.run_pure,Result.andThen_ok,run_underlying ht,run_sizeOf agm,hs,xae Sy,xa3,xbV,hp]
end
end Go.Sx
namespace ax
open ak
def clr(m v:Nat):Nat:=if m.testBit v then m^^^2^v else m
def rest(m:Nat)(ord:zL):Nat->Nat
 |0=>m
 |k+1=>clr (rest m ord k) (ord.getD k 0)
section
variable {n m o:Nat} {ord:zL} {F:Fn->Prop}
theorem getD_inj(hn:ord.Nodup){i j:Nat}(hi:i<ord.length)(hj:j<ord.length)(e:ord.getD i 0=ord.getD j 0):i=j:=by
 rw[xar,xar,xaa hi,xaa hj]at e;exact(List.getElem_inj hn).1 e
theorem Qo{l:Nat}(hl:l+1<ord.length):(fR ord l).Perm ord:=by
 unfold fR;have e1:ord=ord.take l++ord.getD l 0::ord.getD (l+1) 0::ord.drop (l+2):=by
  conv=>lhs;rw[<-xbt l ord]
  congr 1;rw[xbu zO,xbu zO];simp[List.getD,xaa (show l<ord.length by omega),xaa hl]
 have ht:(ord.take l).length=l:=by simp;omega
 have e2:(ord.set l (ord.getD (l+1) 0)).set (l+1) (ord.getD l 0)=ord.take l++ord.getD (l+1) 0::ord.getD l 0::ord.drop (l+2):=by
  generalize hx:ord.getD l 0=x at*;generalize hy:ord.getD (l+1) 0=y at*
  conv=>lhs;rw[e1]
  rw[xcE _ _ zO,ht,xcV,xcB,xcE _ _ zO,ht,Nat.add_sub_cancel_left,xeh,xcB]
 rw[e2]
 conv=>rhs;rw[e1]
 exact xbZ _ (List.Perm.swap _ _ _)
theorem lF:∀{path:zL} {ord:zL},(∀l∈path,l+1<ord.length)->(aA ord path).Perm ord
 | [],_,_=>.refl _
 |l::r,ord,h=>by
  show(aA (fR ord l) r).Perm ord;have h1:=h l zI;exact(lF λx hx=>by rw[mN];exact h x (by simp[hx])).trans (Qo h1)
end
def flat(n s:Nat):Rm:=⟨n,λ_=>s,λ_ _=>true⟩
end ax
namespace ax
def G5(i:Nat):Nat->zL
 |0=>[]
 |j+1=>if i<=j then j::G5 i j else []
theorem By{i j:Nat}(h:j<=i):G5 i j=[]:=by
 cases j with
 |zero=>rfl
 |succ j=>rw[G5,xac zO]
theorem r6{i j:Nat}(h:i<=j):G5 i (j+1)=j::G5 i j:=by rw[G5,xae h]
theorem Me{i l:Nat}:∀{j},l∈G5 i j->i<=l/\l<j
 |0,h=>by simp[G5]at h
 |j+1,h=>by
  by_cases e:i<=j
  ·rw[r6 e]at h;rcases xal.1 h with rfl|h
   ·omega
   have:=Me h;omega
  rw[By zO]at h;simp at h
theorem Bx(i:Nat):∀j,(G5 i j).length=j-i
 |0=>by simp[G5]
 |j+1=>by
  by_cases e:i<=j
  ·rw[r6 e,xaB,Bx i j];omega
  rw[By zO];simp;omega
theorem Mf{i k:Nat}:∀{j:Nat} {a:zL},i<=j->j<a.length->(k<=i->(aA a (G5 i j)).getD k 0=if k=i then a.getD j 0 else a.getD k 0)
 |0,a,hi,hj,hk=>by
  obtain rfl:i=0:=by omega
  obtain rfl:k=0:=by omega
  simp[G5,aA]
 |j+1,a,hi,hj,hk=>by
  by_cases e:i<=j
  ·rw[r6 e];show(aA (fR a j) (G5 i j)).getD k 0=_;rw[Mf (j:=j) e (by rw[mN];omega) hk,fx zO,fx zO];by_cases h:k=i
   ·subst h;simp
   rw[xac h,xac h,xac zO,xac zO]
  obtain rfl:i=j+1:=by omega
  rw[By (xai _)];show a.getD k 0=_;split
  ·rename_i h;rw[h]
  rfl
def plc(p:zL)(x:Nat):Nat:=p.idxOf x
def ew(p q:zL):Nat->zL
 |0=>[]
 |i+1=>ew p q i++G5 i (plc (aA p (ew p q i)) (q.getD i 0))
def path(p q:zL):zL:=ew p q q.length
theorem Q6{p:zL}{x:Nat}(h:x∈p):plc p x<p.length:=List.idxOf_lt_length_iff.2 h
theorem Lr{p:zL}{x:Nat}(h:x∈p):p.getD (plc p x) 0=x:=by
 have h1:=Q6 h;rw[xar,xaa h1];show p[p.idxOf x]=x;exact List.getElem_idxOf h1
section
variable {p q:zL}
theorem j3(hq:q.Nodup)(hp:p.Perm q):∀i,i<=q.length->(∀l∈ew p q i,l+1<p.length)/\(∀k,k<i->(aA p (ew p q i)).getD k 0=q.getD k 0)/\(i<q.length->i<=plc (aA p (ew p q i)) (q.getD i 0)/\plc (aA p (ew p q i)) (q.getD i 0)<p.length)
 |i,hi=>by
  have hlen:=hp.length_eq;have base:(∀l∈ew p q i,l+1<p.length)/\(∀k,k<i->(aA p (ew p q i)).getD k 0=q.getD k 0):=by
   cases i with
   |zero=>exact⟨λl hl=>by simp[ew]at hl,λk hk=>absurd hk (xcX _)⟩
   |succ i=>
    obtain⟨h1,h2,h3⟩:=j3 hq hp i zO;obtain⟨h4,h5⟩:=h3 zO;have hm:q.getD i 0∈aA p (ew p q i):=by
     have:q.getD i 0∈q:=by rw[xar,xaa (show i<q.length by omega)];exact xaF _
     exact((lF h1).trans hp).mem_iff.2 this
    refine⟨λl hl=>?_,λk hk=>?_⟩
    ·rcases xan.1 hl with hl|hl
     ·exact h1 l hl
     have:=Me hl;omega
    rw[ew,cr,Mf h4 (by rw[fQ];exact h5) zO];split
    ·rename_i e;subst e;exact Lr hm
    exact h2 k zO
  refine⟨base.1,base.2,λhlt=>?_⟩;have hm:q.getD i 0∈aA p (ew p q i):=by
   have:q.getD i 0∈q:=by rw[xar,xaa hlt];exact xaF _
   exact((lF base.1).trans hp).mem_iff.2 this
  have h5:=Q6 hm;rw[fQ]at h5;refine⟨?_,h5⟩;refine xaD λqy=>?_;have:=base.2 _ (Nat.lt_of_not_le qy);rw[Lr hm]at this;have:=getD_inj hq hlt zO this;omega
theorem AY(hq:q.Nodup)(hp:p.Perm q):aA p (path p q)=q/\∀l∈path p q,l+1<p.length:=by
 obtain⟨h1,h2,_⟩:=j3 hq hp q.length (xai _);refine⟨Ed (by rw[fQ];exact hp.length_eq) λi hi=>h2 i ?_,h1⟩;rw[fQ,hp.length_eq]at hi;exact hi
theorem sH(hq:q.Nodup)(hp:p.Perm q):∀i,i<=q.length->(ew p q i).length<=i*p.length
 |0,_=>by simp[ew]
 |i+1,hi=>by
  have:=sH hq hp i zO;obtain⟨_,_,h3⟩:=j3 hq hp i zO;rw[ew,xaf,Bx,xbx];have:=(h3 zO).2;omega
end
end ax
namespace ax
open ak
section
variable {n l:Nat} {ord:zL} {F G:Fn->Prop} {f c:Fn}
theorem zW:∀l g,fs ord (λg=>F g\/G g) l g↔fs ord F l g\/fs ord G l g
 |0,g=>xcY
 |l+1,g=>by
  constructor
  ·rintro⟨f,hf,b,rfl⟩;rcases(zW l f).1 hf with h|h
   ·exact .inl ⟨f,h,b,rfl⟩
   exact .inr ⟨f,h,b,rfl⟩
  rintro(⟨f,hf,b,rfl⟩|⟨f,hf,b,rfl⟩)
  ·exact⟨f,(zW l f).2 (.inl hf),b,rfl⟩
  exact⟨f,(zW l f).2 (.inr hf),b,rfl⟩
theorem Dl(g:Fn):aH n ord (λg=>F g\/G g) g↔aH n ord F g\/aH n ord G g:=by
 constructor
 ·rintro⟨l,hl,hf,hh⟩;rcases(zW l g).1 hf with h|h
  ·exact .inl ⟨l,hl,h,hh⟩
  exact .inr ⟨l,hl,h,hh⟩
 rintro(⟨l,hl,hf,hh⟩|⟨l,hl,hf,hh⟩)
 ·exact⟨l,hl,(zW l g).2 (.inl hf),hh⟩
 exact⟨l,hl,(zW l g).2 (.inr hf),hh⟩
theorem cQ{v:Nat}(h:¬cG f v)(x:Nat)(b:Bool):f (aB x v b)=f x:=by
 have h0:f (aB x v false)=f (aB x v true):=xaD λhne=>h ⟨x,hne⟩;have h1:=iz x v
 conv=>rhs;rw[<-h1]
 cases b<;>cases x.testBit v<;>simp[h0]
theorem Bn(hi:∀j,j<l->¬cG f (ord.getD j 0)):∀k,k<=l->fs ord (λg=>g=f) k f
 |0,_=>rfl
 |k+1,hk=>⟨f,Bn hi k zO,false,funext λx=>(cQ (hi k zO) x false).symm⟩
theorem uN(hi:∀j,j<l->¬cG f (ord.getD j 0)):∀k,k<=l->∀g,fs ord (λg=>g=f) k g->g=f
 |0,_,g,h=>h
 |k+1,hk,g,h=>by
  obtain⟨f',hf,b,rfl⟩:=h;obtain rfl:=uN hi k zO f' hf;exact funext λx=>cQ (hi k zO) x b
theorem jO(hi:∀j,j<l->¬cG f (ord.getD j 0)){b:Bool}(hc:c=λx=>f (aB x (ord.getD l 0) b)):
  (∀j,j<l+1->¬cG c (ord.getD j 0))/\∀g,aH n ord (λg=>g=c) g->aH n ord (λg=>g=f) g:=by
 have h1:fs ord (λg=>g=f) (l+1) c:=⟨f,Bn hi l (xai _),b,hc⟩;have h2:∀j,j<l+1->¬cG c (ord.getD j 0):=λj hj=>wE (l+1) c h1 j hj;refine⟨h2,?_⟩;rintro g ⟨m,hm,hf,hh⟩;by_cases e:m<l+1
 ·obtain rfl:=uN h2 m zO g hf;exact absurd hh (h2 m e)
 have key:∀d g,fs ord (λg=>g=c) (l+1+d) g->fs ord (λg=>g=f) (l+1+d) g:=λd=>by
  induction d with
  |zero=>intro g hg;obtain rfl:=uN h2 (l+1) (xai _) g hg;exact h1
  |succ d ih=>rintro g ⟨f',Sn,b',rfl⟩;exact⟨f',ih f' Sn,b',rfl⟩
 obtain⟨d,rfl⟩:∃d,m=l+1+d:=⟨m-(l+1),by omega⟩;exact⟨_,hm,key d g hf,hh⟩
theorem oJ(hi:∀j,j<l->¬cG f (ord.getD j 0))(hl:l<n)(hh:cG f (ord.getD l 0)):aH n ord (λg=>g=f) f:=⟨l,hl,Bn hi l (xai _),hh⟩
end
section
variable {K:Kd} {S:Nat->Fn} {ah:Nat->Nat} {ord:zL}
theorem Ok.below(h:Ok K S ah)(ho:Ord K.n ah ord){r l:Nat}(hr:live K.N r)(hl:l<=K.n)(hi:∀j,j<l->¬cG (S r) (ord.getD j 0)):l<=dep K.n ah K.N r:=by
 cases e:K.N r with
 |none=>rw[aU e];exact hl
 |some d=>
  rw[an e];refine xaD λhlt=>?_;have gp:ah d.v<l:=Nat.lt_of_not_le hlt;have:=hi _ gp;rw[ho.of h.lv (h.mid.var e)]at this;exact this (gk h.wf h.lv h.mid.int e)
theorem Ok.roomFor(h:Ok K S ah)(ho:Ord K.n ah ord){U:Fn->Prop}{k:Nat}(hk:pH U k)(hfit:k+2<=K.cap)(hU:∀g,aH K.n ord (K.held S) g->U g){d:Nd}
 (hlo:live K.N d.lo)(hhi:live K.N d.hi)(hne:d.lo≠d.hi)(hv:d.v<K.n)(hlt:ah d.v<dep K.n ah K.N d.lo/\ah d.v<dep K.n ah K.N d.hi)(hg:U (ite S d))(hT:K.T d=none):K.used<K.cap:=by
 have hs:=h.size ho;have hu:=h.mid.room;obtain⟨l1,a1,a2,a3⟩:=hs;have ZA:ite S d∉l1:=λhm=>by
  obtain⟨r,e,hr,he⟩:=(nS h.wf h.lv ho h.mid.int (λr hr=>.inr (h.mid.held r hr)) h.reach (ite S d)).1 ((a3 _).2 hm);have hTd:¬K.N r=some d:=λhN=>by
   have:=(h.mid.kA d r).2 ⟨hN,λx=>x⟩;rw[hT]at this;cases this
  apply hTd;have RY:S r=ite S d:=he.symm;have RU:e.v=d.v:=by
   have e1:=h.lv.lt e.v (h.mid.var hr);have e2:=h.lv.lt d.v hv;rcases xcM (ah e.v) (ah d.v)with hh|hh|hh
   ·exfalso;obtain⟨z,hz⟩:=gk h.wf h.lv h.mid.int hr;rw[RY]at hz;apply hz;unfold ite;have i1:=h.wf.bN h.lv h.mid.int hlo (h.mid.var hr) zO;have i2:=h.wf.bN h.lv h.mid.int hhi (h.mid.var hr) zO;have Gy:d.v≠e.v:=λpN=>by rw[pN]at hh;omega
    simp only[aj,xac Gy,i1,i2]
   ·exact h.lv.inj _ _ (h.mid.var hr) hv hh
   exfalso;have hx:=h.wf.bN h.lv h.mid.int (r:=r) (.inr ⟨e,hr⟩) hv (by rw[an hr];exact hh);apply hne;refine h.wf.same h.lv h.mid.int hlo hhi λx=>?_;have i1:=h.wf.bN h.lv h.mid.int hlo hv hlt.1;have i2:=h.wf.bN h.lv h.mid.int hhi hv hlt.2;have q1:=hx x false;have q2:=hx x true;rw[RY]at q1 q2;have q3:=q1.trans q2.symm;unfold ite at q3;simp only[aj,xa7,i1,i2,xaS,xa1]at q3;exact q3
  have kQ:∀(b:Bool) x,S (if b then e.hi else e.lo) x=S (if b then d.hi else d.lo) x:=λb x=>by
   rw[<-h.wf.child h.lv h.mid.int hr x b,RY,RU];have i1:=h.wf.bN h.lv h.mid.int hlo hv hlt.1;have i2:=h.wf.bN h.lv h.mid.int hhi hv hlt.2;unfold ite;rw[aj,xae rfl,i1,i2];cases b<;>rfl
  have e1:e.lo=d.lo:=h.wf.same h.lv h.mid.int (h.mid.lo hr) hlo λx=>kQ false x;have e2:e.hi=d.hi:=h.wf.same h.lv h.mid.int (h.mid.hi hr) hhi λx=>kQ true x;have hed:∀a b:Nd,a.v=b.v->a.lo=b.lo->a.hi=b.hi->a=b:=λa b h1 h2 h3=>by
   cases a;cases b;cases h1;cases h2;cases h3;rfl
  rw[hr,hed e d RU e1 e2]
 obtain⟨l2,b1,b2,b3⟩:=hk;have:=cy (l:=ite S d::l1) (l':=l2) (xaX.2 ⟨ZA,a1⟩) λg X3=>by
  rcases xal.1 X3 with rfl|X3
  ·exact(b3 _).1 hg
  exact(b3 _).1 (hU g ((a3 g).2 X3))
 rw[xaB]at this;omega
end
end ax
namespace ax
open ak
def ef(N:eG)(v:Nat)(b:Bool)(r:Nat):Nat:=match N r with
 |some d=>if d.v=v then(if b then d.hi else d.lo)else r
 |none=>r
def iZ(N:eG)(v:Nat)(b:Bool)(q:zL):zL:=q.map (ef N v b)
structure uC(n:Nat)(ah:Nat->Nat)(N:eG)(q:zL)(v:Nat):Prop where
 lt:v<n
 ex:∃r∈q,∃d,N r=some d/\d.v=v
 le:∀r∈q,ah v<=dep n ah N r
inductive Tree(n:Nat)(ah:Nat->Nat)(N:eG):zL->Nat->Prop
 |leaf {q:zL} (h:∀r∈q,N r=none):Tree n ah N q 0
 |node {q:zL} {v a b:Nat} (h:uC n ah N q v) (ha:Tree n ah N (iZ N v false q) a) (hb:Tree n ah N (iZ N v true q) b):Tree n ah N q (a+b+1)
def uA(t:Bool->Bool->Bool->Bool)(S:Nat->Fn)(q:zL):Fn:=λx=>t (S (q.getD 0 0) x) (S (q.getD 1 0) x) (S (q.getD 2 0) x)
section
variable {n:Nat} {ah:Nat->Nat} {N:eG} {S:Nat->Fn} {q:zL} {v:Nat}
theorem uC.uniq(hl:jV n ah){u:Nat}(h:uC n ah N q v)(h':uC n ah N q u):v=u:=by
 obtain⟨r,hr,d,hd,rfl⟩:=h.ex;obtain⟨s,hs,e,he,rfl⟩:=h'.ex;have a:=h.le s hs;have b:=h'.le r hr;rw[an he]at a;rw[an hd]at b;exact hl.inj _ _ h.lt h'.lt zO
theorem gh(h:WF n ah N)(hl:jV n ah)(hi:Interp N S){r:Nat}(hr:live N r)(hv:v<n)(hle:ah v<=dep n ah N r)(b:Bool):
  (∀x,S (ef N v b r) x=S r (aB x v b))/\live N (ef N v b r)/\ah v+1<=dep n ah N (ef N v b r):=by
 have hlt:=hl.lt v hv;unfold ef;cases e:N r with
 |none=>
  simp only;refine⟨λx=>?_,hr,by rw[aU e];omega⟩;exact(h.bN hl hi hr hv (by rw[aU e];exact hlt) x b).symm
 |some d=>
  simp only;rw[an e]at hle;by_cases ev:d.v=v
  ·rw[xae ev];subst ev;refine⟨λx=>(h.child hl hi e x b).symm,?_,?_⟩
   ·cases b
    ·exact(h.lo e).1
    exact(h.hi e).1
   cases b
   ·exact(h.lo e).2
   exact(h.hi e).2
  rw[xac ev];have hne:ah v≠ah d.v:=λe2=>ev (hl.inj _ _ (h.var e) hv e2.symm);refine⟨λx=>(h.bN hl hi hr hv (by rw[an e];omega) x b).symm,hr,by rw[an e];omega⟩
theorem Tu(b:Bool):(iZ N v b q).length=q.length:=by simp[iZ]
theorem Tv{b:Bool}{i:Nat}(hi:i<q.length):(iZ N v b q).getD i 0=ef N v b (q.getD i 0):=by
 simp[iZ,List.getD,xaa hi]
theorem po(h:WF n ah N)(hl:jV n ah)(hi:Interp N S)(hq:∀r∈q,live N r)(ht:uC n ah N q v)(b:Bool):
  (∀r∈iZ N v b q,live N r)/\(∀r∈iZ N v b q,ah v+1<=dep n ah N r):=by
 constructor
 ·intro r hr;obtain⟨s,hs,rfl⟩:=xao.1 hr;exact(gh h hl hi (hq s hs) ht.lt (ht.le s hs) b).2.1
 intro r hr;obtain⟨s,hs,rfl⟩:=xao.1 hr;exact(gh h hl hi (hq s hs) ht.lt (ht.le s hs) b).2.2
theorem L7(h:WF n ah N)(hl:jV n ah)(hi:Interp N S)(h3:q.length=3)(hq:∀r∈q,live N r)(ht:uC n ah N q v)(t:Bool->Bool->Bool->Bool)(b:Bool):uA t S (iZ N v b q)=λx=>uA t S q (aB x v b):=by
 funext x
 have key:∀i,i<3->S ((iZ N v b q).getD i 0) x=S (q.getD i 0) (aB x v b):=λi ZK=>by
  have hi':i<q.length:=by omega
  rw[Tv hi'];have hm:q.getD i 0∈q:=by rw[xar,xaa hi'];exact xaF _
  exact(gh h hl hi (hq _ hm) ht.lt (ht.le _ hm) b).1 x
 unfold uA;rw[key 0 zO,key 1 zO,key 2 zO]
theorem z6(h:WF n ah N)(hl:jV n ah)(hi:Interp N S){ord:zL}(ho:Ord n ah ord)(h3:q.length=3)(hq:∀r∈q,live N r){l:Nat}(BU:l<=n)(hle:∀r∈q,l<=dep n ah N r)(t:Bool->Bool->Bool->Bool):∀j,j<l->¬cG (uA t S q) (ord.getD j 0):=by
 rintro j hj ⟨x,hx⟩;apply hx;obtain⟨o1,o2⟩:=ho.bg j zO;have key:∀i,i<3->∀b,S (q.getD i 0) (aB x (ord.getD j 0) b)=S (q.getD i 0) x:=λi ZK b=>by
  have hi':i<q.length:=by omega
  have hm:q.getD i 0∈q:=by rw[xar,xaa hi'];exact xaF _
  exact h.bN hl hi (hq _ hm) o1 (by rw[o2];exact xaN hj (hle _ hm)) x b
 unfold uA;simp only[key 0 zO,key 1 zO,key 2 zO]
theorem Oi(hi:Interp N S)(h3:q.length=3)(hq:∀r∈q,r<2)(t:Bool->Bool->Bool->Bool)(x:Nat):uA t S q x=t (decide (q.getD 0 0=1)) (decide (q.getD 1 0=1)) (decide (q.getD 2 0=1)):=by
 have key:∀i,i<3->S (q.getD i 0) x=decide (q.getD i 0=1):=λi ZK=>by
  have hi':i<q.length:=by omega
  have hm:q.getD i 0∈q:=by rw[xar,xaa hi'];exact xaF _
  have:=hq _ hm;have h2:q.getD i 0=0\/q.getD i 0=1:=by omega
  rcases h2 with e|e<;>rw[e]
  ·rw[hi.zero];rfl
  rw[hi.one];rfl
 unfold uA;rw[key 0 zO,key 1 zO,key 2 zO]
theorem Qj(h:WF n ah N):∀{q:zL},(∃r∈q,∃d,N r=some d)->(hl:jV n ah)->∃v,uC n ah N q v
 | [],he,_=>by obtain⟨r,hr,_⟩:=he;cases hr
 |s::q,he,hl=>by
  by_cases hq:∃r∈q,∃d,N r=some d
  ·obtain⟨v,hv⟩:=Qj h hq hl;cases es:N s with
   |none=>
    refine⟨v,hv.lt,?_,λr hr=>?_⟩
    ·obtain⟨r,hr,x⟩:=hv.ex;exact⟨r,by simp[hr],x⟩
    rcases xal.1 hr with rfl|hr
    ·rw[aU es];exact xca (hl.lt v hv.lt)
    exact hv.le r hr
   |some d=>
    by_cases hlt:ah d.v<=ah v
    ·refine⟨d.v,h.var es,⟨s,by simp,d,es,rfl⟩,λr hr=>?_⟩;rcases xal.1 hr with rfl|hr
     ·rw[an es];exact xai _
     exact xbS hlt (hv.le r hr)
    refine⟨v,hv.lt,?_,λr hr=>?_⟩
    ·obtain⟨r,hr,x⟩:=hv.ex;exact⟨r,by simp[hr],x⟩
    rcases xal.1 hr with rfl|hr
    ·rw[an es];omega
    exact hv.le r hr
  obtain⟨r,hr,d,hd⟩:=he;rcases xal.1 hr with rfl|hr
  ·refine⟨d.v,h.var hd,⟨r,by simp,d,hd,rfl⟩,λs hs=>?_⟩;rcases xal.1 hs with rfl|hs
   ·rw[an hd];exact xai _
   have:N s=none:=by
    cases e:N s with
    |none=>rfl
    |some d'=>exact absurd ⟨s,hs,d',e⟩ hq
   rw[aU this];exact xca (hl.lt _ (h.var hd))
  exact absurd ⟨r,hr,d,hd⟩ hq
theorem UN(h:WF n ah N)(hl:jV n ah)(hi:Interp N S):∀(k l:Nat) (q:zL),n-l<=k->l<=n->(∀r∈q,live N r)->(∀r∈q,l<=dep n ah N r)->∃c,Tree n ah N q c/\c+1<=2^(n-l):=by
 intro k;induction k with
 |zero=>
  intro l q hk BU hq hd;refine⟨0,.leaf λr hr=>?_,xej⟩;cases e:N r with
  |none=>rfl
  |some d=>have:=hd r hr;rw[an e]at this;have:=hl.lt _ (h.var e);omega
 |succ k ih=>
  intro l q hk BU hq hd;by_cases he:∃r∈q,∃d,N r=some d
  ·obtain⟨v,hv⟩:=Qj h he hl;have hlv:=hl.lt v hv.lt;have nD:l<=ah v:=by
    obtain⟨r,hr,d,dR,rfl⟩:=hv.ex;have:=hd r hr;rwa [an dR]at this
   obtain⟨f1,f2⟩:=po (S:=S) h hl hi hq hv false;obtain⟨t1,t2⟩:=po (S:=S) h hl hi hq hv true;obtain⟨a,ha,qz⟩:=ih (ah v+1) _ zO hlv f1 f2;obtain⟨b,hb,rP⟩:=ih (ah v+1) _ zO hlv t1 t2;refine⟨a+b+1,.node hv ha hb,?_⟩;have e1:2^(n-ah v)=2*2^(n-(ah v+1)):=by
    rw[show n-ah v=(n-(ah v+1))+1 by omega,xdt,xcm]
   have e2:2^(n-ah v)<=2^(n-l):=xaA zD zO;omega
  refine⟨0,.leaf λr hr=>?_,xej⟩;cases e:N r with
  |none=>rfl
  |some d=>exact absurd ⟨r,hr,d,e⟩ he
def mW(N:eG)(v:Nat)(b:Bool)(q:zL)(i:Nat):zL:=(iZ N v b q).take i++q.drop i
theorem Dq{b:Bool}{i:Nat}(hi:i<=q.length):(mW N v b q i).length=q.length:=by simp[mW,iZ];omega
theorem y2(b:Bool):mW N v b q 0=q:=by simp[mW]
theorem Rr(b:Bool):mW N v b q q.length=iZ N v b q:=by
 unfold mW;rw[xcw (by rw[Tu];exact xai _),xev,xaL]
theorem sJ{b:Bool}{i r:Nat}(hr:q[i]? =some r):(mW N v b q i).set i (ef N v b r)=mW N v b q (i+1):=by
 have hi:=(xah.1 hr).1;have he:=(xah.1 hr).2;have hl:((iZ N v b q).take i).length=i:=by simp[iZ];omega
 have hc:(iZ N v b q)[i]? =some (ef N v b r):=by simp[iZ,hr]
 unfold mW;rw[xcE _ _ zO,hl,xcV,xbu hi,xcB,xbs,hc,xaj];rfl
theorem y3{b:Bool}{i r:Nat}(hr:q[i]? =some r)(h:ef N v b r=r):mW N v b q (i+1)=mW N v b q i:=by
 rw[<-sJ hr,h];have hi:=(xah.1 hr).1;have he:=(xah.1 hr).2;have hl:((iZ N v b q).take i).length=i:=by simp[iZ];omega
 unfold mW;rw[xcE _ _ zO,hl,xcV,xbu hi,xcB,he]
end
end ax
set_option maxRecDepth 100000
namespace Go.Proofs
open Go Go.Sx Tryz
section
open ax
noncomputable instance {K:Kd}{S:Nat->ax.Fn}{ord:zL}{l:Nat}:Decidable (je K S ord l):=Nat.decLe _ _
noncomputable def rm(K:Kd)(S:Nat->ax.Fn):Rm:=⟨K.n,cI K S,λord l=>decide (je K S ord l)⟩
theorem qj{K:Kd}{S:Nat->ax.Fn}{ord:zL}{l:Nat}:(rm K S).fit ord l=true↔je K S ord l:=by
 show decide (je K S ord l)=true↔_;exact decide_eq_true_iff
def Box(kp b1 mu:Nat)(cs:zL)(B:Hp):Prop:=∃vc Cc,B=(b1,.cells #[ptr kp] 85 zZ)::(mu,.cells #[vc] 43 zZ)::Cc/\aP 3 .i64 vc (iw cs) Cc
section
variable {kp b1 mu w p:Nat} {K:Kd} {S:Nat->ax.Fn} {ord tr:zL} {B C:Hp}
theorem Qa(hB:Box kp b1 mu (mr w) B)(h:At kp K S ord tr C)(hp:p+w<=K.n)(eR:tr.length<17454747090944):
  Fc zQ 270 #[iv (p:Int),ptr b1,ptr mu] (B++C) (λv H=>v=iv ((((rm K S).visit w p ord).2:Nat):Int)/\∃C',H=B++C'/\At kp K S (aA ord ((rm K S).visit w p ord).1) (tr++((rm K S).visit w p ord).1) C'):=by
 obtain⟨vc,Cc,rfl,hc⟩:=hB;have hn:=h.lY;have hlen:=h.len;have fN:=Md w
 let m:=rm K S
 let path:=m.dO p (mr w) ord
 have zu:path.length<=(mr w).length:=m.mi p _ _;have PJ:∀l∈path,l+1<K.n:=λl hl=>by
  obtain⟨c,hc,rfl⟩:=m.D3 p hl;have:=GY hc;omega
 let P0:Hp->Hp:=λX=>(b1,.cells #[ptr kp] 85 zZ)::(mu,.cells #[vc] 43 zZ)::(Cc++X)
 refine aE λg=>Jb ?_;rw[xaP,xaP];refine DR.self (Ld.q ?_);refine Ld.q ?_;refine aa.eq (r7 h) (⟨.refl _,?_⟩);refine aa.eq (cH h) (⟨.refl _,?_⟩);intro J8 hJ8;have fin:∀C2,At kp K S (aA ord path) (tr++path) C2->J8 [iv ((m.keep ord path path.length:Nat):Int),iv ((path.length:Nat):Int)] (P0 C2):=λC2 h2=>by
  refine hJ8 _ _ _ λgs=>?_;refine Ld.q ?_;have hk:=m.A7 ord path path.length;refine ae.fI (aa.fq (Mi h2 PJ hk (by rw[xaf];omega)) ?_);rintro v C' ⟨rfl,h3⟩;exact Ext.two (ae.fI (aF.here ⟨rfl,C',by simp only[xaP],h3⟩))
 refine Ld.q ?_;refine hc.bP ?_;rw[aq];refine⟨λvs H=>∃i C2,i<=path.length/\vs=[iv ((cI K S (aA ord (path.take (m.keep ord path i))):Nat):Int),iv ((m.keep ord path i:Nat):Int),iv (i:Int),iv (i:Int)]/\H=P0 C2/\At kp K S (aA ord (path.take i)) (tr++path.take i) C2,
  λvs _=>(mr w).length-bJ vs 3,JE.mk ⟨0,C,xaO _,rfl,rfl,by simpa[aA]using h⟩,?_⟩
 rintro w26 w27 w28 w29 H ⟨i,C2,hi,hw,rfl,h2⟩ gs;simp only[xax,xa0]at hw;obtain⟨rfl,rfl,rfl,rfl⟩:=hw;refine ae.eZ (Br.dec (λhlt=>?_) (λhlt=>?_));rotate_left
 ·obtain rfl:i=path.length:=by omega
  rw[xbm]at h2;exact JE.mk (fin C2 h2)
 intro J31 SS;have pO:(mr w)[i]? =some (mr w)[i]:=xaa hlt;have GB:(mr w)[i]+2<=w:=GY (xaF _);refine hc.ld (x:=(((mr w)[i]:Nat):Int)) (by rw[bI hlt,List.getD,pO];rfl) (bH.sub (.cons (.cons .left))) (Ld.q ?_);refine ae.fI ?_;by_cases Be:i=path.length
 ·-- no room
  subst Be;rw[xbm]at h2;have hno:¬je K S (aA ord path) (p+(mr w)[path.length]):=λhf=>by
   have:=m.wB p (mr w) ord _ pO;have h9:=qj.2 hf;rw[show(rm K S).fit (aA ord path) (p+(mr w)[path.length])=false from this]at h9;cases h9
  refine aa.eq (YA h2 zO (by rw[xaf];omega) hno) (Ext.two λb46 _=>(St.q ?_));exact ae.cO (Br.T (JE.of .tail (fin C2 h2)))
 have Se:i<path.length:=by omega
 obtain⟨e1,c',e2,hf⟩:=m.rR p (mr w) ord i Se;rw[pO]at e1 e2;cases e2;have RT:je K S (aA ord (path.take i)) (p+(mr w)[i]):=qj.1 hf;have nA:path.take (i+1)=path.take i++[p+(mr w)[i]]:=by
  rw[xbs,show path[i]? =some (p+(mr w)[i])from e1];rfl
 refine aa.fq (Yz h2 zO (by rw[xaf,xbI];omega) RT) ?_;rintro v C3 ⟨rfl,h3⟩;rw[<-gB,xaj,<-nA]at h3;refine Ext.two λb46 _=>(St.q ?_);refine ae.cO (Br.F (ae.inc (Ld.f ?_)));rw[<-gB,<-nA];refine ae.eZ (Br.dec (λqy=>?_) (λqy=>?_))
 ·have hk:m.keep ord path (i+1)=i+1:=by rw[Rm.keep];exact xae qy
  refine ai.mk (Ld.mk (v:=iv ((cI K S (aA ord (path.take (i+1))):Nat):Int)) (by exact .head _) rfl ?_);refine JE.mk (SS _ _ _ _ λgs=>?_);refine ae.inc (aC.of .tail ⟨i+1,C3,Se,by rw[hk],rfl,h3⟩ ?_);show(mr w).length-(((i+1:Nat):Int).toNat)<(mr w).length-(((i:Nat):Int).toNat);omega
 have hk:m.keep ord path (i+1)=m.keep ord path i:=by rw[Rm.keep];exact xac qy
 refine JE.mk (SS _ _ _ _ λgs=>?_);refine ae.inc (aC.of .tail ⟨i+1,C3,Se,by rw[hk],rfl,h3⟩ ?_);show(mr w).length-(((i+1:Nat):Int).toNat)<(mr w).length-(((i:Nat):Int).toNat);omega
end
end
section
open ax
def rep(b a s:Nat):zV:=.agg #[iv (b:Int),iv (a:Int),iv (s:Int),.bool false]
def mR(b1 mu b a s:Nat):Array zV:=#[.func (.func 270) #[] #[ptr b1,ptr mu],iv (b:Int),iv (a:Int),iv (s:Int),.bool false]
def Pass(pp kp w b a s:Nat)(B:Hp):Prop:=∃b1 mu B',B=(pp,.cells (mR b1 mu b a s) 252 zZ)::B'/\Box kp b1 mu (mr w) B'
section
variable {pp kp w p bf af sw:Nat} {K:Kd} {S:Nat->ax.Fn} {ord tr:zL} {B C:Hp}
theorem MG(kp:Nat)(w:Int)(C:Hp):Rd zQ 189 #[ptr kp,iv w] C (· =iv (if w<2\/4<w then 1 else 0)):=by
 refine aE λg=>JX (ae.aI (Br.no (ae.lss (cm.or (decide (4<w)) (λ_=>ae.gtr ⟨rfl,rfl⟩) zI λgs=>?_))));rw[<-xa8];exact Br.dec (λh=>br.mk (.refl _) (by rw[xae h])) (λh=>br.mk (.refl _) (by rw[xac h]))
theorem TN(h:At kp K S ord tr C)(hw:2<=w/\w<=4):Fc zQ 190 #[ptr kp,iv (w:Int)] C (λv H=>∃pp B,v=ptr pp/\H=B++C/\Pass pp kp w (cI K S ord) (cI K S ord) 0 B):=by
 refine aE λg=>JW λb1 _=>?_;refine DR.self (Ld.q ?_);refine Ld.q ?_;refine aa.eq (cH h) (⟨.refl _,?_⟩);refine aa.eq (cH h) (⟨.refl _,?_⟩);refine Build.mk (cs:=[iv ((cI K S ord:Nat):Int),iv ((cI K S ord:Nat):Int),iv 0,.bool false]) zK (Build.mk (cs:=[.nilFunc,iv ((cI K S ord:Nat):Int),iv ((cI K S ord:Nat):Int),iv 0,.bool false]) zK λUw _=>?_);refine⟨.tail,?_⟩;refine aa.fn hnew (GZ hw) ?_;rintro v Cc ⟨s,rfl,hc⟩;obtain⟨sa,sl,sc,rfl⟩:∃a l c,s=Value.slice a l c:=by obtain⟨a,c,h⟩:=aV.len hc;exact⟨a,_,c,h⟩
 refine Ext.two λmu _=>(St.one (c':=#[.slice sa sl sc]) (by exact .head _) rfl zI rfl ?_);refine Nil.ptr (ai.mk (St.one (c':=mR b1 mu (cI K S ord) (cI K S ord) 0) (by repeat (first|exact dg.head _|apply dg.tail|apply dg.ca)) rfl (by simp[Value.cells]) rfl ?_));refine aF.mk (nH:=((Uw,.cells (mR b1 mu (cI K S ord) (cI K S ord) 0) 252 zZ)::(b1,.cells #[ptr kp] 85 zZ)::(mu,.cells #[.slice sa sl sc] 43 zZ)::Cc)++C) (.perm ?_) ⟨Uw,_,rfl,rfl,b1,mu,_,rfl,_,Cc,rfl,hc⟩;refine(List.Perm.cons _ (xaT.trans (List.Perm.cons _ xaT))).trans ?_;refine(List.Perm.swap _ _ _).trans (List.Perm.cons _ (List.Perm.swap _ _ _))
theorem adQ(hB:Pass pp kp w bf af sw B)(h:At kp K S ord tr C)(hp:p+w<=K.n)(eR:tr.length<17454747090944)(hs:sw<4611686018427387904):
  Fc zQ 274 #[ptr pp,ptr kp,iv (p:Int)] (B++C) (λv H=>v=.tuple #[]/\∃B' C',H=B'++C'/\Pass pp kp w bf (cI K S (aA ord ((rm K S).visit w p ord).1)) (sw+((rm K S).visit w p ord).2) B'/\At kp K S (aA ord ((rm K S).visit w p ord).1) (tr++((rm K S).visit w p ord).1) C'):=by
 obtain⟨b1,mu,B',rfl,hb⟩:=hB;have hv:=((rm K S).sk w p ord).2;refine aE λg=>I8 (DR.of (R:=[(pp,.cells (mR b1 mu bf af sw) 252 zZ)]) (.cons .nil) (Nil.ptr (ai.mk (Ld.f ?_))));refine Ld.n ?_;refine aL.of rfl zK (aa.fq (args:=#[iv (p:Int),ptr b1,ptr mu]) (Qa hb h hp eR) ?_);rintro v H ⟨rfl,C',rfl,h'⟩;refine⟨.cons .nil,?_⟩;refine ae.fI (Nil.ptr (ai.mk (ai.mk (St.one (c':=mR b1 mu bf af (sw+((rm K S).visit w p ord).2)) (by exact .head _) rfl (by simp[mR]) rfl ?_))));refine aa.eq (cH h') (Nil.ptr (ai.mk (ai.mk (St.one (c':=mR b1 mu bf (cI K S (aA ord ((rm K S).visit w p ord).1)) (sw+((rm K S).visit w p ord).2)) (by exact .head _) rfl (by simp[mR]) rfl ?_))));exact aF.here ⟨rfl,_::B',C',rfl,⟨b1,mu,B',rfl,hb⟩,h'⟩
theorem UC(hB:Pass pp kp w bf (cI K S ord) sw B)(h:At kp K S ord tr C)(hw:2<=w/\w<=4)(eR:tr.length<17317308137472)(hs:sw<2305843009213693952):
  Fc zQ 191 #[ptr pp,ptr kp,iv (w:Int)] (B++C) (λv H=>v=.tuple #[]/\∃B' C',H=B'++C'/\Pass pp kp w bf (cI K S (aA ord ((rm K S).pass w ord).1)) (sw+((rm K S).pass w ord).2) B'/\At kp K S (aA ord ((rm K S).pass w ord).1) (tr++((rm K S).pass w ord).1) C'):=by
 have hn:=h.lY;refine aE λg=>JV ?_;refine⟨λvs H=>∃i B' C',i<=K.n+1-w/\vs=[iv ((i:Nat):Int)]/\H=B'++C'/\Pass pp kp w bf (cI K S (aA ord ((rm K S).all w ord i).1)) (sw+((rm K S).all w ord i).2) B'/\At kp K S (aA ord ((rm K S).all w ord i).1) (tr++((rm K S).all w ord i).1) C',
  λvs _=>K.n+1-bJ vs 0,JE.mk ⟨0,B,C,xaO _,rfl,rfl,by simpa[Rm.all,aA]using hB,by simpa[Rm.all,aA]using h⟩,?_⟩
 rintro w5 H ⟨i,B',C',hi,⟨⟩,rfl,hp,ha⟩ gs;have Ww:=(rm K S).Mo w ord i;refine ae.fI (aa.eq (m9 ha) (ae.BS (Br.dec (λhle=>?_) (λhle=>?_))))
 ·refine aa.fq (adQ hp ha zO (by rw[xaf];omega) zO) ?_;rintro v H ⟨rfl,B2,C2,rfl,iX,qz⟩;rw[<-cr,xaj,xcN]at*;refine ae.inc (aC.of (.refl _) ⟨i+1,B2,C2,by omega,rfl,rfl,by rw[Rm.all_succ];exact iX,by rw[Rm.all_succ];exact qz⟩ ?_);show K.n+1-(((i+1:Nat):Int).toNat)<K.n+1-(((i:Nat):Int).toNat);omega
 obtain rfl:i=K.n+1-w:=by omega
 exact aF.here ⟨rfl,B',C',rfl,hp,ha⟩
end
section
variable {pp kp w p bf af sw:Nat} {K:Kd} {S:Nat->ax.Fn} {ord tr:zL} {B C:Hp}
theorem Xe(h:At kp K S ord tr C)(hw:2<=w/\w<=4)(eR:tr.length<17317308137472):
  Fc zQ 137 #[ptr kp,iv (w:Int)] C (λv H=>v=.tuple #[rep (cI K S ord) (cI K S (aA ord ((rm K S).pass w ord).1)) ((rm K S).pass w ord).2,iv 0]/\At kp K S (aA ord ((rm K S).pass w ord).1) (tr++((rm K S).pass w ord).1) H):=by
 have hn:=h.lY;refine aE λg=>Kx λb1 _=>?_;refine aa.eq (MG kp w C) ?_;rw[xac zO];refine ae.cO (Br.F (aa.fq (TN h hw) ?_));rintro v H ⟨pp,B,rfl,rfl,hB⟩;refine aa.fq (UC hB h hw eR zO) ?_;rintro v H ⟨rfl,B',C',rfl,hB',h'⟩;rw[xa5]at hB';obtain⟨x1,x18,B2,rfl,hb⟩:=hB';refine Nil.ptr (ai.mk (az.mk (vs:=#[iv ((cI K S ord:Nat):Int),iv ((cI K S (aA ord ((rm K S).pass w ord).1):Nat):Int),iv ((((rm K S).pass w ord).2:Nat):Int),.bool false]) (by exact .tail _ (.head _)) (by simp[mR]) rfl ?_));refine St.q ?_;refine az.q ?_;exact aF.mk (.skip .right) ⟨rfl,h'⟩
end
theorem bI{ws:zL}{i:Nat}(h:i<ws.length):(iw ws)[i]? =some ((ws.getD i 0:Nat):Int):=by
 rw[cL (w:=ws.getD i 0)];rw[xar,xaa h];rfl
def abX(n:Nat)(p:List Int):Prop:=p.length=n/\∀v:Nat,v<n->p.count (v:Int)=1
instance (n:Nat)(p:List Int):Decidable (abX n p):=by unfold abX;infer_instance
theorem RR{p:List Int}{x:Int}{i:Nat}(h:x∉p.take i)(hi:i<p.length)(he:p[i]=x):p.idxOf x=i:=by
 have e:p=p.take i++p[i]::p.drop (i+1):=by
  conv=>lhs;rw[<-xbt i p]
  rw[xbu hi]
 conv=>lhs;rw[e]
 rw[List.idxOf_append,xac h,he,List.idxOf_cons_self,xbI];omega
def tW(p:List Int):Prop:=∀v:Nat,v<p.length->(v:Int)∈p
theorem xk{p:zL}{n:Nat}(hp:p.Perm (List.range n)):tW (iw p):=λv hv=>by
 rw[aq,hp.length_eq,xaK]at hv;exact xao.2 ⟨v,hp.mem_iff.2 (xaM.2 hv),rfl⟩
theorem Rs{q:zL}{x:Nat}:(x:Int)∈iw q↔x∈q:=by
 unfold iw;rw[xao];exact⟨λ⟨y,hy,e⟩=>by rw[<-Int.ofNat.inj e];exact hy,λh=>⟨x,h,rfl⟩⟩
theorem Zh(q:zL)(x:Nat):(iw q).idxOf (x:Int)=q.idxOf x:=by
 induction q with
 |nil=>rfl
 |cons y q ih=>
  show(((y:Nat):Int)::iw q).idxOf (x:Int)=_;rw[List.idxOf_cons,List.idxOf_cons,ih];have:(((y:Nat):Int)==(x:Int))=(y==x):=by
   rw[xbU];simp[xez]
  rw[this]
theorem Bs(a k:Nat):decide ((a>>>k)%2=1)=a.testBit k:=by
 cases hb:a.testBit k
 ·rw[xak];rw[ak.Mg,hb];simp
 rw[xam];rw[ak.Mg,hb]
theorem S6{ord:zL}{F G:ax.Fn->Prop}(h:∀g,F g->G g):∀l g,fs ord F l g->fs ord G l g
 |0,g,hg=>h g hg
 |l+1,g,⟨f,hf,b,e⟩=>⟨f,S6 h l f hf,b,e⟩
theorem cK{n:Nat}{ord:zL}{F G:ax.Fn->Prop}(h:∀g,F g->G g){g:ax.Fn}(hg:aH n ord F g):aH n ord G g:=let ⟨l,a,b,c⟩:=hg;⟨l,a,S6 h l g b,c⟩
structure kV(K:Kd)(S:Nat->ax.Fn)(K':Kd)(S':Nat->ax.Fn)(f:ax.Fn)(r:Nat):Prop where
 n:K'.n=K.n
 cap:K'.cap=K.cap
 N:∀s d,K.N s=some d->K'.N s=some d
 fn:∀s,live K.N s->S' s=S s
 live:live K'.N r
 is:S' r=f
 hold:∀s,K'.hold s=K.hold s+if s=r/\2<=r then 1 else 0
theorem cv{N N':eG}(h:∀s d,N s=some d->N' s=some d){s:Nat}(hs:live N s):live N' s:=by
 rcases hs with hs|⟨d,hd⟩
 ·exact .inl hs
 exact .inr ⟨d,h s d hd⟩
theorem j6{K K5:Kd}{S S5:Nat->ax.Fn}{ah:Nat->Nat}(hK:Ok K S ah)(LX:Ok K5 S5 ah)(hold:∀s,K.hold s≠0->K5.hold s≠0)(h3:∀s d d',K.N s=some d->K5.N s=some d'->d'=d):
  ∀(k s:Nat) (d:Nd),K.N s=some d->ah d.v<=k->K5.N s=some d:=by
 intro k;induction k with
 |zero=>
  intro s d hd hl;have fin:live K5.N s->K5.N s=some d:=λhs=>by
   rcases hs with hs|⟨d',dR⟩
   ·have:=(hK.mid.two hd).1;omega
   rw[dR,h3 s d d' hd dR]
  rcases hK.reach s d hd with h|⟨p,e,hp,he⟩
  ·exact fin (.inr (LX.mid.held s (hold s h)))
  have h1:=hK.wf.lo hp;have h2:=hK.wf.hi hp;rcases he with rfl|rfl
  ·have:=h1.2;rw[an hd]at this;omega
  have:=h2.2;rw[an hd]at this;omega
 |succ k ih=>
  intro s d hd hl;have fin:live K5.N s->K5.N s=some d:=λhs=>by
   rcases hs with hs|⟨d',dR⟩
   ·have:=(hK.mid.two hd).1;omega
   rw[dR,h3 s d d' hd dR]
  rcases hK.reach s d hd with h|⟨p,e,hp,he⟩
  ·exact fin (.inr (LX.mid.held s (hold s h)))
  have h1:=hK.wf.lo hp;have h2:=hK.wf.hi hp;rcases he with rfl|rfl
  ·have:=h1.2;rw[an hd]at this;exact fin (LX.mid.lo (ih p e hp zO))
  have:=h2.2;rw[an hd]at this;exact fin (LX.mid.hi (ih p e hp zO))
theorem kV.held{K K':Kd}{S S':Nat->ax.Fn}{f:ax.Fn}{r:Nat}(h:kV K S K' S' f r)(hm:∀s,K.hold s≠0->ax.live K.N s)(g:ax.Fn)(hg:K'.held S' g):K.held S g\/g=f:=by
 obtain⟨s,hs,rfl⟩:=hg;by_cases h0:K.hold s=0
 ·right;have:=h.hold s;have hs':K'.hold s≠0:=hs;rw[h0]at this;by_cases e:s=r/\2<=r
  ·rw[e.1];exact h.is
  rw[xac e]at this;omega
 exact .inl ⟨s,h0,h.fn s (hm s h0)⟩
end
end Go.Proofs
namespace ax
open ak
section
variable {K:Kd} {S:Nat->Fn} {ah:Nat->Nat}
theorem Ok.Vu(h:Ok K S ah){d e:Nd}{r:Nat}
 (hlo:live K.N d.lo)(hhi:live K.N d.hi)(hne:d.lo≠d.hi)(hv:d.v<K.n)(hlt:ah d.v<dep K.n ah K.N d.lo/\ah d.v<dep K.n ah K.N d.hi)(hr:K.N r=some e)(RY:S r=ite S d):e=d:=by
 have RU:e.v=d.v:=by
  have e1:=h.lv.lt e.v (h.mid.var hr);have e2:=h.lv.lt d.v hv;rcases xcM (ah e.v) (ah d.v)with hh|hh|hh
  ·exfalso;obtain⟨z,hz⟩:=gk h.wf h.lv h.mid.int hr;rw[RY]at hz;apply hz;unfold ite;have i1:=h.wf.bN h.lv h.mid.int hlo (h.mid.var hr) zO;have i2:=h.wf.bN h.lv h.mid.int hhi (h.mid.var hr) zO;have Gy:d.v≠e.v:=λpN=>by rw[pN]at hh;omega
   simp only[aj,xac Gy,i1,i2]
  ·exact h.lv.inj _ _ (h.mid.var hr) hv hh
  exfalso;have hx:=h.wf.bN h.lv h.mid.int (r:=r) (.inr ⟨e,hr⟩) hv (by rw[an hr];exact hh);apply hne;refine h.wf.same h.lv h.mid.int hlo hhi λx=>?_;have i1:=h.wf.bN h.lv h.mid.int hlo hv hlt.1;have i2:=h.wf.bN h.lv h.mid.int hhi hv hlt.2;have q1:=hx x false;have q2:=hx x true;rw[RY]at q1 q2;have q3:=q1.trans q2.symm;unfold ite at q3;simp only[aj,xa7,i1,i2,xaS,xa1]at q3;exact q3
 have kQ:∀(b:Bool) x,S (if b then e.hi else e.lo) x=S (if b then d.hi else d.lo) x:=λb x=>by
  rw[<-h.wf.child h.lv h.mid.int hr x b,RY,RU];have i1:=h.wf.bN h.lv h.mid.int hlo hv hlt.1;have i2:=h.wf.bN h.lv h.mid.int hhi hv hlt.2;unfold ite;rw[aj,xae rfl,i1,i2];cases b<;>rfl
 have e1:e.lo=d.lo:=h.wf.same h.lv h.mid.int (h.mid.lo hr) hlo λx=>kQ false x;have e2:e.hi=d.hi:=h.wf.same h.lv h.mid.int (h.mid.hi hr) hhi λx=>kQ true x;have hed:∀a b:Nd,a.v=b.v->a.lo=b.lo->a.hi=b.hi->a=b:=λa b h1 h2 h3=>by
  cases a;cases b;cases h1;cases h2;cases h3;rfl
 exact hed e d RU e1 e2
end
end ax
set_option maxRecDepth 100000
namespace Go.Proofs
open Go Go.Sx Tryz
section
open ax
def gz(bw kp:Nat)(vl vm:zV):Nat×Obj:=(bw,.cells #[ptr kp,vl,vm] 305 zZ)
abbrev Q3:=Nat×Nat×Nat
def l3(q:Q3):zL:=[q.1,q.2.1,q.2.2]
def kq(q:Q3):zV:=.agg (ay .u32 (iw (l3 q)))
theorem VX{a b:zL}(h:iw a=iw b):a=b:=by
 induction a generalizing b with
 |nil=>cases b with
  |nil=>rfl
  |cons y b=>simp[iw]at h
 |cons x a ih=>cases b with
  |nil=>simp[iw]at h
  |cons y b=>
   simp only[iw,xaC,xax]at h;rw[Int.ofNat.inj h.1,ih h.2]
theorem Za{a b:Q3}(h:l3 a=l3 b):a=b:=by
 obtain⟨a1,a2,a3⟩:=a;obtain⟨b1,b2,b3⟩:=b;simp[l3]at h;rw[h.1,h.2.1,h.2.2]
theorem v9(a b:Q3):BJ zQ 236 (kq a) (kq b) (decide (a=b)):=by
 have:=BJ.array (P:=zQ) (t:=236) (e:=110) (q:=.u32) (n:=3) zK zK zK (iw (l3 a)) (iw (l3 b)) rfl rfl;have e:decide (iw (l3 a)=iw (l3 b))=decide (a=b):=xb8.2 ⟨λh=>Za (VX h),λh=>by rw[h]⟩;rw[e]at this;exact this
theorem qw(a:Q3):mD zQ 236 (kq a):=mD.array (P:=zQ) (t:=236) (e:=110) (q:=.u32) (n:=3) zK zK zK _ rfl
theorem A6(a:Q3):Instr.sameBits 10000 (kq a) (kq a)=true:=kX 9998 λx hx=>.inl (by simp[ay]at hx;obtain⟨n,_,rfl⟩:=hx;exact⟨_,_,rfl⟩)
section
variable {kp bw:Nat} {vl vm:zV} {K:Kd} {S:Nat->ax.Fn} {ord ah tr:zL} {C:Hp}
theorem OA{H:Hp}{r:List zV}{K:zV->Hp->Prop}(hl:r.length=3)(h:∀b,K (.slice (some ⟨b,0,none⟩) 1 1) ((b,.cells r.toArray 226 zZ)::H)):au zQ 309 1 [(0,.agg r.toArray)] H K:=
 au.one (r:=r) (e:=226) (k:=3) (z:=.agg #[iv 0,.int .u32 0,.int .u32 0]) zK zK zK zD hl h
theorem Ai{X Y:Hp}(h:cW kp K ord ah tr C)(q:Q3)(hq:∀r∈l3 q,r<4294967296):
  Fc zQ 253 #[ptr bw,kq q] (gz bw kp vl vm::(X++(Y++C))) (λv H=>∃CN,H=CN++(gz bw kp vl vm::(X++(Y++C)))/\aV 226 3 v ((l3 q).map (got K.N)) CN):=by
 have hlen:(l3 q).length=3:=rfl;refine aE λg=>Jq λb1 _=>?_;refine az.q ?_;refine⟨λvs H=>∃(i:Nat) (u:zV) (CN:Hp),vs=[u,iv (i:Int)]/\i<=3/\H=CN++((b1,.cells (ay .u32 (iw (l3 q))) 236 zZ)::(gz bw kp vl vm::(X++(Y++C))))/\aV 226 3 u (((l3 q).take i).map (got K.N)) CN,λvs _=>3-bJ vs 1,
  JE.mk ⟨0,_,[],rfl,by omega,rfl,aV.nil _ _⟩,?_⟩
 rintro w8 w9 H ⟨i,u,CN,⟨⟩,hi,rfl,hN⟩ gs;refine ae.eZ (b:=3) (Br.dec (λhlt=>?_) (λhlt=>?_))
 ·have gp:i<(l3 q).length:=hlt;obtain⟨r,hr⟩:∃r,(l3 q)[i]? =some r:=⟨_,xaa gp⟩;have Zs:=hq r (xaw hr);refine jM.adZ (t:=236) (e:=110) (q:=.u32) (x:=.tmp 10) (i:=.tmp 11) (l:=iw (l3 q)) (z:=(r:Int)) (kd:=.i64) (n:=3) (j:=i) zK rfl rfl zK zK zK hlt (cL hr) ?_;refine Ld.n ?_;refine aa.eq (args:=#[ptr kp,u32 r]) (iU h Zs) (Ext.two λB6 _=>(St.whole (r:=got K.N r) (by exact .head _) rfl (aQ _ _).1 (aQ _ _).2 ?_));refine az.whole (r:=got K.N r) (by exact .head _) (aQ _ _).1 ?_;refine OA (aQ _ _).1 λbx=>?_;refine hN.qJ (r:=got K.N r) (.cons (.cons .left)) (by exact .head _) (aQ _ _).1 (aQ _ _).2 ⟨[iv 0,.int .u32 0,.int .u32 0],rfl,rfl⟩ zP zP λv' C' ho=>?_;refine ae.inc (aC.of (.skip .tail) ⟨i+1,v',C',rfl,by omega,rfl,?_⟩ (by simp only[bJ];omega));rw[xbs,hr,xaH];exact ho
 obtain rfl:i=3:=by omega
 rw[xcw (by rw[hlen];exact xai _)]at hN;exact aF.mk (.c8 .tail _) ⟨CN,rfl,hN⟩
theorem Mj{n:Nat}{si:Nat->Nat}{N:eG}{B:Hp}{vn:zV}{lvl:zL}(hw:gz bw kp vl vm∈B)(hl:dF .i64 B vl (iw lvl))(nD:lvl.length=n)(hlv:∀v,v<n->lvl.getD v 0=si v)(q:Q3)(hn:Sl 3 B vn ((l3 q).map (got N)))
 (h:WF n si N)(hL:jV n si)(hq:∀r∈l3 q,live N r)(sR:n<=64):
  Rd zQ 254 #[ptr bw,vn] B (λr=>((∀s∈l3 q,N s=none)/\r=iv (-1))\/∃v,uC n si N (l3 q) v/\r=iv (v:Int)):=by
 have hlen:(l3 q).length=3:=rfl;refine aE λg=>Jp (hn.bP ?_);rw[xav,hlen];refine⟨λvs H=>∃(i:Nat) (w:Int),vs=[iv w,iv (i:Int)]/\i<=3/\H=B/\(((∀s∈(l3 q).take i,N s=none)/\w= -1)\/∃v:Nat,uC n si N ((l3 q).take i) v/\w=(v:Int)),λvs _=>3-bJ vs 1,
  JE.mk ⟨0, -1,rfl,by omega,rfl,.inl ⟨by simp,rfl⟩⟩,?_⟩
 rintro w6 w7 H ⟨i,w,⟨⟩,hi,rfl,hw6⟩ gs;refine ae.eZ (b:=3) (Br.dec (λhlt=>?_) (λhlt=>?_))
 ·intro J hJ;have gp:i<(l3 q).length:=hlt;obtain⟨r,hr⟩:∃r,(l3 q)[i]? =some r:=⟨_,xaa gp⟩;have nA:(l3 q).take (i+1)=(l3 q).take i++[r]:=by rw[xbs,hr];rfl
  have fin:∀(w':Int) (Z:Hp),((∀s∈(l3 q).take (i+1),N s=none)/\w'= -1)\/(∃v:Nat,uC n si N ((l3 q).take (i+1)) v/\w'=(v:Int))->J [iv w'] (Z++H):=λw' Z h'=>hJ _ _ λgs=>by
   exact ae.inc (aC.of .right ⟨i+1,w',rfl,by omega,rfl,h'⟩ (by simp only[bJ];omega))
  have hrow:((l3 q).map (got N))[i]? =some (got N r):=by rw[xat,hr];rfl
  refine av.sl hn hrow λp hp=>?_;refine az.at hp (aQ _ _).1 zD (λ_ h=>h) ?_;intro nF _;refine St.whole (r:=got N r) (by exact .head _) rfl (aQ _ _).1 (aQ _ _).2 ?_;have hlr:=hq r (xaw hr);cases hN:N r with
  |none=>
   have qx:r<2:=by rcases hlr with h2|⟨d,hd⟩;exact h2;rw[hN]at hd;cases hd
   have eg:got N r=[iv (-1),u32 r,u32 r]:=fG qx;rw[eg];refine Ld.f ?_;refine ae.geq (cm.mk false (λh=>by simp at h) (λ_=>rfl) λgs=>Br.no ?_);refine JE.mk (fin w [_] ?_);rcases hw6 with⟨h1,h2⟩|⟨v,h1,h2⟩
   ·refine .inl ⟨λs hs=>?_,h2⟩;rw[nA,xan,xaz]at hs;rcases hs with hs|rfl
    ·exact h1 s hs
    exact hN
   refine .inr ⟨v,⟨h1.lt,?_,λs hs=>?_⟩,h2⟩
   ·obtain⟨s,hs,x⟩:=h1.ex;exact⟨s,by rw[nA];exact xad _ hs,x⟩
   rw[nA,xan,xaz]at hs;rcases hs with hs|rfl
   ·exact h1.le s hs
   rw[aU hN];exact xca (hL.lt v h1.lt)
  |some d=>
   have h2:=h.two hN;have lj:=h.var hN;have eg:got N r=bB d:=dZ hN h2;rw[eg];refine Ld.f ?_;refine ae.geq ?_;rw[xam zO];have Cn:(∀s∈(l3 q).take i,si d.v<=dep n si N s)->∃v:Nat,uC n si N ((l3 q).take (i+1)) v/\(d.v:Int)=(v:Int):=λhle=>by
    refine⟨d.v,⟨lj,⟨r,by rw[nA];simp,d,hN,rfl⟩,λs hs=>?_⟩,rfl⟩;rw[nA,xan,xaz]at hs;rcases hs with hs|rfl
    ·exact hle s hs
    rw[an hN];exact xai _
   rcases hw6 with⟨h1,rfl⟩|⟨v,h1,rfl⟩
   ·refine cm.and true (λ_=>?_) rfl λgs=>Br.yes ?_
    ·exact ae.lss (cm.mk true (λh=>by simp at h) (λ_=>rfl) λgs=>⟨rfl,rfl⟩)
    refine Ld.f ?_;refine JE.mk (fin (d.v:Int) [_] (.inr (Cn λs hs=>?_)));rw[aU (h1 s hs)];exact xca (hL.lt _ lj)
   have g1:(iw lvl)[d.v]? =some ((si d.v:Nat):Int):=by rw[<-hlv d.v lj];exact bI zO
   have g2:(iw lvl)[v]? =some ((si v:Nat):Int):=by rw[<-hlv v h1.lt];exact bI (by have:=h1.lt;omega)
   refine cm.and (decide (si d.v<si v)) (λ_=>?_) rfl λgs=>?_
   ·refine ae.lss ?_;rw[xak zO];refine cm.or (decide (si d.v<si v)) (λ_=>?_) rfl λgs=>⟨rfl,by simp⟩;refine Ld.v (.tail _ hw) ?_;refine Ld.f ?_;refine hl.ld g1 (λ_ h=>.tail _ h) (Ld.v (.tail _ hw) ?_);exact hl.ld g2 (λ_ h=>.tail _ h) (ae.eZ ⟨rfl,rfl⟩)
   rw[xcp];refine Br.dec (λqy=>?_) (λqy=>?_)
   ·refine Ld.f ?_;refine JE.mk (fin (d.v:Int) [_] (.inr (Cn λs hs=>?_)));have:=h1.le s hs;omega
   refine JE.mk (fin (v:Int) [_] (.inr ⟨v,⟨h1.lt,?_,λs hs=>?_⟩,rfl⟩))
   ·obtain⟨s,hs,x⟩:=h1.ex;exact⟨s,by rw[nA];exact xad _ hs,x⟩
   rw[nA,xan,xaz]at hs;rcases hs with hs|rfl
   ·exact h1.le s hs
   rw[an hN];omega
 obtain rfl:i=3:=by omega
 rw[xcw (by rw[hlen];exact xai _)]at hw6;refine br.mk (.refl _) ?_;rcases hw6 with⟨h1,rfl⟩|⟨v,h1,rfl⟩
 ·exact .inl ⟨h1,rfl⟩
 exact .inr ⟨v,h1,rfl⟩
theorem NS(h:cc kp K S ord ah tr C){v lo hi:Nat}(hv:v<K.n)(hlo:live K.N lo)(hhi:live K.N hi)(hlt:lv ah v<dep K.n (lv ah) K.N lo/\lv ah v<dep K.n (lv ah) K.N hi):
  Rd zQ 323 #[ptr kp,iv (v:Int),u32 lo,u32 hi] C (· =if lo=hi then .tuple #[u32 lo,.bool true]else .tuple #[u32 ((K.T ⟨v,lo,hi⟩).getD 0),.bool (K.T ⟨v,lo,hi⟩).isSome]):=by
 have agi:=h.bL hlo;have ags:=h.bL hhi;have DS:=bX.2 hlo;have qR:=bX.2 hhi;have hfe:pS K ah (v:Int) lo hi=0:=by
  unfold pS;rw[xac zO,xac (by rw[DS,qR];simp),xac];rintro⟨hne,hmin⟩;simp only[xa3,lv]at hmin hlt;omega
 refine aE λg=>IA λJ hJ=>?_;refine ae.aI (Split.go rfl (aa.eq (L4 h.rep (v:Int) zO zO (λr d hd=>⟨h.ok.mid.var hd,(h.ok.mid.two hd).1⟩)) ?_));rw[hfe];refine ae.cO (aM.mk (JE.mk (hJ _ _ λgs=>?_)));rw[xak zI];refine Br.no (aa.rq (Li h.rep (lo:=lo) (hi:=hi) hv) ?_);rintro w hw;subst hw;by_cases he:lo=hi
 ·rw[xae he];exact Ext.mk rfl (Ext.mk rfl (br.mk (.refl _) rfl))
 rw[xac he];exact Ext.mk rfl (Ext.mk rfl (br.mk (.refl _) rfl))
theorem we(h:cc kp K S ord ah tr C){v lo hi r:Nat}(hv:v<K.n)(hlo:live K.N lo)(hhi:live K.N hi)(hlt:lv ah v<dep K.n (lv ah) K.N lo/\lv ah v<dep K.n (lv ah) K.N hi)(hr:live K.N r)(h2:2<=r)(hS:S r=ite S ⟨v,lo,hi⟩):
  Rd zQ 323 #[ptr kp,iv (v:Int),u32 lo,u32 hi] C (· =.tuple #[u32 r,.bool true]):=by
 refine(NS h hv hlo hhi hlt).mono ?_;rintro w H ⟨e,rfl⟩;refine⟨e,?_⟩;by_cases he:lo=hi
 ·subst he;rw[xae rfl,h.ok.wf.same h.ok.lv h.ok.mid.int hr hlo λx=>by rw[hS];unfold ax.ite;split<;>rfl]
 rw[xac he];obtain⟨d,hd⟩:∃d,K.N r=some d:=by
  rcases hr with h3|h3
  ·omega
  exact h3
 have hdd:d=⟨v,lo,hi⟩:=h.ok.Vu (d:=⟨v,lo,hi⟩) hlo hhi he hv hlt hd hS;subst hdd;rw[(h.ok.mid.kA _ r).2 ⟨hd,λe=>e⟩];rfl
theorem Hq(r v:Nat)(B:Hp):Rd zQ 255 #[ptr bw,iv (v:Int),u32 r,u32 r] B (· =.tuple #[u32 r,iv 0]):=by
 exact aE λg=>xK (ae.gX (Br.T (br.mk (.refl _) rfl)))
theorem TU{CM X:Hp}{made:zL}(h:cc kp K S ord ah tr C){v lo hi:Nat}(hv:v<K.n)(hlo:live K.N lo)(hhi:live K.N hi)(hne:lo≠hi)(hlt:lv ah v<dep K.n (lv ah) K.N lo/\lv ah v<dep K.n (lv ah) K.N hi)
 (hM:aP 110 .u32 vm (iw made) CM)(hlen:made.length<=1099511627776):
  Fc zQ 255 #[ptr bw,iv (v:Int),u32 lo,u32 hi] (gz bw kp vl vm::(X++(CM++C))) (λw H=>
   (∃r K' S' C' Yx CM',w=.tuple #[u32 r,iv 0]/\H=gz bw kp vl Yx::(X++(CM'++C'))/\cc kp K' S' ord ah [] C'/\pW K S K' S' (ite S ⟨v,lo,hi⟩) r/\aP 110 .u32 Yx (iw (made++[r])) CM')\/
   (w=.tuple #[u32 0,iv 9]/\H=gz bw kp vl vm::(X++(CM++C))/\K.cap<=K.used/\K.T ⟨v,lo,hi⟩=none)\/
   (∃r,w=.tuple #[u32 r,iv 0]/\H=gz bw kp vl vm::(X++(CM++C))/\live K.N r/\2<=r/\K.hold r=65535/\S r=ite S ⟨v,lo,hi⟩)):=by
 refine aE λg=>xK (ae.dJ (Br.Tn hne (Ld.n ?_)));refine aa.fq (A3 h hv hlo hhi (.inr hlt)) ?_;rintro w C' (⟨r,K',S',rfl,dk,mk⟩|⟨r,rfl,rfl,hlr,PZ,hfull,GI⟩|⟨rfl,rfl,hcap,_,hT⟩)
 ·refine Ext.two λJ hJ=>(ae.gX (Br.T (Ld.n ?_)));refine au.int (e:=110) zK zK zK λbx=>?_;refine hM.qJ (x:=(r:Int)) (.cons (.cons (.app .left))) (by exact .head _) (by rw[aq];omega) (by rw[aq];omega) λYx CM' Z6=>?_;have h1:=Z6.one;refine Nil.ptr (ai.mk (St.one (by exact .tail (.head _)) h1 zI rfl ?_));refine aF.mk .tail (.inl ⟨r,K',S',C',Yx,CM',rfl,rfl,dk,mk,?_⟩);rw[cg];exact Z6
 ·refine Ext.two λJ hJ=>(ae.gX (Br.F (ae.gX (Br.T (Ld.n ?_)))));exact aa.eq (we h hv hlo hhi hlt hlr PZ GI) (Ext.mk rfl (Ext.mk rfl (Br.yes (aF.here (.inr (.inr ⟨r,rfl,rfl,hlr,PZ,hfull,GI⟩))))))
 exact Ext.two λJ hJ=>(ae.gX (Br.F (ae.gX (Br.F (JE.mk (hJ _ λgs=>aF.here (.inr (.inl ⟨rfl,rfl,hcap,hT⟩))))))))
end
end
section
open ax
structure k9(K0:Kd)(S0:Nat->ax.Fn)(U:ax.Fn->Prop)(ord:zL)(K:Kd)(S:Nat->ax.Fn)(made:zL):Prop where
 n:K.n=K0.n
 cap:K.cap=K0.cap
 N:∀s d,K0.N s=some d->K.N s=some d
 fn:∀s,live K0.N s->S s=S0 s
 hold:∀s,K.hold s=K0.hold s+made.count s
 two:∀s∈made,2<=s
 U:∀g,aH K0.n ord (K.held S) g->U g
theorem k9.refl{K0:Kd}{S0:Nat->ax.Fn}{U:ax.Fn->Prop}{ord:zL}(h:∀g,aH K0.n ord (K0.held S0) g->U g):k9 K0 S0 U ord K0 S0 []:=⟨rfl,rfl,λ_ _ h=>h,λ_ _=>rfl,λs=>by simp,by simp,h⟩
def Fits(U:ax.Fn->Prop)(cap:Nat):Prop:=∃ku,pH U ku/\ku+2<=cap
section
variable {kp:Nat} {K0 K:Kd} {S0 S:Nat->ax.Fn} {U:ax.Fn->Prop} {ord ah tr:zL} {made:zL} {C:Hp}
theorem k9.iD(h:k9 K0 S0 U ord K S made)(hK:cc kp K S ord ah tr C){s:Nat}(hs:s∈made):live K.N s:=by
 refine .inr (hK.ok.mid.held s ?_);rw[h.hold];have:=xbM.2 hs;omega
theorem zg{b:Nat}:∀(m:Nat) (l:zL),(∀x∈l,x<m)->(∀x,l.count x<=b)->l.length<=m*b
 |0,l,h1,_=>by
  cases l with
  |nil=>simp
  |cons x l=>exact absurd (h1 x (xbK ..)) (xcX _)
 |m+1,l,h1,h2=>by
  have ih:=zg m (l.filter λx=> !(x==m)) (λx hx=>by
   obtain⟨hx,hne⟩:=xbD.1 hx;have:=h1 x hx;have:x≠m:=by simpa using hne
   omega) (λx=>xbS (List.filter_sublist.count_le x) (h2 x))
  have e:=List.length_eq_countP_add_countP (λx=>x==m) (l:=l);have h3:=h2 m;rw[List.count]at h3;rw[List.countP_eq_length_filter (l:=l) (p:=λa=>decide ¬(a==m)=true)]at e;rw[xbx];have e2:(l.filter λa=>decide ¬(a==m)=true)=l.filter λx=> !(x==m):=xdo λx _=>by cases x==m<;>rfl
  rw[e2]at e;omega
theorem k9.rE(h:k9 K0 S0 U ord K S made)(hK:cc kp K S ord ah tr C):made.length<=1048576*65535:=
 zg _ _ (λx hx=>by
  have hc:=xbM.2 hx;have:=h.hold x;obtain⟨d,hd⟩:=hK.ok.mid.held x zO;have:=(hK.ok.mid.two hd).2;have:=hK.ok.mid.cap;omega) (λx=>by have:=h.hold x;have:=hK.ok.mid.mx x;omega)
theorem k9.full(h:k9 K0 S0 U ord K S made){r:Nat}(hr:K.hold r=65535):r∈made\/K0.hold r=65535:=by
 by_cases hm:r∈made
 ·exact .inl hm
 have:=h.hold r;rw[xdL.2 hm]at this;exact .inr zO
theorem k9.live(h:k9 K0 S0 U ord K S made){s:Nat}(hs:live K0.N s):live K.N s:=cv h.N hs
theorem k9.step(h:k9 K0 S0 U ord K S made)(hK:cc kp K S ord ah tr C){K':Kd}{S':Nat->ax.Fn}{f:ax.Fn}{r:Nat}(m:pW K S K' S' f r)(h2:2<=r)(hU:∀g,aH K0.n ord (λg=>g=f) g->U g):k9 K0 S0 U ord K' S' (made++[r]):=by
 refine⟨m.n.trans h.n,m.cap.trans h.cap,λs d hd=>m.N s d (h.N s d hd),λs hs=>(m.fn s (h.live hs)).trans (h.fn s hs),λs=>?_,λs hs=>?_,λg hg=>?_⟩
 ·rw[m.hold,xbh,xcK,h.hold];by_cases e:s=r
  ·subst e;simp[h2];omega
  have:(r==s)=false:=by simpa using λe'=>e e'.symm
  simp[e,this]
 ·rcases xan.1 hs with hs|hs
  ·exact h.two s hs
  simp at hs;subst hs;exact h2
 have mG:∀g,K'.held S' g->K.held S g\/g=f:=by
  rintro g ⟨s,hs,rfl⟩;have hs':K'.hold s≠0:=hs;rw[m.hold]at hs';by_cases e:s=r/\2<=r
  ·right;rw[e.1];exact m.is
  rw[xac e]at hs';exact .inl ⟨s,hs',m.fn s (.inr (hK.ok.mid.held s hs'))⟩
 rcases(Dl g).1 (cK mG hg)with h1|h1
 ·exact h.U g h1
 exact hU g h1
end
def Bw(ji b1 b5 nF:Nat):zV:=.func (.func 252) #[] #[ptr ji,ptr b1,ptr b5,ptr nF]
structure BI(fv:zV)(LB:Hp)(t:Bool->Bool->Bool->Bool):Prop where
 is:∃f first cap,fv=.func (.func f) first cap/\aT zQ f=true/\∀x y z:Bool,Rd zQ f (first++ #[.bool x,.bool y,.bool z]++cap) LB (· =.bool (t x y z))
def ad6(K0:Kd)(S0 S:Nat->ax.Fn)(t:Bool->Bool->Bool->Bool)(made:zL)(m:List (Q3×Nat)):Prop:=∀y∈m,S y.2=uA t S0 (l3 y.1)/\(y.2<2\/y.2∈made\/K0.hold y.2=65535)
section
variable {kp ji b1 b5 nF bm bw:Nat} {vl fv:zV} {LB CL:Hp} {lvl:zL} {K0:Kd} {S0:Nat->ax.Fn} {U:ax.Fn->Prop} {ord ah:zL} {t:Bool->Bool->Bool->Bool}
abbrev Ye(ji b1 b5 nF bm bw kp:Nat)(fv vl vm:zV)(LB CL CM C:Hp)(es:Array MapEntry)(ck:Nat):Hp:=
 (ji,.cells #[.map (some bm)] 307 zZ)::(b1,.cells #[ptr bw] 231 zZ)::(b5,.cells #[fv] 237 zZ)::(nF,.cells #[Bw ji b1 b5 nF] 308 zZ)::
 (LB++((bm,.map es ck)::(gz bw kp vl vm::(CL++(CM++C)))))
structure Stp(kp:Nat)(K0:Kd)(S0:Nat->ax.Fn)(U:ax.Fn->Prop)(ord ah YC:zL)(t:Bool->Bool->Bool->Bool)(K:Kd)(S:Nat->ax.Fn)(made:zL)(es:Array MapEntry)(ck:Nat)(vm:zV)(CM C:Hp):Prop where
 ks:∃tr,cc kp K S ord ah tr C/\(tr=[]\/(tr=YC/\made=[]))
 c6:k9 K0 S0 U ord K S made
 mde:aP 110 .u32 vm (iw made) CM
 kn:∃m,aD kq PA es ck m/\ad6 K0 S0 S t made m
structure gy(K:Kd)(S:Nat->ax.Fn)(made:zL)(K':Kd)(S':Nat->ax.Fn)(made':zL)(c:Nat):Prop where
 N:∀s d,K.N s=some d->K'.N s=some d
 fn:∀s,live K.N s->S' s=S s
 ext:∃ext,made'=made++ext/\ext.length<=c
theorem gy.refl{K:Kd}{S:Nat->ax.Fn}{made:zL}{c:Nat}:gy K S made K S made c:=⟨λ_ _ h=>h,λ_ _=>rfl,[],by simp,xaO _⟩
section
variable {K K' K2:Kd} {S S' S2:Nat->ax.Fn} {made made' fS:zL} {c c':Nat}
theorem gy.MF(h:gy K S made K' S' made' c)(hc:c<=c'):gy K S made K' S' made' c':=⟨h.N,h.fn,let ⟨e,h1,h2⟩:=h.ext;⟨e,h1,by omega⟩⟩
theorem gy.mem{s:Nat}(h:gy K S made K' S' made' c)(hs:s∈made):s∈made':=by
 obtain⟨e,rfl,_⟩:=h.ext;exact xad _ hs
theorem gy.count(h:gy K S made K' S' made' c)(s:Nat):made'.count s<=made.count s+c/\made'.length<=made.length+c:=by
 obtain⟨e,rfl,he⟩:=h.ext;have:=List.count_le_length (a:=s) (l:=e);rw[xbh,xaf];omega
theorem gy.trans(h:gy K S made K' S' made' c)(h':gy K' S' made' K2 S2 fS c'):gy K S made K2 S2 fS (c+c'):=by
 obtain⟨e,rfl,he⟩:=h.ext;obtain⟨e',rfl,he'⟩:=h'.ext;exact⟨λs d hd=>h'.N s d (h.N s d hd),λs hs=>(h'.fn s (cv h.N hs)).trans (h.fn s hs),e++e',by rw[xaj],by rw[xaf];omega⟩
end
theorem nT{κ β:Type}[DecidableEq κ]{m:List (κ×β)}{k:κ}{x:β}{y:κ×β}(h:y∈eo m k x):y=(k,x)\/y∈m:=by
 unfold eo at h;split at h
 ·obtain⟨z,hz,rfl⟩:=xao.1 h;split
  ·exact .inl rfl
  exact .inr hz
 rcases xan.1 h with h|h
 ·exact .inr h
 simp at h;exact .inl h
def CY(N:eG)(v:Nat)(b:Bool)(q:Q3):Q3:=(ef N v b q.1,ef N v b q.2.1,ef N v b q.2.2)
theorem VP(N:eG)(v:Nat)(b:Bool)(q:Q3):l3 (CY N v b q)=iZ N v b (l3 q):=rfl
theorem n8{N N':eG}(hN:∀s d,N s=some d->N' s=some d)(h2:∀r,r<2->N r=none)(o9:∀r,r<2->N' r=none){r:Nat}(hr:live N r):got N' r=got N r:=by
 rcases hr with hr|⟨d,hd⟩
 ·rw[fG hr,fG hr]
 by_cases h:r<2
 ·rw[h2 r h]at hd;cases hd
 rw[dZ hd zO,dZ (hN r d hd) zO]
def Ans(kp ji b1 b5 nF bm bw:Nat)(fv vl:zV)(LB CL:Hp)(K0:Kd)(S0:Nat->ax.Fn)(U:ax.Fn->Prop)(ord ah YC:zL)(t:Bool->Bool->Bool->Bool)(ql:zL)(c:Nat)(K:Kd)(S:Nat->ax.Fn)(made:zL)(r:zV)(H:Hp):Prop:=
 ∃K' S' made' es' bD Yx CM' C',H=Ye ji b1 b5 nF bm bw kp fv vl Yx LB CL CM' C' es' bD/\Stp kp K0 S0 U ord ah YC t K' S' made' es' bD Yx CM' C'/\gy K S made K' S' made' c/\
   ((∃x:Nat,r=.tuple #[u32 x,iv 0]/\S' x=uA t S0 ql/\(x<2\/x∈made'\/K0.hold x=65535))\/(r=.tuple #[u32 0,iv 9]/\¬Fits U K0.cap))
theorem aac(fN:aT zQ 252=true)(E3:BI fv LB t)(Yd:aP 3 .i64 vl (iw lvl) CL)(nD:lvl.length=K0.n)(hlv:∀v,v<K0.n->lvl.getD v 0=lv ah v)(sR:K0.n<=64)(lp:WF K0.n (lv ah) K0.N)(pD:Interp K0.N S0)(jS:jV K0.n (lv ah))(PX:∀r,live K0.N r->r<4294967296)(hh0:∀s,K0.hold s=65535->live K0.N s){YC:zL}:
  ∀(ql:zL) (c:Nat),Tree K0.n (lv ah) K0.N ql c->∀(q:Q3),l3 q=ql->∀(K:Kd) (S:Nat->ax.Fn) (made:zL) (es:Array MapEntry) (ck:Nat) (vm:zV) (CM C:Hp),Stp kp K0 S0 U ord ah YC t K S made es ck vm CM C->
  (∀r∈ql,live K0.N r)->(∀g,aH K0.n ord (λg=>g=uA t S0 ql) g->U g)->
  Fc zQ 252 #[kq q,ptr ji,ptr b1,ptr b5,ptr nF] (Ye ji b1 b5 nF bm bw kp fv vl vm LB CL CM C es ck) (λr H=>Ans kp ji b1 b5 nF bm bw fv vl LB CL K0 S0 U ord ah YC t ql c K S made r H):=by
 have hc0:∀r,r<2->K0.N r=none:=λr hr=>lp.const hr;intro ql c hT;induction hT with
 | @leaf ql hnone=>
  intro q hq K S made es ck vm CM C hS fM hU g;subst hq;obtain⟨tr,hK,eR⟩:=hS.ks;obtain⟨m,hE,hkn⟩:=hS.kn;have LU:∀r,r<2->K.N r=none:=λr hr=>hK.ok.wf.const hr;refine xL (R:=aF _) ?_;unfold L252;intro bq _;refine Ld.q ?_;refine az.q ?_;have yf:(bm,Obj.map es ck)∈(bq,Obj.cells (ay .u32 (iw (l3 q))) 236 zZ)::Ye ji b1 b5 nF bm bw kp fv vl vm LB CL CM C es ck:=.tail _ (.tail _ (.tail _ (.tail _ (.tail _ (xab _ (.head _))))));cases hg:aG m q with
  |some x=>
   refine aD.Gu (ke:=kq) (k:=q) v9 qw hE yf hg ?_;rintro v rfl;obtain⟨h1,h2⟩:=hkn _ ((dX hE.nd).1 hg);exact Ext.mk rfl (Ext.mk rfl (Br.yes (aF.mk .tail ⟨K,S,made,es,ck,vm,CM,C,rfl,hS,.refl,.inl ⟨x,rfl,h1,h2⟩⟩)))
  |none=>
   refine aD.vV (ke:=kq) (k:=q) v9 qw hE yf hg ?_;refine Ext.mk rfl (Ext.mk rfl (Br.no (Ld.q ?_)));refine az.q ?_;refine aa.fq (args:=#[ptr bw,kq q]) (Ai hK.rep q (λr hr=>PX r (fM r hr))) ?_;rintro vn H ⟨CN,rfl,hN⟩;have eN:(l3 q).map (got K.N)=(l3 q).map (got K0.N):=xbj λr hr=>n8 hS.c6.N hc0 LU (fM r hr);rw[eN]at hN;refine Ld.q ?_;refine aa.rq (Mj (bw:=bw) (kp:=kp) (vl:=vl) (vm:=vm) (lvl:=lvl) (n:=K0.n) (si:=lv ah) (N:=K0.N) (.tail _ (.tail _ (.tail _ (.tail _ (.tail _ (xab _ (.tail _ (xab _ (.head _))))))))) (Yd.ints.mono λ_ h=>.tail _ (.tail _ (.tail _ (.tail _ (.tail _ (xab _ (.tail _ (xab _ (.tail _ (xad _ h)))))))))) nD hlv q ((Sl.rj hN zD).mono λ_ h=>.tail _ (.tail _ (.tail _ (.tail _ (.tail _ (xab _ (.tail _ (xad _ h)))))))) lp jS fM sR) ?_;rintro w (⟨_,rfl⟩|⟨v,hv,rfl⟩);rotate_left
   ·obtain⟨s,hs,d,hd,_⟩:=hv.ex;rw[hnone s hs]at hd;cases hd
   refine ae.lss (Br.T ?_);have N6:∀r∈l3 q,r<2:=λr hr=>by
    rcases fM r hr with h|⟨d,hd⟩
    ·exact h
    rw[hnone r hr]at hd;cases hd
   obtain⟨f,first,cap,Sk,hfc,hL⟩:=E3.is;refine Ld.q ?_;refine jb.nat (j:=0) zD (Ld.q ?_);refine ae.dJ (b:=1) (jb.nat (j:=1) zD (Ld.q ?_));refine ae.dJ (b:=1) (jb.nat (j:=2) zD (Ld.q ?_));refine ae.dJ (b:=1) (aL.of Sk hfc ?_);refine aa.eq (hL _ _ _) ?_;have Gy:=λx=>Oi pD (q:=l3 q) rfl N6 t x;have hint:=hK.ok.mid.int;have X4:aN ((bq,Obj.cells (ay .u32 (iw (l3 q))) 236 zZ)::(ji,.cells #[.map (some bm)] 307 zZ)::(b1,.cells #[ptr bw] 231 zZ)::(b5,.cells #[fv] 237 zZ)::(nF,.cells #[Bw ji b1 b5 nF] 308 zZ)::(LB++((bm,.map es ck)::(CN++(gz bw kp vl vm::(CL++(CM++C))))))) (Ye ji b1 b5 nF bm bw kp fv vl vm LB CL CM C es ck):=
    .skip (.cons (.cons (.cons (.cons (.c8 (.cons .right) _)))))
   refine Br.mk (λhb=>?_) (λhb=>?_)
   ·refine aF.mk X4 ⟨K,S,made,es,ck,vm,CM,C,rfl,hS,.refl,.inl ⟨1,rfl,funext λx=>?_,.inl zO⟩⟩;rw[hint.one,Gy x];exact hb.symm
   refine aF.mk X4 ⟨K,S,made,es,ck,vm,CM,C,rfl,hS,.refl,.inl ⟨0,rfl,funext λx=>?_,.inl zO⟩⟩;rw[hint.zero,Gy x];exact hb.symm
 | @node ql v a b hv ha hb iha ihb=>
  intro q hq K S made es ck vm CM C hS fM hU g;subst hq;obtain⟨tr,hK,eR⟩:=hS.ks;obtain⟨m,hE,hkn⟩:=hS.kn;have LU:∀r,r<2->K.N r=none:=λr hr=>hK.ok.wf.const hr;refine xL (R:=aF _) ?_;unfold L252;intro bq _;refine Ld.q ?_;refine az.q ?_;have yf:(bm,Obj.map es ck)∈(bq,Obj.cells (ay .u32 (iw (l3 q))) 236 zZ)::Ye ji b1 b5 nF bm bw kp fv vl vm LB CL CM C es ck:=.tail _ (.tail _ (.tail _ (.tail _ (.tail _ (xab _ (.head _))))));cases hg:aG m q with
  |some x=>
   refine aD.Gu (ke:=kq) (k:=q) v9 qw hE yf hg ?_;rintro v rfl;obtain⟨h1,h2⟩:=hkn _ ((dX hE.nd).1 hg);exact Ext.mk rfl (Ext.mk rfl (Br.yes (aF.mk .tail ⟨K,S,made,es,ck,vm,CM,C,rfl,hS,.refl,.inl ⟨x,rfl,h1,h2⟩⟩)))
  |none=>
  refine aD.vV (ke:=kq) (k:=q) v9 qw hE yf hg ?_;refine Ext.mk rfl (Ext.mk rfl (Br.no (Ld.q ?_)));refine az.q ?_;refine aa.fq (args:=#[ptr bw,kq q]) (Ai hK.rep q (λr hr=>PX r (fM r hr))) ?_;rintro vn H ⟨CN,rfl,hN⟩;have eN:(l3 q).map (got K.N)=(l3 q).map (got K0.N):=xbj λr hr=>n8 hS.c6.N hc0 LU (fM r hr);rw[eN]at hN;refine Ld.q ?_;refine aa.rq (Mj (bw:=bw) (kp:=kp) (vl:=vl) (vm:=vm) (lvl:=lvl) (n:=K0.n) (si:=lv ah) (N:=K0.N) (.tail _ (.tail _ (.tail _ (.tail _ (.tail _ (xab _ (.tail _ (xab _ (.head _))))))))) (Yd.ints.mono λ_ h=>.tail _ (.tail _ (.tail _ (.tail _ (.tail _ (xab _ (.tail _ (xab _ (.tail _ (xad _ h)))))))))) nD hlv q ((Sl.rj hN zD).mono λ_ h=>.tail _ (.tail _ (.tail _ (.tail _ (.tail _ (xab _ (.tail _ (xad _ h)))))))) lp jS fM sR) ?_;rintro w (⟨aJ,_⟩|⟨v',nZ,rfl⟩)
  ·obtain⟨s,hs,d,hd,_⟩:=hv.ex;rw[aJ s hs]at hd;cases hd
  obtain rfl:v'=v:=nZ.uniq jS hv;refine ae.lss (Br.F (DR.of (R:=[(bq,Obj.cells (ay .u32 (iw (l3 q))) 236 zZ)]) (aN.left (A:=[_])) (az.q ?_)));refine az.q ?_;intro Yl _ Yk _ F35;have hone:∀x∈(iw (l3 q)).map λn=>Value.int .u32 n,x.oneCell'=true:=λx hx=>by obtain⟨n,_,rfl⟩:=xao.1 hx;rfl
  refine St.p hone ?_;refine⟨.skip (.skip (aN.left (A:=[_]))),?_⟩;intro F37;refine St.p hone ?_;refine hN.bP ?_;rw[xav];refine⟨λvs H=>∃i:Nat,vs=[iv (i:Int)]/\i<=3/\H=(Yk,.cells (ay .u32 (iw (mW K0.N v' true (l3 q) i))) 236 zZ)::(Yl,.cells (ay .u32 (iw (mW K0.N v' false (l3 q) i))) 236 zZ)::
    (bq,Obj.cells (ay .u32 (iw (l3 q))) 236 zZ)::(ji,.cells #[.map (some bm)] 307 zZ)::(b1,.cells #[ptr bw] 231 zZ)::(b5,.cells #[fv] 237 zZ)::(nF,.cells #[Bw ji b1 b5 nF] 308 zZ)::(LB++((bm,.map es ck)::(CN++(gz bw kp vl vm::(CL++(CM++C)))))),
   λvs _=>3-bJ vs 0,JE.mk ⟨0,rfl,by omega,by rw[y2,y2];rfl⟩,?_⟩
  rintro w44 H ⟨i,hvs,hi,rfl⟩ gs;simp only[xax,xa0]at hvs;subst hvs;have hl3:(l3 q).length=3:=rfl;refine ae.eZ (b:=3) (Br.dec (λhlt=>?_) (λhlt=>?_))
  ·-- a part of the question
   intro J hJ;obtain⟨r,hr⟩:∃r,(l3 q)[i]? =some r:=⟨_,xaa (show i<(l3 q).length from hlt)⟩;have hlr:=fM r (xaw hr);have hrow:((l3 q).map (got K0.N))[i]? =some (got K0.N r):=by rw[xat,hr];rfl
   refine av.sl (Sl.rj hN zD) hrow λp hp=>?_;refine az.at hp (aQ _ _).1 zD (λ_ h=>.tail _ (.tail _ (.tail _ (.tail _ (.tail _ (.tail _ (.tail _ (xab _ (.tail _ (xad _ h)))))))))) ?_;intro b52 _;refine St.whole (r:=got K0.N r) (by exact .head _) rfl (aQ _ _).1 (aQ _ _).2 ?_;have stay:ef K0.N v' false r=r->ef K0.N v' true r=r->∀Z:Hp,JE J [] (Z++((Yk,.cells (ay .u32 (iw (mW K0.N v' true (l3 q) i))) 236 zZ)::(Yl,.cells (ay .u32 (iw (mW K0.N v' false (l3 q) i))) 236 zZ)::
    (bq,Obj.cells (ay .u32 (iw (l3 q))) 236 zZ)::(ji,.cells #[.map (some bm)] 307 zZ)::(b1,.cells #[ptr bw] 231 zZ)::(b5,.cells #[fv] 237 zZ)::(nF,.cells #[Bw ji b1 b5 nF] 308 zZ)::(LB++((bm,.map es ck)::(CN++(gz bw kp vl vm::(CL++(CM++C)))))))):=λe1 e2 Z=>by
    refine JE.of .right (hJ _ λgs=>?_);exact ae.inc (aC.of (.refl _) ⟨i+1,rfl,by omega,by rw[y3 hr e1,y3 hr e2]⟩ (by simp only[bJ];omega))
   cases Z4:K0.N r with
   |none=>
    have qx:r<2:=by rcases hlr with h2|⟨d,hd⟩;exact h2;rw[Z4]at hd;cases hd
    rw[fG qx];refine Ld.f ?_;refine ae.gX (Br.F ?_);have ec:∀b,ef K0.N v' b r=r:=λb=>by unfold ef;rw[Z4]
    exact stay (ec false) (ec true) [_]
   |some d=>
    have h2:=lp.two Z4;rw[dZ Z4 h2];refine Ld.f ?_;refine ae.dJ (Br.dec (λlj=>?_) (λlj=>?_))
    ·refine DR.of (R:=[(b52,Obj.cells (bB d).toArray 226 zZ)]) (aN.left (A:=[_])) (Ld.f ?_);refine Ld.f ?_;have elo:ef K0.N v' false r=d.lo:=by unfold ef;rw[Z4];simp[lj]
     have ehi:ef K0.N v' true r=d.hi:=by unfold ef;rw[Z4];simp[lj]
     refine jb.nat hlt ?_;refine St.ints (l:=iw (mW K0.N v' false (l3 q) i)) (x:=(d.lo:Int)) (by exact .tail (.tail (.head _))) (by rw[aq,Dq zO];omega) ?_;refine⟨aN.left (A:=[_]),?_⟩;refine jb.nat hlt ?_;refine St.ints (l:=iw (mW K0.N v' true (l3 q) i)) (x:=(d.hi:Int)) (by exact .tail (.head _)) (by rw[aq,Dq zO];omega) ?_;rw[fj,fj,<-elo,<-ehi,sJ hr,sJ hr];refine JE.of .tail (hJ _ λgs=>?_);exact ae.inc (aC.of (.refl _) ⟨i+1,rfl,by omega,rfl⟩ (by simp only[bJ];omega))
    have ec:∀b,ef K0.N v' b r=r:=λb=>by unfold ef;rw[Z4];simp[lj]
    exact stay (ec false) (ec true) [_]
  obtain rfl:i=3:=by omega
  have em:∀b,mW K0.N v' b (l3 q) 3=l3 (CY K0.N v' b q):=λb=>by rw[VP,<-Rr];rfl
  rw[em,em];obtain⟨f1,f2⟩:=po (S:=S0) lp jS pD fM hv false;obtain⟨t1,t2⟩:=po (S:=S0) lp jS pD fM hv true;have ec:∀b,uA t S0 (iZ K0.N v' b (l3 q))=λx=>uA t S0 (l3 q) (ak.aB x v' b):=λb=>L7 lp jS pD rfl fM hv t b;have m5:Ord K0.n (lv ah) ord:=by rw[<-hS.c6.n];exact hK.od
  have gp:=jS.lt v' hv.lt;have NW:=m5.of jS hv.lt;have sU:=z6 lp jS pD m5 (q:=l3 q) rfl fM (xca gp) hv.le t;obtain⟨i1,Qr⟩:=jO (n:=K0.n) (ord:=ord) (c:=uA t S0 (iZ K0.N v' false (l3 q))) sU (b:=false) (by rw[NW];exact ec false);obtain⟨i2,Qq⟩:=jO (n:=K0.n) (ord:=ord) (c:=uA t S0 (iZ K0.N v' true (l3 q))) sU (b:=true) (by rw[NW];exact ec true);refine Ld.q ?_;refine az.q ?_;refine aL.of rfl fN ?_;refine aa.pre (H':=(Yk,.cells (ay .u32 (iw (l3 (CY K0.N v' true q)))) 236 zZ)::(Yl,.cells (ay .u32 (iw (l3 (CY K0.N v' false q)))) 236 zZ)::(bq,Obj.cells (ay .u32 (iw (l3 q))) 236 zZ)::Ye ji b1 b5 nF bm bw kp fv vl vm LB CL CM C es ck) (.cons (.cons (.cons (.cons (.cons (.cons (.cons (.c8 (.cons .right) _)))))))) ?_;refine aa.fq (args:=#[kq (CY K0.N v' false q),ptr ji,ptr b1,ptr b5,ptr nF]) (iha (CY K0.N v' false q) rfl K S made es ck vm CM C hS f1 (λg hg=>hU g (Qr g hg))) ?_;rintro w H ⟨K1,S1,y9,kE,jT,vm1,CM1,C1,rfl,E0,WH,SG⟩;rcases SG with⟨x1,rfl,hx1,uu⟩|⟨rfl,hno⟩;rotate_left
  ·exact Ext.mk rfl (Ext.mk rfl (ae.cO (Br.T (aF.mk (.skip (.skip .tail)) ⟨K1,S1,y9,kE,jT,vm1,CM1,C1,rfl,E0,WH.MF zO,.inr ⟨rfl,hno⟩⟩))))
  refine Ext.mk rfl (Ext.mk rfl (ae.cO (Br.F (Ld.q ?_))));refine az.q ?_;refine aL.of rfl fN ?_;have hc1:=λs=>WH.count s;have hh1:∀s,K1.hold s<=K.hold s+a:=λs=>by rw[E0.c6.hold,hS.c6.hold];have:=(hc1 s).1;omega
  refine aa.fq (args:=#[kq (CY K0.N v' true q),ptr ji,ptr b1,ptr b5,ptr nF]) (ihb (CY K0.N v' true q) rfl K1 S1 y9 kE jT vm1 CM1 C1 E0 t1 (λg hg=>hU g (Qq g hg))) ?_;rintro w H ⟨K2,S2,fS,gV,iH,vm2,CM2,C2,rfl,jI,n7,SG⟩;have yl:=WH.trans n7;rcases SG with⟨x2,rfl,Gn,me⟩|⟨rfl,hno⟩;rotate_left
  ·exact Ext.mk rfl (Ext.mk rfl (ae.cO (Br.T (aF.mk (.skip (.skip .tail)) ⟨K2,S2,fS,gV,iH,vm2,CM2,C2,rfl,jI,yl.MF zO,.inr ⟨rfl,hno⟩⟩))))
  refine Ext.mk rfl (Ext.mk rfl (ae.cO (Br.F (Ld.q ?_))));obtain⟨Xy,eW,V8⟩:=E0.ks;obtain⟨BP,dr,uo⟩:=jI.ks;have acK:=dr.ok.mid.int;have l11:live K1.N x1:=by rcases uu with h|h|h;exact .inl h;exact E0.c6.iD eW h;exact E0.c6.live (hh0 _ h)
  have e1:S2 x1=uA t S0 (iZ K0.N v' false (l3 q)):=(n7.fn x1 l11).trans hx1;have l1:live K2.N x1:=by rcases uu with h|h|h;exact .inl h;exact jI.c6.iD dr (n7.mem h);exact jI.c6.live (hh0 _ h)
  have l2:live K2.N x2:=by rcases me with h|h|h;exact .inl h;exact jI.c6.iD dr h;exact jI.c6.live (hh0 _ h)
  have n2:=jI.c6.n;have sS:ite S2 ⟨v',x1,x2⟩=uA t S0 (l3 q):=by
   funext x
   unfold ax.ite;rw[e1,Gn,ec,ec]
   conv=>rhs;rw[<-ak.iz x v']
   simp only;cases x.testBit v'<;>rfl
  obtain⟨m2,sW,Wm⟩:=jI.kn;have hkl:∀y∈m2,live K2.N y.2:=λy hy=>by
   rcases(Wm y hy).2 with h|h|h
   ·exact .inl h
   ·exact jI.c6.iD dr h
   exact jI.c6.live (hh0 _ h)
  by_cases hx:x1=x2
  ·subst hx;refine aa.eq (Hq x1 v' _) (Ext.two λJ hJ=>(ae.gX (Br.T (Ld.q ?_))));refine az.q ?_;refine aD.MQ (ke:=kq) (k:=q) (vr:=PA) (x:=x1) v9 qw A6 sW rfl λes' bD he=>⟨_,.tail (.tail (.tail (.tail (.tail (.tail (.tail ((dg.head _).ca LB))))))),?_⟩;refine JE.mk (hJ _ λgs=>?_);have hr:S2 x1=uA t S0 (l3 q):=by
    rw[<-sS]
    funext x
    unfold ax.ite;split<;>rfl
   have wo:x1<2\/x1∈fS\/K0.hold x1=65535:=me;exact aF.mk (.skip (.skip .tail)) ⟨K2,S2,fS,es',bD,vm2,CM2,C2,rfl,⟨jI.ks,jI.c6,jI.mde,_,he,λy hy=>(nT hy).elim (λe=>by rw[e];exact⟨hr,wo⟩) (λhy=>Wm y hy)⟩,yl.MF zO,.inl ⟨x1,rfl,hr,wo⟩⟩
  have zw:cG (uA t S0 (l3 q)) (ord.getD (lv ah v') 0):=by
   rw[NW];refine xaD λhno=>hx ?_;refine dr.ok.wf.same dr.ok.lv acK l1 l2 λx=>?_;rw[e1,Gn,ec,ec];exact(cQ hno x false).trans (cQ hno x true).symm
  have b1':=dr.ok.below dr.od (l:=lv ah v'+1) l1 zO (by rw[e1];exact i1);have b2':=dr.ok.below dr.od (l:=lv ah v'+1) l2 zO (by rw[Gn];exact i2);have SL:∀g,aH K0.n ord (λg=>g=ite S2 ⟨v',x1,x2⟩) g->U g:=by rw[sS];exact hU
  refine aa.fq (args:=#[ptr bw,iv (v':Int),u32 x1,u32 x2]) (TU dr (v:=v') (by rw[n2];exact hv.lt) l1 l2 hx ⟨by omega,by omega⟩ jI.mde (by have:=jI.c6.rE dr;omega)) ?_;rintro w H (⟨r,K3,S3,C3,vm3,CM3,rfl,rfl,kD,mk,WC⟩|⟨rfl,rfl,ZS,hT⟩|⟨r,rfl,rfl,hlr,PZ,hfull,GI⟩)
  ·refine Ext.two λJ hJ=>(ae.gX (Br.T (Ld.q ?_)));refine az.q ?_;refine aD.MQ (ke:=kq) (k:=q) (vr:=PA) (x:=r) v9 qw A6 sW rfl λes' bD he=>⟨_,.tail (.tail (.tail (.tail (.tail (.tail (.tail ((dg.head _).ca LB))))))),?_⟩;refine JE.mk (hJ _ λgs=>?_);have hr:S3 r=uA t S0 (l3 q):=mk.is.trans sS;have qx:2<=r:=xc8 λh=>by
    obtain⟨x,hx⟩:=zw;apply hx;rw[<-hr];have ZK:=kD.ok.mid.int;have:r=0\/r=1:=by omega
    rcases this with rfl|rfl
    ·rw[ZK.zero,ZK.zero]
    rw[ZK.one,ZK.one]
   have kz:=jI.c6.step dr mk qx SL;have E4:gy K2 S2 fS K3 S3 (fS++[r]) 1:=⟨mk.N,mk.fn,[r],rfl,xai _⟩;have wo:r<2\/r∈fS++[r]\/K0.hold r=65535:=.inr (.inl zI);refine aF.mk (.skip (.skip .tail)) ⟨K3,S3,fS++[r],es',bD,vm3,CM3,C3,rfl,⟨⟨[],kD,.inl rfl⟩,kz,WC,_,he,λy hy=>(nT hy).elim (λe=>by rw[e];exact⟨hr,wo⟩) (λhy=>?_)⟩,(yl.trans E4).MF zO,.inl ⟨r,rfl,hr,wo⟩⟩;obtain⟨k1,k2⟩:=Wm y hy;exact⟨by rw[E4.fn y.2 (hkl y hy),k1],k2.imp id (Or.imp E4.mem id)⟩
  ·refine Ext.two λJ hJ=>(ae.gX (Br.F (JE.mk (hJ _ λgs=>?_))));refine aF.mk (.skip (.skip .tail)) ⟨K2,S2,fS,gV,iH,vm2,CM2,C2,rfl,jI,yl.MF zO,.inr ⟨rfl,?_⟩⟩;rintro⟨ku,Sc,hfit⟩;have:=dr.ok.roomFor dr.od Sc (by rw[jI.c6.cap];exact hfit) (by rw[n2];exact jI.c6.U) (d:=⟨v',x1,x2⟩) l1 l2 hx (by rw[n2];exact hv.lt) ⟨by show lv ah v'<dep K2.n (lv ah) K2.N x1;omega,by show lv ah v'<dep K2.n (lv ah) K2.N x2;omega⟩ (SL _ (by rw[sS];exact oJ sU gp zw)) hT;omega
  refine Ext.two λJ hJ=>(ae.gX (Br.T (Ld.q ?_)));refine az.q ?_;refine aD.MQ (ke:=kq) (k:=q) (vr:=PA) (x:=r) v9 qw A6 sW rfl λes' bD he=>⟨_,.tail (.tail (.tail (.tail (.tail (.tail (.tail ((dg.head _).ca LB))))))),?_⟩;refine JE.mk (hJ _ λgs=>?_);have hr:S2 r=uA t S0 (l3 q):=GI.trans sS;have wo:r<2\/r∈fS\/K0.hold r=65535:=.inr (jI.c6.full hfull);exact aF.mk (.skip (.skip .tail)) ⟨K2,S2,fS,es',bD,vm2,CM2,C2,rfl,⟨jI.ks,jI.c6,jI.mde,_,he,λy hy=>(nT hy).elim (λe=>by rw[e];exact⟨hr,wo⟩) (λhy=>Wm y hy)⟩,yl.MF zO,.inl ⟨r,rfl,hr,wo⟩⟩
end
section
variable {kp bw:Nat} {vl vm:zV} {K:Kd} {S:Nat->ax.Fn} {ord ah tr:zL} {C:Hp}
theorem Am{Y:Hp}{vr:zV}{refs:zL}(hK:cc kp K S ord ah tr C)(hr:dF .u32 Y vr (iw refs))(hl:∀r∈refs,live K.N r)(cD:refs.length<=1048576):
  Fc zQ 177 #[ptr kp,vr] (Y++C) (λw H=>∃bw vl CL lvl,w=.tuple #[ptr bw,iv 0]/\H=gz bw kp vl (.slice none 0 0)::(CL++(Y++C))/\aP 3 .i64 vl (iw lvl) CL/\lvl.length=K.n/\∀v,v<K.n->lvl.getD v 0=lv ah v):=by
 have hn:K.n<=64:=hK.bg.lY;have m5:=hK.od;refine aE λg=>Kj (ae.aI (Br.no (hr.bP ?_)));rw[aq];refine⟨λvs H=>∃i:Nat,vs=[iv (i:Int)]/\i<=refs.length/\H=Y++C,λvs _=>refs.length-bJ vs 0,JE.mk ⟨0,rfl,xaO _,rfl⟩,?_⟩;rintro w7 H ⟨i,⟨⟩,hi,rfl⟩ gs;refine ae.eZ (Br.dec (λhlt=>?_) (λhlt=>?_))
 ·have hlr:=hl _ (xaF hlt);refine hr.ld (n:=((refs[i]:Nat):Int)) (cL (xaa hlt)) (λ_ h=>xad _ h) ?_;refine aa.eq (args:=#[ptr kp,u32 refs[i]]) (iU hK.rep (by have:=hK.bL hlr;omega)) ?_;rw[bX.2 hlr];refine Ext.two λb15 _=>(St.whole (r:=got K.N refs[i]) (by exact .head _) rfl (aQ _ _).1 (aQ _ _).2 ?_);exact ae.cO (Br.F (ae.inc (aC.of .tail ⟨i+1,rfl,hlt,rfl⟩ (by simp only[bJ];omega))))
 refine aa.eq (gP hK.rep) (cZ.ints zO zO λbl=>?_);refine Build.mk (cs:=[ptr kp,.slice (some ⟨bl,0,none⟩) K.n K.n,.slice none 0 0]) zK λbw _=>?_;refine aa.fq (zi hK.rep) ?_;rintro vo H ⟨N,rfl,ho⟩;refine ho.bP ?_;rw[aq,m5.len];have hz:List.replicate K.n (0:Int)=iw (List.replicate K.n 0):=by simp[iw]
 have hm:=aP.made (T:=3) (kd:=.i64) (b:=bl) (iw (List.replicate K.n 0));rw[aq,xdZ]at hm;rw[hz];generalize hvl:Value.slice (some ⟨bl,0,none⟩) K.n K.n=vl at*;refine⟨λvs H=>∃(i:Nat) (L:zL) (CL:Hp),vs=[iv (i:Int)]/\i<=K.n/\H=gz bw kp vl (.slice none 0 0)::(CL++(Y++(N++C)))/\aP 3 .i64 vl (iw L) CL/\L.length=K.n/\∀j,j<i->L.getD (ord.getD j 0) 0=j,λvs _=>K.n-bJ vs 0,
  JE.mk ⟨0,_,_,rfl,xaO _,rfl,hm,by simp,λj hj=>absurd hj (xcX _)⟩,?_⟩
 rintro w34 H ⟨i,L,CL,⟨⟩,hi,rfl,hL,hLl,hLo⟩ gs;refine ae.eZ (Br.dec (λhlt=>?_) (λhlt=>?_))
 ·have o7:=(m5.bg i hlt).1;refine ho.ld (x:=((ord.getD i 0:Nat):Int)) (bI (by rw[m5.len];exact hlt)) (λ_ h=>.tail _ (xab _ (xab _ (xad _ h)))) (Ld.n ?_);refine hL.nw (x:=(i:Int)) (.cons .left) (by rw[aq];omega) λCL' hL'=>?_;rw[fj]at hL';refine ae.inc (aC.mk ⟨i+1,L.set (ord.getD i 0) i,CL',rfl,hlt,rfl,hL',by simp[hLl],λj hj=>?_⟩ (by simp only[bJ];omega));by_cases e:j=i
  ·subst e;rw[xar,xbL zO];rfl
  have hj':j<i:=by omega
  have hne:ord.getD i 0≠ord.getD j 0:=λh=>by
   have a:=(m5.bg i hlt).2;have b:=(m5.bg j zO).2;rw[h,b]at a;exact e a
  rw[xar,xbJ hne,<-xar,hLo j hj']
 obtain rfl:i=K.n:=by omega
 refine aF.mk (.cons (.c8 (.c8 .right _) _)) ⟨bw,vl,CL,L,rfl,rfl,hL,hLl,λv hv=>?_⟩;have h1:=hLo (lv ah v) (hK.ok.lv.lt v hv);rwa [m5.of hK.ok.lv hv]at h1
structure Mx(K K':Kd)(made:zL)(x:Nat)(ok:Bool):Prop where
 n:K'.n=K.n
 cap:K'.cap=K.cap
 N:∀s d,K'.N s=some d->K.N s=some d
 hold:∀s,K'.hold s+made.count s=K.hold s+if ok=true/\s=x/\2<=x then 1 else 0
theorem Xf{X CM:Hp}{made:zL}{x:Nat}{ok fu:Bool}(hK:cc kp K S ord ah tr C)(hM:aP 110 .u32 vm (iw made) CM)(hc:∀s,made.count s<=K.hold s)(h2:∀s∈made,2<=s)(PX:∀s∈made,s<4294967296)(hx:ok=true->((x<2\/x∈made)↔fu=false))(cD:made.length<=1099511627776):
  Fc zQ 251 #[ptr bw,u32 x,iv (if ok then 0 else 9)] (gz bw kp vl vm::(X++(CM++C))) (λw H=>∃K' C' cX,w=.tuple #[u32 (if ok&& !fu then x else 0),iv (if ok then(if fu then 8 else 0)else 9)]/\H=gz bw kp vl (.slice none 0 0)::(X++(CM++C'))/\cc kp K' S ord ah cX C'/\(cX=[]\/(cX=tr/\((ok&& !fu)=true->made≠[])))/\Mx K K' made x (ok&& !fu)):=by
 refine aE λg=>Jr (ae.dJ (b:=0) (cm.or (decide (x=1)) (λ_=>ae.dJ (b:=1) ⟨rfl,rfl⟩) zI λgs=>?_));rw[<-xa8];refine Ld.n (hM.bP ?_);rw[aq];refine⟨λvs H=>∃(i:Nat) (Ki:Kd) (Ci:Hp) (Xx:zL) (kept:Bool),vs=[.bool kept,iv (i:Int)]/\i<=made.length/\H=gz bw kp vl vm::(X++(CM++Ci))/\cc kp Ki S ord ah Xx Ci/\(Xx=[]\/Xx=tr)/\Ki.n=K.n/\Ki.cap=K.cap/\(∀s d,Ki.N s=some d->K.N s=some d)/\
   (∀s,Ki.hold s+(made.take i).count s=K.hold s+if kept=true/\s=x/\2<=x then 1 else 0)/\(x<2->kept=true)/\(kept=true->x<2\/(ok=true/\x∈made.take i))/\(ok=true->x∈made.take i->kept=true),λvs _=>made.length-bJ vs 1,
  JE.mk ⟨0,K,C,tr,_,rfl,xaO _,rfl,hK,.inr rfl,rfl,rfl,λ_ _ h=>h,λs=>?_,λh=>xam zO,λh=>.inl (by have:=xcd h;omega),λ_ h=>by simp at h⟩,?_⟩
 ·rw[xee,xdO,xac (λh=>by have:=xcd h.1;omega)]
 rintro w13 w14 H ⟨i,Ki,Ci,Xx,kept,⟨⟩,hi,rfl,hKi,V7,hn,hcap,hN,hh,ux,rO,pM⟩ gs;refine ae.eZ (Br.dec (λhlt=>?_) (λhlt=>?_))
 ·intro J hJ;have nA:made.take (i+1)=made.take i++[made[i]]:=xba hlt;have hfm:made[i]∈made:=xaF hlt;have mh:(made.take i).count made[i]+1<=made.count made[i]:=by
   have h1:=(xdS (i+1) made).count_le made[i];rw[nA,xbh,List.count_singleton_self]at h1;exact h1
  refine hM.ld (x:=((made[i]:Nat):Int)) (cL (xaa hlt)) (λ_ h=>.tail _ (xab _ (xad _ h))) ?_;generalize hf:made[i]=f at*;refine ae.dJ (cm.and (!kept) (λ_=>Un.not ⟨rfl,rfl⟩) zI λgs=>?_);refine cm.and ok (λ_=>ae.gX ⟨rfl,by cases ok<;>rfl⟩) zI λgs=>?_;refine Br.mk (λhb=>?_) (λhb=>?_)
  ·simp only[xay,xaJ,xbE]at hb;obtain⟨⟨rfl,hkf⟩,hok⟩:=hb;refine JE.mk (hJ _ _ λgs=>?_);refine ae.inc (aC.mk ⟨i+1,Ki,Ci,Xx,true,rfl,hlt,rfl,hKi,V7,hn,hcap,hN,λs=>?_,λ_=>rfl,λ_=>.inr ⟨hok,by rw[nA];simp⟩,λ_ _=>rfl⟩ (by simp only[bJ];omega));have h0:=hh s;rw[nA,xbh,xcK];rw[xac (λh=>by rw[hkf]at h;cases h.1)]at h0;by_cases e:s=f
   ·subst e;have:=h2 s hfm;simp[this];omega
   have:(f==s)=false:=by simpa using λe'=>e e'.symm
   simp[e,this];omega
  refine Ld.n ?_;have hhf:Ki.hold f≠0:=by
   have h0:=hh f;have:=hc f;split at h0<;>omega
  refine aa.fq (args:=#[ptr kp,u32 f]) (m7 hKi (r:=f) (PX f hfm) (λ_=>hhf)) ?_;rintro w C2 ⟨rfl,K2,dr,f2⟩;refine JE.mk (hJ _ _ λgs=>?_);refine ae.inc (aC.mk ⟨i+1,K2,C2,[],kept,rfl,hlt,rfl,dr,.inl rfl,f2.n.trans hn,f2.cap.trans hcap,λs d hd=>hN s d (f2.N s d hd),λs=>?_,ux,λh=>(rO h).imp id (λh=>⟨h.1,by rw[nA];exact xad _ h.2⟩),λh1 h3=>?_⟩ (by simp only[bJ];omega))
  ·have h0:=hh s;rw[f2.hold,nA,xbh,xcK];by_cases e:s=f
   ·subst e;have:=h2 s hfm;simp[this];omega
   have:(f==s)=false:=by simpa using λe'=>e e'.symm
   simp[e,this];omega
  rw[nA,xan,xaz]at h3;rcases h3 with h3|h3
  ·exact pM h1 h3
  subst h3;cases hkk:kept
  ·rw[hkk,h1]at hb;simp at hb
  rfl
 obtain rfl:i=made.length:=by omega
 rw[xbm]at hh rO pM;refine Nil.ptr (ai.mk (St.one (by exact .head _) rfl zI rfl ?_));intro J hJ;refine ae.cO ?_;cases ok with
 |false=>
  refine Br.T ?_;have hE:Mx K Ki made x false:=⟨hn,hcap,hN,λs=>by
   have h0:=hh s;rw[xac (λh=>by cases h.1)];rw[xac (λh=>by
    rcases rO h.1 with h3|h3
    ·omega
    cases h3.1)]at h0
   exact h0⟩
  refine aF.here ⟨Ki,Ci,Xx,?_,rfl,hKi,V7.imp id λh=>⟨h,λh=>by cases h⟩,hE⟩;rfl
 |true=>
  have hx:=hx rfl;cases fu with
  |true=>
   have hkf:kept=false:=by
    cases hkk:kept
    ·rfl
    have:(true=false):=hx.1 ((rO hkk).imp id λh=>h.2);cases this
   refine Br.F ?_;rw[hkf];refine Un.not (Br.yes (aF.here ⟨Ki,Ci,Xx,rfl,rfl,hKi,V7.imp id λh=>⟨h,λh=>by cases h⟩,⟨hn,hcap,hN,λs=>?_⟩⟩));have h0:=hh s;rw[hkf]at h0;rw[xac (λh=>by cases h.1)]at h0⊢;exact h0
  |false=>
  have hx:=hx.2 rfl;have DT:kept=true:=by
   rcases hx with h|h
   ·exact ux h
   exact pM rfl h
  refine Br.F ?_;rw[DT];refine Un.not (Br.no ?_);have hE:∀K3:Kd,K3.n=Ki.n->K3.cap=Ki.cap->K3.N=Ki.N->(∀s,K3.hold s=Ki.hold s)->Mx K K3 made x true:=λK3 a1 a2 a3 a4=>⟨a1.trans hn,a2.trans hcap,by rw[a3];exact hN,λs=>by rw[a4,hh s,DT]⟩;refine ae.dJ (b:=0) (cm.or (decide (x=1)) (λ_=>ae.dJ (b:=1) ⟨rfl,rfl⟩) zI λgs=>?_);rw[<-xa8];refine Br.dec (λN6=>?_) (λN6=>?_)
  ·refine Ld.n ?_;refine aa.fq (mY hKi (r:=x) (.inl zO) (λh=>by omega)) ?_;rintro w C3 ⟨rfl,K3,kD,mo⟩;refine JE.mk (hJ _ λgs=>aF.here ⟨K3,C3,[],by simp,rfl,kD,.inl rfl,hE K3 mo.n mo.cap mo.N λs=>?_⟩);rw[mo.hold,xac zO]
  refine JE.mk (hJ _ λgs=>aF.here ⟨Ki,Ci,Xx,by simp,rfl,hKi,V7.imp id λh=>⟨h,λ_ hm=>?_⟩,hE Ki rfl rfl rfl λ_=>rfl⟩);rcases hx with h|h
  ·omega
  rw[hm]at h;cases h
end
theorem abE{α:Type}(a b c d e f g h:α)(L R:List α):(a::b::c::d::e::f::g::h::(L++R)).Perm (g::d::e::b::h::f::a::(L++c::R)):=by
 classical
 rw[xcu];intro x;simp only[xbh,xb5];omega
def aaF(kp:Nat)(K:Kd)(S:Nat->ax.Fn)(ord ah tr:zL)(f:ax.Fn)(w:zV)(H:Hp):Prop:=
 (∃x K' S',w=.tuple #[u32 x,iv 0]/\cc kp K' S' ord ah [] H/\kV K S K' S' f x)\/
 (w=.tuple #[u32 0,iv 9]/\(∃K' S' cX,cc kp K' S' ord ah cX H/\(cX=[]\/cX=tr)/\Kept K S K' S')/\¬Fits (aH K.n ord (λg=>K.held S g\/g=f)) K.cap)
def kj(kp:Nat)(K:Kd)(S:Nat->ax.Fn)(ord ah tr:zL)(f:ax.Fn)(w:zV)(H:Hp):Prop:=
 aaF kp K S ord ah tr f w H\/(w=.tuple #[u32 0,iv 8]/\(∃K' S' cX,cc kp K' S' ord ah cX H/\(cX=[]\/cX=tr)/\Kept K S K' S')/\∃r,2<=r/\K.hold r=65535/\S r=f)
section
variable {kp bw:Nat} {vl fv:zV} {K:Kd} {S:Nat->ax.Fn} {ord ah tr lvl:zL} {LB CL C:Hp} {t:Bool->Bool->Bool->Bool}
theorem Ml(hK:cc kp K S ord ah tr C)(E3:BI fv LB t)(Yd:aP 3 .i64 vl (iw lvl) CL)(nD:lvl.length=K.n)(hlv:∀v,v<K.n->lvl.getD v 0=lv ah v)(q:Q3)(hq:∀r∈l3 q,live K.N r){c:Nat}(hT:Tree K.n (lv ah) K.N (l3 q) c):
  Fc zQ 178 #[ptr bw,kq q,fv] (LB++(gz bw kp vl (.slice none 0 0)::(CL++C))) (kj kp K S ord ah tr (uA t S (l3 q))):=by
 have hrb:aT zQ 252=true:=by kernel_rfl
 obtain⟨fl,ahs,amt,Sk,hfr⟩:=E3.is;refine aE λg=>Kh λb1 _ b3 _ b5 _ b7 _ b9 _ bm _ ji _=>?_;refine St.one (by exact .head _) rfl zI rfl ?_;intro nF _;refine St.one (by exact .head _) rfl zI rfl ?_;refine Ld.q ?_;refine az.q ?_;refine aL.of rfl hrb (aa.pre (H':=(b9,.cells #[iv 0] 27 zZ)::(b7,.cells #[.int .u32 0] 110 zZ)::Ye ji b1 b5 nF bm bw kp fv vl (.slice none 0 0) LB CL [] C #[] 0) ?_ ?_)
 ·rw[Sk];exact(aN.perm (abE _ _ _ _ _ _ _ _ _ _)).trans .tail
 have m5:=hK.od;have lp:=hK.ok.wf;have jS:=hK.ok.lv;have pD:=hK.ok.mid.int;have hS:Stp kp K S (aH K.n ord (λg=>K.held S g\/g=uA t S (l3 q))) ord ah tr t K S [] #[] 0 (.slice none 0 0) [] C:=
  ⟨⟨tr,hK,.inr ⟨rfl,rfl⟩⟩,.refl λg hg=>cK (λg h=>.inl h) hg,aP.nil,[],aD.empty,λy hy=>by cases hy⟩
 refine aa.fq (args:=#[kq q,ptr ji,ptr b1,ptr b5,ptr nF]) (aac hrb E3 Yd nD hlv hK.bg.lY lp pD jS (λr hr=>by have:=hK.bL hr;omega) (λs hs=>.inr (hK.ok.mid.held s zO)) (YC:=tr) (l3 q) c hT q rfl K S [] #[] 0 (.slice none 0 0) [] C hS hq (λg hg=>cK (λg h=>.inr h) hg)) ?_;rintro w H ⟨K1,S1,made,es,ck,vm,CM,C1,rfl,E0,hA,SG⟩;obtain⟨Xy,eW,V8⟩:=E0.ks;have kz:=E0.c6;have hmx:=kz.rE eW;have agb:∀s∈made,s<4294967296:=λs hs=>by have:=eW.bL (kz.iD eW hs);omega
 have hmc:∀s,made.count s<=K1.hold s:=λs=>by rw[kz.hold];omega
 have fin:∀(x:Nat) (ok fu:Bool),w=.tuple #[u32 (if ok then x else 0),iv (if ok then 0 else 9)]->(ok=true->((x<2\/x∈made)↔fu=false))->(∀K2 C2 BP,cc kp K2 S1 ord ah BP C2->(BP=[]\/(BP=Xy/\((ok&& !fu)=true->made≠[])))->Mx K1 K2 made (if ok then x else 0) (ok&& !fu)->kj kp K S ord ah tr (uA t S (l3 q)) (.tuple #[u32 (if ok&& !fu then(if ok then x else 0)else 0),iv (if ok then(if fu then 8 else 0)else 9)]) C2)->(ok=false->x=0)->
   Ext 0 w λv23=>Ext 1 w λv24=>St 1 ((b9,.cells #[iv 0] 27 zZ)::(b7,.cells #[.int .u32 0] 110 zZ)::Ye ji b1 b5 nF bm bw kp fv vl vm LB CL CM C1 es ck) (ptr b7) v23 λH25=>St 1 H25 (ptr b9) v24 λH26=>
   kx zQ g 250 #[ptr b1,ptr b7,ptr b9] H26 λH27=>Ld H27 (ptr b7) λv28=>Ld H27 (ptr b9) λv29=>aF (kj kp K S ord ah tr (uA t S (l3 q))) (.returned (.tuple #[v28,v29])) H27:=by
  intro x ok fu hw hx hd h0;subst hw;refine Ext.two (St.one (by exact .tail (.head _)) rfl zI rfl ?_);refine St.one (by exact .head _) rfl zI rfl ?_;refine EM (R:=_) ?_;unfold L250;refine Ld.q ?_;refine Ld.q ?_;refine Ld.q ?_;refine aa.fq (Xf (X:=CL) (x:=if ok then x else 0) (ok:=ok) (fu:=fu) eW E0.mde hmc kz.two agb (λh=>by rw[xae h];exact hx h) zO) ?_;rintro w H ⟨K2,C2,BP,rfl,rfl,dr,uo,hE⟩;refine Ext.two (St.one (by exact .tail (.head _)) rfl zI rfl ?_);refine St.one (by exact .head _) rfl zI rfl ?_;refine⟨⟨_,rfl⟩,?_⟩;refine Ld.q ?_;refine Ld.q ?_;exact aF.mk (.skip (.skip (.skip (.skip (.skip (.skip (aN.right.trans (.skip (.skip (aN.right.trans .right)))))))))) (hd K2 C2 BP dr uo hE)
 have rM:∀s,K.hold s≠0->live K.N s:=λs hs=>.inr (hK.ok.mid.held s hs);rcases SG with⟨x,rfl,hx,hxm⟩|⟨rfl,hno⟩
 ·by_cases hxk:x<2\/x∈made;rotate_left
  ·have Gn:2<=x:=by omega
   have hfull:K.hold x=65535:=by
    rcases hxm with h|h|h
    ·exact absurd (.inl h) hxk
    ·exact absurd (.inr h) hxk
    exact h
   refine fin x true true rfl (λ_=>⟨λh=>absurd h hxk,λh=>by cases h⟩) (λK2 C2 BP dr uo hE=>.inr ⟨rfl,⟨K2,S1,BP,dr,?_,?_⟩,x,Gn,hfull,?_⟩) (λh=>by cases h)
   ·rcases uo with h|⟨h,_⟩
    ·exact .inl h
    rcases V8 with h2|⟨h2,_⟩
    ·exact .inl (h.trans h2)
    exact .inr (h.trans h2)
   ·have fT:∀s,K2.hold s=K.hold s:=λs=>by
     have a:=hE.hold s;have b:=kz.hold s;rw[xac (λh=>by cases h.1)]at a;omega
    refine⟨hE.n.trans kz.n,hE.cap.trans kz.cap,fT,λg=>?_,λr hr=>kz.fn r (rM r hr)⟩;constructor
    ·rintro⟨s,hs,rfl⟩;have hs':K.hold s≠0:=by rw[<-fT];exact hs
     exact⟨s,hs',kz.fn s (rM s hs')⟩
    rintro⟨s,hs,rfl⟩;exact⟨s,by show K2.hold s≠0;rw[fT];exact hs,(kz.fn s (rM s hs)).symm⟩
   rw[<-hx];exact(kz.fn x (rM x zO)).symm
  refine fin x true false rfl (λ_=>⟨λ_=>rfl,λ_=>hxk⟩) (λK2 C2 BP dr uo hE=>.inl (.inl ⟨x,K2,S1,rfl,?_,?_⟩)) (λh=>by cases h)
  ·have:BP=[]:=by
    rcases uo with h|⟨h,h'⟩
    ·exact h
    rcases V8 with h2|⟨_,h2⟩
    ·rw[h,h2]
    exact absurd h2 (h' rfl)
   rw[this]at dr;exact dr
  have fT:∀s,K2.hold s=K.hold s+if s=x/\2<=x then 1 else 0:=λs=>by
   have a:=hE.hold s;have b:=kz.hold s;simp only[xcs,xdW,xa7,xcZ]at a;omega
  have hl:live K2.N x:=by
   by_cases h2:x<2
   ·exact .inl h2
   refine .inr (dr.ok.mid.held x ?_);rw[fT,xae ⟨rfl,by omega⟩];omega
  exact⟨hE.n.trans kz.n,hE.cap.trans kz.cap,λs d hs=>j6 hK.ok dr.ok (λs h=>by rw[fT];omega) (λs d d' h h'=>by
   have a:=hE.N s d' h';rw[kz.N s d h]at a;exact(xbp a).symm) _ s d hs (xai _),λs hs=>kz.fn s hs,hl,hx,fT⟩
 refine fin 0 false false rfl (λh=>by cases h) (λK2 C2 BP dr uo hE=>.inl (.inr ⟨rfl,⟨K2,S1,BP,dr,?_,?_⟩,hno⟩)) (λ_=>rfl)
 ·rcases uo with h|⟨h,_⟩
  ·exact .inl h
  rcases V8 with h2|⟨h2,_⟩
  ·exact .inl (h.trans h2)
  exact .inr (h.trans h2)
 have fT:∀s,K2.hold s=K.hold s:=λs=>by
  have a:=hE.hold s;have b:=kz.hold s;rw[xac (λh=>by cases h.1)]at a;omega
 refine⟨hE.n.trans kz.n,hE.cap.trans kz.cap,fT,λg=>?_,λr hr=>kz.fn r (rM r hr)⟩;constructor
 ·rintro⟨s,hs,rfl⟩;have hs':K.hold s≠0:=by rw[<-fT];exact hs
  exact⟨s,hs',kz.fn s (rM s hs')⟩
 rintro⟨s,hs,rfl⟩;exact⟨s,by show K2.hold s≠0;rw[fT];exact hs,(kz.fn s (rM s hs)).symm⟩
end
end
end Go.Proofs
namespace Go.Sx
open Go
section
variable {P:Program} {g:Gh}
theorem Build.three{t e:TypeId}{q:IntKind}{x y z:Int}{K:zV->Prop}(ht:P.underlying t=some (.array 3 e))(hz:dL P e=some 1)(h0:fK P t=some (.agg (ay q [0,0,0])))(h:K (.agg (ay q [x,y,z]))):
  Build P t [(0,.int q x),(1,.int q y),(2,.int q z)] K:=by
 refine⟨_,λw=>?_,h⟩;obtain⟨i,hi,hs⟩:=bG hz;obtain⟨i0,Gw,XS⟩:=cJ h0;simp only[Instr.build,Sem.run_bind,dV Gw XS,Result.andThen_ok,run_underlying ht,run_sizeOf hi,hs];simp[Instr.fill,Value.cells,ay]
theorem Build.abu{t e:TypeId}{q:IntKind}{x y:Int}{K:zV->Prop}(ht:P.underlying t=some (.array 3 e))(hz:dL P e=some 1)(h0:fK P t=some (.agg (ay q [0,0,0])))(h:K (.agg (ay q [x,y,0]))):
  Build P t [(0,.int q x),(1,.int q y)] K:=by
 refine⟨_,λw=>?_,h⟩;obtain⟨i,hi,hs⟩:=bG hz;obtain⟨i0,Gw,XS⟩:=cJ h0;simp only[Instr.build,Sem.run_bind,dV Gw XS,Result.andThen_ok,run_underlying ht,run_sizeOf hi,hs];simp[Instr.fill,Value.cells,ay]
end
end Go.Sx
