import Derived.Test.YtflhdclplgjbbaaGreatR2
import Derived.Sort.AssemblyPlain
import Derived.Test.YtflhdclplgjbbaaGreatR1
import Derived.Test.YtflhdclplgjbbaaGreatProg
import Derived.RangeFuncIn
import Derived.RangeFuncLeaves
import Derived.RangeFuncRecord
import Derived.RangeFuncSeq
set_option linter.unusedVariables false
set_option linter.unusedSimpArgs false
set_option linter.unusedSectionVars false
set_option maxRecDepth 100000
namespace Go.Proofs
open Go Go.Sx Tryz
section
open au
section
variable {kp:Nat} {K:Kd} {ord ah tr:zL} {C:Hp} {S:Nat->au.Fn}
theorem WT(B:Hp)(v:Int)(r:Nat)(kv:zV):Rd zQ 202 #[kv,iv v,u32 r,u32 r] B (· =u32 r):=by
 exact aI λg=>qI (ae.dx (Br.T (bc.mk (.refl _) rfl)))
theorem WV(h:cR kp K ord ah tr C){v lo hi r:Nat}(hne:lo≠hi)(hv:v<K.n)(hT:K.T ⟨v,lo,hi⟩=some r):
  Rd zQ 202 #[ptr kp,iv (v:Int),u32 lo,u32 hi] C (· =u32 r):=by
 obtain⟨b,rfl,hO⟩:=h;refine aI λg=>qI (ae.dx (Br.S8 hne (Build.mk (cs:=bt ⟨v,lo,hi⟩) zK ?_)));intro b3 _;refine St.p (λx hx=>by simp[bt,u32]at hx;rcases hx with rfl|rfl|rfl<;>rfl) ?_;refine DR.self (Nil.ptr (Ld.f ?_));refine az.q ?_;refine aa.eq (uN (d:=⟨v,lo,hi⟩) hO.ut hv) ?_;rw[hT];exact⟨.refl _,Ext.mk rfl (Ext.mk rfl (Br.yes (bc.mk .tail rfl)))⟩
theorem WU(h:cR kp K ord ah tr C){d:Nd}(hne:d.lo≠d.hi)(hd:NOk K.N d)(hv:d.v<K.n)(hT:K.T d=none)(hroom:K.used<K.cap)(hlo:d.lo<2\/d.lo<K.us.length)(hhi:d.hi<2\/d.hi<K.us.length)
 (hb:∀s,K.use s+2<2147483648):
  Fc zQ 202 #[ptr kp,iv (d.v:Int),u32 d.lo,u32 d.hi] C (λv C'=>∃r dA cz,v=u32 r/\K.N r=none/\2<=r/\r<K.cap/\dA.length=cz.length/\r<dA.length/\K.us.length<=dA.length/\dA.getD r 0=0/\
   (∀s,2<=s->s≠r->dA.getD s 0=K.use s+e1 (some d) s)/\(∀s,s<2->dA.getD s 0=K.use s)/\cz.getD r 0=0/\(∀s,s≠r->cz.getD s 0=K.hold s)/\
   cR kp {K with N:=up K.N r (some d),T:=qM K.T d (some r),used:=K.used+1,us:=dA,ho:=cz} ord ah tr C'):=by
 have h0:=h;obtain⟨b,rfl,hO⟩:=h;refine aI λg=>qI (ae.dx (Br.S8 hne (Build.mk (cs:=bt d) zK ?_)));intro b3 _;refine St.p (λx hx=>by simp[bt,u32]at hx;rcases hx with rfl|rfl|rfl<;>rfl) ?_;refine DR.self (Nil.ptr (Ld.f ?_));refine az.q ?_;refine aa.eq (uN (d:=d) hO.ut hv) ?_;rw[hT];refine⟨.refl _,Ext.mk rfl (Ext.mk rfl (Br.no ?_))⟩;refine az.q ?_;refine aa.fq (JW h0 hd hv hT hroom hlo hhi hb) ?_;rintro v C' ⟨r,dA,cz,rfl,hh⟩;exact aN.mk .tail ⟨r,dA,cz,rfl,hh⟩
structure yq(K' K:Kd):Prop where
 N:∀{s d},K'.N s=some d->K.N s=some d
 n:K'.n=K.n
 cap:K'.cap=K.cap
 ho:K'.ho=K.ho
 us:∀s,K'.use s<=K.use s
 idle:(∀s,K.N s=none->K.use s=0)->∀s,K'.N s=none->K'.use s=0
theorem yq.refl(K:Kd):yq K K:=⟨λh=>h,rfl,rfl,rfl,λ_=>xaj _,λh=>h⟩
theorem yq.trans{A B C:Kd}(h:yq A B)(h':yq B C):yq A C:=⟨λx=>h'.N (h.N x),h.n.trans h'.n,h.cap.trans h'.cap,h.ho.trans h'.ho,λs=>xbI (h.us s) (h'.us s),λhi=>h.idle (h'.idle hi)⟩
def PL(P:Nat->Nat)(N:eE):Prop:=∀t,2<=t->0<P t->∃d,N t=some d
def gX(P0:Nat->Nat)(l:zL):Nat->Nat:=λs=>P0 s+l.count s
theorem NI{P0:Nat->Nat}{l:zL}{t:Nat}:up (gX P0 (l++[t])) t (gX P0 (l++[t]) t-1)=gX P0 l:=by
 funext s
 unfold up gX;split
 ·rename_i e;subst e;simp
 rename_i e;simp[xbf,xcH,xa9 e]
theorem mH{P0:Nat->Nat}(h:cR kp K ord ah tr C){r:Nat}(hm:jP K S iN (gX P0 [r]))(hp:Pos K)(hl:PL (gX P0 [r]) K.N)(hr:r<1048576)(hbu:∀s,K.use s<2147483648):
  Fc zQ 122 #[ptr kp,u32 r] C (λv C'=>v=.tuple #[]/\∃K',cR kp K' ord ah tr C'/\jP K' S iN P0/\Pos K'/\PL P0 K'.N/\yq K' K):=by
 refine aI λg=>Jm (ax.int (e:=78) zK zK zK λbx=>?_);refine ab7 (λk vs H=>∃(w:zV) (Ct C':Hp) (todo:zL) (K':Kd),vs=[w]/\H=Ct++C'/\aS 78 .u32 w (iw todo) Ct/\cR kp K' ord ah tr C'/\jP K' S iN (gX P0 todo)/\Pos K'/\PL (gX P0 todo) K'.N/\yq K' K/\(∀t∈todo,t<1048576)/\k=3*K'.used+todo.length/\k<=3*K.used+1)
  _ ⟨_,[_],C,[r],K,rfl,rfl,aS.made [(r:Int)],h,hm,hp,hl,.refl K,by simpa using hr,rfl,by simp⟩ ?_
 rintro w H hJ gs;obtain⟨k,⟨w',Ct,C',todo,K',hw,rfl,ht,hK,hM,Sw,Pu,pR,hT,hk,hkb⟩,hkm⟩:=hJ.open;simp only[xau,xa1]at hw;subst hw;refine ht.bV ?_;rw[aq];refine ae.nE (b:=0) (Br.dec (λhpos=>?_) (λhpos=>?_))
 ·have hc1:=hm.cap;obtain⟨pre,t,rfl⟩:∃pre t,todo=pre++[t]:=⟨todo.dropLast,todo.getLast (by intro e;simp[e]at hpos),(xea _).symm⟩;have htl:(pre++[t]).length=pre.length+1:=by simp
  have ht1:=hT t zI;refine ht.bV ?_;rw[aq,htl];refine ae.xW (b:=1) ?_ zO ?_
  ·simp[bG];omega
  rw[xb6];refine ht.ld (i:=pre.length) (x:=(t:Int)) (by rw[cC];simp[iw]) (bH.sub .left) (ht.cut (i:=pre.length) zI λw' ht'=>?_);have X1:aS 78 .u32 w' (iw pre) Ct:=by
   rw[cC,xez zI]at ht';exact ht'
  have hTp:∀s∈pre,s<1048576:=λs hs=>hT s (xae _ hs);refine ae.BP (b:=1) (Br.dec (λh1=>?_) (λh1=>?_))
  ·have hc:∀s,2<=s->gX P0 (pre++[t]) s=gX P0 pre s:=λs hs=>by
    unfold gX;rw[xbf,xcH];simp;omega
   exact oE.back (.refl _) hkm (3*K'.used+pre.length) ⟨w',Ct,C',pre,K',rfl,rfl,X1,hK,hM.congr (λ_=>xcT) hc,Sw,λs hs h0=>Pu s hs (by rw[hc s hs];exact h0),pR,hTp,rfl,by simp at hk;omega⟩ (by rw[hk];simp)
  have hPt:0<gX P0 (pre++[t]) t:=by unfold gX;simp;omega
  obtain⟨d,hd⟩:=Pu t zO hPt;have hfit:=hM.fit hd;have ZJ:=Sw t d hd;obtain⟨b,rfl,hO⟩:=hK;refine Nil.ptr (Ld.f ?_);refine hO.us.ld (x:=((K'.use t:Nat):Int)) (bE hfit) (bH.sub (.app (.cons (.app (.app .left))))) (ae.xW (b:=1) ?_ zO ?_)
  ·have:=pR.us t;have:=hbu t;simp[bG];omega
  refine hO.us.ny (x:=((K'.use t-1:Nat):Int)) (.app (.cons (.app (.app .left)))) (by simpa using hfit) λUC Bd=>?_;rw[fg]at Bd;have g1:∀s,(K'.us.set t (K'.use t-1)).getD s 0=if s=t then K'.use t-1 else K'.use s:=λs=>gU hfit
  have Nk:=hM.less (r:=t) (dA:=K'.us.set t (K'.use t-1)) hPt zI (by rw[g1,xad rfl];omega) (λs hs=>by rw[g1,xab hs]);rw[NI]at Nk;have Ym:aaK {b with CU:=UC} {K' with us:=K'.us.set t (K'.use t-1)} ord ah tr:={hO with us:=Bd,ul:=by simp;exact hO.ul};have Sy:yq {K' with us:=K'.us.set t (K'.use t-1)} K:=⟨pR.N,pR.n,pR.cap,pR.ho,λs=>by
   show(K'.us.set t (K'.use t-1)).getD s 0<=_;rw[g1];have:=pR.us s;split
   ·rename_i e;subst e;omega
   ·exact this,λhi s hs=>by
   show(K'.us.set t (K'.use t-1)).getD s 0=0;have hs':K'.N s=none:=hs;rw[g1,xab (λe=>by subst e;rw[hd]at hs';cases hs')];exact pR.idle hi s hs'⟩
  have adB:PL (gX P0 pre) K'.N:=λs hs h0=>Pu s hs (by unfold gX at h0⊢;rw[xbf];omega);refine Nil.ptr (Ld.f ?_);refine Bd.ld (x:=((K'.use t-1:Nat):Int)) (by rw[<-fg];simp[hfit]) (bH.sub (.app (.cons (.app (.app .left))))) ?_;refine ae.nE (b:=0) (Br.dec (λh3=>?_) (λh3=>?_))
  ·refine oE.back (.refl _) hkm (3*K'.used+pre.length) ⟨w',Ct,_,pre,_,rfl,rfl,X1,⟨_,rfl,Ym⟩,Nk,λs e hs=>?_,adB,Sy,hTp,rfl,by simp at hk;omega⟩ (by rw[hk];simp);show 0<(K'.us.set t (K'.use t-1)).getD s 0;rw[g1];split
   ·exact h3
   exact Sw s e hs
  have hu0:K'.use t=1:=by omega
  have dO:cR kp {K' with us:=K'.us.set t (K'.use t-1)} ord ah tr (({b with CU:=UC}:uD).hp kp K'.n):=⟨_,rfl,Ym⟩;refine aa.eq (n6 dO zO) ?_;have SB:2<=t:=by omega
  have agL:got K'.N t=bt d:=dZ hd SB;show N7 _ _ _;intro b32 _;rw[agL];refine St.p (λx hx=>by simp[bt,u32]at hx;rcases hx with rfl|rfl|rfl<;>rfl) ?_;refine DR.self (Nil.ptr (Ld.f ?_));refine az.q ?_;have hTd:K'.T d=some t:=(hM.kf d t).2 ⟨hd,λh=>h⟩;refine aa.fq (yN Ym.ut (hM.var hd) hTd) ?_;rintro v CT' ⟨rfl,ZA⟩;refine Nil.ptr (Ld.f ?_);refine aa.fq (TQ Ym.ar ⟨d,hd⟩ SB) ?_;rintro v CA' ⟨rfl,har⟩;refine Ld.f ?_;refine Ld.f ?_;refine ax.Rs (e:=78) zK zK zK λbz=>?_;refine X1.Yy (.cons (.cons .left)) (dz.block (l:=[(d.lo:Int),(d.hi:Int)]) (by exact .head _) zI) (by simp at hk⊢;omega) (by simp at hk⊢;omega) λw2 Ct2 RH=>?_;have e0:iw pre++[(d.lo:Int),(d.hi:Int)]=iw (pre++[d.lo,d.hi]):=by rw[cC];rfl
  rw[e0]at RH;have F0:({K' with us:=K'.us.set t (K'.use t-1)}:Kd).use t=0:=by show(K'.us.set t (K'.use t-1)).getD t 0=0;rw[g1,xad rfl];omega
  have KL:=Nk.free (r:=t) (d:=d) hd (λh=>h) F0;have hed:dr K'.N t K'.cap=0:=by have:=Nk.use hd;rw[F0]at this;exact(by have h5:dr K'.N t K'.cap+_+_=0:=this.symm;omega)
  have fO:=j4 hed t (hM.two hd).2 d hd;have ahq:gX P0 pre t=0:=by have:=Nk.use hd;rw[F0]at this;omega
  have hroom:0<K'.used:=by have:=hM.room;omega
  have hlt:∀x,live K'.N x->x<1048576:=λx hx=>dO.lt hx;have l8:∀s,2<=s->gX P0 pre s+e1 (some d) s=gX P0 (pre++[d.lo,d.hi]) s:=λs _=>by
   unfold gX;rw[eC,xbf,xb5,xb5,xdK];simp only[xcO];omega
  refine oE.back (.skip (.skip (.refl _))) hkm (3*(K'.used-1)+(pre++[d.lo,d.hi]).length) ⟨w2,Ct2,_,pre++[d.lo,d.hi],{K' with us:=K'.us.set t (K'.use t-1),N:=up K'.N t none,T:=qM K'.T d none,used:=K'.used-1},rfl,rfl,RH,
   ⟨{b with CU:=UC,CT:=CT',CA:=CA'},rfl,{Ym with ar:=har,ut:=ZA}⟩,KL.congr (λ_=>xcT) l8,λs e hs=>?_,λs hs h0=>?_,⟨λ{s e} hs=>?_,Sy.n,Sy.cap,Sy.ho,Sy.us,λhi s hs=>?_⟩,λs hs=>?_,rfl,by simp at hk⊢;omega⟩ (by simp at hk⊢;omega)
  ·have hne:s≠t:=λe2=>by subst e2;have sO:up K'.N s none s=some e:=hs;rw[aO]at sO;cases sO
   show 0<(K'.us.set t (K'.use t-1)).getD s 0;rw[g1,xab hne];have sO:up K'.N t none s=some e:=hs;rw[aQ hne]at sO;exact Sw s e sO
  ·have hne:s≠t:=λe2=>by
    subst e2;rw[<-l8 s hs,ahq]at h0;rw[eC,xab fO.1,xab fO.2]at h0;omega
   show∃e,up K'.N t none s=some e;rw[aQ hne];rw[<-l8 s hs]at h0;by_cases h5:0<gX P0 pre s
   ·exact adB s hs h5
   rw[eC]at h0;have:d.lo=s\/d.hi=s:=by
    by_cases h6:d.lo=s
    ·exact .inl h6
    by_cases h7:d.hi=s
    ·exact .inr h7
    rw[xab h6,xab h7]at h0;omega
   rcases this with rfl|rfl
   ·rcases hM.lo hd with h8|h8
    ·omega
    exact h8
   rcases hM.hi hd with h8|h8
   ·omega
   exact h8
  ·have sO:up K'.N t none s=some e:=hs;by_cases e2:s=t
   ·subst e2;rw[aO]at sO;cases sO
   rw[aQ e2]at sO;exact pR.N sO
  ·have sO:up K'.N t none s=none:=hs;show(K'.us.set t (K'.use t-1)).getD s 0=0;by_cases e2:s=t
   ·subst e2;rw[g1,xad rfl];omega
   rw[aQ e2]at sO;exact Sy.idle hi s sO
  rcases xao.1 hs with hs|hs
  ·exact hTp s hs
  simp at hs;rcases hs with rfl|rfl
  ·exact hlt _ (hM.lo hd)
  exact hlt _ (hM.hi hd)
 obtain rfl:todo=[]:=xbW zO;exact aN.mk .right ⟨rfl,K',hK,hM.congr (λ_=>xcT) (λs _=>by simp[gX]),Sw,λs hs h0=>Pu s hs (by simpa[gX]using h0),pR⟩
end
abbrev lv(ah:zL):Nat->Nat:=λv=>ah.getD v 0
section
variable {kp:Nat} {K:Kd} {ord ah tr:zL} {C:Hp} {S:Nat->au.Fn}
theorem rE(h:cR kp K ord ah tr C)(v:Int):Rd zQ 133 #[ptr kp,iv v] C (· =.bool (decide (0<=v/\v<K.n))):=by
 obtain⟨b,rfl,hO⟩:=h;refine aI λg=>Jc (ae.geq (cS.and (decide (v<K.n)) (λ_=>?_) rfl λ_=>bc.mk (.refl _) (by rw[xd3])));refine Nil.ptr (Ld.f ?_);exact ae.lss ⟨rfl,rfl⟩
theorem zj(h:cR kp K ord ah tr C){r:Nat}(hl:live K.N r)(hv:∀d,K.N r=some d->d.v<K.n)(h01:r<2->K.N r=none):Rd zQ 212 #[ptr kp,u32 r] C (· =iv ((dep K.n (lv ah) K.N r:Nat):Int)):=by
 have h0:=h;have hr:=h.lt hl;obtain⟨b,rfl,hO⟩:=h;refine aI λg=>Ib (Nil.ptr (ai.mk (aa.eq (n6 h0 zO) ?_)));intro b5 _;refine St.whole (r:=got K.N r) (by exact .head _) rfl (aP _ _).1 (aP _ _).2 ?_;by_cases h2:r<2
 ·rw[fG h2,aT (h01 h2)];refine Ld.f ?_;refine ae.geq (Br.no' zD (Nil.ptr (Ld.f ?_)));exact bc.mk .tail rfl
 obtain⟨d,hd⟩:∃d,K.N r=some d:=by rcases hl with hl|hl;omega;exact hl
 rw[dZ hd zO,an hd];have kA:=hv d hd;have hlen:=hO.ol.2;refine Ld.f ?_;refine ae.geq (Br.UE zI (Nil.ptr (Ld.f ?_)));refine Ld.f ?_;exact hO.lv.ld (x:=((ah.getD d.v 0:Nat):Int)) (bE zO) (bH.sub (.cons (.cons (.app (.app (.app (.app (.app .left)))))))) (bc.mk .tail rfl)
def pT(K:Kd)(ah:zL)(v:Int)(lo hi:Nat):Int:=
 if¬(0<=v/\v<K.n)then 2 else if gE K.N lo=false\/gE K.N hi=false then 3 else if lo≠hi/\min (dep K.n (lv ah) K.N lo) (dep K.n (lv ah) K.N hi)<=ah.getD v.toNat 0 then 4 else 0
theorem KX(h:cR kp K ord ah tr C)(v:Int){lo hi:Nat}(hlo:lo<4294967296)(hhi:hi<4294967296)(hv:∀r d,K.N r=some d->d.v<K.n/\2<=r):
  Rd zQ 146 #[ptr kp,iv v,u32 lo,u32 hi] C (· =iv (pT K ah v lo hi)):=by
 have h0:=h;have h01:∀r,r<2->K.N r=none:=λr hr=>by
  cases e:K.N r with
  |none=>rfl
  |some d=>have:=(hv r d e).2;omega
 obtain⟨b,rfl,hO⟩:=h;refine aI λg=>I9 (aa.eq (rE h0 v) (Un.not ?_));by_cases M0:0<=v/\v<K.n;rotate_left
 ·rw[xal M0];exact Br.yes (bc.mk (.refl _) (by unfold pT;rw[xad M0]))
 rw[xam M0];apply Br.no;obtain⟨n,rfl⟩:∃n:Nat,v=n:=⟨v.toNat,by omega⟩;have hnv:n<K.n:=by omega
 intro J hJ;refine Nil.ptr (ai.mk (aa.eq (n7 h0 hlo) (Un.not ?_)));by_cases nk:gE K.N lo=true;rotate_left
 ·have acU:gE K.N lo=false:=by simpa using nk
  rw[acU];exact Split.QL rfl (aH.mk (JE.mk (hJ _ _ λgs=>Br.yes (bc.mk (.refl _) (by unfold pT;rw[xab (by simpa using M0),xad (.inl acU)])))))
 rw[nk];refine Split.go rfl (Nil.ptr (ai.mk (aa.eq (n7 h0 hhi) (Un.not ?_))));by_cases hhl:gE K.N hi=true;rotate_left
 ·have ac4:gE K.N hi=false:=by simpa using hhl
  rw[ac4];exact aH.mk (JE.mk (hJ _ _ λgs=>Br.yes (bc.mk (.refl _) (by unfold pT;rw[xab (by simpa using M0),xad (.inr ac4)]))))
 rw[hhl];refine aH.mk (JE.mk (hJ _ _ λgs=>Br.no ?_));intro J2 BV;have hE:pT K ah n lo hi=if lo≠hi/\min (dep K.n (lv ah) K.N lo) (dep K.n (lv ah) K.N hi)<=ah.getD n 0 then 4 else 0:=by
  unfold pT;rw[xab (by simpa using M0),xab (by rw[nk,hhl];simp)];rfl
 refine DR.self (ae.x5 ?_);by_cases hne:lo≠hi;rotate_left
 ·rw[xal hne];exact Br.no (JE.mk (BV _ _ λgs=>Br.no (bc.mk (.refl _) (by rw[hE,xab (λh=>hne h.1)]))))
 rw[xam hne];refine Br.yes (Nil.ptr (Ld.f ?_));have hlen:=hO.ol.2;refine hO.lv.ld (x:=((ah.getD n 0:Nat):Int)) (bE zO) (bH.sub (.cons (.app (.app (.app (.app (.app .left))))))) λF=>?_;refine aa.eq (zj h0 (bZ.1 nk) (λd hd=>(hv _ _ hd).1) (h01 _)) (⟨.refl _,?_⟩);intro F2;refine aa.eq (zj h0 (bZ.1 hhl) (λd hd=>(hv _ _ hd).1) (h01 _)) (⟨.refl _,?_⟩);refine⟨_,_,_,rfl,rfl,?_⟩;have hmin:(if((dep K.n (lv ah) K.N hi:Nat):Int)<((dep K.n (lv ah) K.N lo:Nat):Int)then((dep K.n (lv ah) K.N hi:Nat):Int)else((dep K.n (lv ah) K.N lo:Nat):Int))=((min (dep K.n (lv ah) K.N lo) (dep K.n (lv ah) K.N hi):Nat):Int):=by
  split<;>omega
 rw[hmin];refine ae.tS (aH.mk ?_);by_cases hm:min (dep K.n (lv ah) K.N lo) (dep K.n (lv ah) K.N hi)<=ah.getD n 0
 ·rw[xam hm];exact JE.mk (BV _ _ λgs=>Br.yes (bc.mk (.refl _) (by rw[hE,xad ⟨hne,hm⟩])))
 rw[xal hm];exact JE.mk (BV _ _ λgs=>Br.no (bc.mk (.refl _) (by rw[hE,xab (λh=>hm h.2)])))
theorem Kb(h:cR kp K ord ah tr C){v lo hi:Nat}(hv:v<K.n):
  Rd zQ 147 #[ptr kp,iv (v:Int),u32 lo,u32 hi] C (· =if lo=hi then .tuple #[u32 lo,.bool true]else .tuple #[u32 ((K.T ⟨v,lo,hi⟩).getD 0),.bool (K.T ⟨v,lo,hi⟩).isSome]):=by
 obtain⟨b,rfl,hO⟩:=h;refine aI λg=>I8 (ae.dx (Br.dec (λhe=>bc.mk (.refl _) (by rw[xad he])) (λhe=>?_)));refine Nil.ptr (ai.mk (Ld.f ?_));exact Build.mk (cs:=bt ⟨v,lo,hi⟩) zK (aa.eq (uN (d:=⟨v,lo,hi⟩) hO.ut hv) (Ext.mk rfl (Ext.mk rfl (bc.mk (.refl _) (by rw[xab he];rfl)))))
theorem v5(h:cR kp K ord ah tr C){r:Nat}(hr:r<4294967296)(hb:∀s,K.hold s<2147483648):Rd zQ 121 #[ptr kp,u32 r] C (· =iv ((K.hold r:Nat):Int)):=by
 obtain⟨b,rfl,hO⟩:=h;refine aI λg=>Jn (ae.aL (cS.or (decide (K.ho.length<=r)) (λ_=>?_) zI λ_=>?_))
 ·refine br.q (Nil.ptr (ai.mk (Ld.f ?_)));refine hO.ho.bV ?_;rw[aq];exact ae.tS ⟨rfl,rfl⟩
 rw[xdx];refine Br.dec (λhge=>?_) (λhlt=>?_)
 ·refine bc.mk (.refl _) ?_;unfold Kd.hold;rw[List.getD,xaC hge];rfl
 refine Nil.ptr (ai.mk (Ld.f ?_));exact hO.ho.ld (x:=((K.hold r:Nat):Int)) (bE zO) (bH.sub (.cons (.app (.app (.app .left))))) (br.nat (by have:=hb r;simp[bG];omega) (bc.mk (.refl _) rfl))
theorem V5(h:cR kp K ord ah tr C)(h2:2<=K.used)(hu:K.used<=1048576):Rd zQ 83 #[ptr kp] C (· =iv ((K.used-2:Nat):Int)):=by
 obtain⟨b,rfl,hO⟩:=h;refine aI λg=>Oh (ae.aL (Br.no (Nil.ptr (ai.mk (Ld.f ?_)))));exact aa.eq (Ee hO.ar) (ae.xW (b:=2) (by simp[bG];omega) h2 (bc.mk (.refl _) rfl))
theorem MX(h:cR kp K ord ah tr C):Rd zQ 174 #[ptr kp] C (· =iv ((tr.length:Nat):Int)):=by
 obtain⟨b,rfl,hO⟩:=h;refine aI λg=>IJ (ae.aL (Br.no (Nil.ptr (Ld.f ?_))));refine hO.tr.bV ?_;rw[aq];exact bc.mk (.refl _) rfl
theorem gR(h:cR kp K ord ah tr C):Rd zQ 108 #[ptr kp] C (· =iv ((K.n:Nat):Int)):=by
 obtain⟨b,rfl,hO⟩:=h;refine aI λg=>JB (ae.aL (Br.no (Nil.ptr (Ld.f ?_))));exact bc.mk (.refl _) rfl
theorem iQ(h:cR kp K ord ah tr C){r:Nat}(hr:r<4294967296):Rd zQ 152 #[ptr kp,u32 r] C (· =.tuple #[.agg (got K.N r).toArray,iv (if gE K.N r then 0 else 3)]):=by
 have h0:=h;obtain⟨b,rfl,hO⟩:=h;refine aI λg=>I3 λb1 _=>?_;refine ae.aL (Br.no (Nil.ptr (ai.mk (aa.eq (n7 h0 hr) (Un.not ?_)))));cases hb:gE K.N r with
 |false=>
  refine Br.yes (Build.mk (cs:=[iv 0,.int .u32 0,.int .u32 0]) zK (St.q ?_));refine az.q ?_;exact bc.mk .tail (by rw[DG hb];rfl)
 |true=>
  refine Br.no (Nil.ptr (ai.mk (aa.eq (n6 h0 hr) (St.whole (r:=got K.N r) (by exact .head _) rfl (aP _ _).1 (aP _ _).2 ?_))));refine az.whole (r:=got K.N r) (by exact .head _) (aP _ _).1 ?_;exact bc.mk .tail rfl
end
theorem wT{B:Hp}{v:zV}{l:List Int}(h:dz .i64 B v l)(hl:l.length<=1099511627776):Fc zQ 31 #[v] B (λr H=>∃C,H=C++B/\aS 3 .i64 r l C):=by
 refine aI λg=>O1 ?_;obtain⟨a,c,rfl,hc⟩:=h.shape;refine⟨.bool a.isNone,by simp[g8],?_⟩;refine Br.mk (λha=>?_) (λha=>?_)
 ·have:l=[]:=by
   rcases h.2 with⟨_,_,h1,h2⟩|⟨b,o,cap,cs,T,fz,h1,_⟩
   ·simpa using h2
   simp at h1;rw[h1.1]at ha;simp at ha
  subst this;exact aN.here ⟨[],rfl,aS.nil⟩
 refine ax.none (z:=iv 0) (e:=3) (k:=1) zK zK zK λb=>?_;refine(aS.made (T:=3) (kd:=.i64) (b:=b) []).Yy (l2:=l) .left ((show dz .i64 B _ l from h).mono λ_ h=>.tail _ h) zP zP λv' C' ho=>?_;exact aN.here ⟨C',rfl,by simpa using ho⟩
theorem zc{kp:Nat}{K:Kd}{ord ah tr:zL}{C:Hp}(h:cR kp K ord ah tr C):Fc zQ 27 #[ptr kp] C (λr H=>∃N,H=N++C/\aS 3 .i64 r (iw ord) N):=by
 obtain⟨b,rfl,hO⟩:=h;refine aI λg=>O4 (ae.aL (Br.no (Nil.ptr (Ld.f ?_))));refine aa.fq (wT (hO.od.ints.mono (bH.sub (.cons (.app (.app (.app (.app .left))))))) (by have:=hO.ol.1;have:=hO.lP;simp;omega)) ?_;rintro v C' ⟨N,rfl,ho⟩;exact aN.here ⟨N,rfl,ho⟩
end
section
def Ay(x r:Nat):Prop:=x<2^r/\(r=0\/2^(r-1)<=x)
theorem Ay.up{x s t:Nat}(h:Ay (x>>>s) t)(h0:s=0\/x>>>s≠0):Ay x (s+t):=by
 rw[xa0]at h h0;have hp:=xbw s;refine⟨?_,?_⟩
 ·have:=h.1;rw[Nat.div_lt_iff_lt_mul hp]at this;rw[xdy,xcm];exact this
 rcases h.2 with h2|h2
 ·subst h2;have:=h.1;rcases h0 with h0|h0
  ·exact .inl zO
  rw[Nat.pow_zero]at this;exact absurd (Nat.lt_one_iff.1 this) h0
 by_cases ht:t=0
 ·subst ht;rcases h0 with h0|h0
  ·exact .inl zO
  have:=h.1;rw[Nat.pow_zero]at this;exact absurd (Nat.lt_one_iff.1 this) h0
 right;have:=(Nat.le_div_iff_mul_le hp).1 h2;rw[show s+t-1=(t-1)+s by omega,xdy];exact this
theorem VX:∀y:Fin 256,∃b:UInt8, zX[y.1]? =some b/\(y.1<2^b.toNat/\(b.toNat=0\/2^(b.toNat-1)<=y.1)):=by
 have h:∀y:Fin 256,(match zX[y.1]? with|some b=>decide (y.1<2^b.toNat/\(b.toNat=0\/2^(b.toNat-1)<=y.1))|none=>false)=true:=by decide+kernel
 intro y;have:=h y;split at this
 ·rename_i b hb;exact⟨b,hb,by simpa using this⟩
 cases this
theorem Ra{x:Nat}(hx:x<18446744073709551616)(B:Hp):Rd zQ 145 #[.int .u64 (x:Int)] B (λv=>∃r:Nat,Ay x r/\v=iv (r:Int)):=by
 refine aI λg=>Ja λJ1 hJ1=>?_;have h1:∀s,s<=32->x>>>s<4294967296->(s=0\/x>>>s≠0)->J1 [.int .u64 ((x>>>s:Nat):Int),iv (s:Int)] B:=by
  intro s hs hlt h0;refine hJ1 _ _ _ λgs=>?_;intro J2 BV;have h2:∀s,s<=48->x>>>s<65536->(s=0\/x>>>s≠0)->J2 [.int .u64 ((x>>>s:Nat):Int),iv (s:Int)] B:=by
   intro s hs hlt h0;refine BV _ _ _ λgs=>?_;intro J3 hJ3;have h3:∀s,s<=56->x>>>s<256->(s=0\/x>>>s≠0)->J3 [.int .u64 ((x>>>s:Nat):Int),iv (s:Int)] B:=by
    intro s hs hlt h0;refine hJ3 _ _ _ λgs=>?_;refine br.nat (show x>>>s<256 from hlt) ?_;obtain⟨b,hb,hl⟩:=VX ⟨x>>>s,hlt⟩;refine⟨_,_,_,b,rfl,rfl,xde _,by rw[xbe];exact hb,?_⟩;have Ur:b.toNat<256:=b.toNat_lt;exact br.q (ae.fI (bc.mk (.refl _) ⟨s+b.toNat,Ay.up (t:=b.toNat) hl h0,rfl⟩))
   refine ae.tS (b:=256) (Br.dec (λhge=>?_) (λhge=>JE.mk (h3 s zO zO h0)));refine ae.iK (b:=8) (by simp only[bG];omega) (ae.fI (b:=8) ?_);rw[<-xdH];have e:x>>>(s+8)=x>>>s/256:=by rw[xdH,xa0 (x>>>s) 8]
   exact JE.mk (h3 (s+8) zO zO (.inr zO))
  refine ae.tS (b:=65536) (Br.dec (λhge=>?_) (λhge=>JE.mk (h2 s zO zO h0)));refine ae.iK (b:=16) (by simp only[bG];omega) (ae.fI (b:=16) ?_);rw[<-xdH];have e:x>>>(s+16)=x>>>s/65536:=by rw[xdH,xa0 (x>>>s) 16]
  exact JE.mk (h2 (s+16) zO zO (.inr zO))
 refine ae.tS (b:=4294967296) (Br.dec (λhge=>?_) (λhge=>JE.mk (h1 0 zO zP (.inl rfl))));refine ae.iK (b:=32) (by simp only[bG];exact hx) ?_;have e:x>>>32=x/4294967296:=by rw[xa0]
 exact JE.mk (h1 32 zO zO (.inr zO))
end
end Go.Proofs
namespace Go.Sx
open Go
section
variable {P:Program} {H C:Hp} {c:Hp->Hp}
theorem bH.re(h:bH C H c)(X:Hp):bH X (c X) c:=by
 induction h with
 |here=>exact .here
 |left=>exact .left
 |cons _ ih=>exact .cons ih
 |app _ ih=>exact .app ih
theorem swap_perm{l:List Int}{i j:Nat}{x y:Int}(hi:l[i]? =some x)(hj:l[j]? =some y):((l.set i y).set j x).Perm l:=by
 have h1:=(xah.1 hi).1;have h2:=(xah.1 hj).1;rw[xcs];intro a;by_cases e:i=j
 ·subst e;rw[hi]at hj;cases hj;rw[List.set_set];have:l.set i x=l:=by
   have hx:l[i]=x:=by rw[xaa h1]at hi;exact xbg hi
   rw[<-hx];exact List.set_getElem_self h1
  rw[this]
 have hx:l[i]=x:=by rw[xaa h1]at hi;exact xbg hi
 have hy:l[j]=y:=by rw[xaa h2]at hj;exact xbg hj
 rw[xdL (by simpa using h2),xdL h1];have:(l.set i y)[j]'(by simpa using h2)=y:=by rw[List.getElem_set_ne e];exact hy
 rw[this,hx];have c1:l.count x≥1:=List.one_le_count_iff.2 (hx▸xaH h1);have c2:l.count y≥1:=List.one_le_count_iff.2 (hy▸xaH h2);by_cases e1:x=a
 ·subst e1;by_cases e2:y=x
  ·subst e2;simp<;>omega
  simp[e2,xa9 e2]<;>omega
 by_cases e2:y=a
 ·subst e2;simp[e1]<;>omega
 simp[e1,e2]<;>omega
def up1(vs:List zV):Nat:=match vs with
 | .int _ q::_=>(q+1).toNat
 |_=>0
theorem AG{k:IntKind}{q:Int}{r:List zV}:up1 (.int k q::r)=(q+1).toNat:=rfl
end
end Go.Sx
namespace Go.Sx
open Go
abbrev cv:=Sort.ltInt
section
variable {P:Program} {H C:Hp} {c:Hp->Hp} {T:TypeId} {kd x8 k1 k2 k3 k4:IntKind} {v:zV} {d:Array Int}
def Da(T:TypeId)(kd:IntKind)(v:zV)(d:Array Int)(C:Hp):Prop:=aS T kd v d.toList C
theorem aav(d:Array Int){i:Nat}(hi:i<d.size):d.toList[i]? =some d[i]! :=by
 rw[xbc,getElem!_pos d i hi];exact xbA hi
theorem P3(d:Array Int)(i j:Nat):(Sort.swp d i j).toList=(d.toList.set i d[j]!).set j d[i]! :=by
 unfold Sort.swp;rw[Array.toList_setIfInBounds,Array.toList_setIfInBounds]
theorem Da.ld(h:Da T kd v d C)(hC:∀y∈C,y∈H){i:Nat}(hi:i<d.size){K:zV->Prop}(hk:K (.int kd d[i]!)):av 1 v (.int x8 (i:Int)) λp=>Ld H p K:=
 aS.ld h (aav d hi) hC hk
theorem Da.XI(h:Da T kd v d C)(hh:bH C H c){i j:Nat}(hi:i<d.size)(hj:j<d.size){B:(zV->Prop)->Prop}
 (hB:∀k:zV->Prop,k (.int k2 (i:Int))->B k){K:Hp->Prop}(hk:∀C',Da T kd v (Sort.swp d i j) C'->K (c C')):
  av 1 v (.int k1 (j:Int)) λp1=>Ld H p1 λx=>B λu=>av 1 v u λp2=>Ld H p2 λy=>av 1 v (.int k3 (i:Int)) λp3=>St 1 H p3 x λH1=>av 1 v (.int k4 (j:Int)) λp4=>St 1 H1 p4 y K:=by
 refine h.ld hh.sub hj (hB _ ?_);refine h.ld hh.sub hi ?_;refine aS.ny h hh (by rw[xcc];exact hi) λC1 h1=>?_;refine h1.ny (hh.re C1) (by rw[xbR,xcc];exact hj) λC2 h2=>?_;exact hk C2 (by unfold Da;rw[P3];exact h2)
theorem Da.swap(h:Da T kd v d C)(hh:bH C H c){i j:Nat}(hi:i<d.size)(hj:j<d.size){K:Hp->Prop}(hk:∀C',Da T kd v (Sort.swp d i j) C'->K (c C')):
  av 1 v (.int k1 (j:Int)) λp1=>Ld H p1 λx=>av 1 v (.int k2 (i:Int)) λp2=>Ld H p2 λy=>av 1 v (.int k3 (i:Int)) λp3=>St 1 H p3 x λH1=>av 1 v (.int k4 (j:Int)) λp4=>St 1 H1 p4 y K:=
 h.XI (B:=λk=>k _) hh hi hj (λ_ h=>h) hk
end
theorem iZ{d:Array Int}{n i j:Nat}(h:d.size=n):(Sort.swp d i j).size=n:=(Sort.size_swp d i j).trans h
theorem Rv{a j:Nat}{e:Array Int}(h:¬a<j):Sort.insInner cv a j e=e:=by
 cases j with
 |zero=>rfl
 |succ j=>rw[Sort.insInner,xab zP]
theorem Rw{a j:Nat}{e:Array Int}(h:a<j):Sort.insInner cv a j e=if cv e[j]! e[j-1]! =true then Sort.insInner cv a (j-1) (Sort.swp e j (j-1))else e:=by
 obtain⟨j,rfl⟩:∃k,j=k+1:=⟨j-1,by omega⟩;rw[Sort.insInner,xam h,xco];rfl
theorem Nz{j:Nat}{e:Array Int}(h:¬1<=j):Sort.shiftDown cv j e=e:=by
 obtain rfl:j=0:=by omega
 rfl
theorem s6{j:Nat}{e:Array Int}(h:1<=j):Sort.shiftDown cv j e=if(!cv e[j]! e[j-1]!)=true then e else Sort.shiftDown cv (j-1) (Sort.swp e j (j-1)):=by
 obtain⟨j,rfl⟩:∃k,j=k+1:=⟨j-1,by omega⟩;rw[Sort.shiftDown];rfl
theorem fx{p:Int->Bool}{d:Array Int}{i j:Nat}(h:0<j):Sort.scanDown p d i j=if(decide (i<=j) &&p d[j]!)=true then Sort.scanDown p d i (j-1)else j:=by
 obtain⟨j,rfl⟩:∃k,j=k+1:=⟨j-1,by omega⟩;rw[Sort.scanDown];rfl
theorem Mh{hi f r:Nat}{d:Array Int}(h:hi<=2*r+1):Sort.siftDown cv hi f r d=d:=by
 rw[Sort.siftDown,xdW h]
theorem Ve{hi f r c:Nat}{d:Array Int}(h:2*r+1<hi)(hc:c=if(decide (2*r+1+1<hi) &&cv d[f+(2*r+1)]! d[f+(2*r+1)+1]!)=true then 2*r+2 else 2*r+1):
  Sort.siftDown cv hi f r d=if(!cv d[f+r]! d[f+c]!)=true then d else Sort.siftDown cv hi f c (Sort.swp d (f+r) (f+c)):=by
 rw[Sort.siftDown,dif_neg zO];split at hc
 ·rename_i hb;subst hc;rw[xad hb];rw[xaF,xaJ]at hb;split
  ·rfl
  rw[xdW hb.1]
 rename_i hb;subst hc;rw[xab hb]
theorem J0(hi f r:Nat)(d:Array Int):(Sort.siftDown cv hi f r d).size=d.size:=by
 fun_induction Sort.siftDown cv hi f r d<;>simp_all[Sort.size_swp]
end Go.Sx
set_option maxRecDepth 100000
namespace Go.Proofs
open Go Go.Sx Tryz
section
structure Srt where
 nan:Nat
 less:Nat
 Dq:Nat
 Mi:Nat
 heap:Nat
 rev:Nat
 pins:Nat
 vH:Nat
 part:Nat
 brk:Nat
 Fw:Nat
 med:Nat
 FC:Nat
 piv:Nat
 Y8:Nat
section
variable (zs:Srt)
variable {g:Gh} {a0 a1 a2 a3 a4 a5 a6 a7 a8 a9 ud uc a12 a13 a14 a15:zV} {H:Hp} {R:Rt}
def L9000:Y1:=λ_ a b c=>lN a a λa=>rt c a b
def L9001:Y2:=λa b c d e=>jB (λf g=>rt e f g) λf=>CF a zs.nan #[b] d (λd g=>Split d true (CF a zs.nan #[c] g (λa d=>Un .not a λa=>aH vT a vF λa=>Split a false (lL b c λa=>aH vF vT a λa=>JE f [a] d) (aH vT vT undef λa=>JE f [a] d)) (dj e)) (aH vF undef vF λa=>lL b c λb=>aH a vT b λa=>JE f [a] g)) (dj e)
def L9002:Y3:=λa b c d e f=>lA c i1 λg=>yA [g] e λe g h i=>lL h d λd=>Br d (yA [h] i λd j k l=>jB (λm n=>Br m (DR n λm=>lS k i1 λo=>lS k i1 λp=>lI 1 b p m λp=>lI 1 b k m λm=>av 1 b k λq=>St 1 n q p λp=>av 1 b o λo=>St 1 p o m λm=>lS k i1 λo=>aC d j [o] m [k] l) (lA h i1 λd=>aC e g [d] n [h] i)) λd=>DR l λe=>lG k c λc=>Br c (lI 1 b k e λc=>lS k i1 λg=>lI 1 b g e λb=>∀e:Hp,
CF (a.add e) zs.less #[c,b] l (λa b=>aH vT a vF λa=>JE d [a] b) ej) (JE d [vF] l)) (rt f (.tuple #[]) i)
def L9003:Y4:=λa b c d e f g=>yA [c] f λc f h i=>oM (iv 2) h λj=>lA j i1 λj=>oG j d λk=>Br k (rt g (.tuple #[]) i) (jB (λk l=>DR l λm=>lA e h λn=>lI 1 b n m λn=>lA e k λo=>lI 1 b o m λm=>CF a zs.less #[n,m] l (λl m=>Un .not l λl=>Br l (rt g (.tuple #[]) m) (DR m λg=>lA e h λl=>lA e k λn=>lA e k λo=>lI 1 b o g λo=>lA e h λp=>lI 1 b p g λg=>av 1 b l λl=>St 1 m l o λl=>av 1 b n λm=>St 1 l m g λg=>aC c f [k] g [h] i)) ej) λc=>jB (λf g=>Br f (lA j i1 λf=>JE c [f] g) (JE c [j] g)) λc=>DR i λf=>lA j i1 λg=>lL g d λd=>Br d (lA e j λd=>lI 1 b d f λd=>lA e j λe=>lA e i1 λe=>lI 1 b e f λb=>∀e:Hp,
CF (a.add e) zs.less #[d,b] i (λa b=>aH vT a vF λa=>JE c [a] b) ej) (JE c [vF] i))
def L9004:Y3:=λa b c d e f=>lS d c λd=>lS d i1 λg=>ae .num .quo g (iv 2) λg=>yA [g] e λe g h i=>oG h i0 λj=>Br j (CF a zs.Mi #[b,h,d,c] i (λ_ j=>lS h i1 λk=>aC e g [k] j [h] i) (dj f)) (lS d i1 λd=>yA [d] i λd e g h=>oG g i0 λi=>Br i (DR h λi=>lA c g λj=>lA c g λk=>lI 1 b k i λk=>lI 1 b c i λi=>av 1 b c λl=>St 1 h l k λk=>av 1 b j λj=>St 1 k j i λi=>CF a zs.Mi #[b,i0,g,c] i (λ_ a=>lS g i1 λb=>aC d e [b] a [g] h) (dj f)) (rt f (.tuple #[]) h))
def L9005:Y3:=λ_ a b c d e=>lS c i1 λc=>yB [b,c] d λb c d f g=>lL d f λh=>Br h (DR g λh=>lI 1 a f h λi=>lI 1 a d h λh=>av 1 a d λj=>St 1 g j i λi=>av 1 a f λa=>St 1 i a h λa=>lA d i1 λh=>lS f i1 λi=>aC b c [h,i] a [d,f] g) (rt e (.tuple #[]) g)
def L9006:Y3:=λa b c d e f=>lA c i1 λg=>yB [g,i0] e λe g h i j=>lL i (iv 5) λk=>Br k (jB (λk l=>lA i i1 λm=>aC e g [k,m] l [h,i] j) λe=>yA [h] j λg h i k=>jB (λl m=>Br l (lA i i1 λl=>aC g h [l] m [i] k) (lE i d λg=>Br g (rt f vT m) (lS d c λg=>lL g (iv 50) λg=>Br g (rt f vF m) (DR m λg=>lS i i1 λh=>lS i i1 λl=>lI 1 b l g λl=>lI 1 b i g λg=>av 1 b i λn=>St 1 m n l λl=>av 1 b h λh=>St 1 l h g λg=>jA (λh=>lS d i λl=>oG l (iv 2) λl=>Br l (lA i i1 λl=>yA [l] h λl m n o=>lL n d λp=>Br p (DR o λp=>lI 1 b n p λq=>lS n i1 λr=>lI 1 b r p λp=>CF a zs.less #[q,p] o (λp q=>Un .not p λp=>Br p (JE e [i] q) (DR q λp=>lS n i1 λr=>lS n i1 λs=>lI 1 b s p λs=>lI 1 b n p λp=>av 1 b n λt=>St 1 q t s λq=>av 1 b r λr=>St 1 q r p λp=>lA n i1 λq=>aC l m [q] p [n] o)) ej) (JE e [i] o)) (JE e [i] h)) λe=>lS i c λc=>oG c (iv 2) λc=>Br c (lS i i1 λc=>yA [c] g λc h l m=>oG l i1 λn=>Br n (DR m λn=>lI 1 b l n λo=>lS l i1 λp=>lI 1 b p n λn=>CF a zs.less #[o,n] m (λn o=>Un .not n λn=>Br n (JE e [] o) (DR o λn=>lS l i1 λp=>lS l i1 λq=>lI 1 b q n λq=>lI 1 b l n λn=>av 1 b l λr=>St 1 o r q λo=>av 1 b p λp=>St 1 o p n λn=>lS l i1 λo=>aC c h [o] n [l] m)) ej) (JE e [] m)) (JE e [] g))))) λc=>DR k λe=>lL i d λd=>Br d (lI 1 b i e λd=>lS i i1 λg=>lI 1 b g e λb=>∀e:Hp,
CF (a.add e) zs.less #[d,b] k (λa b=>Un .not a λa=>aH vT a vF λa=>JE c [a] b) ej) (JE c [vF] k)) (rt f vF j)
def L9007:Y4:=λa b c d e f g=>DR f λh=>lI 1 b e h λi=>lI 1 b c h λh=>av 1 b c λj=>St 1 f j i λf=>av 1 b e λe=>St 1 f e h λe=>lA c i1 λf=>lS d i1 λd=>yB [f,d] e λd e f h i=>yA [f] i λj k l m=>jB (λn o=>Br n (lA l i1 λn=>aC j k [n] o [l] m) (yA [h] o λj k n o=>jB (λp q=>Br p (lS n i1 λp=>aC j k [p] q [n] o) (lG l n λj=>Br j (rt g l q) (DR q λg=>lI 1 b n g λj=>lI 1 b l g λg=>av 1 b l λk=>St 1 q k j λj=>av 1 b n λk=>St 1 j k g λg=>lA l i1 λj=>lS n i1 λk=>aC d e [j,k] g [f,h] i))) λd=>DR o λe=>oQ l n λf=>Br f (lI 1 b c e λf=>lI 1 b n e λe=>∀g:Hp,
CF (a.add g) zs.less #[f,e] o (λe f=>aH vT e vF λe=>JE d [e] f) ej) (JE d [vF] o))) λd=>DR m λe=>oQ l h λf=>Br f (lI 1 b c e λc=>lI 1 b l e λb=>∀e:Hp,
CF (a.add e) zs.less #[c,b] m (λa b=>Un .not a λa=>aH vT a vF λa=>JE d [a] b) ej) (JE d [vF] m)
def L9008:Y4:=λa b c d e f g=>DR f λh=>lI 1 b e h λi=>lI 1 b c h λh=>av 1 b c λj=>St 1 f j i λf=>av 1 b e λe=>St 1 f e h λe=>lA c i1 λf=>lS d i1 λd=>yA [f] e λe f h i=>jB (λj k=>Br j (lA h i1 λj=>aC e f [j] k [h] i) (yA [d] k λe f j k=>jB (λl m=>Br l (lS j i1 λl=>aC e f [l] m [j] k) (lG h j λe=>Br e (DR m λe=>lI 1 b c e λf=>lI 1 b j e λe=>av 1 b j λl=>St 1 m l f λf=>av 1 b c λl=>St 1 f l e λe=>rt g (tP j vT) e) (DR m λe=>lI 1 b j e λf=>lI 1 b h e λe=>av 1 b h λl=>St 1 m l f λf=>av 1 b j λl=>St 1 f l e λe=>lA h i1 λf=>lS j i1 λl=>yB [f,l] e λe f l m n=>yA [l] n λo p q r=>jB (λs t=>Br s (lA q i1 λs=>aC o p [s] t [q] r) (yA [m] t λo p s t=>jB (λu v=>Br u (lS s i1 λu=>aC o p [u] v [s] t) (lG q s λo=>Br o (DR v λo=>lI 1 b c o λp=>lI 1 b s o λo=>av 1 b s λu=>St 1 v u p λp=>av 1 b c λu=>St 1 p u o λo=>rt g (tP s vF) o) (DR v λg=>lI 1 b s g λo=>lI 1 b q g λg=>av 1 b q λp=>St 1 v p o λo=>av 1 b s λp=>St 1 o p g λg=>lA q i1 λo=>lS s i1 λp=>aC e f [o,p] g [l,m] n))) λe=>DR t λf=>oQ q s λg=>Br g (lI 1 b s f λg=>lI 1 b c f λf=>∀l:Hp,
CF (a.add l) zs.less #[g,f] t (λf g=>Un .not f λf=>aH vT f vF λf=>JE e [f] g) ej) (JE e [vF] t))) λe=>DR r λf=>oQ q m λg=>Br g (lI 1 b q f λg=>lI 1 b c f λf=>∀l:Hp,
CF (a.add l) zs.less #[g,f] r (λf g=>aH vT f vF λf=>JE e [f] g) ej) (JE e [vF] r)))) λe=>DR k λf=>oQ h j λg=>Br g (lI 1 b j f λg=>lI 1 b c f λf=>∀j:Hp,
CF (a.add j) zs.less #[g,f] k (λf g=>Un .not f λf=>aH vT f vF λf=>JE e [f] g) ej) (JE e [vF] k))) λe=>DR i λf=>oQ h d λd=>Br d (lI 1 b h f λd=>lI 1 b c f λb=>∀c:Hp,
CF (a.add c) zs.less #[d,b] i (λa b=>aH vT a vF λa=>JE e [a] b) ej) (JE e [vF] i)
def L9009:Y3:=λa b c d e f=>lS d c λd=>oG d (iv 8) λg=>Br g (br .u64 d λg=>lQ 1 e #[(wi 0)] 276 g λg h=>CR f a 207 #[d] h λh i=>ae .num .quo d (iv 4) λj=>oM j (iv 2) λj=>lA c j λj=>lS j i1 λj=>yA [j] i λi j k l=>ae .num .quo d (iv 4) λm=>oM m (iv 2) λm=>lA c m λm=>lA m i1 λm=>oQ k m λm=>Br m (CR f a 208 #[(pt g)] l λa g=>lS h (wi 1) λh=>oA a h λa=>br .i64 a λa=>jB (λh m=>DR m λn=>lA c h λo=>lA c h λc=>lI 1 b c n λc=>lI 1 b k n λh=>av 1 b k λn=>St 1 m n c λc=>av 1 b o λb=>St 1 c b h λb=>lA k i1 λc=>aC i j [c] b [k] l) λb=>oG a d λc=>Br c (lS a d λc=>JE b [c] g) (JE b [a] g)) (rt f (.tuple #[]) l)) (rt f (.tuple #[]) e)
def L9010:Y4:=λa b c d e f g=>DR f λh=>lI 1 b d h λi=>lI 1 b c h λb=>CF a zs.less #[i,b] f (λa b=>Br a (Nil e λa=>Ld b a λa=>lA a i1 λa=>Nil e λe=>St 1 b e a λa=>rt g (tP d c) a) (rt g (tP c d) b)) ej
def L9011:Y5:=λa b c d e f g h=>CF a zs.Fw #[b,c,d,f] g (λc d=>lX c λc g=>CF a zs.Fw #[b,g,e,f] d (λd e=>lX d λd _=>CF a zs.Fw #[b,c,d,f] e (λa b=>lX a λ_ a=>rt h a b) (dj h)) (dj h)) (dj h)
def L9012:Y3:=λa b c d e f=>lS c i1 λg=>lA c i1 λh=>CF a zs.med #[b,g,c,h,d] e (λa b=>rt f a b) (dj f)
def L9013:Y3:=λa b c d e f=>lS d c λd=>lW e #[i0] 3 λe g=>ae .num .quo d (iv 4) λh=>oM h i1 λh=>lA c h λh=>ae .num .quo d (iv 4) λi=>oM i (iv 2) λi=>lA c i λi=>ae .num .quo d (iv 4) λj=>oM j (iv 3) λj=>lA c j λc=>jB (λj k=>Ld k (pt e) λl=>lE l i0 λm=>Br m (rt f (tP j i1) k) (lE l (iv 12) λl=>Br l (rt f (tP j (iv 2)) k) (rt f (tP j i0) k))) λj=>oG d (iv 8) λk=>Br k (∀k:Jt,(∀l m n:zV,∀o:Hp,(∀_:Fr,
CF a zs.med #[b,l,m,n,(pt e)] o (λp q=>JE j [p] q) (dj f))->k [l,m,n] o)->oG d (iv 50) λd=>Br d (CF a zs.FC #[b,h,(pt e)] g (λd l=>CF a zs.FC #[b,i,(pt e)] l (λl m=>CF a zs.FC #[b,c,(pt e)] m (λa b=>JE k [d,l,a] b) (dj f)) (dj f)) (dj f)) (JE k [h,i,c] g)) (JE j [i] g)
def L9014:Y4:=λa b c d e f g=>∃(h:Jt) (i:Mt),JE h [c,d,e,vT,vT] f/\∀c d e f j:zV,∀k:Hp,h [c,d,e,f,j] k->∀_:Fr,
lS d c λl=>oQ l (iv 12) λm=>Br m (CF a zs.Dq #[b,c,d] k (λ_ m=>rt g (.tuple #[]) m) (dj g)) (lE e i0 λm=>Br m (CF a zs.heap #[b,c,d] k (λ_ m=>rt g (.tuple #[]) m) (dj g)) (jB (λm n=>CF a zs.piv #[b,c,d] n (λn o=>lX n λn p=>jC (λq r s=>jA (λt=>jB (λu v=>Br u (CF a zs.vH #[b,c,d,q] v (λu w=>aC h i [u,d,m,f,j] w [c,d,e,f,j] k) (dj g)) (CF a zs.part #[b,c,d,q] v (λu v=>lX u λu w=>lS u c λx=>lS d u λy=>ae .num .quo l (iv 8) λl=>lL x y λz=>Br z (oG x l λx=>CF a zs.Y8 #[b,c,u,m] v (λ_ z=>lA u i1 λA=>aC h i [A,d,m,x,w] z [c,d,e,f,j] k) (dj g)) (oG y l λl=>lA u i1 λx=>CF a zs.Y8 #[b,x,d,m] v (λ_ v=>aC h i [c,u,m,l,w] v [c,d,e,f,j] k) (dj g))) (dj g))) λh=>DR t λi=>lG c i0 λl=>Br l (lS c i1 λl=>lI 1 b l i λl=>lI 1 b q i λi=>∀m:Hp,
CF (a.add m) zs.less #[l,i] t (λi l=>Un .not i λi=>aH vT i vF λi=>JE h [i] l) ej) (JE h [vF] t)) λh=>lU f (λi=>(lV s j i)) λi=>lU (Value.bool i) (λi=>lE r i1 λj=>(lV s j i)) λi=>Br (Value.bool i) (CF a zs.pins #[b,c,d] s (λi j=>Br i (rt g (.tuple #[]) j) (JE h [] j)) (dj g)) (JE h [] s)) λh=>lE p (iv 2) λi=>Br i (CF a zs.rev #[b,c,d] o (λ_ i=>lS d i1 λj=>lS n c λl=>lS j l λj=>JE h [j,i1] i) (dj g)) (JE h [n,p] o)) (dj g)) λh=>Un .not f λf=>Br f (CF a zs.brk #[b,c,d] k (λ_ a=>lS e i1 λb=>JE h [b] a) (dj g)) (JE h [e] k)))
end
structure Lp(zs:Srt):Prop where
 nan:∀{g:Gh} {a0:zV} {H:Hp} {R:Rt},L9000 g a0 H R->bC zQ g zs.nan #[a0] H R
 less:∀{g:Gh} {a0 a1:zV} {H:Hp} {R:Rt},L9001 zs g a0 a1 H R->bC zQ g zs.less #[a0,a1] H R
 Dq:∀{g:Gh} {a0 a1 a2:zV} {H:Hp} {R:Rt},L9002 zs g a0 a1 a2 H R->bC zQ g zs.Dq #[a0,a1,a2] H R
 Mi:∀{g:Gh} {a0 a1 a2 a3:zV} {H:Hp} {R:Rt},L9003 zs g a0 a1 a2 a3 H R->bC zQ g zs.Mi #[a0,a1,a2,a3] H R
 heap:∀{g:Gh} {a0 a1 a2:zV} {H:Hp} {R:Rt},L9004 zs g a0 a1 a2 H R->bC zQ g zs.heap #[a0,a1,a2] H R
 rev:∀{g:Gh} {a0 a1 a2:zV} {H:Hp} {R:Rt},L9005 g a0 a1 a2 H R->bC zQ g zs.rev #[a0,a1,a2] H R
 pins:∀{g:Gh} {a0 a1 a2:zV} {H:Hp} {R:Rt},L9006 zs g a0 a1 a2 H R->bC zQ g zs.pins #[a0,a1,a2] H R
 vH:∀{g:Gh} {a0 a1 a2 a3:zV} {H:Hp} {R:Rt},L9007 zs g a0 a1 a2 a3 H R->bC zQ g zs.vH #[a0,a1,a2,a3] H R
 part:∀{g:Gh} {a0 a1 a2 a3:zV} {H:Hp} {R:Rt},L9008 zs g a0 a1 a2 a3 H R->bC zQ g zs.part #[a0,a1,a2,a3] H R
 brk:∀{g:Gh} {a0 a1 a2:zV} {H:Hp} {R:Rt},L9009 g a0 a1 a2 H R->bC zQ g zs.brk #[a0,a1,a2] H R
 Fw:∀{g:Gh} {a0 a1 a2 a3:zV} {H:Hp} {R:Rt},L9010 zs g a0 a1 a2 a3 H R->bC zQ g zs.Fw #[a0,a1,a2,a3] H R
 med:∀{g:Gh} {a0 a1 a2 a3 a4:zV} {H:Hp} {R:Rt},L9011 zs g a0 a1 a2 a3 a4 H R->bC zQ g zs.med #[a0,a1,a2,a3,a4] H R
 FC:∀{g:Gh} {a0 a1 a2:zV} {H:Hp} {R:Rt},L9012 zs g a0 a1 a2 H R->bC zQ g zs.FC #[a0,a1,a2] H R
 piv:∀{g:Gh} {a0 a1 a2:zV} {H:Hp} {R:Rt},L9013 zs g a0 a1 a2 H R->bC zQ g zs.piv #[a0,a1,a2] H R
 Y8:∀{g:Gh} {a0 a1 a2 a3:zV} {H:Hp} {R:Rt},L9014 zs g a0 a1 a2 a3 H R->bC zQ g zs.Y8 #[a0,a1,a2,a3] H R
def zR:Srt:=⟨299,293,287,296,288,291,292,294,295,289,300,298,297,290,286⟩
theorem abI:Lp zR:=⟨λh=>fN (hn:=.e) func299 h zK,
 λh=>fN (hn:=(.n .e (.h 1 [4] [] .e .e))) func293 h zK,
 λh=>fN (hn:=(.n .e (.n (.h 0 [6] [0,1,2] (.n .e (.n (.n (.n .e (.n (.h 0 [7] [0,1,2,6] (.n (.h 1 [30] [0,1,2,6,7] (.h 1 [] [] (.h 0 [0] [] (.h 0 [1] [] (.h 0 [2] [] (.h 2 [3] [] (.h 0 [4] [] (.h 0 [5] [] (.h 0 [6] [] (.h 0 [7] [] (.h 0 [8] [] (.h 0 [9] [] (.h 0 [10] [] (.h 0 [11] [] (.h 0 [12] [] (.h 0 [13] [] (.h 0 [14] [] .e .e) .e) .e) .e) .e) .e) .e) .e) .e) .e) .e) (.h 0 [4] [] (.h 0 [5] [] (.h 0 [6] [] (.h 0 [7] [] (.h 0 [8] [] (.h 0 [9] [] (.h 0 [10] [] (.h 0 [11] [] (.h 0 [12] [] (.h 0 [13] [] (.h 3 [14] [] .e .e) .e) .e) .e) .e) .e) .e) .e) .e) .e) .e)) .e) .e) .e) .e) .e) (.n (.n (.h 0 [0,1,2,3,4,5,6,7,8,9,10,11,12,13,14,15,16,17] [] .e .e) .e) .e)) .e) .e)) .e) .e)) .e) .e))) func287 h zK,
 λh=>fN (hn:=(.n .e (.n (.h 0 [8] [0,2,3] (.n (.n .e (.n .e (.h 1 [9] [0,2,3,8] (.h 1 [36] [0,2,3,8,9] (.h 1 [] [] (.h 0 [0] [] (.h 0 [1] [] (.h 0 [2] [] (.h 0 [3] [] (.h 2 [4] [] (.h 0 [5] [] (.h 0 [6] [] (.h 0 [7] [] (.h 0 [8] [] (.h 0 [9] [] (.h 0 [10] [] (.h 0 [11] [] (.h 0 [12] [] (.h 0 [13] [] (.h 0 [14] [] (.h 0 [15] [] (.h 0 [16] [] (.h 0 [17] [] (.h 0 [18] [] (.h 0 [19] [] .e .e) .e) .e) .e) .e) .e) .e) .e) .e) .e) .e) .e) .e) .e) .e) (.h 0 [5] [] (.h 0 [6] [] (.h 0 [7] [] (.h 0 [8] [] (.h 0 [9] [] (.h 0 [10] [] (.h 0 [11] [] (.h 0 [12] [] (.h 0 [13] [] (.h 0 [14] [] (.h 0 [15] [] (.h 0 [16] [] (.h 0 [17] [] (.h 0 [18] [] (.h 3 [19] [] .e .e) .e) .e) .e) .e) .e) .e) .e) .e) .e) .e) .e) .e) .e) .e)) .e) .e) .e) .e) .e) .e) (.n (.n (.h 0 [0,1,2,3,4,5,6,7,8,9,10,11,12,13] [] .e .e) .e) (.n (.h 0 [0,1,2,3,4,5,6,7,8,9,10,11,12,13,14,15,16,17,18,19,20,21,22,23] [] .e .e) .e))))) .e) .e) .e))) func296 h zK,
 λh=>fN (hn:=(.n .e (.n .e (.n .e (.n (.n .e (.n (.h 0 [9] [0,6,7,8] .e .e) .e)) (.n .e (.n (.h 0 [10] [0,6,7] (.n .e (.n (.n (.n (.h 0 [0,1,2,3,4,5,6,7,8,9,10,11,12,13,14,15,16,17,18,19] [] .e .e) .e) .e) .e)) .e) .e))))))) func288 h zK,
 λh=>fN (hn:=(.n .e (.n .e (.n (.h 0 [6,7] [0] (.n .e (.n (.n (.h 0 [0,1,2,3,4,5,6,7,8,9,10,11,12,13,14,15] [] .e .e) .e) .e)) .e) .e)))) func291 h zK,
 λh=>fN (hn:=(.n .e (.n .e (.n (.n .e (.n (.h 0 [7,8] [0,1,2] (.n .e (.h 1 [7] [0,1,2,8] (.n (.n (.n (.h 0 [7] [0,1,2,8] (.n (.h 1 [32] [0,1,2,7,8] (.h 1 [] [] (.h 0 [0] [] (.h 0 [1] [] (.h 0 [2] [] (.h 2 [3] [] (.h 0 [4] [] (.h 0 [5] [] (.h 0 [6] [] (.h 0 [7] [] (.h 0 [8] [] (.h 0 [9] [] (.h 0 [10] [] (.h 0 [11] [] (.h 0 [12] [] (.h 0 [13] [] (.h 0 [14] [] (.h 0 [15] [] .e .e) .e) .e) .e) .e) .e) .e) .e) .e) .e) .e) .e) (.h 0 [4] [] (.h 0 [5] [] (.h 0 [6] [] (.h 0 [7] [] (.h 0 [8] [] (.h 0 [9] [] (.h 0 [10] [] (.h 0 [11] [] (.h 0 [12] [] (.h 0 [13] [] (.h 0 [14] [] (.h 3 [15] [] .e .e) .e) .e) .e) .e) .e) .e) .e) .e) .e) .e) .e)) .e) .e) .e) .e) .e) .e) .e) .e) (.n .e (.n .e (.n (.h 0 [0,1,2,3,4,5,6,7,8,9,10,11,12,13,14,15,16,17] [] .e .e) (.h 1 [] [0,1,2,7,8] (.n .e (.n (.n .e (.n (.h 0 [9] [0,1,2,7,8] (.n .e (.n (.n (.n (.n (.h 0 [0,1,2,3,4,5,6,7,8,9,10] [] .e .e) .e) (.h 0 [0,1,2,3,4,5,6,7,8,9,10,11,12,13,14,15,16,17] [] .e .e)) .e) .e)) .e) .e)) .e)) (.n .e (.n (.n .e (.n (.h 0 [10] [0,1,2,7,8] (.n .e (.n (.n (.n (.n (.h 0 [0,1,2,3,4,5,6,7,8,9,10] [] .e .e) .e) (.h 0 [0,1,2,3,4,5,6,7,8,9,10,11,12,13,14,15,16,17] [] .e .e)) .e) .e)) .e) .e)) .e))))))) .e) .e)) .e) .e)) .e)))) func292 h zK,
 λh=>fN (hn:=(.n .e (.n (.h 0 [0,1,2,3,4,5,6,7,8,9,10,11,12,13,14,15] [] .e .e) (.n .e (.n (.n (.h 0 [9,10] [0,1] (.n (.n (.n (.h 0 [9] [0,1,10] (.n (.h 1 [43] [0,1,9,10] (.h 1 [] [] (.h 0 [0] [] (.h 0 [1] [] (.h 0 [2] [] (.h 2 [3] [] (.h 0 [4] [] (.h 0 [5] [] (.h 0 [6] [] (.h 0 [7] [] (.h 0 [8] [] (.h 0 [9] [] (.h 0 [10] [] (.h 0 [11] [] (.h 0 [12] [] (.h 0 [13] [] (.h 0 [14] [] .e .e) .e) .e) .e) .e) .e) .e) .e) .e) .e) .e) (.h 0 [4] [] (.h 0 [5] [] (.h 0 [6] [] (.h 0 [7] [] (.h 0 [8] [] (.h 0 [9] [] (.h 0 [10] [] (.h 0 [11] [] (.h 0 [12] [] (.h 0 [13] [] (.h 3 [14] [] .e .e) .e) .e) .e) .e) .e) .e) .e) .e) .e) .e)) .e) .e) .e) .e) .e) .e) .e) .e) (.n (.n (.h 0 [10] [0,1,9] (.n (.h 1 [59] [0,1,9,10] (.h 1 [] [] (.h 0 [0] [] (.h 0 [1] [] (.h 0 [2] [] (.h 2 [3] [] (.h 0 [4] [] (.h 0 [5] [] (.h 0 [6] [] (.h 0 [7] [] (.h 0 [8] [] (.h 0 [9] [] (.h 0 [10] [] (.h 0 [11] [] (.h 0 [12] [] (.h 0 [13] [] .e .e) .e) .e) .e) .e) .e) .e) .e) .e) .e) (.h 0 [4] [] (.h 0 [5] [] (.h 0 [6] [] (.h 0 [7] [] (.h 0 [8] [] (.h 0 [9] [] (.h 0 [10] [] (.h 0 [11] [] (.h 0 [12] [] (.h 3 [13] [] .e .e) .e) .e) .e) .e) .e) .e) .e) .e) .e)) .e) .e) .e) .e) .e) .e) .e) .e) (.n .e (.n (.h 0 [0,1,2,3,4,5,6,7,8,9,10,11,12,13,14,15] [] .e .e) .e)))) .e) .e) .e) .e))))) func294 h zK,
 λh=>fN (hn:=(.n .e (.n (.h 0 [0,1,2,3,4,5,6,7,8,9,10,11,12,13,14,15] [] .e .e) (.n .e (.n (.n (.h 0 [10] [0,1,11] (.n (.h 1 [43] [0,1,10,11] (.h 1 [] [] (.h 0 [0] [] (.h 0 [1] [] (.h 0 [2] [] (.h 2 [3] [] (.h 0 [4] [] (.h 0 [5] [] (.h 0 [6] [] (.h 0 [7] [] (.h 0 [8] [] (.h 0 [9] [] (.h 0 [10] [] (.h 0 [11] [] (.h 0 [12] [] (.h 0 [13] [] .e .e) .e) .e) .e) .e) .e) .e) .e) .e) .e) (.h 0 [4] [] (.h 0 [5] [] (.h 0 [6] [] (.h 0 [7] [] (.h 0 [8] [] (.h 0 [9] [] (.h 0 [10] [] (.h 0 [11] [] (.h 0 [12] [] (.h 3 [13] [] .e .e) .e) .e) .e) .e) .e) .e) .e) .e) .e)) .e) .e) .e) .e) .e) .e) .e) .e) (.n (.n (.h 0 [11] [0,1,10] (.n (.h 1 [60] [0,1,10,11] (.h 1 [] [] (.h 0 [0] [] (.h 0 [1] [] (.h 0 [2] [] (.h 2 [3] [] (.h 0 [4] [] (.h 0 [5] [] (.h 0 [6] [] (.h 0 [7] [] (.h 0 [8] [] (.h 0 [9] [] (.h 0 [10] [] (.h 0 [11] [] (.h 0 [12] [] (.h 0 [13] [] (.h 0 [14] [] .e .e) .e) .e) .e) .e) .e) .e) .e) .e) .e) .e) (.h 0 [4] [] (.h 0 [5] [] (.h 0 [6] [] (.h 0 [7] [] (.h 0 [8] [] (.h 0 [9] [] (.h 0 [10] [] (.h 0 [11] [] (.h 0 [12] [] (.h 0 [13] [] (.h 3 [14] [] .e .e) .e) .e) .e) .e) .e) .e) .e) .e) .e) .e)) .e) .e) .e) .e) .e) .e) .e) .e) (.n (.n .e (.n (.n (.h 0 [0,1,2,3,4,5,6,7,8,9,10,11,12,13,14,15] [] .e .e) .e) .e)) (.n (.h 0 [0,1,2,3,4,5,6,7,8,9,10,11,12,13,14,15] [] .e .e) (.n .e (.n .e (.n (.n (.h 0 [10,11] [0,1] (.n (.n (.n (.h 0 [10] [0,1,11] (.n (.h 1 [112] [0,1,10,11] (.h 1 [] [] (.h 0 [0] [] (.h 0 [1] [] (.h 0 [2] [] (.h 2 [3] [] (.h 0 [4] [] (.h 0 [5] [] (.h 0 [6] [] (.h 0 [7] [] (.h 0 [8] [] (.h 0 [9] [] (.h 0 [10] [] (.h 0 [11] [] (.h 0 [12] [] (.h 0 [13] [] .e .e) .e) .e) .e) .e) .e) .e) .e) .e) .e) (.h 0 [4] [] (.h 0 [5] [] (.h 0 [6] [] (.h 0 [7] [] (.h 0 [8] [] (.h 0 [9] [] (.h 0 [10] [] (.h 0 [11] [] (.h 0 [12] [] (.h 3 [13] [] .e .e) .e) .e) .e) .e) .e) .e) .e) .e) .e)) .e) .e) .e) .e) .e) .e) .e) .e) (.n (.n (.h 0 [11] [0,1,10] (.n (.h 1 [129] [0,1,10,11] (.h 1 [] [] (.h 0 [0] [] (.h 0 [1] [] (.h 0 [2] [] (.h 2 [3] [] (.h 0 [4] [] (.h 0 [5] [] (.h 0 [6] [] (.h 0 [7] [] (.h 0 [8] [] (.h 0 [9] [] (.h 0 [10] [] (.h 0 [11] [] (.h 0 [12] [] (.h 0 [13] [] (.h 0 [14] [] .e .e) .e) .e) .e) .e) .e) .e) .e) .e) .e) .e) (.h 0 [4] [] (.h 0 [5] [] (.h 0 [6] [] (.h 0 [7] [] (.h 0 [8] [] (.h 0 [9] [] (.h 0 [10] [] (.h 0 [11] [] (.h 0 [12] [] (.h 0 [13] [] (.h 3 [14] [] .e .e) .e) .e) .e) .e) .e) .e) .e) .e) .e) .e)) .e) .e) .e) .e) .e) .e) .e) .e) (.n .e (.n (.h 0 [0,1,2,3,4,5,6,7,8,9,10,11,12,13,14,15] [] .e .e) .e)))) .e) .e) .e) (.n (.h 0 [0,1,2,3,4,5,6,7,8,9,10,11,12,13,14,15] [] .e .e) .e)))))))))))) func295 h zK,
 λh=>fN (hn:=(.n .e (.n .e (.n (.n .e (.n .e (.n .e (.n (.h 0 [9] [0,1,6,7,8] (.n .e (.n (.n (.n .e (.h 1 [10] [0,1,6,7,8,9] .e (.h 0 [0,1,2,3,4,5,6,7,8,9,10,11,12,13,14,15,16,17,18,19] [] .e .e))) .e) .e)) .e) .e)))) .e)))) func289 h zK,
 λh=>fN (hn:=(.n .e (.n (.n (.h 0 [0,1,2,3,4,5,6,7,8] [] .e .e) .e) .e))) func300 h zK,
 λh=>fN (hn:=.e) func298 h zK,
 λh=>fN (hn:=.e) func297 h zK,
 λh=>fN (hn:=(.n .e (.n .e (.n .e (.n .e (.n .e (.n .e (.h 1 [11] [9] (.n .e (.n (.h 1 [10,11,12] [0,9] .e .e) .e)) .e)))))))) func290 h zK,
 λh=>fN (hn:=(.n .e (.n .e (.n (.h 0 [1,2,3,8,9] [0] (.n (.n .e (.n .e (.n .e (.h 1 [3] [0,1,2,8,9,10] .e (.n .e (.h 1 [11,12] [0,1,2,3,8,9,10] .e (.h 1 [] [0,1,2,3,8,9,10,11] (.n (.h 0 [] [1] .e .e) .e) (.n (.h 1 [87] [0,1,2,3,8,9,10,11] (.h 1 [] [] (.h 0 [0] [] (.h 0 [1] [] (.h 2 [2] [] (.h 0 [3] [] (.h 0 [4] [] (.h 0 [5] [] (.h 0 [6] [] (.h 0 [7] [] (.h 0 [8] [] (.h 0 [9] [] (.h 0 [10] [] (.h 0 [11] [] (.h 0 [12] [] (.h 0 [13] [] (.h 0 [14] [] .e .e) .e) .e) .e) .e) .e) .e) .e) .e) .e) .e) .e) (.h 0 [3] [] (.h 0 [4] [] (.h 0 [5] [] (.h 0 [6] [] (.h 0 [7] [] (.h 0 [8] [] (.h 0 [9] [] (.h 0 [10] [] (.h 0 [11] [] (.h 0 [12] [] (.h 0 [13] [] (.h 3 [14] [] .e .e) .e) .e) .e) .e) .e) .e) .e) .e) .e) .e) .e)) .e) .e) .e) .e) .e)))))))) .e) .e) .e)))) func286 h zK⟩
end
section
def SXZ(T:TypeId)(kd:IntKind)(v:zV)(d:Array Int):zV->Hp->Prop:=λr C'=>r=.tuple #[]/\Da T kd v d C'
section
variable {v:zV} {d:Array Int} {C:Hp} {T:TypeId} {kd:IntKind} {zs:Srt} (ok:Lp zs)
include ok in
theorem VI(x:Int)(B:Hp):Rd zQ zs.nan #[.int kd x] B (· =.bool false):=by
 refine aI λg=>ok.nan ?_;exact ae.cD (bc.mk (.refl _) zI)
include ok in
theorem dI(x y:Int)(B:Hp):Rd zQ zs.less #[.int kd x,.int kd y] B (· =.bool (cv x y)):=by
 refine aI λg=>ok.less ?_;intro J1 hJ1;exact aa.eq (VI ok x B) (Split.QL rfl (aH.mk (ae.lss (aH.mk (JE.mk (hJ1 _ _ λgs=>bc.mk (.refl _) rfl))))))
include ok in
theorem zk(h:Da T kd v d C){a b:Nat}(hab:a<=b)(hb:b<=d.size)(cI:d.size<1152921504606846976):Fc zQ zs.Dq #[v,iv (a:Int),iv (b:Int)] C (SXZ T kd v (Sort.insertionSort cv d a b)):=by
 refine aI λg=>ok.Dq ?_;refine ae.inc (⟨λvs H=>∃(i:Nat) (e:Array Int),vs=[iv (i:Int)]/\a<i/\e.size=d.size/\Sort.insOuter cv a b i e=Sort.insertionSort cv d a b/\Da T kd v e H,λvs _=>d.size-bN vs 0,JE.mk ⟨a+1,d,rfl,by omega,rfl,rfl,h⟩,?_⟩);rintro w H ⟨i,e,hw,hi,hs,he,hd⟩ gs;simp only[xau,xa1]at hw;subst hw;rw[Sort.insOuter]at he;refine ae.fC (Br.dec (λhlt=>?_) (λhge=>?_));rotate_left
 ·rw[xab hge]at he;exact aN.here ⟨rfl,by rw[<-he];exact hd⟩
 rw[xad hlt]at he;refine⟨λvs H=>∃(j:Nat) (e:Array Int),vs=[iv (j:Int)]/\a<=j/\j<=i/\e.size=d.size/\Sort.insOuter cv a b (i+1) (Sort.insInner cv a j e)=Sort.insertionSort cv d a b/\Da T kd v e H,λvs _=>bN vs 0,JE.mk ⟨i,e,rfl,by omega,xaj _,hs,he,hd⟩,?_⟩;clear hd he hs e;rintro w H ⟨j,e,hw,haj,ZW,hs,he,hd⟩ gs;simp only[xau,xa1]at hw;subst hw;intro J hJ;have no:Sort.insInner cv a j e=e->J [.bool false] H:=λhi=>hJ _ _ λgs=>Br.no (ae.inc (aC.mk ⟨i+1,e,rfl,by omega,hs,by rw[hi]at he;exact he,hd⟩ (by simp[bN];omega)));have yes:a<j->Sort.insInner cv a j e=Sort.insInner cv a (j-1) (Sort.swp e j (j-1))->J [.bool true] H:=λhaj hi=>hJ _ _ λgs=>Br.yes (DR.self (ae.ca (b:=1) (ae.ca (b:=1)
  (hd.swap .here zO zO λC' dP=>ae.ca (b:=1) (aC.mk ⟨j-1,_,rfl,by omega,by omega,iZ hs,by rw[<-hi];exact he,dP⟩ (by simp[bN];omega))))))
 refine DR.self (ae.nE (Br.dec (λhgt=>?_) λhn=>JE.mk (no (Rv hn))));refine hd.ld (λ_ h=>h) zO (ae.ca (b:=1) (hd.ld (λ_ h=>h) zO λF=>?_));refine aa.eq (dI ok _ _ _) (aH.mk ?_);have hst:=Rw (e:=e) hgt;cases hl:cv e[j]! e[j-1]!
 ·rw[hl]at hst;exact JE.mk (no hst)
 rw[hl]at hst;exact JE.mk (yes hgt hst)
include ok in
theorem Vk(h:Da T kd v d C){a b:Nat}(hab:a<b)(hb:b<=d.size)(cI:d.size<1152921504606846976):Fc zQ zs.rev #[v,iv (a:Int),iv (b:Int)] C (SXZ T kd v (Sort.reverseRange d a b)):=by
 refine aI λg=>ok.rev ?_;refine ae.ca (b:=1) (⟨λvs H=>∃(i j:Nat) (e:Array Int),vs=[iv (i:Int),iv (j:Int)]/\j<d.size/\e.size=d.size/\Sort.reverseLoop i j e=Sort.reverseRange d a b/\Da T kd v e H,λvs _=>bN vs 1-bN vs 0,JE.mk ⟨a,b-1,d,rfl,by omega,rfl,rfl,h⟩,?_⟩);rintro w w' H ⟨i,j,e,hw,hj,hs,he,hd⟩ gs;simp only[xau,xa1]at hw;obtain⟨rfl,rfl⟩:=hw;rw[Sort.reverseLoop]at he;refine ae.fC (Br.dec (λhlt=>?_) (λhge=>?_));rotate_left
 ·rw[xab hge]at he;exact aN.here ⟨rfl,by rw[<-he];exact hd⟩
 rw[xad hlt]at he;refine DR.self (hd.swap .here zO zO λC' dP=>?_);exact ae.inc (ae.ca (b:=1) (aC.mk ⟨i+1,j-1,_,rfl,by omega,iZ hs,he,dP⟩ (by simp[bN];omega)))
include ok in
theorem QJ(h:Da T kd v d C){a b:Nat}(hab:a<b)(hb:b<=d.size)(cI:d.size<1152921504606846976):Fc zQ zs.pins #[v,iv (a:Int),iv (b:Int)] C (λr C'=>r=.bool (Sort.partialInsertionSort cv d a b).2/\Da T kd v (Sort.partialInsertionSort cv d a b).1 C'):=by
 refine aI λg=>ok.pins ?_;refine ae.inc ?_;have fin:∀{e:Array Int} {t:Bool} {H:Hp},(e,t)=Sort.partialInsertionSort cv d a b->Da T kd v e H->aN (λr C'=>r=.bool (Sort.partialInsertionSort cv d a b).2/\Da T kd v (Sort.partialInsertionSort cv d a b).1 C') (.returned (.bool t)) H:=λhe hd=>by
  rw[<-he];exact aN.here ⟨rfl,hd⟩
 refine⟨λvs H=>∃(i k:Nat) (e:Array Int),vs=[iv (i:Int),iv (k:Int)]/\k<=5/\a<i/\i<=b/\e.size=d.size/\Sort.partialIns cv a b (5-k) i e=Sort.partialInsertionSort cv d a b/\Da T kd v e H,λvs _=>5-bN vs 1,JE.mk ⟨a+1,0,d,rfl,by omega,by omega,by omega,rfl,rfl,h⟩,?_⟩;rintro w w' H ⟨i0,k,e,hw,hk5,Uu,zo,hs,he,hd⟩ gs;simp only[xau,xa1]at hw;obtain⟨rfl,rfl⟩:=hw;refine ae.fC (b:=5) (Br.dec (λhk=>?_) (λhk=>?_));rotate_left
 ·obtain rfl:k=5:=by omega
  exact fin he hd
 rw[show 5-k=(5-(k+1))+1 by omega,Sort.partialIns_succ]at he;intro J9 Sz;refine⟨λvs H=>∃i:Nat,vs=[iv (i:Int)]/\a<i/\i<=b/\Sort.scanSorted cv e b i=Sort.scanSorted cv e b i0/\Da T kd v e H,λvs _=>b-bN vs 0,JE.mk ⟨i0,rfl,Uu,zo,rfl,hd⟩,?_⟩;clear hd Uu zo;rintro w H ⟨i,hw,Uu,zo,hsc,hd⟩ gs;simp only[xau,xa1]at hw;subst hw;rw[<-hsc]at he;rw[Sort.scanSorted]at hsc;intro J19 adM;have yes:i<b->(!cv e[i]! e[i-1]!)=true->J19 [.bool true] H:=λhlt hl=>adM _ _ λgs=>Br.yes (ae.inc (aC.mk ⟨i+1,rfl,by omega,by omega,by rw[<-hsc,xam hlt,hl];rfl,hd⟩ (by simp[bN];omega)));have no:Sort.scanSorted cv e b i=i->J19 [.bool false] H:=λhi=>by
  rw[hi]at he;refine adM _ _ λgs=>Br.no ?_;refine ae.dx (Br.dec (λhz=>?_) (λhne=>?_))
  ·rw[xad hz]at he;exact fin he hd
  rw[xab hne]at he;refine ae.ca (ae.fC (b:=50) (Br.dec (λhz=>?_) (λhz=>?_)))
  ·rw[xad hz]at he;exact fin he hd
  rw[xab hz]at he;refine DR.self (ae.ca (b:=1) (ae.ca (b:=1) (hd.swap .here zO zO λC1 Pr=>?_)));have uI:(Sort.swp e i (i-1)).size=d.size:=iZ hs;generalize Sort.swp e i (i-1)=e1 at Pr uI he;intro J38 ahv;have next:∀(f:Array Int) H',f.size=d.size->f=Sort.fixUp cv b i (Sort.fixDown cv a i e1)->Da T kd v f H'->J9 [iv (i:Int)] H':=λf H' h1 h2 dP=>Sz _ _ λgs=>ae.inc (aC.mk ⟨i,k+1,f,rfl,by omega,Uu,zo,h1,by rw[h2];exact he,dP⟩ (by simp[bN];omega))
  have tail:∀(f:Array Int) H',f.size=d.size->f=Sort.fixDown cv a i e1->Da T kd v f H'->J38 [] H':=λf H' h1 h2 dP=>by
   refine ahv _ λgs=>?_;rw[<-h2]at next
   unfold Sort.fixUp at next
   refine ae.ca (ae.tS (b:=2) (Br.dec (λh2=>?_) (λh2=>JE.mk (next f _ h1 (by rw[xab h2]) dP))));rw[xad h2]at next
   refine ae.inc (⟨λvs H=>∃(j:Nat) (q:Array Int),vs=[iv (j:Int)]/\0<j/\q.size=d.size/\Sort.shiftUp cv b j q=Sort.shiftUp cv b (i+1) f/\Da T kd v q H,λvs _=>b-bN vs 0,JE.mk ⟨i+1,f,rfl,by omega,h1,rfl,dP⟩,?_⟩);rintro w H ⟨j,q,hw,ZX,ZC,hq,Gc⟩ gs;simp only[xau,xa1]at hw;subst hw;rw[Sort.shiftUp]at hq;refine ae.fC (Br.dec (λhlt=>?_) (λhge=>?_));rotate_left
   ·rw[xab hge]at hq;exact JE.mk (next q _ ZC hq Gc)
   rw[xad hlt]at hq;refine DR.self (Gc.ld (λ_ h=>h) zO (ae.ca (b:=1) (Gc.ld (λ_ h=>h) zO (aa.eq (dI ok _ _ _) (Un.not ?_)))));cases hl:cv q[j]! q[j-1]!
   ·rw[hl]at hq;exact Br.yes (JE.mk (next q _ ZC hq Gc))
   rw[hl]at hq;refine Br.no (DR.self (ae.ca (b:=1) (ae.ca (b:=1) (Gc.swap .here zO zO λC2 ye=>?_))));exact ae.inc (aC.mk ⟨j+1,_,rfl,by omega,iZ ZC,hq,ye⟩ (by simp[bN];omega))
  unfold Sort.fixDown at tail;refine ae.ca (ae.tS (b:=2) (Br.dec (λh2=>?_) (λh2=>JE.mk (tail e1 _ uI (by rw[xab h2]) Pr))));rw[xad h2]at tail;refine ae.ca (b:=1) (⟨λvs H=>∃(j:Nat) (q:Array Int),vs=[iv (j:Int)]/\j<d.size/\q.size=d.size/\Sort.shiftDown cv j q=Sort.shiftDown cv (i-1) e1/\Da T kd v q H,λvs _=>bN vs 0,JE.mk ⟨i-1,e1,rfl,by omega,uI,rfl,Pr⟩,?_⟩);rintro w H ⟨j,q,hw,ZX,ZC,hq,Gc⟩ gs;simp only[xau,xa1]at hw;subst hw;refine ae.tS (b:=1) (Br.dec (λhlt=>?_) (λhge=>JE.mk (tail q _ ZC (by rw[<-hq,Nz hge]) Gc)));rw[s6 hlt]at hq;refine DR.self (Gc.ld (λ_ h=>h) zO (ae.ca (b:=1) (Gc.ld (λ_ h=>h) zO (aa.eq (dI ok _ _ _) (Un.not ?_)))));cases hl:cv q[j]! q[j-1]!
  ·rw[hl]at hq;exact Br.yes (JE.mk (tail q _ ZC hq Gc))
  rw[hl]at hq;refine Br.no (DR.self (ae.ca (b:=1) (ae.ca (b:=1) (Gc.swap .here zO zO λC2 ye=>?_))));exact ae.ca (b:=1) (aC.mk ⟨j-1,_,rfl,by omega,iZ ZC,hq,ye⟩ (by simp[bN];omega))
 refine DR.self (ae.fC (Br.dec (λhlt=>?_) λhge=>JE.mk (no (by rw[Sort.scanSorted,xab zP]))));refine hd.ld (λ_ h=>h) zO (ae.ca (b:=1) (hd.ld (λ_ h=>h) zO λF=>?_));refine aa.eq (dI ok _ _ _) (Un.not (aH.mk ?_));cases hl:cv e[i]! e[i-1]!
 ·exact JE.mk (yes hlt (by rw[hl];rfl))
 exact JE.mk (no (by rw[Sort.scanSorted,hl,xab zI]))
include ok in
theorem Fu(h:Da T kd v d C){a b p:Nat}(hp:a<=p/\p<b)(hb:b<=d.size)(cI:d.size<1152921504606846976):Fc zQ zs.vH #[v,iv (a:Int),iv (b:Int),iv (p:Int)] C
  (λr C'=>r=iv ((Sort.partitionEqual cv d a b p).1:Nat)/\Da T kd v (Sort.partitionEqual cv d a b p).2 C'):=by
 refine aI λg=>ok.vH ?_;refine DR.self (h.swap .here zO zO λC1 hd=>?_);refine ae.inc (ae.ca (b:=1) (⟨λvs H=>∃(i j:Nat) (e:Array Int),vs=[iv (i:Int),iv (j:Int)]/\a<i/\i<=b/\a<=j/\j<b/\e.size=d.size/\Sort.partEqLoop cv a i j e=Sort.partitionEqual cv d a b p/\Da T kd v e H,λvs _=>b-bN vs 0,JE.mk ⟨a+1,b-1,_,rfl,by omega,by omega,by omega,by omega,iZ rfl,rfl,hd⟩,?_⟩));clear hd;rintro w w' H0 ⟨i0,j0,e,hw,Uu,zo,haj,hjb,hs,he,hd⟩ gs;simp only[xau,xa1]at hw;obtain⟨rfl,rfl⟩:=hw;rw[Sort.partEqLoop_eq]at he;refine⟨λvs H=>∃i:Nat,vs=[iv (i:Int)]/\i0<=i/\i<=b/\Sort.scanUp (λx=> !cv e[a]! x) e j0 i=Sort.scanUp (λx=> !cv e[a]! x) e j0 i0/\Da T kd v e H,λvs _=>b-bN vs 0,JE.mk ⟨i0,rfl,xaj _,zo,rfl,hd⟩,?_⟩;clear hd zo;rintro w H ⟨i,hw,F9,zo,hsc,hd⟩ gs;simp only[xau,xa1]at hw;subst hw;rw[<-hsc]at he;rw[Sort.scanUp]at hsc;intro J23 adL;have yes:i<=j0->(!cv e[a]! e[i]!)=true->J23 [.bool true] H:=λhle hl=>adL _ _ λgs=>Br.yes (ae.inc (aC.mk ⟨i+1,rfl,by omega,by omega,by rw[<-hsc,xam hle,hl];rfl,hd⟩ (by simp[bN];omega)));have no:Sort.scanUp (λx=> !cv e[a]! x) e j0 i=i->J23 [.bool false] H:=λhi=>by
  rw[hi]at he;refine adL _ _ λgs=>Br.no ?_;refine⟨λvs H=>∃j:Nat,vs=[iv (j:Int)]/\a<=j/\j<b/\Sort.scanDown (λx=>cv e[a]! x) e i j=Sort.scanDown (λx=>cv e[a]! x) e i j0/\Da T kd v e H,λvs _=>bN vs 0,JE.mk ⟨j0,rfl,haj,hjb,rfl,hd⟩,?_⟩;rintro w H' ⟨j,hw,ag9,agC,Wk,dP⟩ gs;simp only[xau,xa1]at hw;subst hw;rw[<-Wk]at he;intro J33 WN;have LH:i<=j->cv e[a]! e[j]! =true->J33 [.bool true] H':=λhle hl=>WN _ _ λgs=>Br.yes (ae.ca (b:=1) (aC.mk ⟨j-1,rfl,by omega,by omega,by rw[<-Wk,fx (j:=j) zO,xam hle,hl];rfl,dP⟩ (by simp[bN];omega)));have XO:Sort.scanDown (λx=>cv e[a]! x) e i j=j->J33 [.bool false] H':=λhj=>by
   rw[hj]at he;refine WN _ _ λgs=>Br.no ?_;refine ae.nE (Br.dec (λhgt=>?_) (λhle=>?_))
   ·rw[xad hgt]at he;exact aN.here (by rw[<-he];exact⟨rfl,dP⟩)
   rw[xab hle]at he;refine DR.self (dP.swap .here zO zO λC2 ye=>?_);exact ae.inc (ae.ca (b:=1) (aC.mk ⟨i+1,j-1,_,rfl,by omega,by omega,by omega,by omega,iZ hs,he,ye⟩ (by simp[bN];omega)))
  refine DR.self (ae.BP (Br.dec (λhle=>?_) λhgt=>JE.mk (XO ?_)));rotate_left
  ·by_cases h0:j=0
   ·subst h0;rfl
   rw[fx zO,xab zP]
  refine dP.ld (λ_ h=>h) zO ?_;refine dP.ld (λ_ h=>h) zO ?_;intro F;refine aa.eq (dI ok _ _ _) (aH.mk ?_);cases hl:cv e[a]! e[j]!
  ·exact JE.mk (XO (by rw[fx zO,hl,xab zI]))
  exact JE.mk (LH hle hl)
 refine DR.self (ae.BP (Br.dec (λhle=>?_) λhgt=>JE.mk (no (by rw[Sort.scanUp,xab zP]))));refine hd.ld (λ_ h=>h) zO (hd.ld (λ_ h=>h) zO λF=>?_);refine aa.eq (dI ok _ _ _) (Un.not (aH.mk ?_));cases hl:cv e[a]! e[i]!
 ·exact JE.mk (yes hle (by rw[hl];rfl))
 exact JE.mk (no (by rw[Sort.scanUp,hl,xab zI]))
end
section
variable {v:zV} {d:Array Int} {C:Hp} {T:TypeId} {kd:IntKind} {zs:Srt} (ok:Lp zs)
include ok in
theorem QM(h:Da T kd v d C){a b p:Nat}(hp:a<=p/\p<b)(hb:b<=d.size)(cI:d.size<1152921504606846976):Fc zQ zs.part #[v,iv (a:Int),iv (b:Int),iv (p:Int)] C
  (λr C'=>r=.tuple #[iv ((Sort.partition cv d a b p).1:Nat),.bool (Sort.partition cv d a b p).2.1]/\Da T kd v (Sort.partition cv d a b p).2.2 C'):=by
 obtain⟨R,hR⟩:∃R,R=Sort.partition cv d a b p:=⟨_,rfl⟩;rw[<-hR];refine aI λg=>ok.part ?_;refine DR.self (h.swap .here zO zO λC1 hd=>?_);have hs:(Sort.swp d a p).size=d.size:=iZ rfl;have fin:∀{m:Nat} {t:Bool} {e:Array Int} {H:Hp},(m,t,e)=R->Da T kd v e H->aN (λr C'=>r=.tuple #[iv (R.1:Nat),.bool R.2.1]/\Da T kd v R.2.2 C') (.returned (.tuple #[iv (m:Int),.bool t])) H:=λhe hd=>by
  rw[<-he];exact aN.here ⟨rfl,hd⟩
 unfold Sort.partition at hR;simp only at hR;generalize Sort.swp d a p=e at hd hs hR;refine ae.inc (ae.ca (b:=1) (⟨λvs H=>∃i:Nat,vs=[iv (i:Int)]/\a<i/\i<=b/\Sort.scanUp (λx=>cv x e[a]!) e (b-1) i=Sort.scanUp (λx=>cv x e[a]!) e (b-1) (a+1)/\Da T kd v e H,λvs _=>b-bN vs 0,JE.mk ⟨a+1,rfl,by omega,by omega,rfl,hd⟩,?_⟩));clear hd;rintro w H ⟨i,hw,Uu,zo,hsc,hd⟩ gs;simp only[xau,xa1]at hw;subst hw;rw[<-hsc]at hR;rw[Sort.scanUp]at hsc;intro J17 Gg;have yes:i<b->cv e[i]! e[a]! =true->J17 [.bool true] H:=λhle hl=>Gg _ _ λgs=>Br.yes (ae.inc (aC.mk ⟨i+1,rfl,by omega,by omega,by rw[<-hsc,xam (show i<=b-1 by omega),hl];rfl,hd⟩ (by simp[bN];omega)));have no:Sort.scanUp (λx=>cv x e[a]!) e (b-1) i=i->J17 [.bool false] H:=λhi=>by
  rw[hi]at hR;refine Gg _ _ λgs=>Br.no ?_;refine⟨λvs H=>∃j:Nat,vs=[iv (j:Int)]/\a<=j/\j<b/\Sort.scanDown (λx=> !cv x e[a]!) e i j=Sort.scanDown (λx=> !cv x e[a]!) e i (b-1)/\Da T kd v e H,λvs _=>bN vs 0,JE.mk ⟨b-1,rfl,by omega,by omega,rfl,hd⟩,?_⟩;clear hd;rintro w H ⟨j,hw,haj,hjb,Wk,hd⟩ gs;simp only[xau,xa1]at hw;subst hw;rw[<-Wk]at hR;intro J27 aak;have LH:i<=j->(!cv e[j]! e[a]!)=true->J27 [.bool true] H:=λhle hl=>aak _ _ λgs=>Br.yes (ae.ca (b:=1) (aC.mk ⟨j-1,rfl,by omega,by omega,by rw[<-Wk,fx (j:=j) zO,xam hle,hl];rfl,hd⟩ (by simp[bN];omega)));have XO:Sort.scanDown (λx=> !cv x e[a]!) e i j=j->J27 [.bool false] H:=λhj=>by
   rw[hj]at hR;refine aak _ _ λgs=>Br.no ?_;refine ae.nE (Br.dec (λhgt=>?_) (λhle=>?_))
   ·rw[xad hgt]at hR;refine DR.self (hd.swap .here zO zO λC2 ye=>?_);exact fin hR.symm ye
   rw[xab hle]at hR;refine DR.self (hd.swap .here zO zO λC2 ye=>?_);refine ae.inc (ae.ca (b:=1) ?_);obtain⟨L,hL⟩:∃L,L=Sort.partLoop cv a (i+1) (j-1) (Sort.swp e i j):=⟨_,rfl⟩;rw[<-hL]at hR;have sO:(Sort.swp e i j).size=d.size:=iZ hs;generalize Sort.swp e i j=e0 at hL ye sO;refine⟨λvs H=>∃(i j:Nat) (e:Array Int),vs=[iv (i:Int),iv (j:Int)]/\a<i/\i<=b/\a<=j/\j<b/\e.size=d.size/\L=Sort.partLoop cv a i j e/\Da T kd v e H,λvs _=>b-bN vs 0,JE.mk ⟨i+1,j-1,e0,rfl,by omega,by omega,by omega,by omega,sO,hL,ye⟩,?_⟩;clear ye hd Uu zo haj hjb hle LH aak J27 Gg J17 yes hL sO hs hsc hi Wk hj;rintro w w' H0 ⟨i0,j0,e,hw,Uu,zo,haj,hjb,hs,he,hd⟩ gs;simp only[xau,xa1]at hw;obtain⟨rfl,rfl⟩:=hw;rw[Sort.partLoop_eq]at he;refine⟨λvs H=>∃i:Nat,vs=[iv (i:Int)]/\i0<=i/\i<=b/\Sort.scanUp (λx=>cv x e[a]!) e j0 i=Sort.scanUp (λx=>cv x e[a]!) e j0 i0/\Da T kd v e H,λvs _=>b-bN vs 0,JE.mk ⟨i0,rfl,xaj _,zo,rfl,hd⟩,?_⟩;clear hd zo;rintro w H ⟨i,hw,F9,zo,hsc,hd⟩ gs;simp only[xau,xa1]at hw;subst hw;rw[<-hsc]at he;rw[Sort.scanUp]at hsc;intro J64 adJ;have yes:i<=j0->cv e[i]! e[a]! =true->J64 [.bool true] H:=λhle hl=>adJ _ _ λgs=>Br.yes (ae.inc (aC.mk ⟨i+1,rfl,by omega,by omega,by rw[<-hsc,xam hle,hl];rfl,hd⟩ (by simp[bN];omega)));have no:Sort.scanUp (λx=>cv x e[a]!) e j0 i=i->J64 [.bool false] H:=λhi=>by
    rw[hi]at he;refine adJ _ _ λgs=>Br.no ?_;refine⟨λvs H=>∃j:Nat,vs=[iv (j:Int)]/\a<=j/\j<b/\Sort.scanDown (λx=> !cv x e[a]!) e i j=Sort.scanDown (λx=> !cv x e[a]!) e i j0/\Da T kd v e H,λvs _=>bN vs 0,JE.mk ⟨j0,rfl,haj,hjb,rfl,hd⟩,?_⟩;rintro w H' ⟨j,hw,ag9,agC,Wk,dP⟩ gs;simp only[xau,xa1]at hw;subst hw;rw[<-Wk]at he;intro J74 adI;have LH:i<=j->(!cv e[j]! e[a]!)=true->J74 [.bool true] H':=λhle hl=>adI _ _ λgs=>Br.yes (ae.ca (b:=1) (aC.mk ⟨j-1,rfl,by omega,by omega,by rw[<-Wk,fx (j:=j) zO,xam hle,hl];rfl,dP⟩ (by simp[bN];omega)));have XO:Sort.scanDown (λx=> !cv x e[a]!) e i j=j->J74 [.bool false] H':=λhj=>by
     rw[hj]at he;refine adI _ _ λgs=>Br.no ?_;refine ae.nE (Br.dec (λhgt=>?_) (λhle=>?_))
     ·rw[xad hgt]at he;rw[he]at hR;refine DR.self (dP.swap .here zO zO λC2 ye=>?_);exact fin hR.symm ye
     rw[xab hle]at he;refine DR.self (dP.swap .here zO zO λC2 ye=>?_);exact ae.inc (ae.ca (b:=1) (aC.mk ⟨i+1,j-1,_,rfl,by omega,by omega,by omega,by omega,iZ hs,he,ye⟩ (by simp[bN];omega)))
    refine DR.self (ae.BP (Br.dec (λhle=>?_) λhgt=>JE.mk (XO ?_)));rotate_left
    ·by_cases h0:j=0
     ·subst h0;rfl
     rw[fx zO,xab zP]
    refine dP.ld (λ_ h=>h) zO ?_;refine dP.ld (λ_ h=>h) zO ?_;intro F;refine aa.eq (dI ok _ _ _) (Un.not (aH.mk ?_));cases hl:cv e[j]! e[a]!
    ·exact JE.mk (LH hle (by rw[hl];rfl))
    exact JE.mk (XO (by rw[fx zO,hl,xab zI]))
   refine DR.self (ae.BP (Br.dec (λhle=>?_) λhgt=>JE.mk (no (by rw[Sort.scanUp,xab zP]))));refine hd.ld (λ_ h=>h) zO (hd.ld (λ_ h=>h) zO λF=>?_);refine aa.eq (dI ok _ _ _) (aH.mk ?_);cases hl:cv e[i]! e[a]!
   ·exact JE.mk (no (by rw[Sort.scanUp,hl,xab zI]))
   exact JE.mk (yes hle hl)
  refine DR.self (ae.BP (Br.dec (λhle=>?_) λhgt=>JE.mk (XO ?_)));rotate_left
  ·by_cases h0:j=0
   ·subst h0;rfl
   rw[fx zO,xab zP]
  refine hd.ld (λ_ h=>h) zO (hd.ld (λ_ h=>h) zO λF=>?_);refine aa.eq (dI ok _ _ _) (Un.not (aH.mk ?_));cases hl:cv e[j]! e[a]!
  ·exact JE.mk (LH hle (by rw[hl];rfl))
  exact JE.mk (XO (by rw[fx zO,hl,xab zI]))
 refine DR.self (ae.BP (Br.dec (λhle=>?_) λhgt=>JE.mk (no (by rw[Sort.scanUp,xab zP]))));refine hd.ld (λ_ h=>h) zO (hd.ld (λ_ h=>h) zO λF=>?_);refine aa.eq (dI ok _ _ _) (aH.mk ?_);cases hl:cv e[i]! e[a]!
 ·exact JE.mk (no (by rw[Sort.scanUp,hl,xab zI]))
 exact JE.mk (yes zO hl)
include ok in
theorem Ck(h:Da T kd v d C){lo hi f:Nat}(hlo:lo<=d.size)(hb:f+hi<=d.size)(cI:d.size<1152921504606846976):Fc zQ zs.Mi #[v,iv (lo:Int),iv (hi:Int),iv (f:Int)] C (SXZ T kd v (Sort.siftDown cv hi f lo d)):=by
 refine aI λg=>ok.Mi ?_;refine⟨λvs H=>∃(i:Nat) (e:Array Int),vs=[iv (i:Int)]/\i<=d.size/\e.size=d.size/\Sort.siftDown cv hi f i e=Sort.siftDown cv hi f lo d/\Da T kd v e H,λvs _=>d.size-bN vs 0,JE.mk ⟨lo,d,rfl,hlo,rfl,rfl,h⟩,?_⟩;rintro w H ⟨r,e,hw,hr,hs,he,hd⟩ gs;simp only[xau,xa1]at hw;subst hw;refine ae.x7 (a:=2) (ae.inc (ae.tS (Br.dec (λhge=>?_) (λhlt=>?_))))
 ·rw[Mh hge]at he;exact aN.here ⟨rfl,by rw[<-he];exact hd⟩
 have KG:=λc=>Ve (c:=c) (d:=e) (f:=f) (show 2*r+1<hi by omega);intro J9 Sz;have go:∀c:Nat,r<c->c<hi->(c=if(decide (2*r+1+1<hi) &&cv e[f+(2*r+1)]! e[f+(2*r+1)+1]!)=true then 2*r+2 else 2*r+1)->J9 [iv (c:Int)] H:=λc hrc alV hc=>by
  rw[KG c hc]at he;refine Sz _ _ λgs=>?_;refine DR.self (ae.fI (hd.ld (λ_ h=>h) zO (ae.fI (hd.ld (λ_ h=>h) zO (aa.eq (dI ok _ _ _) (Un.not ?_))))));cases hl:cv e[f+r]! e[f+c]!
  ·rw[hl]at he;exact Br.yes (aN.here ⟨rfl,by rw[<-he];exact hd⟩)
  rw[hl]at he;refine Br.no (DR.self (ae.fI (ae.fI (ae.fI (hd.XI .here (i:=f+r) (j:=f+c) (B:=λk=>ae .num .add (iv (f:Int)) (iv (r:Int)) k) zO zO (λk hk=>ae.fI hk) λC1 Pr=>?_)))));exact aC.mk ⟨c,_,rfl,by omega,iZ hs,he,Pr⟩ (by simp[bN];omega)
 intro J36 adK;have stay:(decide (2*r+1+1<hi) &&cv e[f+(2*r+1)]! e[f+(2*r+1)+1]!)=false->J36 [.bool false] H:=λhc=>adK _ _ λgs=>Br.no (JE.mk (go _ zO zO (by rw[hc];rfl)));refine DR.self (ae.inc (ae.fC (Br.dec (λhc=>?_) λhc=>JE.mk (stay (by rw[xal hc];rfl)))));refine ae.fI (hd.ld (λ_ h=>h) zO (ae.fI (ae.inc (hd.ld (λ_ h=>h) zO λF=>?_))));refine aa.eq (dI ok _ _ _) (aH.mk ?_);cases hl:cv e[f+(2*r+1)]! e[f+(2*r+1)+1]!
 ·exact JE.mk (stay (by rw[hl,xeb]))
 exact JE.mk (adK _ _ λgs=>Br.yes (ae.inc (JE.mk (go _ zO hc (by rw[hl,xam hc];rfl)))))
include ok in
theorem M3(h:Da T kd v d C){a b:Nat}(hab:a<b)(hb:b<=d.size)(cI:d.size<1152921504606846976):Fc zQ zs.heap #[v,iv (a:Int),iv (b:Int)] C (SXZ T kd v (Sort.heapSort cv d a b)):=by
 refine aI λg=>ok.heap ?_;obtain⟨B,hB⟩:∃B,B=Sort.heapBuild cv (b-a) a ((b-a-1) /2+1) d:=⟨_,rfl⟩;have hH:Sort.heapSort cv d a b=Sort.heapPop cv a (b-a) B:=by rw[hB];rfl
 rw[hH];refine ae.ca (ae.ca (b:=1) (ae.Gm (b:=2) (by simp[bG];omega) zO (⟨λvs H=>∃(q:Int) (e:Array Int),vs=[iv q]/\ -1<=q/\q<(b:Int) -a/\e.size=d.size/\B=Sort.heapBuild cv (b-a) a (q+1).toNat e/\Da T kd v e H,λvs _=>up1 vs,JE.mk ⟨(((b-a-1) /2:Nat):Int),d,rfl,by omega,by omega,rfl,hB,h⟩,?_⟩)));clear hB hH;rintro w H ⟨q,e,hw,Wl,hq2,hs,he,hd⟩ gs;simp only[xau,xa1]at hw;subst hw;refine ae.geq (Br.dec (λh0=>?_) (λhn=>?_))
 ·obtain⟨i,rfl⟩:∃i:Nat,q=i:=⟨q.toNat,by omega⟩;rw[show((i:Int)+1).toNat=i+1 by omega,Sort.heapBuild]at he;refine aa.fq (Ck ok hd zO zO zO) ?_;rintro w C1 ⟨rfl,Pr⟩;exact ae.lq (c:=(i:Int) -1) rfl zO (aC.mk ⟨(i:Int) -1,_,rfl,by omega,by omega,by rw[J0];exact hs,by rw[show((i:Int) -1+1).toNat=i by omega];exact he,Pr⟩ (by rw[AG,AG];omega))
 obtain rfl:q= -1:=by omega
 have he:B=e:=he;subst he;refine ae.ca (b:=1) (⟨λvs H=>∃(q:Int) (e:Array Int),vs=[iv q]/\ -1<=q/\q<(b:Int) -a/\e.size=d.size/\Sort.heapPop cv a (q+1).toNat e=Sort.heapPop cv a (b-a) B/\Da T kd v e H,λvs _=>up1 vs,JE.mk ⟨((b-a-1:Nat):Int),B,rfl,by omega,by omega,hs,by rw[show(((b-a-1:Nat):Int)+1).toNat=b-a by omega],hd⟩,?_⟩);clear hd hs hn;rintro w H ⟨q,e,hw,Wl,hq2,hs,he,hd⟩ gs;simp only[xau,xa1]at hw;subst hw;refine ae.geq (Br.dec (λh0=>?_) (λhn=>?_));rotate_left
 ·obtain rfl:q= -1:=by omega
  have he:e=Sort.heapPop cv a (b-a) B:=he;exact aN.here ⟨rfl,by rw[<-he];exact hd⟩
 obtain⟨i,rfl⟩:∃i:Nat,q=i:=⟨q.toNat,by omega⟩;rw[show((i:Int)+1).toNat=i+1 by omega,Sort.heapPop]at he;refine DR.self (ae.fI (ae.fI (hd.swap .here zO zO λC1 Pr=>?_)));have uI:(Sort.swp e a (a+i)).size=d.size:=iZ hs;refine aa.fq (Ck ok Pr (lo:=0) zO zO zO) ?_;rintro w C2 ⟨rfl,ye⟩;exact ae.lq (c:=(i:Int) -1) rfl zO (aC.mk ⟨(i:Int) -1,_,rfl,by omega,by omega,by rw[J0];exact uI,by rw[show((i:Int) -1+1).toNat=i by omega];exact he,ye⟩ (by rw[AG,AG];omega))
end
section
variable {v:zV} {d:Array Int} {C:Hp} {T:TypeId} {kd:IntKind} {zs:Srt} (ok:Lp zs)
theorem xlt{a b:Nat}(ha:a<18446744073709551616)(hb:b<18446744073709551616):a^^^b<18446744073709551616:=Nat.xor_lt_two_pow (n:=64) ha hb
theorem PE(b x:Nat)(hx:x<18446744073709551616):Fc zQ 208 #[ptr b] [(b,.cells #[.int .u64 (x:Int)] 276 zZ)]
  (λr H=>∃y:Nat,y<18446744073709551616/\r=.int .u64 (y:Int)/\H=[(b,.cells #[.int .u64 (y:Int)] 276 zZ)]):=by
 refine aI λg=>Ic (DR.self (Nil.ptr (Ld.q ?_)));refine Nil.ptr (Ld.q ?_);refine ae.nR (b:=13) (ae.YH hx (xbB _ zD) ?_);have h1:=xlt hx (xbB (x<<<13) (show 0<18446744073709551616 by decide));generalize x^^^x<<<13%18446744073709551616=x1 at h1;refine Nil.ptr (St.one (by exact .head _) rfl zI rfl ?_);refine DR.self (Nil.ptr (Ld.q ?_));refine Nil.ptr (Ld.q ?_);refine ae.iK (b:=7) h1 ?_;have h2:x1>>>7<18446744073709551616:=by rw[xa0];omega
 refine ae.YH h1 h2 ?_;have h3:=xlt h1 h2;generalize x1^^^x1>>>7=x2 at h3;refine Nil.ptr (St.one (by exact .head _) rfl zI rfl ?_);refine DR.self (Nil.ptr (Ld.q ?_));refine Nil.ptr (Ld.q ?_);refine ae.nR (b:=17) (ae.YH h3 (xbB _ zD) ?_);have h4:=xlt h3 (xbB (x2<<<17) (show 0<18446744073709551616 by decide));generalize x2^^^x2<<<17%18446744073709551616=x3 at h4;refine Nil.ptr (St.one (by exact .head _) rfl zI rfl ?_);refine Nil.ptr (Ld.q ?_);exact aN.here ⟨x3,h4,rfl,rfl⟩
theorem Lg{x:Nat}(hx:x<18446744073709551616)(B:Hp):Rd zQ 97 #[.int .u64 (x:Int)] B (λv=>∃r:Nat,Ay x r/\v=iv (r:Int)):=by
 refine aI λg=>Oa (Br.no (aa.rq (Ra hx B) ?_));rintro w hw;exact bc.mk (.refl _) hw
theorem VC{x:Nat}(h0:0<x)(hx:x<1152921504606846976)(B:Hp):Rd zQ 207 #[iv (x:Int)] B (λv=>∃r:Nat,0<r/\r<=2*x/\v=.int .u64 (r:Int)):=by
 refine aI λg=>Ie (br.q (aa.rq (Lg zO B) ?_));rintro w ⟨r,hr,rfl⟩;have RJ:0<r:=by
  rcases Nat.eq_zero_or_pos r with e|e
  ·subst e;have:=hr.1;omega
  exact e
 have h2:2^(r-1)<=x:=by
  rcases hr.2 with e|e
  ·omega
  exact e
 have h3:2^r=2*2^(r-1):=by
  obtain⟨k,rfl⟩:∃k,r=k+1:=⟨r-1,by omega⟩;rw[xb6,xd2];omega
 refine ae.nR (a:=1) ?_;have e:1<<<r%18446744073709551616=2^r:=by
  rw[xcn,xdk];exact xbk zO
 rw[e];exact bc.mk (.refl _) ⟨2^r,xbw r,by omega,rfl⟩
include ok in
theorem Xc(h:Da T kd v d C){a b:Nat}(hab:a<b)(hb:b<=d.size)(cI:d.size<1152921504606846976):Fc zQ zs.brk #[v,iv (a:Int),iv (b:Int)] C (λr C'=>r=.tuple #[]/\∃e,Sort.PermIn a b d e/\Da T kd v e C'):=by
 refine aI λg=>ok.brk ?_;refine ae.ca (ae.tS (b:=8) (Br.dec (λh8=>?_) (λ_=>aN.here ⟨rfl,d,Sort.permIn_refl _ _ _,h⟩)));refine br.q λb4 _=>(St.one (by exact .head _) rfl zI rfl ?_);refine aa.rq (VC zO zO C) ?_;rintro w ⟨m,hm0,hm,rfl⟩;refine ae.Gm (b:=4) (by simp[bG];omega) zO (ae.x7 (b:=2) (ae.fI (ae.ca (b:=1) ?_)));refine⟨λvs H=>∃(i x:Nat) (C':Hp) (e:Array Int),vs=[iv (i:Int)]/\a<=i/\x<18446744073709551616/\H=(b4,.cells #[.int .u64 (x:Int)] 276 zZ)::C'/\Sort.PermIn a b d e/\Da T kd v e C',λvs _=>b-bN vs 0,
  JE.mk ⟨_,b-a,C,d,rfl,by omega,by omega,rfl,Sort.permIn_refl _ _ _,h⟩,?_⟩
 rintro w H ⟨i,x,C',e,hw,Uu,hx,rfl,hp,hd⟩ gs;simp only[xau,xa1]at hw;subst hw;have hs:=hp.1;refine ae.Gm (b:=4) (by simp[bG];omega) zO (ae.x7 (b:=2) (ae.fI (ae.inc (ae.BP (Br.dec (λhle=>?_) (λ_=>aN.mk .tail ⟨rfl,e,hp,hd⟩))))));refine aa.fn (.left (A:=C')) (PE b4 x hx) ?_;rintro w H' ⟨y,hy,rfl,rfl⟩;refine ae.ca (b:=1) (ae.jE (by simp[bG];omega) (by simp[bG];omega) ?_);have hand:y&&& (m-1)<m:=by have:=xc6 (n:=y) (m:=m-1);omega
 generalize y&&& (m-1)=z at hand;refine br.q λJ28 ahy=>?_;have go:∀o:Nat,o<b-a->J28 [iv (o:Int)] ([(b4,Obj.cells #[.int .u64 (y:Int)] 276 zZ)]++C'):=λo ho=>by
  refine ahy _ _ λgs=>?_;refine DR.self (ae.fI (ae.fI (hd.swap (.cons .here) zO zO λC1 Pr=>?_)));exact ae.inc (aC.mk ⟨i+1,y,C1,_,rfl,by omega,hy,rfl,Sort.permIn_trans _ _ _ _ _ hp (Sort.swp_permIn _ a b i (a+o) Uu zO zO zO zO),Pr⟩ (by simp[bN];omega))
 refine ae.tS (Br.dec (λhge=>?_) (λhlt=>JE.mk (go z zO)));exact ae.ca (JE.mk (go _ zO))
def OQZ(b:Nat)(C:Hp)(i j:Nat):zV->Hp->Prop:=λr H=>(r=.tuple #[iv (i:Int),iv (j:Int)]\/r=.tuple #[iv (j:Int),iv (i:Int)])/\∃z:Int,H=(b,.cells #[iv z] 3 zZ)::C
include ok in
theorem vK(h:Da T kd v d C){b:Nat}{z:Int}{i j:Nat}(hi:i<d.size)(hj:j<d.size):
  Fc zQ zs.Fw #[v,iv (i:Int),iv (j:Int),ptr b] ((b,.cells #[iv z] 3 zZ)::C) (OQZ b C i j):=by
 refine aI λg=>ok.Fw ?_;refine DR.self (h.ld (λ_ h=>.tail _ h) hj (h.ld (λ_ h=>.tail _ h) hi (aa.eq (dI ok _ _ _) (Br.mk (λ_=>?_) (λ_=>aN.here ⟨.inl rfl,z,rfl⟩)))));refine Nil.ptr (Ld.q ?_);refine ae.add (Nil.ptr (St.one (by exact .head _) rfl zI rfl ?_));exact aN.here ⟨.inr rfl,_,rfl⟩
def MQZ(b:Nat)(C:Hp)(p:Nat->Prop):zV->Hp->Prop:=λr H=>(∃m:Nat,r=iv (m:Int)/\p m)/\∃z:Int,H=(b,.cells #[iv z] 3 zZ)::C
include ok in
theorem Kx(h:Da T kd v d C){b:Nat}{z:Int}{i j k:Nat}(hi:i<d.size)(hj:j<d.size)(hk:k<d.size):
  Fc zQ zs.med #[v,iv (i:Int),iv (j:Int),iv (k:Int),ptr b] ((b,.cells #[iv z] 3 zZ)::C) (MQZ b C λm=>m=i\/m=j\/m=k):=by
 refine aI λg=>ok.med ?_;refine aa.fq (vK ok h hi hj) ?_;rintro w H ⟨hw,z1,rfl⟩;obtain⟨i1,j1,rfl,hij⟩:∃i1 j1:Nat,w=.tuple #[iv (i1:Int),iv (j1:Int)]/\((i1=i/\j1=j)\/(i1=j/\j1=i)):=by
  rcases hw with rfl|rfl
  ·exact⟨i,j,rfl,.inl ⟨rfl,rfl⟩⟩
  exact⟨j,i,rfl,.inr ⟨rfl,rfl⟩⟩
 refine Ext.two (aa.fq (vK ok h (i:=j1) (j:=k) zO hk) ?_);rintro w H ⟨hw,z2,rfl⟩;obtain⟨j2,k2,rfl,Wu⟩:∃j2 k2:Nat,w=.tuple #[iv (j2:Int),iv (k2:Int)]/\((j2=j1/\k2=k)\/(j2=k/\k2=j1)):=by
  rcases hw with rfl|rfl
  ·exact⟨_,_,rfl,.inl ⟨rfl,rfl⟩⟩
  exact⟨_,_,rfl,.inr ⟨rfl,rfl⟩⟩
 refine Ext.two (aa.fq (vK ok h (i:=i1) (j:=j2) zO zO) ?_);rintro w H ⟨hw,z3,rfl⟩;rcases hw with rfl|rfl
 ·exact Ext.mk rfl (Ext.mk rfl (aN.here ⟨⟨_,rfl,by omega⟩,_,rfl⟩))
 exact Ext.mk rfl (Ext.mk rfl (aN.here ⟨⟨_,rfl,by omega⟩,_,rfl⟩))
include ok in
theorem vU(h:Da T kd v d C){b:Nat}{z:Int}{i:Nat}(h0:0<i)(hi:i+1<d.size)(cI:d.size<1152921504606846976):
  Fc zQ zs.FC #[v,iv (i:Int),ptr b] ((b,.cells #[iv z] 3 zZ)::C) (MQZ b C λm=>i<=m+1/\m<=i+1):=by
 refine aI λg=>ok.FC ?_;refine ae.ca (b:=1) (ae.inc (aa.fq (Kx ok h zO zO hi) ?_));rintro w H ⟨⟨m,rfl,hm⟩,z',rfl⟩;exact aN.here ⟨⟨m,rfl,by omega⟩,z',rfl⟩
include ok in
theorem Vv(h:Da T kd v d C){a b:Nat}(hab:a<b)(hb:b<=d.size)(cI:d.size<1152921504606846976):
  Rd zQ zs.piv #[v,iv (a:Int),iv (b:Int)] C (λr=>∃(p:Nat) (q:Int),r=.tuple #[iv (p:Int),iv q]/\a<=p/\p<b):=by
 refine aI λg=>ok.piv ?_;refine ae.ca λb2 _=>(ae.Gm (b:=4) (by simp[bG];omega) zO (ae.x7 (b:=1) (ae.fI (ae.Gm (b:=4) (by simp[bG];omega) zO (ae.x7 (b:=2) (ae.fI (ae.Gm (b:=4) (by simp[bG];omega) zO (ae.x7 (b:=3) (ae.fI ?_)))))))));intro J13 ahB;have fin:∀(p:Nat) (z:Int),a<=p->p<b->J13 [iv (p:Int)] ((b2,.cells #[iv z] 3 zZ)::C):=λp z uJ mV=>by
  refine ahB _ _ λgs=>?_;refine Ld.q ?_;refine ae.gJ (Br.dec (λ_=>bc.mk .tail ⟨p,_,rfl,uJ,mV⟩) (λ_=>?_));exact ae.gJ (Br.dec (λ_=>bc.mk .tail ⟨p,_,rfl,uJ,mV⟩) (λ_=>bc.mk .tail ⟨p,_,rfl,uJ,mV⟩))
 refine ae.tS (b:=8) (Br.dec (λh8=>?_) (λ_=>JE.mk (fin _ _ zO zO)));intro J21 ahA;have three:∀(x y u:Nat) (z:Int),a<=x/\x<b->a<=y/\y<b->a<=u/\u<b->J21 [iv (x:Int),iv (y:Int),iv (u:Int)] ((b2,.cells #[iv z] 3 zZ)::C):=λx y u z hx hy hu=>by
  refine ahA _ _ _ _ λgs=>?_;refine aa.fq (Kx ok h zO zO zO) ?_;rintro w H ⟨⟨m,rfl,hm⟩,z',rfl⟩;exact JE.mk (fin _ _ zO zO)
 refine ae.tS (b:=50) (Br.dec (λh50=>?_) (λ_=>JE.mk (three _ _ _ _ zO zO zO)));refine aa.fq (vU ok h zO zO cI) ?_;rintro w H ⟨⟨m1,rfl,xU⟩,z1,rfl⟩;refine aa.fq (vU ok h zO zO cI) ?_;rintro w H ⟨⟨m2,rfl,nj⟩,z2,rfl⟩;refine aa.fq (vU ok h zO zO cI) ?_;rintro w H ⟨⟨m3,rfl,hm3⟩,z3,rfl⟩;exact JE.mk (three _ _ _ _ zO zO zO)
def PSZ(T:TypeId)(kd:IntKind)(v:zV)(d:Array Int)(a b:Nat):zV->Hp->Prop:=λr C'=>r=.tuple #[]/\∃e,(Sort.PermIn a b d e/\Sort.SortedIn cv a b e)/\Da T kd v e C'
include ok in
theorem Vw:∀(N:Nat) {C:Hp} {d:Array Int} (h:Da T kd v d C) {a b:Nat} (hN:b-a<=N) (hab:a<=b) (hb:b<=d.size) (cI:d.size<1152921504606846976) (hB:Sort.Below cv a b d) (z:Int),Fc zQ zs.Y8 #[v,iv (a:Int),iv (b:Int),iv z] C (PSZ T kd v d a b):=by
 intro N;induction N with
 |zero=>
  intro C d h a b hN hab hb cI hB z g;refine ok.Y8 (R:=aN _) ?_;unfold L9014;refine⟨λvs H=>vs=[iv (a:Int),iv (b:Int),iv z,.bool true,.bool true]/\H=C,λ_ _=>0,JE.mk ⟨rfl,rfl⟩,?_⟩;rintro w1 w2 w3 w4 w5 H ⟨hw,rfl⟩ gs;simp only[xau,xa1]at hw;obtain⟨rfl,rfl,rfl,rfl,rfl⟩:=hw;refine ae.ca (ae.BP (b:=12) (Br.T (aa.fq (zk ok h hab hb cI) ?_)));rintro w C' ⟨rfl,hd⟩;exact aN.here ⟨rfl,_,Sort.insertionSort_holds Sort.swo_ltInt d a b hab hb,hd⟩
 |succ N ih=>
  intro C d h a b hN hab hb cI hB z g;refine ok.Y8 (R:=aN _) ?_;unfold L9014;obtain⟨G,hG⟩:∃G:Array Int->Prop,G=λR=>Sort.PermIn a b d R/\Sort.SortedIn cv a b R:=⟨_,rfl⟩;have fin:∀{R:Array Int} {H:Hp},G R->Da T kd v R H->aN (PSZ T kd v d a b) (.returned (.tuple #[])) H:=λhR hd=>by
   subst hG;exact aN.here ⟨rfl,_,hR,hd⟩
  refine⟨λvs H=>∃(a b:Nat) (z:Int) (t1 t2:Bool) (e:Array Int),vs=[iv (a:Int),iv (b:Int),iv z,.bool t1,.bool t2]/\b-a<=N+1/\a<=b/\b<=e.size/\e.size=d.size/\Sort.Below cv a b e/\(∀R,Sort.PermIn a b e R->Sort.SortedIn cv a b R->G R)/\Da T kd v e H,λvs _=>bN vs 1-bN vs 0,
   JE.mk ⟨a,b,z,true,true,d,rfl,hN,hab,hb,rfl,hB,by subst hG;exact λR h1 h2=>⟨h1,h2⟩,h⟩,?_⟩
  clear h hN hab hb hB hG;rintro w1 w2 w3 w4 w5 H ⟨a,b,z,t1,t2,e,hw,hN,hab,hb,hs,hB,KG,h⟩ gs;simp only[xau,xa1]at hw;obtain⟨rfl,rfl,rfl,rfl,rfl⟩:=hw;refine ae.ca (ae.BP (b:=12) (Br.dec (λKR=>?_) (λKR=>?_)))
  ·refine aa.fq (zk ok h hab hb zO) ?_;rintro w C' ⟨rfl,hd⟩;obtain⟨q1,q2⟩:=Sort.insertionSort_holds Sort.swo_ltInt e a b hab hb;exact fin (KG _ q1 q2) hd
  refine ae.gJ (Br.dec (λ_=>?_) (λ_=>?_))
  ·refine aa.fq (M3 ok h zO hb zO) ?_;rintro w C' ⟨rfl,hd⟩;obtain⟨q1,q2⟩:=Sort.heapSort_holds Sort.swo_ltInt e a b hab hb;exact fin (KG _ q1 q2) hd
  intro J17 Gg;have k17:∀(z1:Int) H1 e1,Sort.PermIn a b e e1->Da T kd v e1 H1->J17 [iv z1] H1:=λz1 H1 e1 p1 h1=>by
   have uI:=p1.1;refine Gg _ _ λgs=>?_;refine aa.rq (Vv ok h1 (a:=a) (b:=b) zO zO zO) ?_;rintro w ⟨p,q,rfl,uJ,mV⟩;refine Ext.two λJ25 ahz=>?_;have k25:∀(p:Nat) (q:Int) H2 e2,a<=p->p<b->Sort.PermIn a b e e2->Da T kd v e2 H2->J25 [iv (p:Int),iv q] H2:=λp q H2 e2 uJ mV p2 h2=>by
    have sO:=p2.1;refine ahz _ _ _ λgs=>?_;intro J30 ahx;have k30:∀H3 e3,Sort.PermIn a b e e3->Da T kd v e3 H3->J30 [] H3:=λH3 e3 p3 h3=>by
     have hs3:=p3.1;have hB3:=hB.perm hb p3;have Sg:b<=e3.size:=by omega
     refine ahx _ λgs=>?_;intro J33 WN;have k33:∀(t:Bool),(t=true->0<a/\cv e3[a-1]! e3[p]! =false)->J33 [.bool t] H3:=λt ht=>by
      refine WN _ _ λgs=>?_;refine Br.mk (λet=>?_) (λ_=>?_)
      ·obtain⟨ha0,hnl⟩:=ht et;refine aa.fq (Fu ok h3 ⟨uJ,mV⟩ Sg zO) ?_;rintro w C' ⟨rfl,hd⟩;obtain⟨g1,g2,g3,g4,g5⟩:=Sort.round_eq Sort.swo_ltInt (Sort.partitionEqual_holds cv) ha0 uJ mV Sg hB3 hnl (mid:=(Sort.partitionEqual cv e3 a b p).1) (d4:=(Sort.partitionEqual cv e3 a b p).2) rfl;generalize (Sort.partitionEqual cv e3 a b p).1=m at*;generalize (Sort.partitionEqual cv e3 a b p).2=e4 at*;exact aC.mk ⟨m,b,z1,t1,t2,e4,rfl,by omega,by omega,by omega,by omega,g4,λR r1 r2=>by
        obtain⟨q1,q2⟩:=g5 R r1 r2;exact KG R (Sort.permIn_trans _ _ _ _ _ p3 q1) q2,hd⟩ (by simp[bN];omega)
      refine aa.fq (QM ok h3 ⟨uJ,mV⟩ Sg zO) ?_;rintro w C' ⟨rfl,hd⟩;obtain⟨g1,g2,g3,g4,g5,g6,g7⟩:=Sort.round_part Sort.swo_ltInt (Sort.partition_holds cv) uJ mV Sg hB3 (mid:=(Sort.partition cv e3 a b p).1) (ap:=(Sort.partition cv e3 a b p).2.1) (d4:=(Sort.partition cv e3 a b p).2.2) rfl;generalize (Sort.partition cv e3 a b p).1=m at*;generalize (Sort.partition cv e3 a b p).2.1=t at*;generalize (Sort.partition cv e3 a b p).2.2=e4 at*;refine Ext.two (ae.ca (ae.ca (ae.Gm (b:=8) (by simp[bG];omega) zO (ae.fC (Br.dec (λ_=>?_) (λ_=>?_))))))
      ·refine ae.tS (aa.fq (ih hd (a:=a) (b:=m) zO zO zO zO g4 z1) ?_);rintro w C' ⟨rfl,e5,⟨l1,l2⟩,dP⟩;obtain⟨hBL,ig⟩:=g6 _ l1 l2;have hs5:=l1.1;refine ae.inc ?_;exact aC.mk ⟨m+1,b,z1,_,t,e5,rfl,by omega,by omega,by omega,by omega,hBL,λR r1 r2=>by
        obtain⟨q1,q2⟩:=ig R r1 r2;exact KG R (Sort.permIn_trans _ _ _ _ _ p3 q1) q2,dP⟩ (by simp[bN];omega)
      refine ae.tS (ae.inc (aa.fq (ih hd (a:=m+1) (b:=b) zO zO zO zO g5 z1) ?_));rintro w C' ⟨rfl,e5,⟨l1,l2⟩,dP⟩;obtain⟨hBL,ig⟩:=g7 _ l1 l2;have hs5:=l1.1;exact aC.mk ⟨a,m,z1,_,t,e5,rfl,by omega,by omega,by omega,by omega,hBL,λR r1 r2=>by
       obtain⟨q1,q2⟩:=ig R r1 r2;exact KG R (Sort.permIn_trans _ _ _ _ _ p3 q1) q2,dP⟩ (by simp[bN];omega)
     refine DR.self (ae.nE (b:=0) (Br.dec (λh0=>?_) (λ_=>JE.mk (k33 false nofun))));refine ae.ca (b:=1) (h3.ld (λ_ h=>h) zO (h3.ld (λ_ h=>h) zO λF=>?_));exact aa.eq (dI ok _ _ _) (Un.not (aH.mk (JE.mk (k33 _ λht=>⟨h0,by simpa using ht⟩))))
    refine cS.and t2 (λ_=>⟨rfl,rfl⟩) rfl λgs=>?_;refine cS.and (decide (q=1)) (λ_=>ae.gJ ⟨rfl,rfl⟩) rfl λgs=>?_;refine Br.mk (λ_=>?_) (λ_=>JE.mk (k30 _ _ p2 h2));refine aa.fq (QJ ok h2 zO (show b<=e2.size by omega) zO) ?_;rintro w C' ⟨rfl,hd⟩;obtain⟨q1,q2⟩:=Sort.partialInsertionSort_holds Sort.swo_ltInt e2 a b zO zO (hB.perm hb p2);exact Br.mk (λet=>fin (KG _ (Sort.permIn_trans _ _ _ _ _ p2 q1) (q2 et)) hd) (λ_=>JE.mk (k30 _ _ (Sort.permIn_trans _ _ _ _ _ p2 q1) hd))
   refine ae.gJ (Br.dec (λ_=>?_) (λ_=>JE.mk (k25 p q _ _ uJ mV p1 h1)));refine aa.fq (Vk ok h1 (a:=a) (b:=b) zO zO zO) ?_;rintro w C' ⟨rfl,hd⟩;exact ae.ca (b:=1) (ae.ca (ae.ca (JE.mk (k25 _ _ _ _ zO zO (Sort.permIn_trans _ _ _ _ _ p1 (Sort.reverseRange_holds e1 a b hab zO)) hd))))
  refine Un.not (Br.mk (λ_=>?_) (λ_=>JE.mk (k17 _ _ _ (Sort.permIn_refl _ _ _) h)));refine aa.fq (Xc ok h (a:=a) (b:=b) zO hb zO) ?_;rintro w C' ⟨rfl,e1,p1,hd⟩;exact ae.sub (JE.mk (k17 _ _ _ p1 hd))
end
def Qe(l:List Int):List Int:=l.mergeSort λx y=>decide (x<=y)
theorem YR{d e:Array Int}(h1:Sort.PermIn 0 d.size d e)(h2:Sort.SortedIn cv 0 d.size e):e.toList=Qe d.toList:=by
 rw[Sort.sorted_unique_holds Sort.swo_ltInt (λx y h1 h2=>by simp[Sort.ltInt]at h1 h2;omega) d e h1 h2];unfold Qe;congr 1
 funext x y
 show(!decide (y<x))=decide (x<=y);rw[xbE];simp
def YS(l:zL):zL:=l.mergeSort λx y=>decide (x<=y)
theorem yI(l:zL):(YS l).Perm l:=List.mergeSort_perm _ _
theorem U7(l:zL):(YS l).Pairwise λx y=>x<=y:=
 (List.pairwise_mergeSort (le:=λx y:Nat=>decide (x<=y)) (λa b c h1 h2=>by simp only[xaJ]at*;omega) (λa b=>by simp only[xbs,xaJ];omega) l).imp λh=>xcb h
theorem U6(l:zL):Qe (iw l)=iw (YS l):=by
 refine List.Perm.eq_of_pairwise (le:=λx y:Int=>x<=y) (λa b _ _ h1 h2=>Int.le_antisymm h1 h2) ?_ ?_ ((List.mergeSort_perm _ _).trans ((yI l).map _).symm)
 ·exact(List.pairwise_mergeSort (le:=λx y:Int=>decide (x<=y)) (λa b c h1 h2=>by simp only[xaJ]at*;omega) (λa b=>by simp only[xbs,xaJ];omega) _).imp λh=>xcb h
 exact xbJ.2 ((U7 l).imp λh=>by omega)
theorem U8{v:zV}{C:Hp}{l:List Int}(h:aS 78 .u32 v l C)(cI:l.length<1152921504606846976):Fc zQ 282 #[v] C (λr C'=>r=.tuple #[]/\aS 78 .u32 v (Qe l) C'):=by
 refine aI λg=>GQ (h.bV ?_);refine br.q (aa.rq (Lg zO C) ?_);rintro w ⟨r,_,rfl⟩;have hd:Da 78 .u32 v l.toArray C:=h;refine aa.fn .here (Vw abI l.length hd (a:=0) (b:=l.length) zO zO zI (by simpa using cI) (.inl rfl) _) ?_;rintro w C' ⟨rfl,e,⟨h1,h2⟩,dP⟩;have he:=YR (d:=l.toArray) (by simpa using h1) (by simpa using h2);exact aN.here ⟨rfl,by rw[show Qe l=e.toList from he.symm];exact dP⟩
end
end Go.Proofs
namespace Go.Sx
open Go
section
variable {P:Program} {g:Gh} {F:Fence} {n:Nat} {ops:Array Oper} {Q:Exit->Act->World->Prop} {rest:List Oper} {o:Oper} {a:Act} {fr:Fr} {w:World} {H:Hp}
abbrev Ew(ds:List Deferred)(n:Nat)(a:Act)(fr:Fr):Prop:=cA ds n a fr
variable {ds:List Deferred}
theorem Ew.put(h:Ew ds n a fr){d:Option Nat}(hd:eG n d=true)(v:zV):Ew ds n (a.put d v) (bK fr d v):=cA.put h hd v
theorem jR{v0:zV}(hF:∀f,F.fn f)(hg:o.guard=none)(fD:∀c,o.op≠.defer c)(hd:eG n o.dst=true)(ha:Ew ds n a fr)(hw:Own g H w)(h:EB P g o (ev fr) H (· =v0))
 (k:∀a',Ew ds n a' (bK fr o.dst v0)->wpListIn F 0 P ops Q rest a' w):wpListIn F 0 P ops Q (o::rest) a w:=by
 refine wpListIn_plain hg λK hK=>⟨λf _=>hF f,?_⟩;rw[Oper.semAt_eq _ _ _ fD,ha.eval];obtain⟨v,hv,hr,_⟩:=o5 h;rw[hr w hw];subst hv;exact hK _ _ (k _ (ha.put hd _))
theorem JY{s:Sem zV}{K:zV->Hp->Prop}(hF:∀f,F.fn f)(hg:o.guard=none)(fD:∀c,o.op≠.defer c)(hd:eG n o.dst=true)(ha:Ew ds n a fr)(he:execOp (ev fr) o=(do pure (.value (<-s))))
 (h:∃v w' H',s.run P w=.ok v w'/\Own g H' w'/\K v H')
 (k:∀v H' w' a',K v H'->Own g H' w'->Ew ds n a' (bK fr o.dst v)->wpListIn F 0 P ops Q rest a' w'):wpListIn F 0 P ops Q (o::rest) a w:=by
 refine wpListIn_plain hg λK hK=>⟨λf _=>hF f,?_⟩;rw[Oper.semAt_eq _ _ _ fD,ha.eval,he];obtain⟨v,w',H',hr,ho,hk⟩:=h;simp only[Sem.run_bind,hr,Result.andThen_ok,Sem.run_pure];exact hK _ _ (k v H' w' _ hk ho (ha.put hd _))
theorem P9{s:Sem zV}{K:zV->Hp->Prop}(hF:∀f,F.fn f)(hg:o.guard=none)(fD:∀c,o.op≠.defer c)(hd:eG n o.dst=true)(ha:Ew ds n a fr)(hw:Own g H w)(he:execOp (ev fr) o=(do pure (.value (<-s))))
 (h:Ue P g o (ev fr) H K (λ_ _=>False))
 (k:∀v H' w' a',K v H'->Own g H' w'->Ew ds n a' (bK fr o.dst v)->wpListIn F 0 P ops Q rest a' w'):wpListIn F 0 P ops Q (o::rest) a w:=by
 have h1:=vM (pn fr) h w hw;rw[he]at h1;refine JY (g:=g) (K:=K) hF hg fD hd ha he ?_ k;cases hs:s.run P w with
 |ok v w'=>
  simp only[Sem.run_bind,hs,Result.andThen_ok,Sem.run_pure,oK]at h1;obtain⟨H',ho,hk⟩:=h1;exact⟨v,w',H',rfl,ho,hk⟩
 |halt x w'=>
  simp only[Sem.run_bind,hs,Result.andThen]at h1;cases x<;>simp only[oK]at h1;obtain⟨_,_,hk⟩:=h1;exact hk.elim
theorem abN{s:Sem Unit}{K:zV->Hp->Prop}(hF:∀f,F.fn f)(hg:o.guard=none)(fD:∀c,o.op≠.defer c)(hd:eG n o.dst=true)(ha:Ew ds n a fr)(hw:Own g H w)(he:execOp (ev fr) o=(do s;pure .skip))
 (h:Ue P g o (ev fr) H K (λ_ _=>False))
 (k:∀H' w' a',K undef H'->Own g H' w'->Ew ds n a' (bK fr o.dst undef)->wpListIn F 0 P ops Q rest a' w'):wpListIn F 0 P ops Q (o::rest) a w:=by
 have h1:=vM (pn fr) h w hw;rw[he]at h1;refine wpListIn_plain hg λK hK=>⟨λf _=>hF f,?_⟩;rw[Oper.semAt_eq _ _ _ fD,ha.eval,he];cases hs:s.run P w with
 |ok v w'=>
  simp only[Sem.run_bind,hs,Result.andThen_ok,Sem.run_pure,oK]at h1⊢;obtain⟨H',ho,hk⟩:=h1;exact hK _ _ (k H' w' _ hk ho (ha.put hd _))
 |halt x w'=>
  simp only[Sem.run_bind,hs,Result.andThen]at h1;cases x<;>simp only[oK]at h1;obtain⟨_,_,hk⟩:=h1;exact hk.elim
theorem xl{m:Nat}{args:List zV}(hl:args.length<=m):Ew [] m {tmps:=args.toArray++Array.replicate (m-args.toArray.size) undef,defers:=[]} (jY args 0):=by
 refine⟨rfl,by simp;omega,λs=>?_⟩;rw[mT,xas,xdS];simp only[xcW,xcC,xa2,xc4];by_cases hs:s<args.length
 ·simp[hs,List.getD]
 rw[xab hs,xc2];have:args.getD s undef=undef:=by simp[List.getD,xaC (xc5 hs)]
 rw[this];split<;>rfl
theorem Own.putObj{g:Gh}{H H':Hp}{w:World}{b:Nat}{o o':Obj}(h:Own g H w)(u:c8 b o o' H H'):Own g H' (w.putObj b o'):=by
 have hb:=h.lt u.mem;exact h.bK u rfl rfl rfl (World.putObj_heap_same hb) λc hc=>World.putObj_heap_other hc
def Lw{α:Type}(P:Program)(f:FuncId)(cap:Array zV)(B:Hp)(enc:α->zV)(N:Nat)(S:List α->Prop):Prop:=
 ∀(g:Gh) (l:Nat) (G:List α->Hp->Prop),
  (∀ss x A X W,G ss A->ss.length<N->Own g (A++X) W->YieldAt Fence.wide 0 P l #[enc x] W (λe W'=>e=.returned (.bool true)/\∃A',G (ss++[x]) A'/\Own g (A'++X) W'))->
  ∀A W,G [] A->Own g (A++B) W->CallsIn Fence.wide 0 P f (#[.func (.yield l) #[] #[]]++cap) W (λe W'=>(∃v,e=.returned v)/\∃ss A',S ss/\G ss A'/\Own g (A'++B) W')
open Classical in
noncomputable def rD(p:Nat->Prop):Nat:=if h:∃k,p k then Classical.choose (lT h)else 0
theorem FJ{p:Nat->Prop}{k:Nat}(h:p k):rD p<=k:=by
 unfold rD;rw[xdW ⟨k,h⟩];exact(xcj (lT ⟨k,h⟩)).2 k h
theorem A6{p:Nat->Prop}(h:∃k,p k):p (rD p):=by
 unfold rD;rw[xdW h];exact(xcj (lT h)).1
theorem ER{c:Code}(J:Nat->Act->World->Prop){k:Nat}(h0:J k a w)
 (round:∀k a w,J k a w->c.wpIn F 0 P (Exit.then (λa' w'=>∃k',k'<k/\J k' a' w') Q) a w):(Code.loop c).wpIn F 0 P Q a w:=by
 refine wpIn_loop (λa w=>∃k,J k a w) (λa w=>rD λk=>J k a w) ⟨k,h0⟩ λa w h=>?_;refine Code.wpIn_mono (λe a' w' hq=>?_) (round _ a w (A6 h));cases e with
 |normal=>
  obtain⟨k',hlt,hj⟩:=hq;exact⟨⟨k',hj⟩,xaA (FJ hj) hlt⟩
 |_=>exact hq
end
end Go.Sx
set_option maxRecDepth 100000
namespace Go.Proofs
open Go Go.Sx Tryz
section
open au
section
variable {es:Array MapEntry} {ck b:Nat} {m:List (Nd×Nat)}
theorem LW(B:Hp):Fc zQ 276 #[.map (some b)] B
  (λv H=>∃bm,v=.func (.func 283) #[] #[ptr bm]/\H=(bm,.cells #[.map (some b)] 105 zZ)::B):=by
 refine aI λg=>GX λb1 _=>?_;exact aN.here ⟨b1,rfl,rfl⟩
noncomputable abbrev VF:Func:=Tryz.f283
def VAt(g:Gh)(bi b:Nat)(l:Nat)(es:Array MapEntry)(ck:Nat)(m:List (Nd×Nat))(G:zL->Hp->Prop)(B:Hp)(k:Nat)(a:Act)(w:World):Prop:=
 ∃(fr:Fr) (ss:zL) (A:Hp) (seen:Array Nat),Ew [] 15 a fr/\fr 0=.func (.yield l) #[] #[]/\fr 6=ptr bi/\G ss A/\Own g (A++((bi,.mapIter (some b) ck seen ck)::B)) w/\
  (ss++(cW es m seen).map Prod.snd).Perm (m.map Prod.snd)/\k=(cW es m seen).length
theorem EV{bm:Nat}{fz:Nat×Nat}(h:aF nK Pe es ck m):Lw zQ 283 #[ptr bm] [(bm,.cells #[.map (some b)] 105 fz),(b,.map es ck)] u32 m.length
  (λss=>ss.Perm (m.map Prod.snd)):=by
 intro g l G hY A W h0 hW;have hF:∀f,Fence.wide.fn f:=λ_=>trivial;refine callsIn_of_wp func283 rfl trivial ?_;have ha:=xl (m:=15) (args:=[.func (.yield l) #[] #[],ptr bm]) zI;refine wpIn_seq ?_;refine wpIn_region_lit ?_;obtain⟨B,hB⟩:∃B,B=[(bm,Obj.cells #[.map (some b)] 105 fz),(b,.map es ck)]:=⟨_,rfl⟩;rw[<-hB]at hW;have xU:(bm,Obj.cells #[.map (some b)] 105 fz)∈A++B:=by rw[hB];exact xac _ (.head _)
 have nj:(b,Obj.map es ck)∈A++B:=by rw[hB];exact xac _ (.tail _ (.head _))
 have hmB:∀{X:Hp},(b,Obj.map es ck)∈X++B:=by intro X;rw[hB];exact xac _ (.tail _ (.head _))
 rw[<-hB];have e0:EB zQ g (gI VF 0 0) (ev (jY [.func (.yield l) #[] #[],ptr bm] 0)) (A++B) (λx=>x=.map (some b))=Ld (A++B) (ptr bm) (λx=>x=.map (some b)):=by kernel_rfl
 refine jR (g:=g) (n:=15) (v0:=.map (some b)) hF rfl zC rfl ha hW (e0.mpr (Ld.mk xU rfl rfl)) λa1 Ge=>?_;refine JY (g:=g) (n:=15) (s:=Instr.range 105 (.map (some b))) (K:=λv H=>∃bi,v=ptr bi/\H=(bi,.mapIter (some b) ck #[] ck)::(A++B)) hF rfl zC rfl Ge rfl
  (Rng.run (.inr ⟨b,es,ck,rfl,nj,λbi _=>⟨bi,rfl,rfl⟩⟩) hW (t:=105) (kt:=144) (e:=78) zK) λv H' w1 a2 hv nJ BT=>?_
 obtain⟨bi,rfl,rfl⟩:=hv;refine wpListIn_nil ?_;have we:Own g (A++((bi,.mapIter (some b) ck #[] ck)::B)) w1:=nJ.perm (xaU).symm;clear nJ Ge ha hW xU nj;refine wpIn_block ?_;refine ER (VAt g bi b l es ck m G B) (k:=(cW es m #[]).length) ⟨_,[],A,#[],BT,rfl,rfl,h0,we,by rw[p5 h];exact .refl _,rfl⟩ ?_;clear BT we h0 e0 A;rintro k a w ⟨fr,ss,A,seen,ha,f0,f6,hG,hw,dK,hk⟩;refine wpIn_seq ?_;refine wpIn_region_lit ?_;have e6:ev fr (.tmp 6)=ptr bi:=f6;refine JY (g:=g) (n:=15) (s:=Instr.next (ptr bi) false 0)
  (K:=λv H=>(cW es m seen=[]/\v=.tuple #[.bool false]/\H=A++((bi,.mapIter (some b) ck seen ck)::B))\/
   ∃(e:MapEntry) (x:Nd×Nat) (seen':Array Nat),v=.tuple #[.bool true,e.key,e.val]/\e.val=u32 x.2/\(cW es m seen).Perm (x::cW es m seen')/\seen'.back?=some e.born/\es.find? (·.born==e.born)=some e/\
    H=A++((bi,.mapIter (some b) ck seen' ck)::B)) hF rfl zC rfl ha ?_
  (Nxt.run (h.next (bi:=bi) (bm:=b) (seen:=seen) (H:=A++((bi,.mapIter (some b) ck seen ck)::B)) (xac _ (.tail _ (by rw[hB];exact .tail _ (.head _)))) (xac _ (.head _))
   (λe x seen' he hk hv hp hb hf=>⟨_,(c8.head _).cr A,.inr ⟨e,x,seen',rfl,hv,hp,hb,hf,rfl⟩⟩) (λhu=>.inl ⟨hu,rfl,rfl⟩)) hw) λv H' w1 a1 hv nJ Ge=>?_
 ·rw[e6.symm];rfl
 rcases hv with⟨hu,rfl,rfl⟩|⟨e,x,seen',rfl,M8,hp,hbk,hfi,rfl⟩
 ·refine jR (g:=g) (n:=15) (v0:=.bool false) hF rfl zC rfl Ge nJ ⟨_,_,rfl,rfl,rfl⟩ λa2 BT=>?_;refine wpListIn_nil ?_;refine wpIn_seq ?_;refine wpIn_cond_false (by rw[BT.eval];rfl) ?_;refine wpIn_exit ?_;simp only[Exit.then,Exit.inBlock,xa7,bodyPost];refine⟨BT.defers,_,results_none rfl _ _ _,⟨_,rfl⟩,ss,A,?_,hG,(nJ.perm xaU).tail⟩;rw[hu,xcl,xaL]at dK;exact dK
 refine jR (g:=g) (n:=15) (v0:=.bool true) hF rfl zC rfl Ge nJ ⟨_,_,rfl,rfl,rfl⟩ λa2 BT=>?_;refine wpListIn_nil ?_;refine wpIn_seq ?_;refine wpIn_cond_true (by rw[BT.eval];rfl) ?_;refine wpIn_skip ?_;refine wpIn_block ?_;refine wpIn_seq ?_;refine wpIn_region_lit ?_;refine JY (g:=g) (n:=15) (s:=Instr.entry (ptr bi)) (K:=λv H=>v=.tuple #[e.key,e.val]/\H=A++((bi,.mapIter (some b) ck seen' ck)::B)) hF rfl zC rfl BT ?_ ?_ λv H' w2 a3 hv we Ng=>?_
 ·rw[e6.symm];rfl
 ·obtain⟨v,hr,hv⟩:=Pc.run (P:=zQ) (k:=λv=>v=.tuple #[e.key,e.val]) ⟨bi,b,ck,seen',e.born,ck,es,e,rfl,xac _ (.head _),hbk,xac _ (.tail _ (by rw[hB];exact .tail _ (.head _))),hfi,rfl⟩ nJ;exact⟨v,w1,_,hr,nJ,hv,rfl⟩
 obtain⟨rfl,rfl⟩:=hv;refine jR (g:=g) (n:=15) (v0:=u32 x.2) hF rfl zC rfl Ng we ⟨_,_,rfl,rfl,M8⟩ λa4 WD=>?_;refine jR (g:=g) (n:=15) (v0:=u32 x.2) hF rfl zC rfl WD we (show u32 x.2=u32 x.2 from rfl) λa5 WC=>?_;refine wpListIn_nil ?_;refine wpIn_seq ?_;refine wpIn_region_lit ?_;refine jR (g:=g) (n:=15) (v0:=.func (.yield l) #[] #[]) hF rfl zC rfl WC we f0 λa6 WB=>?_;refine jR (g:=g) (n:=15) (v0:=u32 x.2) hF rfl zC rfl WB we (show u32 x.2=u32 x.2 from rfl) λa7 ha7=>?_;have hlen:(cW es m seen).length=(cW es m seen').length+1:=by rw[hp.length_eq];rfl
 have hlt:ss.length<m.length:=by
  have:=dK.length_eq;simp only[xaf,xaE]at this⊢;omega
 obtain⟨fn,tmps,assign,body,hy,hR⟩:=hY _ x.2 A _ w2 hG hlt we;refine wpListIn_plain rfl λK hK=>⟨λ_ _=>trivial,?_⟩;rw[Oper.semAt_eq _ _ _ zC,ha7.eval];have hex:∀F7:Fr,F7=bK (bK (bK (bK (bK (bK (bK fr (some 7) (.tuple #[.bool true,e.key,e.val])) (some 8) (.bool true)) (some 9) (.tuple #[e.key,e.val])) (some 10) (u32 x.2)) (some 4) (u32 x.2)) (some 11) (.func (.yield l) #[] #[])) (some 12) (u32 x.2)->(execOp (ev F7) (gI VF 3 2)).run zQ w2=.ok (.round l fn tmps assign body) w2:=λF7 hF7=>by
  have v11:ev F7 (.tmp 11)=.func (.yield l) #[] #[]:=by rw[hF7];rfl
  have v12:ev F7 (.tmp 12)=u32 x.2:=by rw[hF7];rfl
  have e11:execOp (ev F7) (gI VF 3 2)=(do let d <-resolve (ev F7) {callee:=.value (.tmp 11),args:=#[.tmp 12],argTypes:=#[78]} 4;invoke d.target d.args):=rfl;rw[e11];simp[resolve,Deferred.ofValue,v11,v12,invoke,go_sem,hy]
 refine(xck (Oper.uponIn Fence.wide 0 zQ (gI VF 3 2) a7 K _) (hex _ rfl)).mpr ⟨λh=>(by cases h),hR.mono ?_⟩;rintro e' w3 ⟨rfl,A',hG',hw3⟩;refine hK _ _ ?_;have ha8:=ha7.put (d:=some 13) rfl (.bool true);refine jR (g:=g) (n:=15) (v0:=.bool false) hF rfl zC rfl ha8 hw3 ⟨_,rfl,rfl⟩ λa9 ha9=>?_;refine wpListIn_nil ?_;refine wpIn_cond_false (by rw[ha9.eval];rfl) ?_;refine wpIn_skip ?_;refine⟨(cW es m seen').length,by omega,_,ss++[x.2],A',seen',ha9,f0,f6,hG',hw3,?_,rfl⟩;rw[xai];exact((hp.map Prod.snd).append_left ss).symm.trans dK
end
end
section
open au
section
noncomputable abbrev AF:Func:=Tryz.f285
variable {f:FuncId} {cap:Array zV} {B:Hp} {N:Nat} {S:zL->Prop}
noncomputable def dw:Code:=match AF.body with|some (.seq _ (.seq (.seq _ (.block _ (.rangeFunc _ _ c _))) _))=>c|_=>.skip
noncomputable def fQ:Code:=match AF.body with|some (.seq _ (.seq (.seq _ (.block _ (.rangeFunc _ _ _ c))) _))=>c|_=>.skip
noncomputable def Xk(i:Nat):Oper:=match fQ with| .block _ (.region _ ops _)=>(match ops[i]? with|some o=>o|none=>default)|_=>default
def mq(fn:FuncId)(tmps:Array zV)(assign body:Code)(D:Nat):Loop:={state:=.ready,pending:=none,fn,tmps,params:=#[7],assign,body,defers:=D}
def APG(l D bs:Nat)(fn:FuncId)(tmps:Array zV)(assign body:Code)(ss:zL)(A:Hp):Prop:=
 ∃v C',A=(l,.loop (mq fn tmps assign body D))::(D,.deferred (some []))::(bs,.cells #[v] 133 zZ)::C'/\aS 78 .u32 v (iw ss) C'
theorem TE{g:Gh}{l D bs:Nat}{fn:FuncId}{tmps:Array zV}{fr:Fr}(hsz:tmps.size=13)(iB:∀s,tmps.getD s undef=fr s)(f2:fr 2=ptr bs){ss:zL}{x:Nat}{A X:Hp}{W:World}
 (hG:APG l D bs fn tmps dw fQ ss A)(hl:ss.length<1099511627776)(hW:Own g (A++X) W):
  YieldAt Fence.wide 0 zQ l #[u32 x] W (λe W'=>e=.returned (.bool true)/\∃A',APG l D bs fn tmps dw fQ (ss++[x]) A'/\Own g (A'++X) W'):=by
 obtain⟨v,C',rfl,ho⟩:=hG;have hF:∀f,(Fence.wide.inRound l).fn f:=λ_=>trivial;have hL:W.heap[l]? =some (.loop (mq fn tmps dw fQ D)):=hW.has _ (.head _);refine⟨fn,_,dw,fQ,run_yield hL rfl,roundIn_of_wpIn trivial ?_⟩;have ha:Ew [] 13 {tmps:=tmps.setIfInBounds 7 (u32 x),defers:=[]} (bK fr (some 7) (u32 x)):=(Ew.put (a:={tmps:=tmps,defers:=[]}) (d:=some 7) ⟨rfl,hsz,iB⟩ rfl (u32 x));have ha:Ew [] 13 {tmps:=(#[7].zip #[u32 x]).foldl (λtmps (t,a)=>tmps.setIfInBounds t a) tmps,defers:=[]} (bK fr (some 7) (u32 x)):=by simpa using ha
 change Code.wpIn _ 0 zQ (.region _ #[_] false) _ _ _;refine wpIn_region_lit ?_;refine jR (g:=g) (n:=13) (v0:=u32 x) hF rfl zC rfl ha hW rfl λa1 Ge=>?_;refine wpListIn_nil ?_;have hbr:=run_beginRound (P:=zQ) hL rfl;refine⟨_,hbr,?_⟩;have Yk:=hW.putObj (o':=.loop {mq fn tmps dw fQ D with state:=.busy}) (.head _);change Code.wpIn _ 0 zQ (.block _ (.region _ #[_,_,_,_,_] false)) _ _ _;refine wpIn_block ?_;refine wpIn_region_lit ?_;obtain⟨H1,hH1⟩:∃H1,H1=(l,Obj.loop {mq fn tmps dw fQ D with state:=.busy})::(((D,.deferred (some []))::(bs,.cells #[v] 133 zZ)::C')++X):=⟨_,rfl⟩
 replace Yk:Own g H1 (W.putObj l (.loop {mq fn tmps dw fQ D with state:=.busy})):=by rw[hH1];exact Yk
 have e0:EB zQ g (Xk 0) (ev (bK (bK fr (some 7) (u32 x)) (some 5) (u32 x))) H1 (λz=>z=v)=Ld H1 (fr 2) (λz=>z=v):=by kernel_rfl
 refine jR (g:=g) (n:=13) (v0:=v) hF rfl zC rfl Ge Yk (e0.mpr (by rw[f2];exact Ld.mk (by rw[hH1];exact .tail _ (.tail _ (.head _))) rfl rfl)) λa2 BT=>?_;refine jR (g:=g) (n:=13) (v0:=u32 x) hF rfl zC rfl BT Yk rfl λa3 Ng=>?_;have eb:∀K:zV->Hp->Prop,ax zQ 133 1 [(0,.int .u32 (x:Int))] H1 K=Ue zQ g (Xk 2) (ev (bK (bK (bK (bK fr (some 7) (u32 x)) (some 5) (u32 x)) (some 8) v) (some 9) (u32 x))) H1 K (λ_ _=>False):=λK=>by kernel_rfl
 refine P9 (g:=g) (n:=13) (s:=_) (K:=λv H=>∃b,v=.slice (some ⟨b,0,none⟩) 1 1/\H=(b,.cells (aA .u32 [(x:Int)]) 78 zZ)::H1) hF rfl zC rfl Ng Yk rfl
  ((eb _).mp (ax.int zK zK zK λb=>⟨b,rfl,rfl⟩)) λv1 H2 w2 a4 hv hW2 WD=>?_
 obtain⟨b,rfl,rfl⟩:=hv;have hn:(iw ss).length=ss.length:=aq ss;obtain⟨H2,hH2⟩:∃H2,H2=(b,Obj.cells (aA .u32 [(x:Int)]) 78 zZ)::H1:=⟨_,rfl⟩;rw[<-hH2]at hW2;refine P9 (g:=g) (n:=13) (s:=_) (K:=λv' H=>∃C2,aS 78 .u32 v' (iw (ss++[x])) C2/\H=(b,Obj.cells (aA .u32 [(x:Int)]) 78 zZ)::(l,Obj.loop {mq fn tmps dw fQ D with state:=.busy})::(D,.deferred (some []))::(bs,.cells #[v] 133 zZ)::(C2++X))
  hF rfl zC rfl WD hW2 (by simp only[execOp,resolve,invoke,builtin];simp[bind,Sem.bind];rfl) ?_ λv2 H3 w3 a5 hv WE WC=>?_
 ·have e1:∀K:zV->Hp->Prop,App zQ 78 1 4 (.int .u32 0) H2 v (.slice (some ⟨b,0,none⟩) 1 1) K=
   Ue zQ g (Xk 3) (ev (bK (bK (bK (bK (bK fr (some 7) (u32 x)) (some 5) (u32 x)) (some 8) v) (some 9) (u32 x)) (some 10) (.slice (some ⟨b,0,none⟩) 1 1))) H2 K (λ_ _=>False):=λK=>by kernel_rfl
  refine(e1 _).mp ?_;rw[hH2,hH1];refine ho.rZ (.cons (.cons (.cons (.cons .left)))) (by exact .head _) zO zO λv' C2 yb=>⟨C2,?_,rfl⟩;rw[cC];exact yb
 obtain⟨C2,yb,rfl⟩:=hv;have es:∀(H:Hp) (K:zV->Hp->Prop),St 1 H (fr 2) v2 (λH'=>K undef H')=Ue zQ g (Xk 4) (ev (bK (bK (bK (bK (bK (bK fr (some 7) (u32 x)) (some 5) (u32 x)) (some 8) v) (some 9) (u32 x)) (some 10) (.slice (some ⟨b,0,none⟩) 1 1)) (some 11) v2)) H K (λ_ _=>False):=λH K=>by kernel_rfl
 refine abN (g:=g) (n:=13) (s:=_) (K:=λ_ H=>H=(b,Obj.cells (aA .u32 [(x:Int)]) 78 zZ)::(l,Obj.loop {mq fn tmps dw fQ D with state:=.busy})::(D,.deferred (some []))::(bs,.cells #[v2] 133 zZ)::(C2++X))
  hF rfl zC rfl WC WE rfl ((es _ _).mp ?_) λH4 w4 a6 hv hW4 WB=>?_
 ·rw[f2];exact St.one (.tail (.tail (.tail (.head _)))) yb.one zI rfl rfl
 subst hv;refine wpListIn_nil ?_;simp only[Exit.inBlock,roundPost];refine⟨_,_,run_endRound none (hW4.has _ (.tail _ (.head _))),rfl,_,⟨v2,C2,rfl,yb⟩,?_⟩;exact(hW4.putObj (.tail (.head _))).tail
theorem NV(hg:Lw zQ f cap B u32 N S)(hc:aU zQ f=true)(hN:N<=1099511627776):
  Fc zQ 285 #[.slice none 0 0,.func (.func f) #[] cap] B (λv H=>∃ss C',S ss/\H=C'++B/\aS 78 .u32 v (iw ss) C'):=by
 intro g w hw;rw[<-callsIn_wide (n:=0)];have hF:∀f,Fence.wide.fn f:=λ_=>trivial;refine callsIn_of_wp_marks func285 rfl trivial ?_;have ha:=xl (m:=13) (args:=[.slice none 0 0,.func (.func f) #[] cap]) zI;refine wpIn_seq ?_;refine wpIn_region_lit ?_;refine P9 (g:=g) (n:=13) (s:=_) (K:=λv H=>∃bs,v=ptr bs/\H=(bs,.cells #[.slice none 0 0] 133 zZ)::B) hF rfl zC rfl ha hw rfl (λbs _=>⟨bs,rfl,rfl⟩) λv H1 w1 a1 hv nJ Ge=>?_;obtain⟨bs,rfl,rfl⟩:=hv;refine jR (g:=g) (n:=13) (v0:=.slice none 0 0) hF rfl zC rfl Ge nJ rfl λa2 BT=>?_;refine wpListIn_nil ?_;refine wpIn_seq ?_;refine wpIn_seq ?_;refine wpIn_region_lit ?_;refine jR (g:=g) (n:=13) (v0:=.func (.func f) #[] cap) hF rfl zC rfl BT nJ rfl λa3 Ng=>?_;refine wpListIn_nil ?_;refine wpIn_block ?_;refine wpIn_rangeFunc λfn hfn=>?_;have Dy:=(nJ.alloc (.deferred (some []))).alloc (.loop (mq fn a3.tmps dw fQ w1.heap.size));have f6:a3.tmps[6]?.getD undef=.func (.func f) #[] cap:=by have:=Ng.get 6;rw[xas]at this;exact this
 obtain⟨W1,Yk⟩:∃W1,W1=(w1.alloc (.deferred (some []))).alloc (.loop (mq fn a3.tmps dw fQ w1.heap.size)):=⟨_,rfl⟩;rw[<-Yk]at Dy;refine⟨w1.heap.size+1,[{target:=.collected w1.heap.size,args:=#[]}],W1,{target:=.fn (.func f) cap,args:=#[.func (.yield (w1.heap.size+1)) #[] #[]]},W1,f,#[.func (.yield (w1.heap.size+1)) #[] #[]]++cap,W1,?_,?_,λ_ _=>trivial,?_,λh=>(by cases h),?_⟩
 ·rw[Yk];exact run_enterLoop_outer fn a3.tmps #[7] _ _
 ·simp[resolve,Deferred.ofValue,f6,go_sem]
 ·simp[invoke,go_sem];exact fH hc _ _
 have hsz:(w1.alloc (.deferred (some []))).heap.size=w1.heap.size+1:=by simp
 rw[hsz]at Dy;refine CallsIn.mono (hg g (w1.heap.size+1) (APG (w1.heap.size+1) w1.heap.size bs fn a3.tmps dw fQ) (λss x A X W hG hl hW=>TE Ng.size Ng.get rfl hG zO hW) [_,_,_] W1 ⟨_,[],rfl,aS.nil⟩ Dy) ?_;rintro e W2 ⟨⟨v0,rfl⟩,ss,A',hS,⟨v,C',rfl,ho⟩,hW2⟩;refine⟨none,_,run_endLoop (hW2.has _ (.head _)) (by simp[mq]),?_⟩;have WE:=hW2.putObj (o':=.loop {mq fn a3.tmps dw fQ w1.heap.size with state:=.exhausted}) (.head _);simp only[Exit.then,Exit.inBlock];have WD:Ew [{target:=.collected w1.heap.size,args:=#[]}] 13 {a3 with defers:=[{target:=.collected w1.heap.size,args:=#[]}]++a3.defers} (bK (bK (bK (jY [.slice none 0 0,.func (.func f) #[] cap] 0) (some 2) (ptr bs)) (some 4) (.slice none 0 0)) (some 6) (.func (.func f) #[] cap)):=
  ⟨by rw[Ng.defers];rfl,Ng.size,Ng.get⟩
 refine wpIn_seq ?_;refine wpIn_region_lit ?_;obtain⟨H3,hH3⟩:∃H3,H3=(w1.heap.size+1,Obj.loop {mq fn a3.tmps dw fQ w1.heap.size with state:=.exhausted})::(((w1.heap.size,.deferred (some []))::(bs,.cells #[v] 133 zZ)::C')++B):=⟨_,rfl⟩
 replace WE:Own g H3 (W2.putObj (w1.heap.size+1) (.loop {mq fn a3.tmps dw fQ w1.heap.size with state:=.exhausted})):=by rw[hH3];exact WE
 have e0:EB zQ g (gI AF 4 0) (ev (bK (bK (bK (jY [.slice none 0 0,.func (.func f) #[] cap] 0) (some 2) (ptr bs)) (some 4) (.slice none 0 0)) (some 6) (.func (.func f) #[] cap))) H3 (λz=>z=v)=Ld H3 (ptr bs) (λz=>z=v):=by kernel_rfl
 refine jR (g:=g) (n:=13) (v0:=v) hF rfl zC rfl WD WE (e0.mpr (Ld.mk (by rw[hH3];exact .tail _ (.tail _ (.head _))) rfl rfl)) λa5 WC=>?_;refine jR (g:=g) (n:=13) (v0:=v) hF rfl zC rfl WC WE rfl λa6 WB=>?_;refine wpListIn_nil ?_;refine wpIn_ret ?_;simp only[Exit.then,bodyPostM];rw[WB.defers];rw[hH3]at WE;refine⟨by simp,.inl ⟨w1.heap.size,_,rfl,run_takeDeferred (WE.has _ (.tail _ (.head _))),?_⟩⟩;have hW4:=WE.putObj (o':=.deferred none) (.tail (.head _));refine⟨_,results_tmp rfl _ _ _,C'++B,hW4.tail.tail.tail,v,C'++B,?_,.refl _,ss,C',hS,rfl,ho⟩;have:=WB.get 4;rw[this];rfl
end
section
variable {f:FuncId} {cap:Array zV} {B:Hp} {N:Nat} {S:zL->Prop}
theorem Gs(hg:Lw zQ f cap B u32 N S)(hc:aU zQ f=true)(hN:N<=1099511627776):
  Fc zQ 281 #[.func (.func f) #[] cap] B (λv H=>∃ss C',S ss/\H=C'++B/\aS 78 .u32 v (iw ss) C'):=by
 refine aI λg=>GR (aa.fq (NV hg hc hN) ?_);rintro v H h;exact aN.here h
theorem Mc(hg:Lw zQ f cap B u32 N S)(hS:∀ss,S ss->ss.length<=N)(hc:aU zQ f=true)(hN:N<=1099511627776):
  Fc zQ 275 #[.func (.func f) #[] cap] B (λv H=>∃ss l C',S ss/\l.Perm ss/\H=C'++B/\aS 78 .u32 v (iw l) C'):=by
 refine aI λg=>GY (aa.fq (Gs hg hc hN) ?_);rintro v H ⟨ss,C',hs,rfl,ho⟩;have hlen:=hS ss hs;refine aa.fn (.left (A:=B)) (U8 ho (by rw[aq];omega)) ?_;rintro w C2 ⟨rfl,cz⟩;rw[U6]at cz;exact aN.here ⟨ss,_,C2,hs,yI ss,rfl,cz⟩
end
theorem Vl{pt n v:Nat}{T:Nd->Option Nat}{C:Hp}(h:oD pt n T C)(hv:v<n)(hinj:∀d d' r,T d=some r->T d'=some r->d=d')(hb:∀d r,T d=some r->r<1048576):
  Fc zQ 259 #[ptr pt,iv (v:Int)] C (λr H=>∃w l N,r=.tuple #[w,iv 0]/\H=N++C/\aS 78 .u32 w (iw l) N/\l.Nodup/\∀r,r∈l↔∃d,T d=some r/\d.v=v):=by
 have h0:=h;obtain⟨vs,Cs,ms,rfl,hs,ho⟩:=h;obtain⟨m,hm⟩:∃m,ms[v]? =some m:=⟨_,xaa (by rw[ho.len];exact hv)⟩;have he:=ho.dN v m hm;have hT:∀d:Nd,d.v=v->T d=aG m.l d:=λd hd=>by rw[ho.T,hd,hm];rfl
 have hmem:∀d r,(d,r)∈m.l↔T d=some r/\d.v=v:=λd r=>by
  constructor
  ·intro hx;have hd:=ho.var v m hm _ hx;exact⟨by rw[hT d hd];exact(dW he.nd).2 hx,hd⟩
  rintro⟨h1,h2⟩;rw[hT d h2]at h1;exact(dW he.nd).1 h1
 have fD:(m.l.map Prod.snd).Nodup:=by
  refine xbJ.2 ((xbJ.1 he.nd).imp_of_mem λ{a b} ha hb' hne e=>hne ?_);have h1:=((hmem a.1 a.2).1 ha).1;have h2:=((hmem b.1 b.2).1 hb').1;rw[<-e]at h2;exact hinj _ _ _ h1 h2
 have hlen:m.l.length<=1048576:=by
  have:=cu (l':=List.range 1048576) fD λx hx=>by
   obtain⟨y,hy,rfl⟩:=xan.1 hx;exact xaM.2 (hb _ _ ((hmem y.1 y.2).1 hy).1)
  simpa using this
 refine aI λg=>Ho (aa.eq (lg h0 hv) (ae.cD (Br.F (Nil.ptr ?_))));refine ai.mk (Ld.mk zM rfl ?_);refine hs.XR (x:=.map (some m.b)) (by rw[xat,hm];rfl) (λ_ h=>by exact .tail _ (xae _ h)) ?_;refine aa.fq (LW (b:=m.b) _) ?_;rintro w H ⟨bm,rfl,rfl⟩;obtain⟨X,Y,hXY⟩:=xdd (rz hm);have dK:((bm,Obj.cells #[.map (some m.b)] 105 zZ)::(pt,.cells #[vs] 104 zZ)::(Cs++ML ms)).Perm
   ([(bm,.cells #[.map (some m.b)] 105 zZ),(m.b,.map m.es m.ck)]++((pt,.cells #[vs] 104 zZ)::(Cs++(X++Y)))):=by
  rw[hXY];refine .cons _ ?_;show((pt,_)::(Cs++(X++(m.b,_)::Y))).Perm ((m.b,_)::(pt,_)::(Cs++(X++Y)));refine .trans (.cons _ ?_) (.swap _ _ _);rw[<-xai,<-xai];exact xaU
 refine aa.pre (.perm dK) ?_;refine aa.fq (Mc (EV he) (λss hss=>by rw[hss.length_eq,xaE];exact xaj _) zK zO) ?_;rintro w H ⟨ss,l,C',hss,hl,rfl,hown⟩;have qP:l.Perm (m.l.map Prod.snd):=hl.trans hss;refine aN.mk (nH:=C'++((pt,.cells #[vs] 104 zZ)::(Cs++ML ms))) ?_ ⟨w,l,C',rfl,rfl,hown,qP.nodup_iff.2 fD,λr=>?_⟩
 ·rw[xai];refine aM.de ?_ C';exact(aM.perm dK.symm).trans .tail
 rw[qP.mem_iff,xan];constructor
 ·rintro⟨y,hy,rfl⟩;exact⟨y.1,(hmem y.1 y.2).1 hy⟩
 rintro⟨d,hd⟩;exact⟨(d,r),(hmem d r).2 hd,rfl⟩
end
end Go.Proofs
namespace Go.Sx
open Go
section
variable {P:Program} {g:Gh} {H:Hp} {κ β:Type} [DecidableEq κ] {ke:κ->zV} {vr:zV->β->Prop} {es:Array MapEntry} {ck b:Nat} {m:List (κ×β)} {K:zV->Hp->Prop} {KP:List PanicEntry->Hp->Prop}
omit [DecidableEq κ] in
theorem aF.sameKey(h:aF ke vr es ck m){i:Nat}{k:κ}{x:β}(hi:m[i]? =some (k,x)):es.modify i (λe=>{e with key:=ke k})=es:=by
 apply Array.ext_getElem?;intro j;rw[xbY];split
 ·rename_i e;subst e;cases he:es[i]? with
  |none=>rfl
  |some e0=>rw[xch,<-(h.key i e0 _ he hi).1]
 ·rfl
theorem aF.W7{o:Oper}{ρ:Operand->zV}{t kt e:TypeId}{kd:TypeDesc}{mo ko:Operand}{z:zV}{k:κ}{y0:β}(hk:∀a b,BI P kt (ke a) (ke b) (decide (a=b)))(hc:∀a,mw P kt (ke a))(hb:∀a,Instr.sameBits 10000 (ke a) (ke a)=true)
 (ho:o.op=.mapEntry t mo ko)(hm':ρ mo=.map (some b))(hk':ρ ko=ke k)(ht:P.underlying t=some (.map kt e))(DC:P.underlying kt=some kd)(adq:cP kd=true)(hzd:fJ P e=some z)(hvz:vr z y0)
 (h:aF ke vr es ck m){c:Obj->Hp}(Sb:∀o o',c8 b o o' (c o) (c o'))
 (h1:∀es' bB v st,aF ke vr es' bB (if k∈m.map Prod.fst then m else m++[(k,y0)])->(∃e∈es'.toList,e.born=st)->K (.tuple #[v,.int .i64 (st:Int)]) (c (.map es' bB))):oI P g o ρ (c (.map es ck)) K KP:=by
 have yc:(b,Obj.map es ck)∈c (.map es ck):=(Sb _ (.map es ck)).mem;obtain⟨i,hi,yd⟩:=cH hzd;refine oI.ofValue (s:=Instr.mapEntry t (.map (some b)) (ke k)) (by simp only[execOp,ho,hm',hk']) λw hw=>?_;have fE:=λb=>hc k b w;rcases h.DU hk k with⟨j,x,e0,g1,g2,g3,g4⟩|⟨g1,g2⟩
 ·have pD:=gM (P:=P) DC adq g4 w;have hj:=(xaS.1 g1).1;have hkey:es[j].key=ke k:=(h.key j _ _ (xbA hj) g2).1;have hmem:k∈m.map Prod.fst:=xan.2 ⟨_,xav g2,rfl⟩;obtain⟨w',hs,hown⟩:=bW (P:=P) hw (es.modify j λe=>{e with key:=ke k}) ck (by rw[h.sameKey g2];exact Sb _ (.map es ck));refine⟨.tuple #[e0.val,.int .i64 (es[j].born:Int)],w',_,?_,hown,h1 es ck e0.val es[j].born (by rw[xad hmem];exact h) ⟨es[j],by simp,rfl⟩⟩;simp[Instr.mapEntry,run_underlying ht,aY hw yc,fE,pD,hj,Instr.keyThatStays,hkey,hb k,hs,goInt]
 have pD:=gM (P:=P) DC adq g2 w;obtain⟨w',hs,hown⟩:=bW (P:=P) hw (es.push {key:=ke k,val:=z,born:=ck}) (ck+1) (Sb _ _);have nj:=h.more (k:=k) g1 hvz;have e2:eo m k y0=m++[(k,y0)]:=by unfold eo;rw[xab g1]
 rw[e2]at nj;refine⟨.tuple #[z,.int .i64 (ck:Int)],w',_,?_,hown,h1 _ _ z ck (by rw[xab g1];exact nj) ⟨_,by rw[xeh];exact xac _ (.head _),rfl⟩⟩;simp[Instr.mapEntry,run_underlying ht,aY hw yc,fE,pD,dU hi yd,hs,goInt]
omit [DecidableEq κ] in
theorem aF.UZ{o:Oper}{ρ:Operand->zV}{t:TypeId}{mo so xo:Operand}{st:Nat}(ho:o.op=.entryStore t mo so xo)(hm':ρ mo=.map (some b))(hs':ρ so=.int .i64 (st:Int))
 (h:aF ke vr es ck m)(hst:∃e∈es.toList,e.born=st)(hv:∀x,vr (ρ xo) x){c:Obj->Hp}(Sb:∀o o',c8 b o o' (c o) (c o'))
 (h1:∀es',aF ke vr es' ck m->K undef (c (.map es' ck))):oI P g o ρ (c (.map es ck)) K KP:=by
 have yc:(b,Obj.map es ck)∈c (.map es ck):=(Sb _ (.map es ck)).mem;refine oI.sG (s:=Instr.entryStore t (.map (some b)) (.int .i64 (st:Int)) (ρ xo)) (by simp only[execOp,ho,hm',hs']) λw hw=>?_;obtain⟨i,hi⟩:∃i,es.findIdx? (λe=>(e.born:Int)==(st:Int))=some i:=by
  obtain⟨e,he,rfl⟩:=hst;rw[<-xdF,Array.findIdx?_isSome];rw[Array.any_eq_true'];exact⟨e,by simpa using he,by simp⟩
 obtain⟨w',hs,hown⟩:=bW (P:=P) hw (es.modify i λe=>{e with val:=ρ xo}) ck (Sb _ _);have hbn:((es.modify i λe=>{e with val:=ρ xo}).toList.map MapEntry.born)=es.toList.map MapEntry.born:=by
  apply xbd;intro j;simp only[xat,xbc,xbY];split
  ·cases es[j]? <;>rfl
  rfl
 refine⟨w',_,?_,hown,h1 _ ⟨by simp[h.len],λj e x he hx=>?_,h.nd,by rw[hbn];exact h.born,λe he=>?_⟩⟩
 ·simp only[Instr.entryStore,Sem.run_bind,aY hw yc,Result.andThen_ok,asInt,asIntOf,Sem.run_pure];simp only[hi,hs]
 ·rw[xbY]at he;split at he
  ·cases h0:es[j]? with
   |none=>rw[h0]at he;simp at he
   |some e0=>
    rw[h0]at he;simp only[xch,xar]at he;subst he;exact⟨(h.key j _ _ h0 hx).1,hv _⟩
  exact h.key j _ _ he hx
 have:e.born∈(es.modify i λe=>{e with val:=ρ xo}).toList.map MapEntry.born:=xaT he;rw[hbn]at this;obtain⟨e0,h1,h2⟩:=xan.1 this;rw[<-h2];exact h.lt e0 h1
end
theorem bH.out{C H:Hp}{c:Hp->Hp}(h:bH C H c)(N:Hp):aM (c (N++C)) (N++H):=by
 obtain⟨e,F,hp⟩:=h.spec;refine .perm ((hp (N++C)).trans ?_);rw[xai];refine xbZ N ?_;have:=hp C;rw[<-e]at this;exact this.symm
end Go.Sx
set_option maxRecDepth 100000
namespace Go.Proofs
open Go Go.Sx Tryz
section
open au
section
variable {kp:Nat} {K:Kd} {ord ah tr:zL} {C:Hp} {S:Nat->au.Fn}
def BM(N:eE)(r:Nat):Int:=match N r with|some d=>(d.v:Int)|none=> -1
theorem DH{N:eE}{r:Nat}(hl:live N r)(h2:∀d,N r=some d->2<=r):∃lo hi,got N r=[iv (BM N r),u32 lo,u32 hi]/\∀e,N r=some e->lo=e.lo/\hi=e.hi:=by
 cases h:N r with
 |some d=>
  refine⟨d.lo,d.hi,?_,λe he=>by cases he;exact⟨rfl,rfl⟩⟩;rw[dZ h (h2 d h)];simp[bt,BM,h]
 |none=>
  have hr:r<2:=by
   rcases hl with hl|⟨d,hd⟩
   ·exact hl
   rw[h]at hd;cases hd
  refine⟨r,r,?_,λe he=>by cases he⟩;rw[fG hr];simp[BM,h]
theorem CI(h:cR kp K ord ah tr C){r:Nat}(hr:r<4294967296)(hl:live K.N r)(h2:∀d,K.N r=some d->2<=r)(y:Nat):
  Rd zQ 260 #[ptr kp,u32 r,iv (y:Int)] C (· =.tuple #[u32 (pl K.N y r),u32 (ph K.N y r)]):=by
 have h0:=h;obtain⟨b,rfl,hO⟩:=h;obtain⟨lo,hi,hg,he⟩:=DH hl h2;refine aI λg=>Hl (Nil.ptr (ai.mk (aa.eq (n6 h0 hr) ?_)));intro b5 _;refine St.whole (r:=got K.N r) (by exact .head _) rfl (aP _ _).1 (aP _ _).2 ?_;rw[hg];refine Ld.f ?_;refine ae.gJ (Br.dec (λe=>?_) (λe=>?_))
 ·refine Ld.f ?_;refine Ld.f ?_;cases hN:K.N r with
  |none=>simp[BM,hN]at e<;>omega
  |some d=>
   obtain⟨rfl,rfl⟩:=he d hN;have hv:d.v=y:=by simp[BM,hN]at e;omega
   obtain⟨e1,e2⟩:=Vs hN hv;exact bc.mk .tail (by rw[e1,e2];rfl)
 obtain⟨e1,e2⟩:=Vt (N:=K.N) (y:=y) (r:=r) λd hd=>by simp[BM,hd]at e<;>omega
 exact bc.mk .tail (by rw[e1,e2])
def my(c:Cx):List zV:=[u32 c.r,iv (c.d.v:Int),u32 c.d.lo,u32 c.d.hi,u32 c.ym,u32 c.yl,u32 c.ud,u32 c.uc]
theorem mg(c:Cx):∀x∈my c,x.oneCell'=true:=by intro x hx;simp[my,u32]at hx;rcases hx with rfl|rfl|rfl|rfl|rfl|rfl|rfl|rfl<;>rfl
structure yw(N:eE)(x y:Nat)(l:zL)(all:List Cx):Prop where
 nd:(all.map Cx.r).Nodup
 mem:∀c,c∈all↔c.r∈l/\m5 N x y c.r c.d/\c=ot N y c.r c.d
theorem yw.skip{N:eE}{x y r:Nat}{l:zL}{all:List Cx}{d:Nd}(h:yw N x y l all)(hd:N r=some d)(hn:¬m5 N x y r d):yw N x y (l++[r]) all where
 nd:=h.nd
 mem:=λc=>by
  rw[h.mem,xao];constructor
  ·rintro⟨h1,h2⟩;exact⟨.inl h1,h2⟩
  rintro⟨h1|h1,h2,h3⟩
  ·exact⟨h1,h2,h3⟩
  simp at h1;have:=h2.1;rw[h1,hd]at this;cases this;rw[h1]at h2;exact absurd h2 hn
theorem yw.more{N:eE}{x y r:Nat}{l:zL}{all:List Cx}{d:Nd}(h:yw N x y l all)(hr:r∉l)(hn:m5 N x y r d):yw N x y (l++[r]) (all++[ot N y r d]) where
 nd:=by
  rw[xaB];refine xa3.2 ⟨h.nd,by simp,λa ha b hb e=>?_⟩;simp[ot]at hb;subst e;obtain⟨c,hc,rfl⟩:=xan.1 ha;exact hr (hb▸((h.mem c).1 hc).1)
 mem:=λc=>by
  rw[xao,h.mem,xao,xaw,xaw];constructor
  ·rintro(⟨h1,h2⟩|rfl)
   ·exact⟨.inl h1,h2⟩
   exact⟨.inr rfl,hn,rfl⟩
  rintro⟨h1|h1,h2,h3⟩
  ·exact .inl ⟨h1,h2,h3⟩
  right;have h4:=h2.1;rw[h1,hn.1]at h4;cases h4;exact h3.trans (by rw[h1])
theorem yw.all{N:eE}{x y:Nat}{l:zL}{all:List Cx}(h:yw N x y l all)(hl:∀r d,N r=some d->d.v=x->r∈l):LA N x y all where
 nd:=h.nd
 mem:=λc=>by
  rw[h.mem];exact⟨λh=>h.2,λh=>⟨hl _ _ h.1.1 h.1.2.1,h⟩⟩
theorem A1(h:cR kp K ord ah tr C){r:Nat}(hl:live K.N r)(h2:∀d,K.N r=some d->2<=r){H:Hp}{c:Hp->Hp}(hh:bH C H c){g:Gh}{Q:zV->Hp->Prop}{KP:List PanicEntry->Hp->Prop}
 (hk:∀lo hi,got K.N r=[iv (BM K.N r),u32 lo,u32 hi]->(∀e,K.N r=some e->lo=e.lo/\hi=e.hi)->Q (.agg #[iv (BM K.N r),u32 lo,u32 hi]) H):aa zQ g 190 #[ptr kp,u32 r] H Q KP:=by
 have hr:=h.lt hl;obtain⟨lo,hi,hg,he⟩:=DH hl h2;refine aa.eh hh (n6 h zO) ?_;have:=hk lo hi hg he;rw[hg];exact this
theorem Bt(h:cR kp K ord ah tr C)(hok:Ok K S (lv ah)){x y:Nat}(hx:x<K.n):
  Fc zQ 200 #[ptr kp,iv (x:Int),iv (y:Int)] C (λr H=>∃all Na,H=Na++C/\aV 272 8 r (all.map my) Na/\LA K.N x y all/\all.length<=1048576):=by
 have hcap:=h.cap;have h0:=h;obtain⟨b,hC,hO⟩:=h;have Wh:∀d r,K.T d=some r↔K.N r=some d:=λd r=>by rw[hok.mid.kf];exact⟨λh=>h.1,λh=>⟨h,λx=>x⟩⟩
 have two:∀{r d},K.N r=some d->2<=r:=λhd=>(hok.mid.two hd).1;refine aI λg=>Ik ?_;rw[hC];refine Nil.ptr (ai.mk (ai.mk (Ld.q ?_)));refine aa.fq (Vl hO.ut hx (λd d' r h1 h2=>by rw[Wh]at h1 h2;rw[h1]at h2;cases h2;rfl) (λd r h1=>by have:=(hok.mid.two ((Wh d r).1 h1)).2;omega)) ?_;rintro w H ⟨sl,l,Nr,rfl,rfl,X3,fD,hmem⟩;refine Ext.two (X3.bV ?_);rw[aq];have hl:∀r∈l,∃d,K.N r=some d/\d.v=x:=λr hr=>by obtain⟨d,h1,h2⟩:=(hmem r).1 hr;exact⟨d,(Wh d r).1 h1,h2⟩
 have hlen:l.length<=1048576:=by
  have:=cu (l':=List.range 1048576) fD λr hr=>by
   obtain⟨d,hd,_⟩:=hl r hr;have:=(hok.mid.two hd).2;exact xaM.2 zO
  simpa using this
 refine⟨λvs H=>∃(v:zV) (i:Nat) (all:List Cx) (Na:Hp),vs=[v,iv (i:Int)]/\H=Na++(Nr++C)/\i<=l.length/\aV 272 8 v (all.map my) Na/\yw K.N x y (l.take i) all/\all.length<=i,
  λvs _=>l.length-bN vs 1,JE.of (bH.out (C:=b.CT) (.cons (.app .left)) Nr) ⟨_,0,[],[],rfl,by rw[hC];rfl,xaN _,aV.nil _ _,⟨by simp,by simp⟩,xaj _⟩,?_⟩
 rintro w w' H ⟨v,i,all,Na,hw,rfl,hi,ho,BR,Ps⟩ gs;simp only[xau,xa1]at hw;obtain⟨rfl,rfl⟩:=hw;refine ae.fC (Br.dec (λhlt=>?_) (λhge=>?_));rotate_left
 ·have:i=l.length:=by omega
  subst this;rw[xbj]at BR;refine aN.mk (nH:=Na++C) ?_ ⟨all,Na,by rw[hC],ho,BR.all λr d hd hv=>(hmem r).2 ⟨d,(Wh d r).2 hd,hv⟩,by omega⟩;exact aM.de .right Na
 obtain⟨r,EE⟩:∃r,l[i]? =some r:=⟨_,xaa hlt⟩;have nB:l.take (i+1)=l.take i++[r]:=by rw[xbo,EE];rfl
 have hrn:r∉l.take i:=λhm=>by
  have:(l.take (i+1)).Nodup:=fD.sublist (xdN _ _);rw[nB]at this;exact(xa3.1 this).2.2 r hm r zI rfl
 obtain⟨d,hd,kA⟩:=hl r (xav EE);have Z5:=hok.mid.lo hd;have Z6:=hok.mid.hi hd;intro J17 Gg;have next:∀v' TP Na',aV 272 8 v' (TP.map my) Na'->yw K.N x y (l.take (i+1)) TP->TP.length<=i+1->J17 [v'] (Na'++(Nr++C)):=λv' TP Na' h1 h2 h3=>
  Gg _ _ λgs=>ae.inc (aC.mk ⟨v',i+1,TP,Na',rfl,rfl,by omega,h1,h2,h3⟩ (by simp[bN];omega))
 refine X3.ld (x:=(r:Int)) (dg EE) (λy hy=>xac _ (xae _ hy)) (Nil.ptr (ai.mk (A1 h0 (.inr ⟨d,hd⟩) (λ_ h=>two h) (.app (.app .here)) λlo hi hg he=>?_)));obtain⟨rfl,rfl⟩:=he d hd;have hvr:BM K.N r=(x:Int):=by simp[BM,hd,kA]
 rw[hvr];intro b28 _;refine St.p (by intro z hz;simp[u32]at hz;rcases hz with rfl|rfl|rfl<;>rfl) ?_;obtain⟨H0,WO⟩:∃H0,H0=(b28,Obj.cells #[iv (x:Int),u32 d.lo,u32 d.hi] 144 zZ)::(Na++(Nr++C)):=⟨_,rfl⟩;have hEq:((b28,Obj.cells [Value.int .i64 (x:Int),u32 d.lo,u32 d.hi].toArray 144 zZ)::(Na++(Nr++C)))=H0:=WO.symm;rw[hEq];intro J31 SA;have skip:¬m5 K.N x y r d->J31 [.bool true] H0:=λhn=>SA _ _ λgs=>Br.yes (JE.of (by rw[WO];exact .tail) (next w all Na ho (by rw[nB];exact BR.skip hd hn) zO));have take:m5 K.N x y r d->J31 [.bool false] H0:=λhn=>by
  refine SA _ _ λgs=>Br.no ?_;rw[WO];refine az.q ?_;refine Build.mk (cs:=my ⟨r,⟨x,d.lo,d.hi⟩,0,0,0,0⟩) zK λb37 _=>?_;refine St.p (mg _) ?_;refine Ld.f ?_;refine aa.eq (CI h0 (by have:=h0.lt Z5;omega) Z5 (λ_ h=>two h) y) (Ext.two (ai.mk (St.one (by exact .head _) rfl (by simp[my]) rfl ?_)));refine ai.mk (St.one (by exact .head _) rfl (by simp[my]) rfl ?_);refine Ld.f ?_;refine aa.eq (CI h0 (by have:=h0.lt Z6;omega) Z6 (λ_ h=>two h) y) (Ext.two (ai.mk (St.one (by exact .head _) rfl (by simp[my]) rfl ?_)));refine ai.mk (St.one (by exact .head _) rfl (by simp[my]) rfl ?_);have dP:d=⟨x,d.lo,d.hi⟩:=by cases d;simp at kA;subst kA;rfl
  have hcell:my (ot K.N y r d)=[u32 r,iv (x:Int),u32 d.lo,u32 d.hi,u32 (pl K.N y d.lo),u32 (ph K.N y d.lo),u32 (pl K.N y d.hi),u32 (ph K.N y d.hi)]:=by
   simp[my,ot,kA]
  refine az.whole (r:=my (ot K.N y r d)) (by rw[hcell];exact .head _) rfl ?_;refine ax.one (e:=272) (z:=.agg #[.int .u32 0,iv 0,.int .u32 0,.int .u32 0,.int .u32 0,.int .u32 0,.int .u32 0,.int .u32 0]) (k:=8) (r:=my (ot K.N y r d)) zK zK zK zD rfl λxb=>?_;refine ho.rZ (.cons (.cons (.cons .left))) (by exact .head _) rfl (mg _) ⟨_,rfl,rfl⟩ zP zP λv' Na' cz=>?_;refine JE.of (.skip (.skip .tail)) (next v' (all++[ot K.N y r d]) Na' (by rw[xaB];exact cz) (by rw[nB];exact BR.more hrn hn) zP)
 refine DR.of (R:=[(b28,Obj.cells #[iv (x:Int),u32 d.lo,u32 d.hi] 144 zZ)]) (by rw[WO];exact .left (A:=[_])) (Nil.ptr (ai.mk (Ld.f ?_)));have heR:aM H0 [(b28,Obj.cells #[iv (x:Int),u32 d.lo,u32 d.hi] 144 zZ)]:=by rw[WO];exact .left (A:=[_])
 intro F;rw[WO];refine A1 h0 Z5 (λ_ h=>two h) (.cons (.app (.app .here))) λlo1 hi1 hg1 Gb=>?_;rw[<-WO];refine⟨heR,Az.mk rfl (ae.cD (Br.dec (λhne=>?_) (λhe=>?_)))⟩
 ·refine Nil.ptr (ai.mk (Ld.f ?_));intro F2;rw[WO];refine A1 h0 Z6 (λ_ h=>two h) (.cons (.app (.app .here))) λlo2 KF Uo Uq=>?_;rw[<-WO];refine⟨heR,Az.mk rfl (ae.cD (aH.mk ?_))⟩;by_cases e2:BM K.N d.hi=(y:Int)
  ·rw[xal (by simpa using e2)];refine JE.mk (take ⟨hd,kA,.inr ?_⟩);cases hN:K.N d.hi with
   |none=>simp[BM,hN]at e2<;>omega
   |some f=>exact⟨f,rfl,by simp[BM,hN]at e2;omega⟩
  ·rw[xam (by simpa using e2)];refine JE.mk (skip ?_);rintro⟨_,_,⟨f,hf,R2⟩|⟨f,hf,R2⟩⟩
   ·exact hne (by simp[BM,hf,R2])
   exact e2 (by simp[BM,hf,R2])
 have e1:BM K.N d.lo=(y:Int):=by simpa using he
 refine JE.mk (take ⟨hd,kA,.inl ?_⟩);cases hN:K.N d.lo with
 |none=>simp[BM,hN]at e1<;>omega
 |some f=>exact⟨f,rfl,by simp[BM,hN]at e1;omega⟩
end
end
section
open au
section
def zOf:zV->Int
 | .int _ z=>z
 |_=>0
abbrev vrZ(v:zV)(z:Int):Prop:=v=iv z
def xw(es:Array MapEntry)(ck:Nat)(ks:List Nd):Prop:=∃m:List (Nd×Int),aF nK vrZ es ck m/\m.map Prod.fst=ks
theorem xw.empty:xw #[] 0 []:=⟨[],aF.empty,rfl⟩
theorem xw.of{es:Array MapEntry}{ck:Nat}{m:List (Nd×Int)}(h:aF nK (λv _=>∃z,v=iv z) es ck m):xw es ck (m.map Prod.fst):=by
 have hlen:es.toList.length=m.length:=by simpa using h.len
 have hz:((es.toList.zip m).map λp=>((p.2.1,zOf p.1.val):Nd×Int)).map Prod.fst=m.map Prod.fst:=by
  rw[xb8];have:(Prod.fst∘λ(p:MapEntry×(Nd×Int))=>((p.2.1,zOf p.1.val):Nd×Int))=Prod.fst∘Prod.snd:=rfl;rw[this,<-xb8,List.map_snd_zip zO]
 refine⟨_,⟨?_,λi e x he hx=>?_,by rw[hz];exact h.nd,h.born,h.lt⟩,hz⟩
 ·simp[h.len]
 have hi:=(xaS.1 he).1;have KF:i<m.length:=by rw[<-h.len];exact hi
 have hm:m[i]? =some m[i]:=xaa KF;obtain⟨h1,z,h2⟩:=h.key i e _ he hm;have hx':x=(m[i].1,zOf e.val):=by
  have e1:es.toList[i]? =some e:=by rw[xbc];exact he
  rw[xat,(List.getElem?_zip_eq_some (z:=(e,m[i]))).2 ⟨e1,hm⟩]at hx;simpa using hx.symm
 subst hx';exact⟨h1,by rw[h2];rfl⟩
theorem Own.sub{g:Gh}{H:Hp}{w:World}(h:Own g H w){y:Nat×Obj}(hy:y∈H):Own g [y] w:=by
 obtain⟨X,Y,rfl⟩:=xdd hy;exact(h.perm xaU).left (A:=[y])
noncomputable abbrev FF:Func:=Tryz.f201
theorem six{i:Nat}(hi:i<6):¬QY .any (pB FF 10) i 6:=λh=>by
 have e6:(pB FF 10)[6]? =some (gI FF 10 6):=by kernel_rfl
 have:=h _ e6;have hm:(⟨i,.phase⟩:Edge)∈(gI FF 10 6).after:=by
  have ea:(gI FF 10 6).after=#[⟨0,.data⟩,⟨5,.data⟩,⟨3,.data⟩,⟨4,.chain⟩,⟨0,.phase⟩,⟨1,.phase⟩,⟨2,.phase⟩,⟨3,.phase⟩,⟨4,.phase⟩,⟨5,.phase⟩]:=by kernel_rfl
  rw[ea];rcases i with _|_|_|_|_|_|i;all_goals first|omega|simp
 exact this _ hm rfl rfl
end
section
def Lb(ops:Array Oper)(listed:Array Bool):Bool:=(List.range ops.size).all λj=>match ops[j]? with
 |some oj=> !listed.getD j true||oj.after.toList.all λe=> !Region.binds .any e||listed.getD e.on true
 |none=>true
theorem gY{ops:Array Oper}{listed:Array Bool}(h:Lb ops listed=true):fo .any ops listed:=by
 intro j oj hj hl e he hb;unfold Lb at h;have h1:=xc3.1 h j (xaM.2 (xaS.1 hj).1);simp only[hj,hl,xcw,xdx]at h1;have h2:=xc3.1 h1 e (xcZ.2 he);rw[hb]at h2;simpa using h2
theorem Wb{g:Gh}{mb nb:Nat}{es:Array MapEntry}{ck:Nat}{ks:List Nd}{d:Nd}(hmk:xw es ck ks){c:Obj->Hp}(Sb:∀o o',c8 mb o o' (c o) (c o'))(hcn:∀o,(nb,Obj.cells (bt d).toArray 144 zZ)∈c o){K:Hp->Prop}
 (hk:∀es' bB,xw es' bB (if d∈ks then ks else ks++[d])->K (c (.map es' bB))):
  aaG zQ g 10 (pB FF 10) [7,11] [.map (some mb),ptr nb] (c (.map es ck)) K:=by
 have hm:(mb,Obj.map es ck)∈c (.map es ck):=(Sb _ (.map es ck)).mem;have hn:=hcn (.map es ck);obtain⟨m,hE,rfl⟩:=hmk;intro a w hok hvs hw;simp only[xay,xcl,xau,xa1]at hvs;obtain⟨h7,h11⟩:=hvs;obtain⟨n,hnn⟩:∃n,n=a.tmps.size:=⟨_,rfl⟩;obtain⟨fr,hfr⟩:∃fr:Fr,fr=λs=>a.tmps.getD s undef:=⟨_,rfl⟩;have ha:cA a.defers n a fr:=⟨rfl,hnn.symm,λs=>by rw[hfr]⟩;have f7:fr 7=.map (some mb):=by rw[hfr];exact h7
 have f11:fr 11=ptr nb:=by rw[hfr];exact h11
 rw[<-hnn]at hok;have eok:ja n (pB FF 10).toList=(Nat.blt 58 n&& (Nat.blt 59 n&& (Nat.blt 60 n&& (Nat.blt 61 n&& (Nat.blt 62 n&& (Nat.blt 63 n&& (true&&true))))))):=by kernel_rfl
 rw[eok]at hok;simp only[xaF,xdQ]at hok;obtain⟨k58,k59,k60,k61,k62,k63⟩:=hok;refine wp_region_any zK ?_;obtain⟨z0,XZ⟩:∃z0:Int,z0=(aG m d).getD 0:=⟨_,rfl⟩;obtain⟨S0,Sv⟩:∃S0:World->Prop,S0=λw=>Own g [(nb,Obj.cells (bt d).toArray 144 zZ)] w/\(Instr.lookup 329 (.map (some mb)) (nK d) false).run zQ w=.ok (iv z0) w:=⟨_,rfl⟩;have look:∀{es':Array MapEntry} {bB:Nat} {m':List (Nd×Int)} {H':Hp} {w':World},aF nK vrZ es' bB m'->(mb,Obj.map es' bB)∈H'->Own g H' w'->(aG m' d).getD 0=z0->(Instr.lookup 329 (.map (some mb)) (nK d) false).run zQ w'=.ok (iv z0) w':=by
  intro es' bB m' H' w' h1 h2 h3 h4;have hL:j7 zQ 144 (iv 0) false H' (.map (some mb)) (nK d) (· =iv z0):=by
   cases hg:aG m' d with
   |some z=>exact aF.F6 (ke:=nK) (k:=d) ri mO h1 h2 hg (by rintro v rfl;rw[hg]at h4;simp at h4;rw[h4];rfl)
   |none=>exact aF.vR (ke:=nK) (k:=d) ri mO h1 h2 hg (by rw[hg]at h4;simp at h4;rw[<-h4];rfl)
  obtain⟨v,hr,rfl⟩:=hL.run (P:=zQ) h3 (t:=329) (kt:=144) (e:=3) (kd:=.struct (Tryz.prog.fieldsOf 144)) (i:=(Tryz.prog.info? 3).get zK) zK Kt rfl zK zK;exact hr
 have Uh:=hw.zY;have s0:S0 {w with drawn:=w.drawn+1}:=by rw[Sv];exact⟨Own.sub Uh hn,look hE hm Uh XZ.symm⟩
 have hQp:∀{o:Oper} {v:zV} (c:List PanicEntry) (a':Act) (w':World),(λ(e:Exit) (a':Act) (w':World)=>e=.normal/\a'.defers=a.defers/\a'.tmps.size=a.tmps.size/\(∀s,bS (pB FF 10).toList s=false->a'.tmps.getD s undef=a.tmps.getD s undef)/\∃H',Own g H' w'/\K H') (.panic c) (a'.put o.dst v) w'->
   (λ(e:Exit) (a':Act) (w':World)=>e=.normal/\a'.defers=a.defers/\a'.tmps.size=a.tmps.size/\(∀s,bS (pB FF 10).toList s=false->a'.tmps.getD s undef=a.tmps.getD s undef)/\∃H',Own g H' w'/\K H') (.panic c) a' w':=by
  rintro _ _ _ _ _ ⟨h,_⟩;cases h
 have hsel:Region.noSelect (pB FF 10)=true:=by kernel_rfl
 have hkeep:∀i,i<6->∀(j:Nat) (oj:Oper) (w w':World),(pB FF 10)[j]? =some oj->j≠i->¬oC .any (pB FF 10) i j->S0 w->(j≠6->S0 w->S0 w')->S0 w':=λi hi j oj w w' _ _ hno h0 hs=>by
  by_cases e:j=6
  ·subst e;exact absurd (λoj jj e he hb heq=>hno (.one jj he hb heq)) (six hi)
  exact hs e h0
 refine dc.any (S:=λj w w'=>j≠6->S0 w->S0 w') ?_;have hsz:(pB FF 10).size=7:=by kernel_rfl
 rw[hsz];refine dc.take (gY zK) (S0:=S0) (i:=0) (oi:=gI FF 10 0) (v:=.map (some mb)) zK hsel zK zK hQp (λ_ h _ _=>h) (hkeep 0 zD) (.inl ⟨rfl,λw hw=>?_⟩) s0 ?_
 ·rw[ha.eval];have:(execOp (ev fr) (gI FF 10 0))=pure (.value (fr 7)):=rfl
  rw[this,f7];rfl
 have Ge:=ha.put (d:=some 58) k58 (.map (some mb));change dc _ _ _ _ _ 6 _ (a.put (some 58) (.map (some mb))) _;refine dc.take (gY zK) (S0:=S0) (i:=1) (oi:=gI FF 10 1) (v:=nK d) zK hsel zK zK hQp (λ_ h _ _=>h) (hkeep 1 zD) (.inl ⟨rfl,λw hw=>?_⟩) s0 ?_
 ·rw[Ge.eval];have e:EB zQ g (gI FF 10 1) (ev (bK fr (some 58) (.map (some mb)))) [(nb,Obj.cells (bt d).toArray 144 zZ)] (λv=>v=nK d)=az 3 [(nb,Obj.cells (bt d).toArray 144 zZ)] (fr 11) (λv=>v=nK d):=by kernel_rfl
  obtain⟨v,rfl,hr,_⟩:=o5 (e.mpr (by rw[f11];exact az.q rfl));rw[Sv]at hw;exact hr _ hw.1
 have BT:=Ge.put (d:=some 59) k59 (nK d);change dc _ _ _ _ _ 5 _ ((a.put (some 58) (.map (some mb))).put (some 59) (nK d)) _;refine dc.take (gY zK) (S0:=S0) (i:=2) (oi:=gI FF 10 2) (v:=iv z0) zK hsel zK zK hQp (λ_ h _ _=>h) (hkeep 2 zD) (.inl ⟨rfl,λw hw=>?_⟩) s0 ?_
 ·rw[BT.eval];have e:execOp (ev (bK (bK fr (some 58) (.map (some mb))) (some 59) (nK d))) (gI FF 10 2)=(do pure (.value (<-Instr.lookup 329 (.map (some mb)) (nK d) false))):=rfl;rw[Sv]at hw;rw[e];simp only[Sem.run_bind,hw.2,Result.andThen_ok,Sem.run_pure]
 have Ng:=BT.put (d:=some 60) k60 (iv z0);change dc _ _ _ _ _ 4 _ (((a.put (some 58) (.map (some mb))).put (some 59) (nK d)).put (some 60) (iv z0)) _;refine dc.take (gY zK) (S0:=S0) (i:=3) (oi:=gI FF 10 3) (v:=iv (IntKind.i64.wrap (z0+1))) zK hsel zK zK hQp (λ_ h _ _=>h) (hkeep 3 zD) (.inl ⟨rfl,λw hw=>?_⟩) s0 ?_
 ·rw[Ng.eval];have e:EB zQ g (gI FF 10 3) (ev (bK (bK (bK fr (some 58) (.map (some mb))) (some 59) (nK d)) (some 60) (iv z0))) [(nb,Obj.cells (bt d).toArray 144 zZ)] (λv=>v=iv (IntKind.i64.wrap (z0+1)))=ae .num .add (iv z0) (iv 1) (λv=>v=iv (IntKind.i64.wrap (z0+1))):=by kernel_rfl
  obtain⟨v,rfl,hr,_⟩:=o5 (e.mpr (ae.add rfl));rw[Sv]at hw;exact hr _ hw.1
 have WD:=Ng.put (d:=some 61) k61 (iv (IntKind.i64.wrap (z0+1)));change dc _ _ _ _ _ 3 _ ((((a.put (some 58) (.map (some mb))).put (some 59) (nK d)).put (some 60) (iv z0)).put (some 61) (iv (IntKind.i64.wrap (z0+1)))) _;generalize (((a.put (some 58) (.map (some mb))).put (some 59) (nK d)).put (some 60) (iv z0)).put (some 61) (iv (IntKind.i64.wrap (z0+1)))=a4 at WD;refine dc.all (rs:=[4]) zK zI λi hi=>?_;simp only[xaw]at hi;subst hi;have e4:(pB FF 10)[4]? =some (gI FF 10 4):=by kernel_rfl
 unfold wpOp;rw[e4];simp only;rw[xad (show Region.wanted (gI FF 10 4) (yielded (pB FF 10) a4.tmps)=true from rfl)];refine .inl ?_;show(gI FF 10 4).upon zQ a4 _ _ ((execOp a4.eval (gI FF 10 4)).run zQ _);rw[WD.eval];refine oK.upon (g:=g) (KP:=λ_ _=>False) (aF.W7 (K:=λv H'=>∃es' bB v0 st,aF nK vrZ es' bB (if d∈m.map Prod.fst then m else m++[(d,0)])/\(∃e∈es'.toList,e.born=st)/\H'=c (.map es' bB)/\v=.tuple #[v0,iv (st:Int)])
  (t:=329) (kt:=144) (e:=3) (z:=iv 0) (k:=d) (y0:=(0:Int)) ri mO Kv (o:=gI FF 10 4) (mo:=.tmp 58) (ko:=.tmp 59) rfl rfl rfl zK Kt rfl zK rfl hE Sb
  (λes' bB v st h1 h2=>⟨es',bB,v,st,h1,h2,rfl,rfl⟩) _ Uh) ?_ (λ_ _ _ _ h=>h.elim)
 rintro v H1 w1 nJ ⟨kB,jN,v0,st,Uw,hst,rfl,rfl⟩;have Uk:(nb,Obj.cells (bt d).toArray 144 zZ)∈c (.map kB jN):=hcn _;have xU:(mb,Obj.map kB jN)∈c (.map kB jN):=(Sb _ (.map kB jN)).mem;have s1:S0 w1:=by
  rw[Sv];refine⟨Own.sub nJ Uk,look Uw xU nJ ?_⟩;rw[XZ];split
  ·rfl
  rename_i dP;have e1:=iu.2 dP;have e2:aG (m++[(d,0)]) d=some 0:=(dW (by
   have:=Uw.nd;rw[xab dP]at this;exact this)).2 zI
  rw[e1,e2];rfl
 refine⟨λ_ _=>s1,?_⟩;have WC:=WD.put (d:=some 62) k62 (.tuple #[v0,iv (st:Int)]);change dc _ _ _ _ _ 2 _ (a4.put (some 62) (.tuple #[v0,iv (st:Int)])) _;generalize a4.put (some 62) (.tuple #[v0,iv (st:Int)])=a5 at WC;refine dc.take (gY zK) (S0:=S0) (i:=5) (oi:=gI FF 10 5) (v:=iv (st:Int)) zK hsel zK zK hQp (λ_ h _ _=>h) (hkeep 5 zD) (.inl ⟨rfl,λw hw=>?_⟩) s1 ?_
 ·rw[WC.eval];obtain⟨v,rfl,hr,_⟩:=o5 (P:=zQ) (g:=g) (o:=gI FF 10 5) (H:=[(nb,Obj.cells (bt d).toArray 144 zZ)]) (k:=λv=>v=iv (st:Int))
   (ρ:=ev (bK (bK (bK (bK (bK fr (some 58) (.map (some mb))) (some 59) (nK d)) (some 60) (iv z0)) (some 61) (iv (IntKind.i64.wrap (z0+1)))) (some 62) (.tuple #[v0,iv (st:Int)]))) ⟨_,_,rfl,rfl,rfl⟩
  rw[Sv]at hw;exact hr _ hw.1
 have WB:=WC.put (d:=some 63) k63 (iv (st:Int));change dc _ _ _ _ _ 1 _ (a5.put (some 63) (iv (st:Int))) _;generalize a5.put (some 63) (iv (st:Int))=a6 at WB;refine dc.all (rs:=[6]) zK zI λi hi=>?_;simp only[xaw]at hi;subst hi;have e6:(pB FF 10)[6]? =some (gI FF 10 6):=by kernel_rfl
 unfold wpOp;rw[e6];simp only;rw[xad (show Region.wanted (gI FF 10 6) (yielded (pB FF 10) a6.tmps)=true from rfl)];refine .inl ?_;show(gI FF 10 6).upon zQ a6 _ _ ((execOp a6.eval (gI FF 10 6)).run zQ _);rw[WB.eval];refine oK.upon (g:=g) (KP:=λ_ _=>False) (aF.UZ (vr:=λv _=>∃z:Int,v=iv z) (K:=λ_ H'=>∃es',aF nK (λv _=>∃z:Int,v=iv z) es' jN (if d∈m.map Prod.fst then m else m++[(d,0)])/\H'=c (.map es' jN))
  (o:=gI FF 10 6) (t:=329) (mo:=.tmp 58) (so:=.tmp 63) (xo:=.tmp 61) rfl rfl rfl (Uw.mono λv z h=>⟨z,h⟩) hst (λ_=>⟨_,rfl⟩) Sb
  (λes' h1=>⟨es',h1,rfl⟩) _ nJ) ?_ (λ_ _ _ _ h=>h.elim)
 rintro v H2 w2 we ⟨gV,sS,rfl⟩;refine⟨λh=>absurd rfl h,?_⟩;have ha7:cA a.defers n a6 _:=WB;change dc _ _ _ _ _ 0 _ a6 _;refine dc.done zK ⟨rfl,ha7.defers,by rw[ha7.size,hnn],λs hs=>?_,_,we,hk gV jN ?_⟩ 0
 ·have eD:bS (pB FF 10).toList s=(Nat.beq s 58||(Nat.beq s 59||(Nat.beq s 60||(Nat.beq s 61||(Nat.beq s 62||(Nat.beq s 63||(false||false))))))):=by kernel_rfl
  rw[eD]at hs;simp only[xaG]at hs;rw[ha7.get];simp only[bK,hs,xag];rw[hfr]
 have:=xw.of sS;have e:(if d∈m.map Prod.fst then m else m++[(d,(0:Int))]).map Prod.fst=if d∈m.map Prod.fst then m.map Prod.fst else m.map Prod.fst++[d]:=by
  split<;>simp
 rw[e]at this;exact this
end
section
variable {kp:Nat} {K:Kd} {ord ah tr:zL} {C:Hp} {S:Nat->au.Fn}
theorem To{H:Hp}(a b:Nd){K:zV->Hp->Prop}(h:∀x,K (.slice (some ⟨x,0,none⟩) 2 2) ((x,.cells (rows [bt a,bt b]) 144 zZ)::H)):
  ax zQ 213 2 [(0,nK a),(1,nK b)] H K:=by
 refine⟨rows [bt a,bt b],144,3,.agg #[iv 0,.int .u32 0,.int .u32 0],by kernel_rfl,by kernel_rfl,by kernel_rfl,by decide,?_,λx _=>h x⟩;have e1:Array.range (2*3)=#[0,1,2,3,4,5]:=rfl;simp[Instr.fill,Value.cells,nK,bt,e1,rows,u32]
def iF(K:Kd)(x:Nat)(l:List Cx)(ks:List Nd)(m:List Nd):Prop:=m.Nodup/\∀k,k∈m↔((∃c∈l,k∈keys x c)\/k∈ks)/\K.T k=none/\k.lo≠k.hi
theorem iF.step{x:Nat}{l:List Cx}{ks m:List Nd}{d:Nd}(h:iF K x l ks m)(hd:K.T d=none/\d.lo≠d.hi):iF K x l (ks++[d]) (if d∈m then m else m++[d]):=by
 obtain⟨h1,h2⟩:=h;constructor
 ·split
  ·exact h1
  rename_i hn;exact xa3.2 ⟨h1,by simp,λa ha b hb e=>by simp at hb;subst hb;subst e;exact hn ha⟩
 intro k;by_cases hm:d∈m
 ·rw[xad hm,h2,xao,xaw];constructor
  ·rintro⟨h3|h3,h4⟩
   ·exact⟨.inl h3,h4⟩
   exact⟨.inr (.inl h3),h4⟩
  rintro⟨h3|h3|rfl,h4⟩
  ·exact⟨.inl h3,h4⟩
  ·exact⟨.inr h3,h4⟩
  exact(h2 _).1 hm
 rw[xab hm,xao,xaw,h2,xao,xaw];constructor
 ·rintro(⟨h3|h3,h4⟩|rfl)
  ·exact⟨.inl h3,h4⟩
  ·exact⟨.inr (.inl h3),h4⟩
  exact⟨.inr (.inr rfl),hd⟩
 rintro⟨h3|h3|rfl,h4⟩
 ·exact .inl ⟨.inl h3,h4⟩
 ·exact .inl ⟨.inr h3,h4⟩
 exact .inr rfl
theorem iF.skip{x:Nat}{l:List Cx}{ks m:List Nd}{d:Nd}(h:iF K x l ks m)(hd:¬(K.T d=none/\d.lo≠d.hi)):iF K x l (ks++[d]) m:=by
 obtain⟨h1,h2⟩:=h;refine⟨h1,λk=>?_⟩;rw[h2,xao,xaw];constructor
 ·rintro⟨h3|h3,h4⟩
  ·exact⟨.inl h3,h4⟩
  exact⟨.inr (.inl h3),h4⟩
 rintro⟨h3|h3|rfl,h4⟩
 ·exact⟨.inl h3,h4⟩
 ·exact⟨.inr h3,h4⟩
 exact absurd h4 hd
theorem iF.ew{x:Nat}{l:List Cx}{c:Cx}{m:List Nd}(h:iF K x l (keys x c) m):iF K x (l++[c]) [] m:=by
 obtain⟨h1,h2⟩:=h;refine⟨h1,λk=>?_⟩;rw[h2];constructor
 ·rintro⟨⟨c',hc,hk⟩|h3,h4⟩
  ·exact⟨.inl ⟨c',xae _ hc,hk⟩,h4⟩
  exact⟨.inl ⟨c,by simp,h3⟩,h4⟩
 rintro⟨⟨c',hc,hk⟩|h3,h4⟩
 ·rcases xao.1 hc with hc|hc
  ·exact⟨.inl ⟨c',hc,hk⟩,h4⟩
  simp at hc;subst hc;exact⟨.inr hk,h4⟩
 cases h3
theorem SJ(h:cR kp K ord ah tr C){x:Nat}(hx:x<K.n){v:zV}{all:List Cx}{Na:Hp}(ha:aV 272 8 v (all.map my) Na)(hlen:all.length<=1048576):
  Rd zQ 201 #[ptr kp,iv (x:Int),v] (Na++C) (λr=>∃made,r=iv ((made.length:Nat):Int)/\Made K x all made):=by
 have h0:=h;obtain⟨b,hC,hO⟩:=h;refine aI λg=>Ij λmb _=>?_;refine ha.bV ?_;rw[xaE];refine⟨λvs H=>∃(i:Nat) (es:Array MapEntry) (ck:Nat) (m:List Nd),vs=[iv (i:Int)]/\H=(mb,.map es ck)::(Na++C)/\i<=all.length/\xw es ck m/\iF K x (all.take i) [] m,
  λvs _=>all.length-bN vs 0,JE.mk ⟨0,_,_,[],rfl,rfl,xaN _,xw.empty,by simp,by simp⟩,?_⟩
 rintro w H ⟨i,es,ck,m,hw,rfl,hi,hmk,Wq⟩ gs;simp only[xau,xa1]at hw;subst hw;refine ae.fC (Br.dec (λhlt=>?_) (λhge=>?_));rotate_left
 ·have:i=all.length:=by omega
  subst this;rw[xbj]at Wq;obtain⟨m',he,rfl⟩:=hmk;refine aF.Q9 he (.head _) ?_;refine bc.mk .tail ⟨m'.map Prod.fst,by rw[xaE],Wq.1,λk=>?_⟩;rw[Wq.2];constructor
  ·rintro⟨h3|h3,h4⟩
   ·exact⟨h3,h4⟩
   cases h3
  rintro⟨h3,h4⟩;exact⟨.inl h3,h4⟩
 obtain⟨c,pP⟩:∃c,all[i]? =some c:=⟨_,xaa hlt⟩;have nB:all.take (i+1)=all.take i++[c]:=by rw[xbo,pP];rfl
 refine ha.KA (r:=my c) (by rw[xat,pP];rfl) (λy hy=>.tail _ (xae _ hy)) ?_;intro Uz _;refine St.p (mg _) ?_;refine Ld.f ?_;refine Ld.f ?_;refine Build.mk (cs:=bt ⟨x,c.ym,c.ud⟩) zK (Ld.f ?_);refine Ld.f ?_;refine Build.mk (cs:=bt ⟨x,c.yl,c.uc⟩) zK (To _ _ λxb=>?_);refine aR.mk ?_;refine⟨λvs H=>∃(j:Nat) (es:Array MapEntry) (ck:Nat) (m:List Nd),vs=[iv (j:Int)]/\H=(xb,.cells (rows [bt ⟨x,c.ym,c.ud⟩,bt ⟨x,c.yl,c.uc⟩]) 144 zZ)::(mb,.map es ck)::(Na++C)/\j<=2/\xw es ck m/\iF K x (all.take i) ((keys x c).take j) m,
  λvs _=>2-bN vs 0,JE.of (.cons .tail) ⟨0,es,ck,m,rfl,rfl,xaN _,hmk,Wq⟩,?_⟩
 clear hmk Wq;rintro w H ⟨j,es,ck,m,hw,rfl,hj,hmk,Wq⟩ gs;simp only[xau,xa1]at hw;subst hw;refine ae.fC (b:=2) (Br.dec (λuy=>?_) (λhge=>?_));rotate_left
 ·have:j=2:=by omega
  subst this;refine ae.inc (aC.of .tail ⟨i+1,es,ck,m,rfl,rfl,by omega,hmk,?_⟩ (by simp[bN];omega));rw[nB];exact iF.ew Wq
 obtain⟨d,Gc,kA⟩:∃d,(keys x c)[j]? =some d/\d.v=x:=by
  rcases j with _|_|j
  ·exact⟨_,rfl,rfl⟩
  ·exact⟨_,rfl,rfl⟩
  omega
 have htj:(keys x c).take (j+1)=(keys x c).take j++[d]:=by rw[xbo,Gc];rfl
 have hrow:[bt ⟨x,c.ym,c.ud⟩,bt ⟨x,c.yl,c.uc⟩][j]? =some (bt d):=by
  have:[bt ⟨x,c.ym,c.ud⟩,bt ⟨x,c.yl,c.uc⟩]=(keys x c).map bt:=rfl;rw[this,xat,Gc];rfl
 intro J34 ahw;have next:∀es' bB m' H',xw es' bB m'->iF K x (all.take i) ((keys x c).take (j+1)) m'->aM H' ((xb,.cells (rows [bt ⟨x,c.ym,c.ud⟩,bt ⟨x,c.yl,c.uc⟩]) 144 zZ)::(mb,.map es' bB)::(Na++C))->JE J34 [] H':=λes' bB m' H' h1 h2 h3=>
  JE.mk (ahw _ λgs=>ae.inc (aC.of h3 ⟨j+1,es',bB,m',rfl,rfl,by omega,h1,h2⟩ (by simp[bN];omega)))
 refine av.nat uy ?_;have hmem:(xb,Obj.cells (rows [bt ⟨x,c.ym,c.ud⟩,bt ⟨x,c.yl,c.uc⟩]) 144 zZ)∈(xb,Obj.cells (rows [bt ⟨x,c.ym,c.ud⟩,bt ⟨x,c.yl,c.uc⟩]) 144 zZ)::(mb,.map es ck)::(Na++C):=.head _;refine az.row (k:=3) hmem (by simp[bt]) hrow ?_;intro b40 _;refine St.p (λz hz=>by simp[bt,u32]at hz;rcases hz with rfl|rfl|rfl<;>rfl) ?_;refine DR.self ?_;rw[hC];refine Nil.ptr (ai.mk (Ld.f ?_));refine az.q ?_;refine aa.eq (uN (d:=d) hO.ut (by rw[kA];exact hx)) (⟨.refl _,Ext.mk rfl (Ext.mk rfl (Un.not ?_))⟩);have X4:(!(K.T d).isSome)=decide (K.T d=none):=by cases K.T d<;>simp
 rw[X4];refine cS.and (decide (d.lo≠d.hi)) (λ_=>?_) rfl λgs=>?_
 ·refine Ld.f ?_;refine Ld.f ?_;exact ae.x5 ⟨rfl,rfl⟩
 rw[<-xd3];rw[<-hC];refine Br.dec (λhd=>?_) (λhd=>?_)
 ·refine Wb hmk (c:=λo=>(b40,.cells (bt d).toArray 144 zZ)::(xb,.cells (rows [bt ⟨x,c.ym,c.ud⟩,bt ⟨x,c.yl,c.uc⟩]) 144 zZ)::(mb,o)::(Na++C)) (λo o'=>.tail (.tail (.head _))) (λo=>.head _) λes' bB h1 gs=>?_;exact next es' bB _ _ h1 (by rw[htj];exact Wq.step hd) .tail
 exact next es ck m _ hmk (by rw[htj];exact Wq.skip hd) .tail
end
def kx(l:List Cx):Nat->Nat:=λs=>(l.map λc=>e1 (some c.d) s).sum
theorem oY(c:Cx)(l:List Cx)(s:Nat):kx (c::l) s=e1 (some c.d) s+kx l s:=by simp[kx]
theorem MD(c:Cx)(l:List Cx)(s:Nat):kx (l++[c]) s=kx l s+e1 (some c.d) s:=by simp[kx]
theorem ad2(d:Nd)(s:Nat):e1 (some d) s<=2:=by rw[eC];split<;>split<;>omega
theorem AX(s:Nat):∀l:List Cx,kx l s<=2*l.length
 | []=>xaj _
 |c::l=>by rw[oY,xaz];have:=AX s l;have:=ad2 c.d s;omega
theorem CG{s:Nat}:∀{l:List Cx},0<kx l s->∃c∈l,c.d.lo=s\/c.d.hi=s
 | [],h=>by simp[kx]at h
 |c::l,h=>by
  rw[oY]at h;by_cases h0:0<e1 (some c.d) s
  ·refine⟨c,by simp,?_⟩;rw[eC]at h0;by_cases h1:c.d.lo=s
   ·exact .inl h1
   by_cases h2:c.d.hi=s
   ·exact .inr h2
   simp[h1,h2]at h0
  obtain⟨c',hc,h1⟩:=CG (s:=s) (l:=l) zO;exact⟨c',by simp[hc],h1⟩
theorem Kp{s:Nat}{c:Cx}(hs:c.d.lo=s\/c.d.hi=s):∀{l:List Cx},c∈l->0<kx l s
 |c'::l,h=>by
  rw[oY];rcases xak.1 h with rfl|h
  ·rw[eC];rcases hs with hs|hs
   ·rw[xad hs];omega
   rw[xad hs];omega
  have:=Kp hs h;omega
def Idle(K:Kd):Prop:=∀s,K.N s=none->K.use s=0
theorem uW{K:Kd}{S:Nat->au.Fn}{E:Nat->Prop}{P:Nat->Nat}(hm:jP K S E P)(hi:Idle K){M:Nat}(hP:∀s,P s<=M)(s:Nat):K.use s<=2097153+M:=by
 cases h:K.N s with
 |none=>rw[hi s h];omega
 |some d=>
  rw[hm.use h];have:=DX (N:=K.N) (r:=s) K.cap;have:=hm.cap.2;have:=hP s;split<;>omega
section
variable {kp:Nat} {K K0:Kd} {ord ah tr:zL} {C:Hp} {S S0:Nat->au.Fn} {r8:Nat->Nat} {x y l:Nat} {all done rest:List Cx} {made:List Nd} {P:Nat->Nat}
theorem SE(b:TB K0 S0 r8 x y l all made)(h:cR kp K ord ah tr C)(ht:TI K0 S0 r8 x y l made K S done rest P)(hd:∀c∈done,c∈all)(hr:∀c∈rest,c∈all){c:Cx}(hc:c∈all){k:Nd}(hk:k∈keys x c)
 (Pu:PL P K.N)(RY:Idle K)(hP:∀s,P s<=4194304):
  Fc zQ 202 #[ptr kp,iv (k.v:Int),u32 k.lo,u32 k.hi] C (λv C'=>∃r K' S',v=u32 r/\cR kp K' ord ah tr C'/\TI K0 S0 r8 x y l made K' S' done rest P/\yu K0 K' r8 x l r/\
   ((k.lo=k.hi/\r=k.lo)\/K'.N r=some k)/\PL P K'.N/\Idle K'/\(∀s d,K.N s=some d->K'.N s=some d)/\(∀s d,K'.N s=some d->s=r\/(K.N s=some d/\K.use s<=K'.use s))):=by
 have sP:K.n<=64:=by obtain⟨_,_,hO⟩:=h;exact hO.lP
 have mW:=b.VR hc;have hkv:k.v=x/\uf K0 r8 l k.lo/\uf K0 r8 l k.hi:=by
  simp only[keys,xak,xaR,xbD]at hk;rcases hk with rfl|rfl
  ·exact⟨rfl,mW.1.1,mW.1.2⟩
  exact⟨rfl,mW.2.1,mW.2.2⟩
 have DB:=ht.rC b hd hkv.2.1;have qP:=ht.rC b hd hkv.2.2;have hxn:k.v<K.n:=by rw[hkv.1,ht.n];exact b.nb.xn
 by_cases he:k.lo=k.hi
 ·refine Fc.mono (by rw[<-he];exact WT C _ k.lo _) ?_;rintro v C' ⟨rfl,rfl⟩;exact⟨k.lo,K,S,rfl,h,ht,.inl hkv.2.1,.inl ⟨he,rfl⟩,Pu,RY,λ_ _ h=>h,λs d h=>.inr ⟨h,xaj _⟩⟩
 cases hT:K.T k with
 |some r=>
  obtain⟨h1,h2⟩:=ht.found b hc hk hT;refine Fc.mono (WV h he hxn hT) ?_;rintro v C' ⟨rfl,rfl⟩;exact⟨r,K,S,rfl,h,ht,h2,.inr h1,Pu,RY,λ_ _ h=>h,λs d h=>.inr ⟨h,xaj _⟩⟩
 |none=>
  have hfit:∀{t:Nat},live K.N t->t<2\/t<K.us.length:=λht'=>by
   rcases ht' with ht'|⟨d,dP⟩
   ·exact .inl ht'
   exact .inr (ht.mid.fit dP)
  have hkm:=ht.Rz b hd hr hc hk he hkv.2.1 hkv.2.2 hT;refine Fc.mono (WU h (d:=k) he ⟨by omega,DB,qP⟩ hxn hT (ht.fits b hkm hT) (hfit DB) (hfit qP) (λs=>by have:=uW ht.mid RY hP s;omega)) ?_;rintro v C' ⟨r,dA,cz,rfl,hN,h2,hrc,hlen,hru,M1,u0,u1,u2,o0,o1,cZ⟩;have hPr:P r=0:=by
   apply xdD;intro hne;obtain⟨d,dP⟩:=Pu r h2 zO;rw[hN]at dP;cases dP
  obtain⟨g1,g2⟩:=ht.lay b hd hr hc hk he hT hN ⟨h2,hrc⟩ hlen ⟨hru,M1⟩ u0 u1 o0 o1 hPr;have hup:∀s d,K.N s=some d->up K.N r (some k) s=some d:=λs d hs=>by
   rw[aQ (λe=>by rw[e,hN]at hs;cases hs)];exact hs
  refine⟨r,_,_,rfl,cZ,g1,g2,.inr aO,λt SB h0=>?_,λs hs=>?_,hup,λs d hs=>?_⟩
  ·obtain⟨d,dP⟩:=Pu t SB h0;exact⟨d,hup t d dP⟩
  ·have hs':up K.N r (some k) s=none:=hs;have hne:s≠r:=λe=>by subst e;rw[aO]at hs';cases hs'
   rw[aQ hne]at hs';show dA.getD s 0=0;by_cases h2s:2<=s
   ·rw[u1 s h2s hne,RY s hs',eC];have a1:k.lo≠s:=λe=>by
     rcases DB with h5|⟨d,h5⟩
     ·omega
     rw[e,hs']at h5;cases h5
    have a2:k.hi≠s:=λe=>by
     rcases qP with h5|⟨d,h5⟩
     ·omega
     rw[e,hs']at h5;cases h5
    simp[a1,a2]
   rw[u2 s zO,RY s hs']
  have hs':up K.N r (some k) s=some d:=hs;by_cases e:s=r
  ·exact .inl e
  rw[aQ e]at hs';refine .inr ⟨hs',?_⟩;show K.use s<=dA.getD s 0;rw[u1 s (ht.mid.two hs').1 e];omega
theorem PM(h:cR kp K ord ah tr C)(ht:TI K0 S0 r8 x y l made K S done rest P)(Pu:PL P K.N)(RY:Idle K)(hP:∀s,P s<=4194304){r:Nat}(hr:live K.N r):
  Fc zQ 203 #[ptr kp,u32 r] C (λv C'=>∃K',v=.tuple #[]/\cR kp K' ord ah tr C'/\TI K0 S0 r8 x y l made K' S done rest (λs=>P s+if s=r then 1 else 0)/\PL (λs=>P s+if s=r then 1 else 0) K'.N/\Idle K'/\
   K'.N=K.N/\(∀s,K.use s<=K'.use s)/\(2<=r->0<K'.use r)):=by
 have hfit:r<2\/r<K.us.length:=by
  rcases hr with hr|⟨d,hd⟩
  ·exact .inl hr
  exact .inr (ht.mid.fit hd)
 refine Fc.mono (EX h hfit (by have:=uW ht.mid RY hP r;omega)) ?_;rintro v C' ⟨rfl,cZ⟩;by_cases h2:2<=r
 ·have hrd:∃d,K.N r=some d:=by
   rcases hr with hr|hr
   ·omega
   exact hr
  have hlt:r<K.us.length:=by omega
  refine⟨_,rfl,cZ,(ht.use (jr r) (nM h2 hlt) (λs hs=>uX hs)).congr (λs _=>?_),λt SB h0=>?_,λs hs=>?_,rfl,λs=>?_,λ_=>?_⟩
  ·unfold up;split
   ·rename_i e;subst e;rfl
   rfl
  ·by_cases e:t=r
   ·subst e;exact hrd
   simp[e]at h0;exact Pu t SB h0
  ·show(tt K r).getD s 0=0;have hne:s≠r:=λe=>by
    obtain⟨d,hd⟩:=hrd;have hs':K.N s=none:=hs;rw[e,hd]at hs';cases hs'
   rw[uX hne];exact RY s hs
  ·show K.use s<=(tt K r).getD s 0;by_cases e:s=r
   ·subst e;rw[nM h2 hlt];omega
   rw[uX e];exact xaj _
  show 0<(tt K r).getD r 0;rw[nM h2 hlt];omega
 have e:tt K r=K.us:=by unfold tt;rw[xad zO]
 have eK:({K with us:=tt K r}:Kd)=K:=by rw[e]
 rw[eK]at cZ;refine⟨K,rfl,cZ,ht.congr (λs hs=>?_),λt SB h0=>?_,RY,rfl,λ_=>xaj _,λh=>absurd h h2⟩
 ·rw[xab zO];rfl
 have h0':0<P t+if t=r then 1 else 0:=h0
 rw[xab zO]at h0';exact Pu t SB h0'
theorem yu.mono{K K':Kd}(h:yu K0 K r8 x l y)(hm:∀s d,K.N s=some d->K'.N s=some d):yu K0 K' r8 x l y:=by
 rcases h with h|⟨e,h1,h2⟩
 ·exact .inl h
 exact .inr ⟨e,hm _ _ h1,h2⟩
end
section
variable {kp:Nat} {K:Kd} {ord ah tr:zL} {C:Hp} {S:Nat->au.Fn}
structure Kept(K:Kd)(S:Nat->au.Fn)(K':Kd)(S':Nat->au.Fn):Prop where
 n:K'.n=K.n
 cap:K'.cap=K.cap
 hold:∀r,K'.hold r=K.hold r
 held:∀g,K'.held S' g↔K.held S g
 fn:∀r,K.hold r≠0->S' r=S r
theorem Zk{x y l:Nat}(hne:x≠y)(hx:x<ah.length)(hy:y<ah.length):lv ((ah.set x (l+1)).set y l)=uj (lv ah) x y l:=by
 funext v
 show((ah.set x (l+1)).set y l).getD v 0=_;rw[gU (by simpa using hy),gU hx];unfold uj;by_cases e:v=y
 ·rw[xad e,xab (by rw[e];exact xa9 hne),xad e]
 rw[xab e,xab e]
theorem QK(c:Cx)(rest:List Cx):kx (c::rest)=gX (gX (kx rest) [c.d.hi]) [c.d.lo]:=by
 funext s
 rw[oY,eC];unfold gX;simp only[xb5,xdK,xcO];omega
theorem rB{x:Nat}{all:List Cx}{made:List Nd}(h:Made K x all made):made.length<=2*all.length:=by
 have h1:=cu (l':=all.flatMap (keys x)) h.nd λk hk=>by
  obtain⟨⟨c,hc,hk'⟩,_⟩:=(h.mem k).1 hk;exact List.mem_flatMap.2 ⟨c,hc,hk'⟩
 have h2:(all.flatMap (keys x)).length=2*all.length:=by
  clear h1 h;induction all with
  |nil=>rfl
  |cons c all ih=>rw[xei,xaf,ih,xaz];simp[keys];omega
 omega
theorem PT{x y l:Nat}{K1:Kd}{S1:Nat->au.Fn}{all:List Cx}{made:List Nd}(b:TB K S (lv ah) x y l all made)(h:TI K S (lv ah) x y l made K1 S1 all [] (kx all))(hnew:∀r d,K.N r=none->K1.N r=some d->0<K1.use r):Pos K1:=by
 intro r d hd;cases hN:K.N r with
 |none=>exact hnew r d hN hd
 |some d0=>
  rw[h.mid.use hd];rcases b.ok.reach r d0 hN with hh|⟨p,e,hp,Pm⟩
  ·have l7:K1.hold r≠0:=by rw[h.hold];exact hh
   rw[xab l7];omega
  by_cases hm:p∈all.map Cx.r
  ·obtain⟨c,hc,rfl⟩:=xan.1 hm;have hcd:=(b.ou hc).1;rw[hp]at hcd;cases hcd;have:=Kp (s:=r) Pm hc;omega
  have uJ:=h.old hp hm;have:dr K1.N r K1.cap≠0:=λhe=>by
   have:=j4 he p (h.mid.two uJ).2 e uJ;rcases Pm with Pm|Pm
   ·exact this.1 Pm
   exact this.2 Pm
  omega
theorem JU(h:cR kp K ord ah tr C)(hok:Ok K S (lv ah))(ho:Ord K.n (lv ah) ord)(RY:Idle K){l:Nat}(hl:l+1<K.n):
  Fc zQ 134 #[ptr kp,iv (l:Int)] C (λr C'=>
   (AE K.n ord l (K.held S)+2<=K.cap/\r=.bool true/\∃K' S' bR,cR kp K' (fK ord l) bR tr C'/\Ok K' S' (lv bR)/\Ord K'.n (lv bR) (fK ord l)/\Idle K'/\Kept K S K' S')\/
   (K.cap<AE K.n ord l (K.held S)+2/\r=.bool false/\C'=C)):=by
 have h0:=h;have hcap:=h.cap;obtain⟨b,hC,hO⟩:=h;have EF:=hO.ol;have sP:=hO.lP;have nb:=ho.nb hl;obtain⟨x,hx⟩:∃x,x=ord.getD l 0:=⟨_,rfl⟩;obtain⟨y,hy⟩:∃y,y=ord.getD (l+1) 0:=⟨_,rfl⟩;rw[<-hx,<-hy]at nb;refine aI λg=>Jb ?_;have hmk:(kp,Obj.cells (b.cells K.n) 91 zZ)∈C:=by rw[hC];exact .head _
 have X2:∀z∈b.CO,z∈C:=by rw[hC];exact bH.sub (.cons (.app (.app (.app (.app .left)))))
 refine Ld.v hmk ?_;refine hO.od.ld (x:=(x:Int)) (by rw[hx];exact bE zO) X2 (Ld.v hmk ?_);refine ae.inc (hO.od.ld (x:=(y:Int)) (by rw[hy];exact bE zO) X2 (aa.fq (Bt h0 hok nb.xn) ?_));rintro w H ⟨all,Na,rfl,aJ,BR,hlen⟩;refine DR.self (Nil.ptr (ai.mk (aa.rq (SJ h0 nb.xn aJ hlen) ?_)));rintro w ⟨made,rfl,RP⟩;have hml:=rB RP;have KD:=hok.mid.cap;have af5:=hok.mid.room;refine aa.eq (Dl h0 (m:=made.length) zO zO) ?_;have ald:AE K.n ord l (K.held S)=K.used-2+made.length:=YL (PU hok ho hl (by rw[<-hx,<-hy];exact BR) (by rw[<-hx];exact RP));apply Un.not;by_cases hroom:K.used+made.length<=K.cap;rotate_left
 ·rw[xal hroom];exact Br.yes (aN.mk .right (.inr ⟨by omega,rfl,rfl⟩))
 rw[xam hroom];apply Br.no;have tb:TB K S (lv ah) x y l all made:=⟨hok,nb,BR,RP,hroom⟩;have fD:=BR.nd;have hge:∀{i:Nat} {c:Cx},all[i]? =some c->c.r∉(all.take i).map Cx.r:=λ{i c} pP hm=>by
  have h1:(all.take (i+1)).map Cx.r=(all.take i).map Cx.r++[c.r]:=by rw[xbo,pP,xaB];rfl
  have h2:((all.take (i+1)).map Cx.r).Nodup:=fD.sublist ((xdN _ _).map _);rw[h1]at h2;exact(xa3.1 h2).2.2 _ hm _ zI rfl
 have nB:∀{i:Nat} {c:Cx},all[i]? =some c->all.take (i+1)=all.take i++[c]:=λpP=>by rw[xbo,pP];rfl
 have hdr:∀{i:Nat} {c:Cx},all[i]? =some c->all.drop i=c::all.drop (i+1):=λ{i c} pP=>by
  obtain⟨hi,e⟩:=xah.1 pP;rw[xbr hi,e]
 have ZP:∀{i:Nat},∀c∈all.take i,c∈all:=λc hc=>xcE hc;have hmD:∀{i:Nat},∀c∈all.drop i,c∈all:=λc hc=>List.mem_of_mem_drop hc;refine aJ.bV ?_;rw[xaE];refine⟨λvs H=>∃(i:Nat) (T':Nd->Option Nat) (C1:Hp),vs=[iv (i:Int)]/\H=Na++C1/\i<=all.length/\cR kp {K with T:=T'} ord ah tr C1/\jP {K with T:=T'} S (λs=>∃c∈all.take i,s=c.r) zero'/\(∀d,T' d=none\/T' d=K.T d),
  λvs _=>all.length-bN vs 0,JE.mk ⟨0,K.T,C,rfl,rfl,xaN _,h0,hok.mid.congr (λs=>by simp[iN]) (λ_ _=>rfl),λ_=>.inr rfl⟩,?_⟩
 rintro w H ⟨i,T',C1,hw,rfl,hi,dO,Nk,Nh⟩ gs;simp only[xau,xa1]at hw;subst hw;refine ae.fC (Br.dec (λhlt=>?_) (λWw=>?_))
 ·obtain⟨c,pP⟩:∃c,all[i]? =some c:=⟨_,xaa hlt⟩;have Gd:c∈all:=xav pP;obtain⟨Bi,adf,hce⟩:=tb.ou Gd;refine aJ.KA (r:=my c) (by rw[xat,pP];rfl) (λz hz=>xae _ hz) ?_;intro b31 _;refine St.p (mg _) ?_;obtain⟨b1,rfl,Ym⟩:=dO;refine DR.self (Nil.ptr (ai.mk (Ld.f ?_)));refine ai.mk (az.mk (vs:=(bt c.d).toArray) (.head _) (by simp[my]) rfl ?_);have hTc:T' c.d=some c.r:=(Nk.kf c.d c.r).2 ⟨Bi,by rintro⟨c',pe,e⟩;exact hge pP (e▸xaT pe)⟩;refine aa.fq (yN (d:=c.d) Ym.ut (hok.mid.var Bi) hTc) ?_;rintro v CT' ⟨rfl,ZA⟩;refine ae.inc (aC.of .tail ⟨i+1,qM T' c.d none,_,rfl,rfl,by omega,⟨{b1 with CT:=CT'},rfl,{Ym with ut:=ZA}⟩,(Nk.agG (r:=c.r) (d:=c.d) Bi ?_).congr (λs=>?_) (λ_ _=>rfl),λd=>?_⟩ (by simp[bN];omega))
  ·rintro⟨c',pe,e⟩;exact hge pP (e▸xaT pe)
  ·rw[nB pP];constructor
   ·rintro(⟨c',pe,e⟩|e)
    ·exact⟨c',xae _ pe,e⟩
    exact⟨c,by simp,e⟩
   rintro⟨c',pe,e⟩;rcases xao.1 pe with pe|pe
   ·exact .inl ⟨c',pe,e⟩
   simp at pe;subst pe;exact .inr e
  unfold qM;split
  ·exact .inl rfl
  exact Nh d
 have hi':i=all.length:=by omega
 subst hi';rw[xbj]at Nk;have hTI:=tb.start Nk Nh;refine aJ.bV ?_;rw[xaE];refine⟨λvs H=>∃(i:Nat) (K1:Kd) (S1:Nat->au.Fn) (C1:Hp),vs=[iv (i:Int)]/\H=Na++C1/\i<=all.length/\cR kp K1 ord ah tr C1/\TI K S (lv ah) x y l made K1 S1 (all.take i) (all.drop i) (kx (all.take i))/\
   PL (kx (all.take i)) K1.N/\Idle K1/\(∀r d,K.N r=none->K1.N r=some d->0<K1.use r),
  λvs _=>all.length-bN vs 0,JE.mk ⟨0,_,S,C1,rfl,rfl,xaN _,dO,hTI,λt _ h=>by simp[kx]at h,RY,λr d h1 h2=>by rw[h1]at h2;cases h2⟩,?_⟩
 clear hTI Nk Nh dO T' C1 Ww hi;rintro w H ⟨i,K1,S1,C1,hw,rfl,hi,dO,Nh,WL,RX,X7⟩ gs;simp only[xau,xa1]at hw;subst hw;refine ae.fC (Br.dec (λhlt=>?_) (λWw=>?_))
 ·obtain⟨c,pP⟩:∃c,all[i]? =some c:=⟨_,xaa hlt⟩;have Gd:c∈all:=xav pP;obtain⟨Bi,adf,hce⟩:=tb.ou Gd;rw[hdr pP]at Nh;have ji:∀c'∈c::all.drop (i+1),c'∈all:=by rw[<-hdr pP];exact hmD
  have hPb:∀s,kx (all.take i) s<=2097152:=λs=>by have:=AX s (all.take i);rw[xbF]at this;omega
  refine aJ.KA (r:=my c) (by rw[xat,pP];rfl) (λz hz=>xae _ hz) ?_;intro b53 _;refine St.p (mg _) ?_;refine DR.self (Nil.ptr (ai.mk (Ld.f ?_)));refine Ld.f ?_;refine aa.fq (SE tb dO Nh ZP ji Gd (k:=⟨x,c.ym,c.ud⟩) (by simp[keys]) WL RX (λs=>by have:=hPb s;omega)) ?_;rintro w C2 ⟨t0,K2,S2,rfl,cT,hT2,ace,g0,WK,F8,aiD,afL⟩;refine Nil.ptr (ai.mk (aa.fq (PM cT hT2 WK F8 (λs=>by have:=hPb s;omega) (hT2.rG tb ZP ace)) ?_));rintro w C3 ⟨K3,rfl,jZ,hT3,aag,agJ,hN3,af7,acH⟩;have adz:∀s,(kx (all.take i) s+if s=t0 then 1 else 0)<=2097153:=λs=>by have:=hPb s;split<;>omega
  refine DR.self (Nil.ptr (ai.mk (Ld.f ?_)));refine Ld.f ?_;refine aa.fq (SE tb jZ hT3 ZP ji Gd (k:=⟨x,c.yl,c.uc⟩) (by simp[keys]) aag agJ (λs=>by have:=adz s;omega)) ?_;rintro w C4 ⟨t1,K4,S4,rfl,Nl,hT4,acd,g1,aaf,agI,XQ,afK⟩;refine Nil.ptr (ai.mk (aa.fq (PM Nl hT4 aaf agI (λs=>by have:=adz s;omega) (hT4.rG tb ZP acd)) ?_));rintro w C5 ⟨K5,rfl,KM,hT5,ame,agH,hN5,af6,acG⟩;have XV:yu K K5 (lv ah) x l t0:=yu.mono ace (λs d hs=>by rw[hN5];exact XQ s d (by rw[hN3];exact hs));have XU:yu K K5 (lv ah) x l t1:=yu.mono acd (λs d hs=>by rw[hN5];exact hs);have g0':(c.ym=c.ud/\t0=c.ym)\/K5.N t0=some ⟨x,c.ym,c.ud⟩:=by
   rcases g0 with g0|g0
   ·exact .inl g0
   exact .inr (by rw[hN5];exact XQ _ _ (by rw[hN3];exact g0))
  have g1':(c.yl=c.uc/\t1=c.yl)\/K5.N t1=some ⟨x,c.yl,c.uc⟩:=by
   rcases g1 with g1|g1
   ·exact .inl g1
   exact .inr (by rw[hN5];exact g1)
  have agr:((all.take i++c::all.drop (i+1)).map Cx.r).Nodup:=by rw[<-hdr pP,xbq];exact fD
  obtain⟨hTn,hT6⟩:=hT5.ew tb ZP ji agr XV XU g0' g1' (P':=kx (all.take (i+1))) (λs _=>by
   rw[nB pP,MD,eC ⟨y,t0,t1⟩];have W8:(if t0=s then 1 else 0)=(if s=t0 then 1 else 0:Nat):=by split<;>split<;>first|rfl|(exfalso;omega)
   have e2':(if t1=s then 1 else 0)=(if s=t1 then 1 else 0:Nat):=by split<;>split<;>first|rfl|(exfalso;omega)
   simp only[W8,e2'];omega)
  have RQ:∀{t:Nat},yu K K5 (lv ah) x l t->live K5.N t:=λhk=>hT5.rG tb ZP hk;have Z7:∃e,K5.N c.r=some e:=hT5.kept Bi;refine Build.mk (cs:=bt ⟨y,t0,t1⟩) zK λb83 _=>?_;refine St.p (λz hz=>by simp[bt,u32]at hz;rcases hz with rfl|rfl|rfl<;>rfl) ?_;obtain⟨b5,rfl,hO5⟩:=KM;refine DR.self (Nil.ptr (ai.mk (Ld.f ?_)));refine Ld.f ?_;refine az.q ?_;have Zy:y<K5.n:=by rw[hT5.n];exact nb.yn
  refine aa.fq (Xj (d:=⟨y,t0,t1⟩) hO5.ar ⟨by show y<64;have:=hO5.lP;omega,RQ XV,RQ XU⟩ Z7 (tb.ok.mid.two Bi).1) ?_;rintro w CA' ⟨rfl,har⟩;refine DR.self (Nil.ptr (ai.mk (Ld.f ?_)));refine az.q ?_;refine Ld.f ?_;refine aa.fq (JT (d:=⟨y,t0,t1⟩) (r:=c.r) hO5.ut Zy hTn) ?_;rintro w CT' ⟨rfl,ZA⟩;refine ae.inc (aC.of (.skip .tail) ⟨i+1,{K5 with N:=up K5.N c.r (some ⟨y,t0,t1⟩),T:=qM K5.T ⟨y,t0,t1⟩ (some c.r)},S4,_,rfl,rfl,by omega,⟨{b5 with CA:=CA',CT:=CT'},rfl,{hO5 with ar:=har,ut:=ZA}⟩,by rw[nB pP]at hT6⊢;exact hT6,λt SB hp=>?_,λs hs=>?_,λr d ZH hrd=>?_⟩ (by simp[bN];omega))
  ·obtain⟨c',pe,kj⟩:=CG hp;have ag3:=ZP c' pe;have Se:=(tb.ou ag3).1;have hlv:live K.N t:=by
    rcases kj with rfl|rfl
    ·exact tb.ok.mid.lo Se
    exact tb.ok.mid.hi Se
   rcases hlv with hlv|⟨d,hd⟩
   ·omega
   exact hT6.kept hd
  ·have hs':up K5.N c.r (some ⟨y,t0,t1⟩) s=none:=hs;have hne:s≠c.r:=λe=>by subst e;rw[aO]at hs';cases hs'
   rw[aQ hne]at hs';exact agH s hs'
  have ZE:up K5.N c.r (some ⟨y,t0,t1⟩) r=some d:=hrd;have hne:r≠c.r:=λe=>by rw[e,Bi]at ZH;cases ZH
  rw[aQ hne,hN5]at ZE;have Py:2<=r:=(hT4.mid.two ZE).1;show 0<K5.use r;rcases afK r d ZE with e|⟨h3,hu3⟩
  ·rw[e]at Py⊢;exact acG Py
  rw[hN3]at h3;have h5:=af6 r;rcases afL r d h3 with e|⟨h1,F0⟩
  ·rw[e]at Py⊢h5 hu3;have:=acH Py;omega
  have:=X7 r d ZH h1;have:=af7 r;omega
 have hi':i=all.length:=by omega
 subst hi';rw[xbj,xet]at Nh;rw[xbj]at WL;have uJ:=PT tb Nh X7;refine aJ.bV ?_;rw[xaE];refine⟨λvs H=>∃(i:Nat) (K2:Kd) (C2:Hp),vs=[iv (i:Int)]/\H=Na++C2/\i<=all.length/\cR kp K2 ord ah tr C2/\jP K2 S1 iN (kx (all.drop i))/\Pos K2/\PL (kx (all.drop i)) K2.N/\yq K2 K1,
  λvs _=>all.length-bN vs 0,JE.mk ⟨0,K1,C1,rfl,rfl,xaN _,dO,Nh.mid.congr (λs=>by simp[iN]) (λ_ _=>rfl),uJ,WL,.refl K1⟩,?_⟩
 clear dO WL hi Ww C1;rintro w H ⟨i,K2,C2,hw,rfl,hi,cT,KL,mV,WK,dX⟩ gs;simp only[xau,xa1]at hw;subst hw;refine ae.fC (Br.dec (λhlt=>?_) (λWw=>?_))
 ·obtain⟨c,pP⟩:∃c,all[i]? =some c:=⟨_,xaa hlt⟩;have Gd:c∈all:=xav pP;obtain⟨Bi,adf,hce⟩:=tb.ou Gd;have hPb:∀s,kx (all.drop i) s<=2097152:=λs=>by have:=AX s (all.drop i);rw[List.length_drop]at this;omega
  have hlo:=h0.lt (hok.mid.lo Bi);have hhi:=h0.lt (hok.mid.hi Bi);refine aJ.KA (r:=my c) (by rw[xat,pP];rfl) (λz hz=>xae _ hz) ?_;intro ane _;refine St.p (mg _) ?_;refine DR.self (Nil.ptr (ai.mk (ai.mk (Ld.f ?_))));have F8:Idle K2:=dX.idle RX;have hub:∀s,K2.use s<2147483648:=λs=>by have:=uW KL F8 hPb s;omega
  rw[hdr pP,QK]at KL WK;refine aa.fq (mH cT KL mV WK hlo hub) ?_;rintro w C3 ⟨rfl,K3,jZ,WM,Uj,aag,RS⟩;refine DR.self (Nil.ptr (ai.mk (ai.mk (Ld.f ?_))));refine aa.fq (mH jZ WM Uj aag hhi (λs=>xaA (RS.us s) (hub s))) ?_;rintro w C4 ⟨rfl,K4,Nl,hM4,hp4,aaf,ZQ⟩;exact ae.inc (aC.of .tail ⟨i+1,K4,C4,rfl,rfl,by omega,Nl,hM4,hp4,aaf,ZQ.trans (RS.trans dX)⟩ (by simp[bN];omega))
 have hi':i=all.length:=by omega
 subst hi';rw[xet]at KL;have F8:Idle K2:=dX.idle RX;obtain⟨f1,f2,f3⟩:=Nh.fin tb (K':=K2) (KL.congr (λ_=>xcT) (λ_ _=>rfl)) mV (λh=>dX.N h) dX.n (λr=>by show K2.ho.getD r 0=K1.ho.getD r 0;rw[dX.ho]);have Wp:K2.n=K.n:=by rw[dX.n,Nh.n]
 obtain⟨b2,rfl,hO2⟩:=cT;refine DR.self (Ld.n ?_);refine Ld.n ?_;refine ae.inc (hO2.od.ny (x:=(y:Int)) (.app (.cons (.app (.app (.app (.app .left)))))) (by rw[aq];omega) λCO1 Dy=>?_);refine Dy.ny (x:=(x:Int)) (.app (.cons (.app (.app (.app (.app .left)))))) (by rw[xbR,aq];omega) λCO2 yb=>?_;refine DR.self (Ld.n ?_);refine Ld.n ?_;refine ae.inc ?_;have nk:=hO2.ol.2;have hxn:=nb.xn;have Zy:=nb.yn;refine hO2.lv.ny (x:=((l+1:Nat):Int)) (.app (.cons (.app (.app (.app (.app (.app .left))))))) (by rw[aq];omega) λCL1 DB=>?_;refine DB.ny (x:=(l:Int)) (.app (.cons (.app (.app (.app (.app (.app .left))))))) (by rw[xbR,aq];omega) λCL2 qP=>?_;rw[fg,fg]at yb qP;have zl:(ord.set l y).set (l+1) x=fK ord l:=by rw[hx,hy];rfl
 rw[zl]at yb;have hlv:lv ((ah.set x (l+1)).set y l)=uj (lv ah) x y l:=Zk nb.ne zO zO;refine aN.mk .right (.inl ⟨by omega,rfl,K2,S1,_,⟨{b2 with CO:=CO2,CL:=CL2},rfl,{hO2 with od:=yb,lv:=qP,ol:=?_}⟩,by rw[hlv];exact f1,by rw[hlv,Wp,hx,hy];exact UU ho hl,F8,Wp,by rw[dX.cap,Nh.cap],λr=>?_,f2,f3⟩)
 ·rw[mF];simp;exact hO2.ol
 show K2.ho.getD r 0=K.hold r;rw[dX.ho];exact Nh.hold r
end
structure bP(kp:Nat)(K:Kd)(S:Nat->au.Fn)(ord ah tr:zL)(C:Hp):Prop where
 rep:cR kp K ord ah tr C
 ok:Ok K S (lv ah)
 od:Ord K.n (lv ah) ord
 idle:Idle K
 tr:yo K.n K.cap (K.held S) ord tr.reverse
theorem Kept.refl(K:Kd)(S:Nat->au.Fn):Kept K S K S:=⟨rfl,rfl,λ_=>rfl,λ_=>xcT,λ_ _=>rfl⟩
theorem Kept.trans{K K' K2:Kd}{S S' S2:Nat->au.Fn}(h:Kept K S K' S')(h':Kept K' S' K2 S2):Kept K S K2 S2:=
 ⟨h'.n.trans h.n,h'.cap.trans h.cap,λr=>(h'.hold r).trans (h.hold r),λg=>(h'.held g).trans (h.held g),λr hr=>(h'.fn r (by rw[h.hold];exact hr)).trans (h.fn r hr)⟩
section
variable {kp:Nat} {K:Kd} {ord ah tr:zL} {C:Hp} {S:Nat->au.Fn}
theorem SQ(h:bP kp K S ord ah tr C){l:Int}(hl:¬(0<=l/\l+1<K.n)):Rd zQ 94 #[ptr kp,iv l] C (· =iv 1):=by
 obtain⟨b,rfl,hO⟩:=h.rep;have hn:=hO.lP;refine aI λg=>Ak (ae.aL (Br.no (ae.lss (cS.or (decide ((K.n:Int) -2<l)) (λ_=>?_) zI λgs=>?_))))
 ·refine Ld.n ?_;exact ae.lq (c:=(K.n:Int) -2) rfl zO (ae.gtr ⟨rfl,rfl⟩)
 rw[<-xa4];exact Br.T (bc.mk (.refl _) rfl)
theorem KY(h:bP kp K S ord ah tr C){l:Nat}(hl:l+1<K.n)(fh:tr.length<17592186044416):Fc zQ 94 #[ptr kp,iv (l:Int)] C (λr C'=>
   (AE K.n ord l (K.held S)+2<=K.cap/\r=iv 0/\∃K' S' bR,bP kp K' S' (fK ord l) bR (tr++[l]) C'/\Kept K S K' S')\/
   (K.cap<AE K.n ord l (K.held S)+2/\r=iv 9/\C'=C)):=by
 have h0:=h;obtain⟨b,hC,hO⟩:=h.rep;have hn:=hO.lP;refine aI λg=>Ak (ae.aL (Br.no (ae.lss (cS.or (decide ((K.n:Int) -2<l)) (λ_=>?_) zI λgs=>?_))))
 ·refine Ld.v (by rw[hC];exact .head _) ?_;exact ae.lq (c:=(K.n:Int) -2) rfl zO (ae.gtr ⟨rfl,rfl⟩)
 rw[<-xa4];refine Br.F (aa.fq (JU h.rep h.ok h.od h.idle hl) ?_);rintro w C' (⟨hfit,rfl,K',S',bR,cZ,ya,ZN,wq,rJ⟩|⟨hno,rfl,rfl⟩)
 ·refine Un.not (Br.no ?_);obtain⟨b',rfl,yf⟩:=cZ;refine Ld.n ?_;refine ax.int (e:=3) zK zK zK λbx=>?_;refine yf.tr.rZ (.cons (.cons (.app (.app (.app (.app (.app (.app .here)))))))) (by exact .head _) (by rw[aq];omega) (by rw[aq];omega) λv' CR' cz=>?_;refine Nil.ptr (ai.mk (St.one (by exact .tail (.head _)) cz.one (by simp[uD.cells]) rfl ?_));refine aN.mk .tail (.inl ⟨hfit,rfl,K',S',bR,⟨⟨{b' with vt:=v',CR:=CR'},rfl,{yf with tr:=by rw[cC];exact cz}⟩,ya,ZN,wq,?_⟩,rJ⟩);rw[rJ.n,rJ.cap];exact(yo.ahS hO.ol.1 hl hfit h.tr).congr λg=>(rJ.held g).symm
 exact Un.not (Br.yes (aN.here (.inr ⟨hno,rfl,rfl⟩)))
theorem UO{l:Nat}(h:bP kp K S ord ah (tr++[l]) C)(fh:tr.length<17592186044416):Fc zQ 231 #[ptr kp] C (λr C'=>
   r=.tuple #[iv (l:Int),iv 0]/\l+1<K.n/\∃K' S' bR,bP kp K' S' (fK ord l) bR tr C'/\Kept K S K' S'):=by
 have h0:=h;obtain⟨b,hC,hO⟩:=h.rep;have hn:=hO.lP;have RF:=h.tr;rw[List.reverse_append]at RF;obtain⟨hl,hfit,uv⟩:l+1<K.n/\AE K.n ord l (K.held S)+2<=K.cap/\yo K.n K.cap (K.held S) (fK ord l) tr.reverse:=RF;have hmk:(kp,Obj.cells (b.cells K.n) 91 zZ)∈C:=by rw[hC];exact .head _
 refine aI λg=>HQ (ae.aL (cS.or false (λ_=>?_) rfl λgs=>Br.no ?_))
 ·refine Ld.v hmk ?_;refine hO.tr.bV (ae.gJ ⟨rfl,?_⟩);rw[xal];rw[aq,xaf];simp;omega
 refine Ld.v hmk ?_;refine hO.tr.bV ?_;rw[aq,xaf];refine ae.ca (a:=tr.length+1) (b:=1) ?_;rw[xb6];refine Ld.v hmk ?_;refine hO.tr.ld (i:=tr.length) (x:=(l:Int)) (by rw[cC];simp[iw]) (by rw[hC];exact bH.sub (.cons (.app (.app (.app (.app (.app (.app .here)))))))) (aa.fq (JU h.rep h.ok h.od h.idle hl) ?_);rintro w C' (⟨_,rfl,K',S',bR,cZ,ya,ZN,wq,rJ⟩|⟨hno,rfl,rfl⟩);rotate_left
 ·omega
 obtain⟨b',rfl,yf⟩:=cZ;refine Ld.n ?_;refine yf.tr.cut (i:=tr.length) (by rw[aq];simp) λv' n8=>?_;refine Nil.ptr (ai.mk (St.one (by exact .head _) n8.one (by simp[uD.cells]) rfl ?_));refine aN.here ⟨rfl,hl,K',S',bR,⟨⟨{b' with vt:=v'},rfl,{yf with tr:=by rw[cC,xez zI]at n8;exact n8}⟩,ya,ZN,wq,?_⟩,rJ⟩;rw[rJ.n,rJ.cap];exact uv.congr λg=>(rJ.held g).symm
theorem bP.bM(h:bP kp K S ord ah tr C){r:Nat}(hl:live K.N r):r<1048576:=h.rep.lt hl
theorem bP.dR(h:bP kp K S ord ah tr C)(r:Nat):K.hold r<=65535:=h.ok.mid.mx r
theorem bP.EY(h:bP kp K S ord ah tr C)(r:Nat):K.use r<=2097153:=by have:=uW h.ok.mid h.idle (M:=0) (λ_=>xaj _) r;omega
structure Xu(K K':Kd)(r:Nat):Prop where
 n:K'.n=K.n
 cap:K'.cap=K.cap
 used:K'.used=K.used
 N:K'.N=K.N
 hold:∀s,K'.hold s=if s=r/\2<=r then K.hold s+1 else K.hold s
theorem o9(h:bP kp K S ord ah tr C){r:Nat}(hl:live K.N r)(h2:2<=r)(hf:K.hold r=65535):Rd zQ 84 #[ptr kp,u32 r] C (· =iv 8):=by
 have hr:=h.bM hl;obtain⟨b,hC,hO⟩:=h.rep;have hfit:r<K.ho.length:=by
  rcases hl with hl|⟨d,hd⟩
  ·omega
  rw[<-hO.ul.1];exact h.ok.mid.fit hd
 refine aI λg=>An (ae.aL (Br.no (Nil.ptr (ai.mk (aa.eq (n7 h.rep zO) ?_)))));rw[bZ.2 hl];refine Un.not (Br.no λJ7 _=>(ae.nE (b:=1) (Br.T (Nil.ptr (ai.mk (Ld.u (by rw[hC];exact .head _) ?_))))));refine hO.ho.ld (x:=((K.hold r:Nat):Int)) (bE hfit) (by rw[hC];exact bH.sub (.cons (.app (.app (.app .left))))) ?_;rw[hf];exact ae.gJ (Br.T (bc.mk (.refl _) rfl))
theorem Dn(h:cR kp K ord ah tr C)(hM0:jP K S iN zero')(Wv:Idle K){r:Nat}(hl:live K.N r)(hf:2<=r->K.hold r<65535):Fc zQ 84 #[ptr kp,u32 r] C (λv C'=>v=iv 0/\∃K',cR kp K' ord ah [] C'/\
  jP K' S iN zero'/\Idle K'/\Xu K K' r/\(∀s,K.use s<=K'.use s)/\(2<=r->0<K'.use r)):=by
 have hr:=h.lt hl;have h0:=h;obtain⟨b,hC,hO⟩:=h;refine aI λg=>An (ae.aL (Br.no (Nil.ptr (ai.mk (aa.eq (n7 h0 zO) ?_)))));rw[bZ.2 hl];refine Un.not (Br.no λJ7 hJ7=>?_);have fin:∀(K':Kd) C1,cR kp K' ord ah tr C1->jP K' S iN zero'->Idle K'->Xu K K' r->(∀s,K.use s<=K'.use s)->(2<=r->0<K'.use r)->J7 [] C1:=λK' C1 cZ ya wq hm hu hp=>by
  refine hJ7 _ λgs=>?_;obtain⟨b',rfl,yf⟩:=cZ;refine Nil.ptr (ai.mk (St.one (by exact .head _) rfl (by simp[uD.cells]) rfl ?_));refine aN.mk (nH:=({b' with vt:=.slice none 0 0,CR:=[]}:uD).hp kp K'.n) ?_ ⟨rfl,K',⟨{b' with vt:=.slice none 0 0,CR:=[]},rfl,{yf with tr:=aS.nil}⟩,ya,wq,hm,hu,hp⟩;refine .cons (.de (.de (.de (.de (.de (.de .nil _) _) _) _) _) _)
 refine ae.nE (b:=1) (Br.dec (λh2=>?_) (λh2=>?_));rotate_left
 ·refine JE.mk (fin K C h0 hM0 Wv ⟨rfl,rfl,rfl,rfl,λs=>?_⟩ (λ_=>xaj _) (λh=>by omega));rw[xab zO]
 have nL:2<=r:=by omega
 have Pp:=hf nL;obtain⟨d,hd⟩:∃d,K.N r=some d:=by
  rcases hl with hl|hl
  ·omega
  exact hl
 have hfu:=hM0.fit hd;have M1:=hO.ul;have hfit:r<K.ho.length:=by omega
 subst hC;refine Nil.ptr (ai.mk (Ld.f ?_));refine hO.ho.ld (x:=((K.hold r:Nat):Int)) (bE hfit) (bH.sub (.cons (.app (.app (.app .left))))) (ae.gJ (Br.F (Nil.ptr (ai.mk (Ld.f ?_)))));refine hO.ho.ld (x:=((K.hold r:Nat):Int)) (bE hfit) (bH.sub (.cons (.app (.app (.app .left))))) (ae.inc (hO.ho.ny (x:=((K.hold r+1:Nat):Int)) (.cons (.app (.app (.app .left)))) (by rw[aq];exact hfit) λUa l7=>?_));rw[fg]at l7;have g1:∀s,(K.ho.set r (K.hold r+1)).getD s 0=if s=r then K.hold r+1 else K.hold s:=λs=>gU hfit
 refine Nil.ptr (ai.mk (Ld.f ?_));refine l7.ld (x:=((K.hold r+1:Nat):Int)) (by rw[bE (by simpa using hfit),g1,xad rfl]) (bH.sub (.cons (.app (.app (.app .left))))) ?_;refine ae.dx (b:=1) (Br.dec (λh3=>?_) (λh3=>?_))
 ·refine Nil.ptr (ai.mk (Ld.f ?_));refine hO.us.ld (x:=((K.use r:Nat):Int)) (bE hfu) (bH.sub (.cons (.app (.app .left)))) ?_;have hub:=uW hM0 Wv (M:=0) (λ_=>xaj _) r;refine ae.inc (hO.us.ny (x:=((K.use r+1:Nat):Int)) (.cons (.app (.app .left))) (by rw[aq];exact hfu) λUC Bd=>?_);rw[fg]at Bd;have g2:∀s,(K.us.set r (K.use r+1)).getD s 0=if s=r then K.use r+1 else K.use s:=λs=>gU hfu
  have hM:=hM0.keep (r:=r) (dA:=K.us.set r (K.use r+1)) (cz:=K.ho.set r (K.hold r+1)) ⟨d,hd⟩ Pp zI (by rw[g1,xad rfl]) (λs hs=>by rw[g1,xab hs]) (by rw[g2,xad rfl,xad zO]) (λs hs=>by rw[g2,xab hs]);refine JE.mk (fin {K with us:=K.us.set r (K.use r+1),ho:=K.ho.set r (K.hold r+1)} _ ⟨{b with CU:=UC,CH:=Ua},rfl,{hO with us:=Bd,ho:=l7,ul:=by simp;exact M1}⟩ hM (λs hs=>?_) ⟨rfl,rfl,rfl,rfl,λs=>?_⟩ (λs=>?_) (λ_=>?_))
  ·show(K.us.set r (K.use r+1)).getD s 0=0;have hs':K.N s=none:=hs;rw[g2,xab (λe=>by rw[e,hd]at hs';cases hs')];exact Wv s hs'
  ·show(K.ho.set r (K.hold r+1)).getD s 0=_;rw[g1];by_cases e:s=r
   ·subst e;rw[xad rfl,xad ⟨rfl,nL⟩]
   rw[xab e,xab (λh=>e h.1)]
  ·show K.use s<=(K.us.set r (K.use r+1)).getD s 0;rw[g2];split
   ·rename_i e;subst e;omega
   exact xaj _
  show 0<(K.us.set r (K.use r+1)).getD r 0;rw[g2,xad rfl];omega
 have hM:=hM0.keep (r:=r) (dA:=K.us) (cz:=K.ho.set r (K.hold r+1)) ⟨d,hd⟩ Pp zI (by rw[g1,xad rfl]) (λs hs=>by rw[g1,xab hs]) (by show K.use r=_;rw[xab zO];rfl) (λs hs=>rfl);refine JE.mk (fin {K with ho:=K.ho.set r (K.hold r+1)} _ ⟨{b with CH:=Ua},rfl,{hO with ho:=l7,ul:=by simp;exact M1}⟩ hM Wv ⟨rfl,rfl,rfl,rfl,λs=>?_⟩ (λ_=>xaj _) (λ_=>?_));rotate_left
 ·show 0<K.use r;rw[hM0.use hd,xab zO];omega
 show(K.ho.set r (K.hold r+1)).getD s 0=_;rw[g1];by_cases e:s=r
 ·subst e;rw[xad rfl,xad ⟨rfl,nL⟩]
 rw[xab e,xab (λh=>e h.1)]
theorem mR(h:bP kp K S ord ah tr C){r:Nat}(hl:live K.N r)(hf:2<=r->K.hold r<65535):Fc zQ 84 #[ptr kp,u32 r] C (λv C'=>v=iv 0/\∃K',bP kp K' S ord ah [] C'/\Xu K K' r):=by
 refine(Dn h.rep h.ok.mid h.idle hl hf).mono ?_;rintro v C' ⟨rfl,K',cZ,hM',wq,hm,hu,hp⟩;refine⟨rfl,K',⟨cZ,⟨hM',λs d hs=>?_,by rw[hm.n];exact h.ok.lv,by rw[hm.n,hm.N];exact h.ok.wf⟩,by rw[hm.n];exact h.od,wq,trivial⟩,hm⟩;rw[hm.N]at hs;exact xaP (h.ok.pos s d hs) (hu s)
end
section
variable {kp:Nat} {K:Kd} {ord ah tr:zL} {C:Hp} {S:Nat->au.Fn}
theorem Kz{K':Kd}{P:Nat->Nat}(hw:WF K.n (lv ah) K.N)(hM:jP K' S iN P)(hN:∀{s d},K'.N s=some d->K.N s=some d)(hn:K'.n=K.n):WF K'.n (lv ah) K'.N:=by
 have same:∀{t},live K'.N t->dep K'.n (lv ah) K'.N t=dep K.n (lv ah) K.N t:=λ{t} ht=>by
  cases e:K'.N t with
  |some f=>rw[an e,an (hN e)]
  |none=>
   have X1:t<2:=by
    rcases ht with ht|⟨f,hf⟩
    ·exact ht
    rw[e]at hf;cases hf
   rw[aT e,aT (hw.const X1),hn]
 refine hM.wf λ{s d} hs=>?_;rw[same (hM.lo hs),same (hM.hi hs)];exact⟨(hw.lo (hN hs)).2,(hw.hi (hN hs)).2⟩
structure AA(K K':Kd)(r:Nat):Prop where
 n:K'.n=K.n
 cap:K'.cap=K.cap
 N:∀s d,K'.N s=some d->K.N s=some d
 hold:∀s,K'.hold s=if s=r/\2<=r then K.hold s-1 else K.hold s
theorem ad4(h:bP kp K S ord ah tr C){r:Nat}(hr:r<4294967296)(h2:2<=r)(h0:K.hold r=0):Rd zQ 85 #[ptr kp,u32 r] C (· =iv 3):=by
 refine aI λg=>Am (ae.aL (Br.no ?_));intro J2 _;refine ae.nE (b:=1) (Br.T (aa.eq (v5 h.rep hr (λs=>by have:=h.dR s;omega)) ?_));rw[h0];exact ae.gJ (Br.T (bc.mk (.refl _) rfl))
theorem m4(h:bP kp K S ord ah tr C){r:Nat}(hr:r<4294967296)(hh:2<=r->K.hold r≠0):Fc zQ 85 #[ptr kp,u32 r] C (λv C'=>v=iv 0/\∃K',bP kp K' S ord ah [] C'/\AA K K' r):=by
 have h0:=h;obtain⟨b,hC,hO⟩:=h.rep;refine aI λg=>Am (ae.aL (Br.no ?_));intro J2 BV;have fin:∀(K':Kd) C1,cR kp K' ord ah tr C1->Ok K' S (lv ah)->Idle K'->AA K K' r->J2 [] C1:=λK' C1 cZ ya wq hm=>by
  refine BV _ λgs=>?_;obtain⟨b',rfl,yf⟩:=cZ;refine Nil.ptr (ai.mk (St.one (by exact .head _) rfl (by simp[uD.cells]) rfl ?_));have kV:Ord K'.n (lv ah) ord:=by rw[hm.n];exact h.od
  refine aN.mk (nH:=({b' with vt:=.slice none 0 0,CR:=[]}:uD).hp kp K'.n) ?_ ⟨rfl,K',⟨⟨{b' with vt:=.slice none 0 0,CR:=[]},rfl,{yf with tr:=aS.nil}⟩,ya,kV,wq,trivial⟩,hm⟩;refine .cons (.de (.de (.de (.de (.de (.de .nil _) _) _) _) _) _)
 refine ae.nE (b:=1) (Br.dec (λh2=>?_) (λh2=>?_));rotate_left
 ·exact JE.mk (fin K C h.rep h.ok h.idle ⟨rfl,rfl,λ_ _ h=>h,λs=>by rw[xab zO]⟩)
 have nL:2<=r:=by omega
 have l7:=hh nL;obtain⟨d,hd⟩:=h.ok.mid.held r l7;have hfu:=h.ok.mid.fit hd;have M1:=hO.ul;have hfit:r<K.ho.length:=by omega
 have hle:=h.dR r;refine aa.eq (v5 h.rep hr (λs=>by have:=h.dR s;omega)) (ae.gJ (Br.F ?_));subst hC;refine Nil.ptr (ai.mk (Ld.f ?_));refine hO.ho.ld (x:=((K.hold r:Nat):Int)) (bE hfit) (bH.sub (.cons (.app (.app (.app .left))))) (ae.ca (b:=1) (hO.ho.ny (x:=((K.hold r-1:Nat):Int)) (.cons (.app (.app (.app .left)))) (by rw[aq];exact hfit) λUa ZZ=>?_));rw[fg]at ZZ;have g1:∀s,(K.ho.set r (K.hold r-1)).getD s 0=if s=r then K.hold r-1 else K.hold s:=λs=>gU hfit
 have hM:=h.ok.mid.drop (r:=r) (cz:=K.ho.set r (K.hold r-1)) zO zI (by rw[g1,xad rfl];omega) (λs hs=>by rw[g1,xab hs]);have dO:cR kp {K with ho:=K.ho.set r (K.hold r-1)} ord ah tr (({b with CH:=Ua}:uD).hp kp K.n):=⟨_,rfl,{hO with ho:=ZZ,ul:=by simp;exact M1}⟩;have hho:∀s,(K.ho.set r (K.hold r-1)).getD s 0=if s=r/\2<=r then K.hold s-1 else K.hold s:=λs=>by
  rw[g1];by_cases e:s=r
  ·subst e;rw[xad rfl,xad ⟨rfl,nL⟩]
  rw[xab e,xab (λh=>e h.1)]
 refine Nil.ptr (ai.mk (Ld.f ?_));refine ZZ.ld (x:=((K.hold r-1:Nat):Int)) (by rw[bE (by simpa using hfit),g1,xad rfl]) (bH.sub (.cons (.app (.app (.app .left))))) (ae.dx (b:=0) (Br.dec (λh3=>?_) (λh3=>?_)));rotate_left
 ·rw[xab zO]at hM;exact JE.mk (fin {K with ho:=K.ho.set r (K.hold r-1)} _ dO ⟨hM,h.ok.pos,h.ok.lv,h.ok.wf⟩ h.idle ⟨rfl,rfl,λ_ _ h=>h,hho⟩)
 rw[xad zO]at hM;refine Nil.ptr (ai.mk ?_);have KL:jP {K with ho:=K.ho.set r (K.hold r-1)} S iN (gX zero' [r]):=hM.congr (λ_=>xcT) λs _=>by
  unfold up gX zero';by_cases e:s=r
  ·subst e;simp
  simp[e,xa9 e]
 refine aa.fq (mH (P0:=zero') dO KL h.ok.pos (λt SB h0=>?_) (h.bM (.inr ⟨d,hd⟩)) (λs=>by have:=h.EY s;show K.use s<_;omega)) ?_
 ·by_cases e:t=r
  ·subst e;exact⟨d,hd⟩
  have h0':0<zero' t+[r].count t:=h0;simp[zero',xa9 e]at h0'
 rintro w C2 ⟨rfl,K2,cT,WM,Uj,_,dX⟩;refine JE.mk (fin K2 _ cT ⟨WM,Uj,by rw[dX.n];exact h.ok.lv,Kz h.ok.wf WM (λh=>dX.N h) dX.n⟩ (dX.idle h.idle) ⟨dX.n,dX.cap,λs e hs=>dX.N hs,λs=>?_⟩);show K2.ho.getD s 0=_;rw[dX.ho];exact hho s
structure pX(K:Kd)(S:Nat->au.Fn)(K':Kd)(S':Nat->au.Fn)(f:au.Fn)(r:Nat):Prop where
 n:K'.n=K.n
 cap:K'.cap=K.cap
 used:K'.used<=K.used+1
 N:∀s d,K.N s=some d->K'.N s=some d
 fn:∀s,live K.N s->S' s=S s
 live:live K'.N r
 is:S' r=f
 hold:∀s,K'.hold s=if s=r/\2<=r then K.hold s+1 else K.hold s
theorem A4(h:bP kp K S ord ah tr C){v lo hi:Nat}(hv:v<K.n)(hlo:live K.N lo)(hhi:live K.N hi)(hlt:lo=hi\/(lv ah v<dep K.n (lv ah) K.N lo/\lv ah v<dep K.n (lv ah) K.N hi)):
  Fc zQ 98 #[ptr kp,iv (v:Int),u32 lo,u32 hi] C (λw C'=>
   (∃r K' S',w=.tuple #[u32 r,iv 0]/\bP kp K' S' ord ah [] C'/\pX K S K' S' (ite S ⟨v,lo,hi⟩) r)\/
   (∃r,w=.tuple #[u32 0,iv 8]/\C'=C/\live K.N r/\2<=r/\K.hold r=65535/\S r=ite S ⟨v,lo,hi⟩)\/
   (w=.tuple #[u32 0,iv 9]/\C'=C/\K.cap<=K.used/\lo≠hi/\K.T ⟨v,lo,hi⟩=none)):=by
 have h0:=h;have agA:=h.bM hlo;have agK:=h.bM hhi;have DB:=bZ.2 hlo;have qP:=bZ.2 hhi;have hfe:pT K ah (v:Int) lo hi=0:=by
  unfold pT;rw[xab zO,xab (by rw[DB,qP];simp),xab];rintro⟨hne,hmin⟩;rcases hlt with e|⟨a,b⟩
  ·exact hne e
  simp only[xbe,lv]at hmin a b;omega
 refine aI λg=>N9 (ae.aL (Br.no (aa.eq (KX h.rep (v:Int) zO zO (λr d hd=>⟨h.ok.mid.var hd,(h.ok.mid.two hd).1⟩)) ?_)));rw[hfe];refine ae.cD (Br.F (aa.rq (Kb h.rep (lo:=lo) (hi:=hi) hv) ?_));rintro w hw;have there:∀(J9:List zV->Hp->Prop),(∀w12:zV,∀H11:Hp,(∀amN:Fr,aa zQ g 84 #[ptr kp,w12] H11 (λv13 H14=>ae .num .neq v13 (Value.int .i64 0) λv15=>Br v15
   (aN (λw C'=>(∃r K' S',w=.tuple #[u32 r,iv 0]/\bP kp K' S' ord ah [] C'/\pX K S K' S' (ite S ⟨v,lo,hi⟩) r)\/
   (∃r,w=.tuple #[u32 0,iv 8]/\C'=C/\live K.N r/\2<=r/\K.hold r=65535/\S r=ite S ⟨v,lo,hi⟩)\/
   (w=.tuple #[u32 0,iv 9]/\C'=C/\K.cap<=K.used/\lo≠hi/\K.T ⟨v,lo,hi⟩=none)) (.returned (.tuple #[(Value.int .u32 0),v13])) H14) (aN (λw C'=>(∃r K' S',w=.tuple #[u32 r,iv 0]/\bP kp K' S' ord ah [] C'/\pX K S K' S' (ite S ⟨v,lo,hi⟩) r)\/
   (∃r,w=.tuple #[u32 0,iv 8]/\C'=C/\live K.N r/\2<=r/\K.hold r=65535/\S r=ite S ⟨v,lo,hi⟩)\/
   (w=.tuple #[u32 0,iv 9]/\C'=C/\K.cap<=K.used/\lo≠hi/\K.T ⟨v,lo,hi⟩=none)) (.returned (.tuple #[w12,(Value.int .i64 0)])) H14)) (dj (aN (λw C'=>(∃r K' S',w=.tuple #[u32 r,iv 0]/\bP kp K' S' ord ah [] C'/\pX K S K' S' (ite S ⟨v,lo,hi⟩) r)\/
   (∃r,w=.tuple #[u32 0,iv 8]/\C'=C/\live K.N r/\2<=r/\K.hold r=65535/\S r=ite S ⟨v,lo,hi⟩)\/
   (w=.tuple #[u32 0,iv 9]/\C'=C/\K.cap<=K.used/\lo≠hi/\K.T ⟨v,lo,hi⟩=none)))))->J9 [w12] H11)->
   ∀r,live K.N r->S r=ite S ⟨v,lo,hi⟩->J9 [u32 r] C:=λJ9 Sz r hr hS=>by
  refine Sz _ _ λgs=>?_;by_cases hf:2<=r/\K.hold r=65535
  ·exact aa.eq (o9 h hr hf.1 hf.2) (ae.cD (Br.T (aN.here (.inr (.inl ⟨r,rfl,rfl,hr,hf.1,hf.2,hS⟩)))))
  refine aa.fq (mR h hr (λh2=>by have:=h.dR r;omega)) ?_;rintro w C' ⟨rfl,K',cZ,hm⟩;refine ae.cD (Br.F (aN.here (.inl ⟨r,K',S,rfl,cZ,⟨hm.n,hm.cap,by rw[hm.used];omega,λs d hs=>by rw[hm.N];exact hs,λ_ _=>rfl,by rw[hm.N];exact hr,hS,hm.hold⟩⟩)))
 by_cases he:lo=hi
 ·rw[xad he]at hw;subst hw;refine Ext.two λJ9 Sz=>(Un.not (Br.no (JE.mk (there J9 Sz lo hlo ?_))))
  funext z
  unfold au.ite;simp[he]
 rw[xab he]at hw;have iA:lv ah v<dep K.n (lv ah) K.N lo/\lv ah v<dep K.n (lv ah) K.N hi:=by
  rcases hlt with e|e
  ·exact absurd e he
  exact e
 obtain⟨o,ho⟩:∃o,o=K.T ⟨v,lo,hi⟩:=⟨_,rfl⟩;cases o with
 |some r=>
  have hT:K.T ⟨v,lo,hi⟩=some r:=ho.symm;rw[hT]at hw;subst hw;refine Ext.two λJ9 Sz=>?_;have hN:=((h.ok.mid.kf _ r).1 hT).1;refine Un.not (Br.no (JE.mk (there J9 Sz r (.inr ⟨_,hN⟩) ?_)))
  funext z
  rw[h.ok.mid.int.node hN];rfl
 |none=>
  have hT:K.T ⟨v,lo,hi⟩=none:=ho.symm;rw[hT]at hw;subst hw;refine Ext.two λJ9 Sz=>(Un.not (Br.yes (Nil.ptr (ai.mk ?_))));have hcap:=h.ok.mid.cap;refine aa.eq (Dl h.rep (m:=1) zO zO) (Un.not ?_);by_cases hroom:K.used+1<=K.cap;rotate_left
  ·rw[xal hroom];exact Br.yes (aN.here (.inr (.inr ⟨rfl,rfl,by omega,he,hT⟩)))
  rw[xam hroom];refine Br.no (Nil.ptr (ai.mk (Build.mk (cs:=bt ⟨v,lo,hi⟩) zK ?_)));have hfit:∀{t:Nat},live K.N t->t<2\/t<K.us.length:=λht'=>by
   rcases ht' with ht'|⟨d,dP⟩
   ·exact .inl ht'
   exact .inr (h.ok.mid.fit dP)
  have sP:K.n<=64:=by obtain⟨_,_,hO⟩:=h.rep;exact hO.lP
  refine aa.fq (JW h.rep (d:=⟨v,lo,hi⟩) ⟨by show v<64;omega,hlo,hhi⟩ hv hT zO (hfit hlo) (hfit hhi) (λs=>by have:=h.EY s;omega)) ?_;rintro w C1 ⟨r,dA,cz,rfl,hN,h2,hrc,hlen,hru,M1,u0,u1,u2,o0,o1,dO⟩;have Nk:=h.ok.mid.lay (r:=r) (d:=⟨v,lo,hi⟩) hN ⟨h2,hrc⟩ hv he hlo hhi hT (λh=>h) rfl zO hlen ⟨hru,M1⟩ u0 u1 o0 o1;have ahs:∀s d,K.N s=some d->up K.N r (some ⟨v,lo,hi⟩) s=some d:=λs d hs=>by rw[aQ (λe=>by rw[e,hN]at hs;cases hs)];exact hs
  have hne:∀{t:Nat},live K.N t->t≠r:=λht=>gh ht h2 hN;have RX:Idle {K with N:=up K.N r (some ⟨v,lo,hi⟩),T:=qM K.T ⟨v,lo,hi⟩ (some r),used:=K.used+1,us:=dA,ho:=cz}:=λs hs=>by
   have hs':up K.N r (some ⟨v,lo,hi⟩) s=none:=hs;have RI:s≠r:=λe=>by subst e;rw[aO]at hs';cases hs'
   rw[aQ RI]at hs';show dA.getD s 0=0;by_cases h2s:2<=s
   ·rw[u1 s h2s RI,h.idle s hs',eC];have a1:lo≠s:=λe=>by
     rcases hlo with h5|⟨d,h5⟩
     ·omega
     rw[e,hs']at h5;cases h5
    have a2:hi≠s:=λe=>by
     rcases hhi with h5|⟨d,h5⟩
     ·omega
     rw[e,hs']at h5;cases h5
    simp[a1,a2]
   rw[u2 s zO,h.idle s hs']
  refine JE.mk (Sz _ _ λgs=>?_);refine aa.fq (Dn dO Nk RX (r:=r) (.inr ⟨_,aO⟩) (λ_=>by show cz.getD r 0<65535;rw[o0];omega)) ?_;rintro w C2 ⟨rfl,K2,cT,KL,F8,hm,hu,hp⟩;refine ae.cD (Br.F ?_);have Wp:K2.n=K.n:=hm.n;have hN2:K2.N=up K.N r (some ⟨v,lo,hi⟩):=hm.N;have hpos:Pos K2:=λs d hs=>by
   by_cases e:s=r
   ·rw[e];exact hp h2
   rw[hN2,aQ e]at hs;have h3:=hu s;have h4:({K with N:=up K.N r (some ⟨v,lo,hi⟩),T:=qM K.T ⟨v,lo,hi⟩ (some r),used:=K.used+1,us:=dA,ho:=cz}:Kd).use s=dA.getD s 0:=rfl;rw[h4,u1 s (h.ok.mid.two hs).1 e]at h3;have:=h.ok.pos s d hs;omega
  have Bg:∀{t:Nat},live K.N t->dep K2.n (lv ah) K2.N t=dep K.n (lv ah) K.N t:=λ{t} ht=>by
   rw[hN2,Wp];unfold dep;rw[aQ (hne ht)]
  have af1:WF K2.n (lv ah) K2.N:=KL.wf λ{s d} hs=>by
   rw[hN2]at hs;by_cases e:s=r
   ·rw[e,aO]at hs;cases hs;rw[Bg hlo,Bg hhi];exact iA
   rw[aQ e]at hs;rw[Bg (h.ok.wf.lo hs).1,Bg (h.ok.wf.hi hs).1];exact⟨(h.ok.wf.lo hs).2,(h.ok.wf.hi hs).2⟩
  have hS:∀s,live K.N s->up S r (ite S ⟨v,lo,hi⟩) s=S s:=λs hs=>aQ (hne hs);refine aN.here (.inl ⟨r,K2,up S r (ite S ⟨v,lo,hi⟩),rfl,⟨cT,⟨KL,hpos,by rw[Wp];exact h.ok.lv,af1⟩,by rw[Wp];exact h.od,F8,trivial⟩,⟨Wp,hm.cap,by rw[hm.used];exact xaj _,λs d hs=>by rw[hN2];exact ahs s d hs,hS,.inr ⟨_,by rw[hN2];exact aO⟩,aO,λs=>?_⟩⟩);rw[hm.hold];show(if s=r/\2<=r then cz.getD s 0+1 else cz.getD s 0)=_;by_cases e:s=r
  ·subst e;rw[xad ⟨rfl,h2⟩,xad ⟨rfl,h2⟩,o0];have:K.hold s=0:=by
    apply xdD;intro hne;obtain⟨d,hd⟩:=h.ok.mid.held s hne;rw[hN]at hd;cases hd
   omega
  rw[xab (λh=>e h.1),xab (λh=>e h.1),o1 s e]
end
theorem hnew{H:Hp}:bH [] H (λX=>X++H):=bH.left
theorem RB{n:Nat}(hn:n<=64):Fc zQ 61 #[iv (n:Int)] [] (λv H=>aS 3 .i64 v (iw (List.range n)) H):=by
 refine aI λg=>OG (cU.ints zO zO λb=>?_);have h0:aS 3 .i64 (.slice (some ⟨b,0,none⟩) n n) (List.replicate n 0) [(b,.cells (aA .i64 (List.replicate n 0)) 3 zZ)]:=by
  have:=aS.made (T:=3) (kd:=.i64) (b:=b) (List.replicate n (0:Int));rw[xdT]at this;exact this
 refine⟨λvs H=>∃j:Nat,vs=[iv (j:Int)]/\j<=n/\aS 3 .i64 (.slice (some ⟨b,0,none⟩) n n) (iw (List.range j)++List.replicate (n-j) 0) H,λvs _=>n-bN vs 0,JE.mk ⟨0,rfl,by omega,by simpa[iw]using h0⟩,?_⟩;rintro w H ⟨j,hw,hj,hs⟩ gs;simp only[xau,xa1]at hw;subst hw;refine ae.fC (Br.dec (λhlt=>?_) (λhlt=>?_))
 ·refine hs.ny (x:=(j:Int)) .here zP λC' hs'=>?_;refine ae.inc ?_;have e:(iw (List.range j)++List.replicate (n-j) 0).set j (j:Int)=iw (List.range (j+1))++List.replicate (n-(j+1)) 0:=by
   rw[xcA _ _ zI];rw[show n-j=(n-(j+1))+1 by omega,xc9,xci,cC];simp[iw]
  rw[e]at hs';exact aC.of (.refl _) ⟨j+1,rfl,by omega,hs'⟩ (by show n-(((j+1:Nat):Int).toNat)<n-(((j:Nat):Int).toNat);omega)
 obtain rfl:j=n:=by omega
 exact aN.here (by simpa using hs)
theorem tM{n:Nat}(hn:n<=64):Fc zQ 28 #[iv (n:Int)] [] (λv H=>∃s,v=.tuple #[s,iv 0]/\aS 3 .i64 s (iw (List.range n)) H):=by
 refine aI λg=>Av (ae.lss ?_);rw[xal zO];refine cS.or false (λ_=>ae.gtr ⟨rfl,by rw[xal zO]⟩) rfl λ_=>Br.no ?_;refine aa.fq (RB hn) ?_;intro s H hs;exact aN.here ⟨s,rfl,hs⟩
def K0(n cap:Nat):Kd:=⟨n,cap,2,λ_=>none,λ_=>none,[],[]⟩
def S0:Nat->au.Fn:=λr _=>decide (r=1)
theorem nZ{n v:Nat}(hv:v<n):lv (List.range n) v=v:=by
 show(List.range n).getD v 0=v;simp[List.getD,hv]
theorem aen{n cap:Nat}(hc:2<=cap/\cap<=1048576):Ok (K0 n cap) S0 (lv (List.range n)):=by
 have c0:∀k,nF (λ_=>none) k=0:=λk=>by induction k with|zero=>rfl|succ k ih=>rw[nF,ih];rfl
 have hm:jP (K0 n cap) S0 iN zero':={
  two:=λh=>nomatch h
  var:=λh=>nomatch h
  ne:=λh=>nomatch h
  lo:=λh=>nomatch h
  hi:=λh=>nomatch h
  int:=⟨λ_=>rfl,λ_=>rfl,λh=>nomatch h⟩
  kf:=λd r=>⟨λh=>(nomatch h),λh=>nomatch h.1⟩
  use:=λh=>nomatch h
  len:=rfl
  fit:=λh=>nomatch h
  held:=λr h=>absurd (by simp[Kd.hold,K0]) h
  mx:=λr=>by simp[Kd.hold,K0]
  room:=by show 2=2+nF (λ_=>none) _;rw[c0]
  cap:=hc}
 refine⟨hm,λr d h=>(nomatch h),⟨λv hv=>?_,λu v hu hv h=>?_⟩,⟨λh=>(nomatch h),λh=>(nomatch h),λh=>(nomatch h),λh=>(nomatch h),λh=>(nomatch h),λh=>(nomatch h)⟩⟩
 ·have n8:v<n:=hv;rw[nZ n8];exact hv
 have Bd:u<n:=hu;have n8:v<n:=hv;rwa [nZ Bd,nZ n8]at h
theorem C9{pt n cap:Nat}{CT:Hp}(hu:oD pt n (λ_=>none) CT)(hc:2<=cap/\cap<=1048576):Fc zQ 30 #[iv (cap:Int),ptr pt] CT (λv H=>∃pa CA,v=.tuple #[.agg #[ptr pa,ptr pt,.slice none 0 0,.slice none 0 0],iv 0]/\iW pa cap 2 (λ_=>none) CA/\H=CA++CT):=by
 refine aI λg=>O2 λb1 _=>?_;refine aa.fn hnew (Xl hc) ?_;rintro v C ⟨pa,rfl,hA⟩;refine Ext.two (Build.mk (cs:=[ptr pa,ptr pt,.slice none 0 0,.slice none 0 0]) zK (St.q ?_));refine az.q ?_;exact aN.mk (.de .tail _) ⟨pa,C,rfl,hA,rfl⟩
theorem Zg{n cap:Nat}(hn:1<=n/\n<=64)(hc:2<=cap/\cap<=1048576):Fc zQ 19 #[iv (n:Int),iv (cap:Int)] [] (λv C=>∃kp,v=.tuple #[ptr kp,iv 0]/\bP kp (K0 n cap) S0 (List.range n) (List.range n) [] C):=by
 refine aI λg=>Ax (aa.fq (tM hn.2) ?_);rintro v CO ⟨s,rfl,hO⟩;obtain⟨sa,sl,sc,hse⟩:∃a l c,s=Value.slice a l c:=by obtain⟨a,c,h⟩:=aV.len hO;exact⟨a,_,c,h⟩
 refine Ext.two (ae.cD (cS.or false (λ_=>ae.lss ⟨rfl,by rw[xal zO]⟩) rfl λgs=>?_));refine cS.or false (λ_=>ae.lss ⟨rfl,by rw[xal zO]⟩) rfl λgs=>?_;refine cS.or false (λ_=>ae.gtr ⟨rfl,by rw[xal zO]⟩) rfl λgs=>Br.no ?_;refine aa.fn hnew (UN hn) ?_;rintro v CT ⟨pt,rfl,hT⟩;refine Ext.two (ae.cD (Br.no (aa.fq (C9 hT hc) ?_)));rintro v H ⟨pa,CA,rfl,hA,rfl⟩;refine Ext.two λb24 _=>(St.q ?_);refine ae.cD (Br.no (DR.self (az.q ?_)));refine aa.fq (wT (hO.ints.mono λ_ h=>h) zP) ?_;rintro v H ⟨CL,rfl,hL⟩;obtain⟨la,ll,lc,hle⟩:∃a l c,v=Value.slice a l c:=by obtain⟨a,c,h⟩:=aV.len hL;exact⟨a,_,c,h⟩
 refine⟨(.cons (.de .right _)),?_⟩;subst hse hle;refine Build.mk (cs:=[ptr pa,ptr pt,.slice none 0 0,.slice none 0 0,iv (n:Int),.slice sa sl sc,.slice la ll lc,.slice none 0 0]) zK λYw _=>?_;refine⟨(.skip (.cons (.de .right _))),?_⟩
 let kb:uD:=⟨pa,pt,.slice none 0 0,.slice none 0 0,.slice sa sl sc,.slice la ll lc,.slice none 0 0,CA,CT,[],[],CO,CL,[]⟩
 refine aN.mk (nH:=kb.hp Yw n) ?_ ⟨Yw,rfl,⟨kb,rfl,⟨hA,hT,aS.nil,aS.nil,hO,hL,aS.nil,⟨rfl,by simp[K0]⟩,hn.2,by simp[K0]⟩⟩,aen hc,⟨by simp[K0],λl hl=>?_⟩,λs _=>by simp[Kd.use,K0],trivial⟩
 ·refine .cons (.skip ((aM.assoc).trans ?_));show aM (CA++(CT++(CL++CO))) (CA++(CT++([]++([]++(CO++(CL++[]))))));simp only[xbS,xaL];exact .de (.de (.perm xbb) _) _
 have hl':l<n:=hl;have e:(List.range n).getD l 0=l:=nZ hl';rw[e];exact⟨hl,nZ hl'⟩
end
end Go.Proofs
namespace au
def ay(ord path:zL):zL:=path.foldl fK ord
theorem gB{ord path:zL}{l:Nat}:ay ord (path++[l])=fK (ay ord path) l:=by simp[ay]
theorem cj{ord path q:zL}:ay ord (path++q)=ay (ay ord path) q:=by simp[ay]
theorem fR{ord:zL}:∀{path:zL},(ay ord path).length=ord.length:=by
 intro path;unfold ay;induction path generalizing ord with
 |nil=>rfl
 |cons l r ih=>rw[xcF,ih];simp[fK]
def mi:Nat->zL
 |2=>[0]
 |3=>[1,0,1,0,1]
 |4=>[2,1,0,2,0,1,2,0,2,1,0,2,0,1,2,0,2,1,0,2,0,1,2]
 |_=>[]
structure Rm where
 n:Nat
 size:zL->Nat
 fit:zL->Nat->Bool
def Rm.dF(m:Rm)(p:Nat):zL->zL->zL
 | [],_=>[]
 |c::cs,ord=>if m.fit ord (p+c)then(p+c)::m.dF p cs (fK ord (p+c))else []
def Rm.keep(m:Rm)(ord path:zL):Nat->Nat
 |0=>0
 |i+1=>if m.size (ay ord (path.take (i+1)))<m.size (ay ord (path.take (m.keep ord path i)))then i+1 else m.keep ord path i
def Rm.visit(m:Rm)(w p:Nat)(ord:zL):zL×Nat:=
 let path:=m.dF p (mi w) ord
 let k:=m.keep ord path path.length
 (path.take k,path.length+(path.length-k))
def Rm.all(m:Rm)(w:Nat)(ord:zL):Nat->zL×Nat
 |0=>([],0)
 |i+1=>let a:=m.all w ord i;let b:=m.visit w i (ay ord a.1);(a.1++b.1,a.2+b.2)
def Rm.pass(m:Rm)(w:Nat)(ord:zL):zL×Nat:=m.all w ord (m.n+1-w)
theorem Rm.l9(m:Rm)(p:Nat):∀cs ord,(m.dF p cs ord).length<=cs.length
 | [],_=>by simp[dF]
 |c::cs,ord=>by
  rw[dF];split
  ·have:=m.l9 p cs (fK ord (p+c));simp only[xaz];omega
  simp
theorem Rm.rM(m:Rm)(p:Nat):∀cs ord i,i<(m.dF p cs ord).length->(m.dF p cs ord)[i]? =(cs[i]?).map (p+ ·)/\∃c,cs[i]? =some c/\m.fit (ay ord ((m.dF p cs ord).take i)) (p+c)=true
 | [],_,i,h=>by simp[dF]at h
 |c::cs,ord,i,h=>by
  by_cases hf:m.fit ord (p+c)=true
  ·rw[dF,xad hf]at h⊢;cases i with
   |zero=>exact⟨by simp,c,rfl,hf⟩
   |succ i=>
    obtain⟨h1,c',h2,h3⟩:=m.rM p cs (fK ord (p+c)) i (by simpa using h);exact⟨by simpa using h1,c',by simpa using h2,by simpa[ay]using h3⟩
  rw[dF,xab hf]at h;simp at h
theorem Rm.wz(m:Rm)(p:Nat):∀cs ord c,cs[(m.dF p cs ord).length]? =some c->m.fit (ay ord (m.dF p cs ord)) (p+c)=false
 | [],_,c,h=>by simp at h
 |c'::cs,ord,c,h=>by
  by_cases hf:m.fit ord (p+c')=true
  ·rw[dF,xad hf]at h⊢;have:=m.wz p cs (fK ord (p+c')) c (by simpa using h);simpa[ay]using this
  rw[dF,xab hf]at h⊢;simp only[xce,xcM,xar]at h;subst h;simpa[ay]using hf
theorem Rm.DJ(m:Rm)(p:Nat){cs ord:zL}{l:Nat}(h:l∈m.dF p cs ord):∃c∈cs,l=p+c:=by
 obtain⟨i,hi,e⟩:=List.getElem_of_mem h;obtain⟨h1,c,h2,_⟩:=m.rM p cs ord i hi;rw[xaa hi,e,h2]at h1;exact⟨c,xav h2,by simpa using h1⟩
theorem Rm.A8(m:Rm)(ord path:zL):∀i,m.keep ord path i<=i
 |0=>xaj _
 |i+1=>by rw[keep];split;omega;have:=m.A8 ord path i;omega
theorem Rm.v8(m:Rm)(ord path:zL):∀i j,j<=i->m.size (ay ord (path.take (m.keep ord path i)))<=m.size (ay ord (path.take j))
 |0,j,h=>by
  obtain rfl:j=0:=by omega
  exact xaj _
 |i+1,j,h=>by
  by_cases e:j=i+1
  ·subst e;rw[keep];split<;>omega
  have:=m.v8 ord path i j zO;rw[keep];split<;>omega
theorem Gu{w c:Nat}(h:c∈mi w):c+2<=w:=by
 unfold mi at h;split at h
 ·simp at h;omega
 ·simp at h;omega
 ·simp at h;omega
 simp at h
theorem Lc(w:Nat):(mi w).length<=23:=by
 unfold mi;split<;>simp
theorem Rm.LP(m:Rm){w p:Nat}{ord:zL}{l:Nat}(h:l∈(m.visit w p ord).1):l+2<=p+w:=by
 obtain⟨c,hc,rfl⟩:=m.DJ p (xcE h);have:=Gu hc;omega
theorem Rm.sg(m:Rm)(w p:Nat)(ord:zL):(m.visit w p ord).1.length<=23/\(m.visit w p ord).2<=46:=by
 have h1:=m.l9 p (mi w) ord;have h2:=Lc w;have h3:=m.A8 ord (m.dF p (mi w) ord) (m.dF p (mi w) ord).length;constructor
 ·show(List.take _ _).length<=23;rw[xbF];omega
 show _+(_-_)<=46;omega
theorem Rm.B5(m:Rm)(w p:Nat)(ord:zL):m.size (ay ord (m.visit w p ord).1)<=m.size ord:=by
 have:=m.v8 ord (m.dF p (mi w) ord) (m.dF p (mi w) ord).length 0 (xaN _);simpa[visit,ay]using this
theorem Rm.TL(m:Rm)(w:Nat)(ord:zL):∀i,m.size (ay ord (m.all w ord i).1)<=m.size ord
 |0=>xaj _
 |i+1=>by
  have h1:=m.TL w ord i;have h2:=m.B5 w i (ay ord (m.all w ord i).1);show m.size (ay ord (_++_))<=_;rw[cj];exact xbI h2 h1
theorem Rm.Ln(m:Rm)(w:Nat)(ord:zL):∀i,(m.all w ord i).1.length<=23*i/\(m.all w ord i).2<=46*i
 |0=>⟨xaj _,xaj _⟩
 |i+1=>by
  have h1:=m.Ln w ord i;have h2:=m.sg w i (ay ord (m.all w ord i).1);constructor
  ·show((m.all w ord i).1++(m.visit w i (ay ord (m.all w ord i).1)).1).length<=_;rw[xaf];omega
  show(m.all w ord i).2+(m.visit w i (ay ord (m.all w ord i).1)).2<=_;omega
theorem Rm.Lm(m:Rm){w:Nat}{ord:zL}{l:Nat}:∀{i},l∈(m.all w ord i).1->l+3<=i+w
 |0,h=>by simp[all]at h
 |i+1,h=>by
  rcases xao.1 h with h|h
  ·have:=m.Lm h;omega
  have:=m.LP h;omega
theorem Rm.all_succ(m:Rm)(w:Nat)(ord:zL)(i:Nat):m.all w ord (i+1)=((m.all w ord i).1++(m.visit w i (ay ord (m.all w ord i).1)).1,(m.all w ord i).2+(m.visit w i (ay ord (m.all w ord i).1)).2):=rfl
end au
set_option maxRecDepth 100000
namespace Go.Proofs
open Go Go.Sx Tryz
open au
def At(kp:Nat)(K:Kd)(S:Nat->au.Fn)(ord tr:zL)(C:Hp):Prop:=∃K' S' bR,bP kp K' S' ord bR tr C/\Kept K S K' S'
noncomputable def cG(K:Kd)(S:Nat->au.Fn)(ord:zL):Nat:=sz K.n ord (K.held S)
def jb(K:Kd)(S:Nat->au.Fn)(ord:zL)(l:Nat):Prop:=AE K.n ord l (K.held S)+2<=K.cap
section
variable {kp:Nat} {K:Kd} {S:Nat->au.Fn} {ord tr:zL} {C:Hp}
theorem bP.aZ{ah:zL}(h:bP kp K S ord ah tr C):At kp K S ord tr C:=⟨K,S,ah,h,.refl _ _⟩
theorem Dk{ah:zL}(h:bP kp K S ord ah tr C):K.used=cG K S ord+2:=by
 have h1:=JX (h.ok.size h.od);have h2:=h.ok.mid.room;unfold cG;omega
theorem rH{K':Kd}{S':Nat->au.Fn}(h:Kept K S K' S')(ord:zL):cG K' S' ord=cG K S ord:=by
 unfold cG;rw[h.n];exact PZ h.held
theorem zh{K':Kd}{S':Nat->au.Fn}(h:Kept K S K' S')(ord:zL)(l:Nat):jb K' S' ord l↔jb K S ord l:=by
 unfold jb;rw[h.n,h.cap,LX h.held]
theorem At.len(h:At kp K S ord tr C):ord.length=K.n:=by
 obtain⟨K',S',bR,h,hk⟩:=h;rw[<-hk.n];exact h.od.len
theorem gv(h:At kp K S ord tr C):cG K S ord<=1048574:=by
 obtain⟨K',S',bR,h,hk⟩:=h;rw[<-rH hk];have:=Dk h;have:=h.ok.mid.cap;omega
theorem At.lP(h:At kp K S ord tr C):K.n<=64:=by
 obtain⟨K',S',bR,h,hk⟩:=h;obtain⟨b,_,hO⟩:=h.rep;rw[<-hk.n];exact hO.lP
theorem cF(h:At kp K S ord tr C):Rd zQ 83 #[ptr kp] C (· =iv ((cG K S ord:Nat):Int)):=by
 obtain⟨K',S',bR,h,hk⟩:=h;have hs:=Dk h;have hc:=h.ok.mid.cap;refine(V5 h.rep zO zO).mono ?_;rintro v H ⟨rfl,rfl⟩;exact⟨rfl,by rw[hs,rH hk];rfl⟩
theorem rY(h:At kp K S ord tr C):Rd zQ 174 #[ptr kp] C (· =iv ((tr.length:Nat):Int)):=by
 obtain⟨K',S',bR,h,hk⟩:=h;exact MX h.rep
theorem m6(h:At kp K S ord tr C):Rd zQ 108 #[ptr kp] C (· =iv ((K.n:Nat):Int)):=by
 obtain⟨K',S',bR,h,hk⟩:=h;rw[<-hk.n];exact gR h.rep
theorem Ty(h:At kp K S ord tr C):Fc zQ 27 #[ptr kp] C (λr H=>∃N,H=N++C/\aS 3 .i64 r (iw ord) N):=by
 obtain⟨K',S',bR,h,hk⟩:=h;exact zc h.rep
theorem uR(h:At kp K S ord tr C){l:Nat}(hl:l+1<K.n)(fh:tr.length<17592186044416)(hf:jb K S ord l):Fc zQ 94 #[ptr kp,iv (l:Int)] C (λr C'=>r=iv 0/\At kp K S (fK ord l) (tr++[l]) C'):=by
 obtain⟨K',S',bR,h,hk⟩:=h;refine(KY h (by rw[hk.n];exact hl) fh).mono ?_;rintro v C' (⟨_,rfl,K2,S2,Zl,h2,rK⟩|⟨hno,_,_⟩)
 ·exact⟨rfl,K2,S2,Zl,h2,hk.trans rK⟩
 have:=(zh hk ord l).2 hf;unfold jb at this;omega
theorem m7(h:At kp K S ord tr C){l:Nat}(hl:l+1<K.n)(fh:tr.length<17592186044416)(hf:¬jb K S ord l):Rd zQ 94 #[ptr kp,iv (l:Int)] C (· =iv 9):=by
 obtain⟨K',S',bR,h,hk⟩:=h;refine(KY h (by rw[hk.n];exact hl) fh).mono ?_;rintro v C' (⟨RC,_⟩|⟨hno,rfl,rfl⟩)
 ·exact absurd ((zh hk ord l).1 RC) hf
 exact⟨rfl,rfl⟩
theorem BC{l:Nat}(h:At kp K S ord (tr++[l]) C)(fh:tr.length<17592186044416):Fc zQ 231 #[ptr kp] C (λr C'=>r=.tuple #[iv (l:Int),iv 0]/\At kp K S (fK ord l) tr C'):=by
 obtain⟨K',S',bR,h,hk⟩:=h;refine(UO h fh).mono ?_;rintro v C' ⟨rfl,_,K2,S2,Zl,h2,rK⟩;exact⟨rfl,K2,S2,Zl,h2,hk.trans rK⟩
theorem YM(h:At kp K S ord tr C){l:Nat}(hl:l+1<K.n)(fh:tr.length<17592186044416)(hf:jb K S ord l):Fc zQ 175 #[ptr kp,iv (l:Int)] C (λr C'=>
   r=.tuple #[.agg #[iv (l:Int),iv ((cG K S ord:Nat):Int),iv ((cG K S (fK ord l):Nat):Int)],iv 0]/\At kp K S (fK ord l) (tr++[l]) C'):=by
 refine aI λg=>xJ λb1 _=>?_;refine aa.eq (cF h) (Build.mk (cs:=[iv (l:Int),iv ((cG K S ord:Nat):Int),iv 0]) zK λb6 _=>?_);refine St.q ?_;refine aa.fq (uR h hl fh hf) ?_;rintro v C' ⟨rfl,h'⟩;refine ae.cD (Br.F (aa.eq (cF h') (ai.mk (St.one (by exact .head _) rfl zI rfl ?_))));refine az.q ?_;refine St.q ?_;refine az.q ?_;exact aN.mk (.skip .tail) ⟨rfl,h'⟩
theorem YN(h:At kp K S ord tr C){l:Nat}(hl:l+1<K.n)(fh:tr.length<17592186044416)(hf:¬jb K S ord l):Rd zQ 175 #[ptr kp,iv (l:Int)] C (· =.tuple #[.agg #[iv 0,iv 0,iv 0],iv 9]):=by
 refine aI λg=>xJ λb1 _=>?_;refine aa.eq (cF h) (Build.mk (cs:=[iv (l:Int),iv ((cG K S ord:Nat):Int),iv 0]) zK λb6 _=>?_);refine St.q ?_;refine aa.eq (m7 h hl fh hf) (ae.cD (Br.T (Build.mk (cs:=[iv 0,iv 0,iv 0]) zK (St.q ?_))));refine az.q ?_;exact bc.mk (.skip .tail) rfl
theorem Lj{path:zL}(h:At kp K S (ay ord path) (tr++path) C)(hp:∀l∈path,l+1<K.n){k:Nat}(hk:k<=path.length)(fh:(tr++path).length<17592186044416):Fc zQ 176 #[ptr kp,iv ((tr.length+k:Nat):Int)] C (λr C'=>
   r=.tuple #[iv ((path.length-k:Nat):Int),iv 0]/\At kp K S (ay ord (path.take k)) (tr++path.take k) C'):=by
 have hlen:=h.len;rw[fR]at hlen;rw[xaf]at fh;refine aI λg=>II (ae.aL (Br.no ?_));intro J2 BV;refine ae.lss ?_;rw[xal zO];refine Split.go rfl (aa.eq (rY h) (ae.gtr ?_));rw[xal (by rw[xaf];omega)];refine aH.mk (JE.mk (BV _ _ λgs=>Br.no ?_));refine⟨λvs H=>∃m,m<=path.length/\k<=m/\vs=[iv ((path.length-m:Nat):Int)]/\At kp K S (ay ord (path.take m)) (tr++path.take m) H,λvs _=>path.length-bN vs 0,JE.mk ⟨path.length,xaj _,hk,by simp,by simpa using h⟩,?_⟩;rintro w H ⟨m,hm,hkm,hw,BS⟩ gs;simp only[xau,xa1]at hw;subst hw;refine aa.eq (rY BS) (ae.nE (Br.dec (λhlt=>?_) (λhlt=>?_)))
 ·rw[xaf,xbF]at hlt;obtain⟨m,rfl⟩:∃m',m=m'+1:=⟨m-1,by omega⟩;have e:path.take (m+1)=path.take m++[path[m]]:=by rw[xbo,xaa zO];rfl
  rw[e,<-xai,gB]at BS;refine aa.fq (BC BS zP) ?_;rintro v C' ⟨rfl,h'⟩;rw[qY (by rw[fR,hlen];exact hp _ (xaH _))]at h';refine ae.inc (aC.of (.refl _) ⟨m,by omega,by omega,by rw[show path.length-(m+1)+1=path.length-m by omega],h'⟩ ?_);show path.length-(((path.length-(m+1)+1:Nat):Int).toNat)<path.length-(((path.length-(m+1):Nat):Int).toNat);omega
 rw[xaf,xbF]at hlt;obtain rfl:m=k:=by omega
 exact aN.here ⟨rfl,BS⟩
end
theorem Gv{w:Nat}(hw:2<=w/\w<=4):Fc zQ 172 #[iv (w:Int)] [] (λv H=>∃s,v=.tuple #[s,iv 0]/\aS 3 .i64 s (iw (mi w)) H):=by
 refine aI λg=>IL ?_;obtain rfl|rfl|rfl:w=2\/w=3\/w=4:=by omega
 ·refine ae.gJ (Br.T (ax.int (e:=3) zK zK zK λbx=>?_));exact aN.here ⟨_,rfl,aS.made [0]⟩
 ·refine ae.gJ (Br.F (ae.gJ (Br.T (⟨aA .i64 (iw (mi 3)),3,1,iv 0,by kernel_rfl,by kernel_rfl,by kernel_rfl,by decide,by kernel_rfl,λbx _=>?_⟩))));exact aN.here ⟨_,rfl,aS.made (iw (mi 3))⟩
 refine ae.gJ (Br.F (ae.gJ (Br.F (ae.gJ (Br.T (⟨aA .i64 (iw (mi 4)),3,1,iv 0,by kernel_rfl,by kernel_rfl,by kernel_rfl,by decide,by kernel_rfl,λbx _=>?_⟩))))));exact aN.here ⟨_,rfl,aS.made (iw (mi 4))⟩
end Go.Proofs
namespace Go.Sx
open Go
section
variable {P:Program} {g:Gh} {H:Hp}
theorem iX.nat{len size b o j:Nat}{kd:IntKind}{k:zV->Prop}(h1:j<len)(h:k (.pointer (some ⟨b,o+j*size,none⟩))):iX len size (.pointer (some ⟨b,o,none⟩)) (.int kd (j:Int)) k:=
 ⟨b,o,kd,(j:Int),rfl,rfl,by omega,by omega,by simpa using h⟩
theorem jH.aee{o:Oper}{ρ:Operand->zV}{k:zV->Prop}{t e:TypeId}{q kd:IntKind}{n j:Nat}{x i:Operand}{l:List Int}{z:Int}(ho:o.op=.index t x i)(hx:ρ x=.agg (aA q l))(hi:ρ i=.int kd (j:Int))
 (ht:P.underlying t=some (.array n e))(hu:P.underlying e=some (.int q))(hz:dH P e=some 1)(hj:j<n)(hl:l[j]? =some z)(hk:k (.int q z)):jH P g o ρ H k:=by
 obtain⟨inf,agE,hs⟩:=bF hz;refine⟨_,λw _=>?_,hk⟩;have hp:=rf (P:=P) hu hl w;have Sc:(0:Int)<=(j:Int)/\(j:Int)<(n:Int):=by omega
 simp only[execOp,ho,Instr.index,hx,hi,asIntOf,Sem.run_bind,Sem.run_pure,Result.andThen_ok,run_underlying ht,run_sizeOf agE,hs,xad Sc,xbe,xb4,hp]
end
end Go.Sx
namespace au
open ak
def clr(m v:Nat):Nat:=if m.testBit v then m^^^2^v else m
def rest(m:Nat)(ord:zL):Nat->Nat
 |0=>m
 |k+1=>clr (rest m ord k) (ord.getD k 0)
section
variable {n m o:Nat} {ord:zL} {F:Fn->Prop}
theorem getD_inj(hn:ord.Nodup){i j:Nat}(hi:i<ord.length)(hj:j<ord.length)(e:ord.getD i 0=ord.getD j 0):i=j:=by
 rw[xaq,xaq,xaa hi,xaa hj]at e;exact(xer hn).1 e
theorem P2{l:Nat}(hl:l+1<ord.length):(fK ord l).Perm ord:=by
 unfold fK;have e1:ord=ord.take l++ord.getD l 0::ord.getD (l+1) 0::ord.drop (l+2):=by
  conv=>lhs;rw[<-xbq l ord]
  congr 1;rw[xbr zO,xbr zO];simp[List.getD,xaa (show l<ord.length by omega),xaa hl]
 have ht:(ord.take l).length=l:=by simp;omega
 have e2:(ord.set l (ord.getD (l+1) 0)).set (l+1) (ord.getD l 0)=ord.take l++ord.getD (l+1) 0::ord.getD l 0::ord.drop (l+2):=by
  generalize hx:ord.getD l 0=x at*;generalize hy:ord.getD (l+1) 0=y at*
  conv=>lhs;rw[e1]
  rw[xcA _ _ zO,ht,xc7,xcz,xcA _ _ zO,ht,Nat.add_sub_cancel_left,xed,xcz]
 rw[e2]
 conv=>rhs;rw[e1]
 exact xbZ _ (List.Perm.swap _ _ _)
theorem lj:∀{path:zL} {ord:zL},(∀l∈path,l+1<ord.length)->(ay ord path).Perm ord
 | [],_,_=>.refl _
 |l::r,ord,h=>by
  show(ay (fK ord l) r).Perm ord;have h1:=h l zI;exact(lj λx hx=>by rw[mF];exact h x (by simp[hx])).trans (P2 h1)
end
def flat(n s:Nat):Rm:=⟨n,λ_=>s,λ_ _=>true⟩
end au
namespace au
def Gy(i:Nat):Nat->zL
 |0=>[]
 |j+1=>if i<=j then j::Gy i j else []
theorem By{i j:Nat}(h:j<=i):Gy i j=[]:=by
 cases j with
 |zero=>rfl
 |succ j=>rw[Gy,xab zO]
theorem rX{i j:Nat}(h:i<=j):Gy i (j+1)=j::Gy i j:=by rw[Gy,xad h]
theorem Le{i l:Nat}:∀{j},l∈Gy i j->i<=l/\l<j
 |0,h=>by simp[Gy]at h
 |j+1,h=>by
  by_cases e:i<=j
  ·rw[rX e]at h;rcases xak.1 h with rfl|h
   ·omega
   have:=Le h;omega
  rw[By zO]at h;simp at h
theorem Bx(i:Nat):∀j,(Gy i j).length=j-i
 |0=>by simp[Gy]
 |j+1=>by
  by_cases e:i<=j
  ·rw[rX e,xaz,Bx i j];omega
  rw[By zO];simp;omega
theorem Lf{i k:Nat}:∀{j:Nat} {a:zL},i<=j->j<a.length->(k<=i->(ay a (Gy i j)).getD k 0=if k=i then a.getD j 0 else a.getD k 0)
 |0,a,hi,hj,hk=>by
  obtain rfl:i=0:=by omega
  obtain rfl:k=0:=by omega
  simp[Gy,ay]
 |j+1,a,hi,hj,hk=>by
  by_cases e:i<=j
  ·rw[rX e];show(ay (fK a j) (Gy i j)).getD k 0=_;rw[Lf (j:=j) e (by rw[mF];omega) hk,fp zO,fp zO];by_cases h:k=i
   ·subst h;simp
   rw[xab h,xab h,xab zO,xab zO]
  obtain rfl:i=j+1:=by omega
  rw[By (xaj _)];show a.getD k 0=_;split
  ·rename_i h;rw[h]
  rfl
def plc(p:zL)(x:Nat):Nat:=p.idxOf x
def eu(p q:zL):Nat->zL
 |0=>[]
 |i+1=>eu p q i++Gy i (plc (ay p (eu p q i)) (q.getD i 0))
def path(p q:zL):zL:=eu p q q.length
theorem QH{p:zL}{x:Nat}(h:x∈p):plc p x<p.length:=List.idxOf_lt_length_iff.2 h
theorem Km{p:zL}{x:Nat}(h:x∈p):p.getD (plc p x) 0=x:=by
 have h1:=QH h;rw[xaq,xaa h1];show p[p.idxOf x]=x;exact List.getElem_idxOf h1
section
variable {p q:zL}
theorem jU(hq:q.Nodup)(hp:p.Perm q):∀i,i<=q.length->(∀l∈eu p q i,l+1<p.length)/\(∀k,k<i->(ay p (eu p q i)).getD k 0=q.getD k 0)/\(i<q.length->i<=plc (ay p (eu p q i)) (q.getD i 0)/\plc (ay p (eu p q i)) (q.getD i 0)<p.length)
 |i,hi=>by
  have hlen:=hp.length_eq;have base:(∀l∈eu p q i,l+1<p.length)/\(∀k,k<i->(ay p (eu p q i)).getD k 0=q.getD k 0):=by
   cases i with
   |zero=>exact⟨λl hl=>by simp[eu]at hl,λk hk=>absurd hk (xcC _)⟩
   |succ i=>
    obtain⟨h1,h2,h3⟩:=jU hq hp i zO;obtain⟨h4,h5⟩:=h3 zO;have hm:q.getD i 0∈ay p (eu p q i):=by
     have:q.getD i 0∈q:=by rw[xaq,xaa (show i<q.length by omega)];exact xaH _
     exact((lj h1).trans hp).mem_iff.2 this
    refine⟨λl hl=>?_,λk hk=>?_⟩
    ·rcases xao.1 hl with hl|hl
     ·exact h1 l hl
     have:=Le hl;omega
    rw[eu,cj,Lf h4 (by rw[fR];exact h5) zO];split
    ·rename_i e;subst e;exact Km hm
    exact h2 k zO
  refine⟨base.1,base.2,λhlt=>?_⟩;have hm:q.getD i 0∈ay p (eu p q i):=by
   have:q.getD i 0∈q:=by rw[xaq,xaa hlt];exact xaH _
   exact((lj base.1).trans hp).mem_iff.2 this
  have h5:=QH hm;rw[fR]at h5;refine⟨?_,h5⟩;refine xaD λuy=>?_;have:=base.2 _ (Nat.lt_of_not_le uy);rw[Km hm]at this;have:=getD_inj hq hlt zO this;omega
theorem AY(hq:q.Nodup)(hp:p.Perm q):ay p (path p q)=q/\∀l∈path p q,l+1<p.length:=by
 obtain⟨h1,h2,_⟩:=jU hq hp q.length (xaj _);refine⟨DW (by rw[fR];exact hp.length_eq) λi hi=>h2 i ?_,h1⟩;rw[fR,hp.length_eq]at hi;exact hi
theorem sF(hq:q.Nodup)(hp:p.Perm q):∀i,i<=q.length->(eu p q i).length<=i*p.length
 |0,_=>by simp[eu]
 |i+1,hi=>by
  have:=sF hq hp i zO;obtain⟨_,_,h3⟩:=jU hq hp i zO;rw[eu,xaf,Bx,xbu];have:=(h3 zO).2;omega
end
end au
namespace au
open ak
section
variable {n l:Nat} {ord:zL} {F G:Fn->Prop} {f c:Fn}
theorem zz:∀l g,fs ord (λg=>F g\/G g) l g↔fs ord F l g\/fs ord G l g
 |0,g=>xcT
 |l+1,g=>by
  constructor
  ·rintro⟨f,hf,b,rfl⟩;rcases(zz l f).1 hf with h|h
   ·exact .inl ⟨f,h,b,rfl⟩
   exact .inr ⟨f,h,b,rfl⟩
  rintro(⟨f,hf,b,rfl⟩|⟨f,hf,b,rfl⟩)
  ·exact⟨f,(zz l f).2 (.inl hf),b,rfl⟩
  exact⟨f,(zz l f).2 (.inr hf),b,rfl⟩
theorem lJ(g:Fn):aD n ord (λg=>F g\/G g) g↔aD n ord F g\/aD n ord G g:=by
 constructor
 ·rintro⟨l,hl,hf,hh⟩;rcases(zz l g).1 hf with h|h
  ·exact .inl ⟨l,hl,h,hh⟩
  exact .inr ⟨l,hl,h,hh⟩
 rintro(⟨l,hl,hf,hh⟩|⟨l,hl,hf,hh⟩)
 ·exact⟨l,hl,(zz l g).2 (.inl hf),hh⟩
 exact⟨l,hl,(zz l g).2 (.inr hf),hh⟩
theorem cL{v:Nat}(h:¬bU f v)(x:Nat)(b:Bool):f (aB x v b)=f x:=by
 have h0:f (aB x v false)=f (aB x v true):=xaD λhne=>h ⟨x,hne⟩;have h1:=iq x v
 conv=>rhs;rw[<-h1]
 cases b<;>cases x.testBit v<;>simp[h0]
theorem Bo(hi:∀j,j<l->¬bU f (ord.getD j 0)):∀k,k<=l->fs ord (λg=>g=f) k f
 |0,_=>rfl
 |k+1,hk=>⟨f,Bo hi k zO,false,funext λx=>(cL (hi k zO) x false).symm⟩
theorem uL(hi:∀j,j<l->¬bU f (ord.getD j 0)):∀k,k<=l->∀g,fs ord (λg=>g=f) k g->g=f
 |0,_,g,h=>h
 |k+1,hk,g,h=>by
  obtain⟨f',hf,b,rfl⟩:=h;obtain rfl:=uL hi k zO f' hf;exact funext λx=>cL (hi k zO) x b
theorem jK(hi:∀j,j<l->¬bU f (ord.getD j 0)){b:Bool}(hc:c=λx=>f (aB x (ord.getD l 0) b)):
  (∀j,j<l+1->¬bU c (ord.getD j 0))/\∀g,aD n ord (λg=>g=c) g->aD n ord (λg=>g=f) g:=by
 have h1:fs ord (λg=>g=f) (l+1) c:=⟨f,Bo hi l (xaj _),b,hc⟩;have h2:∀j,j<l+1->¬bU c (ord.getD j 0):=λj hj=>wC (l+1) c h1 j hj;refine⟨h2,?_⟩;rintro g ⟨m,hm,hf,hh⟩;by_cases e:m<l+1
 ·obtain rfl:=uL h2 m zO g hf;exact absurd hh (h2 m e)
 have key:∀d g,fs ord (λg=>g=c) (l+1+d) g->fs ord (λg=>g=f) (l+1+d) g:=λd=>by
  induction d with
  |zero=>intro g hg;obtain rfl:=uL h2 (l+1) (xaj _) g hg;exact h1
  |succ d ih=>rintro g ⟨f',Pp,b',rfl⟩;exact⟨f',ih f' Pp,b',rfl⟩
 obtain⟨d,rfl⟩:∃d,m=l+1+d:=⟨m-(l+1),by omega⟩;exact⟨_,hm,key d g hf,hh⟩
theorem oV(hi:∀j,j<l->¬bU f (ord.getD j 0))(hl:l<n)(hh:bU f (ord.getD l 0)):aD n ord (λg=>g=f) f:=⟨l,hl,Bo hi l (xaj _),hh⟩
end
section
variable {K:Kd} {S:Nat->Fn} {ah:Nat->Nat} {ord:zL}
theorem Ok.below(h:Ok K S ah)(ho:Ord K.n ah ord){r l:Nat}(hr:live K.N r)(hl:l<=K.n)(hi:∀j,j<l->¬bU (S r) (ord.getD j 0)):l<=dep K.n ah K.N r:=by
 cases e:K.N r with
 |none=>rw[aT e];exact hl
 |some d=>
  rw[an e];refine xaD λhlt=>?_;have iA:ah d.v<l:=Nat.lt_of_not_le hlt;have:=hi _ iA;rw[ho.of h.lv (h.mid.var e)]at this;exact this (gn h.wf h.lv h.mid.int e)
theorem Ok.roomFor(h:Ok K S ah)(ho:Ord K.n ah ord){U:Fn->Prop}{k:Nat}(hk:nw U k)(hfit:k+2<=K.cap)(hU:∀g,aD K.n ord (K.held S) g->U g){d:Nd}
 (hlo:live K.N d.lo)(hhi:live K.N d.hi)(hne:d.lo≠d.hi)(hv:d.v<K.n)(hlt:ah d.v<dep K.n ah K.N d.lo/\ah d.v<dep K.n ah K.N d.hi)(hg:U (ite S d))(hT:K.T d=none):K.used<K.cap:=by
 have hs:=h.size ho;have hu:=h.mid.room;obtain⟨l1,a1,a2,a3⟩:=hs;have ZO:ite S d∉l1:=λhm=>by
  obtain⟨r,e,hr,he⟩:=(nW h.wf h.lv ho h.mid.int (λr hr=>.inr (h.mid.held r hr)) h.reach (ite S d)).1 ((a3 _).2 hm);have hTd:¬K.N r=some d:=λhN=>by
   have:=(h.mid.kf d r).2 ⟨hN,λx=>x⟩;rw[hT]at this;cases this
  apply hTd;have RI:S r=ite S d:=he.symm;have RD:e.v=d.v:=by
   have e1:=h.lv.lt e.v (h.mid.var hr);have e2:=h.lv.lt d.v hv;rcases xcJ (ah e.v) (ah d.v)with hh|hh|hh
   ·exfalso;obtain⟨z,hz⟩:=gn h.wf h.lv h.mid.int hr;rw[RI]at hz;apply hz;unfold ite;have i1:=h.wf.bJ h.lv h.mid.int hlo (h.mid.var hr) zO;have i2:=h.wf.bJ h.lv h.mid.int hhi (h.mid.var hr) zO;have M8:d.v≠e.v:=λl7=>by rw[l7]at hh;omega
    simp only[aj,xab M8,i1,i2]
   ·exact h.lv.inj _ _ (h.mid.var hr) hv hh
   exfalso;have hx:=h.wf.bJ h.lv h.mid.int (r:=r) (.inr ⟨e,hr⟩) hv (by rw[an hr];exact hh);apply hne;refine h.wf.same h.lv h.mid.int hlo hhi λx=>?_;have i1:=h.wf.bJ h.lv h.mid.int hlo hv hlt.1;have i2:=h.wf.bJ h.lv h.mid.int hhi hv hlt.2;have q1:=hx x false;have q2:=hx x true;rw[RI]at q1 q2;have q3:=q1.trans q2.symm;unfold ite at q3;simp only[aj,xa7,i1,i2,xaO,xa2]at q3;exact q3
  have kj:∀(b:Bool) x,S (if b then e.hi else e.lo) x=S (if b then d.hi else d.lo) x:=λb x=>by
   rw[<-h.wf.child h.lv h.mid.int hr x b,RI,RD];have i1:=h.wf.bJ h.lv h.mid.int hlo hv hlt.1;have i2:=h.wf.bJ h.lv h.mid.int hhi hv hlt.2;unfold ite;rw[aj,xad rfl,i1,i2];cases b<;>rfl
  have e1:e.lo=d.lo:=h.wf.same h.lv h.mid.int (h.mid.lo hr) hlo λx=>kj false x;have e2:e.hi=d.hi:=h.wf.same h.lv h.mid.int (h.mid.hi hr) hhi λx=>kj true x;have hed:∀a b:Nd,a.v=b.v->a.lo=b.lo->a.hi=b.hi->a=b:=λa b h1 h2 h3=>by
   cases a;cases b;cases h1;cases h2;cases h3;rfl
  rw[hr,hed e d RD e1 e2]
 obtain⟨l2,b1,b2,b3⟩:=hk;have:=cu (l:=ite S d::l1) (l':=l2) (xaW.2 ⟨ZO,a1⟩) λg Yc=>by
  rcases xak.1 Yc with rfl|Yc
  ·exact(b3 _).1 hg
  exact(b3 _).1 (hU g ((a3 g).2 Yc))
 rw[xaz]at this;omega
end
end au
namespace au
open ak
def ef(N:eE)(v:Nat)(b:Bool)(r:Nat):Nat:=match N r with
 |some d=>if d.v=v then(if b then d.hi else d.lo)else r
 |none=>r
def iU(N:eE)(v:Nat)(b:Bool)(q:zL):zL:=q.map (ef N v b)
structure uC(n:Nat)(ah:Nat->Nat)(N:eE)(q:zL)(v:Nat):Prop where
 lt:v<n
 ex:∃r∈q,∃d,N r=some d/\d.v=v
 le:∀r∈q,ah v<=dep n ah N r
inductive Tree(n:Nat)(ah:Nat->Nat)(N:eE):zL->Nat->Prop
 |leaf {q:zL} (h:∀r∈q,N r=none):Tree n ah N q 0
 |node {q:zL} {v a b:Nat} (h:uC n ah N q v) (ha:Tree n ah N (iU N v false q) a) (hb:Tree n ah N (iU N v true q) b):Tree n ah N q (a+b+1)
def uB(t:Bool->Bool->Bool->Bool)(S:Nat->Fn)(q:zL):Fn:=λx=>t (S (q.getD 0 0) x) (S (q.getD 1 0) x) (S (q.getD 2 0) x)
section
variable {n:Nat} {ah:Nat->Nat} {N:eE} {S:Nat->Fn} {q:zL} {v:Nat}
theorem uC.uniq(hl:jI n ah){u:Nat}(h:uC n ah N q v)(h':uC n ah N q u):v=u:=by
 obtain⟨r,hr,d,hd,rfl⟩:=h.ex;obtain⟨s,hs,e,he,rfl⟩:=h'.ex;have a:=h.le s hs;have b:=h'.le r hr;rw[an he]at a;rw[an hd]at b;exact hl.inj _ _ h.lt h'.lt zO
theorem gj(h:WF n ah N)(hl:jI n ah)(hi:Interp N S){r:Nat}(hr:live N r)(hv:v<n)(hle:ah v<=dep n ah N r)(b:Bool):
  (∀x,S (ef N v b r) x=S r (aB x v b))/\live N (ef N v b r)/\ah v+1<=dep n ah N (ef N v b r):=by
 have hlt:=hl.lt v hv;unfold ef;cases e:N r with
 |none=>
  simp only;refine⟨λx=>?_,hr,by rw[aT e];omega⟩;exact(h.bJ hl hi hr hv (by rw[aT e];exact hlt) x b).symm
 |some d=>
  simp only;rw[an e]at hle;by_cases ev:d.v=v
  ·rw[xad ev];subst ev;refine⟨λx=>(h.child hl hi e x b).symm,?_,?_⟩
   ·cases b
    ·exact(h.lo e).1
    exact(h.hi e).1
   cases b
   ·exact(h.lo e).2
   exact(h.hi e).2
  rw[xab ev];have hne:ah v≠ah d.v:=λe2=>ev (hl.inj _ _ (h.var e) hv e2.symm);refine⟨λx=>(h.bJ hl hi hr hv (by rw[an e];omega) x b).symm,hr,by rw[an e];omega⟩
theorem Tg(b:Bool):(iU N v b q).length=q.length:=by simp[iU]
theorem Th{b:Bool}{i:Nat}(hi:i<q.length):(iU N v b q).getD i 0=ef N v b (q.getD i 0):=by
 simp[iU,List.getD,xaa hi]
theorem py(h:WF n ah N)(hl:jI n ah)(hi:Interp N S)(hq:∀r∈q,live N r)(ht:uC n ah N q v)(b:Bool):
  (∀r∈iU N v b q,live N r)/\(∀r∈iU N v b q,ah v+1<=dep n ah N r):=by
 constructor
 ·intro r hr;obtain⟨s,hs,rfl⟩:=xan.1 hr;exact(gj h hl hi (hq s hs) ht.lt (ht.le s hs) b).2.1
 intro r hr;obtain⟨s,hs,rfl⟩:=xan.1 hr;exact(gj h hl hi (hq s hs) ht.lt (ht.le s hs) b).2.2
theorem KZ(h:WF n ah N)(hl:jI n ah)(hi:Interp N S)(h3:q.length=3)(hq:∀r∈q,live N r)(ht:uC n ah N q v)(t:Bool->Bool->Bool->Bool)(b:Bool):uB t S (iU N v b q)=λx=>uB t S q (aB x v b):=by
 funext x
 have key:∀i,i<3->S ((iU N v b q).getD i 0) x=S (q.getD i 0) (aB x v b):=λi ZY=>by
  have hi':i<q.length:=by omega
  rw[Th hi'];have hm:q.getD i 0∈q:=by rw[xaq,xaa hi'];exact xaH _
  exact(gj h hl hi (hq _ hm) ht.lt (ht.le _ hm) b).1 x
 unfold uB;rw[key 0 zO,key 1 zO,key 2 zO]
theorem zN(h:WF n ah N)(hl:jI n ah)(hi:Interp N S){ord:zL}(ho:Ord n ah ord)(h3:q.length=3)(hq:∀r∈q,live N r){l:Nat}(zn:l<=n)(hle:∀r∈q,l<=dep n ah N r)(t:Bool->Bool->Bool->Bool):∀j,j<l->¬bU (uB t S q) (ord.getD j 0):=by
 rintro j hj ⟨x,hx⟩;apply hx;obtain⟨o1,o2⟩:=ho.aZ j zO;have key:∀i,i<3->∀b,S (q.getD i 0) (aB x (ord.getD j 0) b)=S (q.getD i 0) x:=λi ZY b=>by
  have hi':i<q.length:=by omega
  have hm:q.getD i 0∈q:=by rw[xaq,xaa hi'];exact xaH _
  exact h.bJ hl hi (hq _ hm) o1 (by rw[o2];exact xaP hj (hle _ hm)) x b
 unfold uB;simp only[key 0 zO,key 1 zO,key 2 zO]
theorem Nu(hi:Interp N S)(h3:q.length=3)(hq:∀r∈q,r<2)(t:Bool->Bool->Bool->Bool)(x:Nat):uB t S q x=t (decide (q.getD 0 0=1)) (decide (q.getD 1 0=1)) (decide (q.getD 2 0=1)):=by
 have key:∀i,i<3->S (q.getD i 0) x=decide (q.getD i 0=1):=λi ZY=>by
  have hi':i<q.length:=by omega
  have hm:q.getD i 0∈q:=by rw[xaq,xaa hi'];exact xaH _
  have:=hq _ hm;have h2:q.getD i 0=0\/q.getD i 0=1:=by omega
  rcases h2 with e|e<;>rw[e]
  ·rw[hi.zero];rfl
  rw[hi.one];rfl
 unfold uB;rw[key 0 zO,key 1 zO,key 2 zO]
theorem PW(h:WF n ah N):∀{q:zL},(∃r∈q,∃d,N r=some d)->(hl:jI n ah)->∃v,uC n ah N q v
 | [],he,_=>by obtain⟨r,hr,_⟩:=he;cases hr
 |s::q,he,hl=>by
  by_cases hq:∃r∈q,∃d,N r=some d
  ·obtain⟨v,hv⟩:=PW h hq hl;cases es:N s with
   |none=>
    refine⟨v,hv.lt,?_,λr hr=>?_⟩
    ·obtain⟨r,hr,x⟩:=hv.ex;exact⟨r,by simp[hr],x⟩
    rcases xak.1 hr with rfl|hr
    ·rw[aT es];exact xb7 (hl.lt v hv.lt)
    exact hv.le r hr
   |some d=>
    by_cases hlt:ah d.v<=ah v
    ·refine⟨d.v,h.var es,⟨s,by simp,d,es,rfl⟩,λr hr=>?_⟩;rcases xak.1 hr with rfl|hr
     ·rw[an es];exact xaj _
     exact xbI hlt (hv.le r hr)
    refine⟨v,hv.lt,?_,λr hr=>?_⟩
    ·obtain⟨r,hr,x⟩:=hv.ex;exact⟨r,by simp[hr],x⟩
    rcases xak.1 hr with rfl|hr
    ·rw[an es];omega
    exact hv.le r hr
  obtain⟨r,hr,d,hd⟩:=he;rcases xak.1 hr with rfl|hr
  ·refine⟨d.v,h.var hd,⟨r,by simp,d,hd,rfl⟩,λs hs=>?_⟩;rcases xak.1 hs with rfl|hs
   ·rw[an hd];exact xaj _
   have:N s=none:=by
    cases e:N s with
    |none=>rfl
    |some d'=>exact absurd ⟨s,hs,d',e⟩ hq
   rw[aT this];exact xb7 (hl.lt _ (h.var hd))
  exact absurd ⟨r,hr,d,hd⟩ hq
theorem UR(h:WF n ah N)(hl:jI n ah)(hi:Interp N S):∀(k l:Nat) (q:zL),n-l<=k->l<=n->(∀r∈q,live N r)->(∀r∈q,l<=dep n ah N r)->∃c,Tree n ah N q c/\c+1<=2^(n-l):=by
 intro k;induction k with
 |zero=>
  intro l q hk zn hq hd;refine⟨0,.leaf λr hr=>?_,xef⟩;cases e:N r with
  |none=>rfl
  |some d=>have:=hd r hr;rw[an e]at this;have:=hl.lt _ (h.var e);omega
 |succ k ih=>
  intro l q hk zn hq hd;by_cases he:∃r∈q,∃d,N r=some d
  ·obtain⟨v,hv⟩:=PW h he hl;have hlv:=hl.lt v hv.lt;have nk:l<=ah v:=by
    obtain⟨r,hr,d,dP,rfl⟩:=hv.ex;have:=hd r hr;rwa [an dP]at this
   obtain⟨f1,f2⟩:=py (S:=S) h hl hi hq hv false;obtain⟨t1,t2⟩:=py (S:=S) h hl hi hq hv true;obtain⟨a,ha,BT⟩:=ih (ah v+1) _ zO hlv f1 f2;obtain⟨b,hb,tN⟩:=ih (ah v+1) _ zO hlv t1 t2;refine⟨a+b+1,.node hv ha hb,?_⟩;have e1:2^(n-ah v)=2*2^(n-(ah v+1)):=by
    rw[show n-ah v=(n-(ah v+1))+1 by omega,xd2,xcm]
   have e2:2^(n-ah v)<=2^(n-l):=xax zD zO;omega
  refine⟨0,.leaf λr hr=>?_,xef⟩;cases e:N r with
  |none=>rfl
  |some d=>exact absurd ⟨r,hr,d,e⟩ he
def mP(N:eE)(v:Nat)(b:Bool)(q:zL)(i:Nat):zL:=(iU N v b q).take i++q.drop i
theorem Dc{b:Bool}{i:Nat}(hi:i<=q.length):(mP N v b q i).length=q.length:=by simp[mP,iU];omega
theorem yT(b:Bool):mP N v b q 0=q:=by simp[mP]
theorem Q4(b:Bool):mP N v b q q.length=iU N v b q:=by
 unfold mP;rw[xcv (by rw[Tg];exact xaj _),xet,xaL]
theorem sH{b:Bool}{i r:Nat}(hr:q[i]? =some r):(mP N v b q i).set i (ef N v b r)=mP N v b q (i+1):=by
 have hi:=(xah.1 hr).1;have he:=(xah.1 hr).2;have hl:((iU N v b q).take i).length=i:=by simp[iU];omega
 have hc:(iU N v b q)[i]? =some (ef N v b r):=by simp[iU,hr]
 unfold mP;rw[xcA _ _ zO,hl,xc7,xbr hi,xcz,xbo,hc,xai];rfl
theorem yU{b:Bool}{i r:Nat}(hr:q[i]? =some r)(h:ef N v b r=r):mP N v b q (i+1)=mP N v b q i:=by
 rw[<-sH hr,h];have hi:=(xah.1 hr).1;have he:=(xah.1 hr).2;have hl:((iU N v b q).take i).length=i:=by simp[iU];omega
 unfold mP;rw[xcA _ _ zO,hl,xc7,xbr hi,xcz,he]
end
end au
set_option maxRecDepth 100000
namespace Go.Proofs
open Go Go.Sx Tryz
section
open au
noncomputable instance {K:Kd}{S:Nat->au.Fn}{ord:zL}{l:Nat}:Decidable (jb K S ord l):=Nat.decLe _ _
noncomputable def rm(K:Kd)(S:Nat->au.Fn):Rm:=⟨K.n,cG K S,λord l=>decide (jb K S ord l)⟩
theorem qm{K:Kd}{S:Nat->au.Fn}{ord:zL}{l:Nat}:(rm K S).fit ord l=true↔jb K S ord l:=by
 show decide (jb K S ord l)=true↔_;exact decide_eq_true_iff
def Box(kp b1 mj:Nat)(cs:zL)(B:Hp):Prop:=∃vc Cc,B=(b1,.cells #[ptr kp] 53 zZ)::(mj,.cells #[vc] 43 zZ)::Cc/\aS 3 .i64 vc (iw cs) Cc
section
variable {kp b1 mj w p:Nat} {K:Kd} {S:Nat->au.Fn} {ord tr:zL} {B C:Hp}
theorem PJ(hB:Box kp b1 mj (mi w) B)(h:At kp K S ord tr C)(hp:p+w<=K.n)(fh:tr.length<17454747090944):
  Fc zQ 173 #[iv (p:Int),ptr b1,ptr mj] (B++C) (λv H=>v=iv ((((rm K S).visit w p ord).2:Nat):Int)/\∃C',H=B++C'/\At kp K S (ay ord ((rm K S).visit w p ord).1) (tr++((rm K S).visit w p ord).1) C'):=by
 obtain⟨vc,Cc,rfl,hc⟩:=hB;have hn:=h.lP;have hlen:=h.len;have fO:=Lc w
 let m:=rm K S
 let path:=m.dF p (mi w) ord
 have zm:path.length<=(mi w).length:=m.l9 p _ _;have RM:∀l∈path,l+1<K.n:=λl hl=>by
  obtain⟨c,hc,rfl⟩:=m.DJ p hl;have:=Gu hc;omega
 let P0:Hp->Hp:=λX=>(b1,.cells #[ptr kp] 53 zZ)::(mj,.cells #[vc] 43 zZ)::(Cc++X)
 refine aI λg=>IK ?_;rw[xaQ,xaQ];refine DR.self (Ld.q ?_);refine Ld.q ?_;refine aa.eq (rY h) (⟨.refl _,?_⟩);refine aa.eq (cF h) (⟨.refl _,?_⟩);intro J8 hJ8;have fin:∀C2,At kp K S (ay ord path) (tr++path) C2->J8 [iv ((m.keep ord path path.length:Nat):Int),iv ((path.length:Nat):Int)] (P0 C2):=λC2 h2=>by
  refine hJ8 _ _ _ λgs=>?_;refine Ld.q ?_;have hk:=m.A8 ord path path.length;refine ae.fI (aa.fq (Lj h2 RM hk (by rw[xaf];omega)) ?_);rintro v C' ⟨rfl,h3⟩;exact Ext.two (ae.fI (aN.here ⟨rfl,C',by simp only[xaQ],h3⟩))
 refine Ld.q ?_;refine hc.bV ?_;rw[aq];refine⟨λvs H=>∃i C2,i<=path.length/\vs=[iv ((cG K S (ay ord (path.take (m.keep ord path i))):Nat):Int),iv ((m.keep ord path i:Nat):Int),iv (i:Int),iv (i:Int)]/\H=P0 C2/\At kp K S (ay ord (path.take i)) (tr++path.take i) C2,
  λvs _=>(mi w).length-bN vs 3,JE.mk ⟨0,C,xaN _,rfl,rfl,by simpa[ay]using h⟩,?_⟩
 rintro w26 w27 w28 w29 H ⟨i,C2,hi,hw,rfl,h2⟩ gs;simp only[xau,xa1]at hw;obtain⟨rfl,rfl,rfl,rfl⟩:=hw;refine ae.fC (Br.dec (λhlt=>?_) (λhlt=>?_));rotate_left
 ·obtain rfl:i=path.length:=by omega
  rw[xbj]at h2;exact JE.mk (fin C2 h2)
 intro J31 SA;have pP:(mi w)[i]? =some (mi w)[i]:=xaa hlt;have Gd:(mi w)[i]+2<=w:=Gu (xaH _);refine hc.ld (x:=(((mi w)[i]:Nat):Int)) (by rw[bE hlt,List.getD,pP];rfl) (bH.sub (.cons (.cons .left))) (Ld.q ?_);refine ae.fI ?_;by_cases Bf:i=path.length
 ·-- no room
  subst Bf;rw[xbj]at h2;have hno:¬jb K S (ay ord path) (p+(mi w)[path.length]):=λhf=>by
   have:=m.wz p (mi w) ord _ pP;have h9:=qm.2 hf;rw[show(rm K S).fit (ay ord path) (p+(mi w)[path.length])=false from this]at h9;cases h9
  refine aa.eq (YN h2 zO (by rw[xaf];omega) hno) (Ext.two λb46 _=>(St.q ?_));exact ae.cD (Br.T (JE.of .tail (fin C2 h2)))
 have RW:i<path.length:=by omega
 obtain⟨e1,c',e2,hf⟩:=m.rM p (mi w) ord i RW;rw[pP]at e1 e2;cases e2;have RC:jb K S (ay ord (path.take i)) (p+(mi w)[i]):=qm.1 hf;have nB:path.take (i+1)=path.take i++[p+(mi w)[i]]:=by
  rw[xbo,show path[i]? =some (p+(mi w)[i])from e1];rfl
 refine aa.fq (YM h2 zO (by rw[xaf,xbF];omega) RC) ?_;rintro v C3 ⟨rfl,h3⟩;rw[<-gB,xai,<-nB]at h3;refine Ext.two λb46 _=>(St.q ?_);refine ae.cD (Br.F (ae.inc (Ld.f ?_)));rw[<-gB,<-nB];refine ae.fC (Br.dec (λuy=>?_) (λuy=>?_))
 ·have hk:m.keep ord path (i+1)=i+1:=by rw[Rm.keep];exact xad uy
  refine ai.mk (Ld.mk (v:=iv ((cG K S (ay ord (path.take (i+1))):Nat):Int)) (by exact .head _) rfl ?_);refine JE.mk (SA _ _ _ _ λgs=>?_);refine ae.inc (aC.of .tail ⟨i+1,C3,RW,by rw[hk],rfl,h3⟩ ?_);show(mi w).length-(((i+1:Nat):Int).toNat)<(mi w).length-(((i:Nat):Int).toNat);omega
 have hk:m.keep ord path (i+1)=m.keep ord path i:=by rw[Rm.keep];exact xab uy
 refine JE.mk (SA _ _ _ _ λgs=>?_);refine ae.inc (aC.of .tail ⟨i+1,C3,RW,by rw[hk],rfl,h3⟩ ?_);show(mi w).length-(((i+1:Nat):Int).toNat)<(mi w).length-(((i:Nat):Int).toNat);omega
end
end
section
open au
def rep(b a s:Nat):zV:=.agg #[iv (b:Int),iv (a:Int),iv (s:Int),.bool false]
def mJ(b1 mj b a s:Nat):Array zV:=#[.func (.func 173) #[] #[ptr b1,ptr mj],iv (b:Int),iv (a:Int),iv (s:Int),.bool false]
def Pass(pp kp w b a s:Nat)(B:Hp):Prop:=∃b1 mj B',B=(pp,.cells (mJ b1 mj b a s) 170 zZ)::B'/\Box kp b1 mj (mi w) B'
section
variable {pp kp w p bf af sw:Nat} {K:Kd} {S:Nat->au.Fn} {ord tr:zL} {B C:Hp}
theorem LN(kp:Nat)(w:Int)(C:Hp):Rd zQ 112 #[ptr kp,iv w] C (· =iv (if w<2\/4<w then 1 else 0)):=by
 refine aI λg=>Jx (ae.aL (Br.no (ae.lss (cS.or (decide (4<w)) (λ_=>ae.gtr ⟨rfl,rfl⟩) zI λgs=>?_))));rw[<-xa4];exact Br.dec (λh=>bc.mk (.refl _) (by rw[xad h])) (λh=>bc.mk (.refl _) (by rw[xab h]))
theorem Tv(h:At kp K S ord tr C)(hw:2<=w/\w<=4):Fc zQ 113 #[ptr kp,iv (w:Int)] C (λv H=>∃pp B,v=ptr pp/\H=B++C/\Pass pp kp w (cG K S ord) (cG K S ord) 0 B):=by
 refine aI λg=>Jw λb1 _=>?_;refine DR.self (Ld.q ?_);refine Ld.q ?_;refine aa.eq (cF h) (⟨.refl _,?_⟩);refine aa.eq (cF h) (⟨.refl _,?_⟩);refine Build.mk (cs:=[iv ((cG K S ord:Nat):Int),iv ((cG K S ord:Nat):Int),iv 0,.bool false]) zK (Build.mk (cs:=[.nilFunc,iv ((cG K S ord:Nat):Int),iv ((cG K S ord:Nat):Int),iv 0,.bool false]) zK λUz _=>?_);refine⟨.tail,?_⟩;refine aa.fn hnew (Gv hw) ?_;rintro v Cc ⟨s,rfl,hc⟩;obtain⟨sa,sl,sc,rfl⟩:∃a l c,s=Value.slice a l c:=by obtain⟨a,c,h⟩:=aV.len hc;exact⟨a,_,c,h⟩
 refine Ext.two λmj _=>(St.one (c':=#[.slice sa sl sc]) (by exact .head _) rfl zI rfl ?_);refine Nil.ptr (ai.mk (St.one (c':=mJ b1 mj (cG K S ord) (cG K S ord) 0) (by repeat (first|exact c8.head _|apply c8.tail|apply c8.cr)) rfl (by simp[Value.cells]) rfl ?_));refine aN.mk (nH:=((Uz,.cells (mJ b1 mj (cG K S ord) (cG K S ord) 0) 170 zZ)::(b1,.cells #[ptr kp] 53 zZ)::(mj,.cells #[.slice sa sl sc] 43 zZ)::Cc)++C) (.perm ?_) ⟨Uz,_,rfl,rfl,b1,mj,_,rfl,_,Cc,rfl,hc⟩;refine(List.Perm.cons _ (xaU.trans (List.Perm.cons _ xaU))).trans ?_;refine(List.Perm.swap _ _ _).trans (List.Perm.cons _ (List.Perm.swap _ _ _))
theorem ad5(hB:Pass pp kp w bf af sw B)(h:At kp K S ord tr C)(hp:p+w<=K.n)(fh:tr.length<17454747090944)(hs:sw<4611686018427387904):
  Fc zQ 177 #[ptr pp,ptr kp,iv (p:Int)] (B++C) (λv H=>v=.tuple #[]/\∃B' C',H=B'++C'/\Pass pp kp w bf (cG K S (ay ord ((rm K S).visit w p ord).1)) (sw+((rm K S).visit w p ord).2) B'/\At kp K S (ay ord ((rm K S).visit w p ord).1) (tr++((rm K S).visit w p ord).1) C'):=by
 obtain⟨b1,mj,B',rfl,hb⟩:=hB;have hv:=((rm K S).sg w p ord).2;refine aI λg=>IG (DR.of (R:=[(pp,.cells (mJ b1 mj bf af sw) 170 zZ)]) (.cons .nil) (Nil.ptr (ai.mk (Ld.f ?_))));refine Ld.n ?_;refine aE.of rfl zK (aa.fq (args:=#[iv (p:Int),ptr b1,ptr mj]) (PJ hb h hp fh) ?_);rintro v H ⟨rfl,C',rfl,h'⟩;refine⟨.cons .nil,?_⟩;refine ae.fI (Nil.ptr (ai.mk (ai.mk (St.one (c':=mJ b1 mj bf af (sw+((rm K S).visit w p ord).2)) (by exact .head _) rfl (by simp[mJ]) rfl ?_))));refine aa.eq (cF h') (Nil.ptr (ai.mk (ai.mk (St.one (c':=mJ b1 mj bf (cG K S (ay ord ((rm K S).visit w p ord).1)) (sw+((rm K S).visit w p ord).2)) (by exact .head _) rfl (by simp[mJ]) rfl ?_))));exact aN.here ⟨rfl,_::B',C',rfl,⟨b1,mj,B',rfl,hb⟩,h'⟩
theorem UG(hB:Pass pp kp w bf (cG K S ord) sw B)(h:At kp K S ord tr C)(hw:2<=w/\w<=4)(fh:tr.length<17317308137472)(hs:sw<2305843009213693952):
  Fc zQ 114 #[ptr pp,ptr kp,iv (w:Int)] (B++C) (λv H=>v=.tuple #[]/\∃B' C',H=B'++C'/\Pass pp kp w bf (cG K S (ay ord ((rm K S).pass w ord).1)) (sw+((rm K S).pass w ord).2) B'/\At kp K S (ay ord ((rm K S).pass w ord).1) (tr++((rm K S).pass w ord).1) C'):=by
 have hn:=h.lP;refine aI λg=>Jv ?_;refine⟨λvs H=>∃i B' C',i<=K.n+1-w/\vs=[iv ((i:Nat):Int)]/\H=B'++C'/\Pass pp kp w bf (cG K S (ay ord ((rm K S).all w ord i).1)) (sw+((rm K S).all w ord i).2) B'/\At kp K S (ay ord ((rm K S).all w ord i).1) (tr++((rm K S).all w ord i).1) C',
  λvs _=>K.n+1-bN vs 0,JE.mk ⟨0,B,C,xaN _,rfl,rfl,by simpa[Rm.all,ay]using hB,by simpa[Rm.all,ay]using h⟩,?_⟩
 rintro w5 H ⟨i,B',C',hi,⟨⟩,rfl,hp,ha⟩ gs;have Ps:=(rm K S).Ln w ord i;refine ae.fI (aa.eq (m6 ha) (ae.BP (Br.dec (λhle=>?_) (λhle=>?_))))
 ·refine aa.fq (ad5 hp ha zO (by rw[xaf];omega) zO) ?_;rintro v H ⟨rfl,B2,C2,rfl,mV,BT⟩;rw[<-cj,xai,xcK]at*;refine ae.inc (aC.of (.refl _) ⟨i+1,B2,C2,by omega,rfl,rfl,by rw[Rm.all_succ];exact mV,by rw[Rm.all_succ];exact BT⟩ ?_);show K.n+1-(((i+1:Nat):Int).toNat)<K.n+1-(((i:Nat):Int).toNat);omega
 obtain rfl:i=K.n+1-w:=by omega
 exact aN.here ⟨rfl,B',C',rfl,hp,ha⟩
end
section
variable {pp kp w p bf af sw:Nat} {K:Kd} {S:Nat->au.Fn} {ord tr:zL} {B C:Hp}
theorem Xm(h:At kp K S ord tr C)(hw:2<=w/\w<=4)(fh:tr.length<17317308137472):
  Fc zQ 80 #[ptr kp,iv (w:Int)] C (λv H=>v=.tuple #[rep (cG K S ord) (cG K S (ay ord ((rm K S).pass w ord).1)) ((rm K S).pass w ord).2,iv 0]/\At kp K S (ay ord ((rm K S).pass w ord).1) (tr++((rm K S).pass w ord).1) H):=by
 have hn:=h.lP;refine aI λg=>Ol λb1 _=>?_;refine aa.eq (LN kp w C) ?_;rw[xab zO];refine ae.cD (Br.F (aa.fq (Tv h hw) ?_));rintro v H ⟨pp,B,rfl,rfl,hB⟩;refine aa.fq (UG hB h hw fh zO) ?_;rintro v H ⟨rfl,B',C',rfl,hB',h'⟩;rw[xa5]at hB';obtain⟨x1,x18,B2,rfl,hb⟩:=hB';refine Nil.ptr (ai.mk (az.mk (vs:=#[iv ((cG K S ord:Nat):Int),iv ((cG K S (ay ord ((rm K S).pass w ord).1):Nat):Int),iv ((((rm K S).pass w ord).2:Nat):Int),.bool false]) (by exact .tail _ (.head _)) (by simp[mJ]) rfl ?_));refine St.q ?_;refine az.q ?_;exact aN.mk (.skip .right) ⟨rfl,h'⟩
end
theorem bE{ws:zL}{i:Nat}(h:i<ws.length):(iw ws)[i]? =some ((ws.getD i 0:Nat):Int):=by
 rw[dg (w:=ws.getD i 0)];rw[xaq,xaa h];rfl
def acg(n:Nat)(p:List Int):Prop:=p.length=n/\∀v:Nat,v<n->p.count (v:Int)=1
instance (n:Nat)(p:List Int):Decidable (acg n p):=by unfold acg;infer_instance
theorem RA{p:List Int}{x:Int}{i:Nat}(h:x∉p.take i)(hi:i<p.length)(he:p[i]=x):p.idxOf x=i:=by
 have e:p=p.take i++p[i]::p.drop (i+1):=by
  conv=>lhs;rw[<-xbq i p]
  rw[xbr hi]
 conv=>lhs;rw[e]
 rw[List.idxOf_append,xab h,he,List.idxOf_cons_self,xbF];omega
def tZ(p:List Int):Prop:=∀v:Nat,v<p.length->(v:Int)∈p
theorem xj{p:zL}{n:Nat}(hp:p.Perm (List.range n)):tZ (iw p):=λv hv=>by
 rw[aq,hp.length_eq,xaK]at hv;exact xan.2 ⟨v,hp.mem_iff.2 (xaM.2 hv),rfl⟩
theorem Zi{q:zL}{x:Nat}:(x:Int)∈iw q↔x∈q:=by
 unfold iw;rw[xan];exact⟨λ⟨y,hy,e⟩=>by rw[<-Int.ofNat.inj e];exact hy,λh=>⟨x,h,rfl⟩⟩
theorem Zx(q:zL)(x:Nat):(iw q).idxOf (x:Int)=q.idxOf x:=by
 induction q with
 |nil=>rfl
 |cons y q ih=>
  show(((y:Nat):Int)::iw q).idxOf (x:Int)=_;rw[List.idxOf_cons,List.idxOf_cons,ih];have:(((y:Nat):Int)==(x:Int))=(y==x):=by
   rw[xbE];simp[xex]
  rw[this]
theorem Bs(a k:Nat):decide ((a>>>k)%2=1)=a.testBit k:=by
 cases hb:a.testBit k
 ·rw[xal];rw[ak.Lh,hb];simp
 rw[xam];rw[ak.Lh,hb]
theorem SI{ord:zL}{F G:au.Fn->Prop}(h:∀g,F g->G g):∀l g,fs ord F l g->fs ord G l g
 |0,g,hg=>h g hg
 |l+1,g,⟨f,hf,b,e⟩=>⟨f,SI h l f hf,b,e⟩
theorem bD{n:Nat}{ord:zL}{F G:au.Fn->Prop}(h:∀g,F g->G g){g:au.Fn}(hg:aD n ord F g):aD n ord G g:=let ⟨l,a,b,c⟩:=hg;⟨l,a,SI h l g b,c⟩
structure fY(K:Kd)(S:Nat->au.Fn)(K':Kd)(S':Nat->au.Fn)(f:au.Fn)(r:Nat):Prop where
 n:K'.n=K.n
 cap:K'.cap=K.cap
 N:∀s d,K.N s=some d->K'.N s=some d
 fn:∀s,live K.N s->S' s=S s
 live:live K'.N r
 is:S' r=f
 hold:∀s,K'.hold s=K.hold s+if s=r/\2<=r then 1 else 0
theorem bu{N N':eE}(h:∀s d,N s=some d->N' s=some d){s:Nat}(hs:live N s):live N' s:=by
 rcases hs with hs|⟨d,hd⟩
 ·exact .inl hs
 exact .inr ⟨d,h s d hd⟩
theorem jX{K K5:Kd}{S S5:Nat->au.Fn}{ah:Nat->Nat}(hK:Ok K S ah)(KM:Ok K5 S5 ah)(hold:∀s,K.hold s≠0->K5.hold s≠0)(h3:∀s d d',K.N s=some d->K5.N s=some d'->d'=d):
  ∀(k s:Nat) (d:Nd),K.N s=some d->ah d.v<=k->K5.N s=some d:=by
 intro k;induction k with
 |zero=>
  intro s d hd hl;have fin:live K5.N s->K5.N s=some d:=λhs=>by
   rcases hs with hs|⟨d',dP⟩
   ·have:=(hK.mid.two hd).1;omega
   rw[dP,h3 s d d' hd dP]
  rcases hK.reach s d hd with h|⟨p,e,hp,he⟩
  ·exact fin (.inr (KM.mid.held s (hold s h)))
  have h1:=hK.wf.lo hp;have h2:=hK.wf.hi hp;rcases he with rfl|rfl
  ·have:=h1.2;rw[an hd]at this;omega
  have:=h2.2;rw[an hd]at this;omega
 |succ k ih=>
  intro s d hd hl;have fin:live K5.N s->K5.N s=some d:=λhs=>by
   rcases hs with hs|⟨d',dP⟩
   ·have:=(hK.mid.two hd).1;omega
   rw[dP,h3 s d d' hd dP]
  rcases hK.reach s d hd with h|⟨p,e,hp,he⟩
  ·exact fin (.inr (KM.mid.held s (hold s h)))
  have h1:=hK.wf.lo hp;have h2:=hK.wf.hi hp;rcases he with rfl|rfl
  ·have:=h1.2;rw[an hd]at this;exact fin (KM.mid.lo (ih p e hp zO))
  have:=h2.2;rw[an hd]at this;exact fin (KM.mid.hi (ih p e hp zO))
theorem fY.held{K K':Kd}{S S':Nat->au.Fn}{f:au.Fn}{r:Nat}(h:fY K S K' S' f r)(hm:∀s,K.hold s≠0->au.live K.N s)(g:au.Fn)(hg:K'.held S' g):K.held S g\/g=f:=by
 obtain⟨s,hs,rfl⟩:=hg;by_cases h0:K.hold s=0
 ·right;have:=h.hold s;have hs':K'.hold s≠0:=hs;rw[h0]at this;by_cases e:s=r/\2<=r
  ·rw[e.1];exact h.is
  rw[xab e]at this;omega
 exact .inl ⟨s,h0,h.fn s (hm s h0)⟩
end
end Go.Proofs
namespace au
open ak
section
variable {K:Kd} {S:Nat->Fn} {ah:Nat->Nat}
theorem Ok.VE(h:Ok K S ah){d e:Nd}{r:Nat}
 (hlo:live K.N d.lo)(hhi:live K.N d.hi)(hne:d.lo≠d.hi)(hv:d.v<K.n)(hlt:ah d.v<dep K.n ah K.N d.lo/\ah d.v<dep K.n ah K.N d.hi)(hr:K.N r=some e)(RI:S r=ite S d):e=d:=by
 have RD:e.v=d.v:=by
  have e1:=h.lv.lt e.v (h.mid.var hr);have e2:=h.lv.lt d.v hv;rcases xcJ (ah e.v) (ah d.v)with hh|hh|hh
  ·exfalso;obtain⟨z,hz⟩:=gn h.wf h.lv h.mid.int hr;rw[RI]at hz;apply hz;unfold ite;have i1:=h.wf.bJ h.lv h.mid.int hlo (h.mid.var hr) zO;have i2:=h.wf.bJ h.lv h.mid.int hhi (h.mid.var hr) zO;have M8:d.v≠e.v:=λl7=>by rw[l7]at hh;omega
   simp only[aj,xab M8,i1,i2]
  ·exact h.lv.inj _ _ (h.mid.var hr) hv hh
  exfalso;have hx:=h.wf.bJ h.lv h.mid.int (r:=r) (.inr ⟨e,hr⟩) hv (by rw[an hr];exact hh);apply hne;refine h.wf.same h.lv h.mid.int hlo hhi λx=>?_;have i1:=h.wf.bJ h.lv h.mid.int hlo hv hlt.1;have i2:=h.wf.bJ h.lv h.mid.int hhi hv hlt.2;have q1:=hx x false;have q2:=hx x true;rw[RI]at q1 q2;have q3:=q1.trans q2.symm;unfold ite at q3;simp only[aj,xa7,i1,i2,xaO,xa2]at q3;exact q3
 have kj:∀(b:Bool) x,S (if b then e.hi else e.lo) x=S (if b then d.hi else d.lo) x:=λb x=>by
  rw[<-h.wf.child h.lv h.mid.int hr x b,RI,RD];have i1:=h.wf.bJ h.lv h.mid.int hlo hv hlt.1;have i2:=h.wf.bJ h.lv h.mid.int hhi hv hlt.2;unfold ite;rw[aj,xad rfl,i1,i2];cases b<;>rfl
 have e1:e.lo=d.lo:=h.wf.same h.lv h.mid.int (h.mid.lo hr) hlo λx=>kj false x;have e2:e.hi=d.hi:=h.wf.same h.lv h.mid.int (h.mid.hi hr) hhi λx=>kj true x;have hed:∀a b:Nd,a.v=b.v->a.lo=b.lo->a.hi=b.hi->a=b:=λa b h1 h2 h3=>by
  cases a;cases b;cases h1;cases h2;cases h3;rfl
 exact hed e d RD e1 e2
end
end au
set_option maxRecDepth 100000
namespace Go.Proofs
open Go Go.Sx Tryz
section
open au
def gz(bw kp:Nat)(vl vm:zV):Nat×Obj:=(bw,.cells #[ptr kp,vl,vm] 209 zZ)
abbrev Q3:=Nat×Nat×Nat
def l3(q:Q3):zL:=[q.1,q.2.1,q.2.2]
def kq(q:Q3):zV:=.agg (aA .u32 (iw (l3 q)))
theorem V9{a b:zL}(h:iw a=iw b):a=b:=by
 induction a generalizing b with
 |nil=>cases b with
  |nil=>rfl
  |cons y b=>simp[iw]at h
 |cons x a ih=>cases b with
  |nil=>simp[iw]at h
  |cons y b=>
   simp only[iw,xay,xau]at h;rw[Int.ofNat.inj h.1,ih h.2]
theorem Zq{a b:Q3}(h:l3 a=l3 b):a=b:=by
 obtain⟨a1,a2,a3⟩:=a;obtain⟨b1,b2,b3⟩:=b;simp[l3]at h;rw[h.1,h.2.1,h.2.2]
theorem vZ(a b:Q3):BI zQ 154 (kq a) (kq b) (decide (a=b)):=by
 have:=BI.array (P:=zQ) (t:=154) (e:=78) (q:=.u32) (n:=3) zK zK zK (iw (l3 a)) (iw (l3 b)) rfl rfl;have e:decide (iw (l3 a)=iw (l3 b))=decide (a=b):=xaZ.2 ⟨λh=>Zq (V9 h),λh=>by rw[h]⟩;rw[e]at this;exact this
theorem qw(a:Q3):mw zQ 154 (kq a):=mw.array (P:=zQ) (t:=154) (e:=78) (q:=.u32) (n:=3) zK zK zK _ rfl
theorem A7(a:Q3):Instr.sameBits 10000 (kq a) (kq a)=true:=kS 9998 λx hx=>.inl (by simp[aA]at hx;obtain⟨n,_,rfl⟩:=hx;exact⟨_,_,rfl⟩)
section
variable {kp bw:Nat} {vl vm:zV} {K:Kd} {S:Nat->au.Fn} {ord ah tr:zL} {C:Hp}
theorem NL{H:Hp}{r:List zV}{K:zV->Hp->Prop}(hl:r.length=3)(h:∀b,K (.slice (some ⟨b,0,none⟩) 1 1) ((b,.cells r.toArray 144 zZ)::H)):ax zQ 213 1 [(0,.agg r.toArray)] H K:=
 ax.one (r:=r) (e:=144) (k:=3) (z:=.agg #[iv 0,.int .u32 0,.int .u32 0]) zK zK zK zD hl h
theorem Ad{X Y:Hp}(h:cR kp K ord ah tr C)(q:Q3)(hq:∀r∈l3 q,r<4294967296):
  Fc zQ 156 #[ptr bw,kq q] (gz bw kp vl vm::(X++(Y++C))) (λv H=>∃CN,H=CN++(gz bw kp vl vm::(X++(Y++C)))/\aV 144 3 v ((l3 q).map (got K.N)) CN):=by
 have hlen:(l3 q).length=3:=rfl;refine aI λg=>I1 λb1 _=>?_;refine az.q ?_;refine⟨λvs H=>∃(i:Nat) (u:zV) (CN:Hp),vs=[u,iv (i:Int)]/\i<=3/\H=CN++((b1,.cells (aA .u32 (iw (l3 q))) 154 zZ)::(gz bw kp vl vm::(X++(Y++C))))/\aV 144 3 u (((l3 q).take i).map (got K.N)) CN,λvs _=>3-bN vs 1,
  JE.mk ⟨0,_,[],rfl,by omega,rfl,aV.nil _ _⟩,?_⟩
 rintro w8 w9 H ⟨i,u,CN,⟨⟩,hi,rfl,hN⟩ gs;refine ae.fC (b:=3) (Br.dec (λhlt=>?_) (λhlt=>?_))
 ·have iA:i<(l3 q).length:=hlt;obtain⟨r,hr⟩:∃r,(l3 q)[i]? =some r:=⟨_,xaa iA⟩;have ZG:=hq r (xav hr);refine jH.aee (t:=154) (e:=78) (q:=.u32) (x:=.tmp 10) (i:=.tmp 11) (l:=iw (l3 q)) (z:=(r:Int)) (kd:=.i64) (n:=3) (j:=i) zK rfl rfl zK zK zK hlt (dg hr) ?_;refine Ld.n ?_;refine aa.eq (args:=#[ptr kp,u32 r]) (iQ h ZG) (Ext.two λBZ _=>(St.whole (r:=got K.N r) (by exact .head _) rfl (aP _ _).1 (aP _ _).2 ?_));refine az.whole (r:=got K.N r) (by exact .head _) (aP _ _).1 ?_;refine NL (aP _ _).1 λbx=>?_;refine hN.rZ (r:=got K.N r) (.cons (.cons .left)) (by exact .head _) (aP _ _).1 (aP _ _).2 ⟨[iv 0,.int .u32 0,.int .u32 0],rfl,rfl⟩ zP zP λv' C' ho=>?_;refine ae.inc (aC.of (.skip .tail) ⟨i+1,v',C',rfl,by omega,rfl,?_⟩ (by simp only[bN];omega));rw[xbo,hr,xaB];exact ho
 obtain rfl:i=3:=by omega
 rw[xcv (by rw[hlen];exact xaj _)]at hN;exact aN.mk (.de .tail _) ⟨CN,rfl,hN⟩
theorem Lk{n:Nat}{r8:Nat->Nat}{N:eE}{B:Hp}{vn:zV}{lvl:zL}(hw:gz bw kp vl vm∈B)(hl:dz .i64 B vl (iw lvl))(nk:lvl.length=n)(hlv:∀v,v<n->lvl.getD v 0=r8 v)(q:Q3)(hn:Sl 3 B vn ((l3 q).map (got N)))
 (h:WF n r8 N)(hL:jI n r8)(hq:∀r∈l3 q,live N r)(sP:n<=64):
  Rd zQ 157 #[ptr bw,vn] B (λr=>((∀s∈l3 q,N s=none)/\r=iv (-1))\/∃v,uC n r8 N (l3 q) v/\r=iv (v:Int)):=by
 have hlen:(l3 q).length=3:=rfl;refine aI λg=>I0 (hn.bV ?_);rw[xaE,hlen];refine⟨λvs H=>∃(i:Nat) (w:Int),vs=[iv w,iv (i:Int)]/\i<=3/\H=B/\(((∀s∈(l3 q).take i,N s=none)/\w= -1)\/∃v:Nat,uC n r8 N ((l3 q).take i) v/\w=(v:Int)),λvs _=>3-bN vs 1,
  JE.mk ⟨0, -1,rfl,by omega,rfl,.inl ⟨by simp,rfl⟩⟩,?_⟩
 rintro w6 w7 H ⟨i,w,⟨⟩,hi,rfl,hw6⟩ gs;refine ae.fC (b:=3) (Br.dec (λhlt=>?_) (λhlt=>?_))
 ·intro J hJ;have iA:i<(l3 q).length:=hlt;obtain⟨r,hr⟩:∃r,(l3 q)[i]? =some r:=⟨_,xaa iA⟩;have nB:(l3 q).take (i+1)=(l3 q).take i++[r]:=by rw[xbo,hr];rfl
  have fin:∀(w':Int) (Z:Hp),((∀s∈(l3 q).take (i+1),N s=none)/\w'= -1)\/(∃v:Nat,uC n r8 N ((l3 q).take (i+1)) v/\w'=(v:Int))->J [iv w'] (Z++H):=λw' Z h'=>hJ _ _ λgs=>by
   exact ae.inc (aC.of .right ⟨i+1,w',rfl,by omega,rfl,h'⟩ (by simp only[bN];omega))
  have hrow:((l3 q).map (got N))[i]? =some (got N r):=by rw[xat,hr];rfl
  refine av.sl hn hrow λp hp=>?_;refine az.at hp (aP _ _).1 zD (λ_ h=>h) ?_;intro r9 _;refine St.whole (r:=got N r) (by exact .head _) rfl (aP _ _).1 (aP _ _).2 ?_;have hlr:=hq r (xav hr);cases hN:N r with
  |none=>
   have qx:r<2:=by rcases hlr with h2|⟨d,hd⟩;exact h2;rw[hN]at hd;cases hd
   have eg:got N r=[iv (-1),u32 r,u32 r]:=fG qx;rw[eg];refine Ld.f ?_;refine ae.geq (cS.mk false (λh=>by simp at h) (λ_=>rfl) λgs=>Br.no ?_);refine JE.mk (fin w [_] ?_);rcases hw6 with⟨h1,h2⟩|⟨v,h1,h2⟩
   ·refine .inl ⟨λs hs=>?_,h2⟩;rw[nB,xao,xaw]at hs;rcases hs with hs|rfl
    ·exact h1 s hs
    exact hN
   refine .inr ⟨v,⟨h1.lt,?_,λs hs=>?_⟩,h2⟩
   ·obtain⟨s,hs,x⟩:=h1.ex;exact⟨s,by rw[nB];exact xae _ hs,x⟩
   rw[nB,xao,xaw]at hs;rcases hs with hs|rfl
   ·exact h1.le s hs
   rw[aT hN];exact xb7 (hL.lt v h1.lt)
  |some d=>
   have h2:=h.two hN;have kA:=h.var hN;have eg:got N r=bt d:=dZ hN h2;rw[eg];refine Ld.f ?_;refine ae.geq ?_;rw[xam zO];have Cb:(∀s∈(l3 q).take i,r8 d.v<=dep n r8 N s)->∃v:Nat,uC n r8 N ((l3 q).take (i+1)) v/\(d.v:Int)=(v:Int):=λhle=>by
    refine⟨d.v,⟨kA,⟨r,by rw[nB];simp,d,hN,rfl⟩,λs hs=>?_⟩,rfl⟩;rw[nB,xao,xaw]at hs;rcases hs with hs|rfl
    ·exact hle s hs
    rw[an hN];exact xaj _
   rcases hw6 with⟨h1,rfl⟩|⟨v,h1,rfl⟩
   ·refine cS.and true (λ_=>?_) rfl λgs=>Br.yes ?_
    ·exact ae.lss (cS.mk true (λh=>by simp at h) (λ_=>rfl) λgs=>⟨rfl,rfl⟩)
    refine Ld.f ?_;refine JE.mk (fin (d.v:Int) [_] (.inr (Cb λs hs=>?_)));rw[aT (h1 s hs)];exact xb7 (hL.lt _ kA)
   have g1:(iw lvl)[d.v]? =some ((r8 d.v:Nat):Int):=by rw[<-hlv d.v kA];exact bE zO
   have g2:(iw lvl)[v]? =some ((r8 v:Nat):Int):=by rw[<-hlv v h1.lt];exact bE (by have:=h1.lt;omega)
   refine cS.and (decide (r8 d.v<r8 v)) (λ_=>?_) rfl λgs=>?_
   ·refine ae.lss ?_;rw[xal zO];refine cS.or (decide (r8 d.v<r8 v)) (λ_=>?_) rfl λgs=>⟨rfl,by simp⟩;refine Ld.v (.tail _ hw) ?_;refine Ld.f ?_;refine hl.ld g1 (λ_ h=>.tail _ h) (Ld.v (.tail _ hw) ?_);exact hl.ld g2 (λ_ h=>.tail _ h) (ae.fC ⟨rfl,rfl⟩)
   rw[xco];refine Br.dec (λuy=>?_) (λuy=>?_)
   ·refine Ld.f ?_;refine JE.mk (fin (d.v:Int) [_] (.inr (Cb λs hs=>?_)));have:=h1.le s hs;omega
   refine JE.mk (fin (v:Int) [_] (.inr ⟨v,⟨h1.lt,?_,λs hs=>?_⟩,rfl⟩))
   ·obtain⟨s,hs,x⟩:=h1.ex;exact⟨s,by rw[nB];exact xae _ hs,x⟩
   rw[nB,xao,xaw]at hs;rcases hs with hs|rfl
   ·exact h1.le s hs
   rw[an hN];omega
 obtain rfl:i=3:=by omega
 rw[xcv (by rw[hlen];exact xaj _)]at hw6;refine bc.mk (.refl _) ?_;rcases hw6 with⟨h1,rfl⟩|⟨v,h1,rfl⟩
 ·exact .inl ⟨h1,rfl⟩
 exact .inr ⟨v,h1,rfl⟩
theorem MY(h:bP kp K S ord ah tr C){v lo hi:Nat}(hv:v<K.n)(hlo:live K.N lo)(hhi:live K.N hi)(hlt:lv ah v<dep K.n (lv ah) K.N lo/\lv ah v<dep K.n (lv ah) K.N hi):
  Rd zQ 216 #[ptr kp,iv (v:Int),u32 lo,u32 hi] C (· =if lo=hi then .tuple #[u32 lo,.bool true]else .tuple #[u32 ((K.T ⟨v,lo,hi⟩).getD 0),.bool (K.T ⟨v,lo,hi⟩).isSome]):=by
 have agA:=h.bM hlo;have agK:=h.bM hhi;have DB:=bZ.2 hlo;have qP:=bZ.2 hhi;have hfe:pT K ah (v:Int) lo hi=0:=by
  unfold pT;rw[xab zO,xab (by rw[DB,qP];simp),xab];rintro⟨hne,hmin⟩;simp only[xbe,lv]at hmin hlt;omega
 refine aI λg=>H7 λJ hJ=>?_;refine ae.aL (Split.go rfl (aa.eq (KX h.rep (v:Int) zO zO (λr d hd=>⟨h.ok.mid.var hd,(h.ok.mid.two hd).1⟩)) ?_));rw[hfe];refine ae.cD (aH.mk (JE.mk (hJ _ _ λgs=>?_)));rw[xal zI];refine Br.no (aa.rq (Kb h.rep (lo:=lo) (hi:=hi) hv) ?_);rintro w hw;subst hw;by_cases he:lo=hi
 ·rw[xad he];exact Ext.mk rfl (Ext.mk rfl (bc.mk (.refl _) rfl))
 rw[xab he];exact Ext.mk rfl (Ext.mk rfl (bc.mk (.refl _) rfl))
theorem v7(h:bP kp K S ord ah tr C){v lo hi r:Nat}(hv:v<K.n)(hlo:live K.N lo)(hhi:live K.N hi)(hlt:lv ah v<dep K.n (lv ah) K.N lo/\lv ah v<dep K.n (lv ah) K.N hi)(hr:live K.N r)(h2:2<=r)(hS:S r=ite S ⟨v,lo,hi⟩):
  Rd zQ 216 #[ptr kp,iv (v:Int),u32 lo,u32 hi] C (· =.tuple #[u32 r,.bool true]):=by
 refine(MY h hv hlo hhi hlt).mono ?_;rintro w H ⟨e,rfl⟩;refine⟨e,?_⟩;by_cases he:lo=hi
 ·subst he;rw[xad rfl,h.ok.wf.same h.ok.lv h.ok.mid.int hr hlo λx=>by rw[hS];unfold au.ite;split<;>rfl]
 rw[xab he];obtain⟨d,hd⟩:∃d,K.N r=some d:=by
  rcases hr with h3|h3
  ·omega
  exact h3
 have hdd:d=⟨v,lo,hi⟩:=h.ok.VE (d:=⟨v,lo,hi⟩) hlo hhi he hv hlt hd hS;subst hdd;rw[(h.ok.mid.kf _ r).2 ⟨hd,λe=>e⟩];rfl
theorem GK(r v:Nat)(B:Hp):Rd zQ 158 #[ptr bw,iv (v:Int),u32 r,u32 r] B (· =.tuple #[u32 r,iv 0]):=by
 exact aI λg=>xL (ae.gJ (Br.T (bc.mk (.refl _) rfl)))
theorem TJ{CM X:Hp}{made:zL}(h:bP kp K S ord ah tr C){v lo hi:Nat}(hv:v<K.n)(hlo:live K.N lo)(hhi:live K.N hi)(hne:lo≠hi)(hlt:lv ah v<dep K.n (lv ah) K.N lo/\lv ah v<dep K.n (lv ah) K.N hi)
 (hM:aS 78 .u32 vm (iw made) CM)(hlen:made.length<=1099511627776):
  Fc zQ 158 #[ptr bw,iv (v:Int),u32 lo,u32 hi] (gz bw kp vl vm::(X++(CM++C))) (λw H=>
   (∃r K' S' C' YK CM',w=.tuple #[u32 r,iv 0]/\H=gz bw kp vl YK::(X++(CM'++C'))/\bP kp K' S' ord ah [] C'/\pX K S K' S' (ite S ⟨v,lo,hi⟩) r/\aS 78 .u32 YK (iw (made++[r])) CM')\/
   (w=.tuple #[u32 0,iv 9]/\H=gz bw kp vl vm::(X++(CM++C))/\K.cap<=K.used/\K.T ⟨v,lo,hi⟩=none)\/
   (∃r,w=.tuple #[u32 r,iv 0]/\H=gz bw kp vl vm::(X++(CM++C))/\live K.N r/\2<=r/\K.hold r=65535/\S r=ite S ⟨v,lo,hi⟩)):=by
 refine aI λg=>xL (ae.dx (Br.S8 hne (Ld.n ?_)));refine aa.fq (A4 h hv hlo hhi (.inr hlt)) ?_;rintro w C' (⟨r,K',S',rfl,cZ,mk⟩|⟨r,rfl,rfl,hlr,Py,hfull,Gf⟩|⟨rfl,rfl,hcap,_,hT⟩)
 ·refine Ext.two λJ hJ=>(ae.gJ (Br.T (Ld.n ?_)));refine ax.int (e:=78) zK zK zK λbx=>?_;refine hM.rZ (x:=(r:Int)) (.cons (.cons (.app .left))) (by exact .head _) (by rw[aq];omega) (by rw[aq];omega) λYK CM' hM'=>?_;have h1:=hM'.one;refine Nil.ptr (ai.mk (St.one (by exact .tail (.head _)) h1 zI rfl ?_));refine aN.mk .tail (.inl ⟨r,K',S',C',YK,CM',rfl,rfl,cZ,mk,?_⟩);rw[cC];exact hM'
 ·refine Ext.two λJ hJ=>(ae.gJ (Br.F (ae.gJ (Br.T (Ld.n ?_)))));exact aa.eq (v7 h hv hlo hhi hlt hlr Py Gf) (Ext.mk rfl (Ext.mk rfl (Br.yes (aN.here (.inr (.inr ⟨r,rfl,rfl,hlr,Py,hfull,Gf⟩))))))
 exact Ext.two λJ hJ=>(ae.gJ (Br.F (ae.gJ (Br.F (JE.mk (hJ _ λgs=>aN.here (.inr (.inl ⟨rfl,rfl,hcap,hT⟩))))))))
end
end
section
open au
structure kY(K0:Kd)(S0:Nat->au.Fn)(U:au.Fn->Prop)(ord:zL)(K:Kd)(S:Nat->au.Fn)(made:zL):Prop where
 n:K.n=K0.n
 cap:K.cap=K0.cap
 N:∀s d,K0.N s=some d->K.N s=some d
 fn:∀s,live K0.N s->S s=S0 s
 hold:∀s,K.hold s=K0.hold s+made.count s
 two:∀s∈made,2<=s
 U:∀g,aD K0.n ord (K.held S) g->U g
theorem kY.refl{K0:Kd}{S0:Nat->au.Fn}{U:au.Fn->Prop}{ord:zL}(h:∀g,aD K0.n ord (K0.held S0) g->U g):kY K0 S0 U ord K0 S0 []:=⟨rfl,rfl,λ_ _ h=>h,λ_ _=>rfl,λs=>by simp,by simp,h⟩
def Fits(U:au.Fn->Prop)(cap:Nat):Prop:=∃ku,nw U ku/\ku+2<=cap
section
variable {kp:Nat} {K0 K:Kd} {S0 S:Nat->au.Fn} {U:au.Fn->Prop} {ord ah tr:zL} {made:zL} {C:Hp}
theorem kY.iz(h:kY K0 S0 U ord K S made)(hK:bP kp K S ord ah tr C){s:Nat}(hs:s∈made):live K.N s:=by
 refine .inr (hK.ok.mid.held s ?_);rw[h.hold];have:=xbN.2 hs;omega
theorem y8{b:Nat}:∀(m:Nat) (l:zL),(∀x∈l,x<m)->(∀x,l.count x<=b)->l.length<=m*b
 |0,l,h1,_=>by
  cases l with
  |nil=>simp
  |cons x l=>exact absurd (h1 x (xbL ..)) (xcC _)
 |m+1,l,h1,h2=>by
  have ih:=y8 m (l.filter λx=> !(x==m)) (λx hx=>by
   obtain⟨hx,hne⟩:=xbV.1 hx;have:=h1 x hx;have:x≠m:=by simpa using hne
   omega) (λx=>xbI (List.filter_sublist.count_le x) (h2 x))
  have e:=List.length_eq_countP_add_countP (λx=>x==m) (l:=l);have h3:=h2 m;rw[List.count]at h3;rw[List.countP_eq_length_filter (l:=l) (p:=λa=>decide ¬(a==m)=true)]at e;rw[xbu];have e2:(l.filter λa=>decide ¬(a==m)=true)=l.filter λx=> !(x==m):=xcY λx _=>by cases x==m<;>rfl
  rw[e2]at e;omega
theorem kY.rB(h:kY K0 S0 U ord K S made)(hK:bP kp K S ord ah tr C):made.length<=1048576*65535:=
 y8 _ _ (λx hx=>by
  have hc:=xbN.2 hx;have:=h.hold x;obtain⟨d,hd⟩:=hK.ok.mid.held x zO;have:=(hK.ok.mid.two hd).2;have:=hK.ok.mid.cap;omega) (λx=>by have:=h.hold x;have:=hK.ok.mid.mx x;omega)
theorem kY.full(h:kY K0 S0 U ord K S made){r:Nat}(hr:K.hold r=65535):r∈made\/K0.hold r=65535:=by
 by_cases hm:r∈made
 ·exact .inl hm
 have:=h.hold r;rw[xdI.2 hm]at this;exact .inr zO
theorem kY.live(h:kY K0 S0 U ord K S made){s:Nat}(hs:live K0.N s):live K.N s:=bu h.N hs
theorem kY.step(h:kY K0 S0 U ord K S made)(hK:bP kp K S ord ah tr C){K':Kd}{S':Nat->au.Fn}{f:au.Fn}{r:Nat}(m:pX K S K' S' f r)(h2:2<=r)(hU:∀g,aD K0.n ord (λg=>g=f) g->U g):kY K0 S0 U ord K' S' (made++[r]):=by
 refine⟨m.n.trans h.n,m.cap.trans h.cap,λs d hd=>m.N s d (h.N s d hd),λs hs=>(m.fn s (h.live hs)).trans (h.fn s hs),λs=>?_,λs hs=>?_,λg hg=>?_⟩
 ·rw[m.hold,xbf,xcH,h.hold];by_cases e:s=r
  ·subst e;simp[h2];omega
  have:(r==s)=false:=by simpa using λe'=>e e'.symm
  simp[e,this]
 ·rcases xao.1 hs with hs|hs
  ·exact h.two s hs
  simp at hs;subst hs;exact h2
 have mz:∀g,K'.held S' g->K.held S g\/g=f:=by
  rintro g ⟨s,hs,rfl⟩;have hs':K'.hold s≠0:=hs;rw[m.hold]at hs';by_cases e:s=r/\2<=r
  ·right;rw[e.1];exact m.is
  rw[xab e]at hs';exact .inl ⟨s,hs',m.fn s (.inr (hK.ok.mid.held s hs'))⟩
 rcases(lJ g).1 (bD mz hg)with h1|h1
 ·exact h.U g h1
 exact hU g h1
end
def Bw(je b1 b5 r9:Nat):zV:=.func (.func 155) #[] #[ptr je,ptr b1,ptr b5,ptr r9]
structure BH(fv:zV)(LB:Hp)(t:Bool->Bool->Bool->Bool):Prop where
 is:∃f first cap,fv=.func (.func f) first cap/\aU zQ f=true/\∀x y z:Bool,Rd zQ f (first++ #[.bool x,.bool y,.bool z]++cap) LB (· =.bool (t x y z))
def ael(K0:Kd)(S0 S:Nat->au.Fn)(t:Bool->Bool->Bool->Bool)(made:zL)(m:List (Q3×Nat)):Prop:=∀y∈m,S y.2=uB t S0 (l3 y.1)/\(y.2<2\/y.2∈made\/K0.hold y.2=65535)
section
variable {kp je b1 b5 r9 bm bw:Nat} {vl fv:zV} {LB CL:Hp} {lvl:zL} {K0:Kd} {S0:Nat->au.Fn} {U:au.Fn->Prop} {ord ah:zL} {t:Bool->Bool->Bool->Bool}
abbrev Yo(je b1 b5 r9 bm bw kp:Nat)(fv vl vm:zV)(LB CL CM C:Hp)(es:Array MapEntry)(ck:Nat):Hp:=
 (je,.cells #[.map (some bm)] 211 zZ)::(b1,.cells #[ptr bw] 149 zZ)::(b5,.cells #[fv] 155 zZ)::(r9,.cells #[Bw je b1 b5 r9] 212 zZ)::
 (LB++((bm,.map es ck)::(gz bw kp vl vm::(CL++(CM++C)))))
structure Stp(kp:Nat)(K0:Kd)(S0:Nat->au.Fn)(U:au.Fn->Prop)(ord ah YO:zL)(t:Bool->Bool->Bool->Bool)(K:Kd)(S:Nat->au.Fn)(made:zL)(es:Array MapEntry)(ck:Nat)(vm:zV)(CM C:Hp):Prop where
 ks:∃tr,bP kp K S ord ah tr C/\(tr=[]\/(tr=YO/\made=[]))
 cV:kY K0 S0 U ord K S made
 mde:aS 78 .u32 vm (iw made) CM
 kn:∃m,aF kq Pe es ck m/\ael K0 S0 S t made m
structure gy(K:Kd)(S:Nat->au.Fn)(made:zL)(K':Kd)(S':Nat->au.Fn)(made':zL)(c:Nat):Prop where
 N:∀s d,K.N s=some d->K'.N s=some d
 fn:∀s,live K.N s->S' s=S s
 ext:∃ext,made'=made++ext/\ext.length<=c
theorem gy.refl{K:Kd}{S:Nat->au.Fn}{made:zL}{c:Nat}:gy K S made K S made c:=⟨λ_ _ h=>h,λ_ _=>rfl,[],by simp,xaN _⟩
section
variable {K K' K2:Kd} {S S' S2:Nat->au.Fn} {made made' fT:zL} {c c':Nat}
theorem gy.LK(h:gy K S made K' S' made' c)(hc:c<=c'):gy K S made K' S' made' c':=⟨h.N,h.fn,let ⟨e,h1,h2⟩:=h.ext;⟨e,h1,by omega⟩⟩
theorem gy.mem{s:Nat}(h:gy K S made K' S' made' c)(hs:s∈made):s∈made':=by
 obtain⟨e,rfl,_⟩:=h.ext;exact xae _ hs
theorem gy.count(h:gy K S made K' S' made' c)(s:Nat):made'.count s<=made.count s+c/\made'.length<=made.length+c:=by
 obtain⟨e,rfl,he⟩:=h.ext;have:=List.count_le_length (a:=s) (l:=e);rw[xbf,xaf];omega
theorem gy.trans(h:gy K S made K' S' made' c)(h':gy K' S' made' K2 S2 fT c'):gy K S made K2 S2 fT (c+c'):=by
 obtain⟨e,rfl,he⟩:=h.ext;obtain⟨e',rfl,he'⟩:=h'.ext;exact⟨λs d hd=>h'.N s d (h.N s d hd),λs hs=>(h'.fn s (bu h.N hs)).trans (h.fn s hs),e++e',by rw[xai],by rw[xaf];omega⟩
end
theorem nX{κ β:Type}[DecidableEq κ]{m:List (κ×β)}{k:κ}{x:β}{y:κ×β}(h:y∈eo m k x):y=(k,x)\/y∈m:=by
 unfold eo at h;split at h
 ·obtain⟨z,hz,rfl⟩:=xan.1 h;split
  ·exact .inl rfl
  exact .inr hz
 rcases xao.1 h with h|h
 ·exact .inr h
 simp at h;exact .inl h
def CD(N:eE)(v:Nat)(b:Bool)(q:Q3):Q3:=(ef N v b q.1,ef N v b q.2.1,ef N v b q.2.2)
theorem VZ(N:eE)(v:Nat)(b:Bool)(q:Q3):l3 (CD N v b q)=iU N v b (l3 q):=rfl
theorem oh{N N':eE}(hN:∀s d,N s=some d->N' s=some d)(h2:∀r,r<2->N r=none)(nL:∀r,r<2->N' r=none){r:Nat}(hr:live N r):got N' r=got N r:=by
 rcases hr with hr|⟨d,hd⟩
 ·rw[fG hr,fG hr]
 by_cases h:r<2
 ·rw[h2 r h]at hd;cases hd
 rw[dZ hd zO,dZ (hN r d hd) zO]
def Ans(kp je b1 b5 r9 bm bw:Nat)(fv vl:zV)(LB CL:Hp)(K0:Kd)(S0:Nat->au.Fn)(U:au.Fn->Prop)(ord ah YO:zL)(t:Bool->Bool->Bool->Bool)(ql:zL)(c:Nat)(K:Kd)(S:Nat->au.Fn)(made:zL)(r:zV)(H:Hp):Prop:=
 ∃K' S' made' es' bB YK CM' C',H=Yo je b1 b5 r9 bm bw kp fv vl YK LB CL CM' C' es' bB/\Stp kp K0 S0 U ord ah YO t K' S' made' es' bB YK CM' C'/\gy K S made K' S' made' c/\
   ((∃x:Nat,r=.tuple #[u32 x,iv 0]/\S' x=uB t S0 ql/\(x<2\/x∈made'\/K0.hold x=65535))\/(r=.tuple #[u32 0,iv 9]/\¬Fits U K0.cap))
theorem aao(fO:aU zQ 155=true)(Bl:BH fv LB t)(Yn:aS 3 .i64 vl (iw lvl) CL)(nk:lvl.length=K0.n)(hlv:∀v,v<K0.n->lvl.getD v 0=lv ah v)(sP:K0.n<=64)(k7:WF K0.n (lv ah) K0.N)(pF:Interp K0.N S0)(jM:jI K0.n (lv ah))(KQ:∀r,live K0.N r->r<4294967296)(hh0:∀s,K0.hold s=65535->live K0.N s){YO:zL}:
  ∀(ql:zL) (c:Nat),Tree K0.n (lv ah) K0.N ql c->∀(q:Q3),l3 q=ql->∀(K:Kd) (S:Nat->au.Fn) (made:zL) (es:Array MapEntry) (ck:Nat) (vm:zV) (CM C:Hp),Stp kp K0 S0 U ord ah YO t K S made es ck vm CM C->
  (∀r∈ql,live K0.N r)->(∀g,aD K0.n ord (λg=>g=uB t S0 ql) g->U g)->
  Fc zQ 155 #[kq q,ptr je,ptr b1,ptr b5,ptr r9] (Yo je b1 b5 r9 bm bw kp fv vl vm LB CL CM C es ck) (λr H=>Ans kp je b1 b5 r9 bm bw fv vl LB CL K0 S0 U ord ah YO t ql c K S made r H):=by
 have hc0:∀r,r<2->K0.N r=none:=λr hr=>k7.const hr;intro ql c hT;induction hT with
 | @leaf ql hnone=>
  intro q hq K S made es ck vm CM C hS fM hU g;subst hq;obtain⟨tr,hK,fh⟩:=hS.ks;obtain⟨m,hE,hkn⟩:=hS.kn;have KJ:∀r,r<2->K.N r=none:=λr hr=>hK.ok.wf.const hr;refine xM (R:=aN _) ?_;unfold L155;intro bq _;refine Ld.q ?_;refine az.q ?_;have yc:(bm,Obj.map es ck)∈(bq,Obj.cells (aA .u32 (iw (l3 q))) 154 zZ)::Yo je b1 b5 r9 bm bw kp fv vl vm LB CL CM C es ck:=.tail _ (.tail _ (.tail _ (.tail _ (.tail _ (xac _ (.head _))))));cases hg:aG m q with
  |some x=>
   refine aF.F6 (ke:=kq) (k:=q) vZ qw hE yc hg ?_;rintro v rfl;obtain⟨h1,h2⟩:=hkn _ ((dW hE.nd).1 hg);exact Ext.mk rfl (Ext.mk rfl (Br.yes (aN.mk .tail ⟨K,S,made,es,ck,vm,CM,C,rfl,hS,.refl,.inl ⟨x,rfl,h1,h2⟩⟩)))
  |none=>
   refine aF.vR (ke:=kq) (k:=q) vZ qw hE yc hg ?_;refine Ext.mk rfl (Ext.mk rfl (Br.no (Ld.q ?_)));refine az.q ?_;refine aa.fq (args:=#[ptr bw,kq q]) (Ad hK.rep q (λr hr=>KQ r (fM r hr))) ?_;rintro vn H ⟨CN,rfl,hN⟩;have eN:(l3 q).map (got K.N)=(l3 q).map (got K0.N):=xbh λr hr=>oh hS.cV.N hc0 KJ (fM r hr);rw[eN]at hN;refine Ld.q ?_;refine aa.rq (Lk (bw:=bw) (kp:=kp) (vl:=vl) (vm:=vm) (lvl:=lvl) (n:=K0.n) (r8:=lv ah) (N:=K0.N) (.tail _ (.tail _ (.tail _ (.tail _ (.tail _ (xac _ (.tail _ (xac _ (.head _))))))))) (Yn.ints.mono λ_ h=>.tail _ (.tail _ (.tail _ (.tail _ (.tail _ (xac _ (.tail _ (xac _ (.tail _ (xae _ h)))))))))) nk hlv q ((Sl.rh hN zD).mono λ_ h=>.tail _ (.tail _ (.tail _ (.tail _ (.tail _ (xac _ (.tail _ (xae _ h)))))))) k7 jM fM sP) ?_;rintro w (⟨_,rfl⟩|⟨v,hv,rfl⟩);rotate_left
   ·obtain⟨s,hs,d,hd,_⟩:=hv.ex;rw[hnone s hs]at hd;cases hd
   refine ae.lss (Br.T ?_);have M9:∀r∈l3 q,r<2:=λr hr=>by
    rcases fM r hr with h|⟨d,hd⟩
    ·exact h
    rw[hnone r hr]at hd;cases hd
   obtain⟨f,first,cap,R2,hfc,hL⟩:=Bl.is;refine Ld.q ?_;refine iX.nat (j:=0) zD (Ld.q ?_);refine ae.dx (b:=1) (iX.nat (j:=1) zD (Ld.q ?_));refine ae.dx (b:=1) (iX.nat (j:=2) zD (Ld.q ?_));refine ae.dx (b:=1) (aE.of R2 hfc ?_);refine aa.eq (hL _ _ _) ?_;have M8:=λx=>Nu pF (q:=l3 q) rfl M9 t x;have hint:=hK.ok.mid.int;have Yd:aM ((bq,Obj.cells (aA .u32 (iw (l3 q))) 154 zZ)::(je,.cells #[.map (some bm)] 211 zZ)::(b1,.cells #[ptr bw] 149 zZ)::(b5,.cells #[fv] 155 zZ)::(r9,.cells #[Bw je b1 b5 r9] 212 zZ)::(LB++((bm,.map es ck)::(CN++(gz bw kp vl vm::(CL++(CM++C))))))) (Yo je b1 b5 r9 bm bw kp fv vl vm LB CL CM C es ck):=
    .skip (.cons (.cons (.cons (.cons (.de (.cons .right) _)))))
   refine Br.mk (λhb=>?_) (λhb=>?_)
   ·refine aN.mk Yd ⟨K,S,made,es,ck,vm,CM,C,rfl,hS,.refl,.inl ⟨1,rfl,funext λx=>?_,.inl zO⟩⟩;rw[hint.one,M8 x];exact hb.symm
   refine aN.mk Yd ⟨K,S,made,es,ck,vm,CM,C,rfl,hS,.refl,.inl ⟨0,rfl,funext λx=>?_,.inl zO⟩⟩;rw[hint.zero,M8 x];exact hb.symm
 | @node ql v a b hv ha hb iha ihb=>
  intro q hq K S made es ck vm CM C hS fM hU g;subst hq;obtain⟨tr,hK,fh⟩:=hS.ks;obtain⟨m,hE,hkn⟩:=hS.kn;have KJ:∀r,r<2->K.N r=none:=λr hr=>hK.ok.wf.const hr;refine xM (R:=aN _) ?_;unfold L155;intro bq _;refine Ld.q ?_;refine az.q ?_;have yc:(bm,Obj.map es ck)∈(bq,Obj.cells (aA .u32 (iw (l3 q))) 154 zZ)::Yo je b1 b5 r9 bm bw kp fv vl vm LB CL CM C es ck:=.tail _ (.tail _ (.tail _ (.tail _ (.tail _ (xac _ (.head _))))));cases hg:aG m q with
  |some x=>
   refine aF.F6 (ke:=kq) (k:=q) vZ qw hE yc hg ?_;rintro v rfl;obtain⟨h1,h2⟩:=hkn _ ((dW hE.nd).1 hg);exact Ext.mk rfl (Ext.mk rfl (Br.yes (aN.mk .tail ⟨K,S,made,es,ck,vm,CM,C,rfl,hS,.refl,.inl ⟨x,rfl,h1,h2⟩⟩)))
  |none=>
  refine aF.vR (ke:=kq) (k:=q) vZ qw hE yc hg ?_;refine Ext.mk rfl (Ext.mk rfl (Br.no (Ld.q ?_)));refine az.q ?_;refine aa.fq (args:=#[ptr bw,kq q]) (Ad hK.rep q (λr hr=>KQ r (fM r hr))) ?_;rintro vn H ⟨CN,rfl,hN⟩;have eN:(l3 q).map (got K.N)=(l3 q).map (got K0.N):=xbh λr hr=>oh hS.cV.N hc0 KJ (fM r hr);rw[eN]at hN;refine Ld.q ?_;refine aa.rq (Lk (bw:=bw) (kp:=kp) (vl:=vl) (vm:=vm) (lvl:=lvl) (n:=K0.n) (r8:=lv ah) (N:=K0.N) (.tail _ (.tail _ (.tail _ (.tail _ (.tail _ (xac _ (.tail _ (xac _ (.head _))))))))) (Yn.ints.mono λ_ h=>.tail _ (.tail _ (.tail _ (.tail _ (.tail _ (xac _ (.tail _ (xac _ (.tail _ (xae _ h)))))))))) nk hlv q ((Sl.rh hN zD).mono λ_ h=>.tail _ (.tail _ (.tail _ (.tail _ (.tail _ (xac _ (.tail _ (xae _ h)))))))) k7 jM fM sP) ?_;rintro w (⟨aJ,_⟩|⟨v',n8,rfl⟩)
  ·obtain⟨s,hs,d,hd,_⟩:=hv.ex;rw[aJ s hs]at hd;cases hd
  obtain rfl:v'=v:=n8.uniq jM hv;refine ae.lss (Br.F (DR.of (R:=[(bq,Obj.cells (aA .u32 (iw (l3 q))) 154 zZ)]) (aM.left (A:=[_])) (az.q ?_)));refine az.q ?_;intro b31 _ Yw _ F35;have hone:∀x∈(iw (l3 q)).map λn=>Value.int .u32 n,x.oneCell'=true:=λx hx=>by obtain⟨n,_,rfl⟩:=xan.1 hx;rfl
  refine St.p hone ?_;refine⟨.skip (.skip (aM.left (A:=[_]))),?_⟩;intro F37;refine St.p hone ?_;refine hN.bV ?_;rw[xaE];refine⟨λvs H=>∃i:Nat,vs=[iv (i:Int)]/\i<=3/\H=(Yw,.cells (aA .u32 (iw (mP K0.N v' true (l3 q) i))) 154 zZ)::(b31,.cells (aA .u32 (iw (mP K0.N v' false (l3 q) i))) 154 zZ)::
    (bq,Obj.cells (aA .u32 (iw (l3 q))) 154 zZ)::(je,.cells #[.map (some bm)] 211 zZ)::(b1,.cells #[ptr bw] 149 zZ)::(b5,.cells #[fv] 155 zZ)::(r9,.cells #[Bw je b1 b5 r9] 212 zZ)::(LB++((bm,.map es ck)::(CN++(gz bw kp vl vm::(CL++(CM++C)))))),
   λvs _=>3-bN vs 0,JE.mk ⟨0,rfl,by omega,by rw[yT,yT];rfl⟩,?_⟩
  rintro w44 H ⟨i,hvs,hi,rfl⟩ gs;simp only[xau,xa1]at hvs;subst hvs;have hl3:(l3 q).length=3:=rfl;refine ae.fC (b:=3) (Br.dec (λhlt=>?_) (λhlt=>?_))
  ·-- a part of the question
   intro J hJ;obtain⟨r,hr⟩:∃r,(l3 q)[i]? =some r:=⟨_,xaa (show i<(l3 q).length from hlt)⟩;have hlr:=fM r (xav hr);have hrow:((l3 q).map (got K0.N))[i]? =some (got K0.N r):=by rw[xat,hr];rfl
   refine av.sl (Sl.rh hN zD) hrow λp hp=>?_;refine az.at hp (aP _ _).1 zD (λ_ h=>.tail _ (.tail _ (.tail _ (.tail _ (.tail _ (.tail _ (.tail _ (xac _ (.tail _ (xae _ h)))))))))) ?_;intro b52 _;refine St.whole (r:=got K0.N r) (by exact .head _) rfl (aP _ _).1 (aP _ _).2 ?_;have stay:ef K0.N v' false r=r->ef K0.N v' true r=r->∀Z:Hp,JE J [] (Z++((Yw,.cells (aA .u32 (iw (mP K0.N v' true (l3 q) i))) 154 zZ)::(b31,.cells (aA .u32 (iw (mP K0.N v' false (l3 q) i))) 154 zZ)::
    (bq,Obj.cells (aA .u32 (iw (l3 q))) 154 zZ)::(je,.cells #[.map (some bm)] 211 zZ)::(b1,.cells #[ptr bw] 149 zZ)::(b5,.cells #[fv] 155 zZ)::(r9,.cells #[Bw je b1 b5 r9] 212 zZ)::(LB++((bm,.map es ck)::(CN++(gz bw kp vl vm::(CL++(CM++C)))))))):=λe1 e2 Z=>by
    refine JE.of .right (hJ _ λgs=>?_);exact ae.inc (aC.of (.refl _) ⟨i+1,rfl,by omega,by rw[yU hr e1,yU hr e2]⟩ (by simp only[bN];omega))
   cases hNr:K0.N r with
   |none=>
    have qx:r<2:=by rcases hlr with h2|⟨d,hd⟩;exact h2;rw[hNr]at hd;cases hd
    rw[fG qx];refine Ld.f ?_;refine ae.gJ (Br.F ?_);have ec:∀b,ef K0.N v' b r=r:=λb=>by unfold ef;rw[hNr]
    exact stay (ec false) (ec true) [_]
   |some d=>
    have h2:=k7.two hNr;rw[dZ hNr h2];refine Ld.f ?_;refine ae.dx (Br.dec (λkA=>?_) (λkA=>?_))
    ·refine DR.of (R:=[(b52,Obj.cells (bt d).toArray 144 zZ)]) (aM.left (A:=[_])) (Ld.f ?_);refine Ld.f ?_;have elo:ef K0.N v' false r=d.lo:=by unfold ef;rw[hNr];simp[kA]
     have ehi:ef K0.N v' true r=d.hi:=by unfold ef;rw[hNr];simp[kA]
     refine iX.nat hlt ?_;refine St.ints (l:=iw (mP K0.N v' false (l3 q) i)) (x:=(d.lo:Int)) (by exact .tail (.tail (.head _))) (by rw[aq,Dc zO];omega) ?_;refine⟨aM.left (A:=[_]),?_⟩;refine iX.nat hlt ?_;refine St.ints (l:=iw (mP K0.N v' true (l3 q) i)) (x:=(d.hi:Int)) (by exact .tail (.head _)) (by rw[aq,Dc zO];omega) ?_;rw[fg,fg,<-elo,<-ehi,sH hr,sH hr];refine JE.of .tail (hJ _ λgs=>?_);exact ae.inc (aC.of (.refl _) ⟨i+1,rfl,by omega,rfl⟩ (by simp only[bN];omega))
    have ec:∀b,ef K0.N v' b r=r:=λb=>by unfold ef;rw[hNr];simp[kA]
    exact stay (ec false) (ec true) [_]
  obtain rfl:i=3:=by omega
  have em:∀b,mP K0.N v' b (l3 q) 3=l3 (CD K0.N v' b q):=λb=>by rw[VZ,<-Q4];rfl
  rw[em,em];obtain⟨f1,f2⟩:=py (S:=S0) k7 jM pF fM hv false;obtain⟨t1,t2⟩:=py (S:=S0) k7 jM pF fM hv true;have ec:∀b,uB t S0 (iU K0.N v' b (l3 q))=λx=>uB t S0 (l3 q) (ak.aB x v' b):=λb=>KZ k7 jM pF rfl fM hv t b;have kV:Ord K0.n (lv ah) ord:=by rw[<-hS.cV.n];exact hK.od
  have iA:=jM.lt v' hv.lt;have Dw:=kV.of jM hv.lt;have sR:=zN k7 jM pF kV (q:=l3 q) rfl fM (xb7 iA) hv.le t;obtain⟨i1,P5⟩:=jK (n:=K0.n) (ord:=ord) (c:=uB t S0 (iU K0.N v' false (l3 q))) sR (b:=false) (by rw[Dw];exact ec false);obtain⟨i2,P4⟩:=jK (n:=K0.n) (ord:=ord) (c:=uB t S0 (iU K0.N v' true (l3 q))) sR (b:=true) (by rw[Dw];exact ec true);refine Ld.q ?_;refine az.q ?_;refine aE.of rfl fO ?_;refine aa.pre (H':=(Yw,.cells (aA .u32 (iw (l3 (CD K0.N v' true q)))) 154 zZ)::(b31,.cells (aA .u32 (iw (l3 (CD K0.N v' false q)))) 154 zZ)::(bq,Obj.cells (aA .u32 (iw (l3 q))) 154 zZ)::Yo je b1 b5 r9 bm bw kp fv vl vm LB CL CM C es ck) (.cons (.cons (.cons (.cons (.cons (.cons (.cons (.de (.cons .right) _)))))))) ?_;refine aa.fq (args:=#[kq (CD K0.N v' false q),ptr je,ptr b1,ptr b5,ptr r9]) (iha (CD K0.N v' false q) rfl K S made es ck vm CM C hS f1 (λg hg=>hU g (P5 g hg))) ?_;rintro w H ⟨K1,S1,y5,kB,jN,vm1,CM1,C1,rfl,EH,WR,Sk⟩;rcases Sk with⟨x1,rfl,hx1,xU⟩|⟨rfl,hno⟩;rotate_left
  ·exact Ext.mk rfl (Ext.mk rfl (ae.cD (Br.T (aN.mk (.skip (.skip .tail)) ⟨K1,S1,y5,kB,jN,vm1,CM1,C1,rfl,EH,WR.LK zO,.inr ⟨rfl,hno⟩⟩))))
  refine Ext.mk rfl (Ext.mk rfl (ae.cD (Br.F (Ld.q ?_))));refine az.q ?_;refine aE.of rfl fO ?_;have hc1:=λs=>WR.count s;have hh1:∀s,K1.hold s<=K.hold s+a:=λs=>by rw[EH.cV.hold,hS.cV.hold];have:=(hc1 s).1;omega
  refine aa.fq (args:=#[kq (CD K0.N v' true q),ptr je,ptr b1,ptr b5,ptr r9]) (ihb (CD K0.N v' true q) rfl K1 S1 y5 kB jN vm1 CM1 C1 EH t1 (λg hg=>hU g (P4 g hg))) ?_;rintro w H ⟨K2,S2,fT,gV,iE,vm2,CM2,C2,rfl,iY,og,Sk⟩;have yg:=WR.trans og;rcases Sk with⟨x2,rfl,FX,nj⟩|⟨rfl,hno⟩;rotate_left
  ·exact Ext.mk rfl (Ext.mk rfl (ae.cD (Br.T (aN.mk (.skip (.skip .tail)) ⟨K2,S2,fT,gV,iE,vm2,CM2,C2,rfl,iY,yg.LK zO,.inr ⟨rfl,hno⟩⟩))))
  refine Ext.mk rfl (Ext.mk rfl (ae.cD (Br.F (Ld.q ?_))));obtain⟨XF,dO,Wg⟩:=EH.ks;obtain⟨Ez,cT,uv⟩:=iY.ks;have ac1:=cT.ok.mid.int;have l11:live K1.N x1:=by rcases xU with h|h|h;exact .inl h;exact EH.cV.iz dO h;exact EH.cV.live (hh0 _ h)
  have e1:S2 x1=uB t S0 (iU K0.N v' false (l3 q)):=(og.fn x1 l11).trans hx1;have l1:live K2.N x1:=by rcases xU with h|h|h;exact .inl h;exact iY.cV.iz cT (og.mem h);exact iY.cV.live (hh0 _ h)
  have l2:live K2.N x2:=by rcases nj with h|h|h;exact .inl h;exact iY.cV.iz cT h;exact iY.cV.live (hh0 _ h)
  have n2:=iY.cV.n;have sQ:ite S2 ⟨v',x1,x2⟩=uB t S0 (l3 q):=by
   funext x
   unfold au.ite;rw[e1,FX,ec,ec]
   conv=>rhs;rw[<-ak.iq x v']
   simp only;cases x.testBit v'<;>rfl
  obtain⟨m2,sS,Wt⟩:=iY.kn;have hkl:∀y∈m2,live K2.N y.2:=λy hy=>by
   rcases(Wt y hy).2 with h|h|h
   ·exact .inl h
   ·exact iY.cV.iz cT h
   exact iY.cV.live (hh0 _ h)
  by_cases hx:x1=x2
  ·subst hx;refine aa.eq (GK x1 v' _) (Ext.two λJ hJ=>(ae.gJ (Br.T (Ld.q ?_))));refine az.q ?_;refine aF.LY (ke:=kq) (k:=q) (vr:=Pe) (x:=x1) vZ qw A7 sS rfl λes' bB he=>⟨_,.tail (.tail (.tail (.tail (.tail (.tail (.tail ((c8.head _).cr LB))))))),?_⟩;refine JE.mk (hJ _ λgs=>?_);have hr:S2 x1=uB t S0 (l3 q):=by
    rw[<-sQ]
    funext x
    unfold au.ite;split<;>rfl
   have wh:x1<2\/x1∈fT\/K0.hold x1=65535:=nj;exact aN.mk (.skip (.skip .tail)) ⟨K2,S2,fT,es',bB,vm2,CM2,C2,rfl,⟨iY.ks,iY.cV,iY.mde,_,he,λy hy=>(nX hy).elim (λe=>by rw[e];exact⟨hr,wh⟩) (λhy=>Wt y hy)⟩,yg.LK zO,.inl ⟨x1,rfl,hr,wh⟩⟩
  have zq:bU (uB t S0 (l3 q)) (ord.getD (lv ah v') 0):=by
   rw[Dw];refine xaD λhno=>hx ?_;refine cT.ok.wf.same cT.ok.lv ac1 l1 l2 λx=>?_;rw[e1,FX,ec,ec];exact(cL hno x false).trans (cL hno x true).symm
  have b1':=cT.ok.below cT.od (l:=lv ah v'+1) l1 zO (by rw[e1];exact i1);have b2':=cT.ok.below cT.od (l:=lv ah v'+1) l2 zO (by rw[FX];exact i2);have Sq:∀g,aD K0.n ord (λg=>g=ite S2 ⟨v',x1,x2⟩) g->U g:=by rw[sQ];exact hU
  refine aa.fq (args:=#[ptr bw,iv (v':Int),u32 x1,u32 x2]) (TJ cT (v:=v') (by rw[n2];exact hv.lt) l1 l2 hx ⟨by omega,by omega⟩ iY.mde (by have:=iY.cV.rB cT;omega)) ?_;rintro w H (⟨r,K3,S3,C3,vm3,CM3,rfl,rfl,jZ,mk,WM⟩|⟨rfl,rfl,Z7,hT⟩|⟨r,rfl,rfl,hlr,Py,hfull,Gf⟩)
  ·refine Ext.two λJ hJ=>(ae.gJ (Br.T (Ld.q ?_)));refine az.q ?_;refine aF.LY (ke:=kq) (k:=q) (vr:=Pe) (x:=r) vZ qw A7 sS rfl λes' bB he=>⟨_,.tail (.tail (.tail (.tail (.tail (.tail (.tail ((c8.head _).cr LB))))))),?_⟩;refine JE.mk (hJ _ λgs=>?_);have hr:S3 r=uB t S0 (l3 q):=mk.is.trans sQ;have qx:2<=r:=xc5 λh=>by
    obtain⟨x,hx⟩:=zq;apply hx;rw[<-hr];have ZY:=jZ.ok.mid.int;have:r=0\/r=1:=by omega
    rcases this with rfl|rfl
    ·rw[ZY.zero,ZY.zero]
    rw[ZY.one,ZY.one]
   have kg:=iY.cV.step cT mk qx Sq;have EI:gy K2 S2 fT K3 S3 (fT++[r]) 1:=⟨mk.N,mk.fn,[r],rfl,xaj _⟩;have wh:r<2\/r∈fT++[r]\/K0.hold r=65535:=.inr (.inl zI);refine aN.mk (.skip (.skip .tail)) ⟨K3,S3,fT++[r],es',bB,vm3,CM3,C3,rfl,⟨⟨[],jZ,.inl rfl⟩,kg,WM,_,he,λy hy=>(nX hy).elim (λe=>by rw[e];exact⟨hr,wh⟩) (λhy=>?_)⟩,(yg.trans EI).LK zO,.inl ⟨r,rfl,hr,wh⟩⟩;obtain⟨k1,k2⟩:=Wt y hy;exact⟨by rw[EI.fn y.2 (hkl y hy),k1],k2.imp id (Or.imp EI.mem id)⟩
  ·refine Ext.two λJ hJ=>(ae.gJ (Br.F (JE.mk (hJ _ λgs=>?_))));refine aN.mk (.skip (.skip .tail)) ⟨K2,S2,fT,gV,iE,vm2,CM2,C2,rfl,iY,yg.LK zO,.inr ⟨rfl,?_⟩⟩;rintro⟨ku,RU,hfit⟩;have:=cT.ok.roomFor cT.od RU (by rw[iY.cV.cap];exact hfit) (by rw[n2];exact iY.cV.U) (d:=⟨v',x1,x2⟩) l1 l2 hx (by rw[n2];exact hv.lt) ⟨by show lv ah v'<dep K2.n (lv ah) K2.N x1;omega,by show lv ah v'<dep K2.n (lv ah) K2.N x2;omega⟩ (Sq _ (by rw[sQ];exact oV sR iA zq)) hT;omega
  refine Ext.two λJ hJ=>(ae.gJ (Br.T (Ld.q ?_)));refine az.q ?_;refine aF.LY (ke:=kq) (k:=q) (vr:=Pe) (x:=r) vZ qw A7 sS rfl λes' bB he=>⟨_,.tail (.tail (.tail (.tail (.tail (.tail (.tail ((c8.head _).cr LB))))))),?_⟩;refine JE.mk (hJ _ λgs=>?_);have hr:S2 r=uB t S0 (l3 q):=Gf.trans sQ;have wh:r<2\/r∈fT\/K0.hold r=65535:=.inr (iY.cV.full hfull);exact aN.mk (.skip (.skip .tail)) ⟨K2,S2,fT,es',bB,vm2,CM2,C2,rfl,⟨iY.ks,iY.cV,iY.mde,_,he,λy hy=>(nX hy).elim (λe=>by rw[e];exact⟨hr,wh⟩) (λhy=>Wt y hy)⟩,yg.LK zO,.inl ⟨r,rfl,hr,wh⟩⟩
end
section
variable {kp bw:Nat} {vl vm:zV} {K:Kd} {S:Nat->au.Fn} {ord ah tr:zL} {C:Hp}
theorem Ah{Y:Hp}{vr:zV}{refs:zL}(hK:bP kp K S ord ah tr C)(hr:dz .u32 Y vr (iw refs))(hl:∀r∈refs,live K.N r)(cI:refs.length<=1048576):
  Fc zQ 100 #[ptr kp,vr] (Y++C) (λw H=>∃bw vl CL lvl,w=.tuple #[ptr bw,iv 0]/\H=gz bw kp vl (.slice none 0 0)::(CL++(Y++C))/\aS 3 .i64 vl (iw lvl) CL/\lvl.length=K.n/\∀v,v<K.n->lvl.getD v 0=lv ah v):=by
 have hn:K.n<=64:=hK.aZ.lP;have kV:=hK.od;refine aI λg=>JJ (ae.aL (Br.no (hr.bV ?_)));rw[aq];refine⟨λvs H=>∃i:Nat,vs=[iv (i:Int)]/\i<=refs.length/\H=Y++C,λvs _=>refs.length-bN vs 0,JE.mk ⟨0,rfl,xaN _,rfl⟩,?_⟩;rintro w7 H ⟨i,⟨⟩,hi,rfl⟩ gs;refine ae.fC (Br.dec (λhlt=>?_) (λhlt=>?_))
 ·have hlr:=hl _ (xaH hlt);refine hr.ld (n:=((refs[i]:Nat):Int)) (dg (xaa hlt)) (λ_ h=>xae _ h) ?_;refine aa.eq (args:=#[ptr kp,u32 refs[i]]) (iQ hK.rep (by have:=hK.bM hlr;omega)) ?_;rw[bZ.2 hlr];refine Ext.two λb15 _=>(St.whole (r:=got K.N refs[i]) (by exact .head _) rfl (aP _ _).1 (aP _ _).2 ?_);exact ae.cD (Br.F (ae.inc (aC.of .tail ⟨i+1,rfl,hlt,rfl⟩ (by simp only[bN];omega))))
 refine aa.eq (gR hK.rep) (cU.ints zO zO λbl=>?_);refine Build.mk (cs:=[ptr kp,.slice (some ⟨bl,0,none⟩) K.n K.n,.slice none 0 0]) zK λbw _=>?_;refine aa.fq (zc hK.rep) ?_;rintro vo H ⟨N,rfl,ho⟩;refine ho.bV ?_;rw[aq,kV.len];have hz:List.replicate K.n (0:Int)=iw (List.replicate K.n 0):=by simp[iw]
 have hm:=aS.made (T:=3) (kd:=.i64) (b:=bl) (iw (List.replicate K.n 0));rw[aq,xdT]at hm;rw[hz];generalize hvl:Value.slice (some ⟨bl,0,none⟩) K.n K.n=vl at*;refine⟨λvs H=>∃(i:Nat) (L:zL) (CL:Hp),vs=[iv (i:Int)]/\i<=K.n/\H=gz bw kp vl (.slice none 0 0)::(CL++(Y++(N++C)))/\aS 3 .i64 vl (iw L) CL/\L.length=K.n/\∀j,j<i->L.getD (ord.getD j 0) 0=j,λvs _=>K.n-bN vs 0,
  JE.mk ⟨0,_,_,rfl,xaN _,rfl,hm,by simp,λj hj=>absurd hj (xcC _)⟩,?_⟩
 rintro w34 H ⟨i,L,CL,⟨⟩,hi,rfl,hL,hLl,hLo⟩ gs;refine ae.fC (Br.dec (λhlt=>?_) (λhlt=>?_))
 ·have pc:=(kV.aZ i hlt).1;refine ho.ld (x:=((ord.getD i 0:Nat):Int)) (bE (by rw[kV.len];exact hlt)) (λ_ h=>.tail _ (xac _ (xac _ (xae _ h)))) (Ld.n ?_);refine hL.ny (x:=(i:Int)) (.cons .left) (by rw[aq];omega) λCL' hL'=>?_;rw[fg]at hL';refine ae.inc (aC.mk ⟨i+1,L.set (ord.getD i 0) i,CL',rfl,hlt,rfl,hL',by simp[hLl],λj hj=>?_⟩ (by simp only[bN];omega));by_cases e:j=i
  ·subst e;rw[xaq,xbM zO];rfl
  have hj':j<i:=by omega
  have hne:ord.getD i 0≠ord.getD j 0:=λh=>by
   have a:=(kV.aZ i hlt).2;have b:=(kV.aZ j zO).2;rw[h,b]at a;exact e a
  rw[xaq,xbK hne,<-xaq,hLo j hj']
 obtain rfl:i=K.n:=by omega
 refine aN.mk (.cons (.de (.de .right _) _)) ⟨bw,vl,CL,L,rfl,rfl,hL,hLl,λv hv=>?_⟩;have h1:=hLo (lv ah v) (hK.ok.lv.lt v hv);rwa [kV.of hK.ok.lv hv]at h1
structure Ly(K K':Kd)(made:zL)(x:Nat)(ok:Bool):Prop where
 n:K'.n=K.n
 cap:K'.cap=K.cap
 N:∀s d,K'.N s=some d->K.N s=some d
 hold:∀s,K'.hold s+made.count s=K.hold s+if ok=true/\s=x/\2<=x then 1 else 0
theorem Xn{X CM:Hp}{made:zL}{x:Nat}{ok fu:Bool}(hK:bP kp K S ord ah tr C)(hM:aS 78 .u32 vm (iw made) CM)(hc:∀s,made.count s<=K.hold s)(h2:∀s∈made,2<=s)(KQ:∀s∈made,s<4294967296)(hx:ok=true->((x<2\/x∈made)↔fu=false))(cI:made.length<=1099511627776):
  Fc zQ 154 #[ptr bw,u32 x,iv (if ok then 0 else 9)] (gz bw kp vl vm::(X++(CM++C))) (λw H=>∃K' C' cE,w=.tuple #[u32 (if ok&& !fu then x else 0),iv (if ok then(if fu then 8 else 0)else 9)]/\H=gz bw kp vl (.slice none 0 0)::(X++(CM++C'))/\bP kp K' S ord ah cE C'/\(cE=[]\/(cE=tr/\((ok&& !fu)=true->made≠[])))/\Ly K K' made x (ok&& !fu)):=by
 refine aI λg=>I2 (ae.dx (b:=0) (cS.or (decide (x=1)) (λ_=>ae.dx (b:=1) ⟨rfl,rfl⟩) zI λgs=>?_));rw[<-xa4];refine Ld.n (hM.bV ?_);rw[aq];refine⟨λvs H=>∃(i:Nat) (Ki:Kd) (Ci:Hp) (XE:zL) (kept:Bool),vs=[.bool kept,iv (i:Int)]/\i<=made.length/\H=gz bw kp vl vm::(X++(CM++Ci))/\bP kp Ki S ord ah XE Ci/\(XE=[]\/XE=tr)/\Ki.n=K.n/\Ki.cap=K.cap/\(∀s d,Ki.N s=some d->K.N s=some d)/\
   (∀s,Ki.hold s+(made.take i).count s=K.hold s+if kept=true/\s=x/\2<=x then 1 else 0)/\(x<2->kept=true)/\(kept=true->x<2\/(ok=true/\x∈made.take i))/\(ok=true->x∈made.take i->kept=true),λvs _=>made.length-bN vs 1,
  JE.mk ⟨0,K,C,tr,_,rfl,xaN _,rfl,hK,.inr rfl,rfl,rfl,λ_ _ h=>h,λs=>?_,λh=>xam zO,λh=>.inl (by have:=xcb h;omega),λ_ h=>by simp at h⟩,?_⟩
 ·rw[xec,xdK,xab (λh=>by have:=xcb h.1;omega)]
 rintro w13 w14 H ⟨i,Ki,Ci,XE,kept,⟨⟩,hi,rfl,hKi,Wf,hn,hcap,hN,hh,uA,rK,pO⟩ gs;refine ae.fC (Br.dec (λhlt=>?_) (λhlt=>?_))
 ·intro J hJ;have nB:made.take (i+1)=made.take i++[made[i]]:=xa8 hlt;have hfm:made[i]∈made:=xaH hlt;have l8:(made.take i).count made[i]+1<=made.count made[i]:=by
   have h1:=(xdN (i+1) made).count_le made[i];rw[nB,xbf,List.count_singleton_self]at h1;exact h1
  refine hM.ld (x:=((made[i]:Nat):Int)) (dg (xaa hlt)) (λ_ h=>.tail _ (xac _ (xae _ h))) ?_;generalize hf:made[i]=f at*;refine ae.dx (cS.and (!kept) (λ_=>Un.not ⟨rfl,rfl⟩) zI λgs=>?_);refine cS.and ok (λ_=>ae.gJ ⟨rfl,by cases ok<;>rfl⟩) zI λgs=>?_;refine Br.mk (λhb=>?_) (λhb=>?_)
  ·simp only[xaF,xaJ,xbG]at hb;obtain⟨⟨rfl,hkf⟩,hok⟩:=hb;refine JE.mk (hJ _ _ λgs=>?_);refine ae.inc (aC.mk ⟨i+1,Ki,Ci,XE,true,rfl,hlt,rfl,hKi,Wf,hn,hcap,hN,λs=>?_,λ_=>rfl,λ_=>.inr ⟨hok,by rw[nB];simp⟩,λ_ _=>rfl⟩ (by simp only[bN];omega));have h0:=hh s;rw[nB,xbf,xcH];rw[xab (λh=>by rw[hkf]at h;cases h.1)]at h0;by_cases e:s=f
   ·subst e;have:=h2 s hfm;simp[this];omega
   have:(f==s)=false:=by simpa using λe'=>e e'.symm
   simp[e,this];omega
  refine Ld.n ?_;have hhf:Ki.hold f≠0:=by
   have h0:=hh f;have:=hc f;split at h0<;>omega
  refine aa.fq (args:=#[ptr kp,u32 f]) (m4 hKi (r:=f) (KQ f hfm) (λ_=>hhf)) ?_;rintro w C2 ⟨rfl,K2,cT,f2⟩;refine JE.mk (hJ _ _ λgs=>?_);refine ae.inc (aC.mk ⟨i+1,K2,C2,[],kept,rfl,hlt,rfl,cT,.inl rfl,f2.n.trans hn,f2.cap.trans hcap,λs d hd=>hN s d (f2.N s d hd),λs=>?_,uA,λh=>(rK h).imp id (λh=>⟨h.1,by rw[nB];exact xae _ h.2⟩),λh1 h3=>?_⟩ (by simp only[bN];omega))
  ·have h0:=hh s;rw[f2.hold,nB,xbf,xcH];by_cases e:s=f
   ·subst e;have:=h2 s hfm;simp[this];omega
   have:(f==s)=false:=by simpa using λe'=>e e'.symm
   simp[e,this];omega
  rw[nB,xao,xaw]at h3;rcases h3 with h3|h3
  ·exact pO h1 h3
  subst h3;cases hkk:kept
  ·rw[hkk,h1]at hb;simp at hb
  rfl
 obtain rfl:i=made.length:=by omega
 rw[xbj]at hh rK pO;refine Nil.ptr (ai.mk (St.one (by exact .head _) rfl zI rfl ?_));intro J hJ;refine ae.cD ?_;cases ok with
 |false=>
  refine Br.T ?_;have hE:Ly K Ki made x false:=⟨hn,hcap,hN,λs=>by
   have h0:=hh s;rw[xab (λh=>by cases h.1)];rw[xab (λh=>by
    rcases rK h.1 with h3|h3
    ·omega
    cases h3.1)]at h0
   exact h0⟩
  refine aN.here ⟨Ki,Ci,XE,?_,rfl,hKi,Wf.imp id λh=>⟨h,λh=>by cases h⟩,hE⟩;rfl
 |true=>
  have hx:=hx rfl;cases fu with
  |true=>
   have hkf:kept=false:=by
    cases hkk:kept
    ·rfl
    have:(true=false):=hx.1 ((rK hkk).imp id λh=>h.2);cases this
   refine Br.F ?_;rw[hkf];refine Un.not (Br.yes (aN.here ⟨Ki,Ci,XE,rfl,rfl,hKi,Wf.imp id λh=>⟨h,λh=>by cases h⟩,⟨hn,hcap,hN,λs=>?_⟩⟩));have h0:=hh s;rw[hkf]at h0;rw[xab (λh=>by cases h.1)]at h0⊢;exact h0
  |false=>
  have hx:=hx.2 rfl;have DC:kept=true:=by
   rcases hx with h|h
   ·exact uA h
   exact pO rfl h
  refine Br.F ?_;rw[DC];refine Un.not (Br.no ?_);have hE:∀K3:Kd,K3.n=Ki.n->K3.cap=Ki.cap->K3.N=Ki.N->(∀s,K3.hold s=Ki.hold s)->Ly K K3 made x true:=λK3 a1 a2 a3 a4=>⟨a1.trans hn,a2.trans hcap,by rw[a3];exact hN,λs=>by rw[a4,hh s,DC]⟩;refine ae.dx (b:=0) (cS.or (decide (x=1)) (λ_=>ae.dx (b:=1) ⟨rfl,rfl⟩) zI λgs=>?_);rw[<-xa4];refine Br.dec (λM9=>?_) (λM9=>?_)
  ·refine Ld.n ?_;refine aa.fq (mR hKi (r:=x) (.inl zO) (λh=>by omega)) ?_;rintro w C3 ⟨rfl,K3,jZ,mo⟩;refine JE.mk (hJ _ λgs=>aN.here ⟨K3,C3,[],by simp,rfl,jZ,.inl rfl,hE K3 mo.n mo.cap mo.N λs=>?_⟩);rw[mo.hold,xab zO]
  refine JE.mk (hJ _ λgs=>aN.here ⟨Ki,Ci,XE,by simp,rfl,hKi,Wf.imp id λh=>⟨h,λ_ hm=>?_⟩,hE Ki rfl rfl rfl λ_=>rfl⟩);rcases hx with h|h
  ·omega
  rw[hm]at h;cases h
end
theorem abW{α:Type}(a b c d e f g h:α)(L R:List α):(a::b::c::d::e::f::g::h::(L++R)).Perm (g::d::e::b::h::f::a::(L++c::R)):=by
 classical
 rw[xcs];intro x;simp only[xbf,xb5];omega
def aaP(kp:Nat)(K:Kd)(S:Nat->au.Fn)(ord ah tr:zL)(f:au.Fn)(w:zV)(H:Hp):Prop:=
 (∃x K' S',w=.tuple #[u32 x,iv 0]/\bP kp K' S' ord ah [] H/\fY K S K' S' f x)\/
 (w=.tuple #[u32 0,iv 9]/\(∃K' S' cE,bP kp K' S' ord ah cE H/\(cE=[]\/cE=tr)/\Kept K S K' S')/\¬Fits (aD K.n ord (λg=>K.held S g\/g=f)) K.cap)
def j8(kp:Nat)(K:Kd)(S:Nat->au.Fn)(ord ah tr:zL)(f:au.Fn)(w:zV)(H:Hp):Prop:=
 aaP kp K S ord ah tr f w H\/(w=.tuple #[u32 0,iv 8]/\(∃K' S' cE,bP kp K' S' ord ah cE H/\(cE=[]\/cE=tr)/\Kept K S K' S')/\∃r,2<=r/\K.hold r=65535/\S r=f)
section
variable {kp bw:Nat} {vl fv:zV} {K:Kd} {S:Nat->au.Fn} {ord ah tr lvl:zL} {LB CL C:Hp} {t:Bool->Bool->Bool->Bool}
theorem Ll(hK:bP kp K S ord ah tr C)(Bl:BH fv LB t)(Yn:aS 3 .i64 vl (iw lvl) CL)(nk:lvl.length=K.n)(hlv:∀v,v<K.n->lvl.getD v 0=lv ah v)(q:Q3)(hq:∀r∈l3 q,live K.N r){c:Nat}(hT:Tree K.n (lv ah) K.N (l3 q) c):
  Fc zQ 101 #[ptr bw,kq q,fv] (LB++(gz bw kp vl (.slice none 0 0)::(CL++C))) (j8 kp K S ord ah tr (uB t S (l3 q))):=by
 have hrb:aU zQ 155=true:=by kernel_rfl
 obtain⟨fl,ahQ,amT,R2,hfr⟩:=Bl.is;refine aI λg=>JI λb1 _ b3 _ b5 _ b7 _ b9 _ bm _ je _=>?_;refine St.one (by exact .head _) rfl zI rfl ?_;intro r9 _;refine St.one (by exact .head _) rfl zI rfl ?_;refine Ld.q ?_;refine az.q ?_;refine aE.of rfl hrb (aa.pre (H':=(b9,.cells #[iv 0] 27 zZ)::(b7,.cells #[.int .u32 0] 78 zZ)::Yo je b1 b5 r9 bm bw kp fv vl (.slice none 0 0) LB CL [] C #[] 0) ?_ ?_)
 ·rw[R2];exact(aM.perm (abW _ _ _ _ _ _ _ _ _ _)).trans .tail
 have kV:=hK.od;have k7:=hK.ok.wf;have jM:=hK.ok.lv;have pF:=hK.ok.mid.int;have hS:Stp kp K S (aD K.n ord (λg=>K.held S g\/g=uB t S (l3 q))) ord ah tr t K S [] #[] 0 (.slice none 0 0) [] C:=
  ⟨⟨tr,hK,.inr ⟨rfl,rfl⟩⟩,.refl λg hg=>bD (λg h=>.inl h) hg,aS.nil,[],aF.empty,λy hy=>by cases hy⟩
 refine aa.fq (args:=#[kq q,ptr je,ptr b1,ptr b5,ptr r9]) (aao hrb Bl Yn nk hlv hK.aZ.lP k7 pF jM (λr hr=>by have:=hK.bM hr;omega) (λs hs=>.inr (hK.ok.mid.held s zO)) (YO:=tr) (l3 q) c hT q rfl K S [] #[] 0 (.slice none 0 0) [] C hS hq (λg hg=>bD (λg h=>.inr h) hg)) ?_;rintro w H ⟨K1,S1,made,es,ck,vm,CM,C1,rfl,EH,hA,Sk⟩;obtain⟨XF,dO,Wg⟩:=EH.ks;have kg:=EH.cV;have hmx:=kg.rB dO;have agv:∀s∈made,s<4294967296:=λs hs=>by have:=dO.bM (kg.iz dO hs);omega
 have hmc:∀s,made.count s<=K1.hold s:=λs=>by rw[kg.hold];omega
 have fin:∀(x:Nat) (ok fu:Bool),w=.tuple #[u32 (if ok then x else 0),iv (if ok then 0 else 9)]->(ok=true->((x<2\/x∈made)↔fu=false))->(∀K2 C2 Ez,bP kp K2 S1 ord ah Ez C2->(Ez=[]\/(Ez=XF/\((ok&& !fu)=true->made≠[])))->Ly K1 K2 made (if ok then x else 0) (ok&& !fu)->j8 kp K S ord ah tr (uB t S (l3 q)) (.tuple #[u32 (if ok&& !fu then(if ok then x else 0)else 0),iv (if ok then(if fu then 8 else 0)else 9)]) C2)->(ok=false->x=0)->
   Ext 0 w λv23=>Ext 1 w λv24=>St 1 ((b9,.cells #[iv 0] 27 zZ)::(b7,.cells #[.int .u32 0] 78 zZ)::Yo je b1 b5 r9 bm bw kp fv vl vm LB CL CM C1 es ck) (ptr b7) v23 λH25=>St 1 H25 (ptr b9) v24 λH26=>
   j9 zQ g 153 #[ptr b1,ptr b7,ptr b9] H26 λH27=>Ld H27 (ptr b7) λv28=>Ld H27 (ptr b9) λv29=>aN (j8 kp K S ord ah tr (uB t S (l3 q))) (.returned (.tuple #[v28,v29])) H27:=by
  intro x ok fu hw hx hd h0;subst hw;refine Ext.two (St.one (by exact .tail (.head _)) rfl zI rfl ?_);refine St.one (by exact .head _) rfl zI rfl ?_;refine Et (R:=_) ?_;unfold L153;refine Ld.q ?_;refine Ld.q ?_;refine Ld.q ?_;refine aa.fq (Xn (X:=CL) (x:=if ok then x else 0) (ok:=ok) (fu:=fu) dO EH.mde hmc kg.two agv (λh=>by rw[xad h];exact hx h) zO) ?_;rintro w H ⟨K2,C2,Ez,rfl,rfl,cT,uv,hE⟩;refine Ext.two (St.one (by exact .tail (.head _)) rfl zI rfl ?_);refine St.one (by exact .head _) rfl zI rfl ?_;refine⟨⟨_,rfl⟩,?_⟩;refine Ld.q ?_;refine Ld.q ?_;exact aN.mk (.skip (.skip (.skip (.skip (.skip (.skip (aM.right.trans (.skip (.skip (aM.right.trans .right)))))))))) (hd K2 C2 Ez cT uv hE)
 have qO:∀s,K.hold s≠0->live K.N s:=λs hs=>.inr (hK.ok.mid.held s hs);rcases Sk with⟨x,rfl,hx,hxm⟩|⟨rfl,hno⟩
 ·by_cases hxk:x<2\/x∈made;rotate_left
  ·have FX:2<=x:=by omega
   have hfull:K.hold x=65535:=by
    rcases hxm with h|h|h
    ·exact absurd (.inl h) hxk
    ·exact absurd (.inr h) hxk
    exact h
   refine fin x true true rfl (λ_=>⟨λh=>absurd h hxk,λh=>by cases h⟩) (λK2 C2 Ez cT uv hE=>.inr ⟨rfl,⟨K2,S1,Ez,cT,?_,?_⟩,x,FX,hfull,?_⟩) (λh=>by cases h)
   ·rcases uv with h|⟨h,_⟩
    ·exact .inl h
    rcases Wg with h2|⟨h2,_⟩
    ·exact .inl (h.trans h2)
    exact .inr (h.trans h2)
   ·have fU:∀s,K2.hold s=K.hold s:=λs=>by
     have a:=hE.hold s;have b:=kg.hold s;rw[xab (λh=>by cases h.1)]at a;omega
    refine⟨hE.n.trans kg.n,hE.cap.trans kg.cap,fU,λg=>?_,λr hr=>kg.fn r (qO r hr)⟩;constructor
    ·rintro⟨s,hs,rfl⟩;have hs':K.hold s≠0:=by rw[<-fU];exact hs
     exact⟨s,hs',kg.fn s (qO s hs')⟩
    rintro⟨s,hs,rfl⟩;exact⟨s,by show K2.hold s≠0;rw[fU];exact hs,(kg.fn s (qO s hs)).symm⟩
   rw[<-hx];exact(kg.fn x (qO x zO)).symm
  refine fin x true false rfl (λ_=>⟨λ_=>rfl,λ_=>hxk⟩) (λK2 C2 Ez cT uv hE=>.inl (.inl ⟨x,K2,S1,rfl,?_,?_⟩)) (λh=>by cases h)
  ·have:Ez=[]:=by
    rcases uv with h|⟨h,h'⟩
    ·exact h
    rcases Wg with h2|⟨_,h2⟩
    ·rw[h,h2]
    exact absurd h2 (h' rfl)
   rw[this]at cT;exact cT
  have fU:∀s,K2.hold s=K.hold s+if s=x/\2<=x then 1 else 0:=λs=>by
   have a:=hE.hold s;have b:=kg.hold s;simp only[xcq,xdQ,xa7,xcU]at a;omega
  have hl:live K2.N x:=by
   by_cases h2:x<2
   ·exact .inl h2
   refine .inr (cT.ok.mid.held x ?_);rw[fU,xad ⟨rfl,by omega⟩];omega
  exact⟨hE.n.trans kg.n,hE.cap.trans kg.cap,λs d hs=>jX hK.ok cT.ok (λs h=>by rw[fU];omega) (λs d d' h h'=>by
   have a:=hE.N s d' h';rw[kg.N s d h]at a;exact(xbg a).symm) _ s d hs (xaj _),λs hs=>kg.fn s hs,hl,hx,fU⟩
 refine fin 0 false false rfl (λh=>by cases h) (λK2 C2 Ez cT uv hE=>.inl (.inr ⟨rfl,⟨K2,S1,Ez,cT,?_,?_⟩,hno⟩)) (λ_=>rfl)
 ·rcases uv with h|⟨h,_⟩
  ·exact .inl h
  rcases Wg with h2|⟨h2,_⟩
  ·exact .inl (h.trans h2)
  exact .inr (h.trans h2)
 have fU:∀s,K2.hold s=K.hold s:=λs=>by
  have a:=hE.hold s;have b:=kg.hold s;rw[xab (λh=>by cases h.1)]at a;omega
 refine⟨hE.n.trans kg.n,hE.cap.trans kg.cap,fU,λg=>?_,λr hr=>kg.fn r (qO r hr)⟩;constructor
 ·rintro⟨s,hs,rfl⟩;have hs':K.hold s≠0:=by rw[<-fU];exact hs
  exact⟨s,hs',kg.fn s (qO s hs')⟩
 rintro⟨s,hs,rfl⟩;exact⟨s,by show K2.hold s≠0;rw[fU];exact hs,(kg.fn s (qO s hs)).symm⟩
end
end
end Go.Proofs
namespace Go.Sx
open Go
section
variable {P:Program} {g:Gh}
theorem Build.three{t e:TypeId}{q:IntKind}{x y z:Int}{K:zV->Prop}(ht:P.underlying t=some (.array 3 e))(hz:dH P e=some 1)(h0:fJ P t=some (.agg (aA q [0,0,0])))(h:K (.agg (aA q [x,y,z]))):
  Build P t [(0,.int q x),(1,.int q y),(2,.int q z)] K:=by
 refine⟨_,λw=>?_,h⟩;obtain⟨i,hi,hs⟩:=bF hz;obtain⟨i0,F9,XZ⟩:=cH h0;simp only[Instr.build,Sem.run_bind,dU F9 XZ,Result.andThen_ok,run_underlying ht,run_sizeOf hi,hs];simp[Instr.fill,Value.cells,aA]
theorem Build.abK{t e:TypeId}{q:IntKind}{x y:Int}{K:zV->Prop}(ht:P.underlying t=some (.array 3 e))(hz:dH P e=some 1)(h0:fJ P t=some (.agg (aA q [0,0,0])))(h:K (.agg (aA q [x,y,0]))):
  Build P t [(0,.int q x),(1,.int q y)] K:=by
 refine⟨_,λw=>?_,h⟩;obtain⟨i,hi,hs⟩:=bF hz;obtain⟨i0,F9,XZ⟩:=cH h0;simp only[Instr.build,Sem.run_bind,dU F9 XZ,Result.andThen_ok,run_underlying ht,run_sizeOf hi,hs];simp[Instr.fill,Value.cells,aA]
end
end Go.Sx
set_option maxRecDepth 100000
namespace Go.Proofs
open Go Go.Sx Tryz
open au
theorem Lo(x:Bool)(B:Hp):Rd zQ 151 #[.bool x] B (· =.int .u8 ((x.toNat:Nat):Int)):=by
 refine aI λg=>I4 ?_;cases x
 ·exact Br.no (bc.mk (.refl _) rfl)
 exact Br.yes (bc.mk (.refl _) rfl)
def XM(op:Nat)(a b:Bool):Bool:=op.testBit (2*a.toNat+b.toNat)
abbrev MG(b op:Nat):Hp:=[(b,.cells #[.int .u8 (op:Int)] 5 zZ)]
theorem GA{b op:Nat}(hop:op<16):BH (.func (.func 150) #[] #[ptr b]) (MG b op) (λx y _=>XM op x y):=by
 refine⟨_,_,_,rfl,by kernel_rfl,λx y z=>?_⟩;refine aI λg=>I5 (DR.of (R:=MG b op) (.refl _) (Ld.q ?_));refine aa.eq (Lo x _) (⟨.refl _,?_⟩);have hx:x.toNat<=1:=by cases x<;>decide
 have hy:y.toNat<=1:=by cases y<;>decide
 refine ae.x7 (a:=2) (aa.eq (Lo y _) (⟨.refl _,?_⟩));refine ae.fI (ae.iK (by simp[bG];omega) (ae.jE (b:=1) (by simp[bG];exact xaA (xbm _ _) zO) (by simp[bG]) (ae.dx (b:=1) (bc.mk (.refl _) ?_))));congr 1;unfold XM;rw[xbT];rw[xc8,xa0]
theorem FQ:BH (.func (.func 102) #[] #[]) [] (λx y z=>if x then y else z):=by
 refine⟨_,_,_,rfl,by kernel_rfl,λx y z=>?_⟩;refine aI λg=>JH ?_;cases x
 ·refine cS.mk false (λh=>by simp at h) (λ_=>rfl) λgs=>?_;refine cS.mk (by exact z) (λ_=>Un.not (cS.and z (λ_=>⟨rfl,rfl⟩) zI λgs=>⟨rfl,by simp⟩)) (λh=>by simp at h) λgs=>?_;exact bc.mk (.refl _) rfl
 refine cS.and y (λ_=>⟨rfl,rfl⟩) zI λgs=>?_;refine cS.or false (λ_=>Un.not (cS.and z (λ_=>⟨rfl,rfl⟩) zI λgs=>⟨rfl,by simp⟩)) zI λgs=>?_;refine bc.mk (.refl _) ?_;cases y<;>rfl
section
variable {kp:Nat} {K:Kd} {S:Nat->au.Fn} {ord ah tr:zL} {C:Hp}
theorem abY{α:Type}(w a b:α)(L R:List α):(w::(L++(a::b::R))).Perm (a::([b]++w::(L++R))):=by
 classical
 rw[xcs];intro x;simp only[xbf,xb5,xdK];omega
theorem Ef(hK:bP kp K S ord ah tr C){q:zL}(hq:∀r∈q,live K.N r):∃c,Tree K.n (lv ah) K.N q c:=by
 obtain⟨c,h1,_⟩:=UR (S:=S) hK.ok.wf hK.ok.lv hK.ok.mid.int K.n 0 q zO zO hq (λr _=>xaN _);exact⟨c,h1⟩
theorem j8.two{f:au.Fn}{w:zV}{H:Hp}(h:j8 kp K S ord ah tr f w H):∃x e,w=.tuple #[x,e]:=by
 rcases h with(⟨x,K',S',rfl,_⟩|⟨rfl,_⟩)|⟨rfl,_⟩
 ·exact⟨_,_,rfl⟩
 ·exact⟨_,_,rfl⟩
 exact⟨_,_,rfl⟩
theorem jF(hK:bP kp K S ord ah tr C){op a b:Nat}(hop:op<16)(ha:live K.N a)(hb:live K.N b):
  Fc zQ 99 #[ptr kp,.int .u8 (op:Int),u32 a,u32 b] C (j8 kp K S ord ah tr (λx=>XM op (S a x) (S b x))):=by
 refine aI λg=>N8 λb1 _=>?_;refine ae.aL (Br.no (Ld.q ?_));refine ae.nE (b:=15) (Br.F (ax.Rs (e:=78) (x:=(a:Int)) (y:=(b:Int)) zK zK zK λbs=>?_));have hq:∀r∈l3 (a,b,0),live K.N r:=λr hr=>by
  simp only[l3,xak,xaR,xbD]at hr;rcases hr with rfl|rfl|rfl
  ·exact ha
  ·exact hb
  exact .inl zO
 have hI:dz .u32 ((bs,Obj.cells (aA .u32 [(a:Int),(b:Int)]) 78 zZ)::MG b1 op) (.slice (some ⟨bs,0,none⟩) 2 2) (iw [a,b]):=(aS.made (T:=78) (kd:=.u32) (b:=bs) (iw [a,b])).ints.mono λ_ h=>xae (MG b1 op) h;refine aa.fq (args:=#[ptr kp,.slice (some ⟨bs,0,none⟩) 2 2]) (C:=((bs,Obj.cells (aA .u32 [(a:Int),(b:Int)]) 78 zZ)::MG b1 op)++C) (Ah hK hI (λr hr=>?_) (by show 2<=1048576;omega)) ?_
 ·simp only[xak,xaR,xbD]at hr;rcases hr with rfl|rfl
  ·exact ha
  exact hb
 rintro w H ⟨bw,vl,CL,lvl,rfl,rfl,Yn,nk,hlv⟩;refine Ext.mk rfl (Ext.mk rfl (ae.cD (Br.F (Build.abK (e:=78) (q:=.u32) (x:=(a:Int)) (y:=(b:Int)) zK zK zK ?_))));obtain⟨c,hT⟩:=Ef hK hq;refine aa.pre (H':=(bs,Obj.cells (aA .u32 [(a:Int),(b:Int)]) 78 zZ)::(MG b1 op++gz bw kp vl (.slice none 0 0)::(CL++C))) (.perm (abY _ _ _ _ _)) (aa.fq (args:=#[ptr bw,kq (a,b,0),.func (.func 150) #[] #[ptr b1]]) (Ll (t:=λx y _=>XM op x y) hK (GA hop) Yn nk hlv (a,b,0) hq hT) ?_);intro w H hD;obtain⟨x,e,rfl⟩:=hD.two;exact Ext.mk rfl (Ext.mk rfl (aN.mk .tail hD))
theorem NW(hK:bP kp K S ord ah tr C){a:Nat}(ha:live K.N a):
  Fc zQ 65 #[ptr kp,u32 a] C (j8 kp K S ord ah tr (λx=> !S a x)):=by
 refine aI λg=>OC (aa.fq (args:=#[ptr kp,.int .u8 ((3:Nat):Int),u32 a,u32 0]) (jF hK (op:=3) zD ha (.inl zO)) ?_);intro w H hD;have e:(λx=>XM 3 (S a x) (S 0 x))=λx=> !S a x:=by
  funext x
  rw[hK.ok.mid.int.zero];cases S a x<;>rfl
 rw[e]at hD;obtain⟨x,e,rfl⟩:=hD.two;exact Ext.mk rfl (Ext.mk rfl (aN.mk (.refl _) hD))
theorem abV{α:Type}(w a:α)(L R:List α):(w::(L++(a::R))).Perm (a::([]++w::(L++R))):=by
 classical
 rw[xcs];intro x;simp only[xbf,xb5,xdK];omega
theorem Af(hK:bP kp K S ord ah tr C){a b c:Nat}(ha:live K.N a)(hb:live K.N b)(hc:live K.N c):
  Fc zQ 69 #[ptr kp,u32 a,u32 b,u32 c] C (j8 kp K S ord ah tr (λx=>if S a x then S b x else S c x)):=by
 refine aI λg=>Oy (ax.aci (e:=78) (x:=(a:Int)) (y:=(b:Int)) (z:=(c:Int)) zK zK zK λbs=>?_);have hq:∀r∈l3 (a,b,c),live K.N r:=λr hr=>by
  simp only[l3,xak,xaR,xbD]at hr;rcases hr with rfl|rfl|rfl
  ·exact ha
  ·exact hb
  exact hc
 refine aa.fq (args:=#[ptr kp,.slice (some ⟨bs,0,none⟩) 3 3]) (C:=[(bs,Obj.cells (aA .u32 [(a:Int),(b:Int),(c:Int)]) 78 zZ)]++C) (Ah hK (refs:=l3 (a,b,c)) ((aS.made (T:=78) (kd:=.u32) (b:=bs) (iw (l3 (a,b,c)))).ints) hq (by show 3<=1048576;omega)) ?_;rintro w H ⟨bw,vl,CL,lvl,rfl,rfl,Yn,nk,hlv⟩;refine Ext.mk rfl (Ext.mk rfl (ae.cD (Br.F (Build.three (e:=78) (q:=.u32) (x:=(a:Int)) (y:=(b:Int)) (z:=(c:Int)) zK zK zK ?_))));obtain⟨k,hT⟩:=Ef hK hq;refine aa.pre (H':=(bs,Obj.cells (aA .u32 [(a:Int),(b:Int),(c:Int)]) 78 zZ)::([]++gz bw kp vl (.slice none 0 0)::(CL++C))) (.perm (abV _ _ _ _)) (aa.fq (args:=#[ptr bw,kq (a,b,c),.func (.func 102) #[] #[]]) (Ll (t:=λx y z=>if x then y else z) hK FQ Yn nk hlv (a,b,c) hq hT) ?_);intro w H hD;obtain⟨x,e,rfl⟩:=hD.two;exact Ext.mk rfl (Ext.mk rfl (aN.mk .tail hD))
theorem pX.grow(hK:bP kp K S ord ah tr C){K':Kd}{S':Nat->au.Fn}{f:au.Fn}{r:Nat}{C':Hp}{cE:zL}(h:pX K S K' S' f r)(cZ:bP kp K' S' ord ah cE C')(hl:r<2\/2<=r):fY K S K' S' f r:=
 ⟨h.n,h.cap,h.N,h.fn,by
  by_cases h2:r<2
  ·exact .inl h2
  refine .inr (cZ.ok.mid.held r ?_);rw[h.hold,xad ⟨rfl,by omega⟩];omega,h.is,λs=>by rw[h.hold];split<;>omega⟩
theorem NS(hK:bP kp K S ord ah tr C){v:Nat}(hv:v<K.n):
  Fc zQ 63 #[ptr kp,iv (v:Int)] C (j8 kp K S ord ah tr (λx=>x.testBit v)):=by
 refine aI λg=>OE (ae.aL (Br.no ?_));have hint:=hK.ok.mid.int;have hL:=hK.ok.lv;have kV:=hK.od;have h0:live K.N 0:=.inl zO;have h1:live K.N 1:=.inl zO;have d0:dep K.n (lv ah) K.N 0=K.n:=aT (hK.ok.wf.const zO);have d1:dep K.n (lv ah) K.N 1=K.n:=aT (hK.ok.wf.const zO);have hl:=hL.lt v hv;have eI:ite S ⟨v,0,1⟩=λx=>x.testBit v:=by
  funext x
  unfold au.ite;simp only[hint.zero,hint.one];cases x.testBit v<;>rfl
 refine aa.fq (args:=#[ptr kp,iv (v:Int),u32 0,u32 1]) (A4 hK hv h0 h1 (.inr ⟨by rw[d0];exact hl,by rw[d1];exact hl⟩)) ?_;rintro w C' (⟨r,K',S',rfl,cZ,mk⟩|⟨r,rfl,rfl,_,Py,hfull,Gf⟩|⟨rfl,rfl,hcap,hne,hT⟩)
 ·rw[eI]at mk;exact Ext.mk rfl (Ext.mk rfl (aN.mk (.refl _) (.inl (.inl ⟨r,K',S',rfl,cZ,mk.grow hK cZ zO⟩))))
 ·exact Ext.mk rfl (Ext.mk rfl (aN.mk (.refl _) (.inr ⟨rfl,⟨K,S,tr,hK,.inr rfl,.refl K S⟩,r,Py,hfull,by rw[Gf,eI]⟩)))
 refine Ext.mk rfl (Ext.mk rfl (aN.mk (.refl _) (.inl (.inr ⟨rfl,⟨K,S,tr,hK,.inr rfl,.refl K S⟩,?_⟩))));rintro⟨ku,RU,hfit⟩;have Dw:=kV.of hL hv;have sR:∀j,j<lv ah v->¬bU (λx:Nat=>x.testBit v) (ord.getD j 0):=by
  rintro j hj ⟨x,hx⟩;apply hx;have Ul:j<K.n:=by omega
  obtain⟨o1,o2⟩:=kV.aZ j Ul;show Nat.testBit _ v=Nat.testBit _ v;rw[ak.aj,ak.aj,xab (λh=>by rw[h]at hj;omega),xab (λh=>by rw[h]at hj;omega)]
 have hh:bU (λx:Nat=>x.testBit v) (ord.getD (lv ah v) 0):=by
  rw[Dw];exact⟨0,by show Nat.testBit _ v≠Nat.testBit _ v;rw[ak.aj,ak.aj,xad rfl,xad rfl];decide⟩
 have:=hK.ok.roomFor kV RU hfit (λg hg=>bD (λg h=>.inl h) hg) (d:=⟨v,0,1⟩) h0 h1 (show(0:Nat)≠1 by omega) hv ⟨by rw[d0];exact hl,by rw[d1];exact hl⟩ (bD (λg h=>.inr h) (by rw[eI];exact oV sR hl hh)) hT;omega
end
end Go.Proofs
namespace Go.Sx
open Go
section
variable {κ β:Type} [DecidableEq κ] {ke:κ->zV} {vr:zV->β->Prop} {es:Array MapEntry} {ck:Nat} {m:List (κ×β)} {H:Hp} {b:Nat}
theorem aF.del{kd:TypeDesc}{k:κ}{K:Hp->Prop}(hk:∀a b,Instr.sameNow kd (ke a) (ke b)=some (decide (a=b)))(h:aF ke vr es ck m)(hm:(b,Obj.map es ck)∈H)
 (h1:∀es',aF ke vr es' ck (fS m k)->∃H',c8 b (.map es ck) (.map es' ck) H H'/\K H'):oJ kd H (.map (some b)) (ke k) K:=by
 refine .inr ?_;rcases h.findNow hk k with⟨i,y,e,g1,g2,g3,g4⟩|⟨g1,g2⟩
 ·refine⟨b,es,ck,_,rfl,g4,?_⟩;have:=h.less i;rw[<-vV h.nd g2]at this;exact h1 _ this
 refine⟨b,es,ck,_,rfl,g2,hm,?_⟩;have e:fS m k=m:=by
  unfold fS;rw[xcd];intro w hw;simp only[decide_not,xbG,xbp];intro e;exact g1 (xan.2 ⟨w,hw,e⟩)
 obtain⟨H',hu,hK⟩:=h1 es (by rw[e];exact h);have:∀{H H':Hp},c8 b (.map es ck) (.map es ck) H H'->H'=H:=by
  intro H H' hu;generalize ho:Obj.map es ck=o at hu;induction hu with
  |head R=>rfl
  |tail _ ih=>rw[ih]
 rw[this hu]at hK;exact hK
end
def kN(kd:IntKind)(r:Nat):zV:=.int kd (r:Int)
theorem jx{kd:IntKind}(a b:Nat):Instr.sameNow (.int kd) (kN kd a) (kN kd b)=some (decide (a=b)):=by
 simp only[kN,Instr.sameNow,xa7,xar];by_cases e:a=b
 ·subst e;simp
 have:¬(a:Int)=(b:Int):=by omega
 simp[e,this]
theorem KC{kd:IntKind}(a:Nat):Instr.sameBits 10000 (kN kd a) (kN kd a)=true:=by
 simp[kN,Instr.sameBits]
end Go.Sx
namespace au
open ak
def QF(t:Bool->Bool->Bool)(v:Nat)(f:Fn):Fn:=λx=>t (f (aB x v false)) (f (aB x v true))
section
variable {t:Bool->Bool->Bool} {v u:Nat} {f:Fn}
theorem oU{x v:Nat}{b c:Bool}:aB (aB x v b) v c=aB x v c:=by
 apply xaV;intro k;rw[aj,aj,aj];split<;>rfl
theorem TY(h:u≠v)(b:Bool):QF t v (λx=>f (aB x u b))=λx=>QF t v f (aB x u b):=by
 funext x
 unfold QF;simp only[di h]
theorem TX(h:¬bU f u):¬bU (QF t v f) u:=by
 rintro⟨x,hx⟩;by_cases e:u=v
 ·subst e;apply hx;unfold QF;simp only[oU]
 apply hx;unfold QF;simp only[di e];have key:∀y,f (aB y u false)=f (aB y u true):=λy=>xaD λhn=>h ⟨y,hn⟩;rw[key,key]
theorem Xt(ht:∀a,t a a=a)(h:¬bU f v):QF t v f=f:=by
 funext x
 unfold QF;have key:∀b,f (aB x v b)=f x:=λb=>cL h x b;rw[key,key,ht]
end
def jt3(e:Bool):Bool->Bool->Bool->Bool:=λx y _=>if e then x||y else x&&y
def jf(e:Bool)(S:Nat->Fn)(a b:Nat):Fn:=uB (jt3 e) S [a,b,0]
theorem sL(e:Bool)(S:Nat->Fn)(a b x:Nat):jf e S a b x=if e then S a x||S b x else S a x&&S b x:=rfl
theorem Bb(e:Bool)(S:Nat->Fn)(a b:Nat):jf e S a b=jf e S b a:=by
 funext x;rw[sL,sL];cases e<;>cases S a x<;>cases S b x<;>rfl
theorem XW(e:Bool)(S:Nat->Fn)(a b:Nat):jf e S (min a b) (max a b)=jf e S a b:=by
 by_cases h:a<=b
 ·rw[xcD h,Nat.max_eq_right h]
 rw[xds zO,Nat.max_eq_left zO,Bb]
theorem V8(e:Bool)(S:Nat->Fn)(a:Nat):jf e S a a=S a:=by
 funext x;rw[sL];cases e<;>cases S a x<;>rfl
section
variable {N:eE} {S:Nat->Fn} {n:Nat} {ah:Nat->Nat}
theorem Rl(hi:Interp N S)(e:Bool)(a:Nat):jf e S e.toNat a=S e.toNat:=by
 funext x;rw[sL];cases e
 ·show(S 0 x&&S a x)=S 0 x;rw[hi.zero];rfl
 show(S 1 x||S a x)=S 1 x;rw[hi.one];rfl
theorem Rk(hi:Interp N S)(e:Bool)(a:Nat):jf e S (!e).toNat a=S a:=by
 funext x;rw[sL];cases e
 ·show(S 1 x&&S a x)=S a x;rw[hi.one];cases S a x<;>rfl
 show(S 0 x||S a x)=S a x;rw[hi.zero];cases S a x<;>rfl
theorem uP(h:WF n ah N)(hl:jI n ah){r v:Nat}(hd:ah v<dep n ah N r)(b:Bool):ef N v b r=r:=by
 unfold ef;cases e:N r with
 |none=>rfl
 |some d=>
  rw[an e]at hd;simp only;rw[xab (λe2=>by rw[e2]at hd;omega)]
theorem kO{r:Nat}{d:Nd}(e:N r=some d):ef N d.v false r=d.lo/\ef N d.v true r=d.hi:=by
 unfold ef;rw[e];simp
theorem wJ{N':eE}(hN:∀s d,N s=some d->N' s=some d)(hc:∀r,r<2->N' r=none)(h0:∀r,r<2->N r=none){r:Nat}(hr:live N r):dep n ah N' r=dep n ah N r:=by
 rcases hr with hr|⟨d,hd⟩
 ·rw[aT (hc r hr),aT (h0 r hr)]
 rw[an hd,an (hN r d hd)]
theorem D4(v:Nat)(bb:Bool)(a b:Nat)(h0:N 0=none):iU N v bb [a,b,0]=[ef N v bb a,ef N v bb b,0]:=by
 have:ef N v bb 0=0:=by unfold ef;rw[h0]
 simp[iU,this]
theorem afy(h:WF n ah N)(hl:jI n ah){a b:Nat}(h0:N 0=none)(hlt:min (dep n ah N a) (dep n ah N b)<n):
  ∃v,uC n ah N [a,b,0] v/\ah v=min (dep n ah N a) (dep n ah N b):=by
 have hd0:dep n ah N 0=n:=aT h0;have node:∀r,dep n ah N r<n->∃d,N r=some d:=λr hr=>by
  cases e:N r with
  |none=>rw[aT e]at hr;omega
  |some d=>exact⟨d,rfl⟩
 by_cases hab:dep n ah N b<dep n ah N a
 ·obtain⟨d,hd⟩:=node b zO;have e:=an (n:=n) (ah:=ah) hd;refine⟨d.v,⟨h.var hd,⟨b,by simp,d,hd,rfl⟩,λr hr=>?_⟩,by omega⟩;simp only[xak,xaR,xbD]at hr;rcases hr with rfl|rfl|rfl<;>omega
 obtain⟨d,hd⟩:=node a zO;have e:=an (n:=n) (ah:=ah) hd;refine⟨d.v,⟨h.var hd,⟨a,by simp,d,hd,rfl⟩,λr hr=>?_⟩,by omega⟩;simp only[xak,xaR,xbD]at hr;rcases hr with rfl|rfl|rfl<;>omega
end
end au
set_option maxRecDepth 100000
namespace Go.Proofs
open Go Go.Sx Tryz
open au
section
variable {kp:Nat} {K:Kd} {ord ah tr:zL} {C:Hp} {S:Nat->au.Fn}
theorem l6(h:cR kp K ord ah tr C)(v:Int):Rd zQ 93 #[ptr kp,iv v] C (· =if 0<=v/\v<K.n then .tuple #[iv ((ah.getD v.toNat 0:Nat):Int),iv 0]else .tuple #[iv 0,iv 2]):=by
 have h0:=h;obtain⟨b,rfl,hO⟩:=h;refine aI λg=>th (ae.aL (Br.no (aa.eq (rE h0 v) (Un.not ?_))));by_cases M0:0<=v/\v<K.n
 ·rw[xam M0,xad M0];refine Br.no (Nil.ptr (Ld.f ?_));have hlen:=hO.ol.2;obtain⟨n,rfl⟩:∃n:Nat,v=n:=⟨v.toNat,by omega⟩;exact hO.lv.ld (x:=((ah.getD n 0:Nat):Int)) (bE zO) (bH.sub (.cons (.app (.app (.app (.app (.app .left))))))) (bc.mk (.refl _) rfl)
 rw[xal M0,xab M0];exact Br.yes (bc.mk (.refl _) rfl)
end
end Go.Proofs
