import Derived.Test.YtgeffephefcdiaaGreatW2
import Derived.Sort.AssemblyPlain
import Derived.Test.YtgeffephefcdiaaGreatW1
import Derived.Test.YtgeffephefcdiaaGreatProg
import Derived.RangeFuncIn
import Derived.RangeFuncLeaves
import Derived.RangeFuncRecord
import Derived.RangeFuncSeq
set_option linter.unusedVariables false
set_option linter.unusedSimpArgs false
set_option linter.unusedSectionVars false
set_option maxRecDepth 100000
namespace Go.Proofs
open Go Go.Sx Tryz
section
open aA
section
variable {kp:Nat} {K:Kd} {ord ah tr:zL} {C:Hp} {S:Nat->aA.Fn}
theorem Wg(B:Hp)(v:Int)(r:Nat)(kv:zV):Rd zQ 299 #[kv,iv v,u32 r,u32 r] B (· =u32 r):=by
 exact aF λg=>qy (ae.dQ (Br.T (aZ.mk (.refl _) rfl)))
theorem Wi(h:cT kp K ord ah tr C){v lo hi r:Nat}(hne:lo≠hi)(hv:v<K.n)(hT:K.T ⟨v,lo,hi⟩=some r):
  Rd zQ 299 #[ptr kp,iv (v:Int),u32 lo,u32 hi] C (· =u32 r):=by
 obtain⟨b,rfl,hO⟩:=h;refine aF λg=>qy (ae.dQ (Br.SM hne (Build.mk (cs:=bu ⟨v,lo,hi⟩) zK ?_)));intro b3 _;refine St.p (λx hx=>by simp[bu,u32]at hx;rcases hx with rfl|rfl|rfl<;>rfl) ?_;refine DR.self (Nil.ptr (Ld.f ?_));refine ax.q ?_;refine aa.eq (uG (d:=⟨v,lo,hi⟩) hO.ut hv) ?_;rw[hT];exact⟨.refl _,Ext.mk rfl (Ext.mk rfl (Br.yes (aZ.mk .tail rfl)))⟩
theorem Wh(h:cT kp K ord ah tr C){d:Nd}(hne:d.lo≠d.hi)(hd:NOk K.N d)(hv:d.v<K.n)(hT:K.T d=none)(hroom:K.used<K.cap)(hlo:d.lo<2\/d.lo<K.us.length)(hhi:d.hi<2\/d.hi<K.us.length)
 (hb:∀s,K.use s+2<2147483648):
  Fc zQ 299 #[ptr kp,iv (d.v:Int),u32 d.lo,u32 d.hi] C (λv C'=>∃r dB cA,v=u32 r/\K.N r=none/\2<=r/\r<K.cap/\dB.length=cA.length/\r<dB.length/\K.us.length<=dB.length/\dB.getD r 0=0/\
   (∀s,2<=s->s≠r->dB.getD s 0=K.use s+e1 (some d) s)/\(∀s,s<2->dB.getD s 0=K.use s)/\cA.getD r 0=0/\(∀s,s≠r->cA.getD s 0=K.hold s)/\
   cT kp {K with N:=up K.N r (some d),T:=qI K.T d (some r),used:=K.used+1,us:=dB,ho:=cA} ord ah tr C'):=by
 have h0:=h;obtain⟨b,rfl,hO⟩:=h;refine aF λg=>qy (ae.dQ (Br.SM hne (Build.mk (cs:=bu d) zK ?_)));intro b3 _;refine St.p (λx hx=>by simp[bu,u32]at hx;rcases hx with rfl|rfl|rfl<;>rfl) ?_;refine DR.self (Nil.ptr (Ld.f ?_));refine ax.q ?_;refine aa.eq (uG (d:=d) hO.ut hv) ?_;rw[hT];refine⟨.refl _,Ext.mk rfl (Ext.mk rfl (Br.no ?_))⟩;refine ax.q ?_;refine aa.fq (KI h0 hd hv hT hroom hlo hhi hb) ?_;rintro v C' ⟨r,dB,cA,rfl,hh⟩;exact aM.mk .tail ⟨r,dB,cA,rfl,hh⟩
structure yl(K' K:Kd):Prop where
 N:∀{s d},K'.N s=some d->K.N s=some d
 n:K'.n=K.n
 cap:K'.cap=K.cap
 ho:K'.ho=K.ho
 us:∀s,K'.use s<=K.use s
 idle:(∀s,K.N s=none->K.use s=0)->∀s,K'.N s=none->K'.use s=0
theorem yl.refl(K:Kd):yl K K:=⟨λh=>h,rfl,rfl,rfl,λ_=>xag _,λh=>h⟩
theorem yl.trans{A B C:Kd}(h:yl A B)(h':yl B C):yl A C:=⟨λx=>h'.N (h.N x),h.n.trans h'.n,h.cap.trans h'.cap,h.ho.trans h'.ho,λs=>xbG (h.us s) (h'.us s),λhi=>h.idle (h'.idle hi)⟩
def PL(P:Nat->Nat)(N:eH):Prop:=∀t,2<=t->0<P t->∃d,N t=some d
def gX(P0:Nat->Nat)(l:zL):Nat->Nat:=λs=>P0 s+l.count s
theorem N9{P0:Nat->Nat}{l:zL}{t:Nat}:up (gX P0 (l++[t])) t (gX P0 (l++[t]) t-1)=gX P0 l:=by
 funext s
 unfold up gX;split
 ·rename_i e;subst e;simp
 rename_i e;simp[xbi,xcG,xba e]
theorem mG{P0:Nat->Nat}(h:cT kp K ord ah tr C){r:Nat}(hm:jK K S iP (gX P0 [r]))(hp:Pos K)(hl:PL (gX P0 [r]) K.N)(hr:r<1048576)(hbu:∀s,K.use s<2147483648):
  Fc zQ 199 #[ptr kp,u32 r] C (λv C'=>v=.tuple #[]/\∃K',cT kp K' ord ah tr C'/\jK K' S iP P0/\Pos K'/\PL P0 K'.N/\yl K' K):=by
 refine aF λg=>Jp (az.int (e:=110) zK zK zK λbx=>?_);refine abq (λk vs H=>∃(w:zV) (Ct C':Hp) (todo:zL) (K':Kd),vs=[w]/\H=Ct++C'/\aN 110 .u32 w (iw todo) Ct/\cT kp K' ord ah tr C'/\jK K' S iP (gX P0 todo)/\Pos K'/\PL (gX P0 todo) K'.N/\yl K' K/\(∀t∈todo,t<1048576)/\k=3*K'.used+todo.length/\k<=3*K.used+1)
  _ ⟨_,[_],C,[r],K,rfl,rfl,aN.made [(r:Int)],h,hm,hp,hl,.refl K,by simpa using hr,rfl,by simp⟩ ?_
 rintro w H hJ gs;obtain⟨k,⟨w',Ct,C',todo,K',hw,rfl,ht,hK,hM,Sk,Pq,pM,hT,hk,hkb⟩,hkm⟩:=hJ.open;simp only[xaw,xa2]at hw;subst hw;refine ht.bP ?_;rw[ak];refine ae.nh (b:=0) (Br.dec (λhpos=>?_) (λhpos=>?_))
 ·have hc1:=hm.cap;obtain⟨pre,t,rfl⟩:∃pre t,todo=pre++[t]:=⟨todo.dropLast,todo.getLast (by intro e;simp[e]at hpos),(xec _).symm⟩;have htl:(pre++[t]).length=pre.length+1:=by simp
  have ht1:=hT t zI;refine ht.bP ?_;rw[ak,htl];refine ae.xO (b:=1) ?_ zO ?_
  ·simp[bG];omega
  rw[xb8];refine ht.ld (i:=pre.length) (x:=(t:Int)) (by rw[bY];simp[iw]) (bI.sub .left) (ht.cut (i:=pre.length) zI λw' ht'=>?_);have Xo:aN 110 .u32 w' (iw pre) Ct:=by
   rw[bY,xev zI]at ht';exact ht'
  have hTp:∀s∈pre,s<1048576:=λs hs=>hT s (xae _ hs);refine ae.xX (b:=1) (Br.dec (λh1=>?_) (λh1=>?_))
  ·have hc:∀s,2<=s->gX P0 (pre++[t]) s=gX P0 pre s:=λs hs=>by
    unfold gX;rw[xbi,xcG];simp;omega
   exact oh.back (.refl _) hkm (3*K'.used+pre.length) ⟨w',Ct,C',pre,K',rfl,rfl,Xo,hK,hM.congr (λ_=>xcR) hc,Sk,λs hs h0=>Pq s hs (by rw[hc s hs];exact h0),pM,hTp,rfl,by simp at hk;omega⟩ (by rw[hk];simp)
  have hPt:0<gX P0 (pre++[t]) t:=by unfold gX;simp;omega
  obtain⟨d,hd⟩:=Pq t zO hPt;have hfit:=hM.fit hd;have Y6:=Sk t d hd;obtain⟨b,rfl,hO⟩:=hK;refine Nil.ptr (Ld.f ?_);refine hO.us.ld (x:=((K'.use t:Nat):Int)) (bH hfit) (bI.sub (.app (.cons (.app (.app .left))))) (ae.xO (b:=1) ?_ zO ?_)
  ·have:=pM.us t;have:=hbu t;simp[bG];omega
  refine hO.us.nt (x:=((K'.use t-1:Nat):Int)) (.app (.cons (.app (.app .left)))) (by simpa using hfit) λT8 A3=>?_;rw[fm]at A3;have g1:∀s,(K'.us.set t (K'.use t-1)).getD s 0=if s=t then K'.use t-1 else K'.use s:=λs=>gU hfit
  have NI:=hM.less (r:=t) (dB:=K'.us.set t (K'.use t-1)) hPt zI (by rw[g1,xad rfl];omega) (λs hs=>by rw[g1,xac hs]);rw[N9]at NI;have XM:Z9 {b with CU:=T8} {K' with us:=K'.us.set t (K'.use t-1)} ord ah tr:={hO with us:=A3,ul:=by simp;exact hO.ul};have Sn:yl {K' with us:=K'.us.set t (K'.use t-1)} K:=⟨pM.N,pM.n,pM.cap,pM.ho,λs=>by
   show(K'.us.set t (K'.use t-1)).getD s 0<=_;rw[g1];have:=pM.us s;split
   ·rename_i e;subst e;omega
   ·exact this,λhi s hs=>by
   show(K'.us.set t (K'.use t-1)).getD s 0=0;have hs':K'.N s=none:=hs;rw[g1,xac (λe=>by subst e;rw[hd]at hs';cases hs')];exact pM.idle hi s hs'⟩
  have acV:PL (gX P0 pre) K'.N:=λs hs h0=>Pq s hs (by unfold gX at h0⊢;rw[xbi];omega);refine Nil.ptr (Ld.f ?_);refine A3.ld (x:=((K'.use t-1:Nat):Int)) (by rw[<-fm];simp[hfit]) (bI.sub (.app (.cons (.app (.app .left))))) ?_;refine ae.nh (b:=0) (Br.dec (λh3=>?_) (λh3=>?_))
  ·refine oh.back (.refl _) hkm (3*K'.used+pre.length) ⟨w',Ct,_,pre,_,rfl,rfl,Xo,⟨_,rfl,XM⟩,NI,λs e hs=>?_,acV,Sn,hTp,rfl,by simp at hk;omega⟩ (by rw[hk];simp);show 0<(K'.us.set t (K'.use t-1)).getD s 0;rw[g1];split
   ·exact h3
   exact Sk s e hs
  have hu0:K'.use t=1:=by omega
  have fc:cT kp {K' with us:=K'.us.set t (K'.use t-1)} ord ah tr (({b with CU:=T8}:ur).hp kp K'.n):=⟨_,rfl,XM⟩;refine aa.eq (nS fc zO) ?_;have Sq:2<=t:=by omega
  have af8:got K'.N t=bu d:=dY hd Sq;show Ov _ _ _;intro b32 _;rw[af8];refine St.p (λx hx=>by simp[bu,u32]at hx;rcases hx with rfl|rfl|rfl<;>rfl) ?_;refine DR.self (Nil.ptr (Ld.f ?_));refine ax.q ?_;have hTd:K'.T d=some t:=(hM.j5 d t).2 ⟨hd,λh=>h⟩;refine aa.fq (yH XM.ut (hM.var hd) hTd) ?_;rintro v CT' ⟨rfl,YP⟩;refine Nil.ptr (Ld.f ?_);refine aa.fq (Tw XM.ar ⟨d,hd⟩ Sq) ?_;rintro v CA' ⟨rfl,har⟩;refine Ld.f ?_;refine Ld.f ?_;refine az.Ri (e:=110) zK zK zK λbz=>?_;refine Xo.XU (.cons (.cons .left)) (dz.block (l:=[(d.lo:Int),(d.hi:Int)]) (by exact .head _) zI) (by simp at hk⊢;omega) (by simp at hk⊢;omega) λw2 Ct2 Ry=>?_;have e0:iw pre++[(d.lo:Int),(d.hi:Int)]=iw (pre++[d.lo,d.hi]):=by rw[bY];rfl
  rw[e0]at Ry;have F0:({K' with us:=K'.us.set t (K'.use t-1)}:Kd).use t=0:=by show(K'.us.set t (K'.use t-1)).getD t 0=0;rw[g1,xad rfl];omega
  have Lt:=NI.free (r:=t) (d:=d) hd (λh=>h) F0;have hed:dw K'.N t K'.cap=0:=by have:=NI.use hd;rw[F0]at this;exact(by have h5:dw K'.N t K'.cap+_+_=0:=this.symm;omega)
  have fP:=jT hed t (hM.two hd).2 d hd;have agO:gX P0 pre t=0:=by have:=NI.use hd;rw[F0]at this;omega
  have hroom:0<K'.used:=by have:=hM.room;omega
  have hlt:∀x,live K'.N x->x<1048576:=λx hx=>fc.lt hx;have l7:∀s,2<=s->gX P0 pre s+e1 (some d) s=gX P0 (pre++[d.lo,d.hi]) s:=λs _=>by
   unfold gX;rw[eC,xbi,xb7,xb7,xdJ];simp only[xcM];omega
  refine oh.back (.skip (.skip (.refl _))) hkm (3*(K'.used-1)+(pre++[d.lo,d.hi]).length) ⟨w2,Ct2,_,pre++[d.lo,d.hi],{K' with us:=K'.us.set t (K'.use t-1),N:=up K'.N t none,T:=qI K'.T d none,used:=K'.used-1},rfl,rfl,Ry,
   ⟨{b with CU:=T8,CT:=CT',CA:=CA'},rfl,{XM with ar:=har,ut:=YP}⟩,Lt.congr (λ_=>xcR) l7,λs e hs=>?_,λs hs h0=>?_,⟨λ{s e} hs=>?_,Sn.n,Sn.cap,Sn.ho,Sn.us,λhi s hs=>?_⟩,λs hs=>?_,rfl,by simp at hk⊢;omega⟩ (by simp at hk⊢;omega)
  ·have hne:s≠t:=λe2=>by subst e2;have sM:up K'.N s none s=some e:=hs;rw[aO]at sM;cases sM
   show 0<(K'.us.set t (K'.use t-1)).getD s 0;rw[g1,xac hne];have sM:up K'.N t none s=some e:=hs;rw[aS hne]at sM;exact Sk s e sM
  ·have hne:s≠t:=λe2=>by
    subst e2;rw[<-l7 s hs,agO]at h0;rw[eC,xac fP.1,xac fP.2]at h0;omega
   show∃e,up K'.N t none s=some e;rw[aS hne];rw[<-l7 s hs]at h0;by_cases h5:0<gX P0 pre s
   ·exact acV s hs h5
   rw[eC]at h0;have:d.lo=s\/d.hi=s:=by
    by_cases h6:d.lo=s
    ·exact .inl h6
    by_cases h7:d.hi=s
    ·exact .inr h7
    rw[xac h6,xac h7]at h0;omega
   rcases this with rfl|rfl
   ·rcases hM.lo hd with h8|h8
    ·omega
    exact h8
   rcases hM.hi hd with h8|h8
   ·omega
   exact h8
  ·have sM:up K'.N t none s=some e:=hs;by_cases e2:s=t
   ·subst e2;rw[aO]at sM;cases sM
   rw[aS e2]at sM;exact pM.N sM
  ·have sM:up K'.N t none s=none:=hs;show(K'.us.set t (K'.use t-1)).getD s 0=0;by_cases e2:s=t
   ·subst e2;rw[g1,xad rfl];omega
   rw[aS e2]at sM;exact Sn.idle hi s sM
  rcases xao.1 hs with hs|hs
  ·exact hTp s hs
  simp at hs;rcases hs with rfl|rfl
  ·exact hlt _ (hM.lo hd)
  exact hlt _ (hM.hi hd)
 obtain rfl:todo=[]:=xbW zO;exact aM.mk .right ⟨rfl,K',hK,hM.congr (λ_=>xcR) (λs _=>by simp[gX]),Sk,λs hs h0=>Pq s hs (by simpa[gX]using h0),pM⟩
end
abbrev lv(ah:zL):Nat->Nat:=λv=>ah.getD v 0
section
variable {kp:Nat} {K:Kd} {ord ah tr:zL} {C:Hp} {S:Nat->aA.Fn}
theorem rA(h:cT kp K ord ah tr C)(v:Int):Rd zQ 210 #[ptr kp,iv v] C (· =.bool (decide (0<=v/\v<K.n))):=by
 obtain⟨b,rfl,hO⟩:=h;refine aF λg=>Jf (ae.geq (cm.and (decide (v<K.n)) (λ_=>?_) rfl λ_=>aZ.mk (.refl _) (by rw[xdC])));refine Nil.ptr (Ld.f ?_);exact ae.lss ⟨rfl,rfl⟩
theorem y8(h:cT kp K ord ah tr C){r:Nat}(hl:live K.N r)(hv:∀d,K.N r=some d->d.v<K.n)(h01:r<2->K.N r=none):Rd zQ 319 #[ptr kp,u32 r] C (· =iv ((dep K.n (lv ah) K.N r:Nat):Int)):=by
 have h0:=h;have hr:=h.lt hl;obtain⟨b,rfl,hO⟩:=h;refine aF λg=>Ig (Nil.ptr (ai.mk (aa.eq (nS h0 zO) ?_)));intro b5 _;refine St.whole (r:=got K.N r) (by exact .head _) rfl (aQ _ _).1 (aQ _ _).2 ?_;by_cases h2:r<2
 ·rw[fJ h2,aT (h01 h2)];refine Ld.f ?_;refine ae.geq (Br.TQ zD (Nil.ptr (Ld.f ?_)));exact aZ.mk .tail rfl
 obtain⟨d,hd⟩:∃d,K.N r=some d:=by rcases hl with hl|hl;omega;exact hl
 rw[dY hd zO,aq hd];have kZ:=hv d hd;have hlen:=hO.ol.2;refine Ld.f ?_;refine ae.geq (Br.T9 zI (Nil.ptr (Ld.f ?_)));refine Ld.f ?_;exact hO.lv.ld (x:=((ah.getD d.v 0:Nat):Int)) (bH zO) (bI.sub (.cons (.cons (.app (.app (.app (.app (.app .left)))))))) (aZ.mk .tail rfl)
def pO(K:Kd)(ah:zL)(v:Int)(lo hi:Nat):Int:=
 if¬(0<=v/\v<K.n)then 2 else if gE K.N lo=false\/gE K.N hi=false then 3 else if lo≠hi/\min (dep K.n (lv ah) K.N lo) (dep K.n (lv ah) K.N hi)<=ah.getD v.toNat 0 then 4 else 0
theorem LC(h:cT kp K ord ah tr C)(v:Int){lo hi:Nat}(hlo:lo<4294967296)(hhi:hi<4294967296)(hv:∀r d,K.N r=some d->d.v<K.n/\2<=r):
  Rd zQ 243 #[ptr kp,iv v,u32 lo,u32 hi] C (· =iv (pO K ah v lo hi)):=by
 have h0:=h;have h01:∀r,r<2->K.N r=none:=λr hr=>by
  cases e:K.N r with
  |none=>rfl
  |some d=>have:=(hv r d e).2;omega
 obtain⟨b,rfl,hO⟩:=h;refine aF λg=>Jc (aa.eq (rA h0 v) (Un.not ?_));by_cases Nu:0<=v/\v<K.n;rotate_left
 ·rw[xai Nu];exact Br.yes (aZ.mk (.refl _) (by unfold pO;rw[xad Nu]))
 rw[xal Nu];apply Br.no;obtain⟨n,rfl⟩:∃n:Nat,v=n:=⟨v.toNat,by omega⟩;have hnv:n<K.n:=by omega
 intro J hJ;refine Nil.ptr (ai.mk (aa.eq (nT h0 hlo) (Un.not ?_)));by_cases ng:gE K.N lo=true;rotate_left
 ·have ab8:gE K.N lo=false:=by simpa using ng
  rw[ab8];exact Split.AQ rfl (aD.mk (JE.mk (hJ _ _ λgs=>Br.yes (aZ.mk (.refl _) (by unfold pO;rw[xac (by simpa using Nu),xad (.inl ab8)])))))
 rw[ng];refine Split.go rfl (Nil.ptr (ai.mk (aa.eq (nT h0 hhi) (Un.not ?_))));by_cases hhl:gE K.N hi=true;rotate_left
 ·have acm:gE K.N hi=false:=by simpa using hhl
  rw[acm];exact aD.mk (JE.mk (hJ _ _ λgs=>Br.yes (aZ.mk (.refl _) (by unfold pO;rw[xac (by simpa using Nu),xad (.inr acm)]))))
 rw[hhl];refine aD.mk (JE.mk (hJ _ _ λgs=>Br.no ?_));intro J2 BP;have hE:pO K ah n lo hi=if lo≠hi/\min (dep K.n (lv ah) K.N lo) (dep K.n (lv ah) K.N hi)<=ah.getD n 0 then 4 else 0:=by
  unfold pO;rw[xac (by simpa using Nu),xac (by rw[ng,hhl];simp)];rfl
 refine DR.self (ae.yL ?_);by_cases hne:lo≠hi;rotate_left
 ·rw[xai hne];exact Br.no (JE.mk (BP _ _ λgs=>Br.no (aZ.mk (.refl _) (by rw[hE,xac (λh=>hne h.1)]))))
 rw[xal hne];refine Br.yes (Nil.ptr (Ld.f ?_));have hlen:=hO.ol.2;refine hO.lv.ld (x:=((ah.getD n 0:Nat):Int)) (bH zO) (bI.sub (.cons (.app (.app (.app (.app (.app .left))))))) λF=>?_;refine aa.eq (y8 h0 (bX.1 ng) (λd hd=>(hv _ _ hd).1) (h01 _)) (⟨.refl _,?_⟩);intro F2;refine aa.eq (y8 h0 (bX.1 hhl) (λd hd=>(hv _ _ hd).1) (h01 _)) (⟨.refl _,?_⟩);refine⟨_,_,_,rfl,rfl,?_⟩;have hmin:(if((dep K.n (lv ah) K.N hi:Nat):Int)<((dep K.n (lv ah) K.N lo:Nat):Int)then((dep K.n (lv ah) K.N hi:Nat):Int)else((dep K.n (lv ah) K.N lo:Nat):Int))=((min (dep K.n (lv ah) K.N lo) (dep K.n (lv ah) K.N hi):Nat):Int):=by
  split<;>omega
 rw[hmin];refine ae.qM (aD.mk ?_);by_cases hm:min (dep K.n (lv ah) K.N lo) (dep K.n (lv ah) K.N hi)<=ah.getD n 0
 ·rw[xal hm];exact JE.mk (BP _ _ λgs=>Br.yes (aZ.mk (.refl _) (by rw[hE,xad ⟨hne,hm⟩])))
 rw[xai hm];exact JE.mk (BP _ _ λgs=>Br.no (aZ.mk (.refl _) (by rw[hE,xac (λh=>hm h.2)])))
theorem KO(h:cT kp K ord ah tr C){v lo hi:Nat}(hv:v<K.n):
  Rd zQ 244 #[ptr kp,iv (v:Int),u32 lo,u32 hi] C (· =if lo=hi then .tuple #[u32 lo,.bool true]else .tuple #[u32 ((K.T ⟨v,lo,hi⟩).getD 0),.bool (K.T ⟨v,lo,hi⟩).isSome]):=by
 obtain⟨b,rfl,hO⟩:=h;refine aF λg=>Jb (ae.dQ (Br.dec (λhe=>aZ.mk (.refl _) (by rw[xad he])) (λhe=>?_)));refine Nil.ptr (ai.mk (Ld.f ?_));exact Build.mk (cs:=bu ⟨v,lo,hi⟩) zK (aa.eq (uG (d:=⟨v,lo,hi⟩) hO.ut hv) (Ext.mk rfl (Ext.mk rfl (aZ.mk (.refl _) (by rw[xac he];rfl)))))
theorem vU(h:cT kp K ord ah tr C){r:Nat}(hr:r<4294967296)(hb:∀s,K.hold s<2147483648):Rd zQ 198 #[ptr kp,u32 r] C (· =iv ((K.hold r:Nat):Int)):=by
 obtain⟨b,rfl,hO⟩:=h;refine aF λg=>Jq (ae.aH (cm.or (decide (K.ho.length<=r)) (λ_=>?_) zI λ_=>?_))
 ·refine aV.q (Nil.ptr (ai.mk (Ld.f ?_)));refine hO.ho.bP ?_;rw[ak];exact ae.qM ⟨rfl,rfl⟩
 rw[xdv];refine Br.dec (λhge=>?_) (λhlt=>?_)
 ·refine aZ.mk (.refl _) ?_;unfold Kd.hold;rw[List.getD,xaE hge];rfl
 refine Nil.ptr (ai.mk (Ld.f ?_));exact hO.ho.ld (x:=((K.hold r:Nat):Int)) (bH zO) (bI.sub (.cons (.app (.app (.app .left))))) (aV.nat (by have:=hb r;simp[bG];omega) (aZ.mk (.refl _) rfl))
theorem Vp(h:cT kp K ord ah tr C)(h2:2<=K.used)(hu:K.used<=1048576):Rd zQ 140 #[ptr kp] C (· =iv ((K.used-2:Nat):Int)):=by
 obtain⟨b,rfl,hO⟩:=h;refine aF λg=>JW (ae.aH (Br.no (Nil.ptr (ai.mk (Ld.f ?_)))));exact aa.eq (Ed hO.ar) (ae.xO (b:=2) (by simp[bG];omega) h2 (aZ.mk (.refl _) rfl))
theorem Np(h:cT kp K ord ah tr C):Rd zQ 271 #[ptr kp] C (· =iv ((tr.length:Nat):Int)):=by
 obtain⟨b,rfl,hO⟩:=h;refine aF λg=>IM (ae.aH (Br.no (Nil.ptr (Ld.f ?_))));refine hO.tr.bP ?_;rw[ak];exact aZ.mk (.refl _) rfl
theorem gO(h:cT kp K ord ah tr C):Rd zQ 185 #[ptr kp] C (· =iv ((K.n:Nat):Int)):=by
 obtain⟨b,rfl,hO⟩:=h;refine aF λg=>JF (ae.aH (Br.no (Nil.ptr (Ld.f ?_))));exact aZ.mk (.refl _) rfl
theorem iS(h:cT kp K ord ah tr C){r:Nat}(hr:r<4294967296):Rd zQ 249 #[ptr kp,u32 r] C (· =.tuple #[.agg (got K.N r).toArray,iv (if gE K.N r then 0 else 3)]):=by
 have h0:=h;obtain⟨b,rfl,hO⟩:=h;refine aF λg=>I6 λb1 _=>?_;refine ae.aH (Br.no (Nil.ptr (ai.mk (aa.eq (nT h0 hr) (Un.not ?_)))));cases hb:gE K.N r with
 |false=>
  refine Br.yes (Build.mk (cs:=[iv 0,.int .u32 0,.int .u32 0]) zK (St.q ?_));refine ax.q ?_;exact aZ.mk .tail (by rw[DF hb];rfl)
 |true=>
  refine Br.no (Nil.ptr (ai.mk (aa.eq (nS h0 hr) (St.whole (r:=got K.N r) (by exact .head _) rfl (aQ _ _).1 (aQ _ _).2 ?_))));refine ax.whole (r:=got K.N r) (by exact .head _) (aQ _ _).1 ?_;exact aZ.mk .tail rfl
end
theorem wK{B:Hp}{v:zV}{l:List Int}(h:dz .i64 B v l)(hl:l.length<=1099511627776):Fc zQ 71 #[v] B (λr H=>∃C,H=C++B/\aN 3 .i64 r l C):=by
 refine aF λg=>OS ?_;obtain⟨a,c,rfl,hc⟩:=h.shape;refine⟨.bool a.isNone,by simp[gw],?_⟩;refine Br.mk (λha=>?_) (λha=>?_)
 ·have:l=[]:=by
   rcases h.2 with⟨_,_,h1,h2⟩|⟨b,o,cap,cs,T,fz,h1,_⟩
   ·simpa using h2
   simp at h1;rw[h1.1]at ha;simp at ha
  subst this;exact aM.here ⟨[],rfl,aN.nil⟩
 refine az.none (z:=iv 0) (e:=3) (k:=1) zK zK zK λb=>?_;refine(aN.made (T:=3) (kd:=.i64) (b:=b) []).XU (l2:=l) .left ((show dz .i64 B _ l from h).mono λ_ h=>.tail _ h) zP zP λv' C' ho=>?_;exact aM.here ⟨C',rfl,by simpa using ho⟩
theorem yZ{kp:Nat}{K:Kd}{ord ah tr:zL}{C:Hp}(h:cT kp K ord ah tr C):Fc zQ 65 #[ptr kp] C (λr H=>∃N,H=N++C/\aN 3 .i64 r (iw ord) N):=by
 obtain⟨b,rfl,hO⟩:=h;refine aF λg=>OV (ae.aH (Br.no (Nil.ptr (Ld.f ?_))));refine aa.fq (wK (hO.od.ints.mono (bI.sub (.cons (.app (.app (.app (.app .left))))))) (by have:=hO.ol.1;have:=hO.lz;simp;omega)) ?_;rintro v C' ⟨N,rfl,ho⟩;exact aM.here ⟨N,rfl,ho⟩
end
section
def Am(x r:Nat):Prop:=x<2^r/\(r=0\/2^(r-1)<=x)
theorem Am.up{x s t:Nat}(h:Am (x>>>s) t)(h0:s=0\/x>>>s≠0):Am x (s+t):=by
 rw[xaZ]at h h0;have hp:=xbs s;refine⟨?_,?_⟩
 ·have:=h.1;rw[Nat.div_lt_iff_lt_mul hp]at this;rw[xdw,xcm];exact this
 rcases h.2 with h2|h2
 ·subst h2;have:=h.1;rcases h0 with h0|h0
  ·exact .inl zO
  rw[Nat.pow_zero]at this;exact absurd (Nat.lt_one_iff.1 this) h0
 by_cases ht:t=0
 ·subst ht;rcases h0 with h0|h0
  ·exact .inl zO
  have:=h.1;rw[Nat.pow_zero]at this;exact absurd (Nat.lt_one_iff.1 this) h0
 right;have:=(Nat.le_div_iff_mul_le hp).1 h2;rw[show s+t-1=(t-1)+s by omega,xdw];exact this
theorem Vk:∀y:Fin 256,∃b:UInt8, zX[y.1]? =some b/\(y.1<2^b.toNat/\(b.toNat=0\/2^(b.toNat-1)<=y.1)):=by
 have h:∀y:Fin 256,(match zX[y.1]? with|some b=>decide (y.1<2^b.toNat/\(b.toNat=0\/2^(b.toNat-1)<=y.1))|none=>false)=true:=by decide+kernel
 intro y;have:=h y;split at this
 ·rename_i b hb;exact⟨b,hb,by simpa using this⟩
 cases this
theorem Q1{x:Nat}(hx:x<18446744073709551616)(B:Hp):Rd zQ 222 #[.int .u64 (x:Int)] B (λv=>∃r:Nat,Am x r/\v=iv (r:Int)):=by
 refine aF λg=>Jd λJ1 hJ1=>?_;have h1:∀s,s<=32->x>>>s<4294967296->(s=0\/x>>>s≠0)->J1 [.int .u64 ((x>>>s:Nat):Int),iv (s:Int)] B:=by
  intro s hs hlt h0;refine hJ1 _ _ _ λgs=>?_;intro J2 BP;have h2:∀s,s<=48->x>>>s<65536->(s=0\/x>>>s≠0)->J2 [.int .u64 ((x>>>s:Nat):Int),iv (s:Int)] B:=by
   intro s hs hlt h0;refine BP _ _ _ λgs=>?_;intro J3 hJ3;have h3:∀s,s<=56->x>>>s<256->(s=0\/x>>>s≠0)->J3 [.int .u64 ((x>>>s:Nat):Int),iv (s:Int)] B:=by
    intro s hs hlt h0;refine hJ3 _ _ _ λgs=>?_;refine aV.nat (show x>>>s<256 from hlt) ?_;obtain⟨b,hb,hl⟩:=Vk ⟨x>>>s,hlt⟩;refine⟨_,_,_,b,rfl,rfl,xdd _,by rw[xbh];exact hb,?_⟩;have Zv:b.toNat<256:=b.toNat_lt;exact aV.q (ae.eZ (aZ.mk (.refl _) ⟨s+b.toNat,Am.up (t:=b.toNat) hl h0,rfl⟩))
   refine ae.qM (b:=256) (Br.dec (λhge=>?_) (λhge=>JE.mk (h3 s zO zO h0)));refine ae.iM (b:=8) (by simp only[bG];omega) (ae.eZ (b:=8) ?_);rw[<-xdG];have e:x>>>(s+8)=x>>>s/256:=by rw[xdG,xaZ (x>>>s) 8]
   exact JE.mk (h3 (s+8) zO zO (.inr zO))
  refine ae.qM (b:=65536) (Br.dec (λhge=>?_) (λhge=>JE.mk (h2 s zO zO h0)));refine ae.iM (b:=16) (by simp only[bG];omega) (ae.eZ (b:=16) ?_);rw[<-xdG];have e:x>>>(s+16)=x>>>s/65536:=by rw[xdG,xaZ (x>>>s) 16]
  exact JE.mk (h2 (s+16) zO zO (.inr zO))
 refine ae.qM (b:=4294967296) (Br.dec (λhge=>?_) (λhge=>JE.mk (h1 0 zO zP (.inl rfl))));refine ae.iM (b:=32) (by simp only[bG];exact hx) ?_;have e:x>>>32=x/4294967296:=by rw[xaZ]
 exact JE.mk (h1 32 zO zO (.inr zO))
end
end Go.Proofs
namespace Go.Sx
open Go
section
variable {P:Program} {H C:Hp} {c:Hp->Hp}
theorem bI.re(h:bI C H c)(X:Hp):bI X (c X) c:=by
 induction h with
 |here=>exact .here
 |left=>exact .left
 |cons _ ih=>exact .cons ih
 |app _ ih=>exact .app ih
theorem swap_perm{l:List Int}{i j:Nat}{x y:Int}(hi:l[i]? =some x)(hj:l[j]? =some y):((l.set i y).set j x).Perm l:=by
 have h1:=(xak.1 hi).1;have h2:=(xak.1 hj).1;rw[xct];intro a;by_cases e:i=j
 ·subst e;rw[hi]at hj;cases hj;rw[List.set_set];have:l.set i x=l:=by
   have hx:l[i]=x:=by rw[xaa h1]at hi;exact xbp hi
   rw[<-hx];exact List.set_getElem_self h1
  rw[this]
 have hx:l[i]=x:=by rw[xaa h1]at hi;exact xbp hi
 have hy:l[j]=y:=by rw[xaa h2]at hj;exact xbp hj
 rw[xdK (by simpa using h2),xdK h1];have:(l.set i y)[j]'(by simpa using h2)=y:=by rw[List.getElem_set_ne e];exact hy
 rw[this,hx];have c1:l.count x≥1:=List.one_le_count_iff.2 (hx▸xaF h1);have c2:l.count y≥1:=List.one_le_count_iff.2 (hy▸xaF h2);by_cases e1:x=a
 ·subst e1;by_cases e2:y=x
  ·subst e2;simp<;>omega
  simp[e2,xba e2]<;>omega
 by_cases e2:y=a
 ·subst e2;simp[e1]<;>omega
 simp[e1,e2]<;>omega
def up1(vs:List zV):Nat:=match vs with
 | .int _ q::_=>(q+1).toNat
 |_=>0
theorem Ar{k:IntKind}{q:Int}{r:List zV}:up1 (.int k q::r)=(q+1).toNat:=rfl
end
end Go.Sx
namespace Go.Sx
open Go
abbrev cy:=Sort.ltInt
section
variable {P:Program} {H C:Hp} {c:Hp->Hp} {T:TypeId} {kd xY k1 k2 k3 k4:IntKind} {v:zV} {d:Array Int}
def Da(T:TypeId)(kd:IntKind)(v:zV)(d:Array Int)(C:Hp):Prop:=aN T kd v d.toList C
theorem ZU(d:Array Int){i:Nat}(hi:i<d.size):d.toList[i]? =some d[i]! :=by
 rw[xbf,getElem!_pos d i hi];exact xbx hi
theorem PY(d:Array Int)(i j:Nat):(Sort.swp d i j).toList=(d.toList.set i d[j]!).set j d[i]! :=by
 unfold Sort.swp;rw[Array.toList_setIfInBounds,Array.toList_setIfInBounds]
theorem Da.ld(h:Da T kd v d C)(hC:∀y∈C,y∈H){i:Nat}(hi:i<d.size){K:zV->Prop}(hk:K (.int kd d[i]!)):au 1 v (.int xY (i:Int)) λp=>Ld H p K:=
 aN.ld h (ZU d hi) hC hk
theorem Da.W7(h:Da T kd v d C)(hh:bI C H c){i j:Nat}(hi:i<d.size)(hj:j<d.size){B:(zV->Prop)->Prop}
 (hB:∀k:zV->Prop,k (.int k2 (i:Int))->B k){K:Hp->Prop}(hk:∀C',Da T kd v (Sort.swp d i j) C'->K (c C')):
  au 1 v (.int k1 (j:Int)) λp1=>Ld H p1 λx=>B λu=>au 1 v u λp2=>Ld H p2 λy=>au 1 v (.int k3 (i:Int)) λp3=>St 1 H p3 x λH1=>au 1 v (.int k4 (j:Int)) λp4=>St 1 H1 p4 y K:=by
 refine h.ld hh.sub hj (hB _ ?_);refine h.ld hh.sub hi ?_;refine aN.nt h hh (by rw[xce];exact hi) λC1 h1=>?_;refine h1.nt (hh.re C1) (by rw[xbT,xce];exact hj) λC2 h2=>?_;exact hk C2 (by unfold Da;rw[PY];exact h2)
theorem Da.swap(h:Da T kd v d C)(hh:bI C H c){i j:Nat}(hi:i<d.size)(hj:j<d.size){K:Hp->Prop}(hk:∀C',Da T kd v (Sort.swp d i j) C'->K (c C')):
  au 1 v (.int k1 (j:Int)) λp1=>Ld H p1 λx=>au 1 v (.int k2 (i:Int)) λp2=>Ld H p2 λy=>au 1 v (.int k3 (i:Int)) λp3=>St 1 H p3 x λH1=>au 1 v (.int k4 (j:Int)) λp4=>St 1 H1 p4 y K:=
 h.W7 (B:=λk=>k _) hh hi hj (λ_ h=>h) hk
end
theorem iZ{d:Array Int}{n i j:Nat}(h:d.size=n):(Sort.swp d i j).size=n:=(Sort.size_swp d i j).trans h
theorem Rk{a j:Nat}{e:Array Int}(h:¬a<j):Sort.insInner cy a j e=e:=by
 cases j with
 |zero=>rfl
 |succ j=>rw[Sort.insInner,xac zP]
theorem Rl{a j:Nat}{e:Array Int}(h:a<j):Sort.insInner cy a j e=if cy e[j]! e[j-1]! =true then Sort.insInner cy a (j-1) (Sort.swp e j (j-1))else e:=by
 obtain⟨j,rfl⟩:∃k,j=k+1:=⟨j-1,by omega⟩;rw[Sort.insInner,xal h,xbR];rfl
theorem NY{j:Nat}{e:Array Int}(h:¬1<=j):Sort.shiftDown cy j e=e:=by
 obtain rfl:j=0:=by omega
 rfl
theorem sY{j:Nat}{e:Array Int}(h:1<=j):Sort.shiftDown cy j e=if(!cy e[j]! e[j-1]!)=true then e else Sort.shiftDown cy (j-1) (Sort.swp e j (j-1)):=by
 obtain⟨j,rfl⟩:∃k,j=k+1:=⟨j-1,by omega⟩;rw[Sort.shiftDown];rfl
theorem fB{p:Int->Bool}{d:Array Int}{i j:Nat}(h:0<j):Sort.scanDown p d i j=if(decide (i<=j) &&p d[j]!)=true then Sort.scanDown p d i (j-1)else j:=by
 obtain⟨j,rfl⟩:∃k,j=k+1:=⟨j-1,by omega⟩;rw[Sort.scanDown];rfl
theorem MG{hi f r:Nat}{d:Array Int}(h:hi<=2*r+1):Sort.siftDown cy hi f r d=d:=by
 rw[Sort.siftDown,xeb h]
theorem UF{hi f r c:Nat}{d:Array Int}(h:2*r+1<hi)(hc:c=if(decide (2*r+1+1<hi) &&cy d[f+(2*r+1)]! d[f+(2*r+1)+1]!)=true then 2*r+2 else 2*r+1):
  Sort.siftDown cy hi f r d=if(!cy d[f+r]! d[f+c]!)=true then d else Sort.siftDown cy hi f c (Sort.swp d (f+r) (f+c)):=by
 rw[Sort.siftDown,dif_neg zO];split at hc
 ·rename_i hb;subst hc;rw[xad hb];rw[xaD,xar]at hb;split
  ·rfl
  rw[xeb hb.1]
 rename_i hb;subst hc;rw[xac hb]
theorem KL(hi f r:Nat)(d:Array Int):(Sort.siftDown cy hi f r d).size=d.size:=by
 fun_induction Sort.siftDown cy hi f r d<;>simp_all[Sort.size_swp]
end Go.Sx
set_option maxRecDepth 100000
namespace Go.Proofs
open Go Go.Sx Tryz
section
structure Z2 where
 nan:Nat
 less:Nat
 Dq:Nat
 MH:Nat
 heap:Nat
 rev:Nat
 pins:Nat
 vB:Nat
 part:Nat
 brk:Nat
 Fw:Nat
 med:Nat
 FC:Nat
 piv:Nat
 Yo:Nat
section
variable (zs:Z2)
variable {g:Gh} {a0 a1 a2 a3 a4 a5 a6 a7 a8 a9 tR tQ a12 a13 a14 a15:zV} {H:Hp} {R:Rt}
def L9000:Y1:=λ_ a b c=>lN a a λa=>rt c a b
def L9001:Y2:=λa b c d e=>jB (λf g=>rt e f g) λf=>CF a zs.nan #[b] d (λd g=>Split d true (CF a zs.nan #[c] g (λa d=>Un .not a λa=>aD vT a vF λa=>Split a false (lL b c λa=>aD vF vT a λa=>JE f [a] d) (aD vT vT undef λa=>JE f [a] d)) (dy e)) (aD vF undef vF λa=>lL b c λb=>aD a vT b λa=>JE f [a] g)) (dy e)
def L9002:Y3:=λa b c d e f=>lA c i1 λg=>yA [g] e λe g h i=>lL h d λd=>Br d (yA [h] i λd j k l=>jB (λm n=>Br m (DR n λm=>lS k i1 λo=>lS k i1 λp=>lI 1 b p m λp=>lI 1 b k m λm=>au 1 b k λq=>St 1 n q p λp=>au 1 b o λo=>St 1 p o m λm=>lS k i1 λo=>aC d j [o] m [k] l) (lA h i1 λd=>aC e g [d] n [h] i)) λd=>DR l λe=>lG k c λc=>Br c (lI 1 b k e λc=>lS k i1 λg=>lI 1 b g e λb=>∀e:Hp,
CF (a.add e) zs.less #[c,b] l (λa b=>aD vT a vF λa=>JE d [a] b) fK) (JE d [vF] l)) (rt f (.tuple #[]) i)
def L9003:Y4:=λa b c d e f g=>yA [c] f λc f h i=>oM (iv 2) h λj=>lA j i1 λj=>oG j d λk=>Br k (rt g (.tuple #[]) i) (jB (λk l=>DR l λm=>lA e h λn=>lI 1 b n m λn=>lA e k λo=>lI 1 b o m λm=>CF a zs.less #[n,m] l (λl m=>Un .not l λl=>Br l (rt g (.tuple #[]) m) (DR m λg=>lA e h λl=>lA e k λn=>lA e k λo=>lI 1 b o g λo=>lA e h λp=>lI 1 b p g λg=>au 1 b l λl=>St 1 m l o λl=>au 1 b n λm=>St 1 l m g λg=>aC c f [k] g [h] i)) fK) λc=>jB (λf g=>Br f (lA j i1 λf=>JE c [f] g) (JE c [j] g)) λc=>DR i λf=>lA j i1 λg=>lL g d λd=>Br d (lA e j λd=>lI 1 b d f λd=>lA e j λe=>lA e i1 λe=>lI 1 b e f λb=>∀e:Hp,
CF (a.add e) zs.less #[d,b] i (λa b=>aD vT a vF λa=>JE c [a] b) fK) (JE c [vF] i))
def L9004:Y3:=λa b c d e f=>lS d c λd=>lS d i1 λg=>ae .num .quo g (iv 2) λg=>yA [g] e λe g h i=>oG h i0 λj=>Br j (CF a zs.MH #[b,h,d,c] i (λ_ j=>lS h i1 λk=>aC e g [k] j [h] i) (dy f)) (lS d i1 λd=>yA [d] i λd e g h=>oG g i0 λi=>Br i (DR h λi=>lA c g λj=>lA c g λk=>lI 1 b k i λk=>lI 1 b c i λi=>au 1 b c λl=>St 1 h l k λk=>au 1 b j λj=>St 1 k j i λi=>CF a zs.MH #[b,i0,g,c] i (λ_ a=>lS g i1 λb=>aC d e [b] a [g] h) (dy f)) (rt f (.tuple #[]) h))
def L9005:Y3:=λ_ a b c d e=>lS c i1 λc=>yB [b,c] d λb c d f g=>lL d f λh=>Br h (DR g λh=>lI 1 a f h λi=>lI 1 a d h λh=>au 1 a d λj=>St 1 g j i λi=>au 1 a f λa=>St 1 i a h λa=>lA d i1 λh=>lS f i1 λi=>aC b c [h,i] a [d,f] g) (rt e (.tuple #[]) g)
def L9006:Y3:=λa b c d e f=>lA c i1 λg=>yB [g,i0] e λe g h i j=>lL i (iv 5) λk=>Br k (jB (λk l=>lA i i1 λm=>aC e g [k,m] l [h,i] j) λe=>yA [h] j λg h i k=>jB (λl m=>Br l (lA i i1 λl=>aC g h [l] m [i] k) (lE i d λg=>Br g (rt f vT m) (lS d c λg=>lL g (iv 50) λg=>Br g (rt f vF m) (DR m λg=>lS i i1 λh=>lS i i1 λl=>lI 1 b l g λl=>lI 1 b i g λg=>au 1 b i λn=>St 1 m n l λl=>au 1 b h λh=>St 1 l h g λg=>jA (λh=>lS d i λl=>oG l (iv 2) λl=>Br l (lA i i1 λl=>yA [l] h λl m n o=>lL n d λp=>Br p (DR o λp=>lI 1 b n p λq=>lS n i1 λr=>lI 1 b r p λp=>CF a zs.less #[q,p] o (λp q=>Un .not p λp=>Br p (JE e [i] q) (DR q λp=>lS n i1 λr=>lS n i1 λs=>lI 1 b s p λs=>lI 1 b n p λp=>au 1 b n λt=>St 1 q t s λq=>au 1 b r λr=>St 1 q r p λp=>lA n i1 λq=>aC l m [q] p [n] o)) fK) (JE e [i] o)) (JE e [i] h)) λe=>lS i c λc=>oG c (iv 2) λc=>Br c (lS i i1 λc=>yA [c] g λc h l m=>oG l i1 λn=>Br n (DR m λn=>lI 1 b l n λo=>lS l i1 λp=>lI 1 b p n λn=>CF a zs.less #[o,n] m (λn o=>Un .not n λn=>Br n (JE e [] o) (DR o λn=>lS l i1 λp=>lS l i1 λq=>lI 1 b q n λq=>lI 1 b l n λn=>au 1 b l λr=>St 1 o r q λo=>au 1 b p λp=>St 1 o p n λn=>lS l i1 λo=>aC c h [o] n [l] m)) fK) (JE e [] m)) (JE e [] g))))) λc=>DR k λe=>lL i d λd=>Br d (lI 1 b i e λd=>lS i i1 λg=>lI 1 b g e λb=>∀e:Hp,
CF (a.add e) zs.less #[d,b] k (λa b=>Un .not a λa=>aD vT a vF λa=>JE c [a] b) fK) (JE c [vF] k)) (rt f vF j)
def L9007:Y4:=λa b c d e f g=>DR f λh=>lI 1 b e h λi=>lI 1 b c h λh=>au 1 b c λj=>St 1 f j i λf=>au 1 b e λe=>St 1 f e h λe=>lA c i1 λf=>lS d i1 λd=>yB [f,d] e λd e f h i=>yA [f] i λj k l m=>jB (λn o=>Br n (lA l i1 λn=>aC j k [n] o [l] m) (yA [h] o λj k n o=>jB (λp q=>Br p (lS n i1 λp=>aC j k [p] q [n] o) (lG l n λj=>Br j (rt g l q) (DR q λg=>lI 1 b n g λj=>lI 1 b l g λg=>au 1 b l λk=>St 1 q k j λj=>au 1 b n λk=>St 1 j k g λg=>lA l i1 λj=>lS n i1 λk=>aC d e [j,k] g [f,h] i))) λd=>DR o λe=>oQ l n λf=>Br f (lI 1 b c e λf=>lI 1 b n e λe=>∀g:Hp,
CF (a.add g) zs.less #[f,e] o (λe f=>aD vT e vF λe=>JE d [e] f) fK) (JE d [vF] o))) λd=>DR m λe=>oQ l h λf=>Br f (lI 1 b c e λc=>lI 1 b l e λb=>∀e:Hp,
CF (a.add e) zs.less #[c,b] m (λa b=>Un .not a λa=>aD vT a vF λa=>JE d [a] b) fK) (JE d [vF] m)
def L9008:Y4:=λa b c d e f g=>DR f λh=>lI 1 b e h λi=>lI 1 b c h λh=>au 1 b c λj=>St 1 f j i λf=>au 1 b e λe=>St 1 f e h λe=>lA c i1 λf=>lS d i1 λd=>yA [f] e λe f h i=>jB (λj k=>Br j (lA h i1 λj=>aC e f [j] k [h] i) (yA [d] k λe f j k=>jB (λl m=>Br l (lS j i1 λl=>aC e f [l] m [j] k) (lG h j λe=>Br e (DR m λe=>lI 1 b c e λf=>lI 1 b j e λe=>au 1 b j λl=>St 1 m l f λf=>au 1 b c λl=>St 1 f l e λe=>rt g (tP j vT) e) (DR m λe=>lI 1 b j e λf=>lI 1 b h e λe=>au 1 b h λl=>St 1 m l f λf=>au 1 b j λl=>St 1 f l e λe=>lA h i1 λf=>lS j i1 λl=>yB [f,l] e λe f l m n=>yA [l] n λo p q r=>jB (λs t=>Br s (lA q i1 λs=>aC o p [s] t [q] r) (yA [m] t λo p s t=>jB (λu v=>Br u (lS s i1 λu=>aC o p [u] v [s] t) (lG q s λo=>Br o (DR v λo=>lI 1 b c o λp=>lI 1 b s o λo=>au 1 b s λu=>St 1 v u p λp=>au 1 b c λu=>St 1 p u o λo=>rt g (tP s vF) o) (DR v λg=>lI 1 b s g λo=>lI 1 b q g λg=>au 1 b q λp=>St 1 v p o λo=>au 1 b s λp=>St 1 o p g λg=>lA q i1 λo=>lS s i1 λp=>aC e f [o,p] g [l,m] n))) λe=>DR t λf=>oQ q s λg=>Br g (lI 1 b s f λg=>lI 1 b c f λf=>∀l:Hp,
CF (a.add l) zs.less #[g,f] t (λf g=>Un .not f λf=>aD vT f vF λf=>JE e [f] g) fK) (JE e [vF] t))) λe=>DR r λf=>oQ q m λg=>Br g (lI 1 b q f λg=>lI 1 b c f λf=>∀l:Hp,
CF (a.add l) zs.less #[g,f] r (λf g=>aD vT f vF λf=>JE e [f] g) fK) (JE e [vF] r)))) λe=>DR k λf=>oQ h j λg=>Br g (lI 1 b j f λg=>lI 1 b c f λf=>∀j:Hp,
CF (a.add j) zs.less #[g,f] k (λf g=>Un .not f λf=>aD vT f vF λf=>JE e [f] g) fK) (JE e [vF] k))) λe=>DR i λf=>oQ h d λd=>Br d (lI 1 b h f λd=>lI 1 b c f λb=>∀c:Hp,
CF (a.add c) zs.less #[d,b] i (λa b=>aD vT a vF λa=>JE e [a] b) fK) (JE e [vF] i)
def L9009:Y3:=λa b c d e f=>lS d c λd=>oG d (iv 8) λg=>Br g (aV .u64 d λg=>lQ 1 e #[(wi 0)] 371 g λg h=>CR f a 304 #[d] h λh i=>ae .num .quo d (iv 4) λj=>oM j (iv 2) λj=>lA c j λj=>lS j i1 λj=>yA [j] i λi j k l=>ae .num .quo d (iv 4) λm=>oM m (iv 2) λm=>lA c m λm=>lA m i1 λm=>oQ k m λm=>Br m (CR f a 305 #[(pt g)] l λa g=>lS h (wi 1) λh=>oA a h λa=>aV .i64 a λa=>jB (λh m=>DR m λn=>lA c h λo=>lA c h λc=>lI 1 b c n λc=>lI 1 b k n λh=>au 1 b k λn=>St 1 m n c λc=>au 1 b o λb=>St 1 c b h λb=>lA k i1 λc=>aC i j [c] b [k] l) λb=>oG a d λc=>Br c (lS a d λc=>JE b [c] g) (JE b [a] g)) (rt f (.tuple #[]) l)) (rt f (.tuple #[]) e)
def L9010:Y4:=λa b c d e f g=>DR f λh=>lI 1 b d h λi=>lI 1 b c h λb=>CF a zs.less #[i,b] f (λa b=>Br a (Nil e λa=>Ld b a λa=>lA a i1 λa=>Nil e λe=>St 1 b e a λa=>rt g (tP d c) a) (rt g (tP c d) b)) fK
def L9011:Y5:=λa b c d e f g h=>CF a zs.Fw #[b,c,d,f] g (λc d=>lX c λc g=>CF a zs.Fw #[b,g,e,f] d (λd e=>lX d λd _=>CF a zs.Fw #[b,c,d,f] e (λa b=>lX a λ_ a=>rt h a b) (dy h)) (dy h)) (dy h)
def L9012:Y3:=λa b c d e f=>lS c i1 λg=>lA c i1 λh=>CF a zs.med #[b,g,c,h,d] e (λa b=>rt f a b) (dy f)
def L9013:Y3:=λa b c d e f=>lS d c λd=>lW e #[i0] 3 λe g=>ae .num .quo d (iv 4) λh=>oM h i1 λh=>lA c h λh=>ae .num .quo d (iv 4) λi=>oM i (iv 2) λi=>lA c i λi=>ae .num .quo d (iv 4) λj=>oM j (iv 3) λj=>lA c j λc=>jB (λj k=>Ld k (pt e) λl=>lE l i0 λm=>Br m (rt f (tP j i1) k) (lE l (iv 12) λl=>Br l (rt f (tP j (iv 2)) k) (rt f (tP j i0) k))) λj=>oG d (iv 8) λk=>Br k (∀k:Jt,(∀l m n:zV,∀o:Hp,(∀_:Fr,
CF a zs.med #[b,l,m,n,(pt e)] o (λp q=>JE j [p] q) (dy f))->k [l,m,n] o)->oG d (iv 50) λd=>Br d (CF a zs.FC #[b,h,(pt e)] g (λd l=>CF a zs.FC #[b,i,(pt e)] l (λl m=>CF a zs.FC #[b,c,(pt e)] m (λa b=>JE k [d,l,a] b) (dy f)) (dy f)) (dy f)) (JE k [h,i,c] g)) (JE j [i] g)
def L9014:Y4:=λa b c d e f g=>∃(h:Jt) (i:Mt),JE h [c,d,e,vT,vT] f/\∀c d e f j:zV,∀k:Hp,h [c,d,e,f,j] k->∀_:Fr,
lS d c λl=>oQ l (iv 12) λm=>Br m (CF a zs.Dq #[b,c,d] k (λ_ m=>rt g (.tuple #[]) m) (dy g)) (lE e i0 λm=>Br m (CF a zs.heap #[b,c,d] k (λ_ m=>rt g (.tuple #[]) m) (dy g)) (jB (λm n=>CF a zs.piv #[b,c,d] n (λn o=>lX n λn p=>jC (λq r s=>jA (λt=>jB (λu v=>Br u (CF a zs.vB #[b,c,d,q] v (λu w=>aC h i [u,d,m,f,j] w [c,d,e,f,j] k) (dy g)) (CF a zs.part #[b,c,d,q] v (λu v=>lX u λu w=>lS u c λx=>lS d u λy=>ae .num .quo l (iv 8) λl=>lL x y λz=>Br z (oG x l λx=>CF a zs.Yo #[b,c,u,m] v (λ_ z=>lA u i1 λA=>aC h i [A,d,m,x,w] z [c,d,e,f,j] k) (dy g)) (oG y l λl=>lA u i1 λx=>CF a zs.Yo #[b,x,d,m] v (λ_ v=>aC h i [c,u,m,l,w] v [c,d,e,f,j] k) (dy g))) (dy g))) λh=>DR t λi=>lG c i0 λl=>Br l (lS c i1 λl=>lI 1 b l i λl=>lI 1 b q i λi=>∀m:Hp,
CF (a.add m) zs.less #[l,i] t (λi l=>Un .not i λi=>aD vT i vF λi=>JE h [i] l) fK) (JE h [vF] t)) λh=>lU f (λi=>(lV s j i)) λi=>lU (Value.bool i) (λi=>lE r i1 λj=>(lV s j i)) λi=>Br (Value.bool i) (CF a zs.pins #[b,c,d] s (λi j=>Br i (rt g (.tuple #[]) j) (JE h [] j)) (dy g)) (JE h [] s)) λh=>lE p (iv 2) λi=>Br i (CF a zs.rev #[b,c,d] o (λ_ i=>lS d i1 λj=>lS n c λl=>lS j l λj=>JE h [j,i1] i) (dy g)) (JE h [n,p] o)) (dy g)) λh=>Un .not f λf=>Br f (CF a zs.brk #[b,c,d] k (λ_ a=>lS e i1 λb=>JE h [b] a) (dy g)) (JE h [e] k)))
end
structure Ep(zs:Z2):Prop where
 nan:∀{g:Gh} {a0:zV} {H:Hp} {R:Rt},L9000 g a0 H R->bD zQ g zs.nan #[a0] H R
 less:∀{g:Gh} {a0 a1:zV} {H:Hp} {R:Rt},L9001 zs g a0 a1 H R->bD zQ g zs.less #[a0,a1] H R
 Dq:∀{g:Gh} {a0 a1 a2:zV} {H:Hp} {R:Rt},L9002 zs g a0 a1 a2 H R->bD zQ g zs.Dq #[a0,a1,a2] H R
 MH:∀{g:Gh} {a0 a1 a2 a3:zV} {H:Hp} {R:Rt},L9003 zs g a0 a1 a2 a3 H R->bD zQ g zs.MH #[a0,a1,a2,a3] H R
 heap:∀{g:Gh} {a0 a1 a2:zV} {H:Hp} {R:Rt},L9004 zs g a0 a1 a2 H R->bD zQ g zs.heap #[a0,a1,a2] H R
 rev:∀{g:Gh} {a0 a1 a2:zV} {H:Hp} {R:Rt},L9005 g a0 a1 a2 H R->bD zQ g zs.rev #[a0,a1,a2] H R
 pins:∀{g:Gh} {a0 a1 a2:zV} {H:Hp} {R:Rt},L9006 zs g a0 a1 a2 H R->bD zQ g zs.pins #[a0,a1,a2] H R
 vB:∀{g:Gh} {a0 a1 a2 a3:zV} {H:Hp} {R:Rt},L9007 zs g a0 a1 a2 a3 H R->bD zQ g zs.vB #[a0,a1,a2,a3] H R
 part:∀{g:Gh} {a0 a1 a2 a3:zV} {H:Hp} {R:Rt},L9008 zs g a0 a1 a2 a3 H R->bD zQ g zs.part #[a0,a1,a2,a3] H R
 brk:∀{g:Gh} {a0 a1 a2:zV} {H:Hp} {R:Rt},L9009 g a0 a1 a2 H R->bD zQ g zs.brk #[a0,a1,a2] H R
 Fw:∀{g:Gh} {a0 a1 a2 a3:zV} {H:Hp} {R:Rt},L9010 zs g a0 a1 a2 a3 H R->bD zQ g zs.Fw #[a0,a1,a2,a3] H R
 med:∀{g:Gh} {a0 a1 a2 a3 a4:zV} {H:Hp} {R:Rt},L9011 zs g a0 a1 a2 a3 a4 H R->bD zQ g zs.med #[a0,a1,a2,a3,a4] H R
 FC:∀{g:Gh} {a0 a1 a2:zV} {H:Hp} {R:Rt},L9012 zs g a0 a1 a2 H R->bD zQ g zs.FC #[a0,a1,a2] H R
 piv:∀{g:Gh} {a0 a1 a2:zV} {H:Hp} {R:Rt},L9013 zs g a0 a1 a2 H R->bD zQ g zs.piv #[a0,a1,a2] H R
 Yo:∀{g:Gh} {a0 a1 a2 a3:zV} {H:Hp} {R:Rt},L9014 zs g a0 a1 a2 a3 H R->bD zQ g zs.Yo #[a0,a1,a2,a3] H R
def zR:Z2:=⟨419,413,407,416,408,411,412,414,415,409,420,418,417,410,406⟩
theorem aa0:Ep zR:=⟨λh=>cq (hn:=.e) func419 h zK,
 λh=>cq (hn:=(.n .e (.h 1 [4] [] .e .e))) func413 h zK,
 λh=>cq (hn:=(.n .e (.n (.h 0 [6] [0,1,2] (.n .e (.n (.n (.n .e (.n (.h 0 [7] [0,1,2,6] (.n (.h 1 [30] [0,1,2,6,7] (.h 1 [] [] (.h 0 [0] [] (.h 0 [1] [] (.h 0 [2] [] (.h 2 [3] [] (.h 0 [4] [] (.h 0 [5] [] (.h 0 [6] [] (.h 0 [7] [] (.h 0 [8] [] (.h 0 [9] [] (.h 0 [10] [] (.h 0 [11] [] (.h 0 [12] [] (.h 0 [13] [] (.h 0 [14] [] .e .e) .e) .e) .e) .e) .e) .e) .e) .e) .e) .e) (.h 0 [4] [] (.h 0 [5] [] (.h 0 [6] [] (.h 0 [7] [] (.h 0 [8] [] (.h 0 [9] [] (.h 0 [10] [] (.h 0 [11] [] (.h 0 [12] [] (.h 0 [13] [] (.h 3 [14] [] .e .e) .e) .e) .e) .e) .e) .e) .e) .e) .e) .e)) .e) .e) .e) .e) .e) (.n (.n (.h 0 [0,1,2,3,4,5,6,7,8,9,10,11,12,13,14,15,16,17] [] .e .e) .e) .e)) .e) .e)) .e) .e)) .e) .e))) func407 h zK,
 λh=>cq (hn:=(.n .e (.n (.h 0 [8] [0,2,3] (.n (.n .e (.n .e (.h 1 [9] [0,2,3,8] (.h 1 [36] [0,2,3,8,9] (.h 1 [] [] (.h 0 [0] [] (.h 0 [1] [] (.h 0 [2] [] (.h 0 [3] [] (.h 2 [4] [] (.h 0 [5] [] (.h 0 [6] [] (.h 0 [7] [] (.h 0 [8] [] (.h 0 [9] [] (.h 0 [10] [] (.h 0 [11] [] (.h 0 [12] [] (.h 0 [13] [] (.h 0 [14] [] (.h 0 [15] [] (.h 0 [16] [] (.h 0 [17] [] (.h 0 [18] [] (.h 0 [19] [] .e .e) .e) .e) .e) .e) .e) .e) .e) .e) .e) .e) .e) .e) .e) .e) (.h 0 [5] [] (.h 0 [6] [] (.h 0 [7] [] (.h 0 [8] [] (.h 0 [9] [] (.h 0 [10] [] (.h 0 [11] [] (.h 0 [12] [] (.h 0 [13] [] (.h 0 [14] [] (.h 0 [15] [] (.h 0 [16] [] (.h 0 [17] [] (.h 0 [18] [] (.h 3 [19] [] .e .e) .e) .e) .e) .e) .e) .e) .e) .e) .e) .e) .e) .e) .e) .e)) .e) .e) .e) .e) .e) .e) (.n (.n (.h 0 [0,1,2,3,4,5,6,7,8,9,10,11,12,13] [] .e .e) .e) (.n (.h 0 [0,1,2,3,4,5,6,7,8,9,10,11,12,13,14,15,16,17,18,19,20,21,22,23] [] .e .e) .e))))) .e) .e) .e))) func416 h zK,
 λh=>cq (hn:=(.n .e (.n .e (.n .e (.n (.n .e (.n (.h 0 [9] [0,6,7,8] .e .e) .e)) (.n .e (.n (.h 0 [10] [0,6,7] (.n .e (.n (.n (.n (.h 0 [0,1,2,3,4,5,6,7,8,9,10,11,12,13,14,15,16,17,18,19] [] .e .e) .e) .e) .e)) .e) .e))))))) func408 h zK,
 λh=>cq (hn:=(.n .e (.n .e (.n (.h 0 [6,7] [0] (.n .e (.n (.n (.h 0 [0,1,2,3,4,5,6,7,8,9,10,11,12,13,14,15] [] .e .e) .e) .e)) .e) .e)))) func411 h zK,
 λh=>cq (hn:=(.n .e (.n .e (.n (.n .e (.n (.h 0 [7,8] [0,1,2] (.n .e (.h 1 [7] [0,1,2,8] (.n (.n (.n (.h 0 [7] [0,1,2,8] (.n (.h 1 [32] [0,1,2,7,8] (.h 1 [] [] (.h 0 [0] [] (.h 0 [1] [] (.h 0 [2] [] (.h 2 [3] [] (.h 0 [4] [] (.h 0 [5] [] (.h 0 [6] [] (.h 0 [7] [] (.h 0 [8] [] (.h 0 [9] [] (.h 0 [10] [] (.h 0 [11] [] (.h 0 [12] [] (.h 0 [13] [] (.h 0 [14] [] (.h 0 [15] [] .e .e) .e) .e) .e) .e) .e) .e) .e) .e) .e) .e) .e) (.h 0 [4] [] (.h 0 [5] [] (.h 0 [6] [] (.h 0 [7] [] (.h 0 [8] [] (.h 0 [9] [] (.h 0 [10] [] (.h 0 [11] [] (.h 0 [12] [] (.h 0 [13] [] (.h 0 [14] [] (.h 3 [15] [] .e .e) .e) .e) .e) .e) .e) .e) .e) .e) .e) .e) .e)) .e) .e) .e) .e) .e) .e) .e) .e) (.n .e (.n .e (.n (.h 0 [0,1,2,3,4,5,6,7,8,9,10,11,12,13,14,15,16,17] [] .e .e) (.h 1 [] [0,1,2,7,8] (.n .e (.n (.n .e (.n (.h 0 [9] [0,1,2,7,8] (.n .e (.n (.n (.n (.n (.h 0 [0,1,2,3,4,5,6,7,8,9,10] [] .e .e) .e) (.h 0 [0,1,2,3,4,5,6,7,8,9,10,11,12,13,14,15,16,17] [] .e .e)) .e) .e)) .e) .e)) .e)) (.n .e (.n (.n .e (.n (.h 0 [10] [0,1,2,7,8] (.n .e (.n (.n (.n (.n (.h 0 [0,1,2,3,4,5,6,7,8,9,10] [] .e .e) .e) (.h 0 [0,1,2,3,4,5,6,7,8,9,10,11,12,13,14,15,16,17] [] .e .e)) .e) .e)) .e) .e)) .e))))))) .e) .e)) .e) .e)) .e)))) func412 h zK,
 λh=>cq (hn:=(.n .e (.n (.h 0 [0,1,2,3,4,5,6,7,8,9,10,11,12,13,14,15] [] .e .e) (.n .e (.n (.n (.h 0 [9,10] [0,1] (.n (.n (.n (.h 0 [9] [0,1,10] (.n (.h 1 [43] [0,1,9,10] (.h 1 [] [] (.h 0 [0] [] (.h 0 [1] [] (.h 0 [2] [] (.h 2 [3] [] (.h 0 [4] [] (.h 0 [5] [] (.h 0 [6] [] (.h 0 [7] [] (.h 0 [8] [] (.h 0 [9] [] (.h 0 [10] [] (.h 0 [11] [] (.h 0 [12] [] (.h 0 [13] [] (.h 0 [14] [] .e .e) .e) .e) .e) .e) .e) .e) .e) .e) .e) .e) (.h 0 [4] [] (.h 0 [5] [] (.h 0 [6] [] (.h 0 [7] [] (.h 0 [8] [] (.h 0 [9] [] (.h 0 [10] [] (.h 0 [11] [] (.h 0 [12] [] (.h 0 [13] [] (.h 3 [14] [] .e .e) .e) .e) .e) .e) .e) .e) .e) .e) .e) .e)) .e) .e) .e) .e) .e) .e) .e) .e) (.n (.n (.h 0 [10] [0,1,9] (.n (.h 1 [59] [0,1,9,10] (.h 1 [] [] (.h 0 [0] [] (.h 0 [1] [] (.h 0 [2] [] (.h 2 [3] [] (.h 0 [4] [] (.h 0 [5] [] (.h 0 [6] [] (.h 0 [7] [] (.h 0 [8] [] (.h 0 [9] [] (.h 0 [10] [] (.h 0 [11] [] (.h 0 [12] [] (.h 0 [13] [] .e .e) .e) .e) .e) .e) .e) .e) .e) .e) .e) (.h 0 [4] [] (.h 0 [5] [] (.h 0 [6] [] (.h 0 [7] [] (.h 0 [8] [] (.h 0 [9] [] (.h 0 [10] [] (.h 0 [11] [] (.h 0 [12] [] (.h 3 [13] [] .e .e) .e) .e) .e) .e) .e) .e) .e) .e) .e)) .e) .e) .e) .e) .e) .e) .e) .e) (.n .e (.n (.h 0 [0,1,2,3,4,5,6,7,8,9,10,11,12,13,14,15] [] .e .e) .e)))) .e) .e) .e) .e))))) func414 h zK,
 λh=>cq (hn:=(.n .e (.n (.h 0 [0,1,2,3,4,5,6,7,8,9,10,11,12,13,14,15] [] .e .e) (.n .e (.n (.n (.h 0 [10] [0,1,11] (.n (.h 1 [43] [0,1,10,11] (.h 1 [] [] (.h 0 [0] [] (.h 0 [1] [] (.h 0 [2] [] (.h 2 [3] [] (.h 0 [4] [] (.h 0 [5] [] (.h 0 [6] [] (.h 0 [7] [] (.h 0 [8] [] (.h 0 [9] [] (.h 0 [10] [] (.h 0 [11] [] (.h 0 [12] [] (.h 0 [13] [] .e .e) .e) .e) .e) .e) .e) .e) .e) .e) .e) (.h 0 [4] [] (.h 0 [5] [] (.h 0 [6] [] (.h 0 [7] [] (.h 0 [8] [] (.h 0 [9] [] (.h 0 [10] [] (.h 0 [11] [] (.h 0 [12] [] (.h 3 [13] [] .e .e) .e) .e) .e) .e) .e) .e) .e) .e) .e)) .e) .e) .e) .e) .e) .e) .e) .e) (.n (.n (.h 0 [11] [0,1,10] (.n (.h 1 [60] [0,1,10,11] (.h 1 [] [] (.h 0 [0] [] (.h 0 [1] [] (.h 0 [2] [] (.h 2 [3] [] (.h 0 [4] [] (.h 0 [5] [] (.h 0 [6] [] (.h 0 [7] [] (.h 0 [8] [] (.h 0 [9] [] (.h 0 [10] [] (.h 0 [11] [] (.h 0 [12] [] (.h 0 [13] [] (.h 0 [14] [] .e .e) .e) .e) .e) .e) .e) .e) .e) .e) .e) .e) (.h 0 [4] [] (.h 0 [5] [] (.h 0 [6] [] (.h 0 [7] [] (.h 0 [8] [] (.h 0 [9] [] (.h 0 [10] [] (.h 0 [11] [] (.h 0 [12] [] (.h 0 [13] [] (.h 3 [14] [] .e .e) .e) .e) .e) .e) .e) .e) .e) .e) .e) .e)) .e) .e) .e) .e) .e) .e) .e) .e) (.n (.n .e (.n (.n (.h 0 [0,1,2,3,4,5,6,7,8,9,10,11,12,13,14,15] [] .e .e) .e) .e)) (.n (.h 0 [0,1,2,3,4,5,6,7,8,9,10,11,12,13,14,15] [] .e .e) (.n .e (.n .e (.n (.n (.h 0 [10,11] [0,1] (.n (.n (.n (.h 0 [10] [0,1,11] (.n (.h 1 [112] [0,1,10,11] (.h 1 [] [] (.h 0 [0] [] (.h 0 [1] [] (.h 0 [2] [] (.h 2 [3] [] (.h 0 [4] [] (.h 0 [5] [] (.h 0 [6] [] (.h 0 [7] [] (.h 0 [8] [] (.h 0 [9] [] (.h 0 [10] [] (.h 0 [11] [] (.h 0 [12] [] (.h 0 [13] [] .e .e) .e) .e) .e) .e) .e) .e) .e) .e) .e) (.h 0 [4] [] (.h 0 [5] [] (.h 0 [6] [] (.h 0 [7] [] (.h 0 [8] [] (.h 0 [9] [] (.h 0 [10] [] (.h 0 [11] [] (.h 0 [12] [] (.h 3 [13] [] .e .e) .e) .e) .e) .e) .e) .e) .e) .e) .e)) .e) .e) .e) .e) .e) .e) .e) .e) (.n (.n (.h 0 [11] [0,1,10] (.n (.h 1 [129] [0,1,10,11] (.h 1 [] [] (.h 0 [0] [] (.h 0 [1] [] (.h 0 [2] [] (.h 2 [3] [] (.h 0 [4] [] (.h 0 [5] [] (.h 0 [6] [] (.h 0 [7] [] (.h 0 [8] [] (.h 0 [9] [] (.h 0 [10] [] (.h 0 [11] [] (.h 0 [12] [] (.h 0 [13] [] (.h 0 [14] [] .e .e) .e) .e) .e) .e) .e) .e) .e) .e) .e) .e) (.h 0 [4] [] (.h 0 [5] [] (.h 0 [6] [] (.h 0 [7] [] (.h 0 [8] [] (.h 0 [9] [] (.h 0 [10] [] (.h 0 [11] [] (.h 0 [12] [] (.h 0 [13] [] (.h 3 [14] [] .e .e) .e) .e) .e) .e) .e) .e) .e) .e) .e) .e)) .e) .e) .e) .e) .e) .e) .e) .e) (.n .e (.n (.h 0 [0,1,2,3,4,5,6,7,8,9,10,11,12,13,14,15] [] .e .e) .e)))) .e) .e) .e) (.n (.h 0 [0,1,2,3,4,5,6,7,8,9,10,11,12,13,14,15] [] .e .e) .e)))))))))))) func415 h zK,
 λh=>cq (hn:=(.n .e (.n .e (.n (.n .e (.n .e (.n .e (.n (.h 0 [9] [0,1,6,7,8] (.n .e (.n (.n (.n .e (.h 1 [10] [0,1,6,7,8,9] .e (.h 0 [0,1,2,3,4,5,6,7,8,9,10,11,12,13,14,15,16,17,18,19] [] .e .e))) .e) .e)) .e) .e)))) .e)))) func409 h zK,
 λh=>cq (hn:=(.n .e (.n (.n (.h 0 [0,1,2,3,4,5,6,7,8] [] .e .e) .e) .e))) func420 h zK,
 λh=>cq (hn:=.e) func418 h zK,
 λh=>cq (hn:=.e) func417 h zK,
 λh=>cq (hn:=(.n .e (.n .e (.n .e (.n .e (.n .e (.n .e (.h 1 [11] [9] (.n .e (.n (.h 1 [10,11,12] [0,9] .e .e) .e)) .e)))))))) func410 h zK,
 λh=>cq (hn:=(.n .e (.n .e (.n (.h 0 [1,2,3,8,9] [0] (.n (.n .e (.n .e (.n .e (.h 1 [3] [0,1,2,8,9,10] .e (.n .e (.h 1 [11,12] [0,1,2,3,8,9,10] .e (.h 1 [] [0,1,2,3,8,9,10,11] (.n (.h 0 [] [1] .e .e) .e) (.n (.h 1 [87] [0,1,2,3,8,9,10,11] (.h 1 [] [] (.h 0 [0] [] (.h 0 [1] [] (.h 2 [2] [] (.h 0 [3] [] (.h 0 [4] [] (.h 0 [5] [] (.h 0 [6] [] (.h 0 [7] [] (.h 0 [8] [] (.h 0 [9] [] (.h 0 [10] [] (.h 0 [11] [] (.h 0 [12] [] (.h 0 [13] [] (.h 0 [14] [] .e .e) .e) .e) .e) .e) .e) .e) .e) .e) .e) .e) .e) (.h 0 [3] [] (.h 0 [4] [] (.h 0 [5] [] (.h 0 [6] [] (.h 0 [7] [] (.h 0 [8] [] (.h 0 [9] [] (.h 0 [10] [] (.h 0 [11] [] (.h 0 [12] [] (.h 0 [13] [] (.h 3 [14] [] .e .e) .e) .e) .e) .e) .e) .e) .e) .e) .e) .e) .e)) .e) .e) .e) .e) .e)))))))) .e) .e) .e)))) func406 h zK⟩
def zJ:Z2:=⟨308,218,212,303,213,216,217,219,220,214,369,307,306,215,153⟩
theorem aa1:Ep zJ:=⟨λh=>cq (hn:=.e) func308 h zK,
 λh=>cq (hn:=(.n .e (.h 1 [4] [] .e .e))) func218 h zK,
 λh=>cq (hn:=(.n .e (.n (.h 0 [6] [0,1,2] (.n .e (.n (.n (.n .e (.n (.h 0 [7] [0,1,2,6] (.n (.h 1 [30] [0,1,2,6,7] (.h 1 [] [] (.h 0 [0] [] (.h 0 [1] [] (.h 0 [2] [] (.h 2 [3] [] (.h 0 [4] [] (.h 0 [5] [] (.h 0 [6] [] (.h 0 [7] [] (.h 0 [8] [] (.h 0 [9] [] (.h 0 [10] [] (.h 0 [11] [] (.h 0 [12] [] (.h 0 [13] [] (.h 0 [14] [] .e .e) .e) .e) .e) .e) .e) .e) .e) .e) .e) .e) (.h 0 [4] [] (.h 0 [5] [] (.h 0 [6] [] (.h 0 [7] [] (.h 0 [8] [] (.h 0 [9] [] (.h 0 [10] [] (.h 0 [11] [] (.h 0 [12] [] (.h 0 [13] [] (.h 3 [14] [] .e .e) .e) .e) .e) .e) .e) .e) .e) .e) .e) .e)) .e) .e) .e) .e) .e) (.n (.n (.h 0 [0,1,2,3,4,5,6,7,8,9,10,11,12,13,14,15,16,17] [] .e .e) .e) .e)) .e) .e)) .e) .e)) .e) .e))) func212 h zK,
 λh=>cq (hn:=(.n .e (.n (.h 0 [8] [0,2,3] (.n (.n .e (.n .e (.h 1 [9] [0,2,3,8] (.h 1 [36] [0,2,3,8,9] (.h 1 [] [] (.h 0 [0] [] (.h 0 [1] [] (.h 0 [2] [] (.h 0 [3] [] (.h 2 [4] [] (.h 0 [5] [] (.h 0 [6] [] (.h 0 [7] [] (.h 0 [8] [] (.h 0 [9] [] (.h 0 [10] [] (.h 0 [11] [] (.h 0 [12] [] (.h 0 [13] [] (.h 0 [14] [] (.h 0 [15] [] (.h 0 [16] [] (.h 0 [17] [] (.h 0 [18] [] (.h 0 [19] [] .e .e) .e) .e) .e) .e) .e) .e) .e) .e) .e) .e) .e) .e) .e) .e) (.h 0 [5] [] (.h 0 [6] [] (.h 0 [7] [] (.h 0 [8] [] (.h 0 [9] [] (.h 0 [10] [] (.h 0 [11] [] (.h 0 [12] [] (.h 0 [13] [] (.h 0 [14] [] (.h 0 [15] [] (.h 0 [16] [] (.h 0 [17] [] (.h 0 [18] [] (.h 3 [19] [] .e .e) .e) .e) .e) .e) .e) .e) .e) .e) .e) .e) .e) .e) .e) .e)) .e) .e) .e) .e) .e) .e) (.n (.n (.h 0 [0,1,2,3,4,5,6,7,8,9,10,11,12,13] [] .e .e) .e) (.n (.h 0 [0,1,2,3,4,5,6,7,8,9,10,11,12,13,14,15,16,17,18,19,20,21,22,23] [] .e .e) .e))))) .e) .e) .e))) func303 h zK,
 λh=>cq (hn:=(.n .e (.n .e (.n .e (.n (.n .e (.n (.h 0 [9] [0,6,7,8] .e .e) .e)) (.n .e (.n (.h 0 [10] [0,6,7] (.n .e (.n (.n (.n (.h 0 [0,1,2,3,4,5,6,7,8,9,10,11,12,13,14,15,16,17,18,19] [] .e .e) .e) .e) .e)) .e) .e))))))) func213 h zK,
 λh=>cq (hn:=(.n .e (.n .e (.n (.h 0 [6,7] [0] (.n .e (.n (.n (.h 0 [0,1,2,3,4,5,6,7,8,9,10,11,12,13,14,15] [] .e .e) .e) .e)) .e) .e)))) func216 h zK,
 λh=>cq (hn:=(.n .e (.n .e (.n (.n .e (.n (.h 0 [7,8] [0,1,2] (.n .e (.h 1 [7] [0,1,2,8] (.n (.n (.n (.h 0 [7] [0,1,2,8] (.n (.h 1 [32] [0,1,2,7,8] (.h 1 [] [] (.h 0 [0] [] (.h 0 [1] [] (.h 0 [2] [] (.h 2 [3] [] (.h 0 [4] [] (.h 0 [5] [] (.h 0 [6] [] (.h 0 [7] [] (.h 0 [8] [] (.h 0 [9] [] (.h 0 [10] [] (.h 0 [11] [] (.h 0 [12] [] (.h 0 [13] [] (.h 0 [14] [] (.h 0 [15] [] .e .e) .e) .e) .e) .e) .e) .e) .e) .e) .e) .e) .e) (.h 0 [4] [] (.h 0 [5] [] (.h 0 [6] [] (.h 0 [7] [] (.h 0 [8] [] (.h 0 [9] [] (.h 0 [10] [] (.h 0 [11] [] (.h 0 [12] [] (.h 0 [13] [] (.h 0 [14] [] (.h 3 [15] [] .e .e) .e) .e) .e) .e) .e) .e) .e) .e) .e) .e) .e)) .e) .e) .e) .e) .e) .e) .e) .e) (.n .e (.n .e (.n (.h 0 [0,1,2,3,4,5,6,7,8,9,10,11,12,13,14,15,16,17] [] .e .e) (.h 1 [] [0,1,2,7,8] (.n .e (.n (.n .e (.n (.h 0 [9] [0,1,2,7,8] (.n .e (.n (.n (.n (.n (.h 0 [0,1,2,3,4,5,6,7,8,9,10] [] .e .e) .e) (.h 0 [0,1,2,3,4,5,6,7,8,9,10,11,12,13,14,15,16,17] [] .e .e)) .e) .e)) .e) .e)) .e)) (.n .e (.n (.n .e (.n (.h 0 [10] [0,1,2,7,8] (.n .e (.n (.n (.n (.n (.h 0 [0,1,2,3,4,5,6,7,8,9,10] [] .e .e) .e) (.h 0 [0,1,2,3,4,5,6,7,8,9,10,11,12,13,14,15,16,17] [] .e .e)) .e) .e)) .e) .e)) .e))))))) .e) .e)) .e) .e)) .e)))) func217 h zK,
 λh=>cq (hn:=(.n .e (.n (.h 0 [0,1,2,3,4,5,6,7,8,9,10,11,12,13,14,15] [] .e .e) (.n .e (.n (.n (.h 0 [9,10] [0,1] (.n (.n (.n (.h 0 [9] [0,1,10] (.n (.h 1 [43] [0,1,9,10] (.h 1 [] [] (.h 0 [0] [] (.h 0 [1] [] (.h 0 [2] [] (.h 2 [3] [] (.h 0 [4] [] (.h 0 [5] [] (.h 0 [6] [] (.h 0 [7] [] (.h 0 [8] [] (.h 0 [9] [] (.h 0 [10] [] (.h 0 [11] [] (.h 0 [12] [] (.h 0 [13] [] (.h 0 [14] [] .e .e) .e) .e) .e) .e) .e) .e) .e) .e) .e) .e) (.h 0 [4] [] (.h 0 [5] [] (.h 0 [6] [] (.h 0 [7] [] (.h 0 [8] [] (.h 0 [9] [] (.h 0 [10] [] (.h 0 [11] [] (.h 0 [12] [] (.h 0 [13] [] (.h 3 [14] [] .e .e) .e) .e) .e) .e) .e) .e) .e) .e) .e) .e)) .e) .e) .e) .e) .e) .e) .e) .e) (.n (.n (.h 0 [10] [0,1,9] (.n (.h 1 [59] [0,1,9,10] (.h 1 [] [] (.h 0 [0] [] (.h 0 [1] [] (.h 0 [2] [] (.h 2 [3] [] (.h 0 [4] [] (.h 0 [5] [] (.h 0 [6] [] (.h 0 [7] [] (.h 0 [8] [] (.h 0 [9] [] (.h 0 [10] [] (.h 0 [11] [] (.h 0 [12] [] (.h 0 [13] [] .e .e) .e) .e) .e) .e) .e) .e) .e) .e) .e) (.h 0 [4] [] (.h 0 [5] [] (.h 0 [6] [] (.h 0 [7] [] (.h 0 [8] [] (.h 0 [9] [] (.h 0 [10] [] (.h 0 [11] [] (.h 0 [12] [] (.h 3 [13] [] .e .e) .e) .e) .e) .e) .e) .e) .e) .e) .e)) .e) .e) .e) .e) .e) .e) .e) .e) (.n .e (.n (.h 0 [0,1,2,3,4,5,6,7,8,9,10,11,12,13,14,15] [] .e .e) .e)))) .e) .e) .e) .e))))) func219 h zK,
 λh=>cq (hn:=(.n .e (.n (.h 0 [0,1,2,3,4,5,6,7,8,9,10,11,12,13,14,15] [] .e .e) (.n .e (.n (.n (.h 0 [10] [0,1,11] (.n (.h 1 [43] [0,1,10,11] (.h 1 [] [] (.h 0 [0] [] (.h 0 [1] [] (.h 0 [2] [] (.h 2 [3] [] (.h 0 [4] [] (.h 0 [5] [] (.h 0 [6] [] (.h 0 [7] [] (.h 0 [8] [] (.h 0 [9] [] (.h 0 [10] [] (.h 0 [11] [] (.h 0 [12] [] (.h 0 [13] [] .e .e) .e) .e) .e) .e) .e) .e) .e) .e) .e) (.h 0 [4] [] (.h 0 [5] [] (.h 0 [6] [] (.h 0 [7] [] (.h 0 [8] [] (.h 0 [9] [] (.h 0 [10] [] (.h 0 [11] [] (.h 0 [12] [] (.h 3 [13] [] .e .e) .e) .e) .e) .e) .e) .e) .e) .e) .e)) .e) .e) .e) .e) .e) .e) .e) .e) (.n (.n (.h 0 [11] [0,1,10] (.n (.h 1 [60] [0,1,10,11] (.h 1 [] [] (.h 0 [0] [] (.h 0 [1] [] (.h 0 [2] [] (.h 2 [3] [] (.h 0 [4] [] (.h 0 [5] [] (.h 0 [6] [] (.h 0 [7] [] (.h 0 [8] [] (.h 0 [9] [] (.h 0 [10] [] (.h 0 [11] [] (.h 0 [12] [] (.h 0 [13] [] (.h 0 [14] [] .e .e) .e) .e) .e) .e) .e) .e) .e) .e) .e) .e) (.h 0 [4] [] (.h 0 [5] [] (.h 0 [6] [] (.h 0 [7] [] (.h 0 [8] [] (.h 0 [9] [] (.h 0 [10] [] (.h 0 [11] [] (.h 0 [12] [] (.h 0 [13] [] (.h 3 [14] [] .e .e) .e) .e) .e) .e) .e) .e) .e) .e) .e) .e)) .e) .e) .e) .e) .e) .e) .e) .e) (.n (.n .e (.n (.n (.h 0 [0,1,2,3,4,5,6,7,8,9,10,11,12,13,14,15] [] .e .e) .e) .e)) (.n (.h 0 [0,1,2,3,4,5,6,7,8,9,10,11,12,13,14,15] [] .e .e) (.n .e (.n .e (.n (.n (.h 0 [10,11] [0,1] (.n (.n (.n (.h 0 [10] [0,1,11] (.n (.h 1 [112] [0,1,10,11] (.h 1 [] [] (.h 0 [0] [] (.h 0 [1] [] (.h 0 [2] [] (.h 2 [3] [] (.h 0 [4] [] (.h 0 [5] [] (.h 0 [6] [] (.h 0 [7] [] (.h 0 [8] [] (.h 0 [9] [] (.h 0 [10] [] (.h 0 [11] [] (.h 0 [12] [] (.h 0 [13] [] .e .e) .e) .e) .e) .e) .e) .e) .e) .e) .e) (.h 0 [4] [] (.h 0 [5] [] (.h 0 [6] [] (.h 0 [7] [] (.h 0 [8] [] (.h 0 [9] [] (.h 0 [10] [] (.h 0 [11] [] (.h 0 [12] [] (.h 3 [13] [] .e .e) .e) .e) .e) .e) .e) .e) .e) .e) .e)) .e) .e) .e) .e) .e) .e) .e) .e) (.n (.n (.h 0 [11] [0,1,10] (.n (.h 1 [129] [0,1,10,11] (.h 1 [] [] (.h 0 [0] [] (.h 0 [1] [] (.h 0 [2] [] (.h 2 [3] [] (.h 0 [4] [] (.h 0 [5] [] (.h 0 [6] [] (.h 0 [7] [] (.h 0 [8] [] (.h 0 [9] [] (.h 0 [10] [] (.h 0 [11] [] (.h 0 [12] [] (.h 0 [13] [] (.h 0 [14] [] .e .e) .e) .e) .e) .e) .e) .e) .e) .e) .e) .e) (.h 0 [4] [] (.h 0 [5] [] (.h 0 [6] [] (.h 0 [7] [] (.h 0 [8] [] (.h 0 [9] [] (.h 0 [10] [] (.h 0 [11] [] (.h 0 [12] [] (.h 0 [13] [] (.h 3 [14] [] .e .e) .e) .e) .e) .e) .e) .e) .e) .e) .e) .e)) .e) .e) .e) .e) .e) .e) .e) .e) (.n .e (.n (.h 0 [0,1,2,3,4,5,6,7,8,9,10,11,12,13,14,15] [] .e .e) .e)))) .e) .e) .e) (.n (.h 0 [0,1,2,3,4,5,6,7,8,9,10,11,12,13,14,15] [] .e .e) .e)))))))))))) func220 h zK,
 λh=>cq (hn:=(.n .e (.n .e (.n (.n .e (.n .e (.n .e (.n (.h 0 [9] [0,1,6,7,8] (.n .e (.n (.n (.n .e (.h 1 [10] [0,1,6,7,8,9] .e (.h 0 [0,1,2,3,4,5,6,7,8,9,10,11,12,13,14,15,16,17,18,19] [] .e .e))) .e) .e)) .e) .e)))) .e)))) func214 h zK,
 λh=>cq (hn:=(.n .e (.n (.n (.h 0 [0,1,2,3,4,5,6,7,8] [] .e .e) .e) .e))) func369 h zK,
 λh=>cq (hn:=.e) func307 h zK,
 λh=>cq (hn:=.e) func306 h zK,
 λh=>cq (hn:=(.n .e (.n .e (.n .e (.n .e (.n .e (.n .e (.h 1 [11] [9] (.n .e (.n (.h 1 [10,11,12] [0,9] .e .e) .e)) .e)))))))) func215 h zK,
 λh=>cq (hn:=(.n .e (.n .e (.n (.h 0 [1,2,3,8,9] [0] (.n (.n .e (.n .e (.n .e (.h 1 [3] [0,1,2,8,9,10] .e (.n .e (.h 1 [11,12] [0,1,2,3,8,9,10] .e (.h 1 [] [0,1,2,3,8,9,10,11] (.n (.h 0 [] [1] .e .e) .e) (.n (.h 1 [87] [0,1,2,3,8,9,10,11] (.h 1 [] [] (.h 0 [0] [] (.h 0 [1] [] (.h 2 [2] [] (.h 0 [3] [] (.h 0 [4] [] (.h 0 [5] [] (.h 0 [6] [] (.h 0 [7] [] (.h 0 [8] [] (.h 0 [9] [] (.h 0 [10] [] (.h 0 [11] [] (.h 0 [12] [] (.h 0 [13] [] (.h 0 [14] [] .e .e) .e) .e) .e) .e) .e) .e) .e) .e) .e) .e) .e) (.h 0 [3] [] (.h 0 [4] [] (.h 0 [5] [] (.h 0 [6] [] (.h 0 [7] [] (.h 0 [8] [] (.h 0 [9] [] (.h 0 [10] [] (.h 0 [11] [] (.h 0 [12] [] (.h 0 [13] [] (.h 3 [14] [] .e .e) .e) .e) .e) .e) .e) .e) .e) .e) .e) .e) .e)) .e) .e) .e) .e) .e)))))))) .e) .e) .e)))) func153 h zK⟩
end
section
def SXZ(T:TypeId)(kd:IntKind)(v:zV)(d:Array Int):zV->Hp->Prop:=λr C'=>r=.tuple #[]/\Da T kd v d C'
section
variable {v:zV} {d:Array Int} {C:Hp} {T:TypeId} {kd:IntKind} {zs:Z2} (ok:Ep zs)
include ok in
theorem U6(x:Int)(B:Hp):Rd zQ zs.nan #[.int kd x] B (· =.bool false):=by
 refine aF λg=>ok.nan ?_;exact ae.cD (aZ.mk (.refl _) zI)
include ok in
theorem dH(x y:Int)(B:Hp):Rd zQ zs.less #[.int kd x,.int kd y] B (· =.bool (cy x y)):=by
 refine aF λg=>ok.less ?_;intro J1 hJ1;exact aa.eq (U6 ok x B) (Split.AQ rfl (aD.mk (ae.lss (aD.mk (JE.mk (hJ1 _ _ λgs=>aZ.mk (.refl _) rfl))))))
include ok in
theorem y9(h:Da T kd v d C){a b:Nat}(hab:a<=b)(hb:b<=d.size)(cJ:d.size<1152921504606846976):Fc zQ zs.Dq #[v,iv (a:Int),iv (b:Int)] C (SXZ T kd v (Sort.insertionSort cy d a b)):=by
 refine aF λg=>ok.Dq ?_;refine ae.inc (⟨λvs H=>∃(i:Nat) (e:Array Int),vs=[iv (i:Int)]/\a<i/\e.size=d.size/\Sort.insOuter cy a b i e=Sort.insertionSort cy d a b/\Da T kd v e H,λvs _=>d.size-bL vs 0,JE.mk ⟨a+1,d,rfl,by omega,rfl,rfl,h⟩,?_⟩);rintro w H ⟨i,e,hw,hi,hs,he,hd⟩ gs;simp only[xaw,xa2]at hw;subst hw;rw[Sort.insOuter]at he;refine ae.fk (Br.dec (λhlt=>?_) (λhge=>?_));rotate_left
 ·rw[xac hge]at he;exact aM.here ⟨rfl,by rw[<-he];exact hd⟩
 rw[xad hlt]at he;refine⟨λvs H=>∃(j:Nat) (e:Array Int),vs=[iv (j:Int)]/\a<=j/\j<=i/\e.size=d.size/\Sort.insOuter cy a b (i+1) (Sort.insInner cy a j e)=Sort.insertionSort cy d a b/\Da T kd v e H,λvs _=>bL vs 0,JE.mk ⟨i,e,rfl,by omega,xag _,hs,he,hd⟩,?_⟩;clear hd he hs e;rintro w H ⟨j,e,hw,Zy,Zj,hs,he,hd⟩ gs;simp only[xaw,xa2]at hw;subst hw;intro J hJ;have no:Sort.insInner cy a j e=e->J [.bool false] H:=λhi=>hJ _ _ λgs=>Br.no (ae.inc (aC.mk ⟨i+1,e,rfl,by omega,hs,by rw[hi]at he;exact he,hd⟩ (by simp[bL];omega)));have yes:a<j->Sort.insInner cy a j e=Sort.insInner cy a (j-1) (Sort.swp e j (j-1))->J [.bool true] H:=λZy hi=>hJ _ _ λgs=>Br.yes (DR.self (ae.bZ (b:=1) (ae.bZ (b:=1)
  (hd.swap .here zO zO λC' dP=>ae.bZ (b:=1) (aC.mk ⟨j-1,_,rfl,by omega,by omega,iZ hs,by rw[<-hi];exact he,dP⟩ (by simp[bL];omega))))))
 refine DR.self (ae.nh (Br.dec (λhgt=>?_) λhn=>JE.mk (no (Rk hn))));refine hd.ld (λ_ h=>h) zO (ae.bZ (b:=1) (hd.ld (λ_ h=>h) zO λF=>?_));refine aa.eq (dH ok _ _ _) (aD.mk ?_);have hst:=Rl (e:=e) hgt;cases hl:cy e[j]! e[j-1]!
 ·rw[hl]at hst;exact JE.mk (no hst)
 rw[hl]at hst;exact JE.mk (yes hgt hst)
include ok in
theorem UL(h:Da T kd v d C){a b:Nat}(hab:a<b)(hb:b<=d.size)(cJ:d.size<1152921504606846976):Fc zQ zs.rev #[v,iv (a:Int),iv (b:Int)] C (SXZ T kd v (Sort.reverseRange d a b)):=by
 refine aF λg=>ok.rev ?_;refine ae.bZ (b:=1) (⟨λvs H=>∃(i j:Nat) (e:Array Int),vs=[iv (i:Int),iv (j:Int)]/\j<d.size/\e.size=d.size/\Sort.reverseLoop i j e=Sort.reverseRange d a b/\Da T kd v e H,λvs _=>bL vs 1-bL vs 0,JE.mk ⟨a,b-1,d,rfl,by omega,rfl,rfl,h⟩,?_⟩);rintro w w' H ⟨i,j,e,hw,hj,hs,he,hd⟩ gs;simp only[xaw,xa2]at hw;obtain⟨rfl,rfl⟩:=hw;rw[Sort.reverseLoop]at he;refine ae.fk (Br.dec (λhlt=>?_) (λhge=>?_));rotate_left
 ·rw[xac hge]at he;exact aM.here ⟨rfl,by rw[<-he];exact hd⟩
 rw[xad hlt]at he;refine DR.self (hd.swap .here zO zO λC' dP=>?_);exact ae.inc (ae.bZ (b:=1) (aC.mk ⟨i+1,j-1,_,rfl,by omega,iZ hs,he,dP⟩ (by simp[bL];omega)))
include ok in
theorem QG(h:Da T kd v d C){a b:Nat}(hab:a<b)(hb:b<=d.size)(cJ:d.size<1152921504606846976):Fc zQ zs.pins #[v,iv (a:Int),iv (b:Int)] C (λr C'=>r=.bool (Sort.partialInsertionSort cy d a b).2/\Da T kd v (Sort.partialInsertionSort cy d a b).1 C'):=by
 refine aF λg=>ok.pins ?_;refine ae.inc ?_;have fin:∀{e:Array Int} {t:Bool} {H:Hp},(e,t)=Sort.partialInsertionSort cy d a b->Da T kd v e H->aM (λr C'=>r=.bool (Sort.partialInsertionSort cy d a b).2/\Da T kd v (Sort.partialInsertionSort cy d a b).1 C') (.returned (.bool t)) H:=λhe hd=>by
  rw[<-he];exact aM.here ⟨rfl,hd⟩
 refine⟨λvs H=>∃(i k:Nat) (e:Array Int),vs=[iv (i:Int),iv (k:Int)]/\k<=5/\a<i/\i<=b/\e.size=d.size/\Sort.partialIns cy a b (5-k) i e=Sort.partialInsertionSort cy d a b/\Da T kd v e H,λvs _=>5-bL vs 1,JE.mk ⟨a+1,0,d,rfl,by omega,by omega,by omega,rfl,rfl,h⟩,?_⟩;rintro w w' H ⟨i0,k,e,hw,hk5,T1,ze,hs,he,hd⟩ gs;simp only[xaw,xa2]at hw;obtain⟨rfl,rfl⟩:=hw;refine ae.fk (b:=5) (Br.dec (λhk=>?_) (λhk=>?_));rotate_left
 ·obtain rfl:k=5:=by omega
  exact fin he hd
 rw[show 5-k=(5-(k+1))+1 by omega,Sort.partialIns_succ]at he;intro J9 So;refine⟨λvs H=>∃i:Nat,vs=[iv (i:Int)]/\a<i/\i<=b/\Sort.scanSorted cy e b i=Sort.scanSorted cy e b i0/\Da T kd v e H,λvs _=>b-bL vs 0,JE.mk ⟨i0,rfl,T1,ze,rfl,hd⟩,?_⟩;clear hd T1 ze;rintro w H ⟨i,hw,T1,ze,hsc,hd⟩ gs;simp only[xaw,xa2]at hw;subst hw;rw[<-hsc]at he;rw[Sort.scanSorted]at hsc;intro J19 ac7;have yes:i<b->(!cy e[i]! e[i-1]!)=true->J19 [.bool true] H:=λhlt hl=>ac7 _ _ λgs=>Br.yes (ae.inc (aC.mk ⟨i+1,rfl,by omega,by omega,by rw[<-hsc,xal hlt,hl];rfl,hd⟩ (by simp[bL];omega)));have no:Sort.scanSorted cy e b i=i->J19 [.bool false] H:=λhi=>by
  rw[hi]at he;refine ac7 _ _ λgs=>Br.no ?_;refine ae.dQ (Br.dec (λhz=>?_) (λhne=>?_))
  ·rw[xad hz]at he;exact fin he hd
  rw[xac hne]at he;refine ae.bZ (ae.fk (b:=50) (Br.dec (λhz=>?_) (λhz=>?_)))
  ·rw[xad hz]at he;exact fin he hd
  rw[xac hz]at he;refine DR.self (ae.bZ (b:=1) (ae.bZ (b:=1) (hd.swap .here zO zO λC1 Po=>?_)));have uA:(Sort.swp e i (i-1)).size=d.size:=iZ hs;generalize Sort.swp e i (i-1)=e1 at Po uA he;intro J38 agT;have next:∀(f:Array Int) H',f.size=d.size->f=Sort.fixUp cy b i (Sort.fixDown cy a i e1)->Da T kd v f H'->J9 [iv (i:Int)] H':=λf H' h1 h2 dP=>So _ _ λgs=>ae.inc (aC.mk ⟨i,k+1,f,rfl,by omega,T1,ze,h1,by rw[h2];exact he,dP⟩ (by simp[bL];omega))
  have tail:∀(f:Array Int) H',f.size=d.size->f=Sort.fixDown cy a i e1->Da T kd v f H'->J38 [] H':=λf H' h1 h2 dP=>by
   refine agT _ λgs=>?_;rw[<-h2]at next
   unfold Sort.fixUp at next
   refine ae.bZ (ae.qM (b:=2) (Br.dec (λh2=>?_) (λh2=>JE.mk (next f _ h1 (by rw[xac h2]) dP))));rw[xad h2]at next
   refine ae.inc (⟨λvs H=>∃(j:Nat) (q:Array Int),vs=[iv (j:Int)]/\0<j/\q.size=d.size/\Sort.shiftUp cy b j q=Sort.shiftUp cy b (i+1) f/\Da T kd v q H,λvs _=>b-bL vs 0,JE.mk ⟨i+1,f,rfl,by omega,h1,rfl,dP⟩,?_⟩);rintro w H ⟨j,q,hw,Zk,YS,hq,Gd⟩ gs;simp only[xaw,xa2]at hw;subst hw;rw[Sort.shiftUp]at hq;refine ae.fk (Br.dec (λhlt=>?_) (λhge=>?_));rotate_left
   ·rw[xac hge]at hq;exact JE.mk (next q _ YS hq Gd)
   rw[xad hlt]at hq;refine DR.self (Gd.ld (λ_ h=>h) zO (ae.bZ (b:=1) (Gd.ld (λ_ h=>h) zO (aa.eq (dH ok _ _ _) (Un.not ?_)))));cases hl:cy q[j]! q[j-1]!
   ·rw[hl]at hq;exact Br.yes (JE.mk (next q _ YS hq Gd))
   rw[hl]at hq;refine Br.no (DR.self (ae.bZ (b:=1) (ae.bZ (b:=1) (Gd.swap .here zO zO λC2 x8=>?_))));exact ae.inc (aC.mk ⟨j+1,_,rfl,by omega,iZ YS,hq,x8⟩ (by simp[bL];omega))
  unfold Sort.fixDown at tail;refine ae.bZ (ae.qM (b:=2) (Br.dec (λh2=>?_) (λh2=>JE.mk (tail e1 _ uA (by rw[xac h2]) Po))));rw[xad h2]at tail;refine ae.bZ (b:=1) (⟨λvs H=>∃(j:Nat) (q:Array Int),vs=[iv (j:Int)]/\j<d.size/\q.size=d.size/\Sort.shiftDown cy j q=Sort.shiftDown cy (i-1) e1/\Da T kd v q H,λvs _=>bL vs 0,JE.mk ⟨i-1,e1,rfl,by omega,uA,rfl,Po⟩,?_⟩);rintro w H ⟨j,q,hw,Zk,YS,hq,Gd⟩ gs;simp only[xaw,xa2]at hw;subst hw;refine ae.qM (b:=1) (Br.dec (λhlt=>?_) (λhge=>JE.mk (tail q _ YS (by rw[<-hq,NY hge]) Gd)));rw[sY hlt]at hq;refine DR.self (Gd.ld (λ_ h=>h) zO (ae.bZ (b:=1) (Gd.ld (λ_ h=>h) zO (aa.eq (dH ok _ _ _) (Un.not ?_)))));cases hl:cy q[j]! q[j-1]!
  ·rw[hl]at hq;exact Br.yes (JE.mk (tail q _ YS hq Gd))
  rw[hl]at hq;refine Br.no (DR.self (ae.bZ (b:=1) (ae.bZ (b:=1) (Gd.swap .here zO zO λC2 x8=>?_))));exact ae.bZ (b:=1) (aC.mk ⟨j-1,_,rfl,by omega,iZ YS,hq,x8⟩ (by simp[bL];omega))
 refine DR.self (ae.fk (Br.dec (λhlt=>?_) λhge=>JE.mk (no (by rw[Sort.scanSorted,xac zP]))));refine hd.ld (λ_ h=>h) zO (ae.bZ (b:=1) (hd.ld (λ_ h=>h) zO λF=>?_));refine aa.eq (dH ok _ _ _) (Un.not (aD.mk ?_));cases hl:cy e[i]! e[i-1]!
 ·exact JE.mk (yes hlt (by rw[hl];rfl))
 exact JE.mk (no (by rw[Sort.scanSorted,hl,xac zI]))
include ok in
theorem Fu(h:Da T kd v d C){a b p:Nat}(hp:a<=p/\p<b)(hb:b<=d.size)(cJ:d.size<1152921504606846976):Fc zQ zs.vB #[v,iv (a:Int),iv (b:Int),iv (p:Int)] C
  (λr C'=>r=iv ((Sort.partitionEqual cy d a b p).1:Nat)/\Da T kd v (Sort.partitionEqual cy d a b p).2 C'):=by
 refine aF λg=>ok.vB ?_;refine DR.self (h.swap .here zO zO λC1 hd=>?_);refine ae.inc (ae.bZ (b:=1) (⟨λvs H=>∃(i j:Nat) (e:Array Int),vs=[iv (i:Int),iv (j:Int)]/\a<i/\i<=b/\a<=j/\j<b/\e.size=d.size/\Sort.partEqLoop cy a i j e=Sort.partitionEqual cy d a b p/\Da T kd v e H,λvs _=>b-bL vs 0,JE.mk ⟨a+1,b-1,_,rfl,by omega,by omega,by omega,by omega,iZ rfl,rfl,hd⟩,?_⟩));clear hd;rintro w w' H0 ⟨i0,j0,e,hw,T1,ze,Zy,hjb,hs,he,hd⟩ gs;simp only[xaw,xa2]at hw;obtain⟨rfl,rfl⟩:=hw;rw[Sort.partEqLoop_eq]at he;refine⟨λvs H=>∃i:Nat,vs=[iv (i:Int)]/\i0<=i/\i<=b/\Sort.scanUp (λx=> !cy e[a]! x) e j0 i=Sort.scanUp (λx=> !cy e[a]! x) e j0 i0/\Da T kd v e H,λvs _=>b-bL vs 0,JE.mk ⟨i0,rfl,xag _,ze,rfl,hd⟩,?_⟩;clear hd ze;rintro w H ⟨i,hw,F9,ze,hsc,hd⟩ gs;simp only[xaw,xa2]at hw;subst hw;rw[<-hsc]at he;rw[Sort.scanUp]at hsc;intro J23 ac6;have yes:i<=j0->(!cy e[a]! e[i]!)=true->J23 [.bool true] H:=λhle hl=>ac6 _ _ λgs=>Br.yes (ae.inc (aC.mk ⟨i+1,rfl,by omega,by omega,by rw[<-hsc,xal hle,hl];rfl,hd⟩ (by simp[bL];omega)));have no:Sort.scanUp (λx=> !cy e[a]! x) e j0 i=i->J23 [.bool false] H:=λhi=>by
  rw[hi]at he;refine ac6 _ _ λgs=>Br.no ?_;refine⟨λvs H=>∃j:Nat,vs=[iv (j:Int)]/\a<=j/\j<b/\Sort.scanDown (λx=>cy e[a]! x) e i j=Sort.scanDown (λx=>cy e[a]! x) e i j0/\Da T kd v e H,λvs _=>bL vs 0,JE.mk ⟨j0,rfl,Zy,hjb,rfl,hd⟩,?_⟩;rintro w H' ⟨j,hw,agz,afY,VI,dP⟩ gs;simp only[xaw,xa2]at hw;subst hw;rw[<-VI]at he;intro J33 Wb;have Mc:i<=j->cy e[a]! e[j]! =true->J33 [.bool true] H':=λhle hl=>Wb _ _ λgs=>Br.yes (ae.bZ (b:=1) (aC.mk ⟨j-1,rfl,by omega,by omega,by rw[<-VI,fB (j:=j) zO,xal hle,hl];rfl,dP⟩ (by simp[bL];omega)));have Xb:Sort.scanDown (λx=>cy e[a]! x) e i j=j->J33 [.bool false] H':=λhj=>by
   rw[hj]at he;refine Wb _ _ λgs=>Br.no ?_;refine ae.nh (Br.dec (λhgt=>?_) (λhle=>?_))
   ·rw[xad hgt]at he;exact aM.here (by rw[<-he];exact⟨rfl,dP⟩)
   rw[xac hle]at he;refine DR.self (dP.swap .here zO zO λC2 x8=>?_);exact ae.inc (ae.bZ (b:=1) (aC.mk ⟨i+1,j-1,_,rfl,by omega,by omega,by omega,by omega,iZ hs,he,x8⟩ (by simp[bL];omega)))
  refine DR.self (ae.xX (Br.dec (λhle=>?_) λhgt=>JE.mk (Xb ?_)));rotate_left
  ·by_cases h0:j=0
   ·subst h0;rfl
   rw[fB zO,xac zP]
  refine dP.ld (λ_ h=>h) zO ?_;refine dP.ld (λ_ h=>h) zO ?_;intro F;refine aa.eq (dH ok _ _ _) (aD.mk ?_);cases hl:cy e[a]! e[j]!
  ·exact JE.mk (Xb (by rw[fB zO,hl,xac zI]))
  exact JE.mk (Mc hle hl)
 refine DR.self (ae.xX (Br.dec (λhle=>?_) λhgt=>JE.mk (no (by rw[Sort.scanUp,xac zP]))));refine hd.ld (λ_ h=>h) zO (hd.ld (λ_ h=>h) zO λF=>?_);refine aa.eq (dH ok _ _ _) (Un.not (aD.mk ?_));cases hl:cy e[a]! e[i]!
 ·exact JE.mk (yes hle (by rw[hl];rfl))
 exact JE.mk (no (by rw[Sort.scanUp,hl,xac zI]))
end
section
variable {v:zV} {d:Array Int} {C:Hp} {T:TypeId} {kd:IntKind} {zs:Z2} (ok:Ep zs)
include ok in
theorem QI(h:Da T kd v d C){a b p:Nat}(hp:a<=p/\p<b)(hb:b<=d.size)(cJ:d.size<1152921504606846976):Fc zQ zs.part #[v,iv (a:Int),iv (b:Int),iv (p:Int)] C
  (λr C'=>r=.tuple #[iv ((Sort.partition cy d a b p).1:Nat),.bool (Sort.partition cy d a b p).2.1]/\Da T kd v (Sort.partition cy d a b p).2.2 C'):=by
 obtain⟨R,hR⟩:∃R,R=Sort.partition cy d a b p:=⟨_,rfl⟩;rw[<-hR];refine aF λg=>ok.part ?_;refine DR.self (h.swap .here zO zO λC1 hd=>?_);have hs:(Sort.swp d a p).size=d.size:=iZ rfl;have fin:∀{m:Nat} {t:Bool} {e:Array Int} {H:Hp},(m,t,e)=R->Da T kd v e H->aM (λr C'=>r=.tuple #[iv (R.1:Nat),.bool R.2.1]/\Da T kd v R.2.2 C') (.returned (.tuple #[iv (m:Int),.bool t])) H:=λhe hd=>by
  rw[<-he];exact aM.here ⟨rfl,hd⟩
 unfold Sort.partition at hR;simp only at hR;generalize Sort.swp d a p=e at hd hs hR;refine ae.inc (ae.bZ (b:=1) (⟨λvs H=>∃i:Nat,vs=[iv (i:Int)]/\a<i/\i<=b/\Sort.scanUp (λx=>cy x e[a]!) e (b-1) i=Sort.scanUp (λx=>cy x e[a]!) e (b-1) (a+1)/\Da T kd v e H,λvs _=>b-bL vs 0,JE.mk ⟨a+1,rfl,by omega,by omega,rfl,hd⟩,?_⟩));clear hd;rintro w H ⟨i,hw,T1,ze,hsc,hd⟩ gs;simp only[xaw,xa2]at hw;subst hw;rw[<-hsc]at hR;rw[Sort.scanUp]at hsc;intro J17 Gl;have yes:i<b->cy e[i]! e[a]! =true->J17 [.bool true] H:=λhle hl=>Gl _ _ λgs=>Br.yes (ae.inc (aC.mk ⟨i+1,rfl,by omega,by omega,by rw[<-hsc,xal (show i<=b-1 by omega),hl];rfl,hd⟩ (by simp[bL];omega)));have no:Sort.scanUp (λx=>cy x e[a]!) e (b-1) i=i->J17 [.bool false] H:=λhi=>by
  rw[hi]at hR;refine Gl _ _ λgs=>Br.no ?_;refine⟨λvs H=>∃j:Nat,vs=[iv (j:Int)]/\a<=j/\j<b/\Sort.scanDown (λx=> !cy x e[a]!) e i j=Sort.scanDown (λx=> !cy x e[a]!) e i (b-1)/\Da T kd v e H,λvs _=>bL vs 0,JE.mk ⟨b-1,rfl,by omega,by omega,rfl,hd⟩,?_⟩;clear hd;rintro w H ⟨j,hw,Zy,hjb,VI,hd⟩ gs;simp only[xaw,xa2]at hw;subst hw;rw[<-VI]at hR;intro J27 ZI;have Mc:i<=j->(!cy e[j]! e[a]!)=true->J27 [.bool true] H:=λhle hl=>ZI _ _ λgs=>Br.yes (ae.bZ (b:=1) (aC.mk ⟨j-1,rfl,by omega,by omega,by rw[<-VI,fB (j:=j) zO,xal hle,hl];rfl,hd⟩ (by simp[bL];omega)));have Xb:Sort.scanDown (λx=> !cy x e[a]!) e i j=j->J27 [.bool false] H:=λhj=>by
   rw[hj]at hR;refine ZI _ _ λgs=>Br.no ?_;refine ae.nh (Br.dec (λhgt=>?_) (λhle=>?_))
   ·rw[xad hgt]at hR;refine DR.self (hd.swap .here zO zO λC2 x8=>?_);exact fin hR.symm x8
   rw[xac hle]at hR;refine DR.self (hd.swap .here zO zO λC2 x8=>?_);refine ae.inc (ae.bZ (b:=1) ?_);obtain⟨L,hL⟩:∃L,L=Sort.partLoop cy a (i+1) (j-1) (Sort.swp e i j):=⟨_,rfl⟩;rw[<-hL]at hR;have sM:(Sort.swp e i j).size=d.size:=iZ hs;generalize Sort.swp e i j=e0 at hL x8 sM;refine⟨λvs H=>∃(i j:Nat) (e:Array Int),vs=[iv (i:Int),iv (j:Int)]/\a<i/\i<=b/\a<=j/\j<b/\e.size=d.size/\L=Sort.partLoop cy a i j e/\Da T kd v e H,λvs _=>b-bL vs 0,JE.mk ⟨i+1,j-1,e0,rfl,by omega,by omega,by omega,by omega,sM,hL,x8⟩,?_⟩;clear x8 hd T1 ze Zy hjb hle Mc ZI J27 Gl J17 yes hL sM hs hsc hi VI hj;rintro w w' H0 ⟨i0,j0,e,hw,T1,ze,Zy,hjb,hs,he,hd⟩ gs;simp only[xaw,xa2]at hw;obtain⟨rfl,rfl⟩:=hw;rw[Sort.partLoop_eq]at he;refine⟨λvs H=>∃i:Nat,vs=[iv (i:Int)]/\i0<=i/\i<=b/\Sort.scanUp (λx=>cy x e[a]!) e j0 i=Sort.scanUp (λx=>cy x e[a]!) e j0 i0/\Da T kd v e H,λvs _=>b-bL vs 0,JE.mk ⟨i0,rfl,xag _,ze,rfl,hd⟩,?_⟩;clear hd ze;rintro w H ⟨i,hw,F9,ze,hsc,hd⟩ gs;simp only[xaw,xa2]at hw;subst hw;rw[<-hsc]at he;rw[Sort.scanUp]at hsc;intro J64 ac4;have yes:i<=j0->cy e[i]! e[a]! =true->J64 [.bool true] H:=λhle hl=>ac4 _ _ λgs=>Br.yes (ae.inc (aC.mk ⟨i+1,rfl,by omega,by omega,by rw[<-hsc,xal hle,hl];rfl,hd⟩ (by simp[bL];omega)));have no:Sort.scanUp (λx=>cy x e[a]!) e j0 i=i->J64 [.bool false] H:=λhi=>by
    rw[hi]at he;refine ac4 _ _ λgs=>Br.no ?_;refine⟨λvs H=>∃j:Nat,vs=[iv (j:Int)]/\a<=j/\j<b/\Sort.scanDown (λx=> !cy x e[a]!) e i j=Sort.scanDown (λx=> !cy x e[a]!) e i j0/\Da T kd v e H,λvs _=>bL vs 0,JE.mk ⟨j0,rfl,Zy,hjb,rfl,hd⟩,?_⟩;rintro w H' ⟨j,hw,agz,afY,VI,dP⟩ gs;simp only[xaw,xa2]at hw;subst hw;rw[<-VI]at he;intro J74 ac3;have Mc:i<=j->(!cy e[j]! e[a]!)=true->J74 [.bool true] H':=λhle hl=>ac3 _ _ λgs=>Br.yes (ae.bZ (b:=1) (aC.mk ⟨j-1,rfl,by omega,by omega,by rw[<-VI,fB (j:=j) zO,xal hle,hl];rfl,dP⟩ (by simp[bL];omega)));have Xb:Sort.scanDown (λx=> !cy x e[a]!) e i j=j->J74 [.bool false] H':=λhj=>by
     rw[hj]at he;refine ac3 _ _ λgs=>Br.no ?_;refine ae.nh (Br.dec (λhgt=>?_) (λhle=>?_))
     ·rw[xad hgt]at he;rw[he]at hR;refine DR.self (dP.swap .here zO zO λC2 x8=>?_);exact fin hR.symm x8
     rw[xac hle]at he;refine DR.self (dP.swap .here zO zO λC2 x8=>?_);exact ae.inc (ae.bZ (b:=1) (aC.mk ⟨i+1,j-1,_,rfl,by omega,by omega,by omega,by omega,iZ hs,he,x8⟩ (by simp[bL];omega)))
    refine DR.self (ae.xX (Br.dec (λhle=>?_) λhgt=>JE.mk (Xb ?_)));rotate_left
    ·by_cases h0:j=0
     ·subst h0;rfl
     rw[fB zO,xac zP]
    refine dP.ld (λ_ h=>h) zO ?_;refine dP.ld (λ_ h=>h) zO ?_;intro F;refine aa.eq (dH ok _ _ _) (Un.not (aD.mk ?_));cases hl:cy e[j]! e[a]!
    ·exact JE.mk (Mc hle (by rw[hl];rfl))
    exact JE.mk (Xb (by rw[fB zO,hl,xac zI]))
   refine DR.self (ae.xX (Br.dec (λhle=>?_) λhgt=>JE.mk (no (by rw[Sort.scanUp,xac zP]))));refine hd.ld (λ_ h=>h) zO (hd.ld (λ_ h=>h) zO λF=>?_);refine aa.eq (dH ok _ _ _) (aD.mk ?_);cases hl:cy e[i]! e[a]!
   ·exact JE.mk (no (by rw[Sort.scanUp,hl,xac zI]))
   exact JE.mk (yes hle hl)
  refine DR.self (ae.xX (Br.dec (λhle=>?_) λhgt=>JE.mk (Xb ?_)));rotate_left
  ·by_cases h0:j=0
   ·subst h0;rfl
   rw[fB zO,xac zP]
  refine hd.ld (λ_ h=>h) zO (hd.ld (λ_ h=>h) zO λF=>?_);refine aa.eq (dH ok _ _ _) (Un.not (aD.mk ?_));cases hl:cy e[j]! e[a]!
  ·exact JE.mk (Mc hle (by rw[hl];rfl))
  exact JE.mk (Xb (by rw[fB zO,hl,xac zI]))
 refine DR.self (ae.xX (Br.dec (λhle=>?_) λhgt=>JE.mk (no (by rw[Sort.scanUp,xac zP]))));refine hd.ld (λ_ h=>h) zO (hd.ld (λ_ h=>h) zO λF=>?_);refine aa.eq (dH ok _ _ _) (aD.mk ?_);cases hl:cy e[i]! e[a]!
 ·exact JE.mk (no (by rw[Sort.scanUp,hl,xac zI]))
 exact JE.mk (yes zO hl)
include ok in
theorem Cg(h:Da T kd v d C){lo hi f:Nat}(hlo:lo<=d.size)(hb:f+hi<=d.size)(cJ:d.size<1152921504606846976):Fc zQ zs.MH #[v,iv (lo:Int),iv (hi:Int),iv (f:Int)] C (SXZ T kd v (Sort.siftDown cy hi f lo d)):=by
 refine aF λg=>ok.MH ?_;refine⟨λvs H=>∃(i:Nat) (e:Array Int),vs=[iv (i:Int)]/\i<=d.size/\e.size=d.size/\Sort.siftDown cy hi f i e=Sort.siftDown cy hi f lo d/\Da T kd v e H,λvs _=>d.size-bL vs 0,JE.mk ⟨lo,d,rfl,hlo,rfl,rfl,h⟩,?_⟩;rintro w H ⟨r,e,hw,hr,hs,he,hd⟩ gs;simp only[xaw,xa2]at hw;subst hw;refine ae.xW (a:=2) (ae.inc (ae.qM (Br.dec (λhge=>?_) (λhlt=>?_))))
 ·rw[MG hge]at he;exact aM.here ⟨rfl,by rw[<-he];exact hd⟩
 have Ln:=λc=>UF (c:=c) (d:=e) (f:=f) (show 2*r+1<hi by omega);intro J9 So;have go:∀c:Nat,r<c->c<hi->(c=if(decide (2*r+1+1<hi) &&cy e[f+(2*r+1)]! e[f+(2*r+1)+1]!)=true then 2*r+2 else 2*r+1)->J9 [iv (c:Int)] H:=λc hrc ak9 hc=>by
  rw[Ln c hc]at he;refine So _ _ λgs=>?_;refine DR.self (ae.eZ (hd.ld (λ_ h=>h) zO (ae.eZ (hd.ld (λ_ h=>h) zO (aa.eq (dH ok _ _ _) (Un.not ?_))))));cases hl:cy e[f+r]! e[f+c]!
  ·rw[hl]at he;exact Br.yes (aM.here ⟨rfl,by rw[<-he];exact hd⟩)
  rw[hl]at he;refine Br.no (DR.self (ae.eZ (ae.eZ (ae.eZ (hd.W7 .here (i:=f+r) (j:=f+c) (B:=λk=>ae .num .add (iv (f:Int)) (iv (r:Int)) k) zO zO (λk hk=>ae.eZ hk) λC1 Po=>?_)))));exact aC.mk ⟨c,_,rfl,by omega,iZ hs,he,Po⟩ (by simp[bL];omega)
 intro J36 ac5;have stay:(decide (2*r+1+1<hi) &&cy e[f+(2*r+1)]! e[f+(2*r+1)+1]!)=false->J36 [.bool false] H:=λhc=>ac5 _ _ λgs=>Br.no (JE.mk (go _ zO zO (by rw[hc];rfl)));refine DR.self (ae.inc (ae.fk (Br.dec (λhc=>?_) λhc=>JE.mk (stay (by rw[xai hc];rfl)))));refine ae.eZ (hd.ld (λ_ h=>h) zO (ae.eZ (ae.inc (hd.ld (λ_ h=>h) zO λF=>?_))));refine aa.eq (dH ok _ _ _) (aD.mk ?_);cases hl:cy e[f+(2*r+1)]! e[f+(2*r+1)+1]!
 ·exact JE.mk (stay (by rw[hl,xdL]))
 exact JE.mk (ac5 _ _ λgs=>Br.yes (ae.inc (JE.mk (go _ zO hc (by rw[hl,xal hc];rfl)))))
include ok in
theorem Nw(h:Da T kd v d C){a b:Nat}(hab:a<b)(hb:b<=d.size)(cJ:d.size<1152921504606846976):Fc zQ zs.heap #[v,iv (a:Int),iv (b:Int)] C (SXZ T kd v (Sort.heapSort cy d a b)):=by
 refine aF λg=>ok.heap ?_;obtain⟨B,hB⟩:∃B,B=Sort.heapBuild cy (b-a) a ((b-a-1) /2+1) d:=⟨_,rfl⟩;have hH:Sort.heapSort cy d a b=Sort.heapPop cy a (b-a) B:=by rw[hB];rfl
 rw[hH];refine ae.bZ (ae.bZ (b:=1) (ae.Gr (b:=2) (by simp[bG];omega) zO (⟨λvs H=>∃(q:Int) (e:Array Int),vs=[iv q]/\ -1<=q/\q<(b:Int) -a/\e.size=d.size/\B=Sort.heapBuild cy (b-a) a (q+1).toNat e/\Da T kd v e H,λvs _=>up1 vs,JE.mk ⟨(((b-a-1) /2:Nat):Int),d,rfl,by omega,by omega,rfl,hB,h⟩,?_⟩)));clear hB hH;rintro w H ⟨q,e,hw,VJ,hq2,hs,he,hd⟩ gs;simp only[xaw,xa2]at hw;subst hw;refine ae.geq (Br.dec (λh0=>?_) (λhn=>?_))
 ·obtain⟨i,rfl⟩:∃i:Nat,q=i:=⟨q.toNat,by omega⟩;rw[show((i:Int)+1).toNat=i+1 by omega,Sort.heapBuild]at he;refine aa.fq (Cg ok hd zO zO zO) ?_;rintro w C1 ⟨rfl,Po⟩;exact ae.lg (c:=(i:Int) -1) rfl zO (aC.mk ⟨(i:Int) -1,_,rfl,by omega,by omega,by rw[KL];exact hs,by rw[show((i:Int) -1+1).toNat=i by omega];exact he,Po⟩ (by rw[Ar,Ar];omega))
 obtain rfl:q= -1:=by omega
 have he:B=e:=he;subst he;refine ae.bZ (b:=1) (⟨λvs H=>∃(q:Int) (e:Array Int),vs=[iv q]/\ -1<=q/\q<(b:Int) -a/\e.size=d.size/\Sort.heapPop cy a (q+1).toNat e=Sort.heapPop cy a (b-a) B/\Da T kd v e H,λvs _=>up1 vs,JE.mk ⟨((b-a-1:Nat):Int),B,rfl,by omega,by omega,hs,by rw[show(((b-a-1:Nat):Int)+1).toNat=b-a by omega],hd⟩,?_⟩);clear hd hs hn;rintro w H ⟨q,e,hw,VJ,hq2,hs,he,hd⟩ gs;simp only[xaw,xa2]at hw;subst hw;refine ae.geq (Br.dec (λh0=>?_) (λhn=>?_));rotate_left
 ·obtain rfl:q= -1:=by omega
  have he:e=Sort.heapPop cy a (b-a) B:=he;exact aM.here ⟨rfl,by rw[<-he];exact hd⟩
 obtain⟨i,rfl⟩:∃i:Nat,q=i:=⟨q.toNat,by omega⟩;rw[show((i:Int)+1).toNat=i+1 by omega,Sort.heapPop]at he;refine DR.self (ae.eZ (ae.eZ (hd.swap .here zO zO λC1 Po=>?_)));have uA:(Sort.swp e a (a+i)).size=d.size:=iZ hs;refine aa.fq (Cg ok Po (lo:=0) zO zO zO) ?_;rintro w C2 ⟨rfl,x8⟩;exact ae.lg (c:=(i:Int) -1) rfl zO (aC.mk ⟨(i:Int) -1,_,rfl,by omega,by omega,by rw[KL];exact uA,by rw[show((i:Int) -1+1).toNat=i by omega];exact he,x8⟩ (by rw[Ar,Ar];omega))
end
section
variable {v:zV} {d:Array Int} {C:Hp} {T:TypeId} {kd:IntKind} {zs:Z2} (ok:Ep zs)
theorem xlt{a b:Nat}(ha:a<18446744073709551616)(hb:b<18446744073709551616):a^^^b<18446744073709551616:=Nat.xor_lt_two_pow (n:=64) ha hb
theorem PA(b x:Nat)(hx:x<18446744073709551616):Fc zQ 305 #[ptr b] [(b,.cells #[.int .u64 (x:Int)] 371 zZ)]
  (λr H=>∃y:Nat,y<18446744073709551616/\r=.int .u64 (y:Int)/\H=[(b,.cells #[.int .u64 (y:Int)] 371 zZ)]):=by
 refine aF λg=>Ih (DR.self (Nil.ptr (Ld.q ?_)));refine Nil.ptr (Ld.q ?_);refine ae.nr (b:=13) (ae.X3 hx (xbv _ zD) ?_);have h1:=xlt hx (xbv (x<<<13) (show 0<18446744073709551616 by decide));generalize x^^^x<<<13%18446744073709551616=x1 at h1;refine Nil.ptr (St.one (by exact .head _) rfl zI rfl ?_);refine DR.self (Nil.ptr (Ld.q ?_));refine Nil.ptr (Ld.q ?_);refine ae.iM (b:=7) h1 ?_;have h2:x1>>>7<18446744073709551616:=by rw[xaZ];omega
 refine ae.X3 h1 h2 ?_;have h3:=xlt h1 h2;generalize x1^^^x1>>>7=x2 at h3;refine Nil.ptr (St.one (by exact .head _) rfl zI rfl ?_);refine DR.self (Nil.ptr (Ld.q ?_));refine Nil.ptr (Ld.q ?_);refine ae.nr (b:=17) (ae.X3 h3 (xbv _ zD) ?_);have h4:=xlt h3 (xbv (x2<<<17) (show 0<18446744073709551616 by decide));generalize x2^^^x2<<<17%18446744073709551616=x3 at h4;refine Nil.ptr (St.one (by exact .head _) rfl zI rfl ?_);refine Nil.ptr (Ld.q ?_);exact aM.here ⟨x3,h4,rfl,rfl⟩
theorem Bq{x:Nat}(hx:x<18446744073709551616)(B:Hp):Rd zQ 154 #[.int .u64 (x:Int)] B (λv=>∃r:Nat,Am x r/\v=iv (r:Int)):=by
 refine aF λg=>JP (Br.no (aa.rq (Q1 hx B) ?_));rintro w hw;exact aZ.mk (.refl _) hw
theorem U1{x:Nat}(h0:0<x)(hx:x<1152921504606846976)(B:Hp):Rd zQ 304 #[iv (x:Int)] B (λv=>∃r:Nat,0<r/\r<=2*x/\v=.int .u64 (r:Int)):=by
 refine aF λg=>Ii (aV.q (aa.rq (Bq zO B) ?_));rintro w ⟨r,hr,rfl⟩;have RA:0<r:=by
  rcases Nat.eq_zero_or_pos r with e|e
  ·subst e;have:=hr.1;omega
  exact e
 have h2:2^(r-1)<=x:=by
  rcases hr.2 with e|e
  ·omega
  exact e
 have h3:2^r=2*2^(r-1):=by
  obtain⟨k,rfl⟩:∃k,r=k+1:=⟨r-1,by omega⟩;rw[xb8,xd4];omega
 refine ae.nr (a:=1) ?_;have e:1<<<r%18446744073709551616=2^r:=by
  rw[xcn,xdj];exact xbm zO
 rw[e];exact aZ.mk (.refl _) ⟨2^r,xbs r,by omega,rfl⟩
include ok in
theorem Wz(h:Da T kd v d C){a b:Nat}(hab:a<b)(hb:b<=d.size)(cJ:d.size<1152921504606846976):Fc zQ zs.brk #[v,iv (a:Int),iv (b:Int)] C (λr C'=>r=.tuple #[]/\∃e,Sort.PermIn a b d e/\Da T kd v e C'):=by
 refine aF λg=>ok.brk ?_;refine ae.bZ (ae.qM (b:=8) (Br.dec (λh8=>?_) (λ_=>aM.here ⟨rfl,d,Sort.permIn_refl _ _ _,h⟩)));refine aV.q λb4 _=>(St.one (by exact .head _) rfl zI rfl ?_);refine aa.rq (U1 zO zO C) ?_;rintro w ⟨m,hm0,hm,rfl⟩;refine ae.Gr (b:=4) (by simp[bG];omega) zO (ae.xW (b:=2) (ae.eZ (ae.bZ (b:=1) ?_)));refine⟨λvs H=>∃(i x:Nat) (C':Hp) (e:Array Int),vs=[iv (i:Int)]/\a<=i/\x<18446744073709551616/\H=(b4,.cells #[.int .u64 (x:Int)] 371 zZ)::C'/\Sort.PermIn a b d e/\Da T kd v e C',λvs _=>b-bL vs 0,
  JE.mk ⟨_,b-a,C,d,rfl,by omega,by omega,rfl,Sort.permIn_refl _ _ _,h⟩,?_⟩
 rintro w H ⟨i,x,C',e,hw,T1,hx,rfl,hp,hd⟩ gs;simp only[xaw,xa2]at hw;subst hw;have hs:=hp.1;refine ae.Gr (b:=4) (by simp[bG];omega) zO (ae.xW (b:=2) (ae.eZ (ae.inc (ae.xX (Br.dec (λhle=>?_) (λ_=>aM.mk .tail ⟨rfl,e,hp,hd⟩))))));refine aa.fn (.left (A:=C')) (PA b4 x hx) ?_;rintro w H' ⟨y,hy,rfl,rfl⟩;refine ae.bZ (b:=1) (ae.jz (by simp[bG];omega) (by simp[bG];omega) ?_);have hand:y&&& (m-1)<m:=by have:=xc4 (n:=y) (m:=m-1);omega
 generalize y&&& (m-1)=z at hand;refine aV.q λJ28 agW=>?_;have go:∀o:Nat,o<b-a->J28 [iv (o:Int)] ([(b4,Obj.cells #[.int .u64 (y:Int)] 371 zZ)]++C'):=λo ho=>by
  refine agW _ _ λgs=>?_;refine DR.self (ae.eZ (ae.eZ (hd.swap (.cons .here) zO zO λC1 Po=>?_)));exact ae.inc (aC.mk ⟨i+1,y,C1,_,rfl,by omega,hy,rfl,Sort.permIn_trans _ _ _ _ _ hp (Sort.swp_permIn _ a b i (a+o) T1 zO zO zO zO),Po⟩ (by simp[bL];omega))
 refine ae.qM (Br.dec (λhge=>?_) (λhlt=>JE.mk (go z zO)));exact ae.bZ (JE.mk (go _ zO))
def OQZ(b:Nat)(C:Hp)(i j:Nat):zV->Hp->Prop:=λr H=>(r=.tuple #[iv (i:Int),iv (j:Int)]\/r=.tuple #[iv (j:Int),iv (i:Int)])/\∃z:Int,H=(b,.cells #[iv z] 3 zZ)::C
include ok in
theorem vD(h:Da T kd v d C){b:Nat}{z:Int}{i j:Nat}(hi:i<d.size)(hj:j<d.size):
  Fc zQ zs.Fw #[v,iv (i:Int),iv (j:Int),ptr b] ((b,.cells #[iv z] 3 zZ)::C) (OQZ b C i j):=by
 refine aF λg=>ok.Fw ?_;refine DR.self (h.ld (λ_ h=>.tail _ h) hj (h.ld (λ_ h=>.tail _ h) hi (aa.eq (dH ok _ _ _) (Br.mk (λ_=>?_) (λ_=>aM.here ⟨.inl rfl,z,rfl⟩)))));refine Nil.ptr (Ld.q ?_);refine ae.add (Nil.ptr (St.one (by exact .head _) rfl zI rfl ?_));exact aM.here ⟨.inr rfl,_,rfl⟩
def MQZ(b:Nat)(C:Hp)(p:Nat->Prop):zV->Hp->Prop:=λr H=>(∃m:Nat,r=iv (m:Int)/\p m)/\∃z:Int,H=(b,.cells #[iv z] 3 zZ)::C
include ok in
theorem Lf(h:Da T kd v d C){b:Nat}{z:Int}{i j k:Nat}(hi:i<d.size)(hj:j<d.size)(hk:k<d.size):
  Fc zQ zs.med #[v,iv (i:Int),iv (j:Int),iv (k:Int),ptr b] ((b,.cells #[iv z] 3 zZ)::C) (MQZ b C λm=>m=i\/m=j\/m=k):=by
 refine aF λg=>ok.med ?_;refine aa.fq (vD ok h hi hj) ?_;rintro w H ⟨hw,z1,rfl⟩;obtain⟨i1,j1,rfl,hij⟩:∃i1 j1:Nat,w=.tuple #[iv (i1:Int),iv (j1:Int)]/\((i1=i/\j1=j)\/(i1=j/\j1=i)):=by
  rcases hw with rfl|rfl
  ·exact⟨i,j,rfl,.inl ⟨rfl,rfl⟩⟩
  exact⟨j,i,rfl,.inr ⟨rfl,rfl⟩⟩
 refine Ext.two (aa.fq (vD ok h (i:=j1) (j:=k) zO hk) ?_);rintro w H ⟨hw,z2,rfl⟩;obtain⟨j2,k2,rfl,VS⟩:∃j2 k2:Nat,w=.tuple #[iv (j2:Int),iv (k2:Int)]/\((j2=j1/\k2=k)\/(j2=k/\k2=j1)):=by
  rcases hw with rfl|rfl
  ·exact⟨_,_,rfl,.inl ⟨rfl,rfl⟩⟩
  exact⟨_,_,rfl,.inr ⟨rfl,rfl⟩⟩
 refine Ext.two (aa.fq (vD ok h (i:=i1) (j:=j2) zO zO) ?_);rintro w H ⟨hw,z3,rfl⟩;rcases hw with rfl|rfl
 ·exact Ext.mk rfl (Ext.mk rfl (aM.here ⟨⟨_,rfl,by omega⟩,_,rfl⟩))
 exact Ext.mk rfl (Ext.mk rfl (aM.here ⟨⟨_,rfl,by omega⟩,_,rfl⟩))
include ok in
theorem vO(h:Da T kd v d C){b:Nat}{z:Int}{i:Nat}(h0:0<i)(hi:i+1<d.size)(cJ:d.size<1152921504606846976):
  Fc zQ zs.FC #[v,iv (i:Int),ptr b] ((b,.cells #[iv z] 3 zZ)::C) (MQZ b C λm=>i<=m+1/\m<=i+1):=by
 refine aF λg=>ok.FC ?_;refine ae.bZ (b:=1) (ae.inc (aa.fq (Lf ok h zO zO hi) ?_));rintro w H ⟨⟨m,rfl,hm⟩,z',rfl⟩;exact aM.here ⟨⟨m,rfl,by omega⟩,z',rfl⟩
include ok in
theorem UX(h:Da T kd v d C){a b:Nat}(hab:a<b)(hb:b<=d.size)(cJ:d.size<1152921504606846976):
  Rd zQ zs.piv #[v,iv (a:Int),iv (b:Int)] C (λr=>∃(p:Nat) (q:Int),r=.tuple #[iv (p:Int),iv q]/\a<=p/\p<b):=by
 refine aF λg=>ok.piv ?_;refine ae.bZ λb2 _=>(ae.Gr (b:=4) (by simp[bG];omega) zO (ae.xW (b:=1) (ae.eZ (ae.Gr (b:=4) (by simp[bG];omega) zO (ae.xW (b:=2) (ae.eZ (ae.Gr (b:=4) (by simp[bG];omega) zO (ae.xW (b:=3) (ae.eZ ?_)))))))));intro J13 agZ;have fin:∀(p:Nat) (z:Int),a<=p->p<b->J13 [iv (p:Int)] ((b2,.cells #[iv z] 3 zZ)::C):=λp z uB kT=>by
  refine agZ _ _ λgs=>?_;refine Ld.q ?_;refine ae.gI (Br.dec (λ_=>aZ.mk .tail ⟨p,_,rfl,uB,kT⟩) (λ_=>?_));exact ae.gI (Br.dec (λ_=>aZ.mk .tail ⟨p,_,rfl,uB,kT⟩) (λ_=>aZ.mk .tail ⟨p,_,rfl,uB,kT⟩))
 refine ae.qM (b:=8) (Br.dec (λh8=>?_) (λ_=>JE.mk (fin _ _ zO zO)));intro J21 agY;have three:∀(x y u:Nat) (z:Int),a<=x/\x<b->a<=y/\y<b->a<=u/\u<b->J21 [iv (x:Int),iv (y:Int),iv (u:Int)] ((b2,.cells #[iv z] 3 zZ)::C):=λx y u z hx hy hu=>by
  refine agY _ _ _ _ λgs=>?_;refine aa.fq (Lf ok h zO zO zO) ?_;rintro w H ⟨⟨m,rfl,hm⟩,z',rfl⟩;exact JE.mk (fin _ _ zO zO)
 refine ae.qM (b:=50) (Br.dec (λh50=>?_) (λ_=>JE.mk (three _ _ _ _ zO zO zO)));refine aa.fq (vO ok h zO zO cJ) ?_;rintro w H ⟨⟨m1,rfl,uf⟩,z1,rfl⟩;refine aa.fq (vO ok h zO zO cJ) ?_;rintro w H ⟨⟨m2,rfl,lY⟩,z2,rfl⟩;refine aa.fq (vO ok h zO zO cJ) ?_;rintro w H ⟨⟨m3,rfl,hm3⟩,z3,rfl⟩;exact JE.mk (three _ _ _ _ zO zO zO)
def PSZ(T:TypeId)(kd:IntKind)(v:zV)(d:Array Int)(a b:Nat):zV->Hp->Prop:=λr C'=>r=.tuple #[]/\∃e,(Sort.PermIn a b d e/\Sort.SortedIn cy a b e)/\Da T kd v e C'
include ok in
theorem K6:∀(N:Nat) {C:Hp} {d:Array Int} (h:Da T kd v d C) {a b:Nat} (hN:b-a<=N) (hab:a<=b) (hb:b<=d.size) (cJ:d.size<1152921504606846976) (hB:Sort.Below cy a b d) (z:Int),Fc zQ zs.Yo #[v,iv (a:Int),iv (b:Int),iv z] C (PSZ T kd v d a b):=by
 intro N;induction N with
 |zero=>
  intro C d h a b hN hab hb cJ hB z g;refine ok.Yo (R:=aM _) ?_;unfold L9014;refine⟨λvs H=>vs=[iv (a:Int),iv (b:Int),iv z,.bool true,.bool true]/\H=C,λ_ _=>0,JE.mk ⟨rfl,rfl⟩,?_⟩;rintro w1 w2 w3 w4 w5 H ⟨hw,rfl⟩ gs;simp only[xaw,xa2]at hw;obtain⟨rfl,rfl,rfl,rfl,rfl⟩:=hw;refine ae.bZ (ae.xX (b:=12) (Br.T (aa.fq (y9 ok h hab hb cJ) ?_)));rintro w C' ⟨rfl,hd⟩;exact aM.here ⟨rfl,_,Sort.insertionSort_holds Sort.swo_ltInt d a b hab hb,hd⟩
 |succ N ih=>
  intro C d h a b hN hab hb cJ hB z g;refine ok.Yo (R:=aM _) ?_;unfold L9014;obtain⟨G,hG⟩:∃G:Array Int->Prop,G=λR=>Sort.PermIn a b d R/\Sort.SortedIn cy a b R:=⟨_,rfl⟩;have fin:∀{R:Array Int} {H:Hp},G R->Da T kd v R H->aM (PSZ T kd v d a b) (.returned (.tuple #[])) H:=λhR hd=>by
   subst hG;exact aM.here ⟨rfl,_,hR,hd⟩
  refine⟨λvs H=>∃(a b:Nat) (z:Int) (t1 t2:Bool) (e:Array Int),vs=[iv (a:Int),iv (b:Int),iv z,.bool t1,.bool t2]/\b-a<=N+1/\a<=b/\b<=e.size/\e.size=d.size/\Sort.Below cy a b e/\(∀R,Sort.PermIn a b e R->Sort.SortedIn cy a b R->G R)/\Da T kd v e H,λvs _=>bL vs 1-bL vs 0,
   JE.mk ⟨a,b,z,true,true,d,rfl,hN,hab,hb,rfl,hB,by subst hG;exact λR h1 h2=>⟨h1,h2⟩,h⟩,?_⟩
  clear h hN hab hb hB hG;rintro w1 w2 w3 w4 w5 H ⟨a,b,z,t1,t2,e,hw,hN,hab,hb,hs,hB,Ln,h⟩ gs;simp only[xaw,xa2]at hw;obtain⟨rfl,rfl,rfl,rfl,rfl⟩:=hw;refine ae.bZ (ae.xX (b:=12) (Br.dec (λNK=>?_) (λNK=>?_)))
  ·refine aa.fq (y9 ok h hab hb zO) ?_;rintro w C' ⟨rfl,hd⟩;obtain⟨q1,q2⟩:=Sort.insertionSort_holds Sort.swo_ltInt e a b hab hb;exact fin (Ln _ q1 q2) hd
  refine ae.gI (Br.dec (λ_=>?_) (λ_=>?_))
  ·refine aa.fq (Nw ok h zO hb zO) ?_;rintro w C' ⟨rfl,hd⟩;obtain⟨q1,q2⟩:=Sort.heapSort_holds Sort.swo_ltInt e a b hab hb;exact fin (Ln _ q1 q2) hd
  intro J17 Gl;have k17:∀(z1:Int) H1 e1,Sort.PermIn a b e e1->Da T kd v e1 H1->J17 [iv z1] H1:=λz1 H1 e1 p1 h1=>by
   have uA:=p1.1;refine Gl _ _ λgs=>?_;refine aa.rq (UX ok h1 (a:=a) (b:=b) zO zO zO) ?_;rintro w ⟨p,q,rfl,uB,kT⟩;refine Ext.two λJ25 agX=>?_;have k25:∀(p:Nat) (q:Int) H2 e2,a<=p->p<b->Sort.PermIn a b e e2->Da T kd v e2 H2->J25 [iv (p:Int),iv q] H2:=λp q H2 e2 uB kT p2 h2=>by
    have sM:=p2.1;refine agX _ _ _ λgs=>?_;intro J30 agV;have k30:∀H3 e3,Sort.PermIn a b e e3->Da T kd v e3 H3->J30 [] H3:=λH3 e3 p3 h3=>by
     have hs3:=p3.1;have hB3:=hB.perm hb p3;have R7:b<=e3.size:=by omega
     refine agV _ λgs=>?_;intro J33 Wb;have k33:∀(t:Bool),(t=true->0<a/\cy e3[a-1]! e3[p]! =false)->J33 [.bool t] H3:=λt ht=>by
      refine Wb _ _ λgs=>?_;refine Br.mk (λet=>?_) (λ_=>?_)
      ·obtain⟨ha0,hnl⟩:=ht et;refine aa.fq (Fu ok h3 ⟨uB,kT⟩ R7 zO) ?_;rintro w C' ⟨rfl,hd⟩;obtain⟨g1,g2,g3,g4,g5⟩:=Sort.round_eq Sort.swo_ltInt (Sort.partitionEqual_holds cy) ha0 uB kT R7 hB3 hnl (mid:=(Sort.partitionEqual cy e3 a b p).1) (d4:=(Sort.partitionEqual cy e3 a b p).2) rfl;generalize (Sort.partitionEqual cy e3 a b p).1=m at*;generalize (Sort.partitionEqual cy e3 a b p).2=e4 at*;exact aC.mk ⟨m,b,z1,t1,t2,e4,rfl,by omega,by omega,by omega,by omega,g4,λR r1 r2=>by
        obtain⟨q1,q2⟩:=g5 R r1 r2;exact Ln R (Sort.permIn_trans _ _ _ _ _ p3 q1) q2,hd⟩ (by simp[bL];omega)
      refine aa.fq (QI ok h3 ⟨uB,kT⟩ R7 zO) ?_;rintro w C' ⟨rfl,hd⟩;obtain⟨g1,g2,g3,g4,g5,g6,g7⟩:=Sort.round_part Sort.swo_ltInt (Sort.partition_holds cy) uB kT R7 hB3 (mid:=(Sort.partition cy e3 a b p).1) (ap:=(Sort.partition cy e3 a b p).2.1) (d4:=(Sort.partition cy e3 a b p).2.2) rfl;generalize (Sort.partition cy e3 a b p).1=m at*;generalize (Sort.partition cy e3 a b p).2.1=t at*;generalize (Sort.partition cy e3 a b p).2.2=e4 at*;refine Ext.two (ae.bZ (ae.bZ (ae.Gr (b:=8) (by simp[bG];omega) zO (ae.fk (Br.dec (λ_=>?_) (λ_=>?_))))))
      ·refine ae.qM (aa.fq (ih hd (a:=a) (b:=m) zO zO zO zO g4 z1) ?_);rintro w C' ⟨rfl,e5,⟨l1,l2⟩,dP⟩;obtain⟨hBL,ic⟩:=g6 _ l1 l2;have hs5:=l1.1;refine ae.inc ?_;exact aC.mk ⟨m+1,b,z1,_,t,e5,rfl,by omega,by omega,by omega,by omega,hBL,λR r1 r2=>by
        obtain⟨q1,q2⟩:=ic R r1 r2;exact Ln R (Sort.permIn_trans _ _ _ _ _ p3 q1) q2,dP⟩ (by simp[bL];omega)
      refine ae.qM (ae.inc (aa.fq (ih hd (a:=m+1) (b:=b) zO zO zO zO g5 z1) ?_));rintro w C' ⟨rfl,e5,⟨l1,l2⟩,dP⟩;obtain⟨hBL,ic⟩:=g7 _ l1 l2;have hs5:=l1.1;exact aC.mk ⟨a,m,z1,_,t,e5,rfl,by omega,by omega,by omega,by omega,hBL,λR r1 r2=>by
       obtain⟨q1,q2⟩:=ic R r1 r2;exact Ln R (Sort.permIn_trans _ _ _ _ _ p3 q1) q2,dP⟩ (by simp[bL];omega)
     refine DR.self (ae.nh (b:=0) (Br.dec (λh0=>?_) (λ_=>JE.mk (k33 false nofun))));refine ae.bZ (b:=1) (h3.ld (λ_ h=>h) zO (h3.ld (λ_ h=>h) zO λF=>?_));exact aa.eq (dH ok _ _ _) (Un.not (aD.mk (JE.mk (k33 _ λht=>⟨h0,by simpa using ht⟩))))
    refine cm.and t2 (λ_=>⟨rfl,rfl⟩) rfl λgs=>?_;refine cm.and (decide (q=1)) (λ_=>ae.gI ⟨rfl,rfl⟩) rfl λgs=>?_;refine Br.mk (λ_=>?_) (λ_=>JE.mk (k30 _ _ p2 h2));refine aa.fq (QG ok h2 zO (show b<=e2.size by omega) zO) ?_;rintro w C' ⟨rfl,hd⟩;obtain⟨q1,q2⟩:=Sort.partialInsertionSort_holds Sort.swo_ltInt e2 a b zO zO (hB.perm hb p2);exact Br.mk (λet=>fin (Ln _ (Sort.permIn_trans _ _ _ _ _ p2 q1) (q2 et)) hd) (λ_=>JE.mk (k30 _ _ (Sort.permIn_trans _ _ _ _ _ p2 q1) hd))
   refine ae.gI (Br.dec (λ_=>?_) (λ_=>JE.mk (k25 p q _ _ uB kT p1 h1)));refine aa.fq (UL ok h1 (a:=a) (b:=b) zO zO zO) ?_;rintro w C' ⟨rfl,hd⟩;exact ae.bZ (b:=1) (ae.bZ (ae.bZ (JE.mk (k25 _ _ _ _ zO zO (Sort.permIn_trans _ _ _ _ _ p1 (Sort.reverseRange_holds e1 a b hab zO)) hd))))
  refine Un.not (Br.mk (λ_=>?_) (λ_=>JE.mk (k17 _ _ _ (Sort.permIn_refl _ _ _) h)));refine aa.fq (Wz ok h (a:=a) (b:=b) zO hb zO) ?_;rintro w C' ⟨rfl,e1,p1,hd⟩;exact ae.sub (JE.mk (k17 _ _ _ p1 hd))
end
def Fa(l:List Int):List Int:=l.mergeSort λx y=>decide (x<=y)
theorem Qa{d e:Array Int}(h1:Sort.PermIn 0 d.size d e)(h2:Sort.SortedIn cy 0 d.size e):e.toList=Fa d.toList:=by
 rw[Sort.sorted_unique_holds Sort.swo_ltInt (λx y h1 h2=>by simp[Sort.ltInt]at h1 h2;omega) d e h1 h2];unfold Fa;congr 1
 funext x y
 show(!decide (y<x))=decide (x<=y);rw[xbN];simp
def Ce(l:zL):zL:=l.mergeSort λx y=>decide (x<=y)
theorem lj(l:zL):(Ce l).Perm l:=List.mergeSort_perm _ _
theorem Az(l:zL):(Ce l).Pairwise λx y=>x<=y:=
 (List.pairwise_mergeSort (le:=λx y:Nat=>decide (x<=y)) (λa b c h1 h2=>by simp only[xar]at*;omega) (λa b=>by simp only[xa1,xar];omega) l).imp λh=>xcd h
theorem Uz{l l':zL}(h:l.Perm l'):Ce l=Ce l':=
 List.Perm.eq_of_pairwise (λa b _ _ h1 h2=>xd5 h1 h2) (Az l) (Az l') (((lj l).trans h).trans (lj l').symm)
theorem KK(l:zL):Fa (iw l)=iw (Ce l):=by
 refine List.Perm.eq_of_pairwise (le:=λx y:Int=>x<=y) (λa b _ _ h1 h2=>Int.le_antisymm h1 h2) ?_ ?_ ((List.mergeSort_perm _ _).trans ((lj l).map _).symm)
 ·exact(List.pairwise_mergeSort (le:=λx y:Int=>decide (x<=y)) (λa b c h1 h2=>by simp only[xar]at*;omega) (λa b=>by simp only[xa1,xar];omega) _).imp λh=>xcd h
 exact xcc.2 ((Az l).imp λh=>by omega)
theorem UA{v:zV}{C:Hp}{l:List Int}(h:aN 110 .u32 v l C)(cJ:l.length<1152921504606846976):Fc zQ 401 #[v] C (λr C'=>r=.tuple #[]/\aN 110 .u32 v (Fa l) C'):=by
 refine aF λg=>GU (h.bP ?_);refine aV.q (aa.rq (Bq zO C) ?_);rintro w ⟨r,_,rfl⟩;have hd:Da 110 .u32 v l.toArray C:=h;refine aa.fn .here (K6 aa0 l.length hd (a:=0) (b:=l.length) zO zO zI (by simpa using cJ) (.inl rfl) _) ?_;rintro w C' ⟨rfl,e,⟨h1,h2⟩,dP⟩;have he:=Qa (d:=l.toArray) (by simpa using h1) (by simpa using h2);exact aM.here ⟨rfl,by rw[show Fa l=e.toList from he.symm];exact dP⟩
end
end Go.Proofs
namespace Go.Sx
open Go
section
variable {P:Program} {g:Gh} {F:Fence} {n:Nat} {ops:Array Oper} {Q:Exit->Act->World->Prop} {rest:List Oper} {o:Oper} {a:Act} {fr:Fr} {w:World} {H:Hp}
abbrev xN(ds:List Deferred)(n:Nat)(a:Act)(fr:Fr):Prop:=cB ds n a fr
variable {ds:List Deferred}
theorem xN.put(h:xN ds n a fr){d:Option Nat}(hd:eL n d=true)(v:zV):xN ds n (a.put d v) (br fr d v):=cB.put h hd v
theorem dD{v0:zV}(hF:∀f,F.fn f)(hg:o.guard=none)(fO:∀c,o.op≠.defer c)(hd:eL n o.dst=true)(ha:xN ds n a fr)(hw:Own g H w)(h:AS P g o (ev fr) H (· =v0))
 (k:∀a',xN ds n a' (br fr o.dst v0)->wpListIn F 0 P ops Q rest a' w):wpListIn F 0 P ops Q (o::rest) a w:=by
 refine wpListIn_plain hg λK hK=>⟨λf _=>hF f,?_⟩;rw[Oper.semAt_eq _ _ _ fO,ha.eval];obtain⟨v,hv,hr,_⟩:=oJ h;rw[hr w hw];subst hv;exact hK _ _ (k _ (ha.put hd _))
theorem u3{s:Sem zV}{K:zV->Hp->Prop}(hF:∀f,F.fn f)(hg:o.guard=none)(fO:∀c,o.op≠.defer c)(hd:eL n o.dst=true)(ha:xN ds n a fr)(he:execOp (ev fr) o=(do pure (.value (<-s))))
 (h:∃v w' H',s.run P w=.ok v w'/\Own g H' w'/\K v H')
 (k:∀v H' w' a',K v H'->Own g H' w'->xN ds n a' (br fr o.dst v)->wpListIn F 0 P ops Q rest a' w'):wpListIn F 0 P ops Q (o::rest) a w:=by
 refine wpListIn_plain hg λK hK=>⟨λf _=>hF f,?_⟩;rw[Oper.semAt_eq _ _ _ fO,ha.eval,he];obtain⟨v,w',H',hr,ho,hk⟩:=h;simp only[Sem.run_bind,hr,Result.andThen_ok,Sem.run_pure];exact hK _ _ (k v H' w' _ hk ho (ha.put hd _))
theorem yC{s:Sem zV}{K:zV->Hp->Prop}(hF:∀f,F.fn f)(hg:o.guard=none)(fO:∀c,o.op≠.defer c)(hd:eL n o.dst=true)(ha:xN ds n a fr)(hw:Own g H w)(he:execOp (ev fr) o=(do pure (.value (<-s))))
 (h:M1 P g o (ev fr) H K (λ_ _=>False))
 (k:∀v H' w' a',K v H'->Own g H' w'->xN ds n a' (br fr o.dst v)->wpListIn F 0 P ops Q rest a' w'):wpListIn F 0 P ops Q (o::rest) a w:=by
 have h1:=vE (oZ fr) h w hw;rw[he]at h1;refine u3 (g:=g) (K:=K) hF hg fO hd ha he ?_ k;cases hs:s.run P w with
 |ok v w'=>
  simp only[Sem.run_bind,hs,Result.andThen_ok,Sem.run_pure,ou]at h1;obtain⟨H',ho,hk⟩:=h1;exact⟨v,w',H',rfl,ho,hk⟩
 |halt x w'=>
  simp only[Sem.run_bind,hs,Result.andThen]at h1;cases x<;>simp only[ou]at h1;obtain⟨_,_,hk⟩:=h1;exact hk.elim
theorem W8{s:Sem Unit}{K:zV->Hp->Prop}(hF:∀f,F.fn f)(hg:o.guard=none)(fO:∀c,o.op≠.defer c)(hd:eL n o.dst=true)(ha:xN ds n a fr)(hw:Own g H w)(he:execOp (ev fr) o=(do s;pure .skip))
 (h:M1 P g o (ev fr) H K (λ_ _=>False))
 (k:∀H' w' a',K undef H'->Own g H' w'->xN ds n a' (br fr o.dst undef)->wpListIn F 0 P ops Q rest a' w'):wpListIn F 0 P ops Q (o::rest) a w:=by
 have h1:=vE (oZ fr) h w hw;rw[he]at h1;refine wpListIn_plain hg λK hK=>⟨λf _=>hF f,?_⟩;rw[Oper.semAt_eq _ _ _ fO,ha.eval,he];cases hs:s.run P w with
 |ok v w'=>
  simp only[Sem.run_bind,hs,Result.andThen_ok,Sem.run_pure,ou]at h1⊢;obtain⟨H',ho,hk⟩:=h1;exact hK _ _ (k H' w' _ hk ho (ha.put hd _))
 |halt x w'=>
  simp only[Sem.run_bind,hs,Result.andThen]at h1;cases x<;>simp only[ou]at h1;obtain⟨_,_,hk⟩:=h1;exact hk.elim
theorem m6{m:Nat}{args:List zV}(hl:args.length<=m):xN [] m {tmps:=args.toArray++Array.replicate (m-args.toArray.size) undef,defers:=[]} (gQ args 0):=by
 refine⟨rfl,by simp;omega,λs=>?_⟩;rw[mQ,xat,xdV];simp only[xcV,xcQ,xa0,xc2];by_cases hs:s<args.length
 ·simp[hs,List.getD]
 rw[xac hs,xc0];have:args.getD s undef=undef:=by simp[List.getD,xaE (xc3 hs)]
 rw[this];split<;>rfl
theorem Own.putObj{g:Gh}{H H':Hp}{w:World}{b:Nat}{o o':Obj}(h:Own g H w)(u:c8 b o o' H H'):Own g H' (w.putObj b o'):=by
 have hb:=h.lt u.mem;exact h.br u rfl rfl rfl (World.putObj_heap_same hb) λc hc=>World.putObj_heap_other hc
def tW{α:Type}(P:Program)(f:FuncId)(cap:Array zV)(B:Hp)(enc:α->zV)(N:Nat)(S:List α->Prop):Prop:=
 ∀(g:Gh) (l:Nat) (G:List α->Hp->Prop),
  (∀ss x A X W,G ss A->ss.length<N->Own g (A++X) W->YieldAt Fence.wide 0 P l #[enc x] W (λe W'=>e=.returned (.bool true)/\∃A',G (ss++[x]) A'/\Own g (A'++X) W'))->
  ∀A W,G [] A->Own g (A++B) W->CallsIn Fence.wide 0 P f (#[.func (.yield l) #[] #[]]++cap) W (λe W'=>(∃v,e=.returned v)/\∃ss A',S ss/\G ss A'/\Own g (A'++B) W')
open Classical in
noncomputable def rz(p:Nat->Prop):Nat:=if h:∃k,p k then Classical.choose (lF h)else 0
theorem FJ{p:Nat->Prop}{k:Nat}(h:p k):rz p<=k:=by
 unfold rz;rw[xeb ⟨k,h⟩];exact(xcz (lF ⟨k,h⟩)).2 k h
theorem AY{p:Nat->Prop}(h:∃k,p k):p (rz p):=by
 unfold rz;rw[xeb h];exact(xcz (lF h)).1
theorem uL{c:Code}(J:Nat->Act->World->Prop){k:Nat}(h0:J k a w)
 (round:∀k a w,J k a w->c.wpIn F 0 P (Exit.then (λa' w'=>∃k',k'<k/\J k' a' w') Q) a w):(Code.loop c).wpIn F 0 P Q a w:=by
 refine wpIn_loop (λa w=>∃k,J k a w) (λa w=>rz λk=>J k a w) ⟨k,h0⟩ λa w h=>?_;refine Code.wpIn_mono (λe a' w' hq=>?_) (round _ a w (AY h));cases e with
 |normal=>
  obtain⟨k',hlt,hj⟩:=hq;exact⟨⟨k',hj⟩,xaA (FJ hj) hlt⟩
 |_=>exact hq
end
end Go.Sx
set_option maxRecDepth 100000
namespace Go.Proofs
open Go Go.Sx Tryz
section
open aA
section
variable {es:Array MapEntry} {ck b:Nat} {m:List (Nd×Nat)}
theorem Mp(B:Hp):Fc zQ 392 #[.map (some b)] B
  (λv H=>∃bm,v=.func (.func 402) #[] #[ptr bm]/\H=(bm,.cells #[.map (some b)] 167 zZ)::B):=by
 refine aF λg=>G0 λb1 _=>?_;exact aM.here ⟨b1,rfl,rfl⟩
noncomputable abbrev VF:Func:=Tryz.f402
def VAt(g:Gh)(bi b:Nat)(l:Nat)(es:Array MapEntry)(ck:Nat)(m:List (Nd×Nat))(G:zL->Hp->Prop)(B:Hp)(k:Nat)(a:Act)(w:World):Prop:=
 ∃(fr:Fr) (ss:zL) (A:Hp) (seen:Array Nat),xN [] 15 a fr/\fr 0=.func (.yield l) #[] #[]/\fr 6=ptr bi/\G ss A/\Own g (A++((bi,.mapIter (some b) ck seen ck)::B)) w/\
  (ss++(bS es m seen).map Prod.snd).Perm (m.map Prod.snd)/\k=(bS es m seen).length
theorem EV{bm:Nat}{fz:Nat×Nat}(h:aE nK Pc es ck m):tW zQ 402 #[ptr bm] [(bm,.cells #[.map (some b)] 167 fz),(b,.map es ck)] u32 m.length
  (λss=>ss.Perm (m.map Prod.snd)):=by
 intro g l G hY A W h0 hW;have hF:∀f,Fence.wide.fn f:=λ_=>trivial;refine callsIn_of_wp func402 rfl trivial ?_;have ha:=m6 (m:=15) (args:=[.func (.yield l) #[] #[],ptr bm]) zI;refine wpIn_seq ?_;refine wpIn_region_lit ?_;obtain⟨B,hB⟩:∃B,B=[(bm,Obj.cells #[.map (some b)] 167 fz),(b,.map es ck)]:=⟨_,rfl⟩;rw[<-hB]at hW;have uf:(bm,Obj.cells #[.map (some b)] 167 fz)∈A++B:=by rw[hB];exact xab _ (.head _)
 have lY:(b,Obj.map es ck)∈A++B:=by rw[hB];exact xab _ (.tail _ (.head _))
 have hmB:∀{X:Hp},(b,Obj.map es ck)∈X++B:=by intro X;rw[hB];exact xab _ (.tail _ (.head _))
 rw[<-hB];have e0:AS zQ g (fE VF 0 0) (ev (gQ [.func (.yield l) #[] #[],ptr bm] 0)) (A++B) (λx=>x=.map (some b))=Ld (A++B) (ptr bm) (λx=>x=.map (some b)):=by kernel_rfl
 refine dD (g:=g) (n:=15) (v0:=.map (some b)) hF rfl zC rfl ha hW (e0.mpr (Ld.mk uf rfl rfl)) λa1 uj=>?_;refine u3 (g:=g) (n:=15) (s:=Instr.range 167 (.map (some b))) (K:=λv H=>∃bi,v=ptr bi/\H=(bi,.mapIter (some b) ck #[] ck)::(A++B)) hF rfl zC rfl uj rfl
  (Z5.run (.inr ⟨b,es,ck,rfl,lY,λbi _=>⟨bi,rfl,rfl⟩⟩) hW (t:=167) (kt:=226) (e:=110) zK) λv H' w1 a2 hv ju qt=>?_
 obtain⟨bi,rfl,rfl⟩:=hv;refine wpListIn_nil ?_;have pH:Own g (A++((bi,.mapIter (some b) ck #[] ck)::B)) w1:=ju.perm (xaS).symm;clear ju uj ha hW uf lY;refine wpIn_block ?_;refine uL (VAt g bi b l es ck m G B) (k:=(bS es m #[]).length) ⟨_,[],A,#[],qt,rfl,rfl,h0,pH,by rw[mz h];exact .refl _,rfl⟩ ?_;clear qt pH h0 e0 A;rintro k a w ⟨fr,ss,A,seen,ha,f0,f6,hG,hw,dc,hk⟩;refine wpIn_seq ?_;refine wpIn_region_lit ?_;have e6:ev fr (.tmp 6)=ptr bi:=f6;refine u3 (g:=g) (n:=15) (s:=Instr.next (ptr bi) false 0)
  (K:=λv H=>(bS es m seen=[]/\v=.tuple #[.bool false]/\H=A++((bi,.mapIter (some b) ck seen ck)::B))\/
   ∃(e:MapEntry) (x:Nd×Nat) (seen':Array Nat),v=.tuple #[.bool true,e.key,e.val]/\e.val=u32 x.2/\(bS es m seen).Perm (x::bS es m seen')/\seen'.back?=some e.born/\es.find? (·.born==e.born)=some e/\
    H=A++((bi,.mapIter (some b) ck seen' ck)::B)) hF rfl zC rfl ha ?_
  (XW.run (h.next (bi:=bi) (bm:=b) (seen:=seen) (H:=A++((bi,.mapIter (some b) ck seen ck)::B)) (xab _ (.tail _ (by rw[hB];exact .tail _ (.head _)))) (xab _ (.head _))
   (λe x seen' he hk hv hp hb hf=>⟨_,(c8.head _).cc A,.inr ⟨e,x,seen',rfl,hv,hp,hb,hf,rfl⟩⟩) (λhu=>.inl ⟨hu,rfl,rfl⟩)) hw) λv H' w1 a1 hv ju uj=>?_
 ·rw[e6.symm];rfl
 rcases hv with⟨hu,rfl,rfl⟩|⟨e,x,seen',rfl,Gb,hp,hbk,hfi,rfl⟩
 ·refine dD (g:=g) (n:=15) (v0:=.bool false) hF rfl zC rfl uj ju ⟨_,_,rfl,rfl,rfl⟩ λa2 qt=>?_;refine wpListIn_nil ?_;refine wpIn_seq ?_;refine wpIn_cond_false (by rw[qt.eval];rfl) ?_;refine wpIn_exit ?_;simp only[Exit.then,Exit.inBlock,xa7,bodyPost];refine⟨qt.defers,_,results_none rfl _ _ _,⟨_,rfl⟩,ss,A,?_,hG,(ju.perm xaS).tail⟩;rw[hu,xck,xaL]at dc;exact dc
 refine dD (g:=g) (n:=15) (v0:=.bool true) hF rfl zC rfl uj ju ⟨_,_,rfl,rfl,rfl⟩ λa2 qt=>?_;refine wpListIn_nil ?_;refine wpIn_seq ?_;refine wpIn_cond_true (by rw[qt.eval];rfl) ?_;refine wpIn_skip ?_;refine wpIn_block ?_;refine wpIn_seq ?_;refine wpIn_region_lit ?_;refine u3 (g:=g) (n:=15) (s:=Instr.entry (ptr bi)) (K:=λv H=>v=.tuple #[e.key,e.val]/\H=A++((bi,.mapIter (some b) ck seen' ck)::B)) hF rfl zC rfl qt ?_ ?_ λv H' w2 a3 hv pH uD=>?_
 ·rw[e6.symm];rfl
 ·obtain⟨v,hr,hv⟩:=Ku.run (P:=zQ) (k:=λv=>v=.tuple #[e.key,e.val]) ⟨bi,b,ck,seen',e.born,ck,es,e,rfl,xab _ (.head _),hbk,xab _ (.tail _ (by rw[hB];exact .tail _ (.head _))),hfi,rfl⟩ ju;exact⟨v,w1,_,hr,ju,hv,rfl⟩
 obtain⟨rfl,rfl⟩:=hv;refine dD (g:=g) (n:=15) (v0:=u32 x.2) hF rfl zC rfl uD pH ⟨_,_,rfl,rfl,Gb⟩ λa4 Gj=>?_;refine dD (g:=g) (n:=15) (v0:=u32 x.2) hF rfl zC rfl Gj pH (show u32 x.2=u32 x.2 from rfl) λa5 Gi=>?_;refine wpListIn_nil ?_;refine wpIn_seq ?_;refine wpIn_region_lit ?_;refine dD (g:=g) (n:=15) (v0:=.func (.yield l) #[] #[]) hF rfl zC rfl Gi pH f0 λa6 Gg=>?_;refine dD (g:=g) (n:=15) (v0:=u32 x.2) hF rfl zC rfl Gg pH (show u32 x.2=u32 x.2 from rfl) λa7 V4=>?_;have hlen:(bS es m seen).length=(bS es m seen').length+1:=by rw[hp.length_eq];rfl
 have hlt:ss.length<m.length:=by
  have:=dc.length_eq;simp only[xaf,xaC]at this⊢;omega
 obtain⟨fn,tmps,assign,body,hy,hR⟩:=hY _ x.2 A _ w2 hG hlt pH;refine wpListIn_plain rfl λK hK=>⟨λ_ _=>trivial,?_⟩;rw[Oper.semAt_eq _ _ _ zC,V4.eval];have hex:∀F7:Fr,F7=br (br (br (br (br (br (br fr (some 7) (.tuple #[.bool true,e.key,e.val])) (some 8) (.bool true)) (some 9) (.tuple #[e.key,e.val])) (some 10) (u32 x.2)) (some 4) (u32 x.2)) (some 11) (.func (.yield l) #[] #[])) (some 12) (u32 x.2)->(execOp (ev F7) (fE VF 3 2)).run zQ w2=.ok (.round l fn tmps assign body) w2:=λF7 hF7=>by
  have v11:ev F7 (.tmp 11)=.func (.yield l) #[] #[]:=by rw[hF7];rfl
  have v12:ev F7 (.tmp 12)=u32 x.2:=by rw[hF7];rfl
  have ZO:execOp (ev F7) (fE VF 3 2)=(do let d <-resolve (ev F7) {callee:=.value (.tmp 11),args:=#[.tmp 12],argTypes:=#[110]} 4;invoke d.target d.args):=rfl;rw[ZO];simp[resolve,Deferred.ofValue,v11,v12,invoke,go_sem,hy]
 refine(xcj (Oper.uponIn Fence.wide 0 zQ (fE VF 3 2) a7 K _) (hex _ rfl)).mpr ⟨λh=>(by cases h),hR.mono ?_⟩;rintro e' w3 ⟨rfl,A',hG',Vz⟩;refine hK _ _ ?_;have ha8:=V4.put (d:=some 13) rfl (.bool true);refine dD (g:=g) (n:=15) (v0:=.bool false) hF rfl zC rfl ha8 Vz ⟨_,rfl,rfl⟩ λa9 ha9=>?_;refine wpListIn_nil ?_;refine wpIn_cond_false (by rw[ha9.eval];rfl) ?_;refine wpIn_skip ?_;refine⟨(bS es m seen').length,by omega,_,ss++[x.2],A',seen',ha9,f0,f6,hG',Vz,?_,rfl⟩;rw[xaj];exact((hp.map Prod.snd).append_left ss).symm.trans dc
end
end
section
open aA
section
noncomputable abbrev AF:Func:=Tryz.f405
variable {f:FuncId} {cap:Array zV} {B:Hp} {N:Nat} {S:zL->Prop}
noncomputable def dx:Code:=match AF.body with|some (.seq _ (.seq (.seq _ (.block _ (.rangeFunc _ _ c _))) _))=>c|_=>.skip
noncomputable def fR:Code:=match AF.body with|some (.seq _ (.seq (.seq _ (.block _ (.rangeFunc _ _ _ c))) _))=>c|_=>.skip
noncomputable def WH(i:Nat):Oper:=match fR with| .block _ (.region _ ops _)=>(match ops[i]? with|some o=>o|none=>default)|_=>default
def mh(fn:FuncId)(tmps:Array zV)(assign body:Code)(D:Nat):Loop:={state:=.ready,pending:=none,fn,tmps,params:=#[7],assign,body,defers:=D}
def APG(l D bs:Nat)(fn:FuncId)(tmps:Array zV)(assign body:Code)(ss:zL)(A:Hp):Prop:=
 ∃v C',A=(l,.loop (mh fn tmps assign body D))::(D,.deferred (some []))::(bs,.cells #[v] 194 zZ)::C'/\aN 110 .u32 v (iw ss) C'
theorem Tm{g:Gh}{l D bs:Nat}{fn:FuncId}{tmps:Array zV}{fr:Fr}(hsz:tmps.size=13)(gT:∀s,tmps.getD s undef=fr s)(f2:fr 2=ptr bs){ss:zL}{x:Nat}{A X:Hp}{W:World}
 (hG:APG l D bs fn tmps dx fR ss A)(hl:ss.length<1099511627776)(hW:Own g (A++X) W):
  YieldAt Fence.wide 0 zQ l #[u32 x] W (λe W'=>e=.returned (.bool true)/\∃A',APG l D bs fn tmps dx fR (ss++[x]) A'/\Own g (A'++X) W'):=by
 obtain⟨v,C',rfl,ho⟩:=hG;have hF:∀f,(Fence.wide.inRound l).fn f:=λ_=>trivial;have hL:W.heap[l]? =some (.loop (mh fn tmps dx fR D)):=hW.has _ (.head _);refine⟨fn,_,dx,fR,run_yield hL rfl,roundIn_of_wpIn trivial ?_⟩;have ha:xN [] 13 {tmps:=tmps.setIfInBounds 7 (u32 x),defers:=[]} (br fr (some 7) (u32 x)):=(xN.put (a:={tmps:=tmps,defers:=[]}) (d:=some 7) ⟨rfl,hsz,gT⟩ rfl (u32 x));have ha:xN [] 13 {tmps:=(#[7].zip #[u32 x]).foldl (λtmps (t,a)=>tmps.setIfInBounds t a) tmps,defers:=[]} (br fr (some 7) (u32 x)):=by simpa using ha
 change Code.wpIn _ 0 zQ (.region _ #[_] false) _ _ _;refine wpIn_region_lit ?_;refine dD (g:=g) (n:=13) (v0:=u32 x) hF rfl zC rfl ha hW rfl λa1 uj=>?_;refine wpListIn_nil ?_;have hbr:=run_beginRound (P:=zQ) hL rfl;refine⟨_,hbr,?_⟩;have DC:=hW.putObj (o':=.loop {mh fn tmps dx fR D with state:=.busy}) (.head _);change Code.wpIn _ 0 zQ (.block _ (.region _ #[_,_,_,_,_] false)) _ _ _;refine wpIn_block ?_;refine wpIn_region_lit ?_;obtain⟨H1,ZK⟩:∃H1,H1=(l,Obj.loop {mh fn tmps dx fR D with state:=.busy})::(((D,.deferred (some []))::(bs,.cells #[v] 194 zZ)::C')++X):=⟨_,rfl⟩
 replace DC:Own g H1 (W.putObj l (.loop {mh fn tmps dx fR D with state:=.busy})):=by rw[ZK];exact DC
 have e0:AS zQ g (WH 0) (ev (br (br fr (some 7) (u32 x)) (some 5) (u32 x))) H1 (λz=>z=v)=Ld H1 (fr 2) (λz=>z=v):=by kernel_rfl
 refine dD (g:=g) (n:=13) (v0:=v) hF rfl zC rfl uj DC (e0.mpr (by rw[f2];exact Ld.mk (by rw[ZK];exact .tail _ (.tail _ (.head _))) rfl rfl)) λa2 qt=>?_;refine dD (g:=g) (n:=13) (v0:=u32 x) hF rfl zC rfl qt DC rfl λa3 uD=>?_;have eb:∀K:zV->Hp->Prop,az zQ 194 1 [(0,.int .u32 (x:Int))] H1 K=M1 zQ g (WH 2) (ev (br (br (br (br fr (some 7) (u32 x)) (some 5) (u32 x)) (some 8) v) (some 9) (u32 x))) H1 K (λ_ _=>False):=λK=>by kernel_rfl
 refine yC (g:=g) (n:=13) (s:=_) (K:=λv H=>∃b,v=.slice (some ⟨b,0,none⟩) 1 1/\H=(b,.cells (av .u32 [(x:Int)]) 110 zZ)::H1) hF rfl zC rfl uD DC rfl
  ((eb _).mp (az.int zK zK zK λb=>⟨b,rfl,rfl⟩)) λv1 H2 w2 a4 hv Sf Gj=>?_
 obtain⟨b,rfl,rfl⟩:=hv;have hn:(iw ss).length=ss.length:=ak ss;obtain⟨H2,hH2⟩:∃H2,H2=(b,Obj.cells (av .u32 [(x:Int)]) 110 zZ)::H1:=⟨_,rfl⟩;rw[<-hH2]at Sf;refine yC (g:=g) (n:=13) (s:=_) (K:=λv' H=>∃C2,aN 110 .u32 v' (iw (ss++[x])) C2/\H=(b,Obj.cells (av .u32 [(x:Int)]) 110 zZ)::(l,Obj.loop {mh fn tmps dx fR D with state:=.busy})::(D,.deferred (some []))::(bs,.cells #[v] 194 zZ)::(C2++X))
  hF rfl zC rfl Gj Sf (by simp only[execOp,resolve,invoke,builtin];simp[bind,Sem.bind];rfl) ?_ λv2 H3 w3 a5 hv Bd Gi=>?_
 ·have e1:∀K:zV->Hp->Prop,App zQ 110 1 4 (.int .u32 0) H2 v (.slice (some ⟨b,0,none⟩) 1 1) K=
   M1 zQ g (WH 3) (ev (br (br (br (br (br fr (some 7) (u32 x)) (some 5) (u32 x)) (some 8) v) (some 9) (u32 x)) (some 10) (.slice (some ⟨b,0,none⟩) 1 1))) H2 K (λ_ _=>False):=λK=>by kernel_rfl
  refine(e1 _).mp ?_;rw[hH2,ZK];refine ho.rX (.cons (.cons (.cons (.cons .left)))) (by exact .head _) zO zO λv' C2 r9=>⟨C2,?_,rfl⟩;rw[bY];exact r9
 obtain⟨C2,r9,rfl⟩:=hv;have es:∀(H:Hp) (K:zV->Hp->Prop),St 1 H (fr 2) v2 (λH'=>K undef H')=M1 zQ g (WH 4) (ev (br (br (br (br (br (br fr (some 7) (u32 x)) (some 5) (u32 x)) (some 8) v) (some 9) (u32 x)) (some 10) (.slice (some ⟨b,0,none⟩) 1 1)) (some 11) v2)) H K (λ_ _=>False):=λH K=>by kernel_rfl
 refine W8 (g:=g) (n:=13) (s:=_) (K:=λ_ H=>H=(b,Obj.cells (av .u32 [(x:Int)]) 110 zZ)::(l,Obj.loop {mh fn tmps dx fR D with state:=.busy})::(D,.deferred (some []))::(bs,.cells #[v2] 194 zZ)::(C2++X))
  hF rfl zC rfl Gi Bd rfl ((es _ _).mp ?_) λH4 w4 a6 hv V5 Gg=>?_
 ·rw[f2];exact St.one (.tail (.tail (.tail (.head _)))) r9.one zI rfl rfl
 subst hv;refine wpListIn_nil ?_;simp only[Exit.inBlock,roundPost];refine⟨_,_,run_endRound none (V5.has _ (.tail _ (.head _))),rfl,_,⟨v2,C2,rfl,r9⟩,?_⟩;exact(V5.putObj (.tail (.head _))).tail
theorem Oj(hg:tW zQ f cap B u32 N S)(hc:aU zQ f=true)(hN:N<=1099511627776):
  Fc zQ 405 #[.slice none 0 0,.func (.func f) #[] cap] B (λv H=>∃ss C',S ss/\H=C'++B/\aN 110 .u32 v (iw ss) C'):=by
 intro g w hw;rw[<-callsIn_wide (n:=0)];have hF:∀f,Fence.wide.fn f:=λ_=>trivial;refine callsIn_of_wp_marks func405 rfl trivial ?_;have ha:=m6 (m:=13) (args:=[.slice none 0 0,.func (.func f) #[] cap]) zI;refine wpIn_seq ?_;refine wpIn_region_lit ?_;refine yC (g:=g) (n:=13) (s:=_) (K:=λv H=>∃bs,v=ptr bs/\H=(bs,.cells #[.slice none 0 0] 194 zZ)::B) hF rfl zC rfl ha hw rfl (λbs _=>⟨bs,rfl,rfl⟩) λv H1 w1 a1 hv ju uj=>?_;obtain⟨bs,rfl,rfl⟩:=hv;refine dD (g:=g) (n:=13) (v0:=.slice none 0 0) hF rfl zC rfl uj ju rfl λa2 qt=>?_;refine wpListIn_nil ?_;refine wpIn_seq ?_;refine wpIn_seq ?_;refine wpIn_region_lit ?_;refine dD (g:=g) (n:=13) (v0:=.func (.func f) #[] cap) hF rfl zC rfl qt ju rfl λa3 uD=>?_;refine wpListIn_nil ?_;refine wpIn_block ?_;refine wpIn_rangeFunc λfn hfn=>?_;have x5:=(ju.alloc (.deferred (some []))).alloc (.loop (mh fn a3.tmps dx fR w1.heap.size));have f6:a3.tmps[6]?.getD undef=.func (.func f) #[] cap:=by have:=uD.get 6;rw[xat]at this;exact this
 obtain⟨W1,DC⟩:∃W1,W1=(w1.alloc (.deferred (some []))).alloc (.loop (mh fn a3.tmps dx fR w1.heap.size)):=⟨_,rfl⟩;rw[<-DC]at x5;refine⟨w1.heap.size+1,[{target:=.collected w1.heap.size,args:=#[]}],W1,{target:=.fn (.func f) cap,args:=#[.func (.yield (w1.heap.size+1)) #[] #[]]},W1,f,#[.func (.yield (w1.heap.size+1)) #[] #[]]++cap,W1,?_,?_,λ_ _=>trivial,?_,λh=>(by cases h),?_⟩
 ·rw[DC];exact run_enterLoop_outer fn a3.tmps #[7] _ _
 ·simp[resolve,Deferred.ofValue,f6,go_sem]
 ·simp[invoke,go_sem];exact eE hc _ _
 have hsz:(w1.alloc (.deferred (some []))).heap.size=w1.heap.size+1:=by simp
 rw[hsz]at x5;refine CallsIn.mono (hg g (w1.heap.size+1) (APG (w1.heap.size+1) w1.heap.size bs fn a3.tmps dx fR) (λss x A X W hG hl hW=>Tm uD.size uD.get rfl hG zO hW) [_,_,_] W1 ⟨_,[],rfl,aN.nil⟩ x5) ?_;rintro e W2 ⟨⟨v0,rfl⟩,ss,A',hS,⟨v,C',rfl,ho⟩,Sf⟩;refine⟨none,_,run_endLoop (Sf.has _ (.head _)) (by simp[mh]),?_⟩;have Bd:=Sf.putObj (o':=.loop {mh fn a3.tmps dx fR w1.heap.size with state:=.exhausted}) (.head _);simp only[Exit.then,Exit.inBlock];have Gj:xN [{target:=.collected w1.heap.size,args:=#[]}] 13 {a3 with defers:=[{target:=.collected w1.heap.size,args:=#[]}]++a3.defers} (br (br (br (gQ [.slice none 0 0,.func (.func f) #[] cap] 0) (some 2) (ptr bs)) (some 4) (.slice none 0 0)) (some 6) (.func (.func f) #[] cap)):=
  ⟨by rw[uD.defers];rfl,uD.size,uD.get⟩
 refine wpIn_seq ?_;refine wpIn_region_lit ?_;obtain⟨H3,ZJ⟩:∃H3,H3=(w1.heap.size+1,Obj.loop {mh fn a3.tmps dx fR w1.heap.size with state:=.exhausted})::(((w1.heap.size,.deferred (some []))::(bs,.cells #[v] 194 zZ)::C')++B):=⟨_,rfl⟩
 replace Bd:Own g H3 (W2.putObj (w1.heap.size+1) (.loop {mh fn a3.tmps dx fR w1.heap.size with state:=.exhausted})):=by rw[ZJ];exact Bd
 have e0:AS zQ g (fE AF 4 0) (ev (br (br (br (gQ [.slice none 0 0,.func (.func f) #[] cap] 0) (some 2) (ptr bs)) (some 4) (.slice none 0 0)) (some 6) (.func (.func f) #[] cap))) H3 (λz=>z=v)=Ld H3 (ptr bs) (λz=>z=v):=by kernel_rfl
 refine dD (g:=g) (n:=13) (v0:=v) hF rfl zC rfl Gj Bd (e0.mpr (Ld.mk (by rw[ZJ];exact .tail _ (.tail _ (.head _))) rfl rfl)) λa5 Gi=>?_;refine dD (g:=g) (n:=13) (v0:=v) hF rfl zC rfl Gi Bd rfl λa6 Gg=>?_;refine wpListIn_nil ?_;refine wpIn_ret ?_;simp only[Exit.then,bodyPostM];rw[Gg.defers];rw[ZJ]at Bd;refine⟨by simp,.inl ⟨w1.heap.size,_,rfl,run_takeDeferred (Bd.has _ (.tail _ (.head _))),?_⟩⟩;have V5:=Bd.putObj (o':=.deferred none) (.tail (.head _));refine⟨_,results_tmp rfl _ _ _,C'++B,V5.tail.tail.tail,v,C'++B,?_,.refl _,ss,C',hS,rfl,ho⟩;have:=Gg.get 4;rw[this];rfl
end
section
variable {f:FuncId} {cap:Array zV} {B:Hp} {N:Nat} {S:zL->Prop}
theorem Gw(hg:tW zQ f cap B u32 N S)(hc:aU zQ f=true)(hN:N<=1099511627776):
  Fc zQ 400 #[.func (.func f) #[] cap] B (λv H=>∃ss C',S ss/\H=C'++B/\aN 110 .u32 v (iw ss) C'):=by
 refine aF λg=>GV (aa.fq (Oj hg hc hN) ?_);rintro v H h;exact aM.here h
theorem UY{l':List Int}{ss:zL}(h:l'.Perm (iw ss)):∃l:zL,l.Perm ss/\l'=iw l:=by
 refine⟨l'.map Int.toNat,?_,?_⟩
 ·have:=h.map Int.toNat;rw[iw,xb2]at this;have e:(Int.toNat∘(Nat.cast:Nat->Int))=id:=by funext x;simp
  rw[e,xey]at this;exact this
 unfold iw;rw[xb2];have:∀x∈l',((Nat.cast:Nat->Int)∘Int.toNat) x=x:=λx hx=>by
  obtain⟨n,_,rfl⟩:=xan.1 (h.mem_iff.1 hx);simp
 rw[xbq this,List.map_id']
theorem MB(hg:tW zQ f cap B u32 N S)(hS:∀ss,S ss->ss.length<=N)(hc:aU zQ f=true)(hN:N<=1099511627776):
  Fc zQ 391 #[.func (.func f) #[] cap] B (λv H=>∃ss l C',S ss/\l.Perm ss/\H=C'++B/\aN 110 .u32 v (iw l) C'):=by
 refine aF λg=>G4 (aa.fq (Gw hg hc hN) ?_);rintro v H ⟨ss,C',hs,rfl,ho⟩;have hlen:=hS ss hs;refine aa.fn (.left (A:=B)) (UA ho (by rw[ak];omega)) ?_;rintro w C2 ⟨rfl,cA⟩;rw[KK]at cA;exact aM.here ⟨ss,_,C2,hs,lj ss,rfl,cA⟩
end
theorem UN{pt n v:Nat}{T:Nd->Option Nat}{C:Hp}(h:og pt n T C)(hv:v<n)(hinj:∀d d' r,T d=some r->T d'=some r->d=d')(hb:∀d r,T d=some r->r<1048576):
  Fc zQ 366 #[ptr pt,iv (v:Int)] C (λr H=>∃w l N,r=.tuple #[w,iv 0]/\H=N++C/\aN 110 .u32 w (iw l) N/\l.Nodup/\∀r,r∈l↔∃d,T d=some r/\d.v=v):=by
 have h0:=h;obtain⟨vs,Cs,ms,rfl,hs,ho⟩:=h;obtain⟨m,hm⟩:∃m,ms[v]? =some m:=⟨_,xaa (by rw[ho.len];exact hv)⟩;have he:=ho.dL v m hm;have hT:∀d:Nd,d.v=v->T d=aJ m.l d:=λd hd=>by rw[ho.T,hd,hm];rfl
 have hmem:∀d r,(d,r)∈m.l↔T d=some r/\d.v=v:=λd r=>by
  constructor
  ·intro hx;have hd:=ho.var v m hm _ hx;exact⟨by rw[hT d hd];exact(dW he.nd).2 hx,hd⟩
  rintro⟨h1,h2⟩;rw[hT d h2]at h1;exact(dW he.nd).1 h1
 have fO:(m.l.map Prod.snd).Nodup:=by
  refine xcc.2 ((xcc.1 he.nd).imp_of_mem λ{a b} ha hb' hne e=>hne ?_);have h1:=((hmem a.1 a.2).1 ha).1;have h2:=((hmem b.1 b.2).1 hb').1;rw[<-e]at h2;exact hinj _ _ _ h1 h2
 have hlen:m.l.length<=1048576:=by
  have:=cv (l':=List.range 1048576) fO λx hx=>by
   obtain⟨y,hy,rfl⟩:=xan.1 hx;exact xaM.2 (hb _ _ ((hmem y.1 y.2).1 hy).1)
  simpa using this
 refine aF λg=>Hs (aa.eq (k8 h0 hv) (ae.cD (Br.F (Nil.ptr ?_))));refine ai.mk (Ld.mk zM rfl ?_);refine hs.Xd (x:=.map (some m.b)) (by rw[xau,hm];rfl) (λ_ h=>by exact .tail _ (xae _ h)) ?_;refine aa.fq (Mp (b:=m.b) _) ?_;rintro w H ⟨bm,rfl,rfl⟩;obtain⟨X,Y,hXY⟩:=xdc (ri hm);have dc:((bm,Obj.cells #[.map (some m.b)] 167 zZ)::(pt,.cells #[vs] 166 zZ)::(Cs++M8 ms)).Perm
   ([(bm,.cells #[.map (some m.b)] 167 zZ),(m.b,.map m.es m.ck)]++((pt,.cells #[vs] 166 zZ)::(Cs++(X++Y)))):=by
  rw[hXY];refine .cons _ ?_;show((pt,_)::(Cs++(X++(m.b,_)::Y))).Perm ((m.b,_)::(pt,_)::(Cs++(X++Y)));refine .trans (.cons _ ?_) (.swap _ _ _);rw[<-xaj,<-xaj];exact xaS
 refine aa.pre (.perm dc) ?_;refine aa.fq (MB (EV he) (λss YR=>by rw[YR.length_eq,xaC];exact xag _) zK zO) ?_;rintro w H ⟨ss,l,C',YR,hl,rfl,hown⟩;have qK:l.Perm (m.l.map Prod.snd):=hl.trans YR;refine aM.mk (nB:=C'++((pt,.cells #[vs] 166 zZ)::(Cs++M8 ms))) ?_ ⟨w,l,C',rfl,rfl,hown,qK.nodup_iff.2 fO,λr=>?_⟩
 ·rw[xaj];refine aL.cU ?_ C';exact(aL.perm dc.symm).trans .tail
 rw[qK.mem_iff,xan];constructor
 ·rintro⟨y,hy,rfl⟩;exact⟨y.1,(hmem y.1 y.2).1 hy⟩
 rintro⟨d,hd⟩;exact⟨(d,r),(hmem d r).2 hd,rfl⟩
end
end Go.Proofs
namespace Go.Sx
open Go
section
variable {P:Program} {g:Gh} {H:Hp} {κ β:Type} [DecidableEq κ] {ke:κ->zV} {vr:zV->β->Prop} {es:Array MapEntry} {ck b:Nat} {m:List (κ×β)} {K:zV->Hp->Prop} {KP:List PanicEntry->Hp->Prop}
omit [DecidableEq κ] in
theorem aE.sameKey(h:aE ke vr es ck m){i:Nat}{k:κ}{x:β}(hi:m[i]? =some (k,x)):es.modify i (λe=>{e with key:=ke k})=es:=by
 apply Array.ext_getElem?;intro j;rw[xbY];split
 ·rename_i e;subst e;cases he:es[i]? with
  |none=>rfl
  |some e0=>rw[xci,<-(h.key i e0 _ he hi).1]
 ·rfl
theorem aE.Wu{o:Oper}{ρ:Operand->zV}{t kt e:TypeId}{kd:TypeDesc}{mo ko:Operand}{z:zV}{k:κ}{y0:β}(hk:∀a b,BA P kt (ke a) (ke b) (decide (a=b)))(hc:∀a,mu P kt (ke a))(hb:∀a,Instr.sameBits 10000 (ke a) (ke a)=true)
 (ho:o.op=.mapEntry t mo ko)(hm':ρ mo=.map (some b))(hk':ρ ko=ke k)(ht:P.underlying t=some (.map kt e))(Dz:P.underlying kt=some kd)(acJ:cR kd=true)(hzd:fS P e=some z)(hvz:vr z y0)
 (h:aE ke vr es ck m){c:Obj->Hp}(R2:∀o o',c8 b o o' (c o) (c o'))
 (h1:∀es' bB v st,aE ke vr es' bB (if k∈m.map Prod.fst then m else m++[(k,y0)])->(∃e∈es'.toList,e.born=st)->K (.tuple #[v,.int .i64 (st:Int)]) (c (.map es' bB))):oq P g o ρ (c (.map es ck)) K KP:=by
 have x6:(b,Obj.map es ck)∈c (.map es ck):=(R2 _ (.map es ck)).mem;obtain⟨i,hi,x7⟩:=cH hzd;refine oq.ofValue (s:=Instr.mapEntry t (.map (some b)) (ke k)) (by simp only[execOp,ho,hm',hk']) λw hw=>?_;have fI:=λb=>hc k b w;rcases h.DQ hk k with⟨j,x,e0,g1,g2,g3,g4⟩|⟨g1,g2⟩
 ·have pn:=gL (P:=P) Dz acJ g4 w;have hj:=(xaU.1 g1).1;have hkey:es[j].key=ke k:=(h.key j _ _ (xbx hj) g2).1;have hmem:k∈m.map Prod.fst:=xan.2 ⟨_,xav g2,rfl⟩;obtain⟨w',hs,hown⟩:=bT (P:=P) hw (es.modify j λe=>{e with key:=ke k}) ck (by rw[h.sameKey g2];exact R2 _ (.map es ck));refine⟨.tuple #[e0.val,.int .i64 (es[j].born:Int)],w',_,?_,hown,h1 es ck e0.val es[j].born (by rw[xad hmem];exact h) ⟨es[j],by simp,rfl⟩⟩;simp[Instr.mapEntry,run_underlying ht,aY hw x6,fI,pn,hj,Instr.keyThatStays,hkey,hb k,hs,goInt]
 have pn:=gL (P:=P) Dz acJ g2 w;obtain⟨w',hs,hown⟩:=bT (P:=P) hw (es.push {key:=ke k,val:=z,born:=ck}) (ck+1) (R2 _ _);have lY:=h.more (k:=k) g1 hvz;have e2:ef m k y0=m++[(k,y0)]:=by unfold ef;rw[xac g1]
 rw[e2]at lY;refine⟨.tuple #[z,.int .i64 (ck:Int)],w',_,?_,hown,h1 _ _ z ck (by rw[xac g1];exact lY) ⟨_,by rw[xeh];exact xab _ (.head _),rfl⟩⟩;simp[Instr.mapEntry,run_underlying ht,aY hw x6,fI,pn,dU hi x7,hs,goInt]
omit [DecidableEq κ] in
theorem aE.Uw{o:Oper}{ρ:Operand->zV}{t:TypeId}{mo so xo:Operand}{st:Nat}(ho:o.op=.entryStore t mo so xo)(hm':ρ mo=.map (some b))(hs':ρ so=.int .i64 (st:Int))
 (h:aE ke vr es ck m)(hst:∃e∈es.toList,e.born=st)(hv:∀x,vr (ρ xo) x){c:Obj->Hp}(R2:∀o o',c8 b o o' (c o) (c o'))
 (h1:∀es',aE ke vr es' ck m->K undef (c (.map es' ck))):oq P g o ρ (c (.map es ck)) K KP:=by
 have x6:(b,Obj.map es ck)∈c (.map es ck):=(R2 _ (.map es ck)).mem;refine oq.sF (s:=Instr.entryStore t (.map (some b)) (.int .i64 (st:Int)) (ρ xo)) (by simp only[execOp,ho,hm',hs']) λw hw=>?_;obtain⟨i,hi⟩:∃i,es.findIdx? (λe=>(e.born:Int)==(st:Int))=some i:=by
  obtain⟨e,he,rfl⟩:=hst;rw[<-xdF,Array.findIdx?_isSome];rw[Array.any_eq_true'];exact⟨e,by simpa using he,by simp⟩
 obtain⟨w',hs,hown⟩:=bT (P:=P) hw (es.modify i λe=>{e with val:=ρ xo}) ck (R2 _ _);have hbn:((es.modify i λe=>{e with val:=ρ xo}).toList.map MapEntry.born)=es.toList.map MapEntry.born:=by
  apply xbg;intro j;simp only[xau,xbf,xbY];split
  ·cases es[j]? <;>rfl
  rfl
 refine⟨w',_,?_,hown,h1 _ ⟨by simp[h.len],λj e x he hx=>?_,h.nd,by rw[hbn];exact h.born,λe he=>?_⟩⟩
 ·simp only[Instr.entryStore,Sem.run_bind,aY hw x6,Result.andThen_ok,asInt,asIntOf,Sem.run_pure];simp only[hi,hs]
 ·rw[xbY]at he;split at he
  ·cases h0:es[j]? with
   |none=>rw[h0]at he;simp at he
   |some e0=>
    rw[h0]at he;simp only[xci,xas]at he;subst he;exact⟨(h.key j _ _ h0 hx).1,hv _⟩
  exact h.key j _ _ he hx
 have:e.born∈(es.modify i λe=>{e with val:=ρ xo}).toList.map MapEntry.born:=xaT he;rw[hbn]at this;obtain⟨e0,h1,h2⟩:=xan.1 this;rw[<-h2];exact h.lt e0 h1
end
theorem bI.out{C H:Hp}{c:Hp->Hp}(h:bI C H c)(N:Hp):aL (c (N++C)) (N++H):=by
 obtain⟨e,F,hp⟩:=h.spec;refine .perm ((hp (N++C)).trans ?_);rw[xaj];refine xbZ N ?_;have:=hp C;rw[<-e]at this;exact this.symm
end Go.Sx
set_option maxRecDepth 100000
namespace Go.Proofs
open Go Go.Sx Tryz
section
open aA
section
variable {kp:Nat} {K:Kd} {ord ah tr:zL} {C:Hp} {S:Nat->aA.Fn}
def BD(N:eH)(r:Nat):Int:=match N r with|some d=>(d.v:Int)|none=> -1
theorem DG{N:eH}{r:Nat}(hl:live N r)(h2:∀d,N r=some d->2<=r):∃lo hi,got N r=[iv (BD N r),u32 lo,u32 hi]/\∀e,N r=some e->lo=e.lo/\hi=e.hi:=by
 cases h:N r with
 |some d=>
  refine⟨d.lo,d.hi,?_,λe he=>by cases he;exact⟨rfl,rfl⟩⟩;rw[dY h (h2 d h)];simp[bu,BD,h]
 |none=>
  have hr:r<2:=by
   rcases hl with hl|⟨d,hd⟩
   ·exact hl
   rw[h]at hd;cases hd
  refine⟨r,r,?_,λe he=>by cases he⟩;rw[fJ hr];simp[BD,h]
theorem CB(h:cT kp K ord ah tr C){r:Nat}(hr:r<4294967296)(hl:live K.N r)(h2:∀d,K.N r=some d->2<=r)(y:Nat):
  Rd zQ 367 #[ptr kp,u32 r,iv (y:Int)] C (· =.tuple #[u32 (pl K.N y r),u32 (ph K.N y r)]):=by
 have h0:=h;obtain⟨b,rfl,hO⟩:=h;obtain⟨lo,hi,hg,he⟩:=DG hl h2;refine aF λg=>Hr (Nil.ptr (ai.mk (aa.eq (nS h0 hr) ?_)));intro b5 _;refine St.whole (r:=got K.N r) (by exact .head _) rfl (aQ _ _).1 (aQ _ _).2 ?_;rw[hg];refine Ld.f ?_;refine ae.gI (Br.dec (λe=>?_) (λe=>?_))
 ·refine Ld.f ?_;refine Ld.f ?_;cases hN:K.N r with
  |none=>simp[BD,hN]at e<;>omega
  |some d=>
   obtain⟨rfl,rfl⟩:=he d hN;have hv:d.v=y:=by simp[BD,hN]at e;omega
   obtain⟨e1,e2⟩:=UT hN hv;exact aZ.mk .tail (by rw[e1,e2];rfl)
 obtain⟨e1,e2⟩:=UU (N:=K.N) (y:=y) (r:=r) λd hd=>by simp[BD,hd]at e<;>omega
 exact aZ.mk .tail (by rw[e1,e2])
def mw(c:Cx):List zV:=[u32 c.r,iv (c.d.v:Int),u32 c.d.lo,u32 c.d.hi,u32 c.yg,u32 c.yf,u32 c.tR,u32 c.tQ]
theorem mc(c:Cx):∀x∈mw c,x.oneCell'=true:=by intro x hx;simp[mw,u32]at hx;rcases hx with rfl|rfl|rfl|rfl|rfl|rfl|rfl|rfl<;>rfl
structure yo(N:eH)(x y:Nat)(l:zL)(all:List Cx):Prop where
 nd:(all.map Cx.r).Nodup
 mem:∀c,c∈all↔c.r∈l/\mW N x y c.r c.d/\c=n7 N y c.r c.d
theorem yo.skip{N:eH}{x y r:Nat}{l:zL}{all:List Cx}{d:Nd}(h:yo N x y l all)(hd:N r=some d)(hn:¬mW N x y r d):yo N x y (l++[r]) all where
 nd:=h.nd
 mem:=λc=>by
  rw[h.mem,xao];constructor
  ·rintro⟨h1,h2⟩;exact⟨.inl h1,h2⟩
  rintro⟨h1|h1,h2,h3⟩
  ·exact⟨h1,h2,h3⟩
  simp at h1;have:=h2.1;rw[h1,hd]at this;cases this;rw[h1]at h2;exact absurd h2 hn
theorem yo.more{N:eH}{x y r:Nat}{l:zL}{all:List Cx}{d:Nd}(h:yo N x y l all)(hr:r∉l)(hn:mW N x y r d):yo N x y (l++[r]) (all++[n7 N y r d]) where
 nd:=by
  rw[xaJ];refine xa5.2 ⟨h.nd,by simp,λa ha b hb e=>?_⟩;simp[n7]at hb;subst e;obtain⟨c,hc,rfl⟩:=xan.1 ha;exact hr (hb▸((h.mem c).1 hc).1)
 mem:=λc=>by
  rw[xao,h.mem,xao,xaI,xaI];constructor
  ·rintro(⟨h1,h2⟩|rfl)
   ·exact⟨.inl h1,h2⟩
   exact⟨.inr rfl,hn,rfl⟩
  rintro⟨h1|h1,h2,h3⟩
  ·exact .inl ⟨h1,h2,h3⟩
  right;have h4:=h2.1;rw[h1,hn.1]at h4;cases h4;exact h3.trans (by rw[h1])
theorem yo.all{N:eH}{x y:Nat}{l:zL}{all:List Cx}(h:yo N x y l all)(hl:∀r d,N r=some d->d.v=x->r∈l):L8 N x y all where
 nd:=h.nd
 mem:=λc=>by
  rw[h.mem];exact⟨λh=>h.2,λh=>⟨hl _ _ h.1.1 h.1.2.1,h⟩⟩
theorem AT(h:cT kp K ord ah tr C){r:Nat}(hl:live K.N r)(h2:∀d,K.N r=some d->2<=r){H:Hp}{c:Hp->Hp}(hh:bI C H c){g:Gh}{Q:zV->Hp->Prop}{KP:List PanicEntry->Hp->Prop}
 (hk:∀lo hi,got K.N r=[iv (BD K.N r),u32 lo,u32 hi]->(∀e,K.N r=some e->lo=e.lo/\hi=e.hi)->Q (.agg #[iv (BD K.N r),u32 lo,u32 hi]) H):aa zQ g 287 #[ptr kp,u32 r] H Q KP:=by
 have hr:=h.lt hl;obtain⟨lo,hi,hg,he⟩:=DG hl h2;refine aa.eh hh (nS h zO) ?_;have:=hk lo hi hg he;rw[hg];exact this
theorem Bk(h:cT kp K ord ah tr C)(hok:Ok K S (lv ah)){x y:Nat}(hx:x<K.n):
  Fc zQ 297 #[ptr kp,iv (x:Int),iv (y:Int)] C (λr H=>∃all Na,H=Na++C/\bg 367 8 r (all.map mw) Na/\L8 K.N x y all/\all.length<=1048576):=by
 have hcap:=h.cap;have h0:=h;obtain⟨b,hC,hO⟩:=h;have VE:∀d r,K.T d=some r↔K.N r=some d:=λd r=>by rw[hok.mid.j5];exact⟨λh=>h.1,λh=>⟨h,λx=>x⟩⟩
 have two:∀{r d},K.N r=some d->2<=r:=λhd=>(hok.mid.two hd).1;refine aF λg=>Io ?_;rw[hC];refine Nil.ptr (ai.mk (ai.mk (Ld.q ?_)));refine aa.fq (UN hO.ut hx (λd d' r h1 h2=>by rw[VE]at h1 h2;rw[h1]at h2;cases h2;rfl) (λd r h1=>by have:=(hok.mid.two ((VE d r).1 h1)).2;omega)) ?_;rintro w H ⟨sl,l,Nr,rfl,rfl,Xq,fO,hmem⟩;refine Ext.two (Xq.bP ?_);rw[ak];have hl:∀r∈l,∃d,K.N r=some d/\d.v=x:=λr hr=>by obtain⟨d,h1,h2⟩:=(hmem r).1 hr;exact⟨d,(VE d r).1 h1,h2⟩
 have hlen:l.length<=1048576:=by
  have:=cv (l':=List.range 1048576) fO λr hr=>by
   obtain⟨d,hd,_⟩:=hl r hr;have:=(hok.mid.two hd).2;exact xaM.2 zO
  simpa using this
 refine⟨λvs H=>∃(v:zV) (i:Nat) (all:List Cx) (Na:Hp),vs=[v,iv (i:Int)]/\H=Na++(Nr++C)/\i<=l.length/\bg 367 8 v (all.map mw) Na/\yo K.N x y (l.take i) all/\all.length<=i,
  λvs _=>l.length-bL vs 1,JE.of (bI.out (C:=b.CT) (.cons (.app .left)) Nr) ⟨_,0,[],[],rfl,by rw[hC];rfl,xaN _,bg.nil _ _,⟨by simp,by simp⟩,xag _⟩,?_⟩
 rintro w w' H ⟨v,i,all,Na,hw,rfl,hi,ho,BM,V0⟩ gs;simp only[xaw,xa2]at hw;obtain⟨rfl,rfl⟩:=hw;refine ae.fk (Br.dec (λhlt=>?_) (λhge=>?_));rotate_left
 ·have:i=l.length:=by omega
  subst this;rw[xbl]at BM;refine aM.mk (nB:=Na++C) ?_ ⟨all,Na,by rw[hC],ho,BM.all λr d hd hv=>(hmem r).2 ⟨d,(VE d r).2 hd,hv⟩,by omega⟩;exact aL.cU .right Na
 obtain⟨r,EE⟩:∃r,l[i]? =some r:=⟨_,xaa hlt⟩;have nv:l.take (i+1)=l.take i++[r]:=by rw[xbH,EE];rfl
 have hrn:r∉l.take i:=λhm=>by
  have:(l.take (i+1)).Nodup:=fO.sublist (xdO _ _);rw[nv]at this;exact(xa5.1 this).2.2 r hm r zI rfl
 obtain⟨d,hd,kZ⟩:=hl r (xav EE);have Zr:=hok.mid.lo hd;have Zs:=hok.mid.hi hd;intro J17 Gl;have next:∀v' Tu Na',bg 367 8 v' (Tu.map mw) Na'->yo K.N x y (l.take (i+1)) Tu->Tu.length<=i+1->J17 [v'] (Na'++(Nr++C)):=λv' Tu Na' h1 h2 h3=>
  Gl _ _ λgs=>ae.inc (aC.mk ⟨v',i+1,Tu,Na',rfl,rfl,by omega,h1,h2,h3⟩ (by simp[bL];omega))
 refine Xq.ld (x:=(r:Int)) (cQ EE) (λy hy=>xab _ (xae _ hy)) (Nil.ptr (ai.mk (AT h0 (.inr ⟨d,hd⟩) (λ_ h=>two h) (.app (.app .here)) λlo hi hg he=>?_)));obtain⟨rfl,rfl⟩:=he d hd;have hvr:BD K.N r=(x:Int):=by simp[BD,hd,kZ]
 rw[hvr];intro b28 _;refine St.p (by intro z hz;simp[u32]at hz;rcases hz with rfl|rfl|rfl<;>rfl) ?_;obtain⟨H0,Wc⟩:∃H0,H0=(b28,Obj.cells #[iv (x:Int),u32 d.lo,u32 d.hi] 226 zZ)::(Na++(Nr++C)):=⟨_,rfl⟩;have hEq:((b28,Obj.cells [Value.int .i64 (x:Int),u32 d.lo,u32 d.hi].toArray 226 zZ)::(Na++(Nr++C)))=H0:=Wc.symm;rw[hEq];intro J31 Sp;have skip:¬mW K.N x y r d->J31 [.bool true] H0:=λhn=>Sp _ _ λgs=>Br.yes (JE.of (by rw[Wc];exact .tail) (next w all Na ho (by rw[nv];exact BM.skip hd hn) zO));have take:mW K.N x y r d->J31 [.bool false] H0:=λhn=>by
  refine Sp _ _ λgs=>Br.no ?_;rw[Wc];refine ax.q ?_;refine Build.mk (cs:=mw ⟨r,⟨x,d.lo,d.hi⟩,0,0,0,0⟩) zK λb37 _=>?_;refine St.p (mc _) ?_;refine Ld.f ?_;refine aa.eq (CB h0 (by have:=h0.lt Zr;omega) Zr (λ_ h=>two h) y) (Ext.two (ai.mk (St.one (by exact .head _) rfl (by simp[mw]) rfl ?_)));refine ai.mk (St.one (by exact .head _) rfl (by simp[mw]) rfl ?_);refine Ld.f ?_;refine aa.eq (CB h0 (by have:=h0.lt Zs;omega) Zs (λ_ h=>two h) y) (Ext.two (ai.mk (St.one (by exact .head _) rfl (by simp[mw]) rfl ?_)));refine ai.mk (St.one (by exact .head _) rfl (by simp[mw]) rfl ?_);have dP:d=⟨x,d.lo,d.hi⟩:=by cases d;simp at kZ;subst kZ;rfl
  have hcell:mw (n7 K.N y r d)=[u32 r,iv (x:Int),u32 d.lo,u32 d.hi,u32 (pl K.N y d.lo),u32 (ph K.N y d.lo),u32 (pl K.N y d.hi),u32 (ph K.N y d.hi)]:=by
   simp[mw,n7,kZ]
  refine ax.whole (r:=mw (n7 K.N y r d)) (by rw[hcell];exact .head _) rfl ?_;refine az.one (e:=367) (z:=.agg #[.int .u32 0,iv 0,.int .u32 0,.int .u32 0,.int .u32 0,.int .u32 0,.int .u32 0,.int .u32 0]) (k:=8) (r:=mw (n7 K.N y r d)) zK zK zK zD rfl λxb=>?_;refine ho.rX (.cons (.cons (.cons .left))) (by exact .head _) rfl (mc _) ⟨_,rfl,rfl⟩ zP zP λv' Na' cA=>?_;refine JE.of (.skip (.skip .tail)) (next v' (all++[n7 K.N y r d]) Na' (by rw[xaJ];exact cA) (by rw[nv];exact BM.more hrn hn) zP)
 refine DR.of (R:=[(b28,Obj.cells #[iv (x:Int),u32 d.lo,u32 d.hi] 226 zZ)]) (by rw[Wc];exact .left (A:=[_])) (Nil.ptr (ai.mk (Ld.f ?_)));have heR:aL H0 [(b28,Obj.cells #[iv (x:Int),u32 d.lo,u32 d.hi] 226 zZ)]:=by rw[Wc];exact .left (A:=[_])
 intro F;rw[Wc];refine AT h0 Zr (λ_ h=>two h) (.cons (.app (.app .here))) λlo1 hi1 hg1 Gc=>?_;rw[<-Wc];refine⟨heR,An.mk rfl (ae.cD (Br.dec (λhne=>?_) (λhe=>?_)))⟩
 ·refine Nil.ptr (ai.mk (Ld.f ?_));intro F2;rw[Wc];refine AT h0 Zs (λ_ h=>two h) (.cons (.app (.app .here))) λlo2 F8 TX XC=>?_;rw[<-Wc];refine⟨heR,An.mk rfl (ae.cD (aD.mk ?_))⟩;by_cases e2:BD K.N d.hi=(y:Int)
  ·rw[xai (by simpa using e2)];refine JE.mk (take ⟨hd,kZ,.inr ?_⟩);cases hN:K.N d.hi with
   |none=>simp[BD,hN]at e2<;>omega
   |some f=>exact⟨f,rfl,by simp[BD,hN]at e2;omega⟩
  ·rw[xal (by simpa using e2)];refine JE.mk (skip ?_);rintro⟨_,_,⟨f,hf,RT⟩|⟨f,hf,RT⟩⟩
   ·exact hne (by simp[BD,hf,RT])
   exact e2 (by simp[BD,hf,RT])
 have e1:BD K.N d.lo=(y:Int):=by simpa using he
 refine JE.mk (take ⟨hd,kZ,.inl ?_⟩);cases hN:K.N d.lo with
 |none=>simp[BD,hN]at e1<;>omega
 |some f=>exact⟨f,rfl,by simp[BD,hN]at e1;omega⟩
end
end
section
open aA
section
def zOf:zV->Int
 | .int _ z=>z
 |_=>0
abbrev vrZ(v:zV)(z:Int):Prop:=v=iv z
def xe(es:Array MapEntry)(ck:Nat)(ks:List Nd):Prop:=∃m:List (Nd×Int),aE nK vrZ es ck m/\m.map Prod.fst=ks
theorem xe.empty:xe #[] 0 []:=⟨[],aE.empty,rfl⟩
theorem xe.of{es:Array MapEntry}{ck:Nat}{m:List (Nd×Int)}(h:aE nK (λv _=>∃z,v=iv z) es ck m):xe es ck (m.map Prod.fst):=by
 have hlen:es.toList.length=m.length:=by simpa using h.len
 have hz:((es.toList.zip m).map λp=>((p.2.1,zOf p.1.val):Nd×Int)).map Prod.fst=m.map Prod.fst:=by
  rw[xb2];have:(Prod.fst∘λ(p:MapEntry×(Nd×Int))=>((p.2.1,zOf p.1.val):Nd×Int))=Prod.fst∘Prod.snd:=rfl;rw[this,<-xb2,List.map_snd_zip zO]
 refine⟨_,⟨?_,λi e x he hx=>?_,by rw[hz];exact h.nd,h.born,h.lt⟩,hz⟩
 ·simp[h.len]
 have hi:=(xaU.1 he).1;have F8:i<m.length:=by rw[<-h.len];exact hi
 have hm:m[i]? =some m[i]:=xaa F8;obtain⟨h1,z,h2⟩:=h.key i e _ he hm;have hx':x=(m[i].1,zOf e.val):=by
  have e1:es.toList[i]? =some e:=by rw[xbf];exact he
  rw[xau,(List.getElem?_zip_eq_some (z:=(e,m[i]))).2 ⟨e1,hm⟩]at hx;simpa using hx.symm
 subst hx';exact⟨h1,by rw[h2];rfl⟩
theorem Own.sub{g:Gh}{H:Hp}{w:World}(h:Own g H w){y:Nat×Obj}(hy:y∈H):Own g [y] w:=by
 obtain⟨X,Y,rfl⟩:=xdc hy;exact(h.perm xaS).left (A:=[y])
noncomputable abbrev FF:Func:=Tryz.f298
theorem six{i:Nat}(hi:i<6):¬QO .any (pc FF 10) i 6:=λh=>by
 have e6:(pc FF 10)[6]? =some (fE FF 10 6):=by kernel_rfl
 have:=h _ e6;have hm:(⟨i,.phase⟩:Edge)∈(fE FF 10 6).after:=by
  have ea:(fE FF 10 6).after=#[⟨0,.data⟩,⟨5,.data⟩,⟨3,.data⟩,⟨4,.chain⟩,⟨0,.phase⟩,⟨1,.phase⟩,⟨2,.phase⟩,⟨3,.phase⟩,⟨4,.phase⟩,⟨5,.phase⟩]:=by kernel_rfl
  rw[ea];rcases i with _|_|_|_|_|_|i;all_goals first|omega|simp
 exact this _ hm rfl rfl
end
section
def LL(ops:Array Oper)(listed:Array Bool):Bool:=(List.range ops.size).all λj=>match ops[j]? with
 |some oj=> !listed.getD j true||oj.after.toList.all λe=> !Region.binds .any e||listed.getD e.on true
 |none=>true
theorem gY{ops:Array Oper}{listed:Array Bool}(h:LL ops listed=true):fy .any ops listed:=by
 intro j oj hj hl e he hb;unfold LL at h;have h1:=xc1.1 h j (xaM.2 (xaU.1 hj).1);simp only[hj,hl,xco,xdv]at h1;have h2:=xc1.1 h1 e (xcX.2 he);rw[hb]at h2;simpa using h2
theorem Vx{g:Gh}{mb nb:Nat}{es:Array MapEntry}{ck:Nat}{ks:List Nd}{d:Nd}(hmk:xe es ck ks){c:Obj->Hp}(R2:∀o o',c8 mb o o' (c o) (c o'))(XH:∀o,(nb,Obj.cells (bu d).toArray 226 zZ)∈c o){K:Hp->Prop}
 (hk:∀es' bB,xe es' bB (if d∈ks then ks else ks++[d])->K (c (.map es' bB))):
  Z6 zQ g 10 (pc FF 10) [7,11] [.map (some mb),ptr nb] (c (.map es ck)) K:=by
 have hm:(mb,Obj.map es ck)∈c (.map es ck):=(R2 _ (.map es ck)).mem;have hn:=XH (.map es ck);obtain⟨m,hE,rfl⟩:=hmk;intro a w hok hvs hw;simp only[xaB,xck,xaw,xa2]at hvs;obtain⟨h7,h11⟩:=hvs;obtain⟨n,hnn⟩:∃n,n=a.tmps.size:=⟨_,rfl⟩;obtain⟨fr,hfr⟩:∃fr:Fr,fr=λs=>a.tmps.getD s undef:=⟨_,rfl⟩;have ha:cB a.defers n a fr:=⟨rfl,hnn.symm,λs=>by rw[hfr]⟩;have f7:fr 7=.map (some mb):=by rw[hfr];exact h7
 have f11:fr 11=ptr nb:=by rw[hfr];exact h11
 rw[<-hnn]at hok;have eok:ja n (pc FF 10).toList=(Nat.blt 58 n&& (Nat.blt 59 n&& (Nat.blt 60 n&& (Nat.blt 61 n&& (Nat.blt 62 n&& (Nat.blt 63 n&& (true&&true))))))):=by kernel_rfl
 rw[eok]at hok;simp only[xaD,xdS]at hok;obtain⟨k58,k59,k60,k61,k62,k63⟩:=hok;refine wp_region_any zK ?_;obtain⟨z0,Xl⟩:∃z0:Int,z0=(aJ m d).getD 0:=⟨_,rfl⟩;obtain⟨S0,Sj⟩:∃S0:World->Prop,S0=λw=>Own g [(nb,Obj.cells (bu d).toArray 226 zZ)] w/\(Instr.lookup 429 (.map (some mb)) (nK d) false).run zQ w=.ok (iv z0) w:=⟨_,rfl⟩;have look:∀{es':Array MapEntry} {bB:Nat} {m':List (Nd×Int)} {H':Hp} {w':World},aE nK vrZ es' bB m'->(mb,Obj.map es' bB)∈H'->Own g H' w'->(aJ m' d).getD 0=z0->(Instr.lookup 429 (.map (some mb)) (nK d) false).run zQ w'=.ok (iv z0) w':=by
  intro es' bB m' H' w' h1 h2 h3 h4;have hL:jW zQ 226 (iv 0) false H' (.map (some mb)) (nK d) (· =iv z0):=by
   cases hg:aJ m' d with
   |some z=>exact aE.F5 (ke:=nK) (k:=d) q8 mM h1 h2 hg (by rintro v rfl;rw[hg]at h4;simp at h4;rw[h4];rfl)
   |none=>exact aE.vM (ke:=nK) (k:=d) q8 mM h1 h2 hg (by rw[hg]at h4;simp at h4;rw[<-h4];rfl)
  obtain⟨v,hr,rfl⟩:=hL.run (P:=zQ) h3 (t:=429) (kt:=226) (e:=3) (kd:=.struct (Tryz.prog.fieldsOf 226)) (i:=(Tryz.prog.info? 3).get zK) zK La rfl zK zK;exact hr
 have TS:=hw.zx;have s0:S0 {w with drawn:=w.drawn+1}:=by rw[Sj];exact⟨Own.sub TS hn,look hE hm TS Xl.symm⟩
 have hQp:∀{o:Oper} {v:zV} (c:List PanicEntry) (a':Act) (w':World),(λ(e:Exit) (a':Act) (w':World)=>e=.normal/\a'.defers=a.defers/\a'.tmps.size=a.tmps.size/\(∀s,bQ (pc FF 10).toList s=false->a'.tmps.getD s undef=a.tmps.getD s undef)/\∃H',Own g H' w'/\K H') (.panic c) (a'.put o.dst v) w'->
   (λ(e:Exit) (a':Act) (w':World)=>e=.normal/\a'.defers=a.defers/\a'.tmps.size=a.tmps.size/\(∀s,bQ (pc FF 10).toList s=false->a'.tmps.getD s undef=a.tmps.getD s undef)/\∃H',Own g H' w'/\K H') (.panic c) a' w':=by
  rintro _ _ _ _ _ ⟨h,_⟩;cases h
 have hsel:Region.noSelect (pc FF 10)=true:=by kernel_rfl
 have hkeep:∀i,i<6->∀(j:Nat) (oj:Oper) (w w':World),(pc FF 10)[j]? =some oj->j≠i->¬oe .any (pc FF 10) i j->S0 w->(j≠6->S0 w->S0 w')->S0 w':=λi hi j oj w w' _ _ hno h0 hs=>by
  by_cases e:j=6
  ·subst e;exact absurd (λoj ji e he hb heq=>hno (.one ji he hb heq)) (six hi)
  exact hs e h0
 refine de.any (S:=λj w w'=>j≠6->S0 w->S0 w') ?_;have hsz:(pc FF 10).size=7:=by kernel_rfl
 rw[hsz];refine de.take (gY zK) (S0:=S0) (i:=0) (oi:=fE FF 10 0) (v:=.map (some mb)) zK hsel zK zK hQp (λ_ h _ _=>h) (hkeep 0 zD) (.inl ⟨rfl,λw hw=>?_⟩) s0 ?_
 ·rw[ha.eval];have:(execOp (ev fr) (fE FF 10 0))=pure (.value (fr 7)):=rfl
  rw[this,f7];rfl
 have uj:=ha.put (d:=some 58) k58 (.map (some mb));change de _ _ _ _ _ 6 _ (a.put (some 58) (.map (some mb))) _;refine de.take (gY zK) (S0:=S0) (i:=1) (oi:=fE FF 10 1) (v:=nK d) zK hsel zK zK hQp (λ_ h _ _=>h) (hkeep 1 zD) (.inl ⟨rfl,λw hw=>?_⟩) s0 ?_
 ·rw[uj.eval];have e:AS zQ g (fE FF 10 1) (ev (br fr (some 58) (.map (some mb)))) [(nb,Obj.cells (bu d).toArray 226 zZ)] (λv=>v=nK d)=ax 3 [(nb,Obj.cells (bu d).toArray 226 zZ)] (fr 11) (λv=>v=nK d):=by kernel_rfl
  obtain⟨v,rfl,hr,_⟩:=oJ (e.mpr (by rw[f11];exact ax.q rfl));rw[Sj]at hw;exact hr _ hw.1
 have qt:=uj.put (d:=some 59) k59 (nK d);change de _ _ _ _ _ 5 _ ((a.put (some 58) (.map (some mb))).put (some 59) (nK d)) _;refine de.take (gY zK) (S0:=S0) (i:=2) (oi:=fE FF 10 2) (v:=iv z0) zK hsel zK zK hQp (λ_ h _ _=>h) (hkeep 2 zD) (.inl ⟨rfl,λw hw=>?_⟩) s0 ?_
 ·rw[qt.eval];have e:execOp (ev (br (br fr (some 58) (.map (some mb))) (some 59) (nK d))) (fE FF 10 2)=(do pure (.value (<-Instr.lookup 429 (.map (some mb)) (nK d) false))):=rfl;rw[Sj]at hw;rw[e];simp only[Sem.run_bind,hw.2,Result.andThen_ok,Sem.run_pure]
 have uD:=qt.put (d:=some 60) k60 (iv z0);change de _ _ _ _ _ 4 _ (((a.put (some 58) (.map (some mb))).put (some 59) (nK d)).put (some 60) (iv z0)) _;refine de.take (gY zK) (S0:=S0) (i:=3) (oi:=fE FF 10 3) (v:=iv (IntKind.i64.wrap (z0+1))) zK hsel zK zK hQp (λ_ h _ _=>h) (hkeep 3 zD) (.inl ⟨rfl,λw hw=>?_⟩) s0 ?_
 ·rw[uD.eval];have e:AS zQ g (fE FF 10 3) (ev (br (br (br fr (some 58) (.map (some mb))) (some 59) (nK d)) (some 60) (iv z0))) [(nb,Obj.cells (bu d).toArray 226 zZ)] (λv=>v=iv (IntKind.i64.wrap (z0+1)))=ae .num .add (iv z0) (iv 1) (λv=>v=iv (IntKind.i64.wrap (z0+1))):=by kernel_rfl
  obtain⟨v,rfl,hr,_⟩:=oJ (e.mpr (ae.add rfl));rw[Sj]at hw;exact hr _ hw.1
 have Gj:=uD.put (d:=some 61) k61 (iv (IntKind.i64.wrap (z0+1)));change de _ _ _ _ _ 3 _ ((((a.put (some 58) (.map (some mb))).put (some 59) (nK d)).put (some 60) (iv z0)).put (some 61) (iv (IntKind.i64.wrap (z0+1)))) _;generalize (((a.put (some 58) (.map (some mb))).put (some 59) (nK d)).put (some 60) (iv z0)).put (some 61) (iv (IntKind.i64.wrap (z0+1)))=a4 at Gj;refine de.all (rs:=[4]) zK zI λi hi=>?_;simp only[xaI]at hi;subst hi;have e4:(pc FF 10)[4]? =some (fE FF 10 4):=by kernel_rfl
 unfold wpOp;rw[e4];simp only;rw[xad (show Region.wanted (fE FF 10 4) (yielded (pc FF 10) a4.tmps)=true from rfl)];refine .inl ?_;show(fE FF 10 4).upon zQ a4 _ _ ((execOp a4.eval (fE FF 10 4)).run zQ _);rw[Gj.eval];refine ou.upon (g:=g) (KP:=λ_ _=>False) (aE.Wu (K:=λv H'=>∃es' bB v0 st,aE nK vrZ es' bB (if d∈m.map Prod.fst then m else m++[(d,0)])/\(∃e∈es'.toList,e.born=st)/\H'=c (.map es' bB)/\v=.tuple #[v0,iv (st:Int)])
  (t:=429) (kt:=226) (e:=3) (z:=iv 0) (k:=d) (y0:=(0:Int)) q8 mM Lc (o:=fE FF 10 4) (mo:=.tmp 58) (ko:=.tmp 59) rfl rfl rfl zK La rfl zK rfl hE R2
  (λes' bB v st h1 h2=>⟨es',bB,v,st,h1,h2,rfl,rfl⟩) _ TS) ?_ (λ_ _ _ _ h=>h.elim)
 rintro v H1 w1 ju ⟨kf,jJ,v0,st,T2,hst,rfl,rfl⟩;have TV:(nb,Obj.cells (bu d).toArray 226 zZ)∈c (.map kf jJ):=XH _;have uf:(mb,Obj.map kf jJ)∈c (.map kf jJ):=(R2 _ (.map kf jJ)).mem;have s1:S0 w1:=by
  rw[Sj];refine⟨Own.sub ju TV,look T2 uf ju ?_⟩;rw[Xl];split
  ·rfl
  rename_i dP;have e1:=iy.2 dP;have e2:aJ (m++[(d,0)]) d=some 0:=(dW (by
   have:=T2.nd;rw[xac dP]at this;exact this)).2 zI
  rw[e1,e2];rfl
 refine⟨λ_ _=>s1,?_⟩;have Gi:=Gj.put (d:=some 62) k62 (.tuple #[v0,iv (st:Int)]);change de _ _ _ _ _ 2 _ (a4.put (some 62) (.tuple #[v0,iv (st:Int)])) _;generalize a4.put (some 62) (.tuple #[v0,iv (st:Int)])=a5 at Gi;refine de.take (gY zK) (S0:=S0) (i:=5) (oi:=fE FF 10 5) (v:=iv (st:Int)) zK hsel zK zK hQp (λ_ h _ _=>h) (hkeep 5 zD) (.inl ⟨rfl,λw hw=>?_⟩) s1 ?_
 ·rw[Gi.eval];obtain⟨v,rfl,hr,_⟩:=oJ (P:=zQ) (g:=g) (o:=fE FF 10 5) (H:=[(nb,Obj.cells (bu d).toArray 226 zZ)]) (k:=λv=>v=iv (st:Int))
   (ρ:=ev (br (br (br (br (br fr (some 58) (.map (some mb))) (some 59) (nK d)) (some 60) (iv z0)) (some 61) (iv (IntKind.i64.wrap (z0+1)))) (some 62) (.tuple #[v0,iv (st:Int)]))) ⟨_,_,rfl,rfl,rfl⟩
  rw[Sj]at hw;exact hr _ hw.1
 have Gg:=Gi.put (d:=some 63) k63 (iv (st:Int));change de _ _ _ _ _ 1 _ (a5.put (some 63) (iv (st:Int))) _;generalize a5.put (some 63) (iv (st:Int))=a6 at Gg;refine de.all (rs:=[6]) zK zI λi hi=>?_;simp only[xaI]at hi;subst hi;have e6:(pc FF 10)[6]? =some (fE FF 10 6):=by kernel_rfl
 unfold wpOp;rw[e6];simp only;rw[xad (show Region.wanted (fE FF 10 6) (yielded (pc FF 10) a6.tmps)=true from rfl)];refine .inl ?_;show(fE FF 10 6).upon zQ a6 _ _ ((execOp a6.eval (fE FF 10 6)).run zQ _);rw[Gg.eval];refine ou.upon (g:=g) (KP:=λ_ _=>False) (aE.Uw (vr:=λv _=>∃z:Int,v=iv z) (K:=λ_ H'=>∃es',aE nK (λv _=>∃z:Int,v=iv z) es' jJ (if d∈m.map Prod.fst then m else m++[(d,0)])/\H'=c (.map es' jJ))
  (o:=fE FF 10 6) (t:=429) (mo:=.tmp 58) (so:=.tmp 63) (xo:=.tmp 61) rfl rfl rfl (T2.mono λv z h=>⟨z,h⟩) hst (λ_=>⟨_,rfl⟩) R2
  (λes' h1=>⟨es',h1,rfl⟩) _ ju) ?_ (λ_ _ _ _ h=>h.elim)
 rintro v H2 w2 pH ⟨gV,sQ,rfl⟩;refine⟨λh=>absurd rfl h,?_⟩;have V4:cB a.defers n a6 _:=Gg;change de _ _ _ _ _ 0 _ a6 _;refine de.done zK ⟨rfl,V4.defers,by rw[V4.size,hnn],λs hs=>?_,_,pH,hk gV jJ ?_⟩ 0
 ·have eD:bQ (pc FF 10).toList s=(Nat.beq s 58||(Nat.beq s 59||(Nat.beq s 60||(Nat.beq s 61||(Nat.beq s 62||(Nat.beq s 63||(false||false))))))):=by kernel_rfl
  rw[eD]at hs;simp only[xax]at hs;rw[V4.get];simp only[br,hs,xah];rw[hfr]
 have:=xe.of sQ;have e:(if d∈m.map Prod.fst then m else m++[(d,(0:Int))]).map Prod.fst=if d∈m.map Prod.fst then m.map Prod.fst else m.map Prod.fst++[d]:=by
  split<;>simp
 rw[e]at this;exact this
end
section
variable {kp:Nat} {K:Kd} {ord ah tr:zL} {C:Hp} {S:Nat->aA.Fn}
theorem S8{H:Hp}(a b:Nd){K:zV->Hp->Prop}(h:∀x,K (.slice (some ⟨x,0,none⟩) 2 2) ((x,.cells (rows [bu a,bu b]) 226 zZ)::H)):
  az zQ 309 2 [(0,nK a),(1,nK b)] H K:=by
 refine⟨rows [bu a,bu b],226,3,.agg #[iv 0,.int .u32 0,.int .u32 0],by kernel_rfl,by kernel_rfl,by kernel_rfl,by decide,?_,λx _=>h x⟩;have e1:Array.range (2*3)=#[0,1,2,3,4,5]:=rfl;simp[Instr.fill,Value.cells,nK,bu,e1,rows,u32]
def iH(K:Kd)(x:Nat)(l:List Cx)(ks:List Nd)(m:List Nd):Prop:=m.Nodup/\∀k,k∈m↔((∃c∈l,k∈keys x c)\/k∈ks)/\K.T k=none/\k.lo≠k.hi
theorem iH.step{x:Nat}{l:List Cx}{ks m:List Nd}{d:Nd}(h:iH K x l ks m)(hd:K.T d=none/\d.lo≠d.hi):iH K x l (ks++[d]) (if d∈m then m else m++[d]):=by
 obtain⟨h1,h2⟩:=h;constructor
 ·split
  ·exact h1
  rename_i hn;exact xa5.2 ⟨h1,by simp,λa ha b hb e=>by simp at hb;subst hb;subst e;exact hn ha⟩
 intro k;by_cases hm:d∈m
 ·rw[xad hm,h2,xao,xaI];constructor
  ·rintro⟨h3|h3,h4⟩
   ·exact⟨.inl h3,h4⟩
   exact⟨.inr (.inl h3),h4⟩
  rintro⟨h3|h3|rfl,h4⟩
  ·exact⟨.inl h3,h4⟩
  ·exact⟨.inr h3,h4⟩
  exact(h2 _).1 hm
 rw[xac hm,xao,xaI,h2,xao,xaI];constructor
 ·rintro(⟨h3|h3,h4⟩|rfl)
  ·exact⟨.inl h3,h4⟩
  ·exact⟨.inr (.inl h3),h4⟩
  exact⟨.inr (.inr rfl),hd⟩
 rintro⟨h3|h3|rfl,h4⟩
 ·exact .inl ⟨.inl h3,h4⟩
 ·exact .inl ⟨.inr h3,h4⟩
 exact .inr rfl
theorem iH.skip{x:Nat}{l:List Cx}{ks m:List Nd}{d:Nd}(h:iH K x l ks m)(hd:¬(K.T d=none/\d.lo≠d.hi)):iH K x l (ks++[d]) m:=by
 obtain⟨h1,h2⟩:=h;refine⟨h1,λk=>?_⟩;rw[h2,xao,xaI];constructor
 ·rintro⟨h3|h3,h4⟩
  ·exact⟨.inl h3,h4⟩
  exact⟨.inr (.inl h3),h4⟩
 rintro⟨h3|h3|rfl,h4⟩
 ·exact⟨.inl h3,h4⟩
 ·exact⟨.inr h3,h4⟩
 exact absurd h4 hd
theorem iH.Au{x:Nat}{l:List Cx}{c:Cx}{m:List Nd}(h:iH K x l (keys x c) m):iH K x (l++[c]) [] m:=by
 obtain⟨h1,h2⟩:=h;refine⟨h1,λk=>?_⟩;rw[h2];constructor
 ·rintro⟨⟨c',hc,hk⟩|h3,h4⟩
  ·exact⟨.inl ⟨c',xae _ hc,hk⟩,h4⟩
  exact⟨.inl ⟨c,by simp,h3⟩,h4⟩
 rintro⟨⟨c',hc,hk⟩|h3,h4⟩
 ·rcases xao.1 hc with hc|hc
  ·exact⟨.inl ⟨c',hc,hk⟩,h4⟩
  simp at hc;subst hc;exact⟨.inr hk,h4⟩
 cases h3
theorem Sz(h:cT kp K ord ah tr C){x:Nat}(hx:x<K.n){v:zV}{all:List Cx}{Na:Hp}(ha:bg 367 8 v (all.map mw) Na)(hlen:all.length<=1048576):
  Rd zQ 298 #[ptr kp,iv (x:Int),v] (Na++C) (λr=>∃made,r=iv ((made.length:Nat):Int)/\Made K x all made):=by
 have h0:=h;obtain⟨b,hC,hO⟩:=h;refine aF λg=>Im λmb _=>?_;refine ha.bP ?_;rw[xaC];refine⟨λvs H=>∃(i:Nat) (es:Array MapEntry) (ck:Nat) (m:List Nd),vs=[iv (i:Int)]/\H=(mb,.map es ck)::(Na++C)/\i<=all.length/\xe es ck m/\iH K x (all.take i) [] m,
  λvs _=>all.length-bL vs 0,JE.mk ⟨0,_,_,[],rfl,rfl,xaN _,xe.empty,by simp,by simp⟩,?_⟩
 rintro w H ⟨i,es,ck,m,hw,rfl,hi,hmk,VO⟩ gs;simp only[xaw,xa2]at hw;subst hw;refine ae.fk (Br.dec (λhlt=>?_) (λhge=>?_));rotate_left
 ·have:i=all.length:=by omega
  subst this;rw[xbl]at VO;obtain⟨m',he,rfl⟩:=hmk;refine aE.Q0 he (.head _) ?_;refine aZ.mk .tail ⟨m'.map Prod.fst,by rw[xaC],VO.1,λk=>?_⟩;rw[VO.2];constructor
  ·rintro⟨h3|h3,h4⟩
   ·exact⟨h3,h4⟩
   cases h3
  rintro⟨h3,h4⟩;exact⟨.inl h3,h4⟩
 obtain⟨c,pK⟩:∃c,all[i]? =some c:=⟨_,xaa hlt⟩;have nv:all.take (i+1)=all.take i++[c]:=by rw[xbH,pK];rfl
 refine ha.Li (r:=mw c) (by rw[xau,pK];rfl) (λy hy=>.tail _ (xae _ hy)) ?_;intro T5 _;refine St.p (mc _) ?_;refine Ld.f ?_;refine Ld.f ?_;refine Build.mk (cs:=bu ⟨x,c.yg,c.tR⟩) zK (Ld.f ?_);refine Ld.f ?_;refine Build.mk (cs:=bu ⟨x,c.yf,c.tQ⟩) zK (S8 _ _ λxb=>?_);refine aR.mk ?_;refine⟨λvs H=>∃(j:Nat) (es:Array MapEntry) (ck:Nat) (m:List Nd),vs=[iv (j:Int)]/\H=(xb,.cells (rows [bu ⟨x,c.yg,c.tR⟩,bu ⟨x,c.yf,c.tQ⟩]) 226 zZ)::(mb,.map es ck)::(Na++C)/\j<=2/\xe es ck m/\iH K x (all.take i) ((keys x c).take j) m,
  λvs _=>2-bL vs 0,JE.of (.cons .tail) ⟨0,es,ck,m,rfl,rfl,xaN _,hmk,VO⟩,?_⟩
 clear hmk VO;rintro w H ⟨j,es,ck,m,hw,rfl,hj,hmk,VO⟩ gs;simp only[xaw,xa2]at hw;subst hw;refine ae.fk (b:=2) (Br.dec (λrH=>?_) (λhge=>?_));rotate_left
 ·have:j=2:=by omega
  subst this;refine ae.inc (aC.of .tail ⟨i+1,es,ck,m,rfl,rfl,by omega,hmk,?_⟩ (by simp[bL];omega));rw[nv];exact iH.Au VO
 obtain⟨d,Gd,kZ⟩:∃d,(keys x c)[j]? =some d/\d.v=x:=by
  rcases j with _|_|j
  ·exact⟨_,rfl,rfl⟩
  ·exact⟨_,rfl,rfl⟩
  omega
 have htj:(keys x c).take (j+1)=(keys x c).take j++[d]:=by rw[xbH,Gd];rfl
 have hrow:[bu ⟨x,c.yg,c.tR⟩,bu ⟨x,c.yf,c.tQ⟩][j]? =some (bu d):=by
  have:[bu ⟨x,c.yg,c.tR⟩,bu ⟨x,c.yf,c.tQ⟩]=(keys x c).map bu:=rfl;rw[this,xau,Gd];rfl
 intro J34 agU;have next:∀es' bB m' H',xe es' bB m'->iH K x (all.take i) ((keys x c).take (j+1)) m'->aL H' ((xb,.cells (rows [bu ⟨x,c.yg,c.tR⟩,bu ⟨x,c.yf,c.tQ⟩]) 226 zZ)::(mb,.map es' bB)::(Na++C))->JE J34 [] H':=λes' bB m' H' h1 h2 h3=>
  JE.mk (agU _ λgs=>ae.inc (aC.of h3 ⟨j+1,es',bB,m',rfl,rfl,by omega,h1,h2⟩ (by simp[bL];omega)))
 refine au.nat rH ?_;have hmem:(xb,Obj.cells (rows [bu ⟨x,c.yg,c.tR⟩,bu ⟨x,c.yf,c.tQ⟩]) 226 zZ)∈(xb,Obj.cells (rows [bu ⟨x,c.yg,c.tR⟩,bu ⟨x,c.yf,c.tQ⟩]) 226 zZ)::(mb,.map es ck)::(Na++C):=.head _;refine ax.row (k:=3) hmem (by simp[bu]) hrow ?_;intro b40 _;refine St.p (λz hz=>by simp[bu,u32]at hz;rcases hz with rfl|rfl|rfl<;>rfl) ?_;refine DR.self ?_;rw[hC];refine Nil.ptr (ai.mk (Ld.f ?_));refine ax.q ?_;refine aa.eq (uG (d:=d) hO.ut (by rw[kZ];exact hx)) (⟨.refl _,Ext.mk rfl (Ext.mk rfl (Un.not ?_))⟩);have Xr:(!(K.T d).isSome)=decide (K.T d=none):=by cases K.T d<;>simp
 rw[Xr];refine cm.and (decide (d.lo≠d.hi)) (λ_=>?_) rfl λgs=>?_
 ·refine Ld.f ?_;refine Ld.f ?_;exact ae.yL ⟨rfl,rfl⟩
 rw[<-xdC];rw[<-hC];refine Br.dec (λhd=>?_) (λhd=>?_)
 ·refine Vx hmk (c:=λo=>(b40,.cells (bu d).toArray 226 zZ)::(xb,.cells (rows [bu ⟨x,c.yg,c.tR⟩,bu ⟨x,c.yf,c.tQ⟩]) 226 zZ)::(mb,o)::(Na++C)) (λo o'=>.tail (.tail (.head _))) (λo=>.head _) λes' bB h1 gs=>?_;exact next es' bB _ _ h1 (by rw[htj];exact VO.step hd) .tail
 exact next es ck m _ hmk (by rw[htj];exact VO.skip hd) .tail
end
def j6(l:List Cx):Nat->Nat:=λs=>(l.map λc=>e1 (some c.d) s).sum
theorem oI(c:Cx)(l:List Cx)(s:Nat):j6 (c::l) s=e1 (some c.d) s+j6 l s:=by simp[j6]
theorem MX(c:Cx)(l:List Cx)(s:Nat):j6 (l++[c]) s=j6 l s+e1 (some c.d) s:=by simp[j6]
theorem adr(d:Nd)(s:Nat):e1 (some d) s<=2:=by rw[eC];split<;>split<;>omega
theorem AO(s:Nat):∀l:List Cx,j6 l s<=2*l.length
 | []=>xag _
 |c::l=>by rw[oI,xaH];have:=AO s l;have:=adr c.d s;omega
theorem Cz{s:Nat}:∀{l:List Cx},0<j6 l s->∃c∈l,c.d.lo=s\/c.d.hi=s
 | [],h=>by simp[j6]at h
 |c::l,h=>by
  rw[oI]at h;by_cases h0:0<e1 (some c.d) s
  ·refine⟨c,by simp,?_⟩;rw[eC]at h0;by_cases h1:c.d.lo=s
   ·exact .inl h1
   by_cases h2:c.d.hi=s
   ·exact .inr h2
   simp[h1,h2]at h0
  obtain⟨c',hc,h1⟩:=Cz (s:=s) (l:=l) zO;exact⟨c',by simp[hc],h1⟩
theorem KZ{s:Nat}{c:Cx}(hs:c.d.lo=s\/c.d.hi=s):∀{l:List Cx},c∈l->0<j6 l s
 |c'::l,h=>by
  rw[oI];rcases xam.1 h with rfl|h
  ·rw[eC];rcases hs with hs|hs
   ·rw[xad hs];omega
   rw[xad hs];omega
  have:=KZ hs h;omega
def Idle(K:Kd):Prop:=∀s,K.N s=none->K.use s=0
theorem uQ{K:Kd}{S:Nat->aA.Fn}{E:Nat->Prop}{P:Nat->Nat}(hm:jK K S E P)(hi:Idle K){M:Nat}(hP:∀s,P s<=M)(s:Nat):K.use s<=2097153+M:=by
 cases h:K.N s with
 |none=>rw[hi s h];omega
 |some d=>
  rw[hm.use h];have:=DV (N:=K.N) (r:=s) K.cap;have:=hm.cap.2;have:=hP s;split<;>omega
section
variable {kp:Nat} {K K0:Kd} {ord ah tr:zL} {C:Hp} {S S0:Nat->aA.Fn} {r8:Nat->Nat} {x y l:Nat} {all done rest:List Cx} {made:List Nd} {P:Nat->Nat}
theorem Su(b:TB K0 S0 r8 x y l all made)(h:cT kp K ord ah tr C)(ht:TI K0 S0 r8 x y l made K S done rest P)(hd:∀c∈done,c∈all)(hr:∀c∈rest,c∈all){c:Cx}(hc:c∈all){k:Nd}(hk:k∈keys x c)
 (Pq:PL P K.N)(RP:Idle K)(hP:∀s,P s<=4194304):
  Fc zQ 299 #[ptr kp,iv (k.v:Int),u32 k.lo,u32 k.hi] C (λv C'=>∃r K' S',v=u32 r/\cT kp K' ord ah tr C'/\TI K0 S0 r8 x y l made K' S' done rest P/\ym K0 K' r8 x l r/\
   ((k.lo=k.hi/\r=k.lo)\/K'.N r=some k)/\PL P K'.N/\Idle K'/\(∀s d,K.N s=some d->K'.N s=some d)/\(∀s d,K'.N s=some d->s=r\/(K.N s=some d/\K.use s<=K'.use s))):=by
 have sN:K.n<=64:=by obtain⟨_,_,hO⟩:=h;exact hO.lz
 have mT:=b.Ve hc;have hkv:k.v=x/\tU K0 r8 l k.lo/\tU K0 r8 l k.hi:=by
  simp only[keys,xam,xaP,xbD]at hk;rcases hk with rfl|rfl
  ·exact⟨rfl,mT.1.1,mT.1.2⟩
  exact⟨rfl,mT.2.1,mT.2.2⟩
 have Dy:=ht.ry b hd hkv.2.1;have qK:=ht.ry b hd hkv.2.2;have hxn:k.v<K.n:=by rw[hkv.1,ht.n];exact b.nb.xn
 by_cases he:k.lo=k.hi
 ·refine Fc.mono (by rw[<-he];exact Wg C _ k.lo _) ?_;rintro v C' ⟨rfl,rfl⟩;exact⟨k.lo,K,S,rfl,h,ht,.inl hkv.2.1,.inl ⟨he,rfl⟩,Pq,RP,λ_ _ h=>h,λs d h=>.inr ⟨h,xag _⟩⟩
 cases hT:K.T k with
 |some r=>
  obtain⟨h1,h2⟩:=ht.found b hc hk hT;refine Fc.mono (Wi h he hxn hT) ?_;rintro v C' ⟨rfl,rfl⟩;exact⟨r,K,S,rfl,h,ht,h2,.inr h1,Pq,RP,λ_ _ h=>h,λs d h=>.inr ⟨h,xag _⟩⟩
 |none=>
  have hfit:∀{t:Nat},live K.N t->t<2\/t<K.us.length:=λht'=>by
   rcases ht' with ht'|⟨d,dP⟩
   ·exact .inl ht'
   exact .inr (ht.mid.fit dP)
  have hkm:=ht.Rq b hd hr hc hk he hkv.2.1 hkv.2.2 hT;refine Fc.mono (Wh h (d:=k) he ⟨by omega,Dy,qK⟩ hxn hT (ht.fits b hkm hT) (hfit Dy) (hfit qK) (λs=>by have:=uQ ht.mid RP hP s;omega)) ?_;rintro v C' ⟨r,dB,cA,rfl,hN,h2,hrc,hlen,hru,Nv,u0,u1,u2,o0,o1,dh⟩;have hPr:P r=0:=by
   apply xdB;intro hne;obtain⟨d,dP⟩:=Pq r h2 zO;rw[hN]at dP;cases dP
  obtain⟨g1,g2⟩:=ht.lay b hd hr hc hk he hT hN ⟨h2,hrc⟩ hlen ⟨hru,Nv⟩ u0 u1 o0 o1 hPr;have hup:∀s d,K.N s=some d->up K.N r (some k) s=some d:=λs d hs=>by
   rw[aS (λe=>by rw[e,hN]at hs;cases hs)];exact hs
  refine⟨r,_,_,rfl,dh,g1,g2,.inr aO,λt Sq h0=>?_,λs hs=>?_,hup,λs d hs=>?_⟩
  ·obtain⟨d,dP⟩:=Pq t Sq h0;exact⟨d,hup t d dP⟩
  ·have hs':up K.N r (some k) s=none:=hs;have hne:s≠r:=λe=>by subst e;rw[aO]at hs';cases hs'
   rw[aS hne]at hs';show dB.getD s 0=0;by_cases h2s:2<=s
   ·rw[u1 s h2s hne,RP s hs',eC];have a1:k.lo≠s:=λe=>by
     rcases Dy with h5|⟨d,h5⟩
     ·omega
     rw[e,hs']at h5;cases h5
    have a2:k.hi≠s:=λe=>by
     rcases qK with h5|⟨d,h5⟩
     ·omega
     rw[e,hs']at h5;cases h5
    simp[a1,a2]
   rw[u2 s zO,RP s hs']
  have hs':up K.N r (some k) s=some d:=hs;by_cases e:s=r
  ·exact .inl e
  rw[aS e]at hs';refine .inr ⟨hs',?_⟩;show K.use s<=dB.getD s 0;rw[u1 s (ht.mid.two hs').1 e];omega
theorem PG(h:cT kp K ord ah tr C)(ht:TI K0 S0 r8 x y l made K S done rest P)(Pq:PL P K.N)(RP:Idle K)(hP:∀s,P s<=4194304){r:Nat}(hr:live K.N r):
  Fc zQ 300 #[ptr kp,u32 r] C (λv C'=>∃K',v=.tuple #[]/\cT kp K' ord ah tr C'/\TI K0 S0 r8 x y l made K' S done rest (λs=>P s+if s=r then 1 else 0)/\PL (λs=>P s+if s=r then 1 else 0) K'.N/\Idle K'/\
   K'.N=K.N/\(∀s,K.use s<=K'.use s)/\(2<=r->0<K'.use r)):=by
 have hfit:r<2\/r<K.us.length:=by
  rcases hr with hr|⟨d,hd⟩
  ·exact .inl hr
  exact .inr (ht.mid.fit hd)
 refine Fc.mono (EX h hfit (by have:=uQ ht.mid RP hP r;omega)) ?_;rintro v C' ⟨rfl,dh⟩;by_cases h2:2<=r
 ·have hrd:∃d,K.N r=some d:=by
   rcases hr with hr|hr
   ·omega
   exact hr
  have hlt:r<K.us.length:=by omega
  refine⟨_,rfl,dh,(ht.use (jk r) (nD h2 hlt) (λs hs=>uR hs)).congr (λs _=>?_),λt Sq h0=>?_,λs hs=>?_,rfl,λs=>?_,λ_=>?_⟩
  ·unfold up;split
   ·rename_i e;subst e;rfl
   rfl
  ·by_cases e:t=r
   ·subst e;exact hrd
   simp[e]at h0;exact Pq t Sq h0
  ·show(tj K r).getD s 0=0;have hne:s≠r:=λe=>by
    obtain⟨d,hd⟩:=hrd;have hs':K.N s=none:=hs;rw[e,hd]at hs';cases hs'
   rw[uR hne];exact RP s hs
  ·show K.use s<=(tj K r).getD s 0;by_cases e:s=r
   ·subst e;rw[nD h2 hlt];omega
   rw[uR e];exact xag _
  show 0<(tj K r).getD r 0;rw[nD h2 hlt];omega
 have e:tj K r=K.us:=by unfold tj;rw[xad zO]
 have eK:({K with us:=tj K r}:Kd)=K:=by rw[e]
 rw[eK]at dh;refine⟨K,rfl,dh,ht.congr (λs hs=>?_),λt Sq h0=>?_,RP,rfl,λ_=>xag _,λh=>absurd h h2⟩
 ·rw[xac zO];rfl
 have h0':0<P t+if t=r then 1 else 0:=h0
 rw[xac zO]at h0';exact Pq t Sq h0'
theorem ym.mono{K K':Kd}(h:ym K0 K r8 x l y)(hm:∀s d,K.N s=some d->K'.N s=some d):ym K0 K' r8 x l y:=by
 rcases h with h|⟨e,h1,h2⟩
 ·exact .inl h
 exact .inr ⟨e,hm _ _ h1,h2⟩
end
section
variable {kp:Nat} {K:Kd} {ord ah tr:zL} {C:Hp} {S:Nat->aA.Fn}
structure Kept(K:Kd)(S:Nat->aA.Fn)(K':Kd)(S':Nat->aA.Fn):Prop where
 n:K'.n=K.n
 cap:K'.cap=K.cap
 hold:∀r,K'.hold r=K.hold r
 held:∀g,K'.held S' g↔K.held S g
 fn:∀r,K.hold r≠0->S' r=S r
theorem Yz{x y l:Nat}(hne:x≠y)(hx:x<ah.length)(hy:y<ah.length):lv ((ah.set x (l+1)).set y l)=tX (lv ah) x y l:=by
 funext v
 show((ah.set x (l+1)).set y l).getD v 0=_;rw[gU (by simpa using hy),gU hx];unfold tX;by_cases e:v=y
 ·rw[xad e,xac (by rw[e];exact xba hne),xad e]
 rw[xac e,xac e]
theorem QH(c:Cx)(rest:List Cx):j6 (c::rest)=gX (gX (j6 rest) [c.d.hi]) [c.d.lo]:=by
 funext s
 rw[oI,eC];unfold gX;simp only[xb7,xdJ,xcM];omega
theorem ru{x:Nat}{all:List Cx}{made:List Nd}(h:Made K x all made):made.length<=2*all.length:=by
 have h1:=cv (l':=all.flatMap (keys x)) h.nd λk hk=>by
  obtain⟨⟨c,hc,hk'⟩,_⟩:=(h.mem k).1 hk;exact List.mem_flatMap.2 ⟨c,hc,hk'⟩
 have h2:(all.flatMap (keys x)).length=2*all.length:=by
  clear h1 h;induction all with
  |nil=>rfl
  |cons c all ih=>rw[xei,xaf,ih,xaH];simp[keys];omega
 omega
theorem PM{x y l:Nat}{K1:Kd}{S1:Nat->aA.Fn}{all:List Cx}{made:List Nd}(b:TB K S (lv ah) x y l all made)(h:TI K S (lv ah) x y l made K1 S1 all [] (j6 all))(hnew:∀r d,K.N r=none->K1.N r=some d->0<K1.use r):Pos K1:=by
 intro r d hd;cases hN:K.N r with
 |none=>exact hnew r d hN hd
 |some d0=>
  rw[h.mid.use hd];rcases b.ok.reach r d0 hN with hh|⟨p,e,hp,Pj⟩
  ·have pJ:K1.hold r≠0:=by rw[h.hold];exact hh
   rw[xac pJ];omega
  by_cases hm:p∈all.map Cx.r
  ·obtain⟨c,hc,rfl⟩:=xan.1 hm;have hcd:=(b.n8 hc).1;rw[hp]at hcd;cases hcd;have:=KZ (s:=r) Pj hc;omega
  have uB:=h.old hp hm;have:dw K1.N r K1.cap≠0:=λhe=>by
   have:=jT he p (h.mid.two uB).2 e uB;rcases Pj with Pj|Pj
   ·exact this.1 Pj
   exact this.2 Pj
  omega
theorem KG(h:cT kp K ord ah tr C)(hok:Ok K S (lv ah))(ho:Ord K.n (lv ah) ord)(RP:Idle K){l:Nat}(hl:l+1<K.n):
  Fc zQ 211 #[ptr kp,iv (l:Int)] C (λr C'=>
   (BE K.n ord l (K.held S)+2<=K.cap/\r=.bool true/\∃K' S' bW,cT kp K' (fM ord l) bW tr C'/\Ok K' S' (lv bW)/\Ord K'.n (lv bW) (fM ord l)/\Idle K'/\Kept K S K' S')\/
   (K.cap<BE K.n ord l (K.held S)+2/\r=.bool false/\C'=C)):=by
 have h0:=h;have hcap:=h.cap;obtain⟨b,hC,hO⟩:=h;have EF:=hO.ol;have sN:=hO.lz;have nb:=ho.nb hl;obtain⟨x,hx⟩:∃x,x=ord.getD l 0:=⟨_,rfl⟩;obtain⟨y,hy⟩:∃y,y=ord.getD (l+1) 0:=⟨_,rfl⟩;rw[<-hx,<-hy]at nb;refine aF λg=>Je ?_;have hmk:(kp,Obj.cells (b.cells K.n) 141 zZ)∈C:=by rw[hC];exact .head _
 have Xp:∀z∈b.CO,z∈C:=by rw[hC];exact bI.sub (.cons (.app (.app (.app (.app .left)))))
 refine Ld.v hmk ?_;refine hO.od.ld (x:=(x:Int)) (by rw[hx];exact bH zO) Xp (Ld.v hmk ?_);refine ae.inc (hO.od.ld (x:=(y:Int)) (by rw[hy];exact bH zO) Xp (aa.fq (Bk h0 hok nb.xn) ?_));rintro w H ⟨all,Na,rfl,aI,BM,hlen⟩;refine DR.self (Nil.ptr (ai.mk (aa.rq (Sz h0 nb.xn aI hlen) ?_)));rintro w ⟨made,rfl,RG⟩;have hml:=ru RG;have Ll:=hok.mid.cap;have aft:=hok.mid.room;refine aa.eq (Dl h0 (m:=made.length) zO zO) ?_;have akn:BE K.n ord l (K.held S)=K.used-2+made.length:=X8 (PN hok ho hl (by rw[<-hx,<-hy];exact BM) (by rw[<-hx];exact RG));apply Un.not;by_cases hroom:K.used+made.length<=K.cap;rotate_left
 ·rw[xai hroom];exact Br.yes (aM.mk .right (.inr ⟨by omega,rfl,rfl⟩))
 rw[xal hroom];apply Br.no;have tb:TB K S (lv ah) x y l all made:=⟨hok,nb,BM,RG,hroom⟩;have fO:=BM.nd;have hge:∀{i:Nat} {c:Cx},all[i]? =some c->c.r∉(all.take i).map Cx.r:=λ{i c} pK hm=>by
  have h1:(all.take (i+1)).map Cx.r=(all.take i).map Cx.r++[c.r]:=by rw[xbH,pK,xaJ];rfl
  have h2:((all.take (i+1)).map Cx.r).Nodup:=fO.sublist ((xdO _ _).map _);rw[h1]at h2;exact(xa5.1 h2).2.2 _ hm _ zI rfl
 have nv:∀{i:Nat} {c:Cx},all[i]? =some c->all.take (i+1)=all.take i++[c]:=λpK=>by rw[xbH,pK];rfl
 have hdr:∀{i:Nat} {c:Cx},all[i]? =some c->all.drop i=c::all.drop (i+1):=λ{i c} pK=>by
  obtain⟨hi,e⟩:=xak.1 pK;rw[xbc hi,e]
 have Zc:∀{i:Nat},∀c∈all.take i,c∈all:=λc hc=>xcC hc;have hmD:∀{i:Nat},∀c∈all.drop i,c∈all:=λc hc=>List.mem_of_mem_drop hc;refine aI.bP ?_;rw[xaC];refine⟨λvs H=>∃(i:Nat) (T':Nd->Option Nat) (C1:Hp),vs=[iv (i:Int)]/\H=Na++C1/\i<=all.length/\cT kp {K with T:=T'} ord ah tr C1/\jK {K with T:=T'} S (λs=>∃c∈all.take i,s=c.r) zero'/\(∀d,T' d=none\/T' d=K.T d),
  λvs _=>all.length-bL vs 0,JE.mk ⟨0,K.T,C,rfl,rfl,xaN _,h0,hok.mid.congr (λs=>by simp[iP]) (λ_ _=>rfl),λ_=>.inr rfl⟩,?_⟩
 rintro w H ⟨i,T',C1,hw,rfl,hi,fc,NI,NH⟩ gs;simp only[xaw,xa2]at hw;subst hw;refine ae.fk (Br.dec (λhlt=>?_) (λRR=>?_))
 ·obtain⟨c,pK⟩:∃c,all[i]? =some c:=⟨_,xaa hlt⟩;have Ge:c∈all:=xav pK;obtain⟨Ba,acz,hce⟩:=tb.n8 Ge;refine aI.Li (r:=mw c) (by rw[xau,pK];rfl) (λz hz=>xae _ hz) ?_;intro b31 _;refine St.p (mc _) ?_;obtain⟨b1,rfl,XM⟩:=fc;refine DR.self (Nil.ptr (ai.mk (Ld.f ?_)));refine ai.mk (ax.mk (vs:=(bu c.d).toArray) (.head _) (by simp[mw]) rfl ?_);have hTc:T' c.d=some c.r:=(NI.j5 c.d c.r).2 ⟨Ba,by rintro⟨c',oW,e⟩;exact hge pK (e▸xaT oW)⟩;refine aa.fq (yH (d:=c.d) XM.ut (hok.mid.var Ba) hTc) ?_;rintro v CT' ⟨rfl,YP⟩;refine ae.inc (aC.of .tail ⟨i+1,qI T' c.d none,_,rfl,rfl,by omega,⟨{b1 with CT:=CT'},rfl,{XM with ut:=YP}⟩,(NI.af2 (r:=c.r) (d:=c.d) Ba ?_).congr (λs=>?_) (λ_ _=>rfl),λd=>?_⟩ (by simp[bL];omega))
  ·rintro⟨c',oW,e⟩;exact hge pK (e▸xaT oW)
  ·rw[nv pK];constructor
   ·rintro(⟨c',oW,e⟩|e)
    ·exact⟨c',xae _ oW,e⟩
    exact⟨c,by simp,e⟩
   rintro⟨c',oW,e⟩;rcases xao.1 oW with oW|oW
   ·exact .inl ⟨c',oW,e⟩
   simp at oW;subst oW;exact .inr e
  unfold qI;split
  ·exact .inl rfl
  exact NH d
 have hi':i=all.length:=by omega
 subst hi';rw[xbl]at NI;have hTI:=tb.start NI NH;refine aI.bP ?_;rw[xaC];refine⟨λvs H=>∃(i:Nat) (K1:Kd) (S1:Nat->aA.Fn) (C1:Hp),vs=[iv (i:Int)]/\H=Na++C1/\i<=all.length/\cT kp K1 ord ah tr C1/\TI K S (lv ah) x y l made K1 S1 (all.take i) (all.drop i) (j6 (all.take i))/\
   PL (j6 (all.take i)) K1.N/\Idle K1/\(∀r d,K.N r=none->K1.N r=some d->0<K1.use r),
  λvs _=>all.length-bL vs 0,JE.mk ⟨0,_,S,C1,rfl,rfl,xaN _,fc,hTI,λt _ h=>by simp[j6]at h,RP,λr d h1 h2=>by rw[h1]at h2;cases h2⟩,?_⟩
 clear hTI NI NH fc T' C1 RR hi;rintro w H ⟨i,K1,S1,C1,hw,rfl,hi,fc,NH,V9,RO,Xv⟩ gs;simp only[xaw,xa2]at hw;subst hw;refine ae.fk (Br.dec (λhlt=>?_) (λRR=>?_))
 ·obtain⟨c,pK⟩:∃c,all[i]? =some c:=⟨_,xaa hlt⟩;have Ge:c∈all:=xav pK;obtain⟨Ba,acz,hce⟩:=tb.n8 Ge;rw[hdr pK]at NH;have jh:∀c'∈c::all.drop (i+1),c'∈all:=by rw[<-hdr pK];exact hmD
  have hPb:∀s,j6 (all.take i) s<=2097152:=λs=>by have:=AO s (all.take i);rw[xbz]at this;omega
  refine aI.Li (r:=mw c) (by rw[xau,pK];rfl) (λz hz=>xae _ hz) ?_;intro b53 _;refine St.p (mc _) ?_;refine DR.self (Nil.ptr (ai.mk (Ld.f ?_)));refine Ld.f ?_;refine aa.fq (Su tb fc NH Zc jh Ge (k:=⟨x,c.yg,c.tR⟩) (by simp[keys]) V9 RO (λs=>by have:=hPb s;omega)) ?_;rintro w C2 ⟨t0,K2,S2,rfl,dk,hT2,abv,g0,V8,F6,ahV,ae9⟩;refine Nil.ptr (ai.mk (aa.fq (PG dk hT2 V8 F6 (λs=>by have:=hPb s;omega) (hT2.rC tb Zc abv)) ?_));rintro w C3 ⟨K3,rfl,j9,hT3,ZE,af5,hN3,afv,abT⟩;have acT:∀s,(j6 (all.take i) s+if s=t0 then 1 else 0)<=2097153:=λs=>by have:=hPb s;split<;>omega
  refine DR.self (Nil.ptr (ai.mk (Ld.f ?_)));refine Ld.f ?_;refine aa.fq (Su tb j9 hT3 Zc jh Ge (k:=⟨x,c.yf,c.tQ⟩) (by simp[keys]) ZE af5 (λs=>by have:=acT s;omega)) ?_;rintro w C4 ⟨t1,K4,S4,rfl,NJ,hT4,abu,g1,ZD,af4,Xc,ae8⟩;refine Nil.ptr (ai.mk (aa.fq (PG NJ hT4 ZD af4 (λs=>by have:=acT s;omega) (hT4.rC tb Zc abu)) ?_));rintro w C5 ⟨K5,rfl,Lu,hT5,als,af3,hN5,afu,abS⟩;have Xh:ym K K5 (lv ah) x l t0:=ym.mono abv (λs d hs=>by rw[hN5];exact Xc s d (by rw[hN3];exact hs));have Xg:ym K K5 (lv ah) x l t1:=ym.mono abu (λs d hs=>by rw[hN5];exact hs);have g0':(c.yg=c.tR/\t0=c.yg)\/K5.N t0=some ⟨x,c.yg,c.tR⟩:=by
   rcases g0 with g0|g0
   ·exact .inl g0
   exact .inr (by rw[hN5];exact Xc _ _ (by rw[hN3];exact g0))
  have g1':(c.yf=c.tQ/\t1=c.yf)\/K5.N t1=some ⟨x,c.yf,c.tQ⟩:=by
   rcases g1 with g1|g1
   ·exact .inl g1
   exact .inr (by rw[hN5];exact g1)
  have afM:((all.take i++c::all.drop (i+1)).map Cx.r).Nodup:=by rw[<-hdr pK,xbk];exact fO
  obtain⟨hTn,hT6⟩:=hT5.Au tb Zc jh afM Xh Xg g0' g1' (P':=j6 (all.take (i+1))) (λs _=>by
   rw[nv pK,MX,eC ⟨y,t0,t1⟩];have Wv:(if t0=s then 1 else 0)=(if s=t0 then 1 else 0:Nat):=by split<;>split<;>first|rfl|(exfalso;omega)
   have e2':(if t1=s then 1 else 0)=(if s=t1 then 1 else 0:Nat):=by split<;>split<;>first|rfl|(exfalso;omega)
   simp only[Wv,e2'];omega)
  have RH:∀{t:Nat},ym K K5 (lv ah) x l t->live K5.N t:=λhk=>hT5.rC tb Zc hk;have Zt:∃e,K5.N c.r=some e:=hT5.kept Ba;refine Build.mk (cs:=bu ⟨y,t0,t1⟩) zK λb83 _=>?_;refine St.p (λz hz=>by simp[bu,u32]at hz;rcases hz with rfl|rfl|rfl<;>rfl) ?_;obtain⟨b5,rfl,hO5⟩:=Lu;refine DR.self (Nil.ptr (ai.mk (Ld.f ?_)));refine Ld.f ?_;refine ax.q ?_;have YN:y<K5.n:=by rw[hT5.n];exact nb.yn
  refine aa.fq (WG (d:=⟨y,t0,t1⟩) hO5.ar ⟨by show y<64;have:=hO5.lz;omega,RH Xh,RH Xg⟩ Zt (tb.ok.mid.two Ba).1) ?_;rintro w CA' ⟨rfl,har⟩;refine DR.self (Nil.ptr (ai.mk (Ld.f ?_)));refine ax.q ?_;refine Ld.f ?_;refine aa.fq (KF (d:=⟨y,t0,t1⟩) (r:=c.r) hO5.ut YN hTn) ?_;rintro w CT' ⟨rfl,YP⟩;refine ae.inc (aC.of (.skip .tail) ⟨i+1,{K5 with N:=up K5.N c.r (some ⟨y,t0,t1⟩),T:=qI K5.T ⟨y,t0,t1⟩ (some c.r)},S4,_,rfl,rfl,by omega,⟨{b5 with CA:=CA',CT:=CT'},rfl,{hO5 with ar:=har,ut:=YP}⟩,by rw[nv pK]at hT6⊢;exact hT6,λt Sq hp=>?_,λs hs=>?_,λr d YY hrd=>?_⟩ (by simp[bL];omega))
  ·obtain⟨c',oW,kH⟩:=Cz hp;have agr:=Zc c' oW;have R5:=(tb.n8 agr).1;have hlv:live K.N t:=by
    rcases kH with rfl|rfl
    ·exact tb.ok.mid.lo R5
    exact tb.ok.mid.hi R5
   rcases hlv with hlv|⟨d,hd⟩
   ·omega
   exact hT6.kept hd
  ·have hs':up K5.N c.r (some ⟨y,t0,t1⟩) s=none:=hs;have hne:s≠c.r:=λe=>by subst e;rw[aO]at hs';cases hs'
   rw[aS hne]at hs';exact af3 s hs'
  have YV:up K5.N c.r (some ⟨y,t0,t1⟩) r=some d:=hrd;have hne:r≠c.r:=λe=>by rw[e,Ba]at YY;cases YY
  rw[aS hne,hN5]at YV;have Pu:2<=r:=(hT4.mid.two YV).1;show 0<K5.use r;rcases ae8 r d YV with e|⟨h3,hu3⟩
  ·rw[e]at Pu⊢;exact abS Pu
  rw[hN3]at h3;have h5:=afu r;rcases ae9 r d h3 with e|⟨h1,F0⟩
  ·rw[e]at Pu⊢h5 hu3;have:=abT Pu;omega
  have:=Xv r d YY h1;have:=afv r;omega
 have hi':i=all.length:=by omega
 subst hi';rw[xbl,xeq]at NH;rw[xbl]at V9;have uB:=PM tb NH Xv;refine aI.bP ?_;rw[xaC];refine⟨λvs H=>∃(i:Nat) (K2:Kd) (C2:Hp),vs=[iv (i:Int)]/\H=Na++C2/\i<=all.length/\cT kp K2 ord ah tr C2/\jK K2 S1 iP (j6 (all.drop i))/\Pos K2/\PL (j6 (all.drop i)) K2.N/\yl K2 K1,
  λvs _=>all.length-bL vs 0,JE.mk ⟨0,K1,C1,rfl,rfl,xaN _,fc,NH.mid.congr (λs=>by simp[iP]) (λ_ _=>rfl),uB,V9,.refl K1⟩,?_⟩
 clear fc V9 hi RR C1;rintro w H ⟨i,K2,C2,hw,rfl,hi,dk,Lt,kT,V8,dX⟩ gs;simp only[xaw,xa2]at hw;subst hw;refine ae.fk (Br.dec (λhlt=>?_) (λRR=>?_))
 ·obtain⟨c,pK⟩:∃c,all[i]? =some c:=⟨_,xaa hlt⟩;have Ge:c∈all:=xav pK;obtain⟨Ba,acz,hce⟩:=tb.n8 Ge;have hPb:∀s,j6 (all.drop i) s<=2097152:=λs=>by have:=AO s (all.drop i);rw[List.length_drop]at this;omega
  have hlo:=h0.lt (hok.mid.lo Ba);have hhi:=h0.lt (hok.mid.hi Ba);refine aI.Li (r:=mw c) (by rw[xau,pK];rfl) (λz hz=>xae _ hz) ?_;intro amt _;refine St.p (mc _) ?_;refine DR.self (Nil.ptr (ai.mk (ai.mk (Ld.f ?_))));have F6:Idle K2:=dX.idle RO;have hub:∀s,K2.use s<2147483648:=λs=>by have:=uQ Lt F6 hPb s;omega
  rw[hdr pK,QH]at Lt V8;refine aa.fq (mG dk Lt kT V8 hlo hub) ?_;rintro w C3 ⟨rfl,K3,j9,Wa,TU,ZE,RJ⟩;refine DR.self (Nil.ptr (ai.mk (ai.mk (Ld.f ?_))));refine aa.fq (mG j9 Wa TU ZE hhi (λs=>xaA (RJ.us s) (hub s))) ?_;rintro w C4 ⟨rfl,K4,NJ,hM4,hp4,ZD,Zd⟩;exact ae.inc (aC.of .tail ⟨i+1,K4,C4,rfl,rfl,by omega,NJ,hM4,hp4,ZD,Zd.trans (RJ.trans dX)⟩ (by simp[bL];omega))
 have hi':i=all.length:=by omega
 subst hi';rw[xeq]at Lt;have F6:Idle K2:=dX.idle RO;obtain⟨f1,f2,f3⟩:=NH.fin tb (K':=K2) (Lt.congr (λ_=>xcR) (λ_ _=>rfl)) kT (λh=>dX.N h) dX.n (λr=>by show K2.ho.getD r 0=K1.ho.getD r 0;rw[dX.ho]);have VN:K2.n=K.n:=by rw[dX.n,NH.n]
 obtain⟨b2,rfl,hO2⟩:=dk;refine DR.self (Ld.n ?_);refine Ld.n ?_;refine ae.inc (hO2.od.nt (x:=(y:Int)) (.app (.cons (.app (.app (.app (.app .left)))))) (by rw[ak];omega) λCO1 x5=>?_);refine x5.nt (x:=(x:Int)) (.app (.cons (.app (.app (.app (.app .left)))))) (by rw[xbT,ak];omega) λCO2 r9=>?_;refine DR.self (Ld.n ?_);refine Ld.n ?_;refine ae.inc ?_;have ng:=hO2.ol.2;have hxn:=nb.xn;have YN:=nb.yn;refine hO2.lv.nt (x:=((l+1:Nat):Int)) (.app (.cons (.app (.app (.app (.app (.app .left))))))) (by rw[ak];omega) λCL1 Dy=>?_;refine Dy.nt (x:=(l:Int)) (.app (.cons (.app (.app (.app (.app (.app .left))))))) (by rw[xbT,ak];omega) λCL2 qK=>?_;rw[fm,fm]at r9 qK;have BH:(ord.set l y).set (l+1) x=fM ord l:=by rw[hx,hy];rfl
 rw[BH]at r9;have hlv:lv ((ah.set x (l+1)).set y l)=tX (lv ah) x y l:=Yz nb.ne zO zO;refine aM.mk .right (.inl ⟨by omega,rfl,K2,S1,_,⟨{b2 with CO:=CO2,CL:=CL2},rfl,{hO2 with od:=r9,lv:=qK,ol:=?_}⟩,by rw[hlv];exact f1,by rw[hlv,VN,hx,hy];exact Ut ho hl,F6,VN,by rw[dX.cap,NH.cap],λr=>?_,f2,f3⟩)
 ·rw[mE];simp;exact hO2.ol
 show K2.ho.getD r 0=K.hold r;rw[dX.ho];exact NH.hold r
end
structure cf(kp:Nat)(K:Kd)(S:Nat->aA.Fn)(ord ah tr:zL)(C:Hp):Prop where
 rep:cT kp K ord ah tr C
 ok:Ok K S (lv ah)
 od:Ord K.n (lv ah) ord
 idle:Idle K
 tr:yh K.n K.cap (K.held S) ord tr.reverse
theorem Kept.refl(K:Kd)(S:Nat->aA.Fn):Kept K S K S:=⟨rfl,rfl,λ_=>rfl,λ_=>xcR,λ_ _=>rfl⟩
theorem Kept.trans{K K' K2:Kd}{S S' S2:Nat->aA.Fn}(h:Kept K S K' S')(h':Kept K' S' K2 S2):Kept K S K2 S2:=
 ⟨h'.n.trans h.n,h'.cap.trans h.cap,λr=>(h'.hold r).trans (h.hold r),λg=>(h'.held g).trans (h.held g),λr hr=>(h'.fn r (by rw[h.hold];exact hr)).trans (h.fn r hr)⟩
section
variable {kp:Nat} {K:Kd} {ord ah tr:zL} {C:Hp} {S:Nat->aA.Fn}
theorem SD(h:cf kp K S ord ah tr C){l:Int}(hl:¬(0<=l/\l+1<K.n)):Rd zQ 151 #[ptr kp,iv l] C (· =iv 1):=by
 obtain⟨b,rfl,hO⟩:=h.rep;have hn:=hO.lz;refine aF λg=>xD (ae.aH (Br.no (ae.lss (cm.or (decide ((K.n:Int) -2<l)) (λ_=>?_) zI λgs=>?_))))
 ·refine Ld.n ?_;exact ae.lg (c:=(K.n:Int) -2) rfl zO (ae.gtr ⟨rfl,rfl⟩)
 rw[<-xa8];exact Br.T (aZ.mk (.refl _) rfl)
theorem LD(h:cf kp K S ord ah tr C){l:Nat}(hl:l+1<K.n)(eG:tr.length<17592186044416):Fc zQ 151 #[ptr kp,iv (l:Int)] C (λr C'=>
   (BE K.n ord l (K.held S)+2<=K.cap/\r=iv 0/\∃K' S' bW,cf kp K' S' (fM ord l) bW (tr++[l]) C'/\Kept K S K' S')\/
   (K.cap<BE K.n ord l (K.held S)+2/\r=iv 9/\C'=C)):=by
 have h0:=h;obtain⟨b,hC,hO⟩:=h.rep;have hn:=hO.lz;refine aF λg=>xD (ae.aH (Br.no (ae.lss (cm.or (decide ((K.n:Int) -2<l)) (λ_=>?_) zI λgs=>?_))))
 ·refine Ld.v (by rw[hC];exact .head _) ?_;exact ae.lg (c:=(K.n:Int) -2) rfl zO (ae.gtr ⟨rfl,rfl⟩)
 rw[<-xa8];refine Br.F (aa.fq (KG h.rep h.ok h.od h.idle hl) ?_);rintro w C' (⟨hfit,rfl,K',S',bW,dh,A5,Za,we,rI⟩|⟨hno,rfl,rfl⟩)
 ·refine Un.not (Br.no ?_);obtain⟨b',rfl,x9⟩:=dh;refine Ld.n ?_;refine az.int (e:=3) zK zK zK λbx=>?_;refine x9.tr.rX (.cons (.cons (.app (.app (.app (.app (.app (.app .here)))))))) (by exact .head _) (by rw[ak];omega) (by rw[ak];omega) λv' CR' cA=>?_;refine Nil.ptr (ai.mk (St.one (by exact .tail (.head _)) cA.one (by simp[ur.cells]) rfl ?_));refine aM.mk .tail (.inl ⟨hfit,rfl,K',S',bW,⟨⟨{b' with vt:=v',CR:=CR'},rfl,{x9 with tr:=by rw[bY];exact cA}⟩,A5,Za,we,?_⟩,rI⟩);rw[rI.n,rI.cap];exact(yh.ahf hO.ol.1 hl hfit h.tr).congr λg=>(rI.held g).symm
 exact Un.not (Br.yes (aM.here (.inr ⟨hno,rfl,rfl⟩)))
theorem Ul{l:Nat}(h:cf kp K S ord ah (tr++[l]) C)(eG:tr.length<17592186044416):Fc zQ 338 #[ptr kp] C (λr C'=>
   r=.tuple #[iv (l:Int),iv 0]/\l+1<K.n/\∃K' S' bW,cf kp K' S' (fM ord l) bW tr C'/\Kept K S K' S'):=by
 have h0:=h;obtain⟨b,hC,hO⟩:=h.rep;have hn:=hO.lz;have x4:=h.tr;rw[List.reverse_append]at x4;obtain⟨hl,hfit,rE⟩:l+1<K.n/\BE K.n ord l (K.held S)+2<=K.cap/\yh K.n K.cap (K.held S) (fM ord l) tr.reverse:=x4;have hmk:(kp,Obj.cells (b.cells K.n) 141 zZ)∈C:=by rw[hC];exact .head _
 refine aF λg=>HT (ae.aH (cm.or false (λ_=>?_) rfl λgs=>Br.no ?_))
 ·refine Ld.v hmk ?_;refine hO.tr.bP (ae.gI ⟨rfl,?_⟩);rw[xai];rw[ak,xaf];simp;omega
 refine Ld.v hmk ?_;refine hO.tr.bP ?_;rw[ak,xaf];refine ae.bZ (a:=tr.length+1) (b:=1) ?_;rw[xb8];refine Ld.v hmk ?_;refine hO.tr.ld (i:=tr.length) (x:=(l:Int)) (by rw[bY];simp[iw]) (by rw[hC];exact bI.sub (.cons (.app (.app (.app (.app (.app (.app .here)))))))) (aa.fq (KG h.rep h.ok h.od h.idle hl) ?_);rintro w C' (⟨_,rfl,K',S',bW,dh,A5,Za,we,rI⟩|⟨hno,rfl,rfl⟩);rotate_left
 ·omega
 obtain⟨b',rfl,x9⟩:=dh;refine Ld.n ?_;refine x9.tr.cut (i:=tr.length) (by rw[ak];simp) λv' nU=>?_;refine Nil.ptr (ai.mk (St.one (by exact .head _) nU.one (by simp[ur.cells]) rfl ?_));refine aM.here ⟨rfl,hl,K',S',bW,⟨⟨{b' with vt:=v'},rfl,{x9 with tr:=by rw[bY,xev zI]at nU;exact nU}⟩,A5,Za,we,?_⟩,rI⟩;rw[rI.n,rI.cap];exact rE.congr λg=>(rI.held g).symm
theorem cf.bK(h:cf kp K S ord ah tr C){r:Nat}(hl:live K.N r):r<1048576:=h.rep.lt hl
theorem cf.gi(h:cf kp K S ord ah tr C)(r:Nat):K.hold r<=65535:=h.ok.mid.mx r
theorem cf.EY(h:cf kp K S ord ah tr C)(r:Nat):K.use r<=2097153:=by have:=uQ h.ok.mid h.idle (M:=0) (λ_=>xag _) r;omega
structure WR(K K':Kd)(r:Nat):Prop where
 n:K'.n=K.n
 cap:K'.cap=K.cap
 used:K'.used=K.used
 N:K'.N=K.N
 hold:∀s,K'.hold s=if s=r/\2<=r then K.hold s+1 else K.hold s
theorem oU(h:cf kp K S ord ah tr C){r:Nat}(hl:live K.N r)(h2:2<=r)(hf:K.hold r=65535):Rd zQ 141 #[ptr kp,u32 r] C (· =iv 8):=by
 have hr:=h.bK hl;obtain⟨b,hC,hO⟩:=h.rep;have hfit:r<K.ho.length:=by
  rcases hl with hl|⟨d,hd⟩
  ·omega
  rw[<-hO.ul.1];exact h.ok.mid.fit hd
 refine aF λg=>xG (ae.aH (Br.no (Nil.ptr (ai.mk (aa.eq (nT h.rep zO) ?_)))));rw[bX.2 hl];refine Un.not (Br.no λJ7 _=>(ae.nh (b:=1) (Br.T (Nil.ptr (ai.mk (Ld.u (by rw[hC];exact .head _) ?_))))));refine hO.ho.ld (x:=((K.hold r:Nat):Int)) (bH hfit) (by rw[hC];exact bI.sub (.cons (.app (.app (.app .left))))) ?_;rw[hf];exact ae.gI (Br.T (aZ.mk (.refl _) rfl))
theorem Dn(h:cT kp K ord ah tr C)(hM0:jK K S iP zero')(VT:Idle K){r:Nat}(hl:live K.N r)(hf:2<=r->K.hold r<65535):Fc zQ 141 #[ptr kp,u32 r] C (λv C'=>v=iv 0/\∃K',cT kp K' ord ah [] C'/\
  jK K' S iP zero'/\Idle K'/\WR K K' r/\(∀s,K.use s<=K'.use s)/\(2<=r->0<K'.use r)):=by
 have hr:=h.lt hl;have h0:=h;obtain⟨b,hC,hO⟩:=h;refine aF λg=>xG (ae.aH (Br.no (Nil.ptr (ai.mk (aa.eq (nT h0 zO) ?_)))));rw[bX.2 hl];refine Un.not (Br.no λJ7 hJ7=>?_);have fin:∀(K':Kd) C1,cT kp K' ord ah tr C1->jK K' S iP zero'->Idle K'->WR K K' r->(∀s,K.use s<=K'.use s)->(2<=r->0<K'.use r)->J7 [] C1:=λK' C1 dh A5 we hm hu hp=>by
  refine hJ7 _ λgs=>?_;obtain⟨b',rfl,x9⟩:=dh;refine Nil.ptr (ai.mk (St.one (by exact .head _) rfl (by simp[ur.cells]) rfl ?_));refine aM.mk (nB:=({b' with vt:=.slice none 0 0,CR:=[]}:ur).hp kp K'.n) ?_ ⟨rfl,K',⟨{b' with vt:=.slice none 0 0,CR:=[]},rfl,{x9 with tr:=aN.nil}⟩,A5,we,hm,hu,hp⟩;refine .cons (.cU (.cU (.cU (.cU (.cU (.cU .nil _) _) _) _) _) _)
 refine ae.nh (b:=1) (Br.dec (λh2=>?_) (λh2=>?_));rotate_left
 ·refine JE.mk (fin K C h0 hM0 VT ⟨rfl,rfl,rfl,rfl,λs=>?_⟩ (λ_=>xag _) (λh=>by omega));rw[xac zO]
 have oX:2<=r:=by omega
 have TY:=hf oX;obtain⟨d,hd⟩:∃d,K.N r=some d:=by
  rcases hl with hl|hl
  ·omega
  exact hl
 have hfu:=hM0.fit hd;have Nv:=hO.ul;have hfit:r<K.ho.length:=by omega
 subst hC;refine Nil.ptr (ai.mk (Ld.f ?_));refine hO.ho.ld (x:=((K.hold r:Nat):Int)) (bH hfit) (bI.sub (.cons (.app (.app (.app .left))))) (ae.gI (Br.F (Nil.ptr (ai.mk (Ld.f ?_)))));refine hO.ho.ld (x:=((K.hold r:Nat):Int)) (bH hfit) (bI.sub (.cons (.app (.app (.app .left))))) (ae.inc (hO.ho.nt (x:=((K.hold r+1:Nat):Int)) (.cons (.app (.app (.app .left)))) (by rw[ak];exact hfit) λTN pJ=>?_));rw[fm]at pJ;have g1:∀s,(K.ho.set r (K.hold r+1)).getD s 0=if s=r then K.hold r+1 else K.hold s:=λs=>gU hfit
 refine Nil.ptr (ai.mk (Ld.f ?_));refine pJ.ld (x:=((K.hold r+1:Nat):Int)) (by rw[bH (by simpa using hfit),g1,xad rfl]) (bI.sub (.cons (.app (.app (.app .left))))) ?_;refine ae.dQ (b:=1) (Br.dec (λh3=>?_) (λh3=>?_))
 ·refine Nil.ptr (ai.mk (Ld.f ?_));refine hO.us.ld (x:=((K.use r:Nat):Int)) (bH hfu) (bI.sub (.cons (.app (.app .left)))) ?_;have hub:=uQ hM0 VT (M:=0) (λ_=>xag _) r;refine ae.inc (hO.us.nt (x:=((K.use r+1:Nat):Int)) (.cons (.app (.app .left))) (by rw[ak];exact hfu) λT8 A3=>?_);rw[fm]at A3;have g2:∀s,(K.us.set r (K.use r+1)).getD s 0=if s=r then K.use r+1 else K.use s:=λs=>gU hfu
  have hM:=hM0.keep (r:=r) (dB:=K.us.set r (K.use r+1)) (cA:=K.ho.set r (K.hold r+1)) ⟨d,hd⟩ TY zI (by rw[g1,xad rfl]) (λs hs=>by rw[g1,xac hs]) (by rw[g2,xad rfl,xad zO]) (λs hs=>by rw[g2,xac hs]);refine JE.mk (fin {K with us:=K.us.set r (K.use r+1),ho:=K.ho.set r (K.hold r+1)} _ ⟨{b with CU:=T8,CH:=TN},rfl,{hO with us:=A3,ho:=pJ,ul:=by simp;exact Nv}⟩ hM (λs hs=>?_) ⟨rfl,rfl,rfl,rfl,λs=>?_⟩ (λs=>?_) (λ_=>?_))
  ·show(K.us.set r (K.use r+1)).getD s 0=0;have hs':K.N s=none:=hs;rw[g2,xac (λe=>by rw[e,hd]at hs';cases hs')];exact VT s hs'
  ·show(K.ho.set r (K.hold r+1)).getD s 0=_;rw[g1];by_cases e:s=r
   ·subst e;rw[xad rfl,xad ⟨rfl,oX⟩]
   rw[xac e,xac (λh=>e h.1)]
  ·show K.use s<=(K.us.set r (K.use r+1)).getD s 0;rw[g2];split
   ·rename_i e;subst e;omega
   exact xag _
  show 0<(K.us.set r (K.use r+1)).getD r 0;rw[g2,xad rfl];omega
 have hM:=hM0.keep (r:=r) (dB:=K.us) (cA:=K.ho.set r (K.hold r+1)) ⟨d,hd⟩ TY zI (by rw[g1,xad rfl]) (λs hs=>by rw[g1,xac hs]) (by show K.use r=_;rw[xac zO];rfl) (λs hs=>rfl);refine JE.mk (fin {K with ho:=K.ho.set r (K.hold r+1)} _ ⟨{b with CH:=TN},rfl,{hO with ho:=pJ,ul:=by simp;exact Nv}⟩ hM VT ⟨rfl,rfl,rfl,rfl,λs=>?_⟩ (λ_=>xag _) (λ_=>?_));rotate_left
 ·show 0<K.use r;rw[hM0.use hd,xac zO];omega
 show(K.ho.set r (K.hold r+1)).getD s 0=_;rw[g1];by_cases e:s=r
 ·subst e;rw[xad rfl,xad ⟨rfl,oX⟩]
 rw[xac e,xac (λh=>e h.1)]
theorem mP(h:cf kp K S ord ah tr C){r:Nat}(hl:live K.N r)(hf:2<=r->K.hold r<65535):Fc zQ 141 #[ptr kp,u32 r] C (λv C'=>v=iv 0/\∃K',cf kp K' S ord ah [] C'/\WR K K' r):=by
 refine(Dn h.rep h.ok.mid h.idle hl hf).mono ?_;rintro v C' ⟨rfl,K',dh,ZH,we,hm,hu,hp⟩;refine⟨rfl,K',⟨dh,⟨ZH,λs d hs=>?_,by rw[hm.n];exact h.ok.lv,by rw[hm.n,hm.N];exact h.ok.wf⟩,by rw[hm.n];exact h.od,we,trivial⟩,hm⟩;rw[hm.N]at hs;exact xaO (h.ok.pos s d hs) (hu s)
end
section
variable {kp:Nat} {K:Kd} {ord ah tr:zL} {C:Hp} {S:Nat->aA.Fn}
theorem Lh{K':Kd}{P:Nat->Nat}(hw:WF K.n (lv ah) K.N)(hM:jK K' S iP P)(hN:∀{s d},K'.N s=some d->K.N s=some d)(hn:K'.n=K.n):WF K'.n (lv ah) K'.N:=by
 have same:∀{t},live K'.N t->dep K'.n (lv ah) K'.N t=dep K.n (lv ah) K.N t:=λ{t} ht=>by
  cases e:K'.N t with
  |some f=>rw[aq e,aq (hN e)]
  |none=>
   have Xo:t<2:=by
    rcases ht with ht|⟨f,hf⟩
    ·exact ht
    rw[e]at hf;cases hf
   rw[aT e,aT (hw.const Xo),hn]
 refine hM.wf λ{s d} hs=>?_;rw[same (hM.lo hs),same (hM.hi hs)];exact⟨(hw.lo (hN hs)).2,(hw.hi (hN hs)).2⟩
structure Ao(K K':Kd)(r:Nat):Prop where
 n:K'.n=K.n
 cap:K'.cap=K.cap
 N:∀s d,K'.N s=some d->K.N s=some d
 hold:∀s,K'.hold s=if s=r/\2<=r then K.hold s-1 else K.hold s
theorem ads(h:cf kp K S ord ah tr C){r:Nat}(hr:r<4294967296)(h2:2<=r)(h0:K.hold r=0):Rd zQ 142 #[ptr kp,u32 r] C (· =iv 3):=by
 refine aF λg=>xF (ae.aH (Br.no ?_));intro J2 _;refine ae.nh (b:=1) (Br.T (aa.eq (vU h.rep hr (λs=>by have:=h.gi s;omega)) ?_));rw[h0];exact ae.gI (Br.T (aZ.mk (.refl _) rfl))
theorem mV(h:cf kp K S ord ah tr C){r:Nat}(hr:r<4294967296)(hh:2<=r->K.hold r≠0):Fc zQ 142 #[ptr kp,u32 r] C (λv C'=>v=iv 0/\∃K',cf kp K' S ord ah [] C'/\Ao K K' r):=by
 have h0:=h;obtain⟨b,hC,hO⟩:=h.rep;refine aF λg=>xF (ae.aH (Br.no ?_));intro J2 BP;have fin:∀(K':Kd) C1,cT kp K' ord ah tr C1->Ok K' S (lv ah)->Idle K'->Ao K K' r->J2 [] C1:=λK' C1 dh A5 we hm=>by
  refine BP _ λgs=>?_;obtain⟨b',rfl,x9⟩:=dh;refine Nil.ptr (ai.mk (St.one (by exact .head _) rfl (by simp[ur.cells]) rfl ?_));have mS:Ord K'.n (lv ah) ord:=by rw[hm.n];exact h.od
  refine aM.mk (nB:=({b' with vt:=.slice none 0 0,CR:=[]}:ur).hp kp K'.n) ?_ ⟨rfl,K',⟨⟨{b' with vt:=.slice none 0 0,CR:=[]},rfl,{x9 with tr:=aN.nil}⟩,A5,mS,we,trivial⟩,hm⟩;refine .cons (.cU (.cU (.cU (.cU (.cU (.cU .nil _) _) _) _) _) _)
 refine ae.nh (b:=1) (Br.dec (λh2=>?_) (λh2=>?_));rotate_left
 ·exact JE.mk (fin K C h.rep h.ok h.idle ⟨rfl,rfl,λ_ _ h=>h,λs=>by rw[xac zO]⟩)
 have oX:2<=r:=by omega
 have pJ:=hh oX;obtain⟨d,hd⟩:=h.ok.mid.held r pJ;have hfu:=h.ok.mid.fit hd;have Nv:=hO.ul;have hfit:r<K.ho.length:=by omega
 have hle:=h.gi r;refine aa.eq (vU h.rep hr (λs=>by have:=h.gi s;omega)) (ae.gI (Br.F ?_));subst hC;refine Nil.ptr (ai.mk (Ld.f ?_));refine hO.ho.ld (x:=((K.hold r:Nat):Int)) (bH hfit) (bI.sub (.cons (.app (.app (.app .left))))) (ae.bZ (b:=1) (hO.ho.nt (x:=((K.hold r-1:Nat):Int)) (.cons (.app (.app (.app .left)))) (by rw[ak];exact hfit) λTN Zm=>?_));rw[fm]at Zm;have g1:∀s,(K.ho.set r (K.hold r-1)).getD s 0=if s=r then K.hold r-1 else K.hold s:=λs=>gU hfit
 have hM:=h.ok.mid.drop (r:=r) (cA:=K.ho.set r (K.hold r-1)) zO zI (by rw[g1,xad rfl];omega) (λs hs=>by rw[g1,xac hs]);have fc:cT kp {K with ho:=K.ho.set r (K.hold r-1)} ord ah tr (({b with CH:=TN}:ur).hp kp K.n):=⟨_,rfl,{hO with ho:=Zm,ul:=by simp;exact Nv}⟩;have hho:∀s,(K.ho.set r (K.hold r-1)).getD s 0=if s=r/\2<=r then K.hold s-1 else K.hold s:=λs=>by
  rw[g1];by_cases e:s=r
  ·subst e;rw[xad rfl,xad ⟨rfl,oX⟩]
  rw[xac e,xac (λh=>e h.1)]
 refine Nil.ptr (ai.mk (Ld.f ?_));refine Zm.ld (x:=((K.hold r-1:Nat):Int)) (by rw[bH (by simpa using hfit),g1,xad rfl]) (bI.sub (.cons (.app (.app (.app .left))))) (ae.dQ (b:=0) (Br.dec (λh3=>?_) (λh3=>?_)));rotate_left
 ·rw[xac zO]at hM;exact JE.mk (fin {K with ho:=K.ho.set r (K.hold r-1)} _ fc ⟨hM,h.ok.pos,h.ok.lv,h.ok.wf⟩ h.idle ⟨rfl,rfl,λ_ _ h=>h,hho⟩)
 rw[xad zO]at hM;refine Nil.ptr (ai.mk ?_);have Lt:jK {K with ho:=K.ho.set r (K.hold r-1)} S iP (gX zero' [r]):=hM.congr (λ_=>xcR) λs _=>by
  unfold up gX zero';by_cases e:s=r
  ·subst e;simp
  simp[e,xba e]
 refine aa.fq (mG (P0:=zero') fc Lt h.ok.pos (λt Sq h0=>?_) (h.bK (.inr ⟨d,hd⟩)) (λs=>by have:=h.EY s;show K.use s<_;omega)) ?_
 ·by_cases e:t=r
  ·subst e;exact⟨d,hd⟩
  have h0':0<zero' t+[r].count t:=h0;simp[zero',xba e]at h0'
 rintro w C2 ⟨rfl,K2,dk,Wa,TU,_,dX⟩;refine JE.mk (fin K2 _ dk ⟨Wa,TU,by rw[dX.n];exact h.ok.lv,Lh h.ok.wf Wa (λh=>dX.N h) dX.n⟩ (dX.idle h.idle) ⟨dX.n,dX.cap,λs e hs=>dX.N hs,λs=>?_⟩);show K2.ho.getD s 0=_;rw[dX.ho];exact hho s
structure pQ(K:Kd)(S:Nat->aA.Fn)(K':Kd)(S':Nat->aA.Fn)(f:aA.Fn)(r:Nat):Prop where
 n:K'.n=K.n
 cap:K'.cap=K.cap
 used:K'.used<=K.used+1
 N:∀s d,K.N s=some d->K'.N s=some d
 fn:∀s,live K.N s->S' s=S s
 live:live K'.N r
 is:S' r=f
 hold:∀s,K'.hold s=if s=r/\2<=r then K.hold s+1 else K.hold s
theorem AW(h:cf kp K S ord ah tr C){v lo hi:Nat}(hv:v<K.n)(hlo:live K.N lo)(hhi:live K.N hi)(hlt:lo=hi\/(lv ah v<dep K.n (lv ah) K.N lo/\lv ah v<dep K.n (lv ah) K.N hi)):
  Fc zQ 175 #[ptr kp,iv (v:Int),u32 lo,u32 hi] C (λw C'=>
   (∃r K' S',w=.tuple #[u32 r,iv 0]/\cf kp K' S' ord ah [] C'/\pQ K S K' S' (ite S ⟨v,lo,hi⟩) r)\/
   (∃r,w=.tuple #[u32 0,iv 8]/\C'=C/\live K.N r/\2<=r/\K.hold r=65535/\S r=ite S ⟨v,lo,hi⟩)\/
   (w=.tuple #[u32 0,iv 9]/\C'=C/\K.cap<=K.used/\lo≠hi/\K.T ⟨v,lo,hi⟩=none)):=by
 have h0:=h;have afW:=h.bK hlo;have af7:=h.bK hhi;have Dy:=bX.2 hlo;have qK:=bX.2 hhi;have hfe:pO K ah (v:Int) lo hi=0:=by
  unfold pO;rw[xac zO,xac (by rw[Dy,qK];simp),xac];rintro⟨hne,hmin⟩;rcases hlt with e|⟨a,b⟩
  ·exact hne e
  simp only[xbh,lv]at hmin a b;omega
 refine aF λg=>JO (ae.aH (Br.no (aa.eq (LC h.rep (v:Int) zO zO (λr d hd=>⟨h.ok.mid.var hd,(h.ok.mid.two hd).1⟩)) ?_)));rw[hfe];refine ae.cD (Br.F (aa.rq (KO h.rep (lo:=lo) (hi:=hi) hv) ?_));rintro w hw;have there:∀(J9:List zV->Hp->Prop),(∀w12:zV,∀H11:Hp,(∀al4:Fr,aa zQ g 141 #[ptr kp,w12] H11 (λv13 H14=>ae .num .neq v13 (Value.int .i64 0) λv15=>Br v15
   (aM (λw C'=>(∃r K' S',w=.tuple #[u32 r,iv 0]/\cf kp K' S' ord ah [] C'/\pQ K S K' S' (ite S ⟨v,lo,hi⟩) r)\/
   (∃r,w=.tuple #[u32 0,iv 8]/\C'=C/\live K.N r/\2<=r/\K.hold r=65535/\S r=ite S ⟨v,lo,hi⟩)\/
   (w=.tuple #[u32 0,iv 9]/\C'=C/\K.cap<=K.used/\lo≠hi/\K.T ⟨v,lo,hi⟩=none)) (.returned (.tuple #[(Value.int .u32 0),v13])) H14) (aM (λw C'=>(∃r K' S',w=.tuple #[u32 r,iv 0]/\cf kp K' S' ord ah [] C'/\pQ K S K' S' (ite S ⟨v,lo,hi⟩) r)\/
   (∃r,w=.tuple #[u32 0,iv 8]/\C'=C/\live K.N r/\2<=r/\K.hold r=65535/\S r=ite S ⟨v,lo,hi⟩)\/
   (w=.tuple #[u32 0,iv 9]/\C'=C/\K.cap<=K.used/\lo≠hi/\K.T ⟨v,lo,hi⟩=none)) (.returned (.tuple #[w12,(Value.int .i64 0)])) H14)) (dy (aM (λw C'=>(∃r K' S',w=.tuple #[u32 r,iv 0]/\cf kp K' S' ord ah [] C'/\pQ K S K' S' (ite S ⟨v,lo,hi⟩) r)\/
   (∃r,w=.tuple #[u32 0,iv 8]/\C'=C/\live K.N r/\2<=r/\K.hold r=65535/\S r=ite S ⟨v,lo,hi⟩)\/
   (w=.tuple #[u32 0,iv 9]/\C'=C/\K.cap<=K.used/\lo≠hi/\K.T ⟨v,lo,hi⟩=none)))))->J9 [w12] H11)->
   ∀r,live K.N r->S r=ite S ⟨v,lo,hi⟩->J9 [u32 r] C:=λJ9 So r hr hS=>by
  refine So _ _ λgs=>?_;by_cases hf:2<=r/\K.hold r=65535
  ·exact aa.eq (oU h hr hf.1 hf.2) (ae.cD (Br.T (aM.here (.inr (.inl ⟨r,rfl,rfl,hr,hf.1,hf.2,hS⟩)))))
  refine aa.fq (mP h hr (λh2=>by have:=h.gi r;omega)) ?_;rintro w C' ⟨rfl,K',dh,hm⟩;refine ae.cD (Br.F (aM.here (.inl ⟨r,K',S,rfl,dh,⟨hm.n,hm.cap,by rw[hm.used];omega,λs d hs=>by rw[hm.N];exact hs,λ_ _=>rfl,by rw[hm.N];exact hr,hS,hm.hold⟩⟩)))
 by_cases he:lo=hi
 ·rw[xad he]at hw;subst hw;refine Ext.two λJ9 So=>(Un.not (Br.no (JE.mk (there J9 So lo hlo ?_))))
  funext z
  unfold aA.ite;simp[he]
 rw[xac he]at hw;have gR:lv ah v<dep K.n (lv ah) K.N lo/\lv ah v<dep K.n (lv ah) K.N hi:=by
  rcases hlt with e|e
  ·exact absurd e he
  exact e
 obtain⟨o,ho⟩:∃o,o=K.T ⟨v,lo,hi⟩:=⟨_,rfl⟩;cases o with
 |some r=>
  have hT:K.T ⟨v,lo,hi⟩=some r:=ho.symm;rw[hT]at hw;subst hw;refine Ext.two λJ9 So=>?_;have hN:=((h.ok.mid.j5 _ r).1 hT).1;refine Un.not (Br.no (JE.mk (there J9 So r (.inr ⟨_,hN⟩) ?_)))
  funext z
  rw[h.ok.mid.int.node hN];rfl
 |none=>
  have hT:K.T ⟨v,lo,hi⟩=none:=ho.symm;rw[hT]at hw;subst hw;refine Ext.two λJ9 So=>(Un.not (Br.yes (Nil.ptr (ai.mk ?_))));have hcap:=h.ok.mid.cap;refine aa.eq (Dl h.rep (m:=1) zO zO) (Un.not ?_);by_cases hroom:K.used+1<=K.cap;rotate_left
  ·rw[xai hroom];exact Br.yes (aM.here (.inr (.inr ⟨rfl,rfl,by omega,he,hT⟩)))
  rw[xal hroom];refine Br.no (Nil.ptr (ai.mk (Build.mk (cs:=bu ⟨v,lo,hi⟩) zK ?_)));have hfit:∀{t:Nat},live K.N t->t<2\/t<K.us.length:=λht'=>by
   rcases ht' with ht'|⟨d,dP⟩
   ·exact .inl ht'
   exact .inr (h.ok.mid.fit dP)
  have sN:K.n<=64:=by obtain⟨_,_,hO⟩:=h.rep;exact hO.lz
  refine aa.fq (KI h.rep (d:=⟨v,lo,hi⟩) ⟨by show v<64;omega,hlo,hhi⟩ hv hT zO (hfit hlo) (hfit hhi) (λs=>by have:=h.EY s;omega)) ?_;rintro w C1 ⟨r,dB,cA,rfl,hN,h2,hrc,hlen,hru,Nv,u0,u1,u2,o0,o1,fc⟩;have NI:=h.ok.mid.lay (r:=r) (d:=⟨v,lo,hi⟩) hN ⟨h2,hrc⟩ hv he hlo hhi hT (λh=>h) rfl zO hlen ⟨hru,Nv⟩ u0 u1 o0 o1;have agQ:∀s d,K.N s=some d->up K.N r (some ⟨v,lo,hi⟩) s=some d:=λs d hs=>by rw[aS (λe=>by rw[e,hN]at hs;cases hs)];exact hs
  have hne:∀{t:Nat},live K.N t->t≠r:=λht=>gh ht h2 hN;have RO:Idle {K with N:=up K.N r (some ⟨v,lo,hi⟩),T:=qI K.T ⟨v,lo,hi⟩ (some r),used:=K.used+1,us:=dB,ho:=cA}:=λs hs=>by
   have hs':up K.N r (some ⟨v,lo,hi⟩) s=none:=hs;have Rz:s≠r:=λe=>by subst e;rw[aO]at hs';cases hs'
   rw[aS Rz]at hs';show dB.getD s 0=0;by_cases h2s:2<=s
   ·rw[u1 s h2s Rz,h.idle s hs',eC];have a1:lo≠s:=λe=>by
     rcases hlo with h5|⟨d,h5⟩
     ·omega
     rw[e,hs']at h5;cases h5
    have a2:hi≠s:=λe=>by
     rcases hhi with h5|⟨d,h5⟩
     ·omega
     rw[e,hs']at h5;cases h5
    simp[a1,a2]
   rw[u2 s zO,h.idle s hs']
  refine JE.mk (So _ _ λgs=>?_);refine aa.fq (Dn fc NI RO (r:=r) (.inr ⟨_,aO⟩) (λ_=>by show cA.getD r 0<65535;rw[o0];omega)) ?_;rintro w C2 ⟨rfl,K2,dk,Lt,F6,hm,hu,hp⟩;refine ae.cD (Br.F ?_);have VN:K2.n=K.n:=hm.n;have ZG:K2.N=up K.N r (some ⟨v,lo,hi⟩):=hm.N;have hpos:Pos K2:=λs d hs=>by
   by_cases e:s=r
   ·rw[e];exact hp h2
   rw[ZG,aS e]at hs;have h3:=hu s;have h4:({K with N:=up K.N r (some ⟨v,lo,hi⟩),T:=qI K.T ⟨v,lo,hi⟩ (some r),used:=K.used+1,us:=dB,ho:=cA}:Kd).use s=dB.getD s 0:=rfl;rw[h4,u1 s (h.ok.mid.two hs).1 e]at h3;have:=h.ok.pos s d hs;omega
  have A8:∀{t:Nat},live K.N t->dep K2.n (lv ah) K2.N t=dep K.n (lv ah) K.N t:=λ{t} ht=>by
   rw[ZG,VN];unfold dep;rw[aS (hne ht)]
  have afp:WF K2.n (lv ah) K2.N:=Lt.wf λ{s d} hs=>by
   rw[ZG]at hs;by_cases e:s=r
   ·rw[e,aO]at hs;cases hs;rw[A8 hlo,A8 hhi];exact gR
   rw[aS e]at hs;rw[A8 (h.ok.wf.lo hs).1,A8 (h.ok.wf.hi hs).1];exact⟨(h.ok.wf.lo hs).2,(h.ok.wf.hi hs).2⟩
  have hS:∀s,live K.N s->up S r (ite S ⟨v,lo,hi⟩) s=S s:=λs hs=>aS (hne hs);refine aM.here (.inl ⟨r,K2,up S r (ite S ⟨v,lo,hi⟩),rfl,⟨dk,⟨Lt,hpos,by rw[VN];exact h.ok.lv,afp⟩,by rw[VN];exact h.od,F6,trivial⟩,⟨VN,hm.cap,by rw[hm.used];exact xag _,λs d hs=>by rw[ZG];exact agQ s d hs,hS,.inr ⟨_,by rw[ZG];exact aO⟩,aO,λs=>?_⟩⟩);rw[hm.hold];show(if s=r/\2<=r then cA.getD s 0+1 else cA.getD s 0)=_;by_cases e:s=r
  ·subst e;rw[xad ⟨rfl,h2⟩,xad ⟨rfl,h2⟩,o0];have:K.hold s=0:=by
    apply xdB;intro hne;obtain⟨d,hd⟩:=h.ok.mid.held s hne;rw[hN]at hd;cases hd
   omega
  rw[xac (λh=>e h.1),xac (λh=>e h.1),o1 s e]
end
theorem hnew{H:Hp}:bI [] H (λX=>X++H):=bI.left
theorem Rs{n:Nat}(hn:n<=64):Fc zQ 118 #[iv (n:Int)] [] (λv H=>aN 3 .i64 v (iw (List.range n)) H):=by
 refine aF λg=>Kt (cW.ints zO zO λb=>?_);have h0:aN 3 .i64 (.slice (some ⟨b,0,none⟩) n n) (List.replicate n 0) [(b,.cells (av .i64 (List.replicate n 0)) 3 zZ)]:=by
  have:=aN.made (T:=3) (kd:=.i64) (b:=b) (List.replicate n (0:Int));rw[xdW]at this;exact this
 refine⟨λvs H=>∃j:Nat,vs=[iv (j:Int)]/\j<=n/\aN 3 .i64 (.slice (some ⟨b,0,none⟩) n n) (iw (List.range j)++List.replicate (n-j) 0) H,λvs _=>n-bL vs 0,JE.mk ⟨0,rfl,by omega,by simpa[iw]using h0⟩,?_⟩;rintro w H ⟨j,hw,hj,hs⟩ gs;simp only[xaw,xa2]at hw;subst hw;refine ae.fk (Br.dec (λhlt=>?_) (λhlt=>?_))
 ·refine hs.nt (x:=(j:Int)) .here zP λC' hs'=>?_;refine ae.inc ?_;have e:(iw (List.range j)++List.replicate (n-j) 0).set j (j:Int)=iw (List.range (j+1))++List.replicate (n-(j+1)) 0:=by
   rw[xb3 _ _ zI];rw[show n-j=(n-(j+1))+1 by omega,xc6,xb6,bY];simp[iw]
  rw[e]at hs';exact aC.of (.refl _) ⟨j+1,rfl,by omega,hs'⟩ (by show n-(((j+1:Nat):Int).toNat)<n-(((j:Nat):Int).toNat);omega)
 obtain rfl:j=n:=by omega
 exact aM.here (by simpa using hs)
theorem tD{n:Nat}(hn:n<=64):Fc zQ 68 #[iv (n:Int)] [] (λv H=>∃s,v=.tuple #[s,iv 0]/\aN 3 .i64 s (iw (List.range n)) H):=by
 refine aF λg=>Aj (ae.lss ?_);rw[xai zO];refine cm.or false (λ_=>ae.gtr ⟨rfl,by rw[xai zO]⟩) rfl λ_=>Br.no ?_;refine aa.fq (Rs hn) ?_;intro s H hs;exact aM.here ⟨s,rfl,hs⟩
def K0(n cap:Nat):Kd:=⟨n,cap,2,λ_=>none,λ_=>none,[],[]⟩
def S0:Nat->aA.Fn:=λr _=>decide (r=1)
theorem nQ{n v:Nat}(hv:v<n):lv (List.range n) v=v:=by
 show(List.range n).getD v 0=v;simp[List.getD,hv]
theorem adL{n cap:Nat}(hc:2<=cap/\cap<=1048576):Ok (K0 n cap) S0 (lv (List.range n)):=by
 have c0:∀k,ny (λ_=>none) k=0:=λk=>by induction k with|zero=>rfl|succ k ih=>rw[ny,ih];rfl
 have hm:jK (K0 n cap) S0 iP zero':={
  two:=λh=>nomatch h
  var:=λh=>nomatch h
  ne:=λh=>nomatch h
  lo:=λh=>nomatch h
  hi:=λh=>nomatch h
  int:=⟨λ_=>rfl,λ_=>rfl,λh=>nomatch h⟩
  j5:=λd r=>⟨λh=>(nomatch h),λh=>nomatch h.1⟩
  use:=λh=>nomatch h
  len:=rfl
  fit:=λh=>nomatch h
  held:=λr h=>absurd (by simp[Kd.hold,K0]) h
  mx:=λr=>by simp[Kd.hold,K0]
  room:=by show 2=2+ny (λ_=>none) _;rw[c0]
  cap:=hc}
 refine⟨hm,λr d h=>(nomatch h),⟨λv hv=>?_,λu v hu hv h=>?_⟩,⟨λh=>(nomatch h),λh=>(nomatch h),λh=>(nomatch h),λh=>(nomatch h),λh=>(nomatch h),λh=>(nomatch h)⟩⟩
 ·have nU:v<n:=hv;rw[nQ nU];exact hv
 have A3:u<n:=hu;have nU:v<n:=hv;rwa [nQ A3,nQ nU]at h
theorem CZ{pt n cap:Nat}{CT:Hp}(hu:og pt n (λ_=>none) CT)(hc:2<=cap/\cap<=1048576):Fc zQ 70 #[iv (cap:Int),ptr pt] CT (λv H=>∃pa CA,v=.tuple #[.agg #[ptr pa,ptr pt,.slice none 0 0,.slice none 0 0],iv 0]/\iX pa cap 2 (λ_=>none) CA/\H=CA++CT):=by
 refine aF λg=>OT λb1 _=>?_;refine aa.fn hnew (WI hc) ?_;rintro v C ⟨pa,rfl,hA⟩;refine Ext.two (Build.mk (cs:=[ptr pa,ptr pt,.slice none 0 0,.slice none 0 0]) zK (St.q ?_));refine ax.q ?_;exact aM.mk (.cU .tail _) ⟨pa,C,rfl,hA,rfl⟩
theorem Yw{n cap:Nat}(hn:1<=n/\n<=64)(hc:2<=cap/\cap<=1048576):Fc zQ 40 #[iv (n:Int),iv (cap:Int)] [] (λv C=>∃kp,v=.tuple #[ptr kp,iv 0]/\cf kp (K0 n cap) S0 (List.range n) (List.range n) [] C):=by
 refine aF λg=>Al (aa.fq (tD hn.2) ?_);rintro v CO ⟨s,rfl,hO⟩;obtain⟨sa,sl,sc,hse⟩:∃a l c,s=Value.slice a l c:=by obtain⟨a,c,h⟩:=bg.len hO;exact⟨a,_,c,h⟩
 refine Ext.two (ae.cD (cm.or false (λ_=>ae.lss ⟨rfl,by rw[xai zO]⟩) rfl λgs=>?_));refine cm.or false (λ_=>ae.lss ⟨rfl,by rw[xai zO]⟩) rfl λgs=>?_;refine cm.or false (λ_=>ae.gtr ⟨rfl,by rw[xai zO]⟩) rfl λgs=>Br.no ?_;refine aa.fn hnew (Uk hn) ?_;rintro v CT ⟨pt,rfl,hT⟩;refine Ext.two (ae.cD (Br.no (aa.fq (CZ hT hc) ?_)));rintro v H ⟨pa,CA,rfl,hA,rfl⟩;refine Ext.two λb24 _=>(St.q ?_);refine ae.cD (Br.no (DR.self (ax.q ?_)));refine aa.fq (wK (hO.ints.mono λ_ h=>h) zP) ?_;rintro v H ⟨CL,rfl,hL⟩;obtain⟨la,ll,lc,hle⟩:∃a l c,v=Value.slice a l c:=by obtain⟨a,c,h⟩:=bg.len hL;exact⟨a,_,c,h⟩
 refine⟨(.cons (.cU .right _)),?_⟩;subst hse hle;refine Build.mk (cs:=[ptr pa,ptr pt,.slice none 0 0,.slice none 0 0,iv (n:Int),.slice sa sl sc,.slice la ll lc,.slice none 0 0]) zK λXT _=>?_;refine⟨(.skip (.cons (.cU .right _))),?_⟩
 let kb:ur:=⟨pa,pt,.slice none 0 0,.slice none 0 0,.slice sa sl sc,.slice la ll lc,.slice none 0 0,CA,CT,[],[],CO,CL,[]⟩
 refine aM.mk (nB:=kb.hp XT n) ?_ ⟨XT,rfl,⟨kb,rfl,⟨hA,hT,aN.nil,aN.nil,hO,hL,aN.nil,⟨rfl,by simp[K0]⟩,hn.2,by simp[K0]⟩⟩,adL hc,⟨by simp[K0],λl hl=>?_⟩,λs _=>by simp[Kd.use,K0],trivial⟩
 ·refine .cons (.skip ((aL.assoc).trans ?_));show aL (CA++(CT++(CL++CO))) (CA++(CT++([]++([]++(CO++(CL++[]))))));simp only[xb5,xaL];exact .cU (.cU (.perm xbe) _) _
 have hl':l<n:=hl;have e:(List.range n).getD l 0=l:=nQ hl';rw[e];exact⟨hl,nQ hl'⟩
end
end Go.Proofs
namespace aA
def ay(ord path:zL):zL:=path.foldl fM ord
theorem eR{ord path:zL}{l:Nat}:ay ord (path++[l])=fM (ay ord path) l:=by simp[ay]
theorem cr{ord path q:zL}:ay ord (path++q)=ay (ay ord path) q:=by simp[ay]
theorem eJ{ord:zL}:∀{path:zL},(ay ord path).length=ord.length:=by
 intro path;unfold ay;induction path generalizing ord with
 |nil=>rfl
 |cons l r ih=>rw[xcD,ih];simp[fM]
def me:Nat->zL
 |2=>[0]
 |3=>[1,0,1,0,1]
 |4=>[2,1,0,2,0,1,2,0,2,1,0,2,0,1,2,0,2,1,0,2,0,1,2]
 |_=>[]
structure Rm where
 n:Nat
 size:zL->Nat
 fit:zL->Nat->Bool
def Rm.dJ(m:Rm)(p:Nat):zL->zL->zL
 | [],_=>[]
 |c::cs,ord=>if m.fit ord (p+c)then(p+c)::m.dJ p cs (fM ord (p+c))else []
def Rm.keep(m:Rm)(ord path:zL):Nat->Nat
 |0=>0
 |i+1=>if m.size (ay ord (path.take (i+1)))<m.size (ay ord (path.take (m.keep ord path i)))then i+1 else m.keep ord path i
def Rm.visit(m:Rm)(w p:Nat)(ord:zL):zL×Nat:=
 let path:=m.dJ p (me w) ord
 let k:=m.keep ord path path.length
 (path.take k,path.length+(path.length-k))
def Rm.all(m:Rm)(w:Nat)(ord:zL):Nat->zL×Nat
 |0=>([],0)
 |i+1=>let a:=m.all w ord i;let b:=m.visit w i (ay ord a.1);(a.1++b.1,a.2+b.2)
def Rm.pass(m:Rm)(w:Nat)(ord:zL):zL×Nat:=m.all w ord (m.n+1-w)
theorem Rm.l8(m:Rm)(p:Nat):∀cs ord,(m.dJ p cs ord).length<=cs.length
 | [],_=>by simp[dJ]
 |c::cs,ord=>by
  rw[dJ];split
  ·have:=m.l8 p cs (fM ord (p+c));simp only[xaH];omega
  simp
theorem Rm.rL(m:Rm)(p:Nat):∀cs ord i,i<(m.dJ p cs ord).length->(m.dJ p cs ord)[i]? =(cs[i]?).map (p+ ·)/\∃c,cs[i]? =some c/\m.fit (ay ord ((m.dJ p cs ord).take i)) (p+c)=true
 | [],_,i,h=>by simp[dJ]at h
 |c::cs,ord,i,h=>by
  by_cases hf:m.fit ord (p+c)=true
  ·rw[dJ,xad hf]at h⊢;cases i with
   |zero=>exact⟨by simp,c,rfl,hf⟩
   |succ i=>
    obtain⟨h1,c',h2,h3⟩:=m.rL p cs (fM ord (p+c)) i (by simpa using h);exact⟨by simpa using h1,c',by simpa using h2,by simpa[ay]using h3⟩
  rw[dJ,xac hf]at h;simp at h
theorem Rm.wo(m:Rm)(p:Nat):∀cs ord c,cs[(m.dJ p cs ord).length]? =some c->m.fit (ay ord (m.dJ p cs ord)) (p+c)=false
 | [],_,c,h=>by simp at h
 |c'::cs,ord,c,h=>by
  by_cases hf:m.fit ord (p+c')=true
  ·rw[dJ,xad hf]at h⊢;have:=m.wo p cs (fM ord (p+c')) c (by simpa using h);simpa[ay]using this
  rw[dJ,xac hf]at h⊢;simp only[xcf,xcK,xas]at h;subst h;simpa[ay]using hf
theorem Rm.DI(m:Rm)(p:Nat){cs ord:zL}{l:Nat}(h:l∈m.dJ p cs ord):∃c∈cs,l=p+c:=by
 obtain⟨i,hi,e⟩:=List.getElem_of_mem h;obtain⟨h1,c,h2,_⟩:=m.rL p cs ord i hi;rw[xaa hi,e,h2]at h1;exact⟨c,xav h2,by simpa using h1⟩
theorem Rm.A0(m:Rm)(ord path:zL):∀i,m.keep ord path i<=i
 |0=>xag _
 |i+1=>by rw[keep];split;omega;have:=m.A0 ord path i;omega
theorem Rm.vW(m:Rm)(ord path:zL):∀i j,j<=i->m.size (ay ord (path.take (m.keep ord path i)))<=m.size (ay ord (path.take j))
 |0,j,h=>by
  obtain rfl:j=0:=by omega
  exact xag _
 |i+1,j,h=>by
  by_cases e:j=i+1
  ·subst e;rw[keep];split<;>omega
  have:=m.vW ord path i j zO;rw[keep];split<;>omega
theorem Gy{w c:Nat}(h:c∈me w):c+2<=w:=by
 unfold me at h;split at h
 ·simp at h;omega
 ·simp at h;omega
 ·simp at h;omega
 simp at h
theorem LM(w:Nat):(me w).length<=23:=by
 unfold me;split<;>simp
theorem Rm.Mi(m:Rm){w p:Nat}{ord:zL}{l:Nat}(h:l∈(m.visit w p ord).1):l+2<=p+w:=by
 obtain⟨c,hc,rfl⟩:=m.DI p (xcC h);have:=Gy hc;omega
theorem Rm.sj(m:Rm)(w p:Nat)(ord:zL):(m.visit w p ord).1.length<=23/\(m.visit w p ord).2<=46:=by
 have h1:=m.l8 p (me w) ord;have h2:=LM w;have h3:=m.A0 ord (m.dJ p (me w) ord) (m.dJ p (me w) ord).length;constructor
 ·show(List.take _ _).length<=23;rw[xbz];omega
 show _+(_-_)<=46;omega
theorem Rm.BW(m:Rm)(w p:Nat)(ord:zL):m.size (ay ord (m.visit w p ord).1)<=m.size ord:=by
 have:=m.vW ord (m.dJ p (me w) ord) (m.dJ p (me w) ord).length 0 (xaN _);simpa[visit,ay]using this
theorem Rm.Tq(m:Rm)(w:Nat)(ord:zL):∀i,m.size (ay ord (m.all w ord i).1)<=m.size ord
 |0=>xag _
 |i+1=>by
  have h1:=m.Tq w ord i;have h2:=m.BW w i (ay ord (m.all w ord i).1);show m.size (ay ord (_++_))<=_;rw[cr];exact xbG h2 h1
theorem Rm.LY(m:Rm)(w:Nat)(ord:zL):∀i,(m.all w ord i).1.length<=23*i/\(m.all w ord i).2<=46*i
 |0=>⟨xag _,xag _⟩
 |i+1=>by
  have h1:=m.LY w ord i;have h2:=m.sj w i (ay ord (m.all w ord i).1);constructor
  ·show((m.all w ord i).1++(m.visit w i (ay ord (m.all w ord i).1)).1).length<=_;rw[xaf];omega
  show(m.all w ord i).2+(m.visit w i (ay ord (m.all w ord i).1)).2<=_;omega
theorem Rm.LX(m:Rm){w:Nat}{ord:zL}{l:Nat}:∀{i},l∈(m.all w ord i).1->l+3<=i+w
 |0,h=>by simp[all]at h
 |i+1,h=>by
  rcases xao.1 h with h|h
  ·have:=m.LX h;omega
  have:=m.Mi h;omega
theorem Rm.all_succ(m:Rm)(w:Nat)(ord:zL)(i:Nat):m.all w ord (i+1)=((m.all w ord i).1++(m.visit w i (ay ord (m.all w ord i).1)).1,(m.all w ord i).2+(m.visit w i (ay ord (m.all w ord i).1)).2):=rfl
end aA
set_option maxRecDepth 100000
namespace Go.Proofs
open Go Go.Sx Tryz
open aA
def At(kp:Nat)(K:Kd)(S:Nat->aA.Fn)(ord tr:zL)(C:Hp):Prop:=∃K' S' bW,cf kp K' S' ord bW tr C/\Kept K S K' S'
noncomputable def cG(K:Kd)(S:Nat->aA.Fn)(ord:zL):Nat:=sz K.n ord (K.held S)
def jc(K:Kd)(S:Nat->aA.Fn)(ord:zL)(l:Nat):Prop:=BE K.n ord l (K.held S)+2<=K.cap
section
variable {kp:Nat} {K:Kd} {S:Nat->aA.Fn} {ord tr:zL} {C:Hp}
theorem cf.bc{ah:zL}(h:cf kp K S ord ah tr C):At kp K S ord tr C:=⟨K,S,ah,h,.refl _ _⟩
theorem Dk{ah:zL}(h:cf kp K S ord ah tr C):K.used=cG K S ord+2:=by
 have h1:=B6 (h.ok.size h.od);have h2:=h.ok.mid.room;unfold cG;omega
theorem rD{K':Kd}{S':Nat->aA.Fn}(h:Kept K S K' S')(ord:zL):cG K' S' ord=cG K S ord:=by
 unfold cG;rw[h.n];exact PV h.held
theorem y6{K':Kd}{S':Nat->aA.Fn}(h:Kept K S K' S')(ord:zL)(l:Nat):jc K' S' ord l↔jc K S ord l:=by
 unfold jc;rw[h.n,h.cap,Mq h.held]
theorem At.len(h:At kp K S ord tr C):ord.length=K.n:=by
 obtain⟨K',S',bW,h,hk⟩:=h;rw[<-hk.n];exact h.od.len
theorem iF(h:At kp K S ord tr C):cG K S ord<=1048574:=by
 obtain⟨K',S',bW,h,hk⟩:=h;rw[<-rD hk];have:=Dk h;have:=h.ok.mid.cap;omega
theorem At.lz(h:At kp K S ord tr C):K.n<=64:=by
 obtain⟨K',S',bW,h,hk⟩:=h;obtain⟨b,_,hO⟩:=h.rep;rw[<-hk.n];exact hO.lz
theorem cF(h:At kp K S ord tr C):Rd zQ 140 #[ptr kp] C (· =iv ((cG K S ord:Nat):Int)):=by
 obtain⟨K',S',bW,h,hk⟩:=h;have hs:=Dk h;have hc:=h.ok.mid.cap;refine(Vp h.rep zO zO).mono ?_;rintro v H ⟨rfl,rfl⟩;exact⟨rfl,by rw[hs,rD hk];rfl⟩
theorem rW(h:At kp K S ord tr C):Rd zQ 271 #[ptr kp] C (· =iv ((tr.length:Nat):Int)):=by
 obtain⟨K',S',bW,h,hk⟩:=h;exact Np h.rep
theorem mX(h:At kp K S ord tr C):Rd zQ 185 #[ptr kp] C (· =iv ((K.n:Nat):Int)):=by
 obtain⟨K',S',bW,h,hk⟩:=h;rw[<-hk.n];exact gO h.rep
theorem Tj(h:At kp K S ord tr C):Fc zQ 65 #[ptr kp] C (λr H=>∃N,H=N++C/\aN 3 .i64 r (iw ord) N):=by
 obtain⟨K',S',bW,h,hk⟩:=h;exact yZ h.rep
theorem uK(h:At kp K S ord tr C){l:Nat}(hl:l+1<K.n)(eG:tr.length<17592186044416)(hf:jc K S ord l):Fc zQ 151 #[ptr kp,iv (l:Int)] C (λr C'=>r=iv 0/\At kp K S (fM ord l) (tr++[l]) C'):=by
 obtain⟨K',S',bW,h,hk⟩:=h;refine(LD h (by rw[hk.n];exact hl) eG).mono ?_;rintro v C' (⟨_,rfl,K2,S2,YA,h2,rJ⟩|⟨hno,_,_⟩)
 ·exact⟨rfl,K2,S2,YA,h2,hk.trans rJ⟩
 have:=(y6 hk ord l).2 hf;unfold jc at this;omega
theorem mY(h:At kp K S ord tr C){l:Nat}(hl:l+1<K.n)(eG:tr.length<17592186044416)(hf:¬jc K S ord l):Rd zQ 151 #[ptr kp,iv (l:Int)] C (· =iv 9):=by
 obtain⟨K',S',bW,h,hk⟩:=h;refine(LD h (by rw[hk.n];exact hl) eG).mono ?_;rintro v C' (⟨Ru,_⟩|⟨hno,rfl,rfl⟩)
 ·exact absurd ((y6 hk ord l).1 Ru) hf
 exact⟨rfl,rfl⟩
theorem Bu{l:Nat}(h:At kp K S ord (tr++[l]) C)(eG:tr.length<17592186044416):Fc zQ 338 #[ptr kp] C (λr C'=>r=.tuple #[iv (l:Int),iv 0]/\At kp K S (fM ord l) tr C'):=by
 obtain⟨K',S',bW,h,hk⟩:=h;refine(Ul h eG).mono ?_;rintro v C' ⟨rfl,_,K2,S2,YA,h2,rJ⟩;exact⟨rfl,K2,S2,YA,h2,hk.trans rJ⟩
theorem X9(h:At kp K S ord tr C){l:Nat}(hl:l+1<K.n)(eG:tr.length<17592186044416)(hf:jc K S ord l):Fc zQ 272 #[ptr kp,iv (l:Int)] C (λr C'=>
   r=.tuple #[.agg #[iv (l:Int),iv ((cG K S ord:Nat):Int),iv ((cG K S (fM ord l):Nat):Int)],iv 0]/\At kp K S (fM ord l) (tr++[l]) C'):=by
 refine aF λg=>xy λb1 _=>?_;refine aa.eq (cF h) (Build.mk (cs:=[iv (l:Int),iv ((cG K S ord:Nat):Int),iv 0]) zK λb6 _=>?_);refine St.q ?_;refine aa.fq (uK h hl eG hf) ?_;rintro v C' ⟨rfl,h'⟩;refine ae.cD (Br.F (aa.eq (cF h') (ai.mk (St.one (by exact .head _) rfl zI rfl ?_))));refine ax.q ?_;refine St.q ?_;refine ax.q ?_;exact aM.mk (.skip .tail) ⟨rfl,h'⟩
theorem Ya(h:At kp K S ord tr C){l:Nat}(hl:l+1<K.n)(eG:tr.length<17592186044416)(hf:¬jc K S ord l):Rd zQ 272 #[ptr kp,iv (l:Int)] C (· =.tuple #[.agg #[iv 0,iv 0,iv 0],iv 9]):=by
 refine aF λg=>xy λb1 _=>?_;refine aa.eq (cF h) (Build.mk (cs:=[iv (l:Int),iv ((cG K S ord:Nat):Int),iv 0]) zK λb6 _=>?_);refine St.q ?_;refine aa.eq (mY h hl eG hf) (ae.cD (Br.T (Build.mk (cs:=[iv 0,iv 0,iv 0]) zK (St.q ?_))));refine ax.q ?_;exact aZ.mk (.skip .tail) rfl
theorem LR{path:zL}(h:At kp K S (ay ord path) (tr++path) C)(hp:∀l∈path,l+1<K.n){k:Nat}(hk:k<=path.length)(eG:(tr++path).length<17592186044416):Fc zQ 273 #[ptr kp,iv ((tr.length+k:Nat):Int)] C (λr C'=>
   r=.tuple #[iv ((path.length-k:Nat):Int),iv 0]/\At kp K S (ay ord (path.take k)) (tr++path.take k) C'):=by
 have hlen:=h.len;rw[eJ]at hlen;rw[xaf]at eG;refine aF λg=>IL (ae.aH (Br.no ?_));intro J2 BP;refine ae.lss ?_;rw[xai zO];refine Split.go rfl (aa.eq (rW h) (ae.gtr ?_));rw[xai (by rw[xaf];omega)];refine aD.mk (JE.mk (BP _ _ λgs=>Br.no ?_));refine⟨λvs H=>∃m,m<=path.length/\k<=m/\vs=[iv ((path.length-m:Nat):Int)]/\At kp K S (ay ord (path.take m)) (tr++path.take m) H,λvs _=>path.length-bL vs 0,JE.mk ⟨path.length,xag _,hk,by simp,by simpa using h⟩,?_⟩;rintro w H ⟨m,hm,hkm,hw,BN⟩ gs;simp only[xaw,xa2]at hw;subst hw;refine aa.eq (rW BN) (ae.nh (Br.dec (λhlt=>?_) (λhlt=>?_)))
 ·rw[xaf,xbz]at hlt;obtain⟨m,rfl⟩:∃m',m=m'+1:=⟨m-1,by omega⟩;have e:path.take (m+1)=path.take m++[path[m]]:=by rw[xbH,xaa zO];rfl
  rw[e,<-xaj,eR]at BN;refine aa.fq (Bu BN zP) ?_;rintro v C' ⟨rfl,h'⟩;rw[qV (by rw[eJ,hlen];exact hp _ (xaF _))]at h';refine ae.inc (aC.of (.refl _) ⟨m,by omega,by omega,by rw[show path.length-(m+1)+1=path.length-m by omega],h'⟩ ?_);show path.length-(((path.length-(m+1)+1:Nat):Int).toNat)<path.length-(((path.length-(m+1):Nat):Int).toNat);omega
 rw[xaf,xbz]at hlt;obtain rfl:m=k:=by omega
 exact aM.here ⟨rfl,BN⟩
end
theorem Gz{w:Nat}(hw:2<=w/\w<=4):Fc zQ 269 #[iv (w:Int)] [] (λv H=>∃s,v=.tuple #[s,iv 0]/\aN 3 .i64 s (iw (me w)) H):=by
 refine aF λg=>IP ?_;obtain rfl|rfl|rfl:w=2\/w=3\/w=4:=by omega
 ·refine ae.gI (Br.T (az.int (e:=3) zK zK zK λbx=>?_));exact aM.here ⟨_,rfl,aN.made [0]⟩
 ·refine ae.gI (Br.F (ae.gI (Br.T (⟨av .i64 (iw (me 3)),3,1,iv 0,by kernel_rfl,by kernel_rfl,by kernel_rfl,by decide,by kernel_rfl,λbx _=>?_⟩))));exact aM.here ⟨_,rfl,aN.made (iw (me 3))⟩
 refine ae.gI (Br.F (ae.gI (Br.F (ae.gI (Br.T (⟨av .i64 (iw (me 4)),3,1,iv 0,by kernel_rfl,by kernel_rfl,by kernel_rfl,by decide,by kernel_rfl,λbx _=>?_⟩))))));exact aM.here ⟨_,rfl,aN.made (iw (me 4))⟩
end Go.Proofs
namespace Go.Sx
open Go
section
variable {P:Program} {g:Gh} {H:Hp}
theorem iY.nat{len size b o j:Nat}{kd:IntKind}{k:zV->Prop}(h1:j<len)(h:k (.pointer (some ⟨b,o+j*size,none⟩))):iY len size (.pointer (some ⟨b,o,none⟩)) (.int kd (j:Int)) k:=
 ⟨b,o,kd,(j:Int),rfl,rfl,by omega,by omega,by simpa using h⟩
theorem m7.adC{o:Oper}{ρ:Operand->zV}{k:zV->Prop}{t e:TypeId}{q kd:IntKind}{n j:Nat}{x i:Operand}{l:List Int}{z:Int}(ho:o.op=.index t x i)(hx:ρ x=.agg (av q l))(hi:ρ i=.int kd (j:Int))
 (ht:P.underlying t=some (.array n e))(hu:P.underlying e=some (.int q))(hz:dO P e=some 1)(hj:j<n)(hl:l[j]? =some z)(hk:k (.int q z)):m7 P g o ρ H k:=by
 obtain⟨inf,af0,hs⟩:=bF hz;refine⟨_,λw _=>?_,hk⟩;have hp:=q6 (P:=P) hu hl w;have R3:(0:Int)<=(j:Int)/\(j:Int)<(n:Int):=by omega
 simp only[execOp,ho,Instr.index,hx,hi,asIntOf,Sem.run_bind,Sem.run_pure,Result.andThen_ok,run_underlying ht,run_sizeOf af0,hs,xad R3,xbh,xb4,hp]
end
end Go.Sx
namespace aA
open an
def clr(m v:Nat):Nat:=if m.testBit v then m^^^2^v else m
def rest(m:Nat)(ord:zL):Nat->Nat
 |0=>m
 |k+1=>clr (rest m ord k) (ord.getD k 0)
section
variable {n m o:Nat} {ord:zL} {F:Fn->Prop}
theorem getD_inj(hn:ord.Nodup){i j:Nat}(hi:i<ord.length)(hj:j<ord.length)(e:ord.getD i 0=ord.getD j 0):i=j:=by
 rw[xap,xap,xaa hi,xaa hj]at e;exact(List.getElem_inj hn).1 e
theorem PX{l:Nat}(hl:l+1<ord.length):(fM ord l).Perm ord:=by
 unfold fM;have e1:ord=ord.take l++ord.getD l 0::ord.getD (l+1) 0::ord.drop (l+2):=by
  conv=>lhs;rw[<-xbk l ord]
  congr 1;rw[xbc zO,xbc zO];simp[List.getD,xaa (show l<ord.length by omega),xaa hl]
 have ht:(ord.take l).length=l:=by simp;omega
 have e2:(ord.set l (ord.getD (l+1) 0)).set (l+1) (ord.getD l 0)=ord.take l++ord.getD (l+1) 0::ord.getD l 0::ord.drop (l+2):=by
  generalize hx:ord.getD l 0=x at*;generalize hy:ord.getD (l+1) 0=y at*
  conv=>lhs;rw[e1]
  rw[xb3 _ _ zO,ht,xcF,xcl,xb3 _ _ zO,ht,xdN,xed,xcl]
 rw[e2]
 conv=>rhs;rw[e1]
 exact xbZ _ (List.Perm.swap _ _ _)
theorem k9:∀{path:zL} {ord:zL},(∀l∈path,l+1<ord.length)->(ay ord path).Perm ord
 | [],_,_=>.refl _
 |l::r,ord,h=>by
  show(ay (fM ord l) r).Perm ord;have h1:=h l zI;exact(k9 λx hx=>by rw[mE];exact h x (by simp[hx])).trans (PX h1)
end
def flat(n s:Nat):Rm:=⟨n,λ_=>s,λ_ _=>true⟩
end aA
namespace aA
def GC(i:Nat):Nat->zL
 |0=>[]
 |j+1=>if i<=j then j::GC i j else []
theorem Bp{i j:Nat}(h:j<=i):GC i j=[]:=by
 cases j with
 |zero=>rfl
 |succ j=>rw[GC,xac zO]
theorem rV{i j:Nat}(h:i<=j):GC i (j+1)=j::GC i j:=by rw[GC,xad h]
theorem LN{i l:Nat}:∀{j},l∈GC i j->i<=l/\l<j
 |0,h=>by simp[GC]at h
 |j+1,h=>by
  by_cases e:i<=j
  ·rw[rV e]at h;rcases xam.1 h with rfl|h
   ·omega
   have:=LN h;omega
  rw[Bp zO]at h;simp at h
theorem Bo(i:Nat):∀j,(GC i j).length=j-i
 |0=>by simp[GC]
 |j+1=>by
  by_cases e:i<=j
  ·rw[rV e,xaH,Bo i j];omega
  rw[Bp zO];simp;omega
theorem LO{i k:Nat}:∀{j:Nat} {a:zL},i<=j->j<a.length->(k<=i->(ay a (GC i j)).getD k 0=if k=i then a.getD j 0 else a.getD k 0)
 |0,a,hi,hj,hk=>by
  obtain rfl:i=0:=by omega
  obtain rfl:k=0:=by omega
  simp[GC,ay]
 |j+1,a,hi,hj,hk=>by
  by_cases e:i<=j
  ·rw[rV e];show(ay (fM a j) (GC i j)).getD k 0=_;rw[LO (j:=j) e (by rw[mE];omega) hk,eu zO,eu zO];by_cases h:k=i
   ·subst h;simp
   rw[xac h,xac h,xac zO,xac zO]
  obtain rfl:i=j+1:=by omega
  rw[Bp (xag _)];show a.getD k 0=_;split
  ·rename_i h;rw[h]
  rfl
def plc(p:zL)(x:Nat):Nat:=p.idxOf x
def er(p q:zL):Nat->zL
 |0=>[]
 |i+1=>er p q i++GC i (plc (ay p (er p q i)) (q.getD i 0))
def path(p q:zL):zL:=er p q q.length
theorem QD{p:zL}{x:Nat}(h:x∈p):plc p x<p.length:=List.idxOf_lt_length_iff.2 h
theorem KX{p:zL}{x:Nat}(h:x∈p):p.getD (plc p x) 0=x:=by
 have h1:=QD h;rw[xap,xaa h1];show p[p.idxOf x]=x;exact List.getElem_idxOf h1
section
variable {p q:zL}
theorem jP(hq:q.Nodup)(hp:p.Perm q):∀i,i<=q.length->(∀l∈er p q i,l+1<p.length)/\(∀k,k<i->(ay p (er p q i)).getD k 0=q.getD k 0)/\(i<q.length->i<=plc (ay p (er p q i)) (q.getD i 0)/\plc (ay p (er p q i)) (q.getD i 0)<p.length)
 |i,hi=>by
  have hlen:=hp.length_eq;have base:(∀l∈er p q i,l+1<p.length)/\(∀k,k<i->(ay p (er p q i)).getD k 0=q.getD k 0):=by
   cases i with
   |zero=>exact⟨λl hl=>by simp[er]at hl,λk hk=>absurd hk (xcQ _)⟩
   |succ i=>
    obtain⟨h1,h2,h3⟩:=jP hq hp i zO;obtain⟨h4,h5⟩:=h3 zO;have hm:q.getD i 0∈ay p (er p q i):=by
     have:q.getD i 0∈q:=by rw[xap,xaa (show i<q.length by omega)];exact xaF _
     exact((k9 h1).trans hp).mem_iff.2 this
    refine⟨λl hl=>?_,λk hk=>?_⟩
    ·rcases xao.1 hl with hl|hl
     ·exact h1 l hl
     have:=LN hl;omega
    rw[er,cr,LO h4 (by rw[eJ];exact h5) zO];split
    ·rename_i e;subst e;exact KX hm
    exact h2 k zO
  refine⟨base.1,base.2,λhlt=>?_⟩;have hm:q.getD i 0∈ay p (er p q i):=by
   have:q.getD i 0∈q:=by rw[xap,xaa hlt];exact xaF _
   exact((k9 base.1).trans hp).mem_iff.2 this
  have h5:=QD hm;rw[eJ]at h5;refine⟨?_,h5⟩;refine xaK λrH=>?_;have:=base.2 _ (Nat.lt_of_not_le rH);rw[KX hm]at this;have:=getD_inj hq hlt zO this;omega
theorem AP(hq:q.Nodup)(hp:p.Perm q):ay p (path p q)=q/\∀l∈path p q,l+1<p.length:=by
 obtain⟨h1,h2,_⟩:=jP hq hp q.length (xag _);refine⟨DT (by rw[eJ];exact hp.length_eq) λi hi=>h2 i ?_,h1⟩;rw[eJ,hp.length_eq]at hi;exact hi
theorem sE(hq:q.Nodup)(hp:p.Perm q):∀i,i<=q.length->(er p q i).length<=i*p.length
 |0,_=>by simp[er]
 |i+1,hi=>by
  have:=sE hq hp i zO;obtain⟨_,_,h3⟩:=jP hq hp i zO;rw[er,xaf,Bo,xbC];have:=(h3 zO).2;omega
end
end aA
namespace aA
open an
section
variable {n l:Nat} {ord:zL} {F G:Fn->Prop} {f c:Fn}
theorem zl:∀l g,fs ord (λg=>F g\/G g) l g↔fs ord F l g\/fs ord G l g
 |0,g=>xcR
 |l+1,g=>by
  constructor
  ·rintro⟨f,hf,b,rfl⟩;rcases(zl l f).1 hf with h|h
   ·exact .inl ⟨f,h,b,rfl⟩
   exact .inr ⟨f,h,b,rfl⟩
  rintro(⟨f,hf,b,rfl⟩|⟨f,hf,b,rfl⟩)
  ·exact⟨f,(zl l f).2 (.inl hf),b,rfl⟩
  exact⟨f,(zl l f).2 (.inr hf),b,rfl⟩
theorem CX(g:Fn):aG n ord (λg=>F g\/G g) g↔aG n ord F g\/aG n ord G g:=by
 constructor
 ·rintro⟨l,hl,hf,hh⟩;rcases(zl l g).1 hf with h|h
  ·exact .inl ⟨l,hl,h,hh⟩
  exact .inr ⟨l,hl,h,hh⟩
 rintro(⟨l,hl,hf,hh⟩|⟨l,hl,hf,hh⟩)
 ·exact⟨l,hl,(zl l g).2 (.inl hf),hh⟩
 exact⟨l,hl,(zl l g).2 (.inr hf),hh⟩
theorem cM{v:Nat}(h:¬cE f v)(x:Nat)(b:Bool):f (aB x v b)=f x:=by
 have h0:f (aB x v false)=f (aB x v true):=xaK λhne=>h ⟨x,hne⟩;have h1:=ir x v
 conv=>rhs;rw[<-h1]
 cases b<;>cases x.testBit v<;>simp[h0]
theorem Bg(hi:∀j,j<l->¬cE f (ord.getD j 0)):∀k,k<=l->fs ord (λg=>g=f) k f
 |0,_=>rfl
 |k+1,hk=>⟨f,Bg hi k zO,false,funext λx=>(cM (hi k zO) x false).symm⟩
theorem uE(hi:∀j,j<l->¬cE f (ord.getD j 0)):∀k,k<=l->∀g,fs ord (λg=>g=f) k g->g=f
 |0,_,g,h=>h
 |k+1,hk,g,h=>by
  obtain⟨f',hf,b,rfl⟩:=h;obtain rfl:=uE hi k zO f' hf;exact funext λx=>cM (hi k zO) x b
theorem jG(hi:∀j,j<l->¬cE f (ord.getD j 0)){b:Bool}(hc:c=λx=>f (aB x (ord.getD l 0) b)):
  (∀j,j<l+1->¬cE c (ord.getD j 0))/\∀g,aG n ord (λg=>g=c) g->aG n ord (λg=>g=f) g:=by
 have h1:fs ord (λg=>g=f) (l+1) c:=⟨f,Bg hi l (xag _),b,hc⟩;have h2:∀j,j<l+1->¬cE c (ord.getD j 0):=λj hj=>wv (l+1) c h1 j hj;refine⟨h2,?_⟩;rintro g ⟨m,hm,hf,hh⟩;by_cases e:m<l+1
 ·obtain rfl:=uE h2 m zO g hf;exact absurd hh (h2 m e)
 have key:∀d g,fs ord (λg=>g=c) (l+1+d) g->fs ord (λg=>g=f) (l+1+d) g:=λd=>by
  induction d with
  |zero=>intro g hg;obtain rfl:=uE h2 (l+1) (xag _) g hg;exact h1
  |succ d ih=>rintro g ⟨f',TY,b',rfl⟩;exact⟨f',ih f' TY,b',rfl⟩
 obtain⟨d,rfl⟩:∃d,m=l+1+d:=⟨m-(l+1),by omega⟩;exact⟨_,hm,key d g hf,hh⟩
theorem oC(hi:∀j,j<l->¬cE f (ord.getD j 0))(hl:l<n)(hh:cE f (ord.getD l 0)):aG n ord (λg=>g=f) f:=⟨l,hl,Bg hi l (xag _),hh⟩
end
section
variable {K:Kd} {S:Nat->Fn} {ah:Nat->Nat} {ord:zL}
theorem Ok.below(h:Ok K S ah)(ho:Ord K.n ah ord){r l:Nat}(hr:live K.N r)(hl:l<=K.n)(hi:∀j,j<l->¬cE (S r) (ord.getD j 0)):l<=dep K.n ah K.N r:=by
 cases e:K.N r with
 |none=>rw[aT e];exact hl
 |some d=>
  rw[aq e];refine xaK λhlt=>?_;have gR:ah d.v<l:=Nat.lt_of_not_le hlt;have:=hi _ gR;rw[ho.of h.lv (h.mid.var e)]at this;exact this (gp h.wf h.lv h.mid.int e)
theorem Ok.roomFor(h:Ok K S ah)(ho:Ord K.n ah ord){U:Fn->Prop}{k:Nat}(hk:pC U k)(hfit:k+2<=K.cap)(hU:∀g,aG K.n ord (K.held S) g->U g){d:Nd}
 (hlo:live K.N d.lo)(hhi:live K.N d.hi)(hne:d.lo≠d.hi)(hv:d.v<K.n)(hlt:ah d.v<dep K.n ah K.N d.lo/\ah d.v<dep K.n ah K.N d.hi)(hg:U (ite S d))(hT:K.T d=none):K.used<K.cap:=by
 have hs:=h.size ho;have hu:=h.mid.room;obtain⟨l1,a1,a2,a3⟩:=hs;have Zb:ite S d∉l1:=λhm=>by
  obtain⟨r,e,hr,he⟩:=(nN h.wf h.lv ho h.mid.int (λr hr=>.inr (h.mid.held r hr)) h.reach (ite S d)).1 ((a3 _).2 hm);have hTd:¬K.N r=some d:=λhN=>by
   have:=(h.mid.j5 d r).2 ⟨hN,λx=>x⟩;rw[hT]at this;cases this
  apply hTd;have Rz:S r=ite S d:=he.symm;have Rv:e.v=d.v:=by
   have e1:=h.lv.lt e.v (h.mid.var hr);have e2:=h.lv.lt d.v hv;rcases xcI (ah e.v) (ah d.v)with hh|hh|hh
   ·exfalso;obtain⟨z,hz⟩:=gp h.wf h.lv h.mid.int hr;rw[Rz]at hz;apply hz;unfold ite;have i1:=h.wf.bN h.lv h.mid.int hlo (h.mid.var hr) zO;have i2:=h.wf.bN h.lv h.mid.int hhi (h.mid.var hr) zO;have Gb:d.v≠e.v:=λpJ=>by rw[pJ]at hh;omega
    simp only[aj,xac Gb,i1,i2]
   ·exact h.lv.inj _ _ (h.mid.var hr) hv hh
   exfalso;have hx:=h.wf.bN h.lv h.mid.int (r:=r) (.inr ⟨e,hr⟩) hv (by rw[aq hr];exact hh);apply hne;refine h.wf.same h.lv h.mid.int hlo hhi λx=>?_;have i1:=h.wf.bN h.lv h.mid.int hlo hv hlt.1;have i2:=h.wf.bN h.lv h.mid.int hhi hv hlt.2;have q1:=hx x false;have q2:=hx x true;rw[Rz]at q1 q2;have q3:=q1.trans q2.symm;unfold ite at q3;simp only[aj,xa7,i1,i2,xaQ,xa0]at q3;exact q3
  have kH:∀(b:Bool) x,S (if b then e.hi else e.lo) x=S (if b then d.hi else d.lo) x:=λb x=>by
   rw[<-h.wf.child h.lv h.mid.int hr x b,Rz,Rv];have i1:=h.wf.bN h.lv h.mid.int hlo hv hlt.1;have i2:=h.wf.bN h.lv h.mid.int hhi hv hlt.2;unfold ite;rw[aj,xad rfl,i1,i2];cases b<;>rfl
  have e1:e.lo=d.lo:=h.wf.same h.lv h.mid.int (h.mid.lo hr) hlo λx=>kH false x;have e2:e.hi=d.hi:=h.wf.same h.lv h.mid.int (h.mid.hi hr) hhi λx=>kH true x;have hed:∀a b:Nd,a.v=b.v->a.lo=b.lo->a.hi=b.hi->a=b:=λa b h1 h2 h3=>by
   cases a;cases b;cases h1;cases h2;cases h3;rfl
  rw[hr,hed e d Rv e1 e2]
 obtain⟨l2,b1,b2,b3⟩:=hk;have:=cv (l:=ite S d::l1) (l':=l2) (xaX.2 ⟨Zb,a1⟩) λg XB=>by
  rcases xam.1 XB with rfl|XB
  ·exact(b3 _).1 hg
  exact(b3 _).1 (hU g ((a3 g).2 XB))
 rw[xaH]at this;omega
end
end aA
namespace aA
open an
def dZ(N:eH)(v:Nat)(b:Bool)(r:Nat):Nat:=match N r with
 |some d=>if d.v=v then(if b then d.hi else d.lo)else r
 |none=>r
def iW(N:eH)(v:Nat)(b:Bool)(q:zL):zL:=q.map (dZ N v b)
structure uo(n:Nat)(ah:Nat->Nat)(N:eH)(q:zL)(v:Nat):Prop where
 lt:v<n
 ex:∃r∈q,∃d,N r=some d/\d.v=v
 le:∀r∈q,ah v<=dep n ah N r
inductive Tree(n:Nat)(ah:Nat->Nat)(N:eH):zL->Nat->Prop
 |leaf {q:zL} (h:∀r∈q,N r=none):Tree n ah N q 0
 |node {q:zL} {v a b:Nat} (h:uo n ah N q v) (ha:Tree n ah N (iW N v false q) a) (hb:Tree n ah N (iW N v true q) b):Tree n ah N q (a+b+1)
def uk(t:Bool->Bool->Bool->Bool)(S:Nat->Fn)(q:zL):Fn:=λx=>t (S (q.getD 0 0) x) (S (q.getD 1 0) x) (S (q.getD 2 0) x)
section
variable {n:Nat} {ah:Nat->Nat} {N:eH} {S:Nat->Fn} {q:zL} {v:Nat}
theorem uo.uniq(hl:jX n ah){u:Nat}(h:uo n ah N q v)(h':uo n ah N q u):v=u:=by
 obtain⟨r,hr,d,hd,rfl⟩:=h.ex;obtain⟨s,hs,e,he,rfl⟩:=h'.ex;have a:=h.le s hs;have b:=h'.le r hr;rw[aq he]at a;rw[aq hd]at b;exact hl.inj _ _ h.lt h'.lt zO
theorem gk(h:WF n ah N)(hl:jX n ah)(hi:Interp N S){r:Nat}(hr:live N r)(hv:v<n)(hle:ah v<=dep n ah N r)(b:Bool):
  (∀x,S (dZ N v b r) x=S r (aB x v b))/\live N (dZ N v b r)/\ah v+1<=dep n ah N (dZ N v b r):=by
 have hlt:=hl.lt v hv;unfold dZ;cases e:N r with
 |none=>
  simp only;refine⟨λx=>?_,hr,by rw[aT e];omega⟩;exact(h.bN hl hi hr hv (by rw[aT e];exact hlt) x b).symm
 |some d=>
  simp only;rw[aq e]at hle;by_cases ev:d.v=v
  ·rw[xad ev];subst ev;refine⟨λx=>(h.child hl hi e x b).symm,?_,?_⟩
   ·cases b
    ·exact(h.lo e).1
    exact(h.hi e).1
   cases b
   ·exact(h.lo e).2
   exact(h.hi e).2
  rw[xac ev];have hne:ah v≠ah d.v:=λe2=>ev (hl.inj _ _ (h.var e) hv e2.symm);refine⟨λx=>(h.bN hl hi hr hv (by rw[aq e];omega) x b).symm,hr,by rw[aq e];omega⟩
theorem SU(b:Bool):(iW N v b q).length=q.length:=by simp[iW]
theorem SV{b:Bool}{i:Nat}(hi:i<q.length):(iW N v b q).getD i 0=dZ N v b (q.getD i 0):=by
 simp[iW,List.getD,xaa hi]
theorem o7(h:WF n ah N)(hl:jX n ah)(hi:Interp N S)(hq:∀r∈q,live N r)(ht:uo n ah N q v)(b:Bool):
  (∀r∈iW N v b q,live N r)/\(∀r∈iW N v b q,ah v+1<=dep n ah N r):=by
 constructor
 ·intro r hr;obtain⟨s,hs,rfl⟩:=xan.1 hr;exact(gk h hl hi (hq s hs) ht.lt (ht.le s hs) b).2.1
 intro r hr;obtain⟨s,hs,rfl⟩:=xan.1 hr;exact(gk h hl hi (hq s hs) ht.lt (ht.le s hs) b).2.2
theorem LF(h:WF n ah N)(hl:jX n ah)(hi:Interp N S)(h3:q.length=3)(hq:∀r∈q,live N r)(ht:uo n ah N q v)(t:Bool->Bool->Bool->Bool)(b:Bool):uk t S (iW N v b q)=λx=>uk t S q (aB x v b):=by
 funext x
 have key:∀i,i<3->S ((iW N v b q).getD i 0) x=S (q.getD i 0) (aB x v b):=λi Zl=>by
  have hi':i<q.length:=by omega
  rw[SV hi'];have hm:q.getD i 0∈q:=by rw[xap,xaa hi'];exact xaF _
  exact(gk h hl hi (hq _ hm) ht.lt (ht.le _ hm) b).1 x
 unfold uk;rw[key 0 zO,key 1 zO,key 2 zO]
theorem zq(h:WF n ah N)(hl:jX n ah)(hi:Interp N S){ord:zL}(ho:Ord n ah ord)(h3:q.length=3)(hq:∀r∈q,live N r){l:Nat}(BJ:l<=n)(hle:∀r∈q,l<=dep n ah N r)(t:Bool->Bool->Bool->Bool):∀j,j<l->¬cE (uk t S q) (ord.getD j 0):=by
 rintro j hj ⟨x,hx⟩;apply hx;obtain⟨o1,o2⟩:=ho.bc j zO;have key:∀i,i<3->∀b,S (q.getD i 0) (aB x (ord.getD j 0) b)=S (q.getD i 0) x:=λi Zl b=>by
  have hi':i<q.length:=by omega
  have hm:q.getD i 0∈q:=by rw[xap,xaa hi'];exact xaF _
  exact h.bN hl hi (hq _ hm) o1 (by rw[o2];exact xaO hj (hle _ hm)) x b
 unfold uk;simp only[key 0 zO,key 1 zO,key 2 zO]
theorem NT(hi:Interp N S)(h3:q.length=3)(hq:∀r∈q,r<2)(t:Bool->Bool->Bool->Bool)(x:Nat):uk t S q x=t (decide (q.getD 0 0=1)) (decide (q.getD 1 0=1)) (decide (q.getD 2 0=1)):=by
 have key:∀i,i<3->S (q.getD i 0) x=decide (q.getD i 0=1):=λi Zl=>by
  have hi':i<q.length:=by omega
  have hm:q.getD i 0∈q:=by rw[xap,xaa hi'];exact xaF _
  have:=hq _ hm;have h2:q.getD i 0=0\/q.getD i 0=1:=by omega
  rcases h2 with e|e<;>rw[e]
  ·rw[hi.zero];rfl
  rw[hi.one];rfl
 unfold uk;rw[key 0 zO,key 1 zO,key 2 zO]
theorem PS(h:WF n ah N):∀{q:zL},(∃r∈q,∃d,N r=some d)->(hl:jX n ah)->∃v,uo n ah N q v
 | [],he,_=>by obtain⟨r,hr,_⟩:=he;cases hr
 |s::q,he,hl=>by
  by_cases hq:∃r∈q,∃d,N r=some d
  ·obtain⟨v,hv⟩:=PS h hq hl;cases es:N s with
   |none=>
    refine⟨v,hv.lt,?_,λr hr=>?_⟩
    ·obtain⟨r,hr,x⟩:=hv.ex;exact⟨r,by simp[hr],x⟩
    rcases xam.1 hr with rfl|hr
    ·rw[aT es];exact xb9 (hl.lt v hv.lt)
    exact hv.le r hr
   |some d=>
    by_cases hlt:ah d.v<=ah v
    ·refine⟨d.v,h.var es,⟨s,by simp,d,es,rfl⟩,λr hr=>?_⟩;rcases xam.1 hr with rfl|hr
     ·rw[aq es];exact xag _
     exact xbG hlt (hv.le r hr)
    refine⟨v,hv.lt,?_,λr hr=>?_⟩
    ·obtain⟨r,hr,x⟩:=hv.ex;exact⟨r,by simp[hr],x⟩
    rcases xam.1 hr with rfl|hr
    ·rw[aq es];omega
    exact hv.le r hr
  obtain⟨r,hr,d,hd⟩:=he;rcases xam.1 hr with rfl|hr
  ·refine⟨d.v,h.var hd,⟨r,by simp,d,hd,rfl⟩,λs hs=>?_⟩;rcases xam.1 hs with rfl|hs
   ·rw[aq hd];exact xag _
   have:N s=none:=by
    cases e:N s with
    |none=>rfl
    |some d'=>exact absurd ⟨s,hs,d',e⟩ hq
   rw[aT this];exact xb9 (hl.lt _ (h.var hd))
  exact absurd ⟨r,hr,d,hd⟩ hq
theorem Up(h:WF n ah N)(hl:jX n ah)(hi:Interp N S):∀(k l:Nat) (q:zL),n-l<=k->l<=n->(∀r∈q,live N r)->(∀r∈q,l<=dep n ah N r)->∃c,Tree n ah N q c/\c+1<=2^(n-l):=by
 intro k;induction k with
 |zero=>
  intro l q hk BJ hq hd;refine⟨0,.leaf λr hr=>?_,xef⟩;cases e:N r with
  |none=>rfl
  |some d=>have:=hd r hr;rw[aq e]at this;have:=hl.lt _ (h.var e);omega
 |succ k ih=>
  intro l q hk BJ hq hd;by_cases he:∃r∈q,∃d,N r=some d
  ·obtain⟨v,hv⟩:=PS h he hl;have hlv:=hl.lt v hv.lt;have ng:l<=ah v:=by
    obtain⟨r,hr,d,dP,rfl⟩:=hv.ex;have:=hd r hr;rwa [aq dP]at this
   obtain⟨f1,f2⟩:=o7 (S:=S) h hl hi hq hv false;obtain⟨t1,t2⟩:=o7 (S:=S) h hl hi hq hv true;obtain⟨a,ha,qt⟩:=ih (ah v+1) _ zO hlv f1 f2;obtain⟨b,hb,sb⟩:=ih (ah v+1) _ zO hlv t1 t2;refine⟨a+b+1,.node hv ha hb,?_⟩;have e1:2^(n-ah v)=2*2^(n-(ah v+1)):=by
    rw[show n-ah v=(n-(ah v+1))+1 by omega,xd4,xcm]
   have e2:2^(n-ah v)<=2^(n-l):=xay zD zO;omega
  refine⟨0,.leaf λr hr=>?_,xef⟩;cases e:N r with
  |none=>rfl
  |some d=>exact absurd ⟨r,hr,d,e⟩ he
def mN(N:eH)(v:Nat)(b:Bool)(q:zL)(i:Nat):zL:=(iW N v b q).take i++q.drop i
theorem C9{b:Bool}{i:Nat}(hi:i<=q.length):(mN N v b q i).length=q.length:=by simp[mN,iW];omega
theorem yM(b:Bool):mN N v b q 0=q:=by simp[mN]
theorem QV(b:Bool):mN N v b q q.length=iW N v b q:=by
 unfold mN;rw[xdl (by rw[SU];exact xag _),xeq,xaL]
theorem sG{b:Bool}{i r:Nat}(hr:q[i]? =some r):(mN N v b q i).set i (dZ N v b r)=mN N v b q (i+1):=by
 have hi:=(xak.1 hr).1;have he:=(xak.1 hr).2;have hl:((iW N v b q).take i).length=i:=by simp[iW];omega
 have hc:(iW N v b q)[i]? =some (dZ N v b r):=by simp[iW,hr]
 unfold mN;rw[xb3 _ _ zO,hl,xcF,xbc hi,xcl,xbH,hc,xaj];rfl
theorem yN{b:Bool}{i r:Nat}(hr:q[i]? =some r)(h:dZ N v b r=r):mN N v b q (i+1)=mN N v b q i:=by
 rw[<-sG hr,h];have hi:=(xak.1 hr).1;have he:=(xak.1 hr).2;have hl:((iW N v b q).take i).length=i:=by simp[iW];omega
 unfold mN;rw[xb3 _ _ zO,hl,xcF,xbc hi,xcl,he]
end
end aA
set_option maxRecDepth 100000
namespace Go.Proofs
open Go Go.Sx Tryz
section
open aA
noncomputable instance {K:Kd}{S:Nat->aA.Fn}{ord:zL}{l:Nat}:Decidable (jc K S ord l):=Nat.decLe _ _
noncomputable def rm(K:Kd)(S:Nat->aA.Fn):Rm:=⟨K.n,cG K S,λord l=>decide (jc K S ord l)⟩
theorem qc{K:Kd}{S:Nat->aA.Fn}{ord:zL}{l:Nat}:(rm K S).fit ord l=true↔jc K S ord l:=by
 show decide (jc K S ord l)=true↔_;exact decide_eq_true_iff
def Box(kp b1 mg:Nat)(cs:zL)(B:Hp):Prop:=∃vc Cc,B=(b1,.cells #[ptr kp] 85 zZ)::(mg,.cells #[vc] 43 zZ)::Cc/\aN 3 .i64 vc (iw cs) Cc
section
variable {kp b1 mg w p:Nat} {K:Kd} {S:Nat->aA.Fn} {ord tr:zL} {B C:Hp}
theorem PE(hB:Box kp b1 mg (me w) B)(h:At kp K S ord tr C)(hp:p+w<=K.n)(eG:tr.length<17454747090944):
  Fc zQ 270 #[iv (p:Int),ptr b1,ptr mg] (B++C) (λv H=>v=iv ((((rm K S).visit w p ord).2:Nat):Int)/\∃C',H=B++C'/\At kp K S (ay ord ((rm K S).visit w p ord).1) (tr++((rm K S).visit w p ord).1) C'):=by
 obtain⟨vc,Cc,rfl,hc⟩:=hB;have hn:=h.lz;have hlen:=h.len;have fP:=LM w
 let m:=rm K S
 let path:=m.dJ p (me w) ord
 have zc:path.length<=(me w).length:=m.l8 p _ _;have RD:∀l∈path,l+1<K.n:=λl hl=>by
  obtain⟨c,hc,rfl⟩:=m.DI p hl;have:=Gy hc;omega
 let P0:Hp->Hp:=λX=>(b1,.cells #[ptr kp] 85 zZ)::(mg,.cells #[vc] 43 zZ)::(Cc++X)
 refine aF λg=>IN ?_;rw[xaR,xaR];refine DR.self (Ld.q ?_);refine Ld.q ?_;refine aa.eq (rW h) (⟨.refl _,?_⟩);refine aa.eq (cF h) (⟨.refl _,?_⟩);intro J8 hJ8;have fin:∀C2,At kp K S (ay ord path) (tr++path) C2->J8 [iv ((m.keep ord path path.length:Nat):Int),iv ((path.length:Nat):Int)] (P0 C2):=λC2 h2=>by
  refine hJ8 _ _ _ λgs=>?_;refine Ld.q ?_;have hk:=m.A0 ord path path.length;refine ae.eZ (aa.fq (LR h2 RD hk (by rw[xaf];omega)) ?_);rintro v C' ⟨rfl,h3⟩;exact Ext.two (ae.eZ (aM.here ⟨rfl,C',by simp only[xaR],h3⟩))
 refine Ld.q ?_;refine hc.bP ?_;rw[ak];refine⟨λvs H=>∃i C2,i<=path.length/\vs=[iv ((cG K S (ay ord (path.take (m.keep ord path i))):Nat):Int),iv ((m.keep ord path i:Nat):Int),iv (i:Int),iv (i:Int)]/\H=P0 C2/\At kp K S (ay ord (path.take i)) (tr++path.take i) C2,
  λvs _=>(me w).length-bL vs 3,JE.mk ⟨0,C,xaN _,rfl,rfl,by simpa[ay]using h⟩,?_⟩
 rintro w26 w27 w28 w29 H ⟨i,C2,hi,hw,rfl,h2⟩ gs;simp only[xaw,xa2]at hw;obtain⟨rfl,rfl,rfl,rfl⟩:=hw;refine ae.fk (Br.dec (λhlt=>?_) (λhlt=>?_));rotate_left
 ·obtain rfl:i=path.length:=by omega
  rw[xbl]at h2;exact JE.mk (fin C2 h2)
 intro J31 Sp;have pK:(me w)[i]? =some (me w)[i]:=xaa hlt;have Ge:(me w)[i]+2<=w:=Gy (xaF _);refine hc.ld (x:=(((me w)[i]:Nat):Int)) (by rw[bH hlt,List.getD,pK];rfl) (bI.sub (.cons (.cons .left))) (Ld.q ?_);refine ae.eZ ?_;by_cases A7:i=path.length
 ·-- no room
  subst A7;rw[xbl]at h2;have hno:¬jc K S (ay ord path) (p+(me w)[path.length]):=λhf=>by
   have:=m.wo p (me w) ord _ pK;have h9:=qc.2 hf;rw[show(rm K S).fit (ay ord path) (p+(me w)[path.length])=false from this]at h9;cases h9
  refine aa.eq (Ya h2 zO (by rw[xaf];omega) hno) (Ext.two λb46 _=>(St.q ?_));exact ae.cD (Br.T (JE.of .tail (fin C2 h2)))
 have RN:i<path.length:=by omega
 obtain⟨e1,c',e2,hf⟩:=m.rL p (me w) ord i RN;rw[pK]at e1 e2;cases e2;have Ru:jc K S (ay ord (path.take i)) (p+(me w)[i]):=qc.1 hf;have nv:path.take (i+1)=path.take i++[p+(me w)[i]]:=by
  rw[xbH,show path[i]? =some (p+(me w)[i])from e1];rfl
 refine aa.fq (X9 h2 zO (by rw[xaf,xbz];omega) Ru) ?_;rintro v C3 ⟨rfl,h3⟩;rw[<-eR,xaj,<-nv]at h3;refine Ext.two λb46 _=>(St.q ?_);refine ae.cD (Br.F (ae.inc (Ld.f ?_)));rw[<-eR,<-nv];refine ae.fk (Br.dec (λrH=>?_) (λrH=>?_))
 ·have hk:m.keep ord path (i+1)=i+1:=by rw[Rm.keep];exact xad rH
  refine ai.mk (Ld.mk (v:=iv ((cG K S (ay ord (path.take (i+1))):Nat):Int)) (by exact .head _) rfl ?_);refine JE.mk (Sp _ _ _ _ λgs=>?_);refine ae.inc (aC.of .tail ⟨i+1,C3,RN,by rw[hk],rfl,h3⟩ ?_);show(me w).length-(((i+1:Nat):Int).toNat)<(me w).length-(((i:Nat):Int).toNat);omega
 have hk:m.keep ord path (i+1)=m.keep ord path i:=by rw[Rm.keep];exact xac rH
 refine JE.mk (Sp _ _ _ _ λgs=>?_);refine ae.inc (aC.of .tail ⟨i+1,C3,RN,by rw[hk],rfl,h3⟩ ?_);show(me w).length-(((i+1:Nat):Int).toNat)<(me w).length-(((i:Nat):Int).toNat);omega
end
end
section
open aA
def rep(b a s:Nat):zV:=.agg #[iv (b:Int),iv (a:Int),iv (s:Int),.bool false]
def mI(b1 mg b a s:Nat):Array zV:=#[.func (.func 270) #[] #[ptr b1,ptr mg],iv (b:Int),iv (a:Int),iv (s:Int),.bool false]
def Pass(pp kp w b a s:Nat)(B:Hp):Prop:=∃b1 mg B',B=(pp,.cells (mI b1 mg b a s) 252 zZ)::B'/\Box kp b1 mg (me w) B'
section
variable {pp kp w p bf af sw:Nat} {K:Kd} {S:Nat->aA.Fn} {ord tr:zL} {B C:Hp}
theorem Mg(kp:Nat)(w:Int)(C:Hp):Rd zQ 189 #[ptr kp,iv w] C (· =iv (if w<2\/4<w then 1 else 0)):=by
 refine aF λg=>JA (ae.aH (Br.no (ae.lss (cm.or (decide (4<w)) (λ_=>ae.gtr ⟨rfl,rfl⟩) zI λgs=>?_))));rw[<-xa8];exact Br.dec (λh=>aZ.mk (.refl _) (by rw[xad h])) (λh=>aZ.mk (.refl _) (by rw[xac h]))
theorem Tg(h:At kp K S ord tr C)(hw:2<=w/\w<=4):Fc zQ 190 #[ptr kp,iv (w:Int)] C (λv H=>∃pp B,v=ptr pp/\H=B++C/\Pass pp kp w (cG K S ord) (cG K S ord) 0 B):=by
 refine aF λg=>Jz λb1 _=>?_;refine DR.self (Ld.q ?_);refine Ld.q ?_;refine aa.eq (cF h) (⟨.refl _,?_⟩);refine aa.eq (cF h) (⟨.refl _,?_⟩);refine Build.mk (cs:=[iv ((cG K S ord:Nat):Int),iv ((cG K S ord:Nat):Int),iv 0,.bool false]) zK (Build.mk (cs:=[.nilFunc,iv ((cG K S ord:Nat):Int),iv ((cG K S ord:Nat):Int),iv 0,.bool false]) zK λT5 _=>?_);refine⟨.tail,?_⟩;refine aa.fn hnew (Gz hw) ?_;rintro v Cc ⟨s,rfl,hc⟩;obtain⟨sa,sl,sc,rfl⟩:∃a l c,s=Value.slice a l c:=by obtain⟨a,c,h⟩:=bg.len hc;exact⟨a,_,c,h⟩
 refine Ext.two λmg _=>(St.one (c':=#[.slice sa sl sc]) (by exact .head _) rfl zI rfl ?_);refine Nil.ptr (ai.mk (St.one (c':=mI b1 mg (cG K S ord) (cG K S ord) 0) (by repeat (first|exact c8.head _|apply c8.tail|apply c8.cc)) rfl (by simp[Value.cells]) rfl ?_));refine aM.mk (nB:=((T5,.cells (mI b1 mg (cG K S ord) (cG K S ord) 0) 252 zZ)::(b1,.cells #[ptr kp] 85 zZ)::(mg,.cells #[.slice sa sl sc] 43 zZ)::Cc)++C) (.perm ?_) ⟨T5,_,rfl,rfl,b1,mg,_,rfl,_,Cc,rfl,hc⟩;refine(List.Perm.cons _ (xaS.trans (List.Perm.cons _ xaS))).trans ?_;refine(List.Perm.swap _ _ _).trans (List.Perm.cons _ (List.Perm.swap _ _ _))
theorem adt(hB:Pass pp kp w bf af sw B)(h:At kp K S ord tr C)(hp:p+w<=K.n)(eG:tr.length<17454747090944)(hs:sw<4611686018427387904):
  Fc zQ 274 #[ptr pp,ptr kp,iv (p:Int)] (B++C) (λv H=>v=.tuple #[]/\∃B' C',H=B'++C'/\Pass pp kp w bf (cG K S (ay ord ((rm K S).visit w p ord).1)) (sw+((rm K S).visit w p ord).2) B'/\At kp K S (ay ord ((rm K S).visit w p ord).1) (tr++((rm K S).visit w p ord).1) C'):=by
 obtain⟨b1,mg,B',rfl,hb⟩:=hB;have hv:=((rm K S).sj w p ord).2;refine aF λg=>IK (DR.of (R:=[(pp,.cells (mI b1 mg bf af sw) 252 zZ)]) (.cons .nil) (Nil.ptr (ai.mk (Ld.f ?_))));refine Ld.n ?_;refine aK.of rfl zK (aa.fq (args:=#[iv (p:Int),ptr b1,ptr mg]) (PE hb h hp eG) ?_);rintro v H ⟨rfl,C',rfl,h'⟩;refine⟨.cons .nil,?_⟩;refine ae.eZ (Nil.ptr (ai.mk (ai.mk (St.one (c':=mI b1 mg bf af (sw+((rm K S).visit w p ord).2)) (by exact .head _) rfl (by simp[mI]) rfl ?_))));refine aa.eq (cF h') (Nil.ptr (ai.mk (ai.mk (St.one (c':=mI b1 mg bf (cG K S (ay ord ((rm K S).visit w p ord).1)) (sw+((rm K S).visit w p ord).2)) (by exact .head _) rfl (by simp[mI]) rfl ?_))));exact aM.here ⟨rfl,_::B',C',rfl,⟨b1,mg,B',rfl,hb⟩,h'⟩
theorem Ue(hB:Pass pp kp w bf (cG K S ord) sw B)(h:At kp K S ord tr C)(hw:2<=w/\w<=4)(eG:tr.length<17317308137472)(hs:sw<2305843009213693952):
  Fc zQ 191 #[ptr pp,ptr kp,iv (w:Int)] (B++C) (λv H=>v=.tuple #[]/\∃B' C',H=B'++C'/\Pass pp kp w bf (cG K S (ay ord ((rm K S).pass w ord).1)) (sw+((rm K S).pass w ord).2) B'/\At kp K S (ay ord ((rm K S).pass w ord).1) (tr++((rm K S).pass w ord).1) C'):=by
 have hn:=h.lz;refine aF λg=>Jy ?_;refine⟨λvs H=>∃i B' C',i<=K.n+1-w/\vs=[iv ((i:Nat):Int)]/\H=B'++C'/\Pass pp kp w bf (cG K S (ay ord ((rm K S).all w ord i).1)) (sw+((rm K S).all w ord i).2) B'/\At kp K S (ay ord ((rm K S).all w ord i).1) (tr++((rm K S).all w ord i).1) C',
  λvs _=>K.n+1-bL vs 0,JE.mk ⟨0,B,C,xaN _,rfl,rfl,by simpa[Rm.all,ay]using hB,by simpa[Rm.all,ay]using h⟩,?_⟩
 rintro w5 H ⟨i,B',C',hi,⟨⟩,rfl,hp,ha⟩ gs;have V0:=(rm K S).LY w ord i;refine ae.eZ (aa.eq (mX ha) (ae.xX (Br.dec (λhle=>?_) (λhle=>?_))))
 ·refine aa.fq (adt hp ha zO (by rw[xaf];omega) zO) ?_;rintro v H ⟨rfl,B2,C2,rfl,kT,qt⟩;rw[<-cr,xaj,xcS]at*;refine ae.inc (aC.of (.refl _) ⟨i+1,B2,C2,by omega,rfl,rfl,by rw[Rm.all_succ];exact kT,by rw[Rm.all_succ];exact qt⟩ ?_);show K.n+1-(((i+1:Nat):Int).toNat)<K.n+1-(((i:Nat):Int).toNat);omega
 obtain rfl:i=K.n+1-w:=by omega
 exact aM.here ⟨rfl,B',C',rfl,hp,ha⟩
end
section
variable {pp kp w p bf af sw:Nat} {K:Kd} {S:Nat->aA.Fn} {ord tr:zL} {B C:Hp}
theorem WJ(h:At kp K S ord tr C)(hw:2<=w/\w<=4)(eG:tr.length<17317308137472):
  Fc zQ 137 #[ptr kp,iv (w:Int)] C (λv H=>v=.tuple #[rep (cG K S ord) (cG K S (ay ord ((rm K S).pass w ord).1)) ((rm K S).pass w ord).2,iv 0]/\At kp K S (ay ord ((rm K S).pass w ord).1) (tr++((rm K S).pass w ord).1) H):=by
 have hn:=h.lz;refine aF λg=>JZ λb1 _=>?_;refine aa.eq (Mg kp w C) ?_;rw[xac zO];refine ae.cD (Br.F (aa.fq (Tg h hw) ?_));rintro v H ⟨pp,B,rfl,rfl,hB⟩;refine aa.fq (Ue hB h hw eG zO) ?_;rintro v H ⟨rfl,B',C',rfl,hB',h'⟩;rw[xa3]at hB';obtain⟨x1,x18,B2,rfl,hb⟩:=hB';refine Nil.ptr (ai.mk (ax.mk (vs:=#[iv ((cG K S ord:Nat):Int),iv ((cG K S (ay ord ((rm K S).pass w ord).1):Nat):Int),iv ((((rm K S).pass w ord).2:Nat):Int),.bool false]) (by exact .tail _ (.head _)) (by simp[mI]) rfl ?_));refine St.q ?_;refine ax.q ?_;exact aM.mk (.skip .right) ⟨rfl,h'⟩
end
theorem bH{ws:zL}{i:Nat}(h:i<ws.length):(iw ws)[i]? =some ((ws.getD i 0:Nat):Int):=by
 rw[cQ (w:=ws.getD i 0)];rw[xap,xaa h];rfl
def abw(n:Nat)(p:List Int):Prop:=p.length=n/\∀v:Nat,v<n->p.count (v:Int)=1
instance (n:Nat)(p:List Int):Decidable (abw n p):=by unfold abw;infer_instance
theorem Rr{p:List Int}{x:Int}{i:Nat}(h:x∉p.take i)(hi:i<p.length)(he:p[i]=x):p.idxOf x=i:=by
 have e:p=p.take i++p[i]::p.drop (i+1):=by
  conv=>lhs;rw[<-xbk i p]
  rw[xbc hi]
 conv=>lhs;rw[e]
 rw[List.idxOf_append,xac h,he,List.idxOf_cons_self,xbz];omega
def tN(p:List Int):Prop:=∀v:Nat,v<p.length->(v:Int)∈p
theorem wW{p:zL}{n:Nat}(hp:p.Perm (List.range n)):tN (iw p):=λv hv=>by
 rw[ak,hp.length_eq,xaz]at hv;exact xan.2 ⟨v,hp.mem_iff.2 (xaM.2 hv),rfl⟩
theorem QW{q:zL}{x:Nat}:(x:Int)∈iw q↔x∈q:=by
 unfold iw;rw[xan];exact⟨λ⟨y,hy,e⟩=>by rw[<-Int.ofNat.inj e];exact hy,λh=>⟨x,h,rfl⟩⟩
theorem YM(q:zL)(x:Nat):(iw q).idxOf (x:Int)=q.idxOf x:=by
 induction q with
 |nil=>rfl
 |cons y q ih=>
  show(((y:Nat):Int)::iw q).idxOf (x:Int)=_;rw[List.idxOf_cons,List.idxOf_cons,ih];have:(((y:Nat):Int)==(x:Int))=(y==x):=by
   rw[xbN];simp[xeu]
  rw[this]
theorem Bj(a k:Nat):decide ((a>>>k)%2=1)=a.testBit k:=by
 cases hb:a.testBit k
 ·rw[xai];rw[an.LP,hb];simp
 rw[xal];rw[an.LP,hb]
theorem Sy{ord:zL}{F G:aA.Fn->Prop}(h:∀g,F g->G g):∀l g,fs ord F l g->fs ord G l g
 |0,g,hg=>h g hg
 |l+1,g,⟨f,hf,b,e⟩=>⟨f,Sy h l f hf,b,e⟩
theorem cI{n:Nat}{ord:zL}{F G:aA.Fn->Prop}(h:∀g,F g->G g){g:aA.Fn}(hg:aG n ord F g):aG n ord G g:=let ⟨l,a,b,c⟩:=hg;⟨l,a,Sy h l g b,c⟩
structure kO(K:Kd)(S:Nat->aA.Fn)(K':Kd)(S':Nat->aA.Fn)(f:aA.Fn)(r:Nat):Prop where
 n:K'.n=K.n
 cap:K'.cap=K.cap
 N:∀s d,K.N s=some d->K'.N s=some d
 fn:∀s,live K.N s->S' s=S s
 live:live K'.N r
 is:S' r=f
 hold:∀s,K'.hold s=K.hold s+if s=r/\2<=r then 1 else 0
theorem cu{N N':eH}(h:∀s d,N s=some d->N' s=some d){s:Nat}(hs:live N s):live N' s:=by
 rcases hs with hs|⟨d,hd⟩
 ·exact .inl hs
 exact .inr ⟨d,h s d hd⟩
theorem jR{K K5:Kd}{S S5:Nat->aA.Fn}{ah:Nat->Nat}(hK:Ok K S ah)(Lu:Ok K5 S5 ah)(hold:∀s,K.hold s≠0->K5.hold s≠0)(h3:∀s d d',K.N s=some d->K5.N s=some d'->d'=d):
  ∀(k s:Nat) (d:Nd),K.N s=some d->ah d.v<=k->K5.N s=some d:=by
 intro k;induction k with
 |zero=>
  intro s d hd hl;have fin:live K5.N s->K5.N s=some d:=λhs=>by
   rcases hs with hs|⟨d',dP⟩
   ·have:=(hK.mid.two hd).1;omega
   rw[dP,h3 s d d' hd dP]
  rcases hK.reach s d hd with h|⟨p,e,hp,he⟩
  ·exact fin (.inr (Lu.mid.held s (hold s h)))
  have h1:=hK.wf.lo hp;have h2:=hK.wf.hi hp;rcases he with rfl|rfl
  ·have:=h1.2;rw[aq hd]at this;omega
  have:=h2.2;rw[aq hd]at this;omega
 |succ k ih=>
  intro s d hd hl;have fin:live K5.N s->K5.N s=some d:=λhs=>by
   rcases hs with hs|⟨d',dP⟩
   ·have:=(hK.mid.two hd).1;omega
   rw[dP,h3 s d d' hd dP]
  rcases hK.reach s d hd with h|⟨p,e,hp,he⟩
  ·exact fin (.inr (Lu.mid.held s (hold s h)))
  have h1:=hK.wf.lo hp;have h2:=hK.wf.hi hp;rcases he with rfl|rfl
  ·have:=h1.2;rw[aq hd]at this;exact fin (Lu.mid.lo (ih p e hp zO))
  have:=h2.2;rw[aq hd]at this;exact fin (Lu.mid.hi (ih p e hp zO))
theorem kO.held{K K':Kd}{S S':Nat->aA.Fn}{f:aA.Fn}{r:Nat}(h:kO K S K' S' f r)(hm:∀s,K.hold s≠0->aA.live K.N s)(g:aA.Fn)(hg:K'.held S' g):K.held S g\/g=f:=by
 obtain⟨s,hs,rfl⟩:=hg;by_cases h0:K.hold s=0
 ·right;have:=h.hold s;have hs':K'.hold s≠0:=hs;rw[h0]at this;by_cases e:s=r/\2<=r
  ·rw[e.1];exact h.is
  rw[xac e]at this;omega
 exact .inl ⟨s,h0,h.fn s (hm s h0)⟩
end
end Go.Proofs
namespace aA
open an
section
variable {K:Kd} {S:Nat->Fn} {ah:Nat->Nat}
theorem Ok.U3(h:Ok K S ah){d e:Nd}{r:Nat}
 (hlo:live K.N d.lo)(hhi:live K.N d.hi)(hne:d.lo≠d.hi)(hv:d.v<K.n)(hlt:ah d.v<dep K.n ah K.N d.lo/\ah d.v<dep K.n ah K.N d.hi)(hr:K.N r=some e)(Rz:S r=ite S d):e=d:=by
 have Rv:e.v=d.v:=by
  have e1:=h.lv.lt e.v (h.mid.var hr);have e2:=h.lv.lt d.v hv;rcases xcI (ah e.v) (ah d.v)with hh|hh|hh
  ·exfalso;obtain⟨z,hz⟩:=gp h.wf h.lv h.mid.int hr;rw[Rz]at hz;apply hz;unfold ite;have i1:=h.wf.bN h.lv h.mid.int hlo (h.mid.var hr) zO;have i2:=h.wf.bN h.lv h.mid.int hhi (h.mid.var hr) zO;have Gb:d.v≠e.v:=λpJ=>by rw[pJ]at hh;omega
   simp only[aj,xac Gb,i1,i2]
  ·exact h.lv.inj _ _ (h.mid.var hr) hv hh
  exfalso;have hx:=h.wf.bN h.lv h.mid.int (r:=r) (.inr ⟨e,hr⟩) hv (by rw[aq hr];exact hh);apply hne;refine h.wf.same h.lv h.mid.int hlo hhi λx=>?_;have i1:=h.wf.bN h.lv h.mid.int hlo hv hlt.1;have i2:=h.wf.bN h.lv h.mid.int hhi hv hlt.2;have q1:=hx x false;have q2:=hx x true;rw[Rz]at q1 q2;have q3:=q1.trans q2.symm;unfold ite at q3;simp only[aj,xa7,i1,i2,xaQ,xa0]at q3;exact q3
 have kH:∀(b:Bool) x,S (if b then e.hi else e.lo) x=S (if b then d.hi else d.lo) x:=λb x=>by
  rw[<-h.wf.child h.lv h.mid.int hr x b,Rz,Rv];have i1:=h.wf.bN h.lv h.mid.int hlo hv hlt.1;have i2:=h.wf.bN h.lv h.mid.int hhi hv hlt.2;unfold ite;rw[aj,xad rfl,i1,i2];cases b<;>rfl
 have e1:e.lo=d.lo:=h.wf.same h.lv h.mid.int (h.mid.lo hr) hlo λx=>kH false x;have e2:e.hi=d.hi:=h.wf.same h.lv h.mid.int (h.mid.hi hr) hhi λx=>kH true x;have hed:∀a b:Nd,a.v=b.v->a.lo=b.lo->a.hi=b.hi->a=b:=λa b h1 h2 h3=>by
  cases a;cases b;cases h1;cases h2;cases h3;rfl
 exact hed e d Rv e1 e2
end
end aA
set_option maxRecDepth 100000
namespace Go.Proofs
open Go Go.Sx Tryz
section
open aA
def gA(bw kp:Nat)(vl vm:zV):Nat×Obj:=(bw,.cells #[ptr kp,vl,vm] 305 zZ)
abbrev Q3:=Nat×Nat×Nat
def l3(q:Q3):zL:=[q.1,q.2.1,q.2.2]
def kq(q:Q3):zV:=.agg (av .u32 (iw (l3 q)))
theorem Vu{a b:zL}(h:iw a=iw b):a=b:=by
 induction a generalizing b with
 |nil=>cases b with
  |nil=>rfl
  |cons y b=>simp[iw]at h
 |cons x a ih=>cases b with
  |nil=>simp[iw]at h
  |cons y b=>
   simp only[iw,xaB,xaw]at h;rw[Int.ofNat.inj h.1,ih h.2]
theorem YF{a b:Q3}(h:l3 a=l3 b):a=b:=by
 obtain⟨a1,a2,a3⟩:=a;obtain⟨b1,b2,b3⟩:=b;simp[l3]at h;rw[h.1,h.2.1,h.2.2]
theorem vS(a b:Q3):BA zQ 236 (kq a) (kq b) (decide (a=b)):=by
 have:=BA.array (P:=zQ) (t:=236) (e:=110) (q:=.u32) (n:=3) zK zK zK (iw (l3 a)) (iw (l3 b)) rfl rfl;have e:decide (iw (l3 a)=iw (l3 b))=decide (a=b):=xcx.2 ⟨λh=>YF (Vu h),λh=>by rw[h]⟩;rw[e]at this;exact this
theorem qq(a:Q3):mu zQ 236 (kq a):=mu.array (P:=zQ) (t:=236) (e:=110) (q:=.u32) (n:=3) zK zK zK _ rfl
theorem AZ(a:Q3):Instr.sameBits 10000 (kq a) (kq a)=true:=kP 9998 λx hx=>.inl (by simp[av]at hx;obtain⟨n,_,rfl⟩:=hx;exact⟨_,_,rfl⟩)
section
variable {kp bw:Nat} {vl vm:zV} {K:Kd} {S:Nat->aA.Fn} {ord ah tr:zL} {C:Hp}
theorem Ob{H:Hp}{r:List zV}{K:zV->Hp->Prop}(hl:r.length=3)(h:∀b,K (.slice (some ⟨b,0,none⟩) 1 1) ((b,.cells r.toArray 226 zZ)::H)):az zQ 309 1 [(0,.agg r.toArray)] H K:=
 az.one (r:=r) (e:=226) (k:=3) (z:=.agg #[iv 0,.int .u32 0,.int .u32 0]) zK zK zK zD hl h
theorem z7{X Y:Hp}(h:cT kp K ord ah tr C)(q:Q3)(hq:∀r∈l3 q,r<4294967296):
  Fc zQ 253 #[ptr bw,kq q] (gA bw kp vl vm::(X++(Y++C))) (λv H=>∃CN,H=CN++(gA bw kp vl vm::(X++(Y++C)))/\bg 226 3 v ((l3 q).map (got K.N)) CN):=by
 have hlen:(l3 q).length=3:=rfl;refine aF λg=>I4 λb1 _=>?_;refine ax.q ?_;refine⟨λvs H=>∃(i:Nat) (u:zV) (CN:Hp),vs=[u,iv (i:Int)]/\i<=3/\H=CN++((b1,.cells (av .u32 (iw (l3 q))) 236 zZ)::(gA bw kp vl vm::(X++(Y++C))))/\bg 226 3 u (((l3 q).take i).map (got K.N)) CN,λvs _=>3-bL vs 1,
  JE.mk ⟨0,_,[],rfl,by omega,rfl,bg.nil _ _⟩,?_⟩
 rintro w8 w9 H ⟨i,u,CN,⟨⟩,hi,rfl,hN⟩ gs;refine ae.fk (b:=3) (Br.dec (λhlt=>?_) (λhlt=>?_))
 ·have gR:i<(l3 q).length:=hlt;obtain⟨r,hr⟩:∃r,(l3 q)[i]? =some r:=⟨_,xaa gR⟩;have YX:=hq r (xav hr);refine m7.adC (t:=236) (e:=110) (q:=.u32) (x:=.tmp 10) (i:=.tmp 11) (l:=iw (l3 q)) (z:=(r:Int)) (kd:=.i64) (n:=3) (j:=i) zK rfl rfl zK zK zK hlt (cQ hr) ?_;refine Ld.n ?_;refine aa.eq (args:=#[ptr kp,u32 r]) (iS h YX) (Ext.two λEc _=>(St.whole (r:=got K.N r) (by exact .head _) rfl (aQ _ _).1 (aQ _ _).2 ?_));refine ax.whole (r:=got K.N r) (by exact .head _) (aQ _ _).1 ?_;refine Ob (aQ _ _).1 λbx=>?_;refine hN.rX (r:=got K.N r) (.cons (.cons .left)) (by exact .head _) (aQ _ _).1 (aQ _ _).2 ⟨[iv 0,.int .u32 0,.int .u32 0],rfl,rfl⟩ zP zP λv' C' ho=>?_;refine ae.inc (aC.of (.skip .tail) ⟨i+1,v',C',rfl,by omega,rfl,?_⟩ (by simp only[bL];omega));rw[xbH,hr,xaJ];exact ho
 obtain rfl:i=3:=by omega
 rw[xdl (by rw[hlen];exact xag _)]at hN;exact aM.mk (.cU .tail _) ⟨CN,rfl,hN⟩
theorem LS{n:Nat}{r8:Nat->Nat}{N:eH}{B:Hp}{vn:zV}{lvl:zL}(hw:gA bw kp vl vm∈B)(hl:dz .i64 B vl (iw lvl))(ng:lvl.length=n)(hlv:∀v,v<n->lvl.getD v 0=r8 v)(q:Q3)(hn:Sl 3 B vn ((l3 q).map (got N)))
 (h:WF n r8 N)(hL:jX n r8)(hq:∀r∈l3 q,live N r)(sN:n<=64):
  Rd zQ 254 #[ptr bw,vn] B (λr=>((∀s∈l3 q,N s=none)/\r=iv (-1))\/∃v,uo n r8 N (l3 q) v/\r=iv (v:Int)):=by
 have hlen:(l3 q).length=3:=rfl;refine aF λg=>I3 (hn.bP ?_);rw[xaC,hlen];refine⟨λvs H=>∃(i:Nat) (w:Int),vs=[iv w,iv (i:Int)]/\i<=3/\H=B/\(((∀s∈(l3 q).take i,N s=none)/\w= -1)\/∃v:Nat,uo n r8 N ((l3 q).take i) v/\w=(v:Int)),λvs _=>3-bL vs 1,
  JE.mk ⟨0, -1,rfl,by omega,rfl,.inl ⟨by simp,rfl⟩⟩,?_⟩
 rintro w6 w7 H ⟨i,w,⟨⟩,hi,rfl,hw6⟩ gs;refine ae.fk (b:=3) (Br.dec (λhlt=>?_) (λhlt=>?_))
 ·intro J hJ;have gR:i<(l3 q).length:=hlt;obtain⟨r,hr⟩:∃r,(l3 q)[i]? =some r:=⟨_,xaa gR⟩;have nv:(l3 q).take (i+1)=(l3 q).take i++[r]:=by rw[xbH,hr];rfl
  have fin:∀(w':Int) (Z:Hp),((∀s∈(l3 q).take (i+1),N s=none)/\w'= -1)\/(∃v:Nat,uo n r8 N ((l3 q).take (i+1)) v/\w'=(v:Int))->J [iv w'] (Z++H):=λw' Z h'=>hJ _ _ λgs=>by
   exact ae.inc (aC.of .right ⟨i+1,w',rfl,by omega,rfl,h'⟩ (by simp only[bL];omega))
  have hrow:((l3 q).map (got N))[i]? =some (got N r):=by rw[xau,hr];rfl
  refine au.sl hn hrow λp hp=>?_;refine ax.at hp (aQ _ _).1 zD (λ_ h=>h) ?_;intro sg _;refine St.whole (r:=got N r) (by exact .head _) rfl (aQ _ _).1 (aQ _ _).2 ?_;have hlr:=hq r (xav hr);cases hN:N r with
  |none=>
   have qs:r<2:=by rcases hlr with h2|⟨d,hd⟩;exact h2;rw[hN]at hd;cases hd
   have eg:got N r=[iv (-1),u32 r,u32 r]:=fJ qs;rw[eg];refine Ld.f ?_;refine ae.geq (cm.mk false (λh=>by simp at h) (λ_=>rfl) λgs=>Br.no ?_);refine JE.mk (fin w [_] ?_);rcases hw6 with⟨h1,h2⟩|⟨v,h1,h2⟩
   ·refine .inl ⟨λs hs=>?_,h2⟩;rw[nv,xao,xaI]at hs;rcases hs with hs|rfl
    ·exact h1 s hs
    exact hN
   refine .inr ⟨v,⟨h1.lt,?_,λs hs=>?_⟩,h2⟩
   ·obtain⟨s,hs,x⟩:=h1.ex;exact⟨s,by rw[nv];exact xae _ hs,x⟩
   rw[nv,xao,xaI]at hs;rcases hs with hs|rfl
   ·exact h1.le s hs
   rw[aT hN];exact xb9 (hL.lt v h1.lt)
  |some d=>
   have h2:=h.two hN;have kZ:=h.var hN;have eg:got N r=bu d:=dY hN h2;rw[eg];refine Ld.f ?_;refine ae.geq ?_;rw[xal zO];have B5:(∀s∈(l3 q).take i,r8 d.v<=dep n r8 N s)->∃v:Nat,uo n r8 N ((l3 q).take (i+1)) v/\(d.v:Int)=(v:Int):=λhle=>by
    refine⟨d.v,⟨kZ,⟨r,by rw[nv];simp,d,hN,rfl⟩,λs hs=>?_⟩,rfl⟩;rw[nv,xao,xaI]at hs;rcases hs with hs|rfl
    ·exact hle s hs
    rw[aq hN];exact xag _
   rcases hw6 with⟨h1,rfl⟩|⟨v,h1,rfl⟩
   ·refine cm.and true (λ_=>?_) rfl λgs=>Br.yes ?_
    ·exact ae.lss (cm.mk true (λh=>by simp at h) (λ_=>rfl) λgs=>⟨rfl,rfl⟩)
    refine Ld.f ?_;refine JE.mk (fin (d.v:Int) [_] (.inr (B5 λs hs=>?_)));rw[aT (h1 s hs)];exact xb9 (hL.lt _ kZ)
   have g1:(iw lvl)[d.v]? =some ((r8 d.v:Nat):Int):=by rw[<-hlv d.v kZ];exact bH zO
   have g2:(iw lvl)[v]? =some ((r8 v:Nat):Int):=by rw[<-hlv v h1.lt];exact bH (by have:=h1.lt;omega)
   refine cm.and (decide (r8 d.v<r8 v)) (λ_=>?_) rfl λgs=>?_
   ·refine ae.lss ?_;rw[xai zO];refine cm.or (decide (r8 d.v<r8 v)) (λ_=>?_) rfl λgs=>⟨rfl,by simp⟩;refine Ld.v (.tail _ hw) ?_;refine Ld.f ?_;refine hl.ld g1 (λ_ h=>.tail _ h) (Ld.v (.tail _ hw) ?_);exact hl.ld g2 (λ_ h=>.tail _ h) (ae.fk ⟨rfl,rfl⟩)
   rw[xbR];refine Br.dec (λrH=>?_) (λrH=>?_)
   ·refine Ld.f ?_;refine JE.mk (fin (d.v:Int) [_] (.inr (B5 λs hs=>?_)));have:=h1.le s hs;omega
   refine JE.mk (fin (v:Int) [_] (.inr ⟨v,⟨h1.lt,?_,λs hs=>?_⟩,rfl⟩))
   ·obtain⟨s,hs,x⟩:=h1.ex;exact⟨s,by rw[nv];exact xae _ hs,x⟩
   rw[nv,xao,xaI]at hs;rcases hs with hs|rfl
   ·exact h1.le s hs
   rw[aq hN];omega
 obtain rfl:i=3:=by omega
 rw[xdl (by rw[hlen];exact xag _)]at hw6;refine aZ.mk (.refl _) ?_;rcases hw6 with⟨h1,rfl⟩|⟨v,h1,rfl⟩
 ·exact .inl ⟨h1,rfl⟩
 exact .inr ⟨v,h1,rfl⟩
theorem Nq(h:cf kp K S ord ah tr C){v lo hi:Nat}(hv:v<K.n)(hlo:live K.N lo)(hhi:live K.N hi)(hlt:lv ah v<dep K.n (lv ah) K.N lo/\lv ah v<dep K.n (lv ah) K.N hi):
  Rd zQ 323 #[ptr kp,iv (v:Int),u32 lo,u32 hi] C (· =if lo=hi then .tuple #[u32 lo,.bool true]else .tuple #[u32 ((K.T ⟨v,lo,hi⟩).getD 0),.bool (K.T ⟨v,lo,hi⟩).isSome]):=by
 have afW:=h.bK hlo;have af7:=h.bK hhi;have Dy:=bX.2 hlo;have qK:=bX.2 hhi;have hfe:pO K ah (v:Int) lo hi=0:=by
  unfold pO;rw[xac zO,xac (by rw[Dy,qK];simp),xac];rintro⟨hne,hmin⟩;simp only[xbh,lv]at hmin hlt;omega
 refine aF λg=>Ia λJ hJ=>?_;refine ae.aH (Split.go rfl (aa.eq (LC h.rep (v:Int) zO zO (λr d hd=>⟨h.ok.mid.var hd,(h.ok.mid.two hd).1⟩)) ?_));rw[hfe];refine ae.cD (aD.mk (JE.mk (hJ _ _ λgs=>?_)));rw[xai zI];refine Br.no (aa.rq (KO h.rep (lo:=lo) (hi:=hi) hv) ?_);rintro w hw;subst hw;by_cases he:lo=hi
 ·rw[xad he];exact Ext.mk rfl (Ext.mk rfl (aZ.mk (.refl _) rfl))
 rw[xac he];exact Ext.mk rfl (Ext.mk rfl (aZ.mk (.refl _) rfl))
theorem vV(h:cf kp K S ord ah tr C){v lo hi r:Nat}(hv:v<K.n)(hlo:live K.N lo)(hhi:live K.N hi)(hlt:lv ah v<dep K.n (lv ah) K.N lo/\lv ah v<dep K.n (lv ah) K.N hi)(hr:live K.N r)(h2:2<=r)(hS:S r=ite S ⟨v,lo,hi⟩):
  Rd zQ 323 #[ptr kp,iv (v:Int),u32 lo,u32 hi] C (· =.tuple #[u32 r,.bool true]):=by
 refine(Nq h hv hlo hhi hlt).mono ?_;rintro w H ⟨e,rfl⟩;refine⟨e,?_⟩;by_cases he:lo=hi
 ·subst he;rw[xad rfl,h.ok.wf.same h.ok.lv h.ok.mid.int hr hlo λx=>by rw[hS];unfold aA.ite;split<;>rfl]
 rw[xac he];obtain⟨d,hd⟩:∃d,K.N r=some d:=by
  rcases hr with h3|h3
  ·omega
  exact h3
 have hdd:d=⟨v,lo,hi⟩:=h.ok.U3 (d:=⟨v,lo,hi⟩) hlo hhi he hv hlt hd hS;subst hdd;rw[(h.ok.mid.j5 _ r).2 ⟨hd,λe=>e⟩];rfl
theorem GO(r v:Nat)(B:Hp):Rd zQ 255 #[ptr bw,iv (v:Int),u32 r,u32 r] B (· =.tuple #[u32 r,iv 0]):=by
 exact aF λg=>xA (ae.gI (Br.T (aZ.mk (.refl _) rfl)))
theorem To{CM X:Hp}{made:zL}(h:cf kp K S ord ah tr C){v lo hi:Nat}(hv:v<K.n)(hlo:live K.N lo)(hhi:live K.N hi)(hne:lo≠hi)(hlt:lv ah v<dep K.n (lv ah) K.N lo/\lv ah v<dep K.n (lv ah) K.N hi)
 (hM:aN 110 .u32 vm (iw made) CM)(hlen:made.length<=1099511627776):
  Fc zQ 255 #[ptr bw,iv (v:Int),u32 lo,u32 hi] (gA bw kp vl vm::(X++(CM++C))) (λw H=>
   (∃r K' S' C' X7 CM',w=.tuple #[u32 r,iv 0]/\H=gA bw kp vl X7::(X++(CM'++C'))/\cf kp K' S' ord ah [] C'/\pQ K S K' S' (ite S ⟨v,lo,hi⟩) r/\aN 110 .u32 X7 (iw (made++[r])) CM')\/
   (w=.tuple #[u32 0,iv 9]/\H=gA bw kp vl vm::(X++(CM++C))/\K.cap<=K.used/\K.T ⟨v,lo,hi⟩=none)\/
   (∃r,w=.tuple #[u32 r,iv 0]/\H=gA bw kp vl vm::(X++(CM++C))/\live K.N r/\2<=r/\K.hold r=65535/\S r=ite S ⟨v,lo,hi⟩)):=by
 refine aF λg=>xA (ae.dQ (Br.SM hne (Ld.n ?_)));refine aa.fq (AW h hv hlo hhi (.inr hlt)) ?_;rintro w C' (⟨r,K',S',rfl,dh,mk⟩|⟨r,rfl,rfl,hlr,Pu,hfull,Gk⟩|⟨rfl,rfl,hcap,_,hT⟩)
 ·refine Ext.two λJ hJ=>(ae.gI (Br.T (Ld.n ?_)));refine az.int (e:=110) zK zK zK λbx=>?_;refine hM.rX (x:=(r:Int)) (.cons (.cons (.app .left))) (by exact .head _) (by rw[ak];omega) (by rw[ak];omega) λX7 CM' ZH=>?_;have h1:=ZH.one;refine Nil.ptr (ai.mk (St.one (by exact .tail (.head _)) h1 zI rfl ?_));refine aM.mk .tail (.inl ⟨r,K',S',C',X7,CM',rfl,rfl,dh,mk,?_⟩);rw[bY];exact ZH
 ·refine Ext.two λJ hJ=>(ae.gI (Br.F (ae.gI (Br.T (Ld.n ?_)))));exact aa.eq (vV h hv hlo hhi hlt hlr Pu Gk) (Ext.mk rfl (Ext.mk rfl (Br.yes (aM.here (.inr (.inr ⟨r,rfl,rfl,hlr,Pu,hfull,Gk⟩))))))
 exact Ext.two λJ hJ=>(ae.gI (Br.F (ae.gI (Br.F (JE.mk (hJ _ λgs=>aM.here (.inr (.inl ⟨rfl,rfl,hcap,hT⟩))))))))
end
end
section
open aA
structure kW(K0:Kd)(S0:Nat->aA.Fn)(U:aA.Fn->Prop)(ord:zL)(K:Kd)(S:Nat->aA.Fn)(made:zL):Prop where
 n:K.n=K0.n
 cap:K.cap=K0.cap
 N:∀s d,K0.N s=some d->K.N s=some d
 fn:∀s,live K0.N s->S s=S0 s
 hold:∀s,K.hold s=K0.hold s+made.count s
 two:∀s∈made,2<=s
 U:∀g,aG K0.n ord (K.held S) g->U g
theorem kW.refl{K0:Kd}{S0:Nat->aA.Fn}{U:aA.Fn->Prop}{ord:zL}(h:∀g,aG K0.n ord (K0.held S0) g->U g):kW K0 S0 U ord K0 S0 []:=⟨rfl,rfl,λ_ _ h=>h,λ_ _=>rfl,λs=>by simp,by simp,h⟩
def Fits(U:aA.Fn->Prop)(cap:Nat):Prop:=∃ku,pC U ku/\ku+2<=cap
section
variable {kp:Nat} {K0 K:Kd} {S0 S:Nat->aA.Fn} {U:aA.Fn->Prop} {ord ah tr:zL} {made:zL} {C:Hp}
theorem kW.iA(h:kW K0 S0 U ord K S made)(hK:cf kp K S ord ah tr C){s:Nat}(hs:s∈made):live K.N s:=by
 refine .inr (hK.ok.mid.held s ?_);rw[h.hold];have:=xbL.2 hs;omega
theorem yX{b:Nat}:∀(m:Nat) (l:zL),(∀x∈l,x<m)->(∀x,l.count x<=b)->l.length<=m*b
 |0,l,h1,_=>by
  cases l with
  |nil=>simp
  |cons x l=>exact absurd (h1 x (xbS ..)) (xcQ _)
 |m+1,l,h1,h2=>by
  have ih:=yX m (l.filter λx=> !(x==m)) (λx hx=>by
   obtain⟨hx,hne⟩:=xbV.1 hx;have:=h1 x hx;have:x≠m:=by simpa using hne
   omega) (λx=>xbG (List.filter_sublist.count_le x) (h2 x))
  have e:=List.length_eq_countP_add_countP (λx=>x==m) (l:=l);have h3:=h2 m;rw[List.count]at h3;rw[List.countP_eq_length_filter (l:=l) (p:=λa=>decide ¬(a==m)=true)]at e;rw[xbC];have e2:(l.filter λa=>decide ¬(a==m)=true)=l.filter λx=> !(x==m):=xdm λx _=>by cases x==m<;>rfl
  rw[e2]at e;omega
theorem kW.ru(h:kW K0 S0 U ord K S made)(hK:cf kp K S ord ah tr C):made.length<=1048576*65535:=
 yX _ _ (λx hx=>by
  have hc:=xbL.2 hx;have:=h.hold x;obtain⟨d,hd⟩:=hK.ok.mid.held x zO;have:=(hK.ok.mid.two hd).2;have:=hK.ok.mid.cap;omega) (λx=>by have:=h.hold x;have:=hK.ok.mid.mx x;omega)
theorem kW.full(h:kW K0 S0 U ord K S made){r:Nat}(hr:K.hold r=65535):r∈made\/K0.hold r=65535:=by
 by_cases hm:r∈made
 ·exact .inl hm
 have:=h.hold r;rw[xdH.2 hm]at this;exact .inr zO
theorem kW.live(h:kW K0 S0 U ord K S made){s:Nat}(hs:live K0.N s):live K.N s:=cu h.N hs
theorem kW.step(h:kW K0 S0 U ord K S made)(hK:cf kp K S ord ah tr C){K':Kd}{S':Nat->aA.Fn}{f:aA.Fn}{r:Nat}(m:pQ K S K' S' f r)(h2:2<=r)(hU:∀g,aG K0.n ord (λg=>g=f) g->U g):kW K0 S0 U ord K' S' (made++[r]):=by
 refine⟨m.n.trans h.n,m.cap.trans h.cap,λs d hd=>m.N s d (h.N s d hd),λs hs=>(m.fn s (h.live hs)).trans (h.fn s hs),λs=>?_,λs hs=>?_,λg hg=>?_⟩
 ·rw[m.hold,xbi,xcG,h.hold];by_cases e:s=r
  ·subst e;simp[h2];omega
  have:(r==s)=false:=by simpa using λe'=>e e'.symm
  simp[e,this]
 ·rcases xao.1 hs with hs|hs
  ·exact h.two s hs
  simp at hs;subst hs;exact h2
 have lZ:∀g,K'.held S' g->K.held S g\/g=f:=by
  rintro g ⟨s,hs,rfl⟩;have hs':K'.hold s≠0:=hs;rw[m.hold]at hs';by_cases e:s=r/\2<=r
  ·right;rw[e.1];exact m.is
  rw[xac e]at hs';exact .inl ⟨s,hs',m.fn s (.inr (hK.ok.mid.held s hs'))⟩
 rcases(CX g).1 (cI lZ hg)with h1|h1
 ·exact h.U g h1
 exact hU g h1
end
def Bn(ij b1 b5 sg:Nat):zV:=.func (.func 252) #[] #[ptr ij,ptr b1,ptr b5,ptr sg]
structure Bz(fv:zV)(LB:Hp)(t:Bool->Bool->Bool->Bool):Prop where
 is:∃f first cap,fv=.func (.func f) first cap/\aU zQ f=true/\∀x y z:Bool,Rd zQ f (first++ #[.bool x,.bool y,.bool z]++cap) LB (· =.bool (t x y z))
def adJ(K0:Kd)(S0 S:Nat->aA.Fn)(t:Bool->Bool->Bool->Bool)(made:zL)(m:List (Q3×Nat)):Prop:=∀y∈m,S y.2=uk t S0 (l3 y.1)/\(y.2<2\/y.2∈made\/K0.hold y.2=65535)
section
variable {kp ij b1 b5 sg bm bw:Nat} {vl fv:zV} {LB CL:Hp} {lvl:zL} {K0:Kd} {S0:Nat->aA.Fn} {U:aA.Fn->Prop} {ord ah:zL} {t:Bool->Bool->Bool->Bool}
abbrev XO(ij b1 b5 sg bm bw kp:Nat)(fv vl vm:zV)(LB CL CM C:Hp)(es:Array MapEntry)(ck:Nat):Hp:=
 (ij,.cells #[.map (some bm)] 307 zZ)::(b1,.cells #[ptr bw] 231 zZ)::(b5,.cells #[fv] 237 zZ)::(sg,.cells #[Bn ij b1 b5 sg] 308 zZ)::
 (LB++((bm,.map es ck)::(gA bw kp vl vm::(CL++(CM++C)))))
structure Stp(kp:Nat)(K0:Kd)(S0:Nat->aA.Fn)(U:aA.Fn->Prop)(ord ah Yc:zL)(t:Bool->Bool->Bool->Bool)(K:Kd)(S:Nat->aA.Fn)(made:zL)(es:Array MapEntry)(ck:Nat)(vm:zV)(CM C:Hp):Prop where
 ks:∃tr,cf kp K S ord ah tr C/\(tr=[]\/(tr=Yc/\made=[]))
 cX:kW K0 S0 U ord K S made
 mde:aN 110 .u32 vm (iw made) CM
 kn:∃m,aE kq Pc es ck m/\adJ K0 S0 S t made m
structure gz(K:Kd)(S:Nat->aA.Fn)(made:zL)(K':Kd)(S':Nat->aA.Fn)(made':zL)(c:Nat):Prop where
 N:∀s d,K.N s=some d->K'.N s=some d
 fn:∀s,live K.N s->S' s=S s
 ext:∃ext,made'=made++ext/\ext.length<=c
theorem gz.refl{K:Kd}{S:Nat->aA.Fn}{made:zL}{c:Nat}:gz K S made K S made c:=⟨λ_ _ h=>h,λ_ _=>rfl,[],by simp,xaN _⟩
section
variable {K K' K2:Kd} {S S' S2:Nat->aA.Fn} {made made' fU:zL} {c c':Nat}
theorem gz.Mf(h:gz K S made K' S' made' c)(hc:c<=c'):gz K S made K' S' made' c':=⟨h.N,h.fn,let ⟨e,h1,h2⟩:=h.ext;⟨e,h1,by omega⟩⟩
theorem gz.mem{s:Nat}(h:gz K S made K' S' made' c)(hs:s∈made):s∈made':=by
 obtain⟨e,rfl,_⟩:=h.ext;exact xae _ hs
theorem gz.count(h:gz K S made K' S' made' c)(s:Nat):made'.count s<=made.count s+c/\made'.length<=made.length+c:=by
 obtain⟨e,rfl,he⟩:=h.ext;have:=List.count_le_length (a:=s) (l:=e);rw[xbi,xaf];omega
theorem gz.trans(h:gz K S made K' S' made' c)(h':gz K' S' made' K2 S2 fU c'):gz K S made K2 S2 fU (c+c'):=by
 obtain⟨e,rfl,he⟩:=h.ext;obtain⟨e',rfl,he'⟩:=h'.ext;exact⟨λs d hd=>h'.N s d (h.N s d hd),λs hs=>(h'.fn s (cu h.N hs)).trans (h.fn s hs),e++e',by rw[xaj],by rw[xaf];omega⟩
end
theorem nO{κ β:Type}[DecidableEq κ]{m:List (κ×β)}{k:κ}{x:β}{y:κ×β}(h:y∈ef m k x):y=(k,x)\/y∈m:=by
 unfold ef at h;split at h
 ·obtain⟨z,hz,rfl⟩:=xan.1 h;split
  ·exact .inl rfl
  exact .inr hz
 rcases xao.1 h with h|h
 ·exact .inr h
 simp at h;exact .inl h
def Cy(N:eH)(v:Nat)(b:Bool)(q:Q3):Q3:=(dZ N v b q.1,dZ N v b q.2.1,dZ N v b q.2.2)
theorem Vm(N:eH)(v:Nat)(b:Bool)(q:Q3):l3 (Cy N v b q)=iW N v b (l3 q):=rfl
theorem nY{N N':eH}(hN:∀s d,N s=some d->N' s=some d)(h2:∀r,r<2->N r=none)(oX:∀r,r<2->N' r=none){r:Nat}(hr:live N r):got N' r=got N r:=by
 rcases hr with hr|⟨d,hd⟩
 ·rw[fJ hr,fJ hr]
 by_cases h:r<2
 ·rw[h2 r h]at hd;cases hd
 rw[dY hd zO,dY (hN r d hd) zO]
def Ans(kp ij b1 b5 sg bm bw:Nat)(fv vl:zV)(LB CL:Hp)(K0:Kd)(S0:Nat->aA.Fn)(U:aA.Fn->Prop)(ord ah Yc:zL)(t:Bool->Bool->Bool->Bool)(ql:zL)(c:Nat)(K:Kd)(S:Nat->aA.Fn)(made:zL)(r:zV)(H:Hp):Prop:=
 ∃K' S' made' es' bB X7 CM' C',H=XO ij b1 b5 sg bm bw kp fv vl X7 LB CL CM' C' es' bB/\Stp kp K0 S0 U ord ah Yc t K' S' made' es' bB X7 CM' C'/\gz K S made K' S' made' c/\
   ((∃x:Nat,r=.tuple #[u32 x,iv 0]/\S' x=uk t S0 ql/\(x<2\/x∈made'\/K0.hold x=65535))\/(r=.tuple #[u32 0,iv 9]/\¬Fits U K0.cap))
theorem ZN(fP:aU zQ 252=true)(EH:Bz fv LB t)(XN:aN 3 .i64 vl (iw lvl) CL)(ng:lvl.length=K0.n)(hlv:∀v,v<K0.n->lvl.getD v 0=lv ah v)(sN:K0.n<=64)(j8:WF K0.n (lv ah) K0.N)(pw:Interp K0.N S0)(jI:jX K0.n (lv ah))(Ps:∀r,live K0.N r->r<4294967296)(hh0:∀s,K0.hold s=65535->live K0.N s){Yc:zL}:
  ∀(ql:zL) (c:Nat),Tree K0.n (lv ah) K0.N ql c->∀(q:Q3),l3 q=ql->∀(K:Kd) (S:Nat->aA.Fn) (made:zL) (es:Array MapEntry) (ck:Nat) (vm:zV) (CM C:Hp),Stp kp K0 S0 U ord ah Yc t K S made es ck vm CM C->
  (∀r∈ql,live K0.N r)->(∀g,aG K0.n ord (λg=>g=uk t S0 ql) g->U g)->
  Fc zQ 252 #[kq q,ptr ij,ptr b1,ptr b5,ptr sg] (XO ij b1 b5 sg bm bw kp fv vl vm LB CL CM C es ck) (λr H=>Ans kp ij b1 b5 sg bm bw fv vl LB CL K0 S0 U ord ah Yc t ql c K S made r H):=by
 have hc0:∀r,r<2->K0.N r=none:=λr hr=>j8.const hr;intro ql c hT;induction hT with
 | @leaf ql hnone=>
  intro q hq K S made es ck vm CM C hS fN hU g;subst hq;obtain⟨tr,hK,eG⟩:=hS.ks;obtain⟨m,hE,hkn⟩:=hS.kn;have Lq:∀r,r<2->K.N r=none:=λr hr=>hK.ok.wf.const hr;refine xB (R:=aM _) ?_;unfold L252;intro bq _;refine Ld.q ?_;refine ax.q ?_;have x6:(bm,Obj.map es ck)∈(bq,Obj.cells (av .u32 (iw (l3 q))) 236 zZ)::XO ij b1 b5 sg bm bw kp fv vl vm LB CL CM C es ck:=.tail _ (.tail _ (.tail _ (.tail _ (.tail _ (xab _ (.head _))))));cases hg:aJ m q with
  |some x=>
   refine aE.F5 (ke:=kq) (k:=q) vS qq hE x6 hg ?_;rintro v rfl;obtain⟨h1,h2⟩:=hkn _ ((dW hE.nd).1 hg);exact Ext.mk rfl (Ext.mk rfl (Br.yes (aM.mk .tail ⟨K,S,made,es,ck,vm,CM,C,rfl,hS,.refl,.inl ⟨x,rfl,h1,h2⟩⟩)))
  |none=>
   refine aE.vM (ke:=kq) (k:=q) vS qq hE x6 hg ?_;refine Ext.mk rfl (Ext.mk rfl (Br.no (Ld.q ?_)));refine ax.q ?_;refine aa.fq (args:=#[ptr bw,kq q]) (z7 hK.rep q (λr hr=>Ps r (fN r hr))) ?_;rintro vn H ⟨CN,rfl,hN⟩;have eN:(l3 q).map (got K.N)=(l3 q).map (got K0.N):=xbq λr hr=>nY hS.cX.N hc0 Lq (fN r hr);rw[eN]at hN;refine Ld.q ?_;refine aa.rq (LS (bw:=bw) (kp:=kp) (vl:=vl) (vm:=vm) (lvl:=lvl) (n:=K0.n) (r8:=lv ah) (N:=K0.N) (.tail _ (.tail _ (.tail _ (.tail _ (.tail _ (xab _ (.tail _ (xab _ (.head _))))))))) (XN.ints.mono λ_ h=>.tail _ (.tail _ (.tail _ (.tail _ (.tail _ (xab _ (.tail _ (xab _ (.tail _ (xae _ h)))))))))) ng hlv q ((Sl.vG hN zD).mono λ_ h=>.tail _ (.tail _ (.tail _ (.tail _ (.tail _ (xab _ (.tail _ (xae _ h)))))))) j8 jI fN sN) ?_;rintro w (⟨_,rfl⟩|⟨v,hv,rfl⟩);rotate_left
   ·obtain⟨s,hs,d,hd,_⟩:=hv.ex;rw[hnone s hs]at hd;cases hd
   refine ae.lss (Br.T ?_);have ND:∀r∈l3 q,r<2:=λr hr=>by
    rcases fN r hr with h|⟨d,hd⟩
    ·exact h
    rw[hnone r hr]at hd;cases hd
   obtain⟨f,first,cap,RT,hfc,hL⟩:=EH.is;refine Ld.q ?_;refine iY.nat (j:=0) zD (Ld.q ?_);refine ae.dQ (b:=1) (iY.nat (j:=1) zD (Ld.q ?_));refine ae.dQ (b:=1) (iY.nat (j:=2) zD (Ld.q ?_));refine ae.dQ (b:=1) (aK.of RT hfc ?_);refine aa.eq (hL _ _ _) ?_;have Gb:=λx=>NT pw (q:=l3 q) rfl ND t x;have hint:=hK.ok.mid.int;have XD:aL ((bq,Obj.cells (av .u32 (iw (l3 q))) 236 zZ)::(ij,.cells #[.map (some bm)] 307 zZ)::(b1,.cells #[ptr bw] 231 zZ)::(b5,.cells #[fv] 237 zZ)::(sg,.cells #[Bn ij b1 b5 sg] 308 zZ)::(LB++((bm,.map es ck)::(CN++(gA bw kp vl vm::(CL++(CM++C))))))) (XO ij b1 b5 sg bm bw kp fv vl vm LB CL CM C es ck):=
    .skip (.cons (.cons (.cons (.cons (.cU (.cons .right) _)))))
   refine Br.mk (λhb=>?_) (λhb=>?_)
   ·refine aM.mk XD ⟨K,S,made,es,ck,vm,CM,C,rfl,hS,.refl,.inl ⟨1,rfl,funext λx=>?_,.inl zO⟩⟩;rw[hint.one,Gb x];exact hb.symm
   refine aM.mk XD ⟨K,S,made,es,ck,vm,CM,C,rfl,hS,.refl,.inl ⟨0,rfl,funext λx=>?_,.inl zO⟩⟩;rw[hint.zero,Gb x];exact hb.symm
 | @node ql v a b hv ha hb iha ihb=>
  intro q hq K S made es ck vm CM C hS fN hU g;subst hq;obtain⟨tr,hK,eG⟩:=hS.ks;obtain⟨m,hE,hkn⟩:=hS.kn;have Lq:∀r,r<2->K.N r=none:=λr hr=>hK.ok.wf.const hr;refine xB (R:=aM _) ?_;unfold L252;intro bq _;refine Ld.q ?_;refine ax.q ?_;have x6:(bm,Obj.map es ck)∈(bq,Obj.cells (av .u32 (iw (l3 q))) 236 zZ)::XO ij b1 b5 sg bm bw kp fv vl vm LB CL CM C es ck:=.tail _ (.tail _ (.tail _ (.tail _ (.tail _ (xab _ (.head _))))));cases hg:aJ m q with
  |some x=>
   refine aE.F5 (ke:=kq) (k:=q) vS qq hE x6 hg ?_;rintro v rfl;obtain⟨h1,h2⟩:=hkn _ ((dW hE.nd).1 hg);exact Ext.mk rfl (Ext.mk rfl (Br.yes (aM.mk .tail ⟨K,S,made,es,ck,vm,CM,C,rfl,hS,.refl,.inl ⟨x,rfl,h1,h2⟩⟩)))
  |none=>
  refine aE.vM (ke:=kq) (k:=q) vS qq hE x6 hg ?_;refine Ext.mk rfl (Ext.mk rfl (Br.no (Ld.q ?_)));refine ax.q ?_;refine aa.fq (args:=#[ptr bw,kq q]) (z7 hK.rep q (λr hr=>Ps r (fN r hr))) ?_;rintro vn H ⟨CN,rfl,hN⟩;have eN:(l3 q).map (got K.N)=(l3 q).map (got K0.N):=xbq λr hr=>nY hS.cX.N hc0 Lq (fN r hr);rw[eN]at hN;refine Ld.q ?_;refine aa.rq (LS (bw:=bw) (kp:=kp) (vl:=vl) (vm:=vm) (lvl:=lvl) (n:=K0.n) (r8:=lv ah) (N:=K0.N) (.tail _ (.tail _ (.tail _ (.tail _ (.tail _ (xab _ (.tail _ (xab _ (.head _))))))))) (XN.ints.mono λ_ h=>.tail _ (.tail _ (.tail _ (.tail _ (.tail _ (xab _ (.tail _ (xab _ (.tail _ (xae _ h)))))))))) ng hlv q ((Sl.vG hN zD).mono λ_ h=>.tail _ (.tail _ (.tail _ (.tail _ (.tail _ (xab _ (.tail _ (xae _ h)))))))) j8 jI fN sN) ?_;rintro w (⟨aI,_⟩|⟨v',nU,rfl⟩)
  ·obtain⟨s,hs,d,hd,_⟩:=hv.ex;rw[aI s hs]at hd;cases hd
  obtain rfl:v'=v:=nU.uniq jI hv;refine ae.lss (Br.F (DR.of (R:=[(bq,Obj.cells (av .u32 (iw (l3 q))) 236 zZ)]) (aL.left (A:=[_])) (ax.q ?_)));refine ax.q ?_;intro b31 _ XT _ F35;have hone:∀x∈(iw (l3 q)).map λn=>Value.int .u32 n,x.oneCell'=true:=λx hx=>by obtain⟨n,_,rfl⟩:=xan.1 hx;rfl
  refine St.p hone ?_;refine⟨.skip (.skip (aL.left (A:=[_]))),?_⟩;intro F37;refine St.p hone ?_;refine hN.bP ?_;rw[xaC];refine⟨λvs H=>∃i:Nat,vs=[iv (i:Int)]/\i<=3/\H=(XT,.cells (av .u32 (iw (mN K0.N v' true (l3 q) i))) 236 zZ)::(b31,.cells (av .u32 (iw (mN K0.N v' false (l3 q) i))) 236 zZ)::
    (bq,Obj.cells (av .u32 (iw (l3 q))) 236 zZ)::(ij,.cells #[.map (some bm)] 307 zZ)::(b1,.cells #[ptr bw] 231 zZ)::(b5,.cells #[fv] 237 zZ)::(sg,.cells #[Bn ij b1 b5 sg] 308 zZ)::(LB++((bm,.map es ck)::(CN++(gA bw kp vl vm::(CL++(CM++C)))))),
   λvs _=>3-bL vs 0,JE.mk ⟨0,rfl,by omega,by rw[yM,yM];rfl⟩,?_⟩
  rintro w44 H ⟨i,hvs,hi,rfl⟩ gs;simp only[xaw,xa2]at hvs;subst hvs;have hl3:(l3 q).length=3:=rfl;refine ae.fk (b:=3) (Br.dec (λhlt=>?_) (λhlt=>?_))
  ·-- a part of the question
   intro J hJ;obtain⟨r,hr⟩:∃r,(l3 q)[i]? =some r:=⟨_,xaa (show i<(l3 q).length from hlt)⟩;have hlr:=fN r (xav hr);have hrow:((l3 q).map (got K0.N))[i]? =some (got K0.N r):=by rw[xau,hr];rfl
   refine au.sl (Sl.vG hN zD) hrow λp hp=>?_;refine ax.at hp (aQ _ _).1 zD (λ_ h=>.tail _ (.tail _ (.tail _ (.tail _ (.tail _ (.tail _ (.tail _ (xab _ (.tail _ (xae _ h)))))))))) ?_;intro b52 _;refine St.whole (r:=got K0.N r) (by exact .head _) rfl (aQ _ _).1 (aQ _ _).2 ?_;have stay:dZ K0.N v' false r=r->dZ K0.N v' true r=r->∀Z:Hp,JE J [] (Z++((XT,.cells (av .u32 (iw (mN K0.N v' true (l3 q) i))) 236 zZ)::(b31,.cells (av .u32 (iw (mN K0.N v' false (l3 q) i))) 236 zZ)::
    (bq,Obj.cells (av .u32 (iw (l3 q))) 236 zZ)::(ij,.cells #[.map (some bm)] 307 zZ)::(b1,.cells #[ptr bw] 231 zZ)::(b5,.cells #[fv] 237 zZ)::(sg,.cells #[Bn ij b1 b5 sg] 308 zZ)::(LB++((bm,.map es ck)::(CN++(gA bw kp vl vm::(CL++(CM++C)))))))):=λe1 e2 Z=>by
    refine JE.of .right (hJ _ λgs=>?_);exact ae.inc (aC.of (.refl _) ⟨i+1,rfl,by omega,by rw[yN hr e1,yN hr e2]⟩ (by simp only[bL];omega))
   cases ZF:K0.N r with
   |none=>
    have qs:r<2:=by rcases hlr with h2|⟨d,hd⟩;exact h2;rw[ZF]at hd;cases hd
    rw[fJ qs];refine Ld.f ?_;refine ae.gI (Br.F ?_);have ec:∀b,dZ K0.N v' b r=r:=λb=>by unfold dZ;rw[ZF]
    exact stay (ec false) (ec true) [_]
   |some d=>
    have h2:=j8.two ZF;rw[dY ZF h2];refine Ld.f ?_;refine ae.dQ (Br.dec (λkZ=>?_) (λkZ=>?_))
    ·refine DR.of (R:=[(b52,Obj.cells (bu d).toArray 226 zZ)]) (aL.left (A:=[_])) (Ld.f ?_);refine Ld.f ?_;have elo:dZ K0.N v' false r=d.lo:=by unfold dZ;rw[ZF];simp[kZ]
     have ehi:dZ K0.N v' true r=d.hi:=by unfold dZ;rw[ZF];simp[kZ]
     refine iY.nat hlt ?_;refine St.ints (l:=iw (mN K0.N v' false (l3 q) i)) (x:=(d.lo:Int)) (by exact .tail (.tail (.head _))) (by rw[ak,C9 zO];omega) ?_;refine⟨aL.left (A:=[_]),?_⟩;refine iY.nat hlt ?_;refine St.ints (l:=iw (mN K0.N v' true (l3 q) i)) (x:=(d.hi:Int)) (by exact .tail (.head _)) (by rw[ak,C9 zO];omega) ?_;rw[fm,fm,<-elo,<-ehi,sG hr,sG hr];refine JE.of .tail (hJ _ λgs=>?_);exact ae.inc (aC.of (.refl _) ⟨i+1,rfl,by omega,rfl⟩ (by simp only[bL];omega))
    have ec:∀b,dZ K0.N v' b r=r:=λb=>by unfold dZ;rw[ZF];simp[kZ]
    exact stay (ec false) (ec true) [_]
  obtain rfl:i=3:=by omega
  have em:∀b,mN K0.N v' b (l3 q) 3=l3 (Cy K0.N v' b q):=λb=>by rw[Vm,<-QV];rfl
  rw[em,em];obtain⟨f1,f2⟩:=o7 (S:=S0) j8 jI pw fN hv false;obtain⟨t1,t2⟩:=o7 (S:=S0) j8 jI pw fN hv true;have ec:∀b,uk t S0 (iW K0.N v' b (l3 q))=λx=>uk t S0 (l3 q) (an.aB x v' b):=λb=>LF j8 jI pw rfl fN hv t b;have mS:Ord K0.n (lv ah) ord:=by rw[<-hS.cX.n];exact hK.od
  have gR:=jI.lt v' hv.lt;have Nx:=mS.of jI hv.lt;have sP:=zq j8 jI pw mS (q:=l3 q) rfl fN (xb9 gR) hv.le t;obtain⟨i1,P1⟩:=jG (n:=K0.n) (ord:=ord) (c:=uk t S0 (iW K0.N v' false (l3 q))) sP (b:=false) (by rw[Nx];exact ec false);obtain⟨i2,PZ⟩:=jG (n:=K0.n) (ord:=ord) (c:=uk t S0 (iW K0.N v' true (l3 q))) sP (b:=true) (by rw[Nx];exact ec true);refine Ld.q ?_;refine ax.q ?_;refine aK.of rfl fP ?_;refine aa.pre (H':=(XT,.cells (av .u32 (iw (l3 (Cy K0.N v' true q)))) 236 zZ)::(b31,.cells (av .u32 (iw (l3 (Cy K0.N v' false q)))) 236 zZ)::(bq,Obj.cells (av .u32 (iw (l3 q))) 236 zZ)::XO ij b1 b5 sg bm bw kp fv vl vm LB CL CM C es ck) (.cons (.cons (.cons (.cons (.cons (.cons (.cons (.cU (.cons .right) _)))))))) ?_;refine aa.fq (args:=#[kq (Cy K0.N v' false q),ptr ij,ptr b1,ptr b5,ptr sg]) (iha (Cy K0.N v' false q) rfl K S made es ck vm CM C hS f1 (λg hg=>hU g (P1 g hg))) ?_;rintro w H ⟨K1,S1,yU,kf,jJ,vm1,CM1,C1,rfl,EG,We,Sb⟩;rcases Sb with⟨x1,rfl,hx1,uf⟩|⟨rfl,hno⟩;rotate_left
  ·exact Ext.mk rfl (Ext.mk rfl (ae.cD (Br.T (aM.mk (.skip (.skip .tail)) ⟨K1,S1,yU,kf,jJ,vm1,CM1,C1,rfl,EG,We.Mf zO,.inr ⟨rfl,hno⟩⟩))))
  refine Ext.mk rfl (Ext.mk rfl (ae.cD (Br.F (Ld.q ?_))));refine ax.q ?_;refine aK.of rfl fP ?_;have hc1:=λs=>We.count s;have hh1:∀s,K1.hold s<=K.hold s+a:=λs=>by rw[EG.cX.hold,hS.cX.hold];have:=(hc1 s).1;omega
  refine aa.fq (args:=#[kq (Cy K0.N v' true q),ptr ij,ptr b1,ptr b5,ptr sg]) (ihb (Cy K0.N v' true q) rfl K1 S1 yU kf jJ vm1 CM1 C1 EG t1 (λg hg=>hU g (PZ g hg))) ?_;rintro w H ⟨K2,S2,fU,gV,iE,vm2,CM2,C2,rfl,jx,nX,Sb⟩;have ya:=We.trans nX;rcases Sb with⟨x2,rfl,FX,lY⟩|⟨rfl,hno⟩;rotate_left
  ·exact Ext.mk rfl (Ext.mk rfl (ae.cD (Br.T (aM.mk (.skip (.skip .tail)) ⟨K2,S2,fU,gV,iE,vm2,CM2,C2,rfl,jx,ya.Mf zO,.inr ⟨rfl,hno⟩⟩))))
  refine Ext.mk rfl (Ext.mk rfl (ae.cD (Br.F (Ld.q ?_))));obtain⟨W4,fc,VD⟩:=EG.ks;obtain⟨qQ,dk,rE⟩:=jx.ks;have aci:=dk.ok.mid.int;have l11:live K1.N x1:=by rcases uf with h|h|h;exact .inl h;exact EG.cX.iA fc h;exact EG.cX.live (hh0 _ h)
  have e1:S2 x1=uk t S0 (iW K0.N v' false (l3 q)):=(nX.fn x1 l11).trans hx1;have l1:live K2.N x1:=by rcases uf with h|h|h;exact .inl h;exact jx.cX.iA dk (nX.mem h);exact jx.cX.live (hh0 _ h)
  have l2:live K2.N x2:=by rcases lY with h|h|h;exact .inl h;exact jx.cX.iA dk h;exact jx.cX.live (hh0 _ h)
  have n2:=jx.cX.n;have sO:ite S2 ⟨v',x1,x2⟩=uk t S0 (l3 q):=by
   funext x
   unfold aA.ite;rw[e1,FX,ec,ec]
   conv=>rhs;rw[<-an.ir x v']
   simp only;cases x.testBit v'<;>rfl
  obtain⟨m2,sQ,VR⟩:=jx.kn;have hkl:∀y∈m2,live K2.N y.2:=λy hy=>by
   rcases(VR y hy).2 with h|h|h
   ·exact .inl h
   ·exact jx.cX.iA dk h
   exact jx.cX.live (hh0 _ h)
  by_cases hx:x1=x2
  ·subst hx;refine aa.eq (GO x1 v' _) (Ext.two λJ hJ=>(ae.gI (Br.T (Ld.q ?_))));refine ax.q ?_;refine aE.Mr (ke:=kq) (k:=q) (vr:=Pc) (x:=x1) vS qq AZ sQ rfl λes' bB he=>⟨_,.tail (.tail (.tail (.tail (.tail (.tail (.tail ((c8.head _).cc LB))))))),?_⟩;refine JE.mk (hJ _ λgs=>?_);have hr:S2 x1=uk t S0 (l3 q):=by
    rw[<-sO]
    funext x
    unfold aA.ite;split<;>rfl
   have v7:x1<2\/x1∈fU\/K0.hold x1=65535:=lY;exact aM.mk (.skip (.skip .tail)) ⟨K2,S2,fU,es',bB,vm2,CM2,C2,rfl,⟨jx.ks,jx.cX,jx.mde,_,he,λy hy=>(nO hy).elim (λe=>by rw[e];exact⟨hr,v7⟩) (λhy=>VR y hy)⟩,ya.Mf zO,.inl ⟨x1,rfl,hr,v7⟩⟩
  have zf:cE (uk t S0 (l3 q)) (ord.getD (lv ah v') 0):=by
   rw[Nx];refine xaK λhno=>hx ?_;refine dk.ok.wf.same dk.ok.lv aci l1 l2 λx=>?_;rw[e1,FX,ec,ec];exact(cM hno x false).trans (cM hno x true).symm
  have b1':=dk.ok.below dk.od (l:=lv ah v'+1) l1 zO (by rw[e1];exact i1);have b2':=dk.ok.below dk.od (l:=lv ah v'+1) l2 zO (by rw[FX];exact i2);have Sg:∀g,aG K0.n ord (λg=>g=ite S2 ⟨v',x1,x2⟩) g->U g:=by rw[sO];exact hU
  refine aa.fq (args:=#[ptr bw,iv (v':Int),u32 x1,u32 x2]) (To dk (v:=v') (by rw[n2];exact hv.lt) l1 l2 hx ⟨by omega,by omega⟩ jx.mde (by have:=jx.cX.ru dk;omega)) ?_;rintro w H (⟨r,K3,S3,C3,vm3,CM3,rfl,rfl,j9,mk,Wa⟩|⟨rfl,rfl,Zt,hT⟩|⟨r,rfl,rfl,hlr,Pu,hfull,Gk⟩)
  ·refine Ext.two λJ hJ=>(ae.gI (Br.T (Ld.q ?_)));refine ax.q ?_;refine aE.Mr (ke:=kq) (k:=q) (vr:=Pc) (x:=r) vS qq AZ sQ rfl λes' bB he=>⟨_,.tail (.tail (.tail (.tail (.tail (.tail (.tail ((c8.head _).cc LB))))))),?_⟩;refine JE.mk (hJ _ λgs=>?_);have hr:S3 r=uk t S0 (l3 q):=mk.is.trans sO;have qs:2<=r:=xc3 λh=>by
    obtain⟨x,hx⟩:=zf;apply hx;rw[<-hr];have Zl:=j9.ok.mid.int;have:r=0\/r=1:=by omega
    rcases this with rfl|rfl
    ·rw[Zl.zero,Zl.zero]
    rw[Zl.one,Zl.one]
   have j4:=jx.cX.step dk mk qs Sg;have EI:gz K2 S2 fU K3 S3 (fU++[r]) 1:=⟨mk.N,mk.fn,[r],rfl,xag _⟩;have v7:r<2\/r∈fU++[r]\/K0.hold r=65535:=.inr (.inl zI);refine aM.mk (.skip (.skip .tail)) ⟨K3,S3,fU++[r],es',bB,vm3,CM3,C3,rfl,⟨⟨[],j9,.inl rfl⟩,j4,Wa,_,he,λy hy=>(nO hy).elim (λe=>by rw[e];exact⟨hr,v7⟩) (λhy=>?_)⟩,(ya.trans EI).Mf zO,.inl ⟨r,rfl,hr,v7⟩⟩;obtain⟨k1,k2⟩:=VR y hy;exact⟨by rw[EI.fn y.2 (hkl y hy),k1],k2.imp id (Or.imp EI.mem id)⟩
  ·refine Ext.two λJ hJ=>(ae.gI (Br.F (JE.mk (hJ _ λgs=>?_))));refine aM.mk (.skip (.skip .tail)) ⟨K2,S2,fU,gV,iE,vm2,CM2,C2,rfl,jx,ya.Mf zO,.inr ⟨rfl,?_⟩⟩;rintro⟨ku,RL,hfit⟩;have:=dk.ok.roomFor dk.od RL (by rw[jx.cX.cap];exact hfit) (by rw[n2];exact jx.cX.U) (d:=⟨v',x1,x2⟩) l1 l2 hx (by rw[n2];exact hv.lt) ⟨by show lv ah v'<dep K2.n (lv ah) K2.N x1;omega,by show lv ah v'<dep K2.n (lv ah) K2.N x2;omega⟩ (Sg _ (by rw[sO];exact oC sP gR zf)) hT;omega
  refine Ext.two λJ hJ=>(ae.gI (Br.T (Ld.q ?_)));refine ax.q ?_;refine aE.Mr (ke:=kq) (k:=q) (vr:=Pc) (x:=r) vS qq AZ sQ rfl λes' bB he=>⟨_,.tail (.tail (.tail (.tail (.tail (.tail (.tail ((c8.head _).cc LB))))))),?_⟩;refine JE.mk (hJ _ λgs=>?_);have hr:S2 r=uk t S0 (l3 q):=Gk.trans sO;have v7:r<2\/r∈fU\/K0.hold r=65535:=.inr (jx.cX.full hfull);exact aM.mk (.skip (.skip .tail)) ⟨K2,S2,fU,es',bB,vm2,CM2,C2,rfl,⟨jx.ks,jx.cX,jx.mde,_,he,λy hy=>(nO hy).elim (λe=>by rw[e];exact⟨hr,v7⟩) (λhy=>VR y hy)⟩,ya.Mf zO,.inl ⟨r,rfl,hr,v7⟩⟩
end
section
variable {kp bw:Nat} {vl vm:zV} {K:Kd} {S:Nat->aA.Fn} {ord ah tr:zL} {C:Hp}
theorem Ab{Y:Hp}{vr:zV}{refs:zL}(hK:cf kp K S ord ah tr C)(hr:dz .u32 Y vr (iw refs))(hl:∀r∈refs,live K.N r)(cJ:refs.length<=1048576):
  Fc zQ 177 #[ptr kp,vr] (Y++C) (λw H=>∃bw vl CL lvl,w=.tuple #[ptr bw,iv 0]/\H=gA bw kp vl (.slice none 0 0)::(CL++(Y++C))/\aN 3 .i64 vl (iw lvl) CL/\lvl.length=K.n/\∀v,v<K.n->lvl.getD v 0=lv ah v):=by
 have hn:K.n<=64:=hK.bc.lz;have mS:=hK.od;refine aF λg=>JM (ae.aH (Br.no (hr.bP ?_)));rw[ak];refine⟨λvs H=>∃i:Nat,vs=[iv (i:Int)]/\i<=refs.length/\H=Y++C,λvs _=>refs.length-bL vs 0,JE.mk ⟨0,rfl,xaN _,rfl⟩,?_⟩;rintro w7 H ⟨i,⟨⟩,hi,rfl⟩ gs;refine ae.fk (Br.dec (λhlt=>?_) (λhlt=>?_))
 ·have hlr:=hl _ (xaF hlt);refine hr.ld (n:=((refs[i]:Nat):Int)) (cQ (xaa hlt)) (λ_ h=>xae _ h) ?_;refine aa.eq (args:=#[ptr kp,u32 refs[i]]) (iS hK.rep (by have:=hK.bK hlr;omega)) ?_;rw[bX.2 hlr];refine Ext.two λb15 _=>(St.whole (r:=got K.N refs[i]) (by exact .head _) rfl (aQ _ _).1 (aQ _ _).2 ?_);exact ae.cD (Br.F (ae.inc (aC.of .tail ⟨i+1,rfl,hlt,rfl⟩ (by simp only[bL];omega))))
 refine aa.eq (gO hK.rep) (cW.ints zO zO λbl=>?_);refine Build.mk (cs:=[ptr kp,.slice (some ⟨bl,0,none⟩) K.n K.n,.slice none 0 0]) zK λbw _=>?_;refine aa.fq (yZ hK.rep) ?_;rintro vo H ⟨N,rfl,ho⟩;refine ho.bP ?_;rw[ak,mS.len];have hz:List.replicate K.n (0:Int)=iw (List.replicate K.n 0):=by simp[iw]
 have hm:=aN.made (T:=3) (kd:=.i64) (b:=bl) (iw (List.replicate K.n 0));rw[ak,xdW]at hm;rw[hz];generalize hvl:Value.slice (some ⟨bl,0,none⟩) K.n K.n=vl at*;refine⟨λvs H=>∃(i:Nat) (L:zL) (CL:Hp),vs=[iv (i:Int)]/\i<=K.n/\H=gA bw kp vl (.slice none 0 0)::(CL++(Y++(N++C)))/\aN 3 .i64 vl (iw L) CL/\L.length=K.n/\∀j,j<i->L.getD (ord.getD j 0) 0=j,λvs _=>K.n-bL vs 0,
  JE.mk ⟨0,_,_,rfl,xaN _,rfl,hm,by simp,λj hj=>absurd hj (xcQ _)⟩,?_⟩
 rintro w34 H ⟨i,L,CL,⟨⟩,hi,rfl,hL,hLl,hLo⟩ gs;refine ae.fk (Br.dec (λhlt=>?_) (λhlt=>?_))
 ·have oV:=(mS.bc i hlt).1;refine ho.ld (x:=((ord.getD i 0:Nat):Int)) (bH (by rw[mS.len];exact hlt)) (λ_ h=>.tail _ (xab _ (xab _ (xae _ h)))) (Ld.n ?_);refine hL.nt (x:=(i:Int)) (.cons .left) (by rw[ak];omega) λCL' hL'=>?_;rw[fm]at hL';refine ae.inc (aC.mk ⟨i+1,L.set (ord.getD i 0) i,CL',rfl,hlt,rfl,hL',by simp[hLl],λj hj=>?_⟩ (by simp only[bL];omega));by_cases e:j=i
  ·subst e;rw[xap,xbK zO];rfl
  have hj':j<i:=by omega
  have hne:ord.getD i 0≠ord.getD j 0:=λh=>by
   have a:=(mS.bc i hlt).2;have b:=(mS.bc j zO).2;rw[h,b]at a;exact e a
  rw[xap,xbI hne,<-xap,hLo j hj']
 obtain rfl:i=K.n:=by omega
 refine aM.mk (.cons (.cU (.cU .right _) _)) ⟨bw,vl,CL,L,rfl,rfl,hL,hLl,λv hv=>?_⟩;have h1:=hLo (lv ah v) (hK.ok.lv.lt v hv);rwa [mS.of hK.ok.lv hv]at h1
structure L7(K K':Kd)(made:zL)(x:Nat)(ok:Bool):Prop where
 n:K'.n=K.n
 cap:K'.cap=K.cap
 N:∀s d,K'.N s=some d->K.N s=some d
 hold:∀s,K'.hold s+made.count s=K.hold s+if ok=true/\s=x/\2<=x then 1 else 0
theorem WK{X CM:Hp}{made:zL}{x:Nat}{ok fu:Bool}(hK:cf kp K S ord ah tr C)(hM:aN 110 .u32 vm (iw made) CM)(hc:∀s,made.count s<=K.hold s)(h2:∀s∈made,2<=s)(Ps:∀s∈made,s<4294967296)(hx:ok=true->((x<2\/x∈made)↔fu=false))(cJ:made.length<=1099511627776):
  Fc zQ 251 #[ptr bw,u32 x,iv (if ok then 0 else 9)] (gA bw kp vl vm::(X++(CM++C))) (λw H=>∃K' C' cV,w=.tuple #[u32 (if ok&& !fu then x else 0),iv (if ok then(if fu then 8 else 0)else 9)]/\H=gA bw kp vl (.slice none 0 0)::(X++(CM++C'))/\cf kp K' S ord ah cV C'/\(cV=[]\/(cV=tr/\((ok&& !fu)=true->made≠[])))/\L7 K K' made x (ok&& !fu)):=by
 refine aF λg=>I5 (ae.dQ (b:=0) (cm.or (decide (x=1)) (λ_=>ae.dQ (b:=1) ⟨rfl,rfl⟩) zI λgs=>?_));rw[<-xa8];refine Ld.n (hM.bP ?_);rw[ak];refine⟨λvs H=>∃(i:Nat) (Ki:Kd) (Ci:Hp) (W3:zL) (kept:Bool),vs=[.bool kept,iv (i:Int)]/\i<=made.length/\H=gA bw kp vl vm::(X++(CM++Ci))/\cf kp Ki S ord ah W3 Ci/\(W3=[]\/W3=tr)/\Ki.n=K.n/\Ki.cap=K.cap/\(∀s d,Ki.N s=some d->K.N s=some d)/\
   (∀s,Ki.hold s+(made.take i).count s=K.hold s+if kept=true/\s=x/\2<=x then 1 else 0)/\(x<2->kept=true)/\(kept=true->x<2\/(ok=true/\x∈made.take i))/\(ok=true->x∈made.take i->kept=true),λvs _=>made.length-bL vs 1,
  JE.mk ⟨0,K,C,tr,_,rfl,xaN _,rfl,hK,.inr rfl,rfl,rfl,λ_ _ h=>h,λs=>?_,λh=>xal zO,λh=>.inl (by have:=xcd h;omega),λ_ h=>by simp at h⟩,?_⟩
 ·rw[List.take_zero,xdJ,xac (λh=>by have:=xcd h.1;omega)]
 rintro w13 w14 H ⟨i,Ki,Ci,W3,kept,⟨⟩,hi,rfl,hKi,VC,hn,hcap,hN,hh,uh,rJ,pI⟩ gs;refine ae.fk (Br.dec (λhlt=>?_) (λhlt=>?_))
 ·intro J hJ;have nv:made.take (i+1)=made.take i++[made[i]]:=xa9 hlt;have hfm:made[i]∈made:=xaF hlt;have l7:(made.take i).count made[i]+1<=made.count made[i]:=by
   have h1:=(xdO (i+1) made).count_le made[i];rw[nv,xbi,List.count_singleton_self]at h1;exact h1
  refine hM.ld (x:=((made[i]:Nat):Int)) (cQ (xaa hlt)) (λ_ h=>.tail _ (xab _ (xae _ h))) ?_;generalize hf:made[i]=f at*;refine ae.dQ (cm.and (!kept) (λ_=>Un.not ⟨rfl,rfl⟩) zI λgs=>?_);refine cm.and ok (λ_=>ae.gI ⟨rfl,by cases ok<;>rfl⟩) zI λgs=>?_;refine Br.mk (λhb=>?_) (λhb=>?_)
  ·simp only[xaD,xar,xbE]at hb;obtain⟨⟨rfl,hkf⟩,hok⟩:=hb;refine JE.mk (hJ _ _ λgs=>?_);refine ae.inc (aC.mk ⟨i+1,Ki,Ci,W3,true,rfl,hlt,rfl,hKi,VC,hn,hcap,hN,λs=>?_,λ_=>rfl,λ_=>.inr ⟨hok,by rw[nv];simp⟩,λ_ _=>rfl⟩ (by simp only[bL];omega));have h0:=hh s;rw[nv,xbi,xcG];rw[xac (λh=>by rw[hkf]at h;cases h.1)]at h0;by_cases e:s=f
   ·subst e;have:=h2 s hfm;simp[this];omega
   have:(f==s)=false:=by simpa using λe'=>e e'.symm
   simp[e,this];omega
  refine Ld.n ?_;have hhf:Ki.hold f≠0:=by
   have h0:=hh f;have:=hc f;split at h0<;>omega
  refine aa.fq (args:=#[ptr kp,u32 f]) (mV hKi (r:=f) (Ps f hfm) (λ_=>hhf)) ?_;rintro w C2 ⟨rfl,K2,dk,f2⟩;refine JE.mk (hJ _ _ λgs=>?_);refine ae.inc (aC.mk ⟨i+1,K2,C2,[],kept,rfl,hlt,rfl,dk,.inl rfl,f2.n.trans hn,f2.cap.trans hcap,λs d hd=>hN s d (f2.N s d hd),λs=>?_,uh,λh=>(rJ h).imp id (λh=>⟨h.1,by rw[nv];exact xae _ h.2⟩),λh1 h3=>?_⟩ (by simp only[bL];omega))
  ·have h0:=hh s;rw[f2.hold,nv,xbi,xcG];by_cases e:s=f
   ·subst e;have:=h2 s hfm;simp[this];omega
   have:(f==s)=false:=by simpa using λe'=>e e'.symm
   simp[e,this];omega
  rw[nv,xao,xaI]at h3;rcases h3 with h3|h3
  ·exact pI h1 h3
  subst h3;cases hkk:kept
  ·rw[hkk,h1]at hb;simp at hb
  rfl
 obtain rfl:i=made.length:=by omega
 rw[xbl]at hh rJ pI;refine Nil.ptr (ai.mk (St.one (by exact .head _) rfl zI rfl ?_));intro J hJ;refine ae.cD ?_;cases ok with
 |false=>
  refine Br.T ?_;have hE:L7 K Ki made x false:=⟨hn,hcap,hN,λs=>by
   have h0:=hh s;rw[xac (λh=>by cases h.1)];rw[xac (λh=>by
    rcases rJ h.1 with h3|h3
    ·omega
    cases h3.1)]at h0
   exact h0⟩
  refine aM.here ⟨Ki,Ci,W3,?_,rfl,hKi,VC.imp id λh=>⟨h,λh=>by cases h⟩,hE⟩;rfl
 |true=>
  have hx:=hx rfl;cases fu with
  |true=>
   have hkf:kept=false:=by
    cases hkk:kept
    ·rfl
    have:(true=false):=hx.1 ((rJ hkk).imp id λh=>h.2);cases this
   refine Br.F ?_;rw[hkf];refine Un.not (Br.yes (aM.here ⟨Ki,Ci,W3,rfl,rfl,hKi,VC.imp id λh=>⟨h,λh=>by cases h⟩,⟨hn,hcap,hN,λs=>?_⟩⟩));have h0:=hh s;rw[hkf]at h0;rw[xac (λh=>by cases h.1)]at h0⊢;exact h0
  |false=>
  have hx:=hx.2 rfl;have Dz:kept=true:=by
   rcases hx with h|h
   ·exact uh h
   exact pI rfl h
  refine Br.F ?_;rw[Dz];refine Un.not (Br.no ?_);have hE:∀K3:Kd,K3.n=Ki.n->K3.cap=Ki.cap->K3.N=Ki.N->(∀s,K3.hold s=Ki.hold s)->L7 K K3 made x true:=λK3 a1 a2 a3 a4=>⟨a1.trans hn,a2.trans hcap,by rw[a3];exact hN,λs=>by rw[a4,hh s,Dz]⟩;refine ae.dQ (b:=0) (cm.or (decide (x=1)) (λ_=>ae.dQ (b:=1) ⟨rfl,rfl⟩) zI λgs=>?_);rw[<-xa8];refine Br.dec (λND=>?_) (λND=>?_)
  ·refine Ld.n ?_;refine aa.fq (mP hKi (r:=x) (.inl zO) (λh=>by omega)) ?_;rintro w C3 ⟨rfl,K3,j9,mo⟩;refine JE.mk (hJ _ λgs=>aM.here ⟨K3,C3,[],by simp,rfl,j9,.inl rfl,hE K3 mo.n mo.cap mo.N λs=>?_⟩);rw[mo.hold,xac zO]
  refine JE.mk (hJ _ λgs=>aM.here ⟨Ki,Ci,W3,by simp,rfl,hKi,VC.imp id λh=>⟨h,λ_ hm=>?_⟩,hE Ki rfl rfl rfl λ_=>rfl⟩);rcases hx with h|h
  ·omega
  rw[hm]at h;cases h
end
theorem abe{α:Type}(a b c d e f g h:α)(L R:List α):(a::b::c::d::e::f::g::h::(L++R)).Perm (g::d::e::b::h::f::a::(L++c::R)):=by
 classical
 rw[xct];intro x;simp only[xbi,xb7];omega
def aae(kp:Nat)(K:Kd)(S:Nat->aA.Fn)(ord ah tr:zL)(f:aA.Fn)(w:zV)(H:Hp):Prop:=
 (∃x K' S',w=.tuple #[u32 x,iv 0]/\cf kp K' S' ord ah [] H/\kO K S K' S' f x)\/
 (w=.tuple #[u32 0,iv 9]/\(∃K' S' cV,cf kp K' S' ord ah cV H/\(cV=[]\/cV=tr)/\Kept K S K' S')/\¬Fits (aG K.n ord (λg=>K.held S g\/g=f)) K.cap)
def jY(kp:Nat)(K:Kd)(S:Nat->aA.Fn)(ord ah tr:zL)(f:aA.Fn)(w:zV)(H:Hp):Prop:=
 aae kp K S ord ah tr f w H\/(w=.tuple #[u32 0,iv 8]/\(∃K' S' cV,cf kp K' S' ord ah cV H/\(cV=[]\/cV=tr)/\Kept K S K' S')/\∃r,2<=r/\K.hold r=65535/\S r=f)
section
variable {kp bw:Nat} {vl fv:zV} {K:Kd} {S:Nat->aA.Fn} {ord ah tr lvl:zL} {LB CL C:Hp} {t:Bool->Bool->Bool->Bool}
theorem LV(hK:cf kp K S ord ah tr C)(EH:Bz fv LB t)(XN:aN 3 .i64 vl (iw lvl) CL)(ng:lvl.length=K.n)(hlv:∀v,v<K.n->lvl.getD v 0=lv ah v)(q:Q3)(hq:∀r∈l3 q,live K.N r){c:Nat}(hT:Tree K.n (lv ah) K.N (l3 q) c):
  Fc zQ 178 #[ptr bw,kq q,fv] (LB++(gA bw kp vl (.slice none 0 0)::(CL++C))) (jY kp K S ord ah tr (uk t S (l3 q))):=by
 have hrb:aU zQ 252=true:=by kernel_rfl
 obtain⟨fl,ahd,ama,RT,hfr⟩:=EH.is;refine aF λg=>JL λb1 _ b3 _ b5 _ b7 _ b9 _ bm _ ij _=>?_;refine St.one (by exact .head _) rfl zI rfl ?_;intro sg _;refine St.one (by exact .head _) rfl zI rfl ?_;refine Ld.q ?_;refine ax.q ?_;refine aK.of rfl hrb (aa.pre (H':=(b9,.cells #[iv 0] 27 zZ)::(b7,.cells #[.int .u32 0] 110 zZ)::XO ij b1 b5 sg bm bw kp fv vl (.slice none 0 0) LB CL [] C #[] 0) ?_ ?_)
 ·rw[RT];exact(aL.perm (abe _ _ _ _ _ _ _ _ _ _)).trans .tail
 have mS:=hK.od;have j8:=hK.ok.wf;have jI:=hK.ok.lv;have pw:=hK.ok.mid.int;have hS:Stp kp K S (aG K.n ord (λg=>K.held S g\/g=uk t S (l3 q))) ord ah tr t K S [] #[] 0 (.slice none 0 0) [] C:=
  ⟨⟨tr,hK,.inr ⟨rfl,rfl⟩⟩,.refl λg hg=>cI (λg h=>.inl h) hg,aN.nil,[],aE.empty,λy hy=>by cases hy⟩
 refine aa.fq (args:=#[kq q,ptr ij,ptr b1,ptr b5,ptr sg]) (ZN hrb EH XN ng hlv hK.bc.lz j8 pw jI (λr hr=>by have:=hK.bK hr;omega) (λs hs=>.inr (hK.ok.mid.held s zO)) (Yc:=tr) (l3 q) c hT q rfl K S [] #[] 0 (.slice none 0 0) [] C hS hq (λg hg=>cI (λg h=>.inr h) hg)) ?_;rintro w H ⟨K1,S1,made,es,ck,vm,CM,C1,rfl,EG,hA,Sb⟩;obtain⟨W4,fc,VD⟩:=EG.ks;have j4:=EG.cX;have hmx:=j4.ru fc;have afR:∀s∈made,s<4294967296:=λs hs=>by have:=fc.bK (j4.iA fc hs);omega
 have hmc:∀s,made.count s<=K1.hold s:=λs=>by rw[j4.hold];omega
 have fin:∀(x:Nat) (ok fu:Bool),w=.tuple #[u32 (if ok then x else 0),iv (if ok then 0 else 9)]->(ok=true->((x<2\/x∈made)↔fu=false))->(∀K2 C2 qQ,cf kp K2 S1 ord ah qQ C2->(qQ=[]\/(qQ=W4/\((ok&& !fu)=true->made≠[])))->L7 K1 K2 made (if ok then x else 0) (ok&& !fu)->jY kp K S ord ah tr (uk t S (l3 q)) (.tuple #[u32 (if ok&& !fu then(if ok then x else 0)else 0),iv (if ok then(if fu then 8 else 0)else 9)]) C2)->(ok=false->x=0)->
   Ext 0 w λv23=>Ext 1 w λv24=>St 1 ((b9,.cells #[iv 0] 27 zZ)::(b7,.cells #[.int .u32 0] 110 zZ)::XO ij b1 b5 sg bm bw kp fv vl vm LB CL CM C1 es ck) (ptr b7) v23 λH25=>St 1 H25 (ptr b9) v24 λH26=>
   jZ zQ g 250 #[ptr b1,ptr b7,ptr b9] H26 λH27=>Ld H27 (ptr b7) λv28=>Ld H27 (ptr b9) λv29=>aM (jY kp K S ord ah tr (uk t S (l3 q))) (.returned (.tuple #[v28,v29])) H27:=by
  intro x ok fu hw hx hd h0;subst hw;refine Ext.two (St.one (by exact .tail (.head _)) rfl zI rfl ?_);refine St.one (by exact .head _) rfl zI rfl ?_;refine Et (R:=_) ?_;unfold L250;refine Ld.q ?_;refine Ld.q ?_;refine Ld.q ?_;refine aa.fq (WK (X:=CL) (x:=if ok then x else 0) (ok:=ok) (fu:=fu) fc EG.mde hmc j4.two afR (λh=>by rw[xad h];exact hx h) zO) ?_;rintro w H ⟨K2,C2,qQ,rfl,rfl,dk,rE,hE⟩;refine Ext.two (St.one (by exact .tail (.head _)) rfl zI rfl ?_);refine St.one (by exact .head _) rfl zI rfl ?_;refine⟨⟨_,rfl⟩,?_⟩;refine Ld.q ?_;refine Ld.q ?_;exact aM.mk (.skip (.skip (.skip (.skip (.skip (.skip (aL.right.trans (.skip (.skip (aL.right.trans .right)))))))))) (hd K2 C2 qQ dk rE hE)
 have rG:∀s,K.hold s≠0->live K.N s:=λs hs=>.inr (hK.ok.mid.held s hs);rcases Sb with⟨x,rfl,hx,hxm⟩|⟨rfl,hno⟩
 ·by_cases hxk:x<2\/x∈made;rotate_left
  ·have FX:2<=x:=by omega
   have hfull:K.hold x=65535:=by
    rcases hxm with h|h|h
    ·exact absurd (.inl h) hxk
    ·exact absurd (.inr h) hxk
    exact h
   refine fin x true true rfl (λ_=>⟨λh=>absurd h hxk,λh=>by cases h⟩) (λK2 C2 qQ dk rE hE=>.inr ⟨rfl,⟨K2,S1,qQ,dk,?_,?_⟩,x,FX,hfull,?_⟩) (λh=>by cases h)
   ·rcases rE with h|⟨h,_⟩
    ·exact .inl h
    rcases VD with h2|⟨h2,_⟩
    ·exact .inl (h.trans h2)
    exact .inr (h.trans h2)
   ·have fV:∀s,K2.hold s=K.hold s:=λs=>by
     have a:=hE.hold s;have b:=j4.hold s;rw[xac (λh=>by cases h.1)]at a;omega
    refine⟨hE.n.trans j4.n,hE.cap.trans j4.cap,fV,λg=>?_,λr hr=>j4.fn r (rG r hr)⟩;constructor
    ·rintro⟨s,hs,rfl⟩;have hs':K.hold s≠0:=by rw[<-fV];exact hs
     exact⟨s,hs',j4.fn s (rG s hs')⟩
    rintro⟨s,hs,rfl⟩;exact⟨s,by show K2.hold s≠0;rw[fV];exact hs,(j4.fn s (rG s hs)).symm⟩
   rw[<-hx];exact(j4.fn x (rG x zO)).symm
  refine fin x true false rfl (λ_=>⟨λ_=>rfl,λ_=>hxk⟩) (λK2 C2 qQ dk rE hE=>.inl (.inl ⟨x,K2,S1,rfl,?_,?_⟩)) (λh=>by cases h)
  ·have:qQ=[]:=by
    rcases rE with h|⟨h,h'⟩
    ·exact h
    rcases VD with h2|⟨_,h2⟩
    ·rw[h,h2]
    exact absurd h2 (h' rfl)
   rw[this]at dk;exact dk
  have fV:∀s,K2.hold s=K.hold s+if s=x/\2<=x then 1 else 0:=λs=>by
   have a:=hE.hold s;have b:=j4.hold s;simp only[xcq,xdS,xa7,xcT]at a;omega
  have hl:live K2.N x:=by
   by_cases h2:x<2
   ·exact .inl h2
   refine .inr (dk.ok.mid.held x ?_);rw[fV,xad ⟨rfl,by omega⟩];omega
  exact⟨hE.n.trans j4.n,hE.cap.trans j4.cap,λs d hs=>jR hK.ok dk.ok (λs h=>by rw[fV];omega) (λs d d' h h'=>by
   have a:=hE.N s d' h';rw[j4.N s d h]at a;exact(xbp a).symm) _ s d hs (xag _),λs hs=>j4.fn s hs,hl,hx,fV⟩
 refine fin 0 false false rfl (λh=>by cases h) (λK2 C2 qQ dk rE hE=>.inl (.inr ⟨rfl,⟨K2,S1,qQ,dk,?_,?_⟩,hno⟩)) (λ_=>rfl)
 ·rcases rE with h|⟨h,_⟩
  ·exact .inl h
  rcases VD with h2|⟨h2,_⟩
  ·exact .inl (h.trans h2)
  exact .inr (h.trans h2)
 have fV:∀s,K2.hold s=K.hold s:=λs=>by
  have a:=hE.hold s;have b:=j4.hold s;rw[xac (λh=>by cases h.1)]at a;omega
 refine⟨hE.n.trans j4.n,hE.cap.trans j4.cap,fV,λg=>?_,λr hr=>j4.fn r (rG r hr)⟩;constructor
 ·rintro⟨s,hs,rfl⟩;have hs':K.hold s≠0:=by rw[<-fV];exact hs
  exact⟨s,hs',j4.fn s (rG s hs')⟩
 rintro⟨s,hs,rfl⟩;exact⟨s,by show K2.hold s≠0;rw[fV];exact hs,(j4.fn s (rG s hs)).symm⟩
end
end
end Go.Proofs
namespace Go.Sx
open Go
section
variable {P:Program} {g:Gh}
theorem Build.three{t e:TypeId}{q:IntKind}{x y z:Int}{K:zV->Prop}(ht:P.underlying t=some (.array 3 e))(hz:dO P e=some 1)(h0:fS P t=some (.agg (av q [0,0,0])))(h:K (.agg (av q [x,y,z]))):
  Build P t [(0,.int q x),(1,.int q y),(2,.int q z)] K:=by
 refine⟨_,λw=>?_,h⟩;obtain⟨i,hi,hs⟩:=bF hz;obtain⟨i0,F9,Xl⟩:=cH h0;simp only[Instr.build,Sem.run_bind,dU F9 Xl,Result.andThen_ok,run_underlying ht,run_sizeOf hi,hs];simp[Instr.fill,Value.cells,av]
theorem Build.aa3{t e:TypeId}{q:IntKind}{x y:Int}{K:zV->Prop}(ht:P.underlying t=some (.array 3 e))(hz:dO P e=some 1)(h0:fS P t=some (.agg (av q [0,0,0])))(h:K (.agg (av q [x,y,0]))):
  Build P t [(0,.int q x),(1,.int q y)] K:=by
 refine⟨_,λw=>?_,h⟩;obtain⟨i,hi,hs⟩:=bF hz;obtain⟨i0,F9,Xl⟩:=cH h0;simp only[Instr.build,Sem.run_bind,dU F9 Xl,Result.andThen_ok,run_underlying ht,run_sizeOf hi,hs];simp[Instr.fill,Value.cells,av]
end
end Go.Sx
