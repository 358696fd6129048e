import Derived.Test.YtflhdclplgjbbaaGreatM2
import Derived.Sort.AssemblyPlain
import Derived.Test.YtflhdclplgjbbaaGreatM1
import Derived.Test.YtflhdclplgjbbaaGreatProg
import Derived.RangeFuncIn
import Derived.RangeFuncLeaves
import Derived.RangeFuncRecord
import Derived.RangeFuncSeq
set_option linter.defProp false
set_option linter.unusedVariables false
set_option linter.unusedSimpArgs false
set_option linter.unusedSectionVars false
set_option maxRecDepth 100000
namespace Go.Proofs
open Go Go.Sx Tryz
section
open ax
section
variable {kp:Nat} {K:Kd} {θ ai tr:zL} {C:Hp} {S:Nat->ax.Fn}
def XX(B:Hp)(v:Int)(r:Nat)(kv:zV):Rd zQ 202 #[kv,iv v,δ r,δ r] B (· =δ r):=by exact aJ λg=>rj (ah.fc (Br.T (br.mk (.refl _) rfl)))
theorem XZ(h:cX kp K θ ai tr C){v lo hi r:Nat}(ξ:lo≠hi)(hv:v<K.n)(hT:K.T ⟨v,lo,hi⟩=some r):
  Rd zQ 202 #[γ kp,iv (v:Int),δ lo,δ hi] C (· =δ r):=by
 obtain⟨b,rfl,hO⟩:=h;refine aJ λg=>rj (ah.fc (Br.Ut ξ (Build.mk (cs:=bB ⟨v,lo,hi⟩) zK ?_)));intro b3 _;refine St.p (λx hx=>by simp[bB,δ]at hx;rcases hx with rfl|rfl|rfl<;>rfl) ?_;refine DR.self (Nil.γ (Ld.f ?_));refine aB.q ?_;refine ae.eq (vk (d:=⟨v,lo,hi⟩) hO.ut hv) ?_;rw[hT];exact⟨.refl _,Ext.mk rfl (Ext.mk rfl (Br.yes (br.mk .tail rfl)))⟩
theorem XY(h:cX kp K θ ai tr C){d:Nd}(ξ:d.lo≠d.hi)(hd:NOk K.N d)(hv:d.v<K.n)(hT:K.T d=none)(hroom:K.used<K.cap)(hlo:d.lo<2\/d.lo<K.us.length)(hhi:d.hi<2\/d.hi<K.us.length)
 (hb:∀s,K.use s+2<2147483648):
  Fc zQ 202 #[γ kp,iv (d.v:Int),δ d.lo,δ d.hi] C (λv C'=>∃r dG cA,v=δ r/\K.N r=none/\2<=r/\r<K.cap/\dG.length=cA.length/\r<dG.length/\K.us.length<=dG.length/\dG.getD r 0=0/\
   (∀s,2<=s->s≠r->dG.getD s 0=K.use s+e1 (some d) s)/\(∀s,s<2->dG.getD s 0=K.use s)/\cA.getD r 0=0/\(∀s,s≠r->cA.getD s 0=K.hold s)/\
   cX kp {K with N:=up K.N r (some d),T:=rA K.T d (some r),used:=K.used+1,us:=dG,ho:=cA} θ ai tr C'):=by
 have h0:=h;obtain⟨b,rfl,hO⟩:=h;refine aJ λg=>rj (ah.fc (Br.Ut ξ (Build.mk (cs:=bB d) zK ?_)));intro b3 _;refine St.p (λx hx=>by simp[bB,δ]at hx;rcases hx with rfl|rfl|rfl<;>rfl) ?_;refine DR.self (Nil.γ (Ld.f ?_));refine aB.q ?_;refine ae.eq (vk (d:=d) hO.ut hv) ?_;rw[hT];refine⟨.refl _,Ext.mk rfl (Ext.mk rfl (Br.no ?_))⟩;refine aB.q ?_;refine ae.fq (KX h0 hd hv hT hroom hlo hhi hb) ?_;rintro v C' ⟨r,dG,cA,rfl,hh⟩;exact aQ.mk .tail ⟨r,dG,cA,rfl,hh⟩
structure yU(K' K:Kd):Prop where
 N:∀{s d},K'.N s=some d->K.N s=some d
 n:K'.n=K.n
 cap:K'.cap=K.cap
 ho:K'.ho=K.ho
 us:∀s,K'.use s<=K.use s
 idle:(∀s,K.N s=none->K.use s=0)->∀s,K'.N s=none->K'.use s=0
def yU.refl(K:Kd):yU K K:=⟨λh=>h,rfl,rfl,rfl,λ_=>xai _,λh=>h⟩
def yU.trans{A B C:Kd}(h:yU A B)(h':yU B C):yU A C:=⟨λx=>h'.N (h.N x),h.n.trans h'.n,h.cap.trans h'.cap,h.ho.trans h'.ho,λs=>xbT (h.us s) (h'.us s),λhi=>h.idle (h'.idle hi)⟩
def PL(P:Nat->Nat)(N:eM):Prop:=∀t,2<=t->0<P t->∃d,N t=some d
def ig(P0:Nat->Nat)(l:zL):Nat->Nat:=λs=>P0 s+l.count s
def OO{P0:Nat->Nat}{l:zL}{t:Nat}:up (ig P0 (l++[t])) t (ig P0 (l++[t]) t-1)=ig P0 l:=by
 funext s
 unfold up ig;split
 ·rename_i e;subst e;simp
 rename_i e;simp[xbf,xcN,xa9 e]
theorem m4{P0:Nat->Nat}(h:cX kp K θ ai tr C){r:Nat}(hm:j9 K S iZ (ig P0 [r]))(hp:Pos K)(hl:PL (ig P0 [r]) K.N)(hr:r<1048576)(hbu:∀s,K.use s<2147483648):
  Fc zQ 122 #[γ kp,δ r] C (λv C'=>v=.tuple #[]/\∃K',cX kp K' θ ai tr C'/\j9 K' S iZ P0/\Pos K'/\PL P0 K'.N/\yU K' K):=by
 refine aJ λg=>Km (aq.int (e:=78) zK zK zK λbx=>?_);refine adh (λk vs H=>∃(w:zV) (Ct C':Hp) (todo:zL) (K':Kd),vs=[w]/\H=Ct++C'/\aL 78 .u32 w (iw todo) Ct/\cX kp K' θ ai tr C'/\j9 K' S iZ (ig P0 todo)/\Pos K'/\PL (ig P0 todo) K'.N/\yU K' K/\(∀t∈todo,t<1048576)/\k=3*K'.used+todo.length/\k<=3*K.used+1)
  _ ⟨_,[_],C,[r],K,rfl,rfl,aL.made [(r:Int)],h,hm,hp,hl,.refl K,by simpa using hr,rfl,by simp⟩ ?_
 rintro w H hJ gs;obtain⟨k,⟨w',Ct,C',todo,K',hw,rfl,ht,hK,hM,TU,QL,qq,hT,hk,hkb⟩,hkm⟩:=hJ.open;simp only[xaw,xaW]at hw;subst hw;refine ht.bL ?_;rw[av];refine ah.nV (b:=0) (Br.dec (λhpos=>?_) (λhpos=>?_))
 ·have hc1:=hm.cap;obtain⟨pre,t,rfl⟩:∃pre t,todo=pre++[t]:=⟨todo.dropLast,todo.getLast (by intro e;simp[e]at hpos),(xeo _).symm⟩;have htl:(pre++[t]).length=pre.length+1:=by simp
  have ht1:=hT t zI;refine ht.bL ?_;rw[av,htl];refine ah.yp (b:=1) ?_ zO ?_
  ·simp[bI];omega
  rw[xcc];refine ht.ld (i:=pre.length) (x:=(t:Int)) (by rw[cH];simp[iw]) (bE.sub .left) (ht.cut (i:=pre.length) zI λw' ht'=>?_);have Y7:aL 78 .u32 w' (iw pre) Ct:=by
   rw[cH,xeK zI]at ht';exact ht'
  have hTp:∀s∈pre,s<1048576:=λs hs=>hT s (xad _ hs);refine ah.By (b:=1) (Br.dec (λh1=>?_) (λh1=>?_))
  ·have hc:∀s,2<=s->ig P0 (pre++[t]) s=ig P0 pre s:=λs hs=>by
    unfold ig;rw[xbf,xcN];simp;omega
   exact pe.back (.refl _) hkm (3*K'.used+pre.length) ⟨w',Ct,C',pre,K',rfl,rfl,Y7,hK,hM.congr (λ_=>xcZ) hc,TU,λs hs h0=>QL s hs (by rw[hc s hs];exact h0),qq,hTp,rfl,by simp at hk;omega⟩ (by rw[hk];simp)
  have hPt:0<ig P0 (pre++[t]) t:=by unfold ig;simp;omega
  obtain⟨d,hd⟩:=QL t zO hPt;have hfit:=hM.fit hd;have hpo:=TU t d hd;obtain⟨b,rfl,hO⟩:=hK;refine Nil.γ (Ld.f ?_);refine hO.us.ld (x:=((K'.use t:Nat):Int)) (bM hfit) (bE.sub (.app (.cons (.app (.app .left))))) (ah.yp (b:=1) ?_ zO ?_)
  ·have:=qq.us t;have:=hbu t;simp[bI];omega
  refine hO.us.mh (x:=((K'.use t-1:Nat):Int)) (.app (.cons (.app (.app .left)))) (by simpa using hfit) λVT BF=>?_;rw[fA]at BF;have g1:∀s,(K'.us.set t (K'.use t-1)).getD s 0=if s=t then K'.use t-1 else K'.use s:=λs=>ia hfit
  have Ot:=hM.less (r:=t) (dG:=K'.us.set t (K'.use t-1)) hPt zI (by rw[g1,xae rfl];omega) (λs hs=>by rw[g1,xac hs]);rw[OO]at Ot;have Zp:abP {b with CU:=VT} {K' with us:=K'.us.set t (K'.use t-1)} θ ai tr:={hO with us:=BF,ul:=by simp;exact hO.ul};have TV:yU {K' with us:=K'.us.set t (K'.use t-1)} K:=⟨qq.N,qq.n,qq.cap,qq.ho,λs=>by
   show(K'.us.set t (K'.use t-1)).getD s 0<=_;rw[g1];have:=qq.us s;split
   ·rename_i e;subst e;omega
   ·exact this,λhi s hs=>by
   show(K'.us.set t (K'.use t-1)).getD s 0=0;have μ:K'.N s=none:=hs;rw[g1,xac (λe=>by subst e;rw[hd]at μ;cases μ)];exact qq.idle hi s μ⟩
  have aeF:PL (ig P0 pre) K'.N:=λs hs h0=>QL s hs (by unfold ig at h0⊢;rw[xbf];omega);refine Nil.γ (Ld.f ?_);refine BF.ld (x:=((K'.use t-1:Nat):Int)) (by rw[<-fA];simp[hfit]) (bE.sub (.app (.cons (.app (.app .left))))) ?_;refine ah.nV (b:=0) (Br.dec (λh3=>?_) (λh3=>?_))
  ·refine pe.back (.refl _) hkm (3*K'.used+pre.length) ⟨w',Ct,_,pre,_,rfl,rfl,Y7,⟨_,rfl,Zp⟩,Ot,λs e hs=>?_,aeF,TV,hTp,rfl,by simp at hk;omega⟩ (by rw[hk];simp);show 0<(K'.us.set t (K'.use t-1)).getD s 0;rw[g1];split
   ·exact h3
   exact TU s e hs
  have hu0:K'.use t=1:=by omega
  have dR:cX kp {K' with us:=K'.us.set t (K'.use t-1)} θ ai tr (({b with CU:=VT}:uW).hp kp K'.n):=⟨_,rfl,Zp⟩;refine ae.eq (oz dR zO) ?_;have TY:2<=t:=by omega
  have ahY:got K'.N t=bB d:=eo hd TY;show O7 _ _ _;intro b32 _;rw[ahY];refine St.p (λx hx=>by simp[bB,δ]at hx;rcases hx with rfl|rfl|rfl<;>rfl) ?_;refine DR.self (Nil.γ (Ld.f ?_));refine aB.q ?_;have hTd:K'.T d=some t:=(hM.kK d t).2 ⟨hd,λh=>h⟩;refine ae.fq (zh Zp.ut (hM.var hd) hTd) ?_;rintro v CT' ⟨rfl,hut⟩;refine Nil.γ (Ld.f ?_);refine ae.fq (U8 Zp.ar ⟨d,hd⟩ TY) ?_;rintro v CA' ⟨rfl,har⟩;refine Ld.f ?_;refine Ld.f ?_;refine aq.SH (e:=78) zK zK zK λbz=>?_;refine Y7.E3 (.cons (.cons .left)) (di.block (l:=[(d.lo:Int),(d.hi:Int)]) (by exact .head _) zI) (by simp at hk⊢;omega) (by simp at hk⊢;omega) λw2 Ct2 SX=>?_;have e0:iw pre++[(d.lo:Int),(d.hi:Int)]=iw (pre++[d.lo,d.hi]):=by rw[cH];rfl
  rw[e0]at SX;have GQ:({K' with us:=K'.us.set t (K'.use t-1)}:Kd).use t=0:=by show(K'.us.set t (K'.use t-1)).getD t 0=0;rw[g1,xae rfl];omega
  have LS:=Ot.free (r:=t) (d:=d) hd (λh=>h) GQ;have hed:dB K'.N t K'.cap=0:=by have:=Ot.use hd;rw[GQ]at this;exact(by have h5:dB K'.N t K'.cap+_+_=0:=this.symm;omega)
  have fX:=kE hed t (hM.two hd).2 d hd;have aiC:ig P0 pre t=0:=by have:=Ot.use hd;rw[GQ]at this;omega
  have hroom:0<K'.used:=by have:=hM.room;omega
  have η:∀x,live K'.N x->x<1048576:=λx hx=>dR.lt hx;have mD:∀s,2<=s->ig P0 pre s+e1 (some d) s=ig P0 (pre++[d.lo,d.hi]) s:=λs _=>by
   unfold ig;rw[eJ,xbf,xca,xca,xdV];simp only[xcT];omega
  refine pe.back (.skip (.skip (.refl _))) hkm (3*(K'.used-1)+(pre++[d.lo,d.hi]).length) ⟨w2,Ct2,_,pre++[d.lo,d.hi],{K' with us:=K'.us.set t (K'.use t-1),N:=up K'.N t none,T:=rA K'.T d none,used:=K'.used-1},rfl,rfl,SX,
   ⟨{b with CU:=VT,CT:=CT',CA:=CA'},rfl,{Zp with ar:=har,ut:=hut}⟩,LS.congr (λ_=>xcZ) mD,λs e hs=>?_,λs hs h0=>?_,⟨λ{s e} hs=>?_,TV.n,TV.cap,TV.ho,TV.us,λhi s hs=>?_⟩,λs hs=>?_,rfl,by simp at hk⊢;omega⟩ (by simp at hk⊢;omega)
  ·have ξ:s≠t:=λe2=>by subst e2;have tq:up K'.N s none s=some e:=hs;rw[aR]at tq;cases tq
   show 0<(K'.us.set t (K'.use t-1)).getD s 0;rw[g1,xac ξ];have tq:up K'.N t none s=some e:=hs;rw[aT ξ]at tq;exact TU s e tq
  ·have ξ:s≠t:=λe2=>by
    subst e2;rw[<-mD s hs,aiC]at h0;rw[eJ,xac fX.1,xac fX.2]at h0;omega
   show∃e,up K'.N t none s=some e;rw[aT ξ];rw[<-mD s hs]at h0;by_cases h5:0<ig P0 pre s
   ·exact aeF s hs h5
   rw[eJ]at h0;have:d.lo=s\/d.hi=s:=by
    by_cases h6:d.lo=s
    ·exact .inl h6
    by_cases h7:d.hi=s
    ·exact .inr h7
    rw[xac h6,xac h7]at h0;omega
   rcases this with rfl|rfl
   ·rcases hM.lo hd with h8|h8
    ·omega
    exact h8
   rcases hM.hi hd with h8|h8
   ·omega
   exact h8
  ·have tq:up K'.N t none s=some e:=hs;by_cases e2:s=t
   ·subst e2;rw[aR]at tq;cases tq
   rw[aT e2]at tq;exact qq.N tq
  ·have tq:up K'.N t none s=none:=hs;show(K'.us.set t (K'.use t-1)).getD s 0=0;by_cases e2:s=t
   ·subst e2;rw[g1,xae rfl];omega
   rw[aT e2]at tq;exact TV.idle hi s tq
  rcases xao.1 hs with hs|hs
  ·exact hTp s hs
  simp at hs;rcases hs with rfl|rfl
  ·exact η _ (hM.lo hd)
  exact η _ (hM.hi hd)
 obtain rfl:todo=[]:=xbO zO;exact aQ.mk .right ⟨rfl,K',hK,hM.congr (λ_=>xcZ) (λs _=>by simp[ig]),TU,λs hs h0=>QL s hs (by simpa[ig]using h0),qq⟩
end
abbrev lv(ai:zL):Nat->Nat:=λv=>ai.getD v 0
section
variable {kp:Nat} {K:Kd} {θ ai tr:zL} {C:Hp} {S:Nat->ax.Fn}
def r6(h:cX kp K θ ai tr C)(v:Int):Rd zQ 133 #[γ kp,iv v] C (· =.bool (decide (0<=v/\v<K.n))):=by obtain⟨b,rfl,hO⟩:=h;refine aJ λg=>J4 (ah.geq (dh.and (decide (v<K.n)) (λ_=>?_) rfl λ_=>br.mk (.refl _) (by rw[xeg])));refine Nil.γ (Ld.f ?_);exact ah.lss ⟨rfl,rfl⟩
theorem z8(h:cX kp K θ ai tr C){r:Nat}(hl:live K.N r)(hv:∀d,K.N r=some d->d.v<K.n)(h01:r<2->K.N r=none):Rd zQ 212 #[γ kp,δ r] C (· =iv ((ι K.n (lv ai) K.N r:Nat):Int)):=by
 have h0:=h;have hr:=h.lt hl;obtain⟨b,rfl,hO⟩:=h;refine aJ λg=>I5 (Nil.γ (aj.mk (ae.eq (oz h0 zO) ?_)));intro b5 _;refine St.whole (r:=got K.N r) (by exact .head _) rfl (aS _ _).1 (aS _ _).2 ?_;by_cases h2:r<2
 ·rw[fS h2,aV (h01 h2)];refine Ld.f ?_;refine ah.geq (Br.no' zD (Nil.γ (Ld.f ?_)));exact br.mk .tail rfl
 obtain⟨d,hd⟩:∃d,K.N r=some d:=by rcases hl with hl|hl;omega;exact hl
 rw[eo hd zO,au hd];have kQ:=hv d hd;have Ξ:=hO.ol.2;refine Ld.f ?_;refine ah.geq (Br.VV zI (Nil.γ (Ld.f ?_)));refine Ld.f ?_;exact hO.lv.ld (x:=((ai.getD d.v 0:Nat):Int)) (bM zO) (bE.sub (.cons (.cons (.app (.app (.app (.app (.app .left)))))))) (br.mk .tail rfl)
def qu(K:Kd)(ai:zL)(v:Int)(lo hi:Nat):Int:=
 if¬(0<=v/\v<K.n)then 2 else if gL K.N lo=false\/gL K.N hi=false then 3 else if lo≠hi/\min (ι K.n (lv ai) K.N lo) (ι K.n (lv ai) K.N hi)<=ai.getD v.toNat 0 then 4 else 0
def L1(h:cX kp K θ ai tr C)(v:Int){lo hi:Nat}(hlo:lo<4294967296)(hhi:hi<4294967296)(hv:∀r d,K.N r=some d->d.v<K.n/\2<=r):
  Rd zQ 146 #[γ kp,iv v,δ lo,δ hi] C (· =iv (qu K ai v lo hi)):=by
 have h0:=h;have h01:∀r,r<2->K.N r=none:=λr hr=>by
  cases e:K.N r with
  |none=>rfl
  |some d=>have:=(hv r d e).2;omega
 obtain⟨b,rfl,hO⟩:=h;refine aJ λg=>JY (ae.eq (r6 h0 v) (Un.not ?_));by_cases Od:0<=v/\v<K.n;rotate_left
 ·rw[xan Od];exact Br.yes (br.mk (.refl _) (by unfold qu;rw[xae Od]))
 rw[xam Od];apply Br.no;obtain⟨n,rfl⟩:∃n:Nat,v=n:=⟨v.toNat,by omega⟩;have hnv:n<K.n:=by omega
 intro J hJ;refine Nil.γ (aj.mk (ae.eq (oB h0 hlo) (Un.not ?_)));by_cases nL:gL K.N lo=true;rotate_left
 ·have adU:gL K.N lo=false:=by simpa using nL
  rw[adU];exact Split.NG rfl (aG.mk (JE.mk (hJ _ _ λgs=>Br.yes (br.mk (.refl _) (by unfold qu;rw[xac (by simpa using Od),xae (.inl adU)])))))
 rw[nL];refine Split.go rfl (Nil.γ (aj.mk (ae.eq (oB h0 hhi) (Un.not ?_))));by_cases hhl:gL K.N hi=true;rotate_left
 ·have ad5:gL K.N hi=false:=by simpa using hhl
  rw[ad5];exact aG.mk (JE.mk (hJ _ _ λgs=>Br.yes (br.mk (.refl _) (by unfold qu;rw[xac (by simpa using Od),xae (.inr ad5)]))))
 rw[hhl];refine aG.mk (JE.mk (hJ _ _ λgs=>Br.no ?_));intro J2 CJ;have hE:qu K ai n lo hi=if lo≠hi/\min (ι K.n (lv ai) K.N lo) (ι K.n (lv ai) K.N hi)<=ai.getD n 0 then 4 else 0:=by
  unfold qu;rw[xac (by simpa using Od),xac (by rw[nL,hhl];simp)];rfl
 refine DR.self (ah.Cu ?_);by_cases ξ:lo≠hi;rotate_left
 ·rw[xan ξ];exact Br.no (JE.mk (CJ _ _ λgs=>Br.no (br.mk (.refl _) (by rw[hE,xac (λh=>ξ h.1)]))))
 rw[xam ξ];refine Br.yes (Nil.γ (Ld.f ?_));have Ξ:=hO.ol.2;refine hO.lv.ld (x:=((ai.getD n 0:Nat):Int)) (bM zO) (bE.sub (.cons (.app (.app (.app (.app (.app .left))))))) λF=>?_;refine ae.eq (z8 h0 (cg.1 nL) (λd hd=>(hv _ _ hd).1) (h01 _)) (⟨.refl _,?_⟩);intro F2;refine ae.eq (z8 h0 (cg.1 hhl) (λd hd=>(hv _ _ hd).1) (h01 _)) (⟨.refl _,?_⟩);refine⟨_,_,_,rfl,rfl,?_⟩;have hmin:(if((ι K.n (lv ai) K.N hi:Nat):Int)<((ι K.n (lv ai) K.N lo:Nat):Int)then((ι K.n (lv ai) K.N hi:Nat):Int)else((ι K.n (lv ai) K.N lo:Nat):Int))=((min (ι K.n (lv ai) K.N lo) (ι K.n (lv ai) K.N hi):Nat):Int):=by
  split<;>omega
 rw[hmin];refine ah.uo (aG.mk ?_);by_cases hm:min (ι K.n (lv ai) K.N lo) (ι K.n (lv ai) K.N hi)<=ai.getD n 0
 ·rw[xam hm];exact JE.mk (CJ _ _ λgs=>Br.yes (br.mk (.refl _) (by rw[hE,xae ⟨ξ,hm⟩])))
 rw[xan hm];exact JE.mk (CJ _ _ λgs=>Br.no (br.mk (.refl _) (by rw[hE,xac (λh=>hm h.2)])))
def Le(h:cX kp K θ ai tr C){v lo hi:Nat}(hv:v<K.n):
  Rd zQ 147 #[γ kp,iv (v:Int),δ lo,δ hi] C (· =if lo=hi then .tuple #[δ lo,.bool true]else .tuple #[δ ((K.T ⟨v,lo,hi⟩).getD 0),.bool (K.T ⟨v,lo,hi⟩).isSome]):=by obtain⟨b,rfl,hO⟩:=h;refine aJ λg=>JX (ah.fc (Br.dec (λhe=>br.mk (.refl _) (by rw[xae he])) (λhe=>?_)));refine Nil.γ (aj.mk (Ld.f ?_));exact Build.mk (cs:=bB ⟨v,lo,hi⟩) zK (ae.eq (vk (d:=⟨v,lo,hi⟩) hO.ut hv) (Ext.mk rfl (Ext.mk rfl (br.mk (.refl _) (by rw[xac he];rfl)))))
def wI(h:cX kp K θ ai tr C){r:Nat}(hr:r<4294967296)(hb:∀s,K.hold s<2147483648):Rd zQ 121 #[γ kp,δ r] C (· =iv ((K.hold r:Nat):Int)):=by
 obtain⟨b,rfl,hO⟩:=h;refine aJ λg=>Ko (ah.aK (dh.or (decide (K.ho.length<=r)) (λ_=>?_) zI λ_=>?_))
 ·refine bu.q (Nil.γ (aj.mk (Ld.f ?_)));apply hO.ho.bL;rw[av];exact ah.uo ⟨rfl,rfl⟩
 rw[xdD];refine Br.dec (λhge=>?_) (λη=>?_)
 ·apply br.mk (.refl _);unfold Kd.hold;rw[List.getD,xaB hge];rfl
 refine Nil.γ (aj.mk (Ld.f ?_));exact hO.ho.ld (x:=((K.hold r:Nat):Int)) (bM zO) (bE.sub (.cons (.app (.app (.app .left))))) (bu.nat (by have:=hb r;simp[bI];omega) (br.mk (.refl _) rfl))
def Xd(h:cX kp K θ ai tr C)(h2:2<=K.used)(hu:K.used<=1048576):Rd zQ 83 #[γ kp] C (· =iv ((K.used-2:Nat):Int)):=by obtain⟨b,rfl,hO⟩:=h;refine aJ λg=>Pj (ah.aK (Br.no (Nil.γ (aj.mk (Ld.f ?_)))));exact ae.eq (EU hO.ar) (ah.yp (b:=2) (by simp[bI];omega) h2 (br.mk (.refl _) rfl))
def Oa(h:cX kp K θ ai tr C):Rd zQ 174 #[γ kp] C (· =iv ((tr.length:Nat):Int)):=by obtain⟨b,rfl,hO⟩:=h;refine aJ λg=>Jz (ah.aK (Br.no (Nil.γ (Ld.f ?_))));apply hO.tr.bL;rw[av];exact br.mk (.refl _) rfl
def gY(h:cX kp K θ ai tr C):Rd zQ 108 #[γ kp] C (· =iv ((K.n:Nat):Int)):=by obtain⟨b,rfl,hO⟩:=h;refine aJ λg=>KB (ah.aK (Br.no (Nil.γ (Ld.f ?_))));exact br.mk (.refl _) rfl
theorem jc(h:cX kp K θ ai tr C){r:Nat}(hr:r<4294967296):Rd zQ 152 #[γ kp,δ r] C (· =.tuple #[.agg (got K.N r).toArray,iv (if gL K.N r then 0 else 3)]):=by
 have h0:=h;obtain⟨b,rfl,hO⟩:=h;refine aJ λg=>JS λb1 _=>?_;refine ah.aK (Br.no (Nil.γ (aj.mk (ae.eq (oB h0 hr) (Un.not ?_)))));cases hb:gL K.N r with
 |false=>
  refine Br.yes (Build.mk (cs:=[iv 0,.int .u32 0,.int .u32 0]) zK (St.q ?_));refine aB.q ?_;exact br.mk .tail (by rw[El hb];rfl)
 |true=>
  refine Br.no (Nil.γ (aj.mk (ae.eq (oz h0 hr) (St.whole (r:=got K.N r) (by exact .head _) rfl (aS _ _).1 (aS _ _).2 ?_))));refine aB.whole (r:=got K.N r) (by exact .head _) (aS _ _).1 ?_;exact br.mk .tail rfl
end
theorem xA{B:Hp}{v:zV}{l:List Int}(h:di .i64 B v l)(hl:l.length<=1099511627776):Fc zQ 31 #[v] B (λr H=>∃C,H=C++B/\aL 3 .i64 r l C):=by
 refine aJ λg=>P9 ?_;obtain⟨a,c,rfl,hc⟩:=h.shape;refine⟨.bool a.isNone,by simp[iq],?_⟩;refine Br.mk (λha=>?_) (λha=>?_)
 ·have:l=[]:=by
   rcases h.2 with⟨_,_,h1,h2⟩|⟨b,o,cap,cs,T,fz,h1,_⟩
   ·simpa using h2
   simp at h1;rw[h1.1]at ha;simp at ha
  subst this;exact aQ.here ⟨[],rfl,aL.nil⟩
 refine aq.none (z:=iv 0) (e:=3) (k:=1) zK zK zK λb=>?_;refine(aL.made (T:=3) (kd:=.i64) (b:=b) []).E3 (l2:=l) .left ((show di .i64 B _ l from h).mono λ_ h=>.tail _ h) zP zP λv' C' ho=>?_;exact aQ.here ⟨C',rfl,by simpa using ho⟩
def zN{kp:Nat}{K:Kd}{θ ai tr:zL}{C:Hp}(h:cX kp K θ ai tr C):Fc zQ 27 #[γ kp] C (λr H=>∃N,H=N++C/\aL 3 .i64 r (iw θ) N):=by obtain⟨b,rfl,hO⟩:=h;refine aJ λg=>Qc (ah.aK (Br.no (Nil.γ (Ld.f ?_))));refine ae.fq (xA (hO.od.ints.mono (bE.sub (.cons (.app (.app (.app (.app .left))))))) (by have:=hO.ol.1;have:=hO.mq;simp;omega)) ?_;rintro v C' ⟨N,rfl,ho⟩;exact aQ.here ⟨N,rfl,ho⟩
end
section
def AY(x r:Nat):Prop:=x<2^r/\(r=0\/2^(r-1)<=x)
def AY.up{x s t:Nat}(h:AY (x>>>s) t)(h0:s=0\/x>>>s≠0):AY x (s+t):=by
 rw[xa0]at h h0;have hp:=xbx s;refine⟨?_,?_⟩
 ·have:=h.1;rw[Nat.div_lt_iff_lt_mul hp]at this;rw[xdE,xcn];exact this
 rcases h.2 with h2|h2
 ·subst h2;have:=h.1;rcases h0 with h0|h0
  ·exact .inl zO
  rw[Nat.pow_zero]at this;exact absurd (Nat.lt_one_iff.1 this) h0
 by_cases ht:t=0
 ·subst ht;rcases h0 with h0|h0
  ·exact .inl zO
  have:=h.1;rw[Nat.pow_zero]at this;exact absurd (Nat.lt_one_iff.1 this) h0
 right;have:=(Nat.le_div_iff_mul_le hp).1 h2;rw[show s+t-1=(t-1)+s by omega,xdE];exact this
def W8:∀y:Fin 256,∃b:UInt8, zX[y.1]? =some b/\(y.1<2^b.toNat/\(b.toNat=0\/2^(b.toNat-1)<=y.1)):=by
 have h:∀y:Fin 256,(match zX[y.1]? with|some b=>decide (y.1<2^b.toNat/\(b.toNat=0\/2^(b.toNat-1)<=y.1))|none=>false)=true:=by decide+kernel
 intro y;have:=h y;split at this
 ·rename_i b hb;exact⟨b,hb,by simpa using this⟩
 cases this
def Ss{x:Nat}(hx:x<18446744073709551616)(B:Hp):Rd zQ 145 #[.int .u64 (x:Int)] B (λv=>∃r:Nat,AY x r/\v=iv (r:Int)):=by
 refine aJ λg=>JZ λJ1 hJ1=>?_;have h1:∀s,s<=32->x>>>s<4294967296->(s=0\/x>>>s≠0)->J1 [.int .u64 ((x>>>s:Nat):Int),iv (s:Int)] B:=by
  intro s hs η h0;refine hJ1 _ _ _ λgs=>?_;intro J2 CJ;have h2:∀s,s<=48->x>>>s<65536->(s=0\/x>>>s≠0)->J2 [.int .u64 ((x>>>s:Nat):Int),iv (s:Int)] B:=by
   intro s hs η h0;refine CJ _ _ _ λgs=>?_;intro J3 hJ3;have h3:∀s,s<=56->x>>>s<256->(s=0\/x>>>s≠0)->J3 [.int .u64 ((x>>>s:Nat):Int),iv (s:Int)] B:=by
    intro s hs η h0;refine hJ3 _ _ _ λgs=>?_;apply bu.nat (show x>>>s<256 from η);obtain⟨b,hb,hl⟩:=W8 ⟨x>>>s,η⟩;refine⟨_,_,_,b,rfl,rfl,xdi _,by rw[xbe];exact hb,?_⟩;have VH:b.toNat<256:=b.toNat_lt;exact bu.q (ah.fT (br.mk (.refl _) ⟨s+b.toNat,AY.up (t:=b.toNat) hl h0,rfl⟩))
   refine ah.uo (b:=256) (Br.dec (λhge=>?_) (λhge=>JE.mk (h3 s zO zO h0)));refine ah.iW (b:=8) (by simp only[bI];omega) (ah.fT (b:=8) ?_);rw[<-xdR];have e:x>>>(s+8)=x>>>s/256:=by rw[xdR,xa0 (x>>>s) 8]
   exact JE.mk (h3 (s+8) zO zO (.inr zO))
  refine ah.uo (b:=65536) (Br.dec (λhge=>?_) (λhge=>JE.mk (h2 s zO zO h0)));refine ah.iW (b:=16) (by simp only[bI];omega) (ah.fT (b:=16) ?_);rw[<-xdR];have e:x>>>(s+16)=x>>>s/65536:=by rw[xdR,xa0 (x>>>s) 16]
  exact JE.mk (h2 (s+16) zO zO (.inr zO))
 refine ah.uo (b:=4294967296) (Br.dec (λhge=>?_) (λhge=>JE.mk (h1 0 zO zP (.inl rfl))));refine ah.iW (b:=32) (by simp only[bI];exact hx) ?_;have e:x>>>32=x/4294967296:=by rw[xa0]
 exact JE.mk (h1 32 zO zO (.inr zO))
end
end Go.Proofs
namespace Go.Sx
open Go
variable{P:Program}{H C:Hp}{c:Hp->Hp}
section
def bE.re(h:bE C H c)(X:Hp):bE X (c X) c:=by
 induction h with
 |here=>exact .here
 |left=>exact .left
 |cons _ ih=>exact .cons ih
 |app _ ih=>exact .app ih
def swap_perm{l:List Int}{i j:Nat}{x y:Int}(hi:l[i]? =some x)(hj:l[j]? =some y):((l.set i y).set j x).Perm l:=by
 have h1:=(xah.1 hi).1;have h2:=(xah.1 hj).1;rw[xcz];intro a;by_cases e:i=j
 ·subst e;rw[hi]at hj;cases hj;rw[List.set_set];have:l.set i x=l:=by
   have hx:l[i]=x:=by rw[xab h1]at hi;exact xbb hi
   rw[<-hx];exact List.set_getElem_self h1
  rw[this]
 have hx:l[i]=x:=by rw[xab h1]at hi;exact xbb hi
 have hy:l[j]=y:=by rw[xab h2]at hj;exact xbb hj
 rw[xdW (by simpa using h2),xdW h1];have:(l.set i y)[j]'(by simpa using h2)=y:=by rw[List.getElem_set_ne e];exact hy
 rw[this,hx];have c1:l.count x≥1:=List.one_le_count_iff.2 (hx▸xaK h1);have c2:l.count y≥1:=List.one_le_count_iff.2 (hy▸xaK h2);by_cases e1:x=a
 ·subst e1;by_cases e2:y=x
  ·subst e2;simp<;>omega
  simp[e2,xa9 e2]<;>omega
 by_cases e2:y=a
 ·subst e2;simp[e1]<;>omega
 simp[e1,e2]<;>omega
def up1(vs:List zV):Nat:=match vs with
 | .int _ q::_=>(q+1).toNat
 |_=>0
def A3{k:IntKind}{q:Int}{r:List zV}:up1 (.int k q::r)=(q+1).toNat:=rfl
end
abbrev cD:=Sort.ltInt
variable{T:TypeId}{kd:IntKind}{v:zV}{d:Array Int}
section
variable{yD k1 k2 k3 k4:IntKind}
def Da(T:TypeId)(kd:IntKind)(v:zV)(d:Array Int)(C:Hp):Prop:=aL T kd v d.toList C
variable{i:Nat}
def abz(d:Array Int)(hi:i<d.size):d.toList[i]? =some d[i]! :=by rw[xbd,getElem!_pos d i hi];exact xbD hi
def Rl(d:Array Int)(i j:Nat):(Sort.swp d i j).toList=(d.toList.set i d[j]!).set j d[i]! :=by unfold Sort.swp;rw[Array.toList_setIfInBounds,Array.toList_setIfInBounds]
def Da.ld(h:Da T kd v d C)(hC:∀y∈C,y∈H)(hi:i<d.size){K:zV->Prop}(hk:K (.int kd d[i]!)):ay 1 v (.int yD (i:Int)) λp=>Ld H p K:=
 aL.ld h (abz d hi) hC hk
def Da.YJ(h:Da T kd v d C)(hh:bE C H c){j:Nat}(hi:i<d.size)(hj:j<d.size){B:(zV->Prop)->Prop}
 (hB:∀k:zV->Prop,k (.int k2 (i:Int))->B k){K:Hp->Prop}(hk:∀C',Da T kd v (Sort.swp d i j) C'->K (c C')):
  ay 1 v (.int k1 (j:Int)) λp1=>Ld H p1 λx=>B λu=>ay 1 v u λp2=>Ld H p2 λy=>ay 1 v (.int k3 (i:Int)) λp3=>St 1 H p3 x λH1=>ay 1 v (.int k4 (j:Int)) λp4=>St 1 H1 p4 y K:=by refine h.ld hh.sub hj (hB _ ?_);apply h.ld hh.sub hi;refine aL.mh h hh (by rw[xb3];exact hi) λC1 h1=>?_;refine h1.mh (hh.re C1) (by rw[xbE,xb3];exact hj) λC2 h2=>?_;exact hk C2 (by unfold Da;rw[Rl];exact h2)
def Da.swap(h:Da T kd v d C)(hh:bE C H c){j:Nat}(hi:i<d.size)(hj:j<d.size){K:Hp->Prop}(hk:∀C',Da T kd v (Sort.swp d i j) C'->K (c C')):
  ay 1 v (.int k1 (j:Int)) λp1=>Ld H p1 λx=>ay 1 v (.int k2 (i:Int)) λp2=>Ld H p2 λy=>ay 1 v (.int k3 (i:Int)) λp3=>St 1 H p3 x λH1=>ay 1 v (.int k4 (j:Int)) λp4=>St 1 H1 p4 y K:=
 h.YJ (B:=λk=>k _) hh hi hj (λ_ h=>h) hk
end
variable{j:Nat}
def jm{n i:Nat}(h:d.size=n):(Sort.swp d i j).size=n:=(Sort.size_swp d i j).trans h
variable{e:Array Int}
def SJ{a:Nat}(h:¬a<j):Sort.insInner cD a j e=e:=by
 cases j with
 |zero=>rfl
 |succ j=>rw[Sort.insInner,xac zP]
def SK{a:Nat}(h:a<j):Sort.insInner cD a j e=if cD e[j]! e[j-1]! =true then Sort.insInner cD a (j-1) (Sort.swp e j (j-1))else e:=by obtain⟨j,rfl⟩:∃k,j=k+1:=⟨j-1,by omega⟩;rw[Sort.insInner,xam h,xcr];rfl
def OH(h:¬1<=j):Sort.shiftDown cD j e=e:=by
 obtain rfl:j=0:=by omega
 rfl
def tE(h:1<=j):Sort.shiftDown cD j e=if(!cD e[j]! e[j-1]!)=true then e else Sort.shiftDown cD (j-1) (Sort.swp e j (j-1)):=by obtain⟨j,rfl⟩:∃k,j=k+1:=⟨j-1,by omega⟩;rw[Sort.shiftDown];rfl
def fK{p:Int->Bool}{i:Nat}(h:0<j):Sort.scanDown p d i j=if(decide (i<=j) &&p d[j]!)=true then Sort.scanDown p d i (j-1)else j:=by obtain⟨j,rfl⟩:∃k,j=k+1:=⟨j-1,by omega⟩;rw[Sort.scanDown];rfl
def Nj{hi f r:Nat}(h:hi<=2*r+1):Sort.siftDown cD hi f r d=d:=by rw[Sort.siftDown,xd8 h]
def Wp{hi f r c:Nat}(h:2*r+1<hi)(hc:c=if(decide (2*r+1+1<hi) &&cD d[f+(2*r+1)]! d[f+(2*r+1)+1]!)=true then 2*r+2 else 2*r+1):
  Sort.siftDown cD hi f r d=if(!cD d[f+r]! d[f+c]!)=true then d else Sort.siftDown cD hi f c (Sort.swp d (f+r) (f+c)):=by
 rw[Sort.siftDown,dif_neg zO];split at hc
 ·rename_i hb;subst hc;rw[xae hb];rw[xaJ,xaM]at hb;split
  ·rfl
  rw[xd8 hb.1]
 rename_i hb;subst hc;rw[xac hb]
def La(hi f r:Nat)(d:Array Int):(Sort.siftDown cD hi f r d).size=d.size:=by fun_induction Sort.siftDown cD hi f r d<;>simp_all[Sort.size_swp]
end Go.Sx
set_option maxRecDepth 100000
namespace Go.Proofs
open Go Go.Sx Tryz
section
structure Srt where
 nan:Nat
 less:Nat
 D6:Nat
 Nk:Nat
 heap:Nat
 rev:Nat
 pins:Nat
 wh:Nat
 part:Nat
 brk:Nat
 Gl:Nat
 med:Nat
 Gu:Nat
 piv:Nat
 Z8:Nat
section
variable (zs:Srt)
variable {g:Gh} {a0 a1 a2 a3 a4 a5 a6 a7 a8 a9 uB uA a12 a13 a14 a15:zV} {H:Hp} {R:Rt}
def L9000:Y1:=λ_ a b c=>lN a a λa=>rt c a b
def L9001:Y2:=λa b c d e=>jB (λf g=>rt e f g) λf=>CF a zs.nan #[b] d (λd g=>Split d true (CF a zs.nan #[c] g (λa d=>Un .not a λa=>aG vT a vF λa=>Split a false (lL b c λa=>aG vF vT a λa=>JE f [a] d) (aG vT vT undef λa=>JE f [a] d)) (dy e)) (aG vF undef vF λa=>lL b c λb=>aG a vT b λa=>JE f [a] g)) (dy e)
def L9002:Y3:=λa b c d e f=>lA c i1 λg=>yA [g] e λe g h i=>lL h d λd=>Br d (yA [h] i λd j k l=>jB (λm n=>Br m (DR n λm=>lS k i1 λo=>lS k i1 λp=>lI 1 b p m λp=>lI 1 b k m λm=>ay 1 b k λq=>St 1 n q p λp=>ay 1 b o λo=>St 1 p o m λm=>lS k i1 λo=>aD d j [o] m [k] l) (lA h i1 λd=>aD e g [d] n [h] i)) λd=>DR l λe=>lG k c λc=>Br c (lI 1 b k e λc=>lS k i1 λg=>lI 1 b g e λb=>∀e:Hp,
CF (a.add e) zs.less #[c,b] l (λa b=>aG vT a vF λa=>JE d [a] b) fU) (JE d [vF] l)) (rt f (.tuple #[]) i)
def L9003:Y4:=λa b c d e f g=>yA [c] f λc f h i=>oM (iv 2) h λj=>lA j i1 λj=>oG j d λk=>Br k (rt g (.tuple #[]) i) (jB (λk l=>DR l λm=>lA e h λn=>lI 1 b n m λn=>lA e k λo=>lI 1 b o m λm=>CF a zs.less #[n,m] l (λl m=>Un .not l λl=>Br l (rt g (.tuple #[]) m) (DR m λg=>lA e h λl=>lA e k λn=>lA e k λo=>lI 1 b o g λo=>lA e h λp=>lI 1 b p g λg=>ay 1 b l λl=>St 1 m l o λl=>ay 1 b n λm=>St 1 l m g λg=>aD c f [k] g [h] i)) fU) λc=>jB (λf g=>Br f (lA j i1 λf=>JE c [f] g) (JE c [j] g)) λc=>DR i λf=>lA j i1 λg=>lL g d λd=>Br d (lA e j λd=>lI 1 b d f λd=>lA e j λe=>lA e i1 λe=>lI 1 b e f λb=>∀e:Hp,
CF (a.add e) zs.less #[d,b] i (λa b=>aG vT a vF λa=>JE c [a] b) fU) (JE c [vF] i))
def L9004:Y3:=λa b c d e f=>lS d c λd=>lS d i1 λg=>ah .num .quo g (iv 2) λg=>yA [g] e λe g h i=>oG h i0 λj=>Br j (CF a zs.Nk #[b,h,d,c] i (λ_ j=>lS h i1 λk=>aD e g [k] j [h] i) (dy f)) (lS d i1 λd=>yA [d] i λd e g h=>oG g i0 λi=>Br i (DR h λi=>lA c g λj=>lA c g λk=>lI 1 b k i λk=>lI 1 b c i λi=>ay 1 b c λl=>St 1 h l k λk=>ay 1 b j λj=>St 1 k j i λi=>CF a zs.Nk #[b,i0,g,c] i (λ_ a=>lS g i1 λb=>aD d e [b] a [g] h) (dy f)) (rt f (.tuple #[]) h))
def L9005:Y3:=λ_ a b c d e=>lS c i1 λc=>yB [b,c] d λb c d f g=>lL d f λh=>Br h (DR g λh=>lI 1 a f h λi=>lI 1 a d h λh=>ay 1 a d λj=>St 1 g j i λi=>ay 1 a f λa=>St 1 i a h λa=>lA d i1 λh=>lS f i1 λi=>aD b c [h,i] a [d,f] g) (rt e (.tuple #[]) g)
def L9006:Y3:=λa b c d e f=>lA c i1 λg=>yB [g,i0] e λe g h i j=>lL i (iv 5) λk=>Br k (jB (λk l=>lA i i1 λm=>aD e g [k,m] l [h,i] j) λe=>yA [h] j λg h i k=>jB (λl m=>Br l (lA i i1 λl=>aD g h [l] m [i] k) (lE i d λg=>Br g (rt f vT m) (lS d c λg=>lL g (iv 50) λg=>Br g (rt f vF m) (DR m λg=>lS i i1 λh=>lS i i1 λl=>lI 1 b l g λl=>lI 1 b i g λg=>ay 1 b i λn=>St 1 m n l λl=>ay 1 b h λh=>St 1 l h g λg=>jA (λh=>lS d i λl=>oG l (iv 2) λl=>Br l (lA i i1 λl=>yA [l] h λl m n o=>lL n d λp=>Br p (DR o λp=>lI 1 b n p λq=>lS n i1 λr=>lI 1 b r p λp=>CF a zs.less #[q,p] o (λp q=>Un .not p λp=>Br p (JE e [i] q) (DR q λp=>lS n i1 λr=>lS n i1 λs=>lI 1 b s p λs=>lI 1 b n p λp=>ay 1 b n λt=>St 1 q t s λq=>ay 1 b r λr=>St 1 q r p λp=>lA n i1 λq=>aD l m [q] p [n] o)) fU) (JE e [i] o)) (JE e [i] h)) λe=>lS i c λc=>oG c (iv 2) λc=>Br c (lS i i1 λc=>yA [c] g λc h l m=>oG l i1 λn=>Br n (DR m λn=>lI 1 b l n λo=>lS l i1 λp=>lI 1 b p n λn=>CF a zs.less #[o,n] m (λn o=>Un .not n λn=>Br n (JE e [] o) (DR o λn=>lS l i1 λp=>lS l i1 λq=>lI 1 b q n λq=>lI 1 b l n λn=>ay 1 b l λr=>St 1 o r q λo=>ay 1 b p λp=>St 1 o p n λn=>lS l i1 λo=>aD c h [o] n [l] m)) fU) (JE e [] m)) (JE e [] g))))) λc=>DR k λe=>lL i d λd=>Br d (lI 1 b i e λd=>lS i i1 λg=>lI 1 b g e λb=>∀e:Hp,
CF (a.add e) zs.less #[d,b] k (λa b=>Un .not a λa=>aG vT a vF λa=>JE c [a] b) fU) (JE c [vF] k)) (rt f vF j)
def L9007:Y4:=λa b c d e f g=>DR f λh=>lI 1 b e h λi=>lI 1 b c h λh=>ay 1 b c λj=>St 1 f j i λf=>ay 1 b e λe=>St 1 f e h λe=>lA c i1 λf=>lS d i1 λd=>yB [f,d] e λd e f h i=>yA [f] i λj k l m=>jB (λn o=>Br n (lA l i1 λn=>aD j k [n] o [l] m) (yA [h] o λj k n o=>jB (λp q=>Br p (lS n i1 λp=>aD j k [p] q [n] o) (lG l n λj=>Br j (rt g l q) (DR q λg=>lI 1 b n g λj=>lI 1 b l g λg=>ay 1 b l λk=>St 1 q k j λj=>ay 1 b n λk=>St 1 j k g λg=>lA l i1 λj=>lS n i1 λk=>aD d e [j,k] g [f,h] i))) λd=>DR o λe=>oQ l n λf=>Br f (lI 1 b c e λf=>lI 1 b n e λe=>∀g:Hp,
CF (a.add g) zs.less #[f,e] o (λe f=>aG vT e vF λe=>JE d [e] f) fU) (JE d [vF] o))) λd=>DR m λe=>oQ l h λf=>Br f (lI 1 b c e λc=>lI 1 b l e λb=>∀e:Hp,
CF (a.add e) zs.less #[c,b] m (λa b=>Un .not a λa=>aG vT a vF λa=>JE d [a] b) fU) (JE d [vF] m)
def L9008:Y4:=λa b c d e f g=>DR f λh=>lI 1 b e h λi=>lI 1 b c h λh=>ay 1 b c λj=>St 1 f j i λf=>ay 1 b e λe=>St 1 f e h λe=>lA c i1 λf=>lS d i1 λd=>yA [f] e λe f h i=>jB (λj k=>Br j (lA h i1 λj=>aD e f [j] k [h] i) (yA [d] k λe f j k=>jB (λl m=>Br l (lS j i1 λl=>aD e f [l] m [j] k) (lG h j λe=>Br e (DR m λe=>lI 1 b c e λf=>lI 1 b j e λe=>ay 1 b j λl=>St 1 m l f λf=>ay 1 b c λl=>St 1 f l e λe=>rt g (tP j vT) e) (DR m λe=>lI 1 b j e λf=>lI 1 b h e λe=>ay 1 b h λl=>St 1 m l f λf=>ay 1 b j λl=>St 1 f l e λe=>lA h i1 λf=>lS j i1 λl=>yB [f,l] e λe f l m n=>yA [l] n λo p q r=>jB (λs t=>Br s (lA q i1 λs=>aD o p [s] t [q] r) (yA [m] t λo p s t=>jB (λu v=>Br u (lS s i1 λu=>aD o p [u] v [s] t) (lG q s λo=>Br o (DR v λo=>lI 1 b c o λp=>lI 1 b s o λo=>ay 1 b s λu=>St 1 v u p λp=>ay 1 b c λu=>St 1 p u o λo=>rt g (tP s vF) o) (DR v λg=>lI 1 b s g λo=>lI 1 b q g λg=>ay 1 b q λp=>St 1 v p o λo=>ay 1 b s λp=>St 1 o p g λg=>lA q i1 λo=>lS s i1 λp=>aD e f [o,p] g [l,m] n))) λe=>DR t λf=>oQ q s λg=>Br g (lI 1 b s f λg=>lI 1 b c f λf=>∀l:Hp,
CF (a.add l) zs.less #[g,f] t (λf g=>Un .not f λf=>aG vT f vF λf=>JE e [f] g) fU) (JE e [vF] t))) λe=>DR r λf=>oQ q m λg=>Br g (lI 1 b q f λg=>lI 1 b c f λf=>∀l:Hp,
CF (a.add l) zs.less #[g,f] r (λf g=>aG vT f vF λf=>JE e [f] g) fU) (JE e [vF] r)))) λe=>DR k λf=>oQ h j λg=>Br g (lI 1 b j f λg=>lI 1 b c f λf=>∀j:Hp,
CF (a.add j) zs.less #[g,f] k (λf g=>Un .not f λf=>aG vT f vF λf=>JE e [f] g) fU) (JE e [vF] k))) λe=>DR i λf=>oQ h d λd=>Br d (lI 1 b h f λd=>lI 1 b c f λb=>∀c:Hp,
CF (a.add c) zs.less #[d,b] i (λa b=>aG vT a vF λa=>JE e [a] b) fU) (JE e [vF] i)
def L9009:Y3:=λa b c d e f=>lS d c λd=>oG d (iv 8) λg=>Br g (bu .u64 d λg=>lQ 1 e #[(wi 0)] 276 g λg h=>CR f a 207 #[d] h λh i=>ah .num .quo d (iv 4) λj=>oM j (iv 2) λj=>lA c j λj=>lS j i1 λj=>yA [j] i λi j k l=>ah .num .quo d (iv 4) λm=>oM m (iv 2) λm=>lA c m λm=>lA m i1 λm=>oQ k m λm=>Br m (CR f a 208 #[(pt g)] l λa g=>lS h (wi 1) λh=>oA a h λa=>bu .i64 a λa=>jB (λh m=>DR m λn=>lA c h λo=>lA c h λc=>lI 1 b c n λc=>lI 1 b k n λh=>ay 1 b k λn=>St 1 m n c λc=>ay 1 b o λb=>St 1 c b h λb=>lA k i1 λc=>aD i j [c] b [k] l) λb=>oG a d λc=>Br c (lS a d λc=>JE b [c] g) (JE b [a] g)) (rt f (.tuple #[]) l)) (rt f (.tuple #[]) e)
def L9010:Y4:=λa b c d e f g=>DR f λh=>lI 1 b d h λi=>lI 1 b c h λb=>CF a zs.less #[i,b] f (λa b=>Br a (Nil e λa=>Ld b a λa=>lA a i1 λa=>Nil e λe=>St 1 b e a λa=>rt g (tP d c) a) (rt g (tP c d) b)) fU
def L9011:Y5:=λa b c d e f g h=>CF a zs.Gl #[b,c,d,f] g (λc d=>lX c λc g=>CF a zs.Gl #[b,g,e,f] d (λd e=>lX d λd _=>CF a zs.Gl #[b,c,d,f] e (λa b=>lX a λ_ a=>rt h a b) (dy h)) (dy h)) (dy h)
def L9012:Y3:=λa b c d e f=>lS c i1 λg=>lA c i1 λh=>CF a zs.med #[b,g,c,h,d] e (λa b=>rt f a b) (dy f)
def L9013:Y3:=λa b c d e f=>lS d c λd=>lW e #[i0] 3 λe g=>ah .num .quo d (iv 4) λh=>oM h i1 λh=>lA c h λh=>ah .num .quo d (iv 4) λi=>oM i (iv 2) λi=>lA c i λi=>ah .num .quo d (iv 4) λj=>oM j (iv 3) λj=>lA c j λc=>jB (λj k=>Ld k (pt e) λl=>lE l i0 λm=>Br m (rt f (tP j i1) k) (lE l (iv 12) λl=>Br l (rt f (tP j (iv 2)) k) (rt f (tP j i0) k))) λj=>oG d (iv 8) λk=>Br k (∀k:Jt,(∀l m n:zV,∀o:Hp,(∀_:Fr,
CF a zs.med #[b,l,m,n,(pt e)] o (λp q=>JE j [p] q) (dy f))->k [l,m,n] o)->oG d (iv 50) λd=>Br d (CF a zs.Gu #[b,h,(pt e)] g (λd l=>CF a zs.Gu #[b,i,(pt e)] l (λl m=>CF a zs.Gu #[b,c,(pt e)] m (λa b=>JE k [d,l,a] b) (dy f)) (dy f)) (dy f)) (JE k [h,i,c] g)) (JE j [i] g)
def L9014:Y4:=λa b c d e f g=>∃(h:Jt) (i:Mt),JE h [c,d,e,vT,vT] f/\∀c d e f j:zV,∀k:Hp,h [c,d,e,f,j] k->∀_:Fr,
lS d c λl=>oQ l (iv 12) λm=>Br m (CF a zs.D6 #[b,c,d] k (λ_ m=>rt g (.tuple #[]) m) (dy g)) (lE e i0 λm=>Br m (CF a zs.heap #[b,c,d] k (λ_ m=>rt g (.tuple #[]) m) (dy g)) (jB (λm n=>CF a zs.piv #[b,c,d] n (λn o=>lX n λn p=>jC (λq r s=>jA (λt=>jB (λu v=>Br u (CF a zs.wh #[b,c,d,q] v (λu w=>aD h i [u,d,m,f,j] w [c,d,e,f,j] k) (dy g)) (CF a zs.part #[b,c,d,q] v (λu v=>lX u λu w=>lS u c λx=>lS d u λy=>ah .num .quo l (iv 8) λl=>lL x y λz=>Br z (oG x l λx=>CF a zs.Z8 #[b,c,u,m] v (λ_ z=>lA u i1 λA=>aD h i [A,d,m,x,w] z [c,d,e,f,j] k) (dy g)) (oG y l λl=>lA u i1 λx=>CF a zs.Z8 #[b,x,d,m] v (λ_ v=>aD h i [c,u,m,l,w] v [c,d,e,f,j] k) (dy g))) (dy g))) λh=>DR t λi=>lG c i0 λl=>Br l (lS c i1 λl=>lI 1 b l i λl=>lI 1 b q i λi=>∀m:Hp,
CF (a.add m) zs.less #[l,i] t (λi l=>Un .not i λi=>aG vT i vF λi=>JE h [i] l) fU) (JE h [vF] t)) λh=>lU f (λi=>(lV s j i)) λi=>lU (Value.bool i) (λi=>lE r i1 λj=>(lV s j i)) λi=>Br (Value.bool i) (CF a zs.pins #[b,c,d] s (λi j=>Br i (rt g (.tuple #[]) j) (JE h [] j)) (dy g)) (JE h [] s)) λh=>lE p (iv 2) λi=>Br i (CF a zs.rev #[b,c,d] o (λ_ i=>lS d i1 λj=>lS n c λl=>lS j l λj=>JE h [j,i1] i) (dy g)) (JE h [n,p] o)) (dy g)) λh=>Un .not f λf=>Br f (CF a zs.brk #[b,c,d] k (λ_ a=>lS e i1 λb=>JE h [b] a) (dy g)) (JE h [e] k)))
end
structure Fa(zs:Srt):Prop where
 nan:∀{g:Gh} {a0:zV} {H:Hp} {R:Rt},L9000 g a0 H R->bG zQ g zs.nan #[a0] H R
 less:∀{g:Gh} {a0 a1:zV} {H:Hp} {R:Rt},L9001 zs g a0 a1 H R->bG zQ g zs.less #[a0,a1] H R
 D6:∀{g:Gh} {a0 a1 a2:zV} {H:Hp} {R:Rt},L9002 zs g a0 a1 a2 H R->bG zQ g zs.D6 #[a0,a1,a2] H R
 Nk:∀{g:Gh} {a0 a1 a2 a3:zV} {H:Hp} {R:Rt},L9003 zs g a0 a1 a2 a3 H R->bG zQ g zs.Nk #[a0,a1,a2,a3] H R
 heap:∀{g:Gh} {a0 a1 a2:zV} {H:Hp} {R:Rt},L9004 zs g a0 a1 a2 H R->bG zQ g zs.heap #[a0,a1,a2] H R
 rev:∀{g:Gh} {a0 a1 a2:zV} {H:Hp} {R:Rt},L9005 g a0 a1 a2 H R->bG zQ g zs.rev #[a0,a1,a2] H R
 pins:∀{g:Gh} {a0 a1 a2:zV} {H:Hp} {R:Rt},L9006 zs g a0 a1 a2 H R->bG zQ g zs.pins #[a0,a1,a2] H R
 wh:∀{g:Gh} {a0 a1 a2 a3:zV} {H:Hp} {R:Rt},L9007 zs g a0 a1 a2 a3 H R->bG zQ g zs.wh #[a0,a1,a2,a3] H R
 part:∀{g:Gh} {a0 a1 a2 a3:zV} {H:Hp} {R:Rt},L9008 zs g a0 a1 a2 a3 H R->bG zQ g zs.part #[a0,a1,a2,a3] H R
 brk:∀{g:Gh} {a0 a1 a2:zV} {H:Hp} {R:Rt},L9009 g a0 a1 a2 H R->bG zQ g zs.brk #[a0,a1,a2] H R
 Gl:∀{g:Gh} {a0 a1 a2 a3:zV} {H:Hp} {R:Rt},L9010 zs g a0 a1 a2 a3 H R->bG zQ g zs.Gl #[a0,a1,a2,a3] H R
 med:∀{g:Gh} {a0 a1 a2 a3 a4:zV} {H:Hp} {R:Rt},L9011 zs g a0 a1 a2 a3 a4 H R->bG zQ g zs.med #[a0,a1,a2,a3,a4] H R
 Gu:∀{g:Gh} {a0 a1 a2:zV} {H:Hp} {R:Rt},L9012 zs g a0 a1 a2 H R->bG zQ g zs.Gu #[a0,a1,a2] H R
 piv:∀{g:Gh} {a0 a1 a2:zV} {H:Hp} {R:Rt},L9013 zs g a0 a1 a2 H R->bG zQ g zs.piv #[a0,a1,a2] H R
 Z8:∀{g:Gh} {a0 a1 a2 a3:zV} {H:Hp} {R:Rt},L9014 zs g a0 a1 a2 a3 H R->bG zQ g zs.Z8 #[a0,a1,a2,a3] H R
def zR:Srt:=⟨299,293,287,296,288,291,292,294,295,289,300,298,297,290,286⟩
def acQ:Fa zR:=⟨λh=>cu (hn:=.e) func299 h zK,
 λh=>cu (hn:=(.n .e (.h 1 [4] [] .e .e))) func293 h zK,
 λh=>cu (hn:=(.n .e (.n (.h 0 [6] [0,1,2] (.n .e (.n (.n (.n .e (.n (.h 0 [7] [0,1,2,6] (.n (.h 1 [30] [0,1,2,6,7] (.h 1 [] [] (.h 0 [0] [] (.h 0 [1] [] (.h 0 [2] [] (.h 2 [3] [] (.h 0 [4] [] (.h 0 [5] [] (.h 0 [6] [] (.h 0 [7] [] (.h 0 [8] [] (.h 0 [9] [] (.h 0 [10] [] (.h 0 [11] [] (.h 0 [12] [] (.h 0 [13] [] (.h 0 [14] [] .e .e) .e) .e) .e) .e) .e) .e) .e) .e) .e) .e) (.h 0 [4] [] (.h 0 [5] [] (.h 0 [6] [] (.h 0 [7] [] (.h 0 [8] [] (.h 0 [9] [] (.h 0 [10] [] (.h 0 [11] [] (.h 0 [12] [] (.h 0 [13] [] (.h 3 [14] [] .e .e) .e) .e) .e) .e) .e) .e) .e) .e) .e) .e)) .e) .e) .e) .e) .e) (.n (.n (.h 0 [0,1,2,3,4,5,6,7,8,9,10,11,12,13,14,15,16,17] [] .e .e) .e) .e)) .e) .e)) .e) .e)) .e) .e))) func287 h zK,
 λh=>cu (hn:=(.n .e (.n (.h 0 [8] [0,2,3] (.n (.n .e (.n .e (.h 1 [9] [0,2,3,8] (.h 1 [36] [0,2,3,8,9] (.h 1 [] [] (.h 0 [0] [] (.h 0 [1] [] (.h 0 [2] [] (.h 0 [3] [] (.h 2 [4] [] (.h 0 [5] [] (.h 0 [6] [] (.h 0 [7] [] (.h 0 [8] [] (.h 0 [9] [] (.h 0 [10] [] (.h 0 [11] [] (.h 0 [12] [] (.h 0 [13] [] (.h 0 [14] [] (.h 0 [15] [] (.h 0 [16] [] (.h 0 [17] [] (.h 0 [18] [] (.h 0 [19] [] .e .e) .e) .e) .e) .e) .e) .e) .e) .e) .e) .e) .e) .e) .e) .e) (.h 0 [5] [] (.h 0 [6] [] (.h 0 [7] [] (.h 0 [8] [] (.h 0 [9] [] (.h 0 [10] [] (.h 0 [11] [] (.h 0 [12] [] (.h 0 [13] [] (.h 0 [14] [] (.h 0 [15] [] (.h 0 [16] [] (.h 0 [17] [] (.h 0 [18] [] (.h 3 [19] [] .e .e) .e) .e) .e) .e) .e) .e) .e) .e) .e) .e) .e) .e) .e) .e)) .e) .e) .e) .e) .e) .e) (.n (.n (.h 0 [0,1,2,3,4,5,6,7,8,9,10,11,12,13] [] .e .e) .e) (.n (.h 0 [0,1,2,3,4,5,6,7,8,9,10,11,12,13,14,15,16,17,18,19,20,21,22,23] [] .e .e) .e))))) .e) .e) .e))) func296 h zK,
 λh=>cu (hn:=(.n .e (.n .e (.n .e (.n (.n .e (.n (.h 0 [9] [0,6,7,8] .e .e) .e)) (.n .e (.n (.h 0 [10] [0,6,7] (.n .e (.n (.n (.n (.h 0 [0,1,2,3,4,5,6,7,8,9,10,11,12,13,14,15,16,17,18,19] [] .e .e) .e) .e) .e)) .e) .e))))))) func288 h zK,
 λh=>cu (hn:=(.n .e (.n .e (.n (.h 0 [6,7] [0] (.n .e (.n (.n (.h 0 [0,1,2,3,4,5,6,7,8,9,10,11,12,13,14,15] [] .e .e) .e) .e)) .e) .e)))) func291 h zK,
 λh=>cu (hn:=(.n .e (.n .e (.n (.n .e (.n (.h 0 [7,8] [0,1,2] (.n .e (.h 1 [7] [0,1,2,8] (.n (.n (.n (.h 0 [7] [0,1,2,8] (.n (.h 1 [32] [0,1,2,7,8] (.h 1 [] [] (.h 0 [0] [] (.h 0 [1] [] (.h 0 [2] [] (.h 2 [3] [] (.h 0 [4] [] (.h 0 [5] [] (.h 0 [6] [] (.h 0 [7] [] (.h 0 [8] [] (.h 0 [9] [] (.h 0 [10] [] (.h 0 [11] [] (.h 0 [12] [] (.h 0 [13] [] (.h 0 [14] [] (.h 0 [15] [] .e .e) .e) .e) .e) .e) .e) .e) .e) .e) .e) .e) .e) (.h 0 [4] [] (.h 0 [5] [] (.h 0 [6] [] (.h 0 [7] [] (.h 0 [8] [] (.h 0 [9] [] (.h 0 [10] [] (.h 0 [11] [] (.h 0 [12] [] (.h 0 [13] [] (.h 0 [14] [] (.h 3 [15] [] .e .e) .e) .e) .e) .e) .e) .e) .e) .e) .e) .e) .e)) .e) .e) .e) .e) .e) .e) .e) .e) (.n .e (.n .e (.n (.h 0 [0,1,2,3,4,5,6,7,8,9,10,11,12,13,14,15,16,17] [] .e .e) (.h 1 [] [0,1,2,7,8] (.n .e (.n (.n .e (.n (.h 0 [9] [0,1,2,7,8] (.n .e (.n (.n (.n (.n (.h 0 [0,1,2,3,4,5,6,7,8,9,10] [] .e .e) .e) (.h 0 [0,1,2,3,4,5,6,7,8,9,10,11,12,13,14,15,16,17] [] .e .e)) .e) .e)) .e) .e)) .e)) (.n .e (.n (.n .e (.n (.h 0 [10] [0,1,2,7,8] (.n .e (.n (.n (.n (.n (.h 0 [0,1,2,3,4,5,6,7,8,9,10] [] .e .e) .e) (.h 0 [0,1,2,3,4,5,6,7,8,9,10,11,12,13,14,15,16,17] [] .e .e)) .e) .e)) .e) .e)) .e))))))) .e) .e)) .e) .e)) .e)))) func292 h zK,
 λh=>cu (hn:=(.n .e (.n (.h 0 [0,1,2,3,4,5,6,7,8,9,10,11,12,13,14,15] [] .e .e) (.n .e (.n (.n (.h 0 [9,10] [0,1] (.n (.n (.n (.h 0 [9] [0,1,10] (.n (.h 1 [43] [0,1,9,10] (.h 1 [] [] (.h 0 [0] [] (.h 0 [1] [] (.h 0 [2] [] (.h 2 [3] [] (.h 0 [4] [] (.h 0 [5] [] (.h 0 [6] [] (.h 0 [7] [] (.h 0 [8] [] (.h 0 [9] [] (.h 0 [10] [] (.h 0 [11] [] (.h 0 [12] [] (.h 0 [13] [] (.h 0 [14] [] .e .e) .e) .e) .e) .e) .e) .e) .e) .e) .e) .e) (.h 0 [4] [] (.h 0 [5] [] (.h 0 [6] [] (.h 0 [7] [] (.h 0 [8] [] (.h 0 [9] [] (.h 0 [10] [] (.h 0 [11] [] (.h 0 [12] [] (.h 0 [13] [] (.h 3 [14] [] .e .e) .e) .e) .e) .e) .e) .e) .e) .e) .e) .e)) .e) .e) .e) .e) .e) .e) .e) .e) (.n (.n (.h 0 [10] [0,1,9] (.n (.h 1 [59] [0,1,9,10] (.h 1 [] [] (.h 0 [0] [] (.h 0 [1] [] (.h 0 [2] [] (.h 2 [3] [] (.h 0 [4] [] (.h 0 [5] [] (.h 0 [6] [] (.h 0 [7] [] (.h 0 [8] [] (.h 0 [9] [] (.h 0 [10] [] (.h 0 [11] [] (.h 0 [12] [] (.h 0 [13] [] .e .e) .e) .e) .e) .e) .e) .e) .e) .e) .e) (.h 0 [4] [] (.h 0 [5] [] (.h 0 [6] [] (.h 0 [7] [] (.h 0 [8] [] (.h 0 [9] [] (.h 0 [10] [] (.h 0 [11] [] (.h 0 [12] [] (.h 3 [13] [] .e .e) .e) .e) .e) .e) .e) .e) .e) .e) .e)) .e) .e) .e) .e) .e) .e) .e) .e) (.n .e (.n (.h 0 [0,1,2,3,4,5,6,7,8,9,10,11,12,13,14,15] [] .e .e) .e)))) .e) .e) .e) .e))))) func294 h zK,
 λh=>cu (hn:=(.n .e (.n (.h 0 [0,1,2,3,4,5,6,7,8,9,10,11,12,13,14,15] [] .e .e) (.n .e (.n (.n (.h 0 [10] [0,1,11] (.n (.h 1 [43] [0,1,10,11] (.h 1 [] [] (.h 0 [0] [] (.h 0 [1] [] (.h 0 [2] [] (.h 2 [3] [] (.h 0 [4] [] (.h 0 [5] [] (.h 0 [6] [] (.h 0 [7] [] (.h 0 [8] [] (.h 0 [9] [] (.h 0 [10] [] (.h 0 [11] [] (.h 0 [12] [] (.h 0 [13] [] .e .e) .e) .e) .e) .e) .e) .e) .e) .e) .e) (.h 0 [4] [] (.h 0 [5] [] (.h 0 [6] [] (.h 0 [7] [] (.h 0 [8] [] (.h 0 [9] [] (.h 0 [10] [] (.h 0 [11] [] (.h 0 [12] [] (.h 3 [13] [] .e .e) .e) .e) .e) .e) .e) .e) .e) .e) .e)) .e) .e) .e) .e) .e) .e) .e) .e) (.n (.n (.h 0 [11] [0,1,10] (.n (.h 1 [60] [0,1,10,11] (.h 1 [] [] (.h 0 [0] [] (.h 0 [1] [] (.h 0 [2] [] (.h 2 [3] [] (.h 0 [4] [] (.h 0 [5] [] (.h 0 [6] [] (.h 0 [7] [] (.h 0 [8] [] (.h 0 [9] [] (.h 0 [10] [] (.h 0 [11] [] (.h 0 [12] [] (.h 0 [13] [] (.h 0 [14] [] .e .e) .e) .e) .e) .e) .e) .e) .e) .e) .e) .e) (.h 0 [4] [] (.h 0 [5] [] (.h 0 [6] [] (.h 0 [7] [] (.h 0 [8] [] (.h 0 [9] [] (.h 0 [10] [] (.h 0 [11] [] (.h 0 [12] [] (.h 0 [13] [] (.h 3 [14] [] .e .e) .e) .e) .e) .e) .e) .e) .e) .e) .e) .e)) .e) .e) .e) .e) .e) .e) .e) .e) (.n (.n .e (.n (.n (.h 0 [0,1,2,3,4,5,6,7,8,9,10,11,12,13,14,15] [] .e .e) .e) .e)) (.n (.h 0 [0,1,2,3,4,5,6,7,8,9,10,11,12,13,14,15] [] .e .e) (.n .e (.n .e (.n (.n (.h 0 [10,11] [0,1] (.n (.n (.n (.h 0 [10] [0,1,11] (.n (.h 1 [112] [0,1,10,11] (.h 1 [] [] (.h 0 [0] [] (.h 0 [1] [] (.h 0 [2] [] (.h 2 [3] [] (.h 0 [4] [] (.h 0 [5] [] (.h 0 [6] [] (.h 0 [7] [] (.h 0 [8] [] (.h 0 [9] [] (.h 0 [10] [] (.h 0 [11] [] (.h 0 [12] [] (.h 0 [13] [] .e .e) .e) .e) .e) .e) .e) .e) .e) .e) .e) (.h 0 [4] [] (.h 0 [5] [] (.h 0 [6] [] (.h 0 [7] [] (.h 0 [8] [] (.h 0 [9] [] (.h 0 [10] [] (.h 0 [11] [] (.h 0 [12] [] (.h 3 [13] [] .e .e) .e) .e) .e) .e) .e) .e) .e) .e) .e)) .e) .e) .e) .e) .e) .e) .e) .e) (.n (.n (.h 0 [11] [0,1,10] (.n (.h 1 [129] [0,1,10,11] (.h 1 [] [] (.h 0 [0] [] (.h 0 [1] [] (.h 0 [2] [] (.h 2 [3] [] (.h 0 [4] [] (.h 0 [5] [] (.h 0 [6] [] (.h 0 [7] [] (.h 0 [8] [] (.h 0 [9] [] (.h 0 [10] [] (.h 0 [11] [] (.h 0 [12] [] (.h 0 [13] [] (.h 0 [14] [] .e .e) .e) .e) .e) .e) .e) .e) .e) .e) .e) .e) (.h 0 [4] [] (.h 0 [5] [] (.h 0 [6] [] (.h 0 [7] [] (.h 0 [8] [] (.h 0 [9] [] (.h 0 [10] [] (.h 0 [11] [] (.h 0 [12] [] (.h 0 [13] [] (.h 3 [14] [] .e .e) .e) .e) .e) .e) .e) .e) .e) .e) .e) .e)) .e) .e) .e) .e) .e) .e) .e) .e) (.n .e (.n (.h 0 [0,1,2,3,4,5,6,7,8,9,10,11,12,13,14,15] [] .e .e) .e)))) .e) .e) .e) (.n (.h 0 [0,1,2,3,4,5,6,7,8,9,10,11,12,13,14,15] [] .e .e) .e)))))))))))) func295 h zK,
 λh=>cu (hn:=(.n .e (.n .e (.n (.n .e (.n .e (.n .e (.n (.h 0 [9] [0,1,6,7,8] (.n .e (.n (.n (.n .e (.h 1 [10] [0,1,6,7,8,9] .e (.h 0 [0,1,2,3,4,5,6,7,8,9,10,11,12,13,14,15,16,17,18,19] [] .e .e))) .e) .e)) .e) .e)))) .e)))) func289 h zK,
 λh=>cu (hn:=(.n .e (.n (.n (.h 0 [0,1,2,3,4,5,6,7,8] [] .e .e) .e) .e))) func300 h zK,
 λh=>cu (hn:=.e) func298 h zK,
 λh=>cu (hn:=.e) func297 h zK,
 λh=>cu (hn:=(.n .e (.n .e (.n .e (.n .e (.n .e (.n .e (.h 1 [11] [9] (.n .e (.n (.h 1 [10,11,12] [0,9] .e .e) .e)) .e)))))))) func290 h zK,
 λh=>cu (hn:=(.n .e (.n .e (.n (.h 0 [1,2,3,8,9] [0] (.n (.n .e (.n .e (.n .e (.h 1 [3] [0,1,2,8,9,10] .e (.n .e (.h 1 [11,12] [0,1,2,3,8,9,10] .e (.h 1 [] [0,1,2,3,8,9,10,11] (.n (.h 0 [] [1] .e .e) .e) (.n (.h 1 [87] [0,1,2,3,8,9,10,11] (.h 1 [] [] (.h 0 [0] [] (.h 0 [1] [] (.h 2 [2] [] (.h 0 [3] [] (.h 0 [4] [] (.h 0 [5] [] (.h 0 [6] [] (.h 0 [7] [] (.h 0 [8] [] (.h 0 [9] [] (.h 0 [10] [] (.h 0 [11] [] (.h 0 [12] [] (.h 0 [13] [] (.h 0 [14] [] .e .e) .e) .e) .e) .e) .e) .e) .e) .e) .e) .e) .e) (.h 0 [3] [] (.h 0 [4] [] (.h 0 [5] [] (.h 0 [6] [] (.h 0 [7] [] (.h 0 [8] [] (.h 0 [9] [] (.h 0 [10] [] (.h 0 [11] [] (.h 0 [12] [] (.h 0 [13] [] (.h 3 [14] [] .e .e) .e) .e) .e) .e) .e) .e) .e) .e) .e) .e) .e)) .e) .e) .e) .e) .e)))))))) .e) .e) .e)))) func286 h zK⟩
def zJ:Srt:=⟨211,141,135,206,136,139,140,142,143,137,262,210,209,138,96⟩
def acR:Fa zJ:=⟨λh=>cu (hn:=.e) func211 h zK,
 λh=>cu (hn:=(.n .e (.h 1 [4] [] .e .e))) func141 h zK,
 λh=>cu (hn:=(.n .e (.n (.h 0 [6] [0,1,2] (.n .e (.n (.n (.n .e (.n (.h 0 [7] [0,1,2,6] (.n (.h 1 [30] [0,1,2,6,7] (.h 1 [] [] (.h 0 [0] [] (.h 0 [1] [] (.h 0 [2] [] (.h 2 [3] [] (.h 0 [4] [] (.h 0 [5] [] (.h 0 [6] [] (.h 0 [7] [] (.h 0 [8] [] (.h 0 [9] [] (.h 0 [10] [] (.h 0 [11] [] (.h 0 [12] [] (.h 0 [13] [] (.h 0 [14] [] .e .e) .e) .e) .e) .e) .e) .e) .e) .e) .e) .e) (.h 0 [4] [] (.h 0 [5] [] (.h 0 [6] [] (.h 0 [7] [] (.h 0 [8] [] (.h 0 [9] [] (.h 0 [10] [] (.h 0 [11] [] (.h 0 [12] [] (.h 0 [13] [] (.h 3 [14] [] .e .e) .e) .e) .e) .e) .e) .e) .e) .e) .e) .e)) .e) .e) .e) .e) .e) (.n (.n (.h 0 [0,1,2,3,4,5,6,7,8,9,10,11,12,13,14,15,16,17] [] .e .e) .e) .e)) .e) .e)) .e) .e)) .e) .e))) func135 h zK,
 λh=>cu (hn:=(.n .e (.n (.h 0 [8] [0,2,3] (.n (.n .e (.n .e (.h 1 [9] [0,2,3,8] (.h 1 [36] [0,2,3,8,9] (.h 1 [] [] (.h 0 [0] [] (.h 0 [1] [] (.h 0 [2] [] (.h 0 [3] [] (.h 2 [4] [] (.h 0 [5] [] (.h 0 [6] [] (.h 0 [7] [] (.h 0 [8] [] (.h 0 [9] [] (.h 0 [10] [] (.h 0 [11] [] (.h 0 [12] [] (.h 0 [13] [] (.h 0 [14] [] (.h 0 [15] [] (.h 0 [16] [] (.h 0 [17] [] (.h 0 [18] [] (.h 0 [19] [] .e .e) .e) .e) .e) .e) .e) .e) .e) .e) .e) .e) .e) .e) .e) .e) (.h 0 [5] [] (.h 0 [6] [] (.h 0 [7] [] (.h 0 [8] [] (.h 0 [9] [] (.h 0 [10] [] (.h 0 [11] [] (.h 0 [12] [] (.h 0 [13] [] (.h 0 [14] [] (.h 0 [15] [] (.h 0 [16] [] (.h 0 [17] [] (.h 0 [18] [] (.h 3 [19] [] .e .e) .e) .e) .e) .e) .e) .e) .e) .e) .e) .e) .e) .e) .e) .e)) .e) .e) .e) .e) .e) .e) (.n (.n (.h 0 [0,1,2,3,4,5,6,7,8,9,10,11,12,13] [] .e .e) .e) (.n (.h 0 [0,1,2,3,4,5,6,7,8,9,10,11,12,13,14,15,16,17,18,19,20,21,22,23] [] .e .e) .e))))) .e) .e) .e))) func206 h zK,
 λh=>cu (hn:=(.n .e (.n .e (.n .e (.n (.n .e (.n (.h 0 [9] [0,6,7,8] .e .e) .e)) (.n .e (.n (.h 0 [10] [0,6,7] (.n .e (.n (.n (.n (.h 0 [0,1,2,3,4,5,6,7,8,9,10,11,12,13,14,15,16,17,18,19] [] .e .e) .e) .e) .e)) .e) .e))))))) func136 h zK,
 λh=>cu (hn:=(.n .e (.n .e (.n (.h 0 [6,7] [0] (.n .e (.n (.n (.h 0 [0,1,2,3,4,5,6,7,8,9,10,11,12,13,14,15] [] .e .e) .e) .e)) .e) .e)))) func139 h zK,
 λh=>cu (hn:=(.n .e (.n .e (.n (.n .e (.n (.h 0 [7,8] [0,1,2] (.n .e (.h 1 [7] [0,1,2,8] (.n (.n (.n (.h 0 [7] [0,1,2,8] (.n (.h 1 [32] [0,1,2,7,8] (.h 1 [] [] (.h 0 [0] [] (.h 0 [1] [] (.h 0 [2] [] (.h 2 [3] [] (.h 0 [4] [] (.h 0 [5] [] (.h 0 [6] [] (.h 0 [7] [] (.h 0 [8] [] (.h 0 [9] [] (.h 0 [10] [] (.h 0 [11] [] (.h 0 [12] [] (.h 0 [13] [] (.h 0 [14] [] (.h 0 [15] [] .e .e) .e) .e) .e) .e) .e) .e) .e) .e) .e) .e) .e) (.h 0 [4] [] (.h 0 [5] [] (.h 0 [6] [] (.h 0 [7] [] (.h 0 [8] [] (.h 0 [9] [] (.h 0 [10] [] (.h 0 [11] [] (.h 0 [12] [] (.h 0 [13] [] (.h 0 [14] [] (.h 3 [15] [] .e .e) .e) .e) .e) .e) .e) .e) .e) .e) .e) .e) .e)) .e) .e) .e) .e) .e) .e) .e) .e) (.n .e (.n .e (.n (.h 0 [0,1,2,3,4,5,6,7,8,9,10,11,12,13,14,15,16,17] [] .e .e) (.h 1 [] [0,1,2,7,8] (.n .e (.n (.n .e (.n (.h 0 [9] [0,1,2,7,8] (.n .e (.n (.n (.n (.n (.h 0 [0,1,2,3,4,5,6,7,8,9,10] [] .e .e) .e) (.h 0 [0,1,2,3,4,5,6,7,8,9,10,11,12,13,14,15,16,17] [] .e .e)) .e) .e)) .e) .e)) .e)) (.n .e (.n (.n .e (.n (.h 0 [10] [0,1,2,7,8] (.n .e (.n (.n (.n (.n (.h 0 [0,1,2,3,4,5,6,7,8,9,10] [] .e .e) .e) (.h 0 [0,1,2,3,4,5,6,7,8,9,10,11,12,13,14,15,16,17] [] .e .e)) .e) .e)) .e) .e)) .e))))))) .e) .e)) .e) .e)) .e)))) func140 h zK,
 λh=>cu (hn:=(.n .e (.n (.h 0 [0,1,2,3,4,5,6,7,8,9,10,11,12,13,14,15] [] .e .e) (.n .e (.n (.n (.h 0 [9,10] [0,1] (.n (.n (.n (.h 0 [9] [0,1,10] (.n (.h 1 [43] [0,1,9,10] (.h 1 [] [] (.h 0 [0] [] (.h 0 [1] [] (.h 0 [2] [] (.h 2 [3] [] (.h 0 [4] [] (.h 0 [5] [] (.h 0 [6] [] (.h 0 [7] [] (.h 0 [8] [] (.h 0 [9] [] (.h 0 [10] [] (.h 0 [11] [] (.h 0 [12] [] (.h 0 [13] [] (.h 0 [14] [] .e .e) .e) .e) .e) .e) .e) .e) .e) .e) .e) .e) (.h 0 [4] [] (.h 0 [5] [] (.h 0 [6] [] (.h 0 [7] [] (.h 0 [8] [] (.h 0 [9] [] (.h 0 [10] [] (.h 0 [11] [] (.h 0 [12] [] (.h 0 [13] [] (.h 3 [14] [] .e .e) .e) .e) .e) .e) .e) .e) .e) .e) .e) .e)) .e) .e) .e) .e) .e) .e) .e) .e) (.n (.n (.h 0 [10] [0,1,9] (.n (.h 1 [59] [0,1,9,10] (.h 1 [] [] (.h 0 [0] [] (.h 0 [1] [] (.h 0 [2] [] (.h 2 [3] [] (.h 0 [4] [] (.h 0 [5] [] (.h 0 [6] [] (.h 0 [7] [] (.h 0 [8] [] (.h 0 [9] [] (.h 0 [10] [] (.h 0 [11] [] (.h 0 [12] [] (.h 0 [13] [] .e .e) .e) .e) .e) .e) .e) .e) .e) .e) .e) (.h 0 [4] [] (.h 0 [5] [] (.h 0 [6] [] (.h 0 [7] [] (.h 0 [8] [] (.h 0 [9] [] (.h 0 [10] [] (.h 0 [11] [] (.h 0 [12] [] (.h 3 [13] [] .e .e) .e) .e) .e) .e) .e) .e) .e) .e) .e)) .e) .e) .e) .e) .e) .e) .e) .e) (.n .e (.n (.h 0 [0,1,2,3,4,5,6,7,8,9,10,11,12,13,14,15] [] .e .e) .e)))) .e) .e) .e) .e))))) func142 h zK,
 λh=>cu (hn:=(.n .e (.n (.h 0 [0,1,2,3,4,5,6,7,8,9,10,11,12,13,14,15] [] .e .e) (.n .e (.n (.n (.h 0 [10] [0,1,11] (.n (.h 1 [43] [0,1,10,11] (.h 1 [] [] (.h 0 [0] [] (.h 0 [1] [] (.h 0 [2] [] (.h 2 [3] [] (.h 0 [4] [] (.h 0 [5] [] (.h 0 [6] [] (.h 0 [7] [] (.h 0 [8] [] (.h 0 [9] [] (.h 0 [10] [] (.h 0 [11] [] (.h 0 [12] [] (.h 0 [13] [] .e .e) .e) .e) .e) .e) .e) .e) .e) .e) .e) (.h 0 [4] [] (.h 0 [5] [] (.h 0 [6] [] (.h 0 [7] [] (.h 0 [8] [] (.h 0 [9] [] (.h 0 [10] [] (.h 0 [11] [] (.h 0 [12] [] (.h 3 [13] [] .e .e) .e) .e) .e) .e) .e) .e) .e) .e) .e)) .e) .e) .e) .e) .e) .e) .e) .e) (.n (.n (.h 0 [11] [0,1,10] (.n (.h 1 [60] [0,1,10,11] (.h 1 [] [] (.h 0 [0] [] (.h 0 [1] [] (.h 0 [2] [] (.h 2 [3] [] (.h 0 [4] [] (.h 0 [5] [] (.h 0 [6] [] (.h 0 [7] [] (.h 0 [8] [] (.h 0 [9] [] (.h 0 [10] [] (.h 0 [11] [] (.h 0 [12] [] (.h 0 [13] [] (.h 0 [14] [] .e .e) .e) .e) .e) .e) .e) .e) .e) .e) .e) .e) (.h 0 [4] [] (.h 0 [5] [] (.h 0 [6] [] (.h 0 [7] [] (.h 0 [8] [] (.h 0 [9] [] (.h 0 [10] [] (.h 0 [11] [] (.h 0 [12] [] (.h 0 [13] [] (.h 3 [14] [] .e .e) .e) .e) .e) .e) .e) .e) .e) .e) .e) .e)) .e) .e) .e) .e) .e) .e) .e) .e) (.n (.n .e (.n (.n (.h 0 [0,1,2,3,4,5,6,7,8,9,10,11,12,13,14,15] [] .e .e) .e) .e)) (.n (.h 0 [0,1,2,3,4,5,6,7,8,9,10,11,12,13,14,15] [] .e .e) (.n .e (.n .e (.n (.n (.h 0 [10,11] [0,1] (.n (.n (.n (.h 0 [10] [0,1,11] (.n (.h 1 [112] [0,1,10,11] (.h 1 [] [] (.h 0 [0] [] (.h 0 [1] [] (.h 0 [2] [] (.h 2 [3] [] (.h 0 [4] [] (.h 0 [5] [] (.h 0 [6] [] (.h 0 [7] [] (.h 0 [8] [] (.h 0 [9] [] (.h 0 [10] [] (.h 0 [11] [] (.h 0 [12] [] (.h 0 [13] [] .e .e) .e) .e) .e) .e) .e) .e) .e) .e) .e) (.h 0 [4] [] (.h 0 [5] [] (.h 0 [6] [] (.h 0 [7] [] (.h 0 [8] [] (.h 0 [9] [] (.h 0 [10] [] (.h 0 [11] [] (.h 0 [12] [] (.h 3 [13] [] .e .e) .e) .e) .e) .e) .e) .e) .e) .e) .e)) .e) .e) .e) .e) .e) .e) .e) .e) (.n (.n (.h 0 [11] [0,1,10] (.n (.h 1 [129] [0,1,10,11] (.h 1 [] [] (.h 0 [0] [] (.h 0 [1] [] (.h 0 [2] [] (.h 2 [3] [] (.h 0 [4] [] (.h 0 [5] [] (.h 0 [6] [] (.h 0 [7] [] (.h 0 [8] [] (.h 0 [9] [] (.h 0 [10] [] (.h 0 [11] [] (.h 0 [12] [] (.h 0 [13] [] (.h 0 [14] [] .e .e) .e) .e) .e) .e) .e) .e) .e) .e) .e) .e) (.h 0 [4] [] (.h 0 [5] [] (.h 0 [6] [] (.h 0 [7] [] (.h 0 [8] [] (.h 0 [9] [] (.h 0 [10] [] (.h 0 [11] [] (.h 0 [12] [] (.h 0 [13] [] (.h 3 [14] [] .e .e) .e) .e) .e) .e) .e) .e) .e) .e) .e) .e)) .e) .e) .e) .e) .e) .e) .e) .e) (.n .e (.n (.h 0 [0,1,2,3,4,5,6,7,8,9,10,11,12,13,14,15] [] .e .e) .e)))) .e) .e) .e) (.n (.h 0 [0,1,2,3,4,5,6,7,8,9,10,11,12,13,14,15] [] .e .e) .e)))))))))))) func143 h zK,
 λh=>cu (hn:=(.n .e (.n .e (.n (.n .e (.n .e (.n .e (.n (.h 0 [9] [0,1,6,7,8] (.n .e (.n (.n (.n .e (.h 1 [10] [0,1,6,7,8,9] .e (.h 0 [0,1,2,3,4,5,6,7,8,9,10,11,12,13,14,15,16,17,18,19] [] .e .e))) .e) .e)) .e) .e)))) .e)))) func137 h zK,
 λh=>cu (hn:=(.n .e (.n (.n (.h 0 [0,1,2,3,4,5,6,7,8] [] .e .e) .e) .e))) func262 h zK,
 λh=>cu (hn:=.e) func210 h zK,
 λh=>cu (hn:=.e) func209 h zK,
 λh=>cu (hn:=(.n .e (.n .e (.n .e (.n .e (.n .e (.n .e (.h 1 [11] [9] (.n .e (.n (.h 1 [10,11,12] [0,9] .e .e) .e)) .e)))))))) func138 h zK,
 λh=>cu (hn:=(.n .e (.n .e (.n (.h 0 [1,2,3,8,9] [0] (.n (.n .e (.n .e (.n .e (.h 1 [3] [0,1,2,8,9,10] .e (.n .e (.h 1 [11,12] [0,1,2,3,8,9,10] .e (.h 1 [] [0,1,2,3,8,9,10,11] (.n (.h 0 [] [1] .e .e) .e) (.n (.h 1 [87] [0,1,2,3,8,9,10,11] (.h 1 [] [] (.h 0 [0] [] (.h 0 [1] [] (.h 2 [2] [] (.h 0 [3] [] (.h 0 [4] [] (.h 0 [5] [] (.h 0 [6] [] (.h 0 [7] [] (.h 0 [8] [] (.h 0 [9] [] (.h 0 [10] [] (.h 0 [11] [] (.h 0 [12] [] (.h 0 [13] [] (.h 0 [14] [] .e .e) .e) .e) .e) .e) .e) .e) .e) .e) .e) .e) .e) (.h 0 [3] [] (.h 0 [4] [] (.h 0 [5] [] (.h 0 [6] [] (.h 0 [7] [] (.h 0 [8] [] (.h 0 [9] [] (.h 0 [10] [] (.h 0 [11] [] (.h 0 [12] [] (.h 0 [13] [] (.h 3 [14] [] .e .e) .e) .e) .e) .e) .e) .e) .e) .e) .e) .e) .e)) .e) .e) .e) .e) .e)))))))) .e) .e) .e)))) func96 h zK⟩
end
section
def SXZ(T:TypeId)(kd:IntKind)(v:zV)(d:Array Int):zV->Hp->Prop:=λr C'=>r=.tuple #[]/\Da T kd v d C'
section
variable {v:zV} {d:Array Int} {C:Hp} {T:TypeId} {kd:IntKind} {zs:Srt} (ok:Fa zs)
include ok in
theorem WS(x:Int)(B:Hp):Rd zQ zs.nan #[.int kd x] B (· =.bool false):=by
 refine aJ λg=>ok.nan ?_;exact ah.cM (br.mk (.refl _) zI)
include ok in
theorem dL(x y:Int)(B:Hp):Rd zQ zs.less #[.int kd x,.int kd y] B (· =.bool (cD x y)):=by
 refine aJ λg=>ok.less ?_;intro J1 hJ1;exact ae.eq (WS ok x B) (Split.NG rfl (aG.mk (ah.lss (aG.mk (JE.mk (hJ1 _ _ λgs=>br.mk (.refl _) rfl))))))
include ok in
theorem z9(h:Da T kd v d C){a b:Nat}(hab:a<=b)(hb:b<=d.size)(cB:d.size<1152921504606846976):Fc zQ zs.D6 #[v,iv (a:Int),iv (b:Int)] C (SXZ T kd v (Sort.insertionSort cD d a b)):=by
 refine aJ λg=>ok.D6 ?_;refine ah.inc (⟨λvs H=>∃(i:Nat) (e:Array Int),vs=[iv (i:Int)]/\a<i/\e.size=d.size/\Sort.insOuter cD a b i e=Sort.insertionSort cD d a b/\Da T kd v e H,λvs _=>d.size-bH vs 0,JE.mk ⟨a+1,d,rfl,by omega,rfl,rfl,h⟩,?_⟩);rintro w H ⟨i,e,hw,hi,hs,he,hd⟩ gs;simp only[xaw,xaW]at hw;subst hw;rw[Sort.insOuter]at he;refine ah.eA (Br.dec (λη=>?_) (λhge=>?_));rotate_left
 ·rw[xac hge]at he;exact aQ.here ⟨rfl,by rw[<-he];exact hd⟩
 rw[xae η]at he;refine⟨λvs H=>∃(j:Nat) (e:Array Int),vs=[iv (j:Int)]/\a<=j/\j<=i/\e.size=d.size/\Sort.insOuter cD a b (i+1) (Sort.insInner cD a j e)=Sort.insertionSort cD d a b/\Da T kd v e H,λvs _=>bH vs 0,JE.mk ⟨i,e,rfl,by omega,xai _,hs,he,hd⟩,?_⟩;clear hd he hs e;rintro w H ⟨j,e,hw,haj,hji,hs,he,hd⟩ gs;simp only[xaw,xaW]at hw;subst hw;intro J hJ;have no:Sort.insInner cD a j e=e->J [.bool false] H:=λhi=>hJ _ _ λgs=>Br.no (ah.inc (aD.mk ⟨i+1,e,rfl,by omega,hs,by rw[hi]at he;exact he,hd⟩ (by simp[bH];omega)));have yes:a<j->Sort.insInner cD a j e=Sort.insInner cD a (j-1) (Sort.swp e j (j-1))->J [.bool true] H:=λhaj hi=>hJ _ _ λgs=>Br.yes (DR.self (ah.cj (b:=1) (ah.cj (b:=1)
  (hd.swap .here zO zO λC' dF=>ah.cj (b:=1) (aD.mk ⟨j-1,_,rfl,by omega,by omega,jm hs,by rw[<-hi];exact he,dF⟩ (by simp[bH];omega))))))
 refine DR.self (ah.nV (Br.dec (λhgt=>?_) λhn=>JE.mk (no (SJ hn))));refine hd.ld (λ_ h=>h) zO (ah.cj (b:=1) (hd.ld (λ_ h=>h) zO λF=>?_));refine ae.eq (dL ok _ _ _) (aG.mk ?_);have hst:=SK (e:=e) hgt;cases hl:cD e[j]! e[j-1]!
 ·rw[hl]at hst;exact JE.mk (no hst)
 rw[hl]at hst;exact JE.mk (yes hgt hst)
include ok in
theorem Wv(h:Da T kd v d C){a b:Nat}(hab:a<b)(hb:b<=d.size)(cB:d.size<1152921504606846976):Fc zQ zs.rev #[v,iv (a:Int),iv (b:Int)] C (SXZ T kd v (Sort.reverseRange d a b)):=by
 refine aJ λg=>ok.rev ?_;refine ah.cj (b:=1) (⟨λvs H=>∃(i j:Nat) (e:Array Int),vs=[iv (i:Int),iv (j:Int)]/\j<d.size/\e.size=d.size/\Sort.reverseLoop i j e=Sort.reverseRange d a b/\Da T kd v e H,λvs _=>bH vs 1-bH vs 0,JE.mk ⟨a,b-1,d,rfl,by omega,rfl,rfl,h⟩,?_⟩);rintro w w' H ⟨i,j,e,hw,hj,hs,he,hd⟩ gs;simp only[xaw,xaW]at hw;obtain⟨rfl,rfl⟩:=hw;rw[Sort.reverseLoop]at he;refine ah.eA (Br.dec (λη=>?_) (λhge=>?_));rotate_left
 ·rw[xac hge]at he;exact aQ.here ⟨rfl,by rw[<-he];exact hd⟩
 rw[xae η]at he;refine DR.self (hd.swap .here zO zO λC' dF=>?_);exact ah.inc (ah.cj (b:=1) (aD.mk ⟨i+1,j-1,_,rfl,by omega,jm hs,he,dF⟩ (by simp[bH];omega)))
include ok in
theorem R4(h:Da T kd v d C){a b:Nat}(hab:a<b)(hb:b<=d.size)(cB:d.size<1152921504606846976):Fc zQ zs.pins #[v,iv (a:Int),iv (b:Int)] C (λr C'=>r=.bool (Sort.partialInsertionSort cD d a b).2/\Da T kd v (Sort.partialInsertionSort cD d a b).1 C'):=by
 refine aJ λg=>ok.pins ?_;refine ah.inc ?_;have fin:∀{e:Array Int} {t:Bool} {H:Hp},(e,t)=Sort.partialInsertionSort cD d a b->Da T kd v e H->aQ (λr C'=>r=.bool (Sort.partialInsertionSort cD d a b).2/\Da T kd v (Sort.partialInsertionSort cD d a b).1 C') (.returned (.bool t)) H:=λhe hd=>by
  rw[<-he];exact aQ.here ⟨rfl,hd⟩
 refine⟨λvs H=>∃(i k:Nat) (e:Array Int),vs=[iv (i:Int),iv (k:Int)]/\k<=5/\a<i/\i<=b/\e.size=d.size/\Sort.partialIns cD a b (5-k) i e=Sort.partialInsertionSort cD d a b/\Da T kd v e H,λvs _=>5-bH vs 1,JE.mk ⟨a+1,0,d,rfl,by omega,by omega,by omega,rfl,rfl,h⟩,?_⟩;rintro w w' H ⟨i0,k,e,hw,hk5,VK,Ac,hs,he,hd⟩ gs;simp only[xaw,xaW]at hw;obtain⟨rfl,rfl⟩:=hw;refine ah.eA (b:=5) (Br.dec (λhk=>?_) (λhk=>?_));rotate_left
 ·obtain rfl:k=5:=by omega
  exact fin he hd
 rw[show 5-k=(5-(k+1))+1 by omega,Sort.partialIns_succ]at he;intro J9 TW;refine⟨λvs H=>∃i:Nat,vs=[iv (i:Int)]/\a<i/\i<=b/\Sort.scanSorted cD e b i=Sort.scanSorted cD e b i0/\Da T kd v e H,λvs _=>b-bH vs 0,JE.mk ⟨i0,rfl,VK,Ac,rfl,hd⟩,?_⟩;clear hd VK Ac;rintro w H ⟨i,hw,VK,Ac,hsc,hd⟩ gs;simp only[xaw,xaW]at hw;subst hw;rw[<-hsc]at he;rw[Sort.scanSorted]at hsc;intro J19 aeQ;have yes:i<b->(!cD e[i]! e[i-1]!)=true->J19 [.bool true] H:=λη hl=>aeQ _ _ λgs=>Br.yes (ah.inc (aD.mk ⟨i+1,rfl,by omega,by omega,by rw[<-hsc,xam η,hl];rfl,hd⟩ (by simp[bH];omega)));have no:Sort.scanSorted cD e b i=i->J19 [.bool false] H:=λhi=>by
  rw[hi]at he;refine aeQ _ _ λgs=>Br.no ?_;refine ah.fc (Br.dec (λhz=>?_) (λξ=>?_))
  ·rw[xae hz]at he;exact fin he hd
  rw[xac ξ]at he;refine ah.cj (ah.eA (b:=50) (Br.dec (λhz=>?_) (λhz=>?_)))
  ·rw[xae hz]at he;exact fin he hd
  rw[xac hz]at he;refine DR.self (ah.cj (b:=1) (ah.cj (b:=1) (hd.swap .here zO zO λC1 QI=>?_)));have u5:(Sort.swp e i (i-1)).size=d.size:=jm hs;generalize Sort.swp e i (i-1)=e1 at QI u5 he;intro J38 aiH;have next:∀(f:Array Int) H',f.size=d.size->f=Sort.fixUp cD b i (Sort.fixDown cD a i e1)->Da T kd v f H'->J9 [iv (i:Int)] H':=λf H' h1 h2 dF=>TW _ _ λgs=>ah.inc (aD.mk ⟨i,k+1,f,rfl,by omega,VK,Ac,h1,by rw[h2];exact he,dF⟩ (by simp[bH];omega))
  have tail:∀(f:Array Int) H',f.size=d.size->f=Sort.fixDown cD a i e1->Da T kd v f H'->J38 [] H':=λf H' h1 h2 dF=>by
   refine aiH _ λgs=>?_;rw[<-h2]at next
   unfold Sort.fixUp at next
   refine ah.cj (ah.uo (b:=2) (Br.dec (λh2=>?_) (λh2=>JE.mk (next f _ h1 (by rw[xac h2]) dF))));rw[xae h2]at next
   refine ah.inc (⟨λvs H=>∃(j:Nat) (q:Array Int),vs=[iv (j:Int)]/\0<j/\q.size=d.size/\Sort.shiftUp cD b j q=Sort.shiftUp cD b (i+1) f/\Da T kd v q H,λvs _=>b-bH vs 0,JE.mk ⟨i+1,f,rfl,by omega,h1,rfl,dF⟩,?_⟩);rintro w H ⟨j,q,hw,hj0,hsq,hq,G0⟩ gs;simp only[xaw,xaW]at hw;subst hw;rw[Sort.shiftUp]at hq;refine ah.eA (Br.dec (λη=>?_) (λhge=>?_));rotate_left
   ·rw[xac hge]at hq;exact JE.mk (next q _ hsq hq G0)
   rw[xae η]at hq;refine DR.self (G0.ld (λ_ h=>h) zO (ah.cj (b:=1) (G0.ld (λ_ h=>h) zO (ae.eq (dL ok _ _ _) (Un.not ?_)))));cases hl:cD q[j]! q[j-1]!
   ·rw[hl]at hq;exact Br.yes (JE.mk (next q _ hsq hq G0))
   rw[hl]at hq;refine Br.no (DR.self (ah.cj (b:=1) (ah.cj (b:=1) (G0.swap .here zO zO λC2 yK=>?_))));exact ah.inc (aD.mk ⟨j+1,_,rfl,by omega,jm hsq,hq,yK⟩ (by simp[bH];omega))
  unfold Sort.fixDown at tail;refine ah.cj (ah.uo (b:=2) (Br.dec (λh2=>?_) (λh2=>JE.mk (tail e1 _ u5 (by rw[xac h2]) QI))));rw[xae h2]at tail;refine ah.cj (b:=1) (⟨λvs H=>∃(j:Nat) (q:Array Int),vs=[iv (j:Int)]/\j<d.size/\q.size=d.size/\Sort.shiftDown cD j q=Sort.shiftDown cD (i-1) e1/\Da T kd v q H,λvs _=>bH vs 0,JE.mk ⟨i-1,e1,rfl,by omega,u5,rfl,QI⟩,?_⟩);rintro w H ⟨j,q,hw,hj0,hsq,hq,G0⟩ gs;simp only[xaw,xaW]at hw;subst hw;refine ah.uo (b:=1) (Br.dec (λη=>?_) (λhge=>JE.mk (tail q _ hsq (by rw[<-hq,OH hge]) G0)));rw[tE η]at hq;refine DR.self (G0.ld (λ_ h=>h) zO (ah.cj (b:=1) (G0.ld (λ_ h=>h) zO (ae.eq (dL ok _ _ _) (Un.not ?_)))));cases hl:cD q[j]! q[j-1]!
  ·rw[hl]at hq;exact Br.yes (JE.mk (tail q _ hsq hq G0))
  rw[hl]at hq;refine Br.no (DR.self (ah.cj (b:=1) (ah.cj (b:=1) (G0.swap .here zO zO λC2 yK=>?_))));exact ah.cj (b:=1) (aD.mk ⟨j-1,_,rfl,by omega,jm hsq,hq,yK⟩ (by simp[bH];omega))
 refine DR.self (ah.eA (Br.dec (λη=>?_) λhge=>JE.mk (no (by rw[Sort.scanSorted,xac zP]))));refine hd.ld (λ_ h=>h) zO (ah.cj (b:=1) (hd.ld (λ_ h=>h) zO λF=>?_));refine ae.eq (dL ok _ _ _) (Un.not (aG.mk ?_));cases hl:cD e[i]! e[i-1]!
 ·exact JE.mk (yes η (by rw[hl];rfl))
 exact JE.mk (no (by rw[Sort.scanSorted,hl,xac zI]))
include ok in
theorem Gj(h:Da T kd v d C){a b p:Nat}(hp:a<=p/\p<b)(hb:b<=d.size)(cB:d.size<1152921504606846976):Fc zQ zs.wh #[v,iv (a:Int),iv (b:Int),iv (p:Int)] C
  (λr C'=>r=iv ((Sort.partitionEqual cD d a b p).1:Nat)/\Da T kd v (Sort.partitionEqual cD d a b p).2 C'):=by
 refine aJ λg=>ok.wh ?_;refine DR.self (h.swap .here zO zO λC1 hd=>?_);refine ah.inc (ah.cj (b:=1) (⟨λvs H=>∃(i j:Nat) (e:Array Int),vs=[iv (i:Int),iv (j:Int)]/\a<i/\i<=b/\a<=j/\j<b/\e.size=d.size/\Sort.partEqLoop cD a i j e=Sort.partitionEqual cD d a b p/\Da T kd v e H,λvs _=>b-bH vs 0,JE.mk ⟨a+1,b-1,_,rfl,by omega,by omega,by omega,by omega,jm rfl,rfl,hd⟩,?_⟩));clear hd;rintro w w' H0 ⟨i0,j0,e,hw,VK,Ac,haj,hjb,hs,he,hd⟩ gs;simp only[xaw,xaW]at hw;obtain⟨rfl,rfl⟩:=hw;rw[Sort.partEqLoop_eq]at he;refine⟨λvs H=>∃i:Nat,vs=[iv (i:Int)]/\i0<=i/\i<=b/\Sort.scanUp (λx=> !cD e[a]! x) e j0 i=Sort.scanUp (λx=> !cD e[a]! x) e j0 i0/\Da T kd v e H,λvs _=>b-bH vs 0,JE.mk ⟨i0,rfl,xai _,Ac,rfl,hd⟩,?_⟩;clear hd Ac;rintro w H ⟨i,hw,GW,Ac,hsc,hd⟩ gs;simp only[xaw,xaW]at hw;subst hw;rw[<-hsc]at he;rw[Sort.scanUp]at hsc;intro J23 aeP;have yes:i<=j0->(!cD e[a]! e[i]!)=true->J23 [.bool true] H:=λhle hl=>aeP _ _ λgs=>Br.yes (ah.inc (aD.mk ⟨i+1,rfl,by omega,by omega,by rw[<-hsc,xam hle,hl];rfl,hd⟩ (by simp[bH];omega)));have no:Sort.scanUp (λx=> !cD e[a]! x) e j0 i=i->J23 [.bool false] H:=λhi=>by
  rw[hi]at he;refine aeP _ _ λgs=>Br.no ?_;refine⟨λvs H=>∃j:Nat,vs=[iv (j:Int)]/\a<=j/\j<b/\Sort.scanDown (λx=>cD e[a]! x) e i j=Sort.scanDown (λx=>cD e[a]! x) e i j0/\Da T kd v e H,λvs _=>bH vs 0,JE.mk ⟨j0,rfl,haj,hjb,rfl,hd⟩,?_⟩;rintro w H' ⟨j,hw,ain,ahO,Xt,dF⟩ gs;simp only[xaw,xaW]at hw;subst hw;rw[<-Xt]at he;intro J33 XR;have ML:i<=j->cD e[a]! e[j]! =true->J33 [.bool true] H':=λhle hl=>XR _ _ λgs=>Br.yes (ah.cj (b:=1) (aD.mk ⟨j-1,rfl,by omega,by omega,by rw[<-Xt,fK (j:=j) zO,xam hle,hl];rfl,dF⟩ (by simp[bH];omega)));have YO:Sort.scanDown (λx=>cD e[a]! x) e i j=j->J33 [.bool false] H':=λhj=>by
   rw[hj]at he;refine XR _ _ λgs=>Br.no ?_;refine ah.nV (Br.dec (λhgt=>?_) (λhle=>?_))
   ·rw[xae hgt]at he;exact aQ.here (by rw[<-he];exact⟨rfl,dF⟩)
   rw[xac hle]at he;refine DR.self (dF.swap .here zO zO λC2 yK=>?_);exact ah.inc (ah.cj (b:=1) (aD.mk ⟨i+1,j-1,_,rfl,by omega,by omega,by omega,by omega,jm hs,he,yK⟩ (by simp[bH];omega)))
  refine DR.self (ah.By (Br.dec (λhle=>?_) λhgt=>JE.mk (YO ?_)));rotate_left
  ·by_cases h0:j=0
   ·subst h0;rfl
   rw[fK zO,xac zP]
  refine dF.ld (λ_ h=>h) zO ?_;refine dF.ld (λ_ h=>h) zO ?_;intro F;refine ae.eq (dL ok _ _ _) (aG.mk ?_);cases hl:cD e[a]! e[j]!
  ·exact JE.mk (YO (by rw[fK zO,hl,xac zI]))
  exact JE.mk (ML hle hl)
 refine DR.self (ah.By (Br.dec (λhle=>?_) λhgt=>JE.mk (no (by rw[Sort.scanUp,xac zP]))));refine hd.ld (λ_ h=>h) zO (hd.ld (λ_ h=>h) zO λF=>?_);refine ae.eq (dL ok _ _ _) (Un.not (aG.mk ?_));cases hl:cD e[a]! e[i]!
 ·exact JE.mk (yes hle (by rw[hl];rfl))
 exact JE.mk (no (by rw[Sort.scanUp,hl,xac zI]))
end
section
variable {v:zV} {d:Array Int} {C:Hp} {T:TypeId} {kd:IntKind} {zs:Srt} (ok:Fa zs)
include ok in
theorem R6(h:Da T kd v d C){a b p:Nat}(hp:a<=p/\p<b)(hb:b<=d.size)(cB:d.size<1152921504606846976):Fc zQ zs.part #[v,iv (a:Int),iv (b:Int),iv (p:Int)] C
  (λr C'=>r=.tuple #[iv ((Sort.partition cD d a b p).1:Nat),.bool (Sort.partition cD d a b p).2.1]/\Da T kd v (Sort.partition cD d a b p).2.2 C'):=by
 obtain⟨R,hR⟩:∃R,R=Sort.partition cD d a b p:=⟨_,rfl⟩;rw[<-hR];refine aJ λg=>ok.part ?_;refine DR.self (h.swap .here zO zO λC1 hd=>?_);have hs:(Sort.swp d a p).size=d.size:=jm rfl;have fin:∀{m:Nat} {t:Bool} {e:Array Int} {H:Hp},(m,t,e)=R->Da T kd v e H->aQ (λr C'=>r=.tuple #[iv (R.1:Nat),.bool R.2.1]/\Da T kd v R.2.2 C') (.returned (.tuple #[iv (m:Int),.bool t])) H:=λhe hd=>by
  rw[<-he];exact aQ.here ⟨rfl,hd⟩
 unfold Sort.partition at hR;simp only at hR;generalize Sort.swp d a p=e at hd hs hR;refine ah.inc (ah.cj (b:=1) (⟨λvs H=>∃i:Nat,vs=[iv (i:Int)]/\a<i/\i<=b/\Sort.scanUp (λx=>cD x e[a]!) e (b-1) i=Sort.scanUp (λx=>cD x e[a]!) e (b-1) (a+1)/\Da T kd v e H,λvs _=>b-bH vs 0,JE.mk ⟨a+1,rfl,by omega,by omega,rfl,hd⟩,?_⟩));clear hd;rintro w H ⟨i,hw,VK,Ac,hsc,hd⟩ gs;simp only[xaw,xaW]at hw;subst hw;rw[<-hsc]at hR;rw[Sort.scanUp]at hsc;intro J17 He;have yes:i<b->cD e[i]! e[a]! =true->J17 [.bool true] H:=λhle hl=>He _ _ λgs=>Br.yes (ah.inc (aD.mk ⟨i+1,rfl,by omega,by omega,by rw[<-hsc,xam (show i<=b-1 by omega),hl];rfl,hd⟩ (by simp[bH];omega)));have no:Sort.scanUp (λx=>cD x e[a]!) e (b-1) i=i->J17 [.bool false] H:=λhi=>by
  rw[hi]at hR;refine He _ _ λgs=>Br.no ?_;refine⟨λvs H=>∃j:Nat,vs=[iv (j:Int)]/\a<=j/\j<b/\Sort.scanDown (λx=> !cD x e[a]!) e i j=Sort.scanDown (λx=> !cD x e[a]!) e i (b-1)/\Da T kd v e H,λvs _=>bH vs 0,JE.mk ⟨b-1,rfl,by omega,by omega,rfl,hd⟩,?_⟩;clear hd;rintro w H ⟨j,hw,haj,hjb,Xt,hd⟩ gs;simp only[xaw,xaW]at hw;subst hw;rw[<-Xt]at hR;intro J27 abm;have ML:i<=j->(!cD e[j]! e[a]!)=true->J27 [.bool true] H:=λhle hl=>abm _ _ λgs=>Br.yes (ah.cj (b:=1) (aD.mk ⟨j-1,rfl,by omega,by omega,by rw[<-Xt,fK (j:=j) zO,xam hle,hl];rfl,hd⟩ (by simp[bH];omega)));have YO:Sort.scanDown (λx=> !cD x e[a]!) e i j=j->J27 [.bool false] H:=λhj=>by
   rw[hj]at hR;refine abm _ _ λgs=>Br.no ?_;refine ah.nV (Br.dec (λhgt=>?_) (λhle=>?_))
   ·rw[xae hgt]at hR;refine DR.self (hd.swap .here zO zO λC2 yK=>?_);exact fin hR.symm yK
   rw[xac hle]at hR;refine DR.self (hd.swap .here zO zO λC2 yK=>?_);refine ah.inc (ah.cj (b:=1) ?_);obtain⟨L,hL⟩:∃L,L=Sort.partLoop cD a (i+1) (j-1) (Sort.swp e i j):=⟨_,rfl⟩;rw[<-hL]at hR;have tq:(Sort.swp e i j).size=d.size:=jm hs;generalize Sort.swp e i j=e0 at hL yK tq;refine⟨λvs H=>∃(i j:Nat) (e:Array Int),vs=[iv (i:Int),iv (j:Int)]/\a<i/\i<=b/\a<=j/\j<b/\e.size=d.size/\L=Sort.partLoop cD a i j e/\Da T kd v e H,λvs _=>b-bH vs 0,JE.mk ⟨i+1,j-1,e0,rfl,by omega,by omega,by omega,by omega,tq,hL,yK⟩,?_⟩;clear yK hd VK Ac haj hjb hle ML abm J27 He J17 yes hL tq hs hsc hi Xt hj;rintro w w' H0 ⟨i0,j0,e,hw,VK,Ac,haj,hjb,hs,he,hd⟩ gs;simp only[xaw,xaW]at hw;obtain⟨rfl,rfl⟩:=hw;rw[Sort.partLoop_eq]at he;refine⟨λvs H=>∃i:Nat,vs=[iv (i:Int)]/\i0<=i/\i<=b/\Sort.scanUp (λx=>cD x e[a]!) e j0 i=Sort.scanUp (λx=>cD x e[a]!) e j0 i0/\Da T kd v e H,λvs _=>b-bH vs 0,JE.mk ⟨i0,rfl,xai _,Ac,rfl,hd⟩,?_⟩;clear hd Ac;rintro w H ⟨i,hw,GW,Ac,hsc,hd⟩ gs;simp only[xaw,xaW]at hw;subst hw;rw[<-hsc]at he;rw[Sort.scanUp]at hsc;intro J64 aeN;have yes:i<=j0->cD e[i]! e[a]! =true->J64 [.bool true] H:=λhle hl=>aeN _ _ λgs=>Br.yes (ah.inc (aD.mk ⟨i+1,rfl,by omega,by omega,by rw[<-hsc,xam hle,hl];rfl,hd⟩ (by simp[bH];omega)));have no:Sort.scanUp (λx=>cD x e[a]!) e j0 i=i->J64 [.bool false] H:=λhi=>by
    rw[hi]at he;refine aeN _ _ λgs=>Br.no ?_;refine⟨λvs H=>∃j:Nat,vs=[iv (j:Int)]/\a<=j/\j<b/\Sort.scanDown (λx=> !cD x e[a]!) e i j=Sort.scanDown (λx=> !cD x e[a]!) e i j0/\Da T kd v e H,λvs _=>bH vs 0,JE.mk ⟨j0,rfl,haj,hjb,rfl,hd⟩,?_⟩;rintro w H' ⟨j,hw,ain,ahO,Xt,dF⟩ gs;simp only[xaw,xaW]at hw;subst hw;rw[<-Xt]at he;intro J74 aeM;have ML:i<=j->(!cD e[j]! e[a]!)=true->J74 [.bool true] H':=λhle hl=>aeM _ _ λgs=>Br.yes (ah.cj (b:=1) (aD.mk ⟨j-1,rfl,by omega,by omega,by rw[<-Xt,fK (j:=j) zO,xam hle,hl];rfl,dF⟩ (by simp[bH];omega)));have YO:Sort.scanDown (λx=> !cD x e[a]!) e i j=j->J74 [.bool false] H':=λhj=>by
     rw[hj]at he;refine aeM _ _ λgs=>Br.no ?_;refine ah.nV (Br.dec (λhgt=>?_) (λhle=>?_))
     ·rw[xae hgt]at he;rw[he]at hR;refine DR.self (dF.swap .here zO zO λC2 yK=>?_);exact fin hR.symm yK
     rw[xac hle]at he;refine DR.self (dF.swap .here zO zO λC2 yK=>?_);exact ah.inc (ah.cj (b:=1) (aD.mk ⟨i+1,j-1,_,rfl,by omega,by omega,by omega,by omega,jm hs,he,yK⟩ (by simp[bH];omega)))
    refine DR.self (ah.By (Br.dec (λhle=>?_) λhgt=>JE.mk (YO ?_)));rotate_left
    ·by_cases h0:j=0
     ·subst h0;rfl
     rw[fK zO,xac zP]
    refine dF.ld (λ_ h=>h) zO ?_;refine dF.ld (λ_ h=>h) zO ?_;intro F;refine ae.eq (dL ok _ _ _) (Un.not (aG.mk ?_));cases hl:cD e[j]! e[a]!
    ·exact JE.mk (ML hle (by rw[hl];rfl))
    exact JE.mk (YO (by rw[fK zO,hl,xac zI]))
   refine DR.self (ah.By (Br.dec (λhle=>?_) λhgt=>JE.mk (no (by rw[Sort.scanUp,xac zP]))));refine hd.ld (λ_ h=>h) zO (hd.ld (λ_ h=>h) zO λF=>?_);refine ae.eq (dL ok _ _ _) (aG.mk ?_);cases hl:cD e[i]! e[a]!
   ·exact JE.mk (no (by rw[Sort.scanUp,hl,xac zI]))
   exact JE.mk (yes hle hl)
  refine DR.self (ah.By (Br.dec (λhle=>?_) λhgt=>JE.mk (YO ?_)));rotate_left
  ·by_cases h0:j=0
   ·subst h0;rfl
   rw[fK zO,xac zP]
  refine hd.ld (λ_ h=>h) zO (hd.ld (λ_ h=>h) zO λF=>?_);refine ae.eq (dL ok _ _ _) (Un.not (aG.mk ?_));cases hl:cD e[j]! e[a]!
  ·exact JE.mk (ML hle (by rw[hl];rfl))
  exact JE.mk (YO (by rw[fK zO,hl,xac zI]))
 refine DR.self (ah.By (Br.dec (λhle=>?_) λhgt=>JE.mk (no (by rw[Sort.scanUp,xac zP]))));refine hd.ld (λ_ h=>h) zO (hd.ld (λ_ h=>h) zO λF=>?_);refine ae.eq (dL ok _ _ _) (aG.mk ?_);cases hl:cD e[i]! e[a]!
 ·exact JE.mk (no (by rw[Sort.scanUp,hl,xac zI]))
 exact JE.mk (yes zO hl)
include ok in
theorem Ds(h:Da T kd v d C){lo hi f:Nat}(hlo:lo<=d.size)(hb:f+hi<=d.size)(cB:d.size<1152921504606846976):Fc zQ zs.Nk #[v,iv (lo:Int),iv (hi:Int),iv (f:Int)] C (SXZ T kd v (Sort.siftDown cD hi f lo d)):=by
 refine aJ λg=>ok.Nk ?_;refine⟨λvs H=>∃(i:Nat) (e:Array Int),vs=[iv (i:Int)]/\i<=d.size/\e.size=d.size/\Sort.siftDown cD hi f i e=Sort.siftDown cD hi f lo d/\Da T kd v e H,λvs _=>d.size-bH vs 0,JE.mk ⟨lo,d,rfl,hlo,rfl,rfl,h⟩,?_⟩;rintro w H ⟨r,e,hw,hr,hs,he,hd⟩ gs;simp only[xaw,xaW]at hw;subst hw;refine ah.yC (a:=2) (ah.inc (ah.uo (Br.dec (λhge=>?_) (λη=>?_))))
 ·rw[Nj hge]at he;exact aQ.here ⟨rfl,by rw[<-he];exact hd⟩
 have LO:=λc=>Wp (c:=c) (d:=e) (f:=f) (show 2*r+1<hi by omega);intro J9 TW;have go:∀c:Nat,r<c->c<hi->(c=if(decide (2*r+1+1<hi) &&cD e[f+(2*r+1)]! e[f+(2*r+1)+1]!)=true then 2*r+2 else 2*r+1)->J9 [iv (c:Int)] H:=λc hrc am9 hc=>by
  rw[LO c hc]at he;refine TW _ _ λgs=>?_;refine DR.self (ah.fT (hd.ld (λ_ h=>h) zO (ah.fT (hd.ld (λ_ h=>h) zO (ae.eq (dL ok _ _ _) (Un.not ?_))))));cases hl:cD e[f+r]! e[f+c]!
  ·rw[hl]at he;exact Br.yes (aQ.here ⟨rfl,by rw[<-he];exact hd⟩)
  rw[hl]at he;refine Br.no (DR.self (ah.fT (ah.fT (ah.fT (hd.YJ .here (i:=f+r) (j:=f+c) (B:=λk=>ah .num .add (iv (f:Int)) (iv (r:Int)) k) zO zO (λk hk=>ah.fT hk) λC1 QI=>?_)))));exact aD.mk ⟨c,_,rfl,by omega,jm hs,he,QI⟩ (by simp[bH];omega)
 intro J36 aeO;have stay:(decide (2*r+1+1<hi) &&cD e[f+(2*r+1)]! e[f+(2*r+1)+1]!)=false->J36 [.bool false] H:=λhc=>aeO _ _ λgs=>Br.no (JE.mk (go _ zO zO (by rw[hc];rfl)));refine DR.self (ah.inc (ah.eA (Br.dec (λhc=>?_) λhc=>JE.mk (stay (by rw[xan hc];rfl)))));refine ah.fT (hd.ld (λ_ h=>h) zO (ah.fT (ah.inc (hd.ld (λ_ h=>h) zO λF=>?_))));refine ae.eq (dL ok _ _ _) (aG.mk ?_);cases hl:cD e[f+(2*r+1)]! e[f+(2*r+1)+1]!
 ·exact JE.mk (stay (by rw[hl,xdX]))
 exact JE.mk (aeO _ _ λgs=>Br.yes (ah.inc (JE.mk (go _ zO hc (by rw[hl,xam hc];rfl)))))
include ok in
theorem Of(h:Da T kd v d C){a b:Nat}(hab:a<b)(hb:b<=d.size)(cB:d.size<1152921504606846976):Fc zQ zs.heap #[v,iv (a:Int),iv (b:Int)] C (SXZ T kd v (Sort.heapSort cD d a b)):=by
 refine aJ λg=>ok.heap ?_;obtain⟨B,hB⟩:∃B,B=Sort.heapBuild cD (b-a) a ((b-a-1) /2+1) d:=⟨_,rfl⟩;have hH:Sort.heapSort cD d a b=Sort.heapPop cD a (b-a) B:=by rw[hB];rfl
 rw[hH];refine ah.cj (ah.cj (b:=1) (ah.Hl (b:=2) (by simp[bI];omega) zO (⟨λvs H=>∃(q:Int) (e:Array Int),vs=[iv q]/\ -1<=q/\q<(b:Int) -a/\e.size=d.size/\B=Sort.heapBuild cD (b-a) a (q+1).toNat e/\Da T kd v e H,λvs _=>up1 vs,JE.mk ⟨(((b-a-1) /2:Nat):Int),d,rfl,by omega,by omega,rfl,hB,h⟩,?_⟩)));clear hB hH;rintro w H ⟨q,e,hw,Xu,hq2,hs,he,hd⟩ gs;simp only[xaw,xaW]at hw;subst hw;refine ah.geq (Br.dec (λh0=>?_) (λhn=>?_))
 ·obtain⟨i,rfl⟩:∃i:Nat,q=i:=⟨q.toNat,by omega⟩;rw[show((i:Int)+1).toNat=i+1 by omega,Sort.heapBuild]at he;refine ae.fq (Ds ok hd zO zO zO) ?_;rintro w C1 ⟨rfl,QI⟩;exact ah.mc (c:=(i:Int) -1) rfl zO (aD.mk ⟨(i:Int) -1,_,rfl,by omega,by omega,by rw[La];exact hs,by rw[show((i:Int) -1+1).toNat=i by omega];exact he,QI⟩ (by rw[A3,A3];omega))
 obtain rfl:q= -1:=by omega
 have he:B=e:=he;subst he;refine ah.cj (b:=1) (⟨λvs H=>∃(q:Int) (e:Array Int),vs=[iv q]/\ -1<=q/\q<(b:Int) -a/\e.size=d.size/\Sort.heapPop cD a (q+1).toNat e=Sort.heapPop cD a (b-a) B/\Da T kd v e H,λvs _=>up1 vs,JE.mk ⟨((b-a-1:Nat):Int),B,rfl,by omega,by omega,hs,by rw[show(((b-a-1:Nat):Int)+1).toNat=b-a by omega],hd⟩,?_⟩);clear hd hs hn;rintro w H ⟨q,e,hw,Xu,hq2,hs,he,hd⟩ gs;simp only[xaw,xaW]at hw;subst hw;refine ah.geq (Br.dec (λh0=>?_) (λhn=>?_));rotate_left
 ·obtain rfl:q= -1:=by omega
  have he:e=Sort.heapPop cD a (b-a) B:=he;exact aQ.here ⟨rfl,by rw[<-he];exact hd⟩
 obtain⟨i,rfl⟩:∃i:Nat,q=i:=⟨q.toNat,by omega⟩;rw[show((i:Int)+1).toNat=i+1 by omega,Sort.heapPop]at he;refine DR.self (ah.fT (ah.fT (hd.swap .here zO zO λC1 QI=>?_)));have u5:(Sort.swp e a (a+i)).size=d.size:=jm hs;refine ae.fq (Ds ok QI (lo:=0) zO zO zO) ?_;rintro w C2 ⟨rfl,yK⟩;exact ah.mc (c:=(i:Int) -1) rfl zO (aD.mk ⟨(i:Int) -1,_,rfl,by omega,by omega,by rw[La];exact u5,by rw[show((i:Int) -1+1).toNat=i by omega];exact he,yK⟩ (by rw[A3,A3];omega))
end
section
variable {v:zV} {d:Array Int} {C:Hp} {T:TypeId} {kd:IntKind} {zs:Srt} (ok:Fa zs)
variable{b:Nat}
def xlt{a:Nat}(ha:a<18446744073709551616)(hb:b<18446744073709551616):a^^^b<18446744073709551616:=Nat.xor_lt_two_pow (n:=64) ha hb
def QZ(b x:Nat)(hx:x<18446744073709551616):Fc zQ 208 #[γ b] [(b,.cells #[.int .u64 (x:Int)] 276 zZ)]
  (λr H=>∃y:Nat,y<18446744073709551616/\r=.int .u64 (y:Int)/\H=[(b,.cells #[.int .u64 (y:Int)] 276 zZ)]):=by
 refine aJ λg=>I6 (DR.self (Nil.γ (Ld.q ?_)));refine Nil.γ (Ld.q ?_);refine ah.oc (b:=13) (ah.ZK hx (xbJ _ zD) ?_);have h1:=xlt hx (xbJ (x<<<13) (show 0<18446744073709551616 by decide));generalize x^^^x<<<13%18446744073709551616=x1 at h1;refine Nil.γ (St.one (by exact .head _) rfl zI rfl ?_);refine DR.self (Nil.γ (Ld.q ?_));refine Nil.γ (Ld.q ?_);apply ah.iW (b:=7) h1;have h2:x1>>>7<18446744073709551616:=by rw[xa0];omega
 apply ah.ZK h1 h2;have h3:=xlt h1 h2;generalize x1^^^x1>>>7=x2 at h3;refine Nil.γ (St.one (by exact .head _) rfl zI rfl ?_);refine DR.self (Nil.γ (Ld.q ?_));refine Nil.γ (Ld.q ?_);refine ah.oc (b:=17) (ah.ZK h3 (xbJ _ zD) ?_);have h4:=xlt h3 (xbJ (x2<<<17) (show 0<18446744073709551616 by decide));generalize x2^^^x2<<<17%18446744073709551616=x3 at h4;refine Nil.γ (St.one (by exact .head _) rfl zI rfl ?_);refine Nil.γ (Ld.q ?_);exact aQ.here ⟨x3,h4,rfl,rfl⟩
def B6{x:Nat}(hx:x<18446744073709551616)(B:Hp):Rd zQ 97 #[.int .u64 (x:Int)] B (λv=>∃r:Nat,AY x r/\v=iv (r:Int)):=by refine aJ λg=>Pa (Br.no (ae.rq (Ss hx B) ?_));rintro w hw;exact br.mk (.refl _) hw
def WM{x:Nat}(h0:0<x)(hx:x<1152921504606846976)(B:Hp):Rd zQ 207 #[iv (x:Int)] B (λv=>∃r:Nat,0<r/\r<=2*x/\v=.int .u64 (r:Int)):=by
 refine aJ λg=>I7 (bu.q (ae.rq (B6 zO B) ?_));rintro w ⟨r,hr,rfl⟩;have Qz:0<r:=by
  rcases Nat.eq_zero_or_pos r with e|e
  ·subst e;have:=hr.1;omega
  exact e
 have h2:2^(r-1)<=x:=by
  rcases hr.2 with e|e
  ·omega
  exact e
 have h3:2^r=2*2^(r-1):=by
  obtain⟨k,rfl⟩:∃k,r=k+1:=⟨r-1,by omega⟩;rw[xcc,xee];omega
 apply ah.oc (a:=1);have e:1<<<r%18446744073709551616=2^r:=by
  rw[xcp,xdn];exact xbl zO
 rw[e];exact br.mk (.refl _) ⟨2^r,xbx r,by omega,rfl⟩
include ok in
theorem Yf(h:Da T kd v d C){a:Nat}(hab:a<b)(hb:b<=d.size)(cB:d.size<1152921504606846976):Fc zQ zs.brk #[v,iv (a:Int),iv (b:Int)] C (λr C'=>r=.tuple #[]/\∃e,Sort.PermIn a b d e/\Da T kd v e C'):=by
 refine aJ λg=>ok.brk ?_;refine ah.cj (ah.uo (b:=8) (Br.dec (λh8=>?_) (λ_=>aQ.here ⟨rfl,d,Sort.permIn_refl _ _ _,h⟩)));refine bu.q λb4 _=>(St.one (by exact .head _) rfl zI rfl ?_);refine ae.rq (WM zO zO C) ?_;rintro w ⟨m,hm0,hm,rfl⟩;refine ah.Hl (b:=4) (by simp[bI];omega) zO (ah.yC (b:=2) (ah.fT (ah.cj (b:=1) ?_)));refine⟨λvs H=>∃(i x:Nat) (C':Hp) (e:Array Int),vs=[iv (i:Int)]/\a<=i/\x<18446744073709551616/\H=(b4,.cells #[.int .u64 (x:Int)] 276 zZ)::C'/\Sort.PermIn a b d e/\Da T kd v e C',λvs _=>b-bH vs 0,
  JE.mk ⟨_,b-a,C,d,rfl,by omega,by omega,rfl,Sort.permIn_refl _ _ _,h⟩,?_⟩
 rintro w H ⟨i,x,C',e,hw,VK,hx,rfl,hp,hd⟩ gs;simp only[xaw,xaW]at hw;subst hw;have hs:=hp.1;refine ah.Hl (b:=4) (by simp[bI];omega) zO (ah.yC (b:=2) (ah.fT (ah.inc (ah.By (Br.dec (λhle=>?_) (λ_=>aQ.mk .tail ⟨rfl,e,hp,hd⟩))))));refine ae.fn (.left (A:=C')) (QZ b4 x hx) ?_;rintro w H' ⟨y,hy,rfl,rfl⟩;refine ah.cj (b:=1) (ah.jU (by simp[bI];omega) (by simp[bI];omega) ?_);have hand:y&&& (m-1)<m:=by have:=xda (n:=y) (m:=m-1);omega
 generalize y&&& (m-1)=z at hand;refine bu.q λJ28 aiK=>?_;have go:∀o:Nat,o<b-a->J28 [iv (o:Int)] ([(b4,Obj.cells #[.int .u64 (y:Int)] 276 zZ)]++C'):=λo ho=>by
  refine aiK _ _ λgs=>?_;refine DR.self (ah.fT (ah.fT (hd.swap (.cons .here) zO zO λC1 QI=>?_)));exact ah.inc (aD.mk ⟨i+1,y,C1,_,rfl,by omega,hy,rfl,Sort.permIn_trans _ _ _ _ _ hp (Sort.swp_permIn _ a b i (a+o) VK zO zO zO zO),QI⟩ (by simp[bH];omega))
 refine ah.uo (Br.dec (λhge=>?_) (λη=>JE.mk (go z zO)));exact ah.cj (JE.mk (go _ zO))
def OQZ(b:Nat)(C:Hp)(i j:Nat):zV->Hp->Prop:=λr H=>(r=.tuple #[iv (i:Int),iv (j:Int)]\/r=.tuple #[iv (j:Int),iv (i:Int)])/\∃z:Int,H=(b,.cells #[iv z] 3 zZ)::C
include ok in
theorem wq(h:Da T kd v d C){z:Int}{i j:Nat}(hi:i<d.size)(hj:j<d.size):
  Fc zQ zs.Gl #[v,iv (i:Int),iv (j:Int),γ b] ((b,.cells #[iv z] 3 zZ)::C) (OQZ b C i j):=by
 refine aJ λg=>ok.Gl ?_;refine DR.self (h.ld (λ_ h=>.tail _ h) hj (h.ld (λ_ h=>.tail _ h) hi (ae.eq (dL ok _ _ _) (Br.mk (λ_=>?_) (λ_=>aQ.here ⟨.inl rfl,z,rfl⟩)))));refine Nil.γ (Ld.q ?_);refine ah.add (Nil.γ (St.one (by exact .head _) rfl zI rfl ?_));exact aQ.here ⟨.inr rfl,_,rfl⟩
def MQZ(b:Nat)(C:Hp)(p:Nat->Prop):zV->Hp->Prop:=λr H=>(∃m:Nat,r=iv (m:Int)/\p m)/\∃z:Int,H=(b,.cells #[iv z] 3 zZ)::C
include ok in
theorem LA(h:Da T kd v d C){z:Int}{i j k:Nat}(hi:i<d.size)(hj:j<d.size)(hk:k<d.size):
  Fc zQ zs.med #[v,iv (i:Int),iv (j:Int),iv (k:Int),γ b] ((b,.cells #[iv z] 3 zZ)::C) (MQZ b C λm=>m=i\/m=j\/m=k):=by
 refine aJ λg=>ok.med ?_;refine ae.fq (wq ok h hi hj) ?_;rintro w H ⟨hw,z1,rfl⟩;obtain⟨i1,j1,rfl,hij⟩:∃i1 j1:Nat,w=.tuple #[iv (i1:Int),iv (j1:Int)]/\((i1=i/\j1=j)\/(i1=j/\j1=i)):=by
  rcases hw with rfl|rfl
  ·exact⟨i,j,rfl,.inl ⟨rfl,rfl⟩⟩
  exact⟨j,i,rfl,.inr ⟨rfl,rfl⟩⟩
 refine Ext.two (ae.fq (wq ok h (i:=j1) (j:=k) zO hk) ?_);rintro w H ⟨hw,z2,rfl⟩;obtain⟨j2,k2,rfl,XD⟩:∃j2 k2:Nat,w=.tuple #[iv (j2:Int),iv (k2:Int)]/\((j2=j1/\k2=k)\/(j2=k/\k2=j1)):=by
  rcases hw with rfl|rfl
  ·exact⟨_,_,rfl,.inl ⟨rfl,rfl⟩⟩
  exact⟨_,_,rfl,.inr ⟨rfl,rfl⟩⟩
 refine Ext.two (ae.fq (wq ok h (i:=i1) (j:=j2) zO zO) ?_);rintro w H ⟨hw,z3,rfl⟩;rcases hw with rfl|rfl
 ·exact Ext.mk rfl (Ext.mk rfl (aQ.here ⟨⟨_,rfl,by omega⟩,_,rfl⟩))
 exact Ext.mk rfl (Ext.mk rfl (aQ.here ⟨⟨_,rfl,by omega⟩,_,rfl⟩))
include ok in
theorem wC(h:Da T kd v d C){z:Int}{i:Nat}(h0:0<i)(hi:i+1<d.size)(cB:d.size<1152921504606846976):
  Fc zQ zs.Gu #[v,iv (i:Int),γ b] ((b,.cells #[iv z] 3 zZ)::C) (MQZ b C λm=>i<=m+1/\m<=i+1):=by
 refine aJ λg=>ok.Gu ?_;refine ah.cj (b:=1) (ah.inc (ae.fq (LA ok h zO zO hi) ?_));rintro w H ⟨⟨m,rfl,hm⟩,z',rfl⟩;exact aQ.here ⟨⟨m,rfl,by omega⟩,z',rfl⟩
include ok in
theorem WH(h:Da T kd v d C){a:Nat}(hab:a<b)(hb:b<=d.size)(cB:d.size<1152921504606846976):
  Rd zQ zs.piv #[v,iv (a:Int),iv (b:Int)] C (λr=>∃(p:Nat) (q:Int),r=.tuple #[iv (p:Int),iv q]/\a<=p/\p<b):=by
 refine aJ λg=>ok.piv ?_;refine ah.cj λb2 _=>(ah.Hl (b:=4) (by simp[bI];omega) zO (ah.yC (b:=1) (ah.fT (ah.Hl (b:=4) (by simp[bI];omega) zO (ah.yC (b:=2) (ah.fT (ah.Hl (b:=4) (by simp[bI];omega) zO (ah.yC (b:=3) (ah.fT ?_)))))))));intro J13 aiN;have fin:∀(p:Nat) (z:Int),a<=p->p<b->J13 [iv (p:Int)] ((b2,.cells #[iv z] 3 zZ)::C):=λp z u6 nq=>by
  refine aiN _ _ λgs=>?_;refine Ld.q ?_;refine ah.iD (Br.dec (λ_=>br.mk .tail ⟨p,_,rfl,u6,nq⟩) (λ_=>?_));exact ah.iD (Br.dec (λ_=>br.mk .tail ⟨p,_,rfl,u6,nq⟩) (λ_=>br.mk .tail ⟨p,_,rfl,u6,nq⟩))
 refine ah.uo (b:=8) (Br.dec (λh8=>?_) (λ_=>JE.mk (fin _ _ zO zO)));intro J21 aiM;have three:∀(x y u:Nat) (z:Int),a<=x/\x<b->a<=y/\y<b->a<=u/\u<b->J21 [iv (x:Int),iv (y:Int),iv (u:Int)] ((b2,.cells #[iv z] 3 zZ)::C):=λx y u z hx hy hu=>by
  refine aiM _ _ _ _ λgs=>?_;refine ae.fq (LA ok h zO zO zO) ?_;rintro w H ⟨⟨m,rfl,hm⟩,z',rfl⟩;exact JE.mk (fin _ _ zO zO)
 refine ah.uo (b:=50) (Br.dec (λh50=>?_) (λ_=>JE.mk (three _ _ _ _ zO zO zO)));refine ae.fq (wC ok h zO zO cB) ?_;rintro w H ⟨⟨m1,rfl,uO⟩,z1,rfl⟩;refine ae.fq (wC ok h zO zO cB) ?_;rintro w H ⟨⟨m2,rfl,mC⟩,z2,rfl⟩;refine ae.fq (wC ok h zO zO cB) ?_;rintro w H ⟨⟨m3,rfl,hm3⟩,z3,rfl⟩;exact JE.mk (three _ _ _ _ zO zO zO)
def PSZ(T:TypeId)(kd:IntKind)(v:zV)(d:Array Int)(a b:Nat):zV->Hp->Prop:=λr C'=>r=.tuple #[]/\∃e,(Sort.PermIn a b d e/\Sort.SortedIn cD a b e)/\Da T kd v e C'
include ok in
theorem Lr:∀(N:Nat) {C:Hp} {d:Array Int} (h:Da T kd v d C) {a b:Nat} (hN:b-a<=N) (hab:a<=b) (hb:b<=d.size) (cB:d.size<1152921504606846976) (hB:Sort.Below cD a b d) (z:Int),Fc zQ zs.Z8 #[v,iv (a:Int),iv (b:Int),iv z] C (PSZ T kd v d a b):=by
 intro N;induction N with
 |zero=>
  intro C d h a b hN hab hb cB hB z g;refine ok.Z8 (R:=aQ _) ?_;unfold L9014;refine⟨λvs H=>vs=[iv (a:Int),iv (b:Int),iv z,.bool true,.bool true]/\H=C,λ_ _=>0,JE.mk ⟨rfl,rfl⟩,?_⟩;rintro w1 w2 w3 w4 w5 H ⟨hw,rfl⟩ gs;simp only[xaw,xaW]at hw;obtain⟨rfl,rfl,rfl,rfl,rfl⟩:=hw;refine ah.cj (ah.By (b:=12) (Br.T (ae.fq (z9 ok h hab hb cB) ?_)));rintro w C' ⟨rfl,hd⟩;exact aQ.here ⟨rfl,_,Sort.insertionSort_holds Sort.swo_ltInt d a b hab hb,hd⟩
 |succ N ih=>
  intro C d h a b hN hab hb cB hB z g;refine ok.Z8 (R:=aQ _) ?_;unfold L9014;obtain⟨G,hG⟩:∃G:Array Int->Prop,G=λR=>Sort.PermIn a b d R/\Sort.SortedIn cD a b R:=⟨_,rfl⟩;have fin:∀{R:Array Int} {H:Hp},G R->Da T kd v R H->aQ (PSZ T kd v d a b) (.returned (.tuple #[])) H:=λhR hd=>by
   subst hG;exact aQ.here ⟨rfl,_,hR,hd⟩
  refine⟨λvs H=>∃(a b:Nat) (z:Int) (t1 t2:Bool) (e:Array Int),vs=[iv (a:Int),iv (b:Int),iv z,.bool t1,.bool t2]/\b-a<=N+1/\a<=b/\b<=e.size/\e.size=d.size/\Sort.Below cD a b e/\(∀R,Sort.PermIn a b e R->Sort.SortedIn cD a b R->G R)/\Da T kd v e H,λvs _=>bH vs 1-bH vs 0,
   JE.mk ⟨a,b,z,true,true,d,rfl,hN,hab,hb,rfl,hB,by subst hG;exact λR h1 h2=>⟨h1,h2⟩,h⟩,?_⟩
  clear h hN hab hb hB hG;rintro w1 w2 w3 w4 w5 H ⟨a,b,z,t1,t2,e,hw,hN,hab,hb,hs,hB,LO,h⟩ gs;simp only[xaw,xaW]at hw;obtain⟨rfl,rfl,rfl,rfl,rfl⟩:=hw;refine ah.cj (ah.By (b:=12) (Br.dec (λOv=>?_) (λOv=>?_)))
  ·refine ae.fq (z9 ok h hab hb zO) ?_;rintro w C' ⟨rfl,hd⟩;obtain⟨q1,q2⟩:=Sort.insertionSort_holds Sort.swo_ltInt e a b hab hb;exact fin (LO _ q1 q2) hd
  refine ah.iD (Br.dec (λ_=>?_) (λ_=>?_))
  ·refine ae.fq (Of ok h zO hb zO) ?_;rintro w C' ⟨rfl,hd⟩;obtain⟨q1,q2⟩:=Sort.heapSort_holds Sort.swo_ltInt e a b hab hb;exact fin (LO _ q1 q2) hd
  intro J17 He;have k17:∀(z1:Int) H1 e1,Sort.PermIn a b e e1->Da T kd v e1 H1->J17 [iv z1] H1:=λz1 H1 e1 p1 h1=>by
   have u5:=p1.1;refine He _ _ λgs=>?_;refine ae.rq (WH ok h1 (a:=a) (b:=b) zO zO zO) ?_;rintro w ⟨p,q,rfl,u6,nq⟩;refine Ext.two λJ25 aiL=>?_;have k25:∀(p:Nat) (q:Int) H2 e2,a<=p->p<b->Sort.PermIn a b e e2->Da T kd v e2 H2->J25 [iv (p:Int),iv q] H2:=λp q H2 e2 u6 nq p2 h2=>by
    have tq:=p2.1;refine aiL _ _ _ λgs=>?_;intro J30 aiJ;have k30:∀H3 e3,Sort.PermIn a b e e3->Da T kd v e3 H3->J30 [] H3:=λH3 e3 p3 h3=>by
     have hs3:=p3.1;have hB3:=hB.perm hb p3;have TE:b<=e3.size:=by omega
     refine aiJ _ λgs=>?_;intro J33 XR;have k33:∀(t:Bool),(t=true->0<a/\cD e3[a-1]! e3[p]! =false)->J33 [.bool t] H3:=λt ht=>by
      refine XR _ _ λgs=>?_;refine Br.mk (λet=>?_) (λ_=>?_)
      ·obtain⟨ha0,hnl⟩:=ht et;refine ae.fq (Gj ok h3 ⟨u6,nq⟩ TE zO) ?_;rintro w C' ⟨rfl,hd⟩;obtain⟨g1,g2,g3,g4,g5⟩:=Sort.round_eq Sort.swo_ltInt (Sort.partitionEqual_holds cD) ha0 u6 nq TE hB3 hnl (mid:=(Sort.partitionEqual cD e3 a b p).1) (d4:=(Sort.partitionEqual cD e3 a b p).2) rfl;generalize (Sort.partitionEqual cD e3 a b p).1=m at*;generalize (Sort.partitionEqual cD e3 a b p).2=e4 at*;exact aD.mk ⟨m,b,z1,t1,t2,e4,rfl,by omega,by omega,by omega,by omega,g4,λR r1 r2=>by
        obtain⟨q1,q2⟩:=g5 R r1 r2;exact LO R (Sort.permIn_trans _ _ _ _ _ p3 q1) q2,hd⟩ (by simp[bH];omega)
      refine ae.fq (R6 ok h3 ⟨u6,nq⟩ TE zO) ?_;rintro w C' ⟨rfl,hd⟩;obtain⟨g1,g2,g3,g4,g5,g6,g7⟩:=Sort.round_part Sort.swo_ltInt (Sort.partition_holds cD) u6 nq TE hB3 (mid:=(Sort.partition cD e3 a b p).1) (ap:=(Sort.partition cD e3 a b p).2.1) (d4:=(Sort.partition cD e3 a b p).2.2) rfl;generalize (Sort.partition cD e3 a b p).1=m at*;generalize (Sort.partition cD e3 a b p).2.1=t at*;generalize (Sort.partition cD e3 a b p).2.2=e4 at*;refine Ext.two (ah.cj (ah.cj (ah.Hl (b:=8) (by simp[bI];omega) zO (ah.eA (Br.dec (λ_=>?_) (λ_=>?_))))))
      ·refine ah.uo (ae.fq (ih hd (a:=a) (b:=m) zO zO zO zO g4 z1) ?_);rintro w C' ⟨rfl,e5,⟨l1,l2⟩,dF⟩;obtain⟨hBL,iz⟩:=g6 _ l1 l2;have hs5:=l1.1;refine ah.inc ?_;exact aD.mk ⟨m+1,b,z1,_,t,e5,rfl,by omega,by omega,by omega,by omega,hBL,λR r1 r2=>by
        obtain⟨q1,q2⟩:=iz R r1 r2;exact LO R (Sort.permIn_trans _ _ _ _ _ p3 q1) q2,dF⟩ (by simp[bH];omega)
      refine ah.uo (ah.inc (ae.fq (ih hd (a:=m+1) (b:=b) zO zO zO zO g5 z1) ?_));rintro w C' ⟨rfl,e5,⟨l1,l2⟩,dF⟩;obtain⟨hBL,iz⟩:=g7 _ l1 l2;have hs5:=l1.1;exact aD.mk ⟨a,m,z1,_,t,e5,rfl,by omega,by omega,by omega,by omega,hBL,λR r1 r2=>by
       obtain⟨q1,q2⟩:=iz R r1 r2;exact LO R (Sort.permIn_trans _ _ _ _ _ p3 q1) q2,dF⟩ (by simp[bH];omega)
     refine DR.self (ah.nV (b:=0) (Br.dec (λh0=>?_) (λ_=>JE.mk (k33 false nofun))));refine ah.cj (b:=1) (h3.ld (λ_ h=>h) zO (h3.ld (λ_ h=>h) zO λF=>?_));exact ae.eq (dL ok _ _ _) (Un.not (aG.mk (JE.mk (k33 _ λht=>⟨h0,by simpa using ht⟩))))
    refine dh.and t2 (λ_=>⟨rfl,rfl⟩) rfl λgs=>?_;refine dh.and (decide (q=1)) (λ_=>ah.iD ⟨rfl,rfl⟩) rfl λgs=>?_;refine Br.mk (λ_=>?_) (λ_=>JE.mk (k30 _ _ p2 h2));refine ae.fq (R4 ok h2 zO (show b<=e2.size by omega) zO) ?_;rintro w C' ⟨rfl,hd⟩;obtain⟨q1,q2⟩:=Sort.partialInsertionSort_holds Sort.swo_ltInt e2 a b zO zO (hB.perm hb p2);exact Br.mk (λet=>fin (LO _ (Sort.permIn_trans _ _ _ _ _ p2 q1) (q2 et)) hd) (λ_=>JE.mk (k30 _ _ (Sort.permIn_trans _ _ _ _ _ p2 q1) hd))
   refine ah.iD (Br.dec (λ_=>?_) (λ_=>JE.mk (k25 p q _ _ u6 nq p1 h1)));refine ae.fq (Wv ok h1 (a:=a) (b:=b) zO zO zO) ?_;rintro w C' ⟨rfl,hd⟩;exact ah.cj (b:=1) (ah.cj (ah.cj (JE.mk (k25 _ _ _ _ zO zO (Sort.permIn_trans _ _ _ _ _ p1 (Sort.reverseRange_holds e1 a b hab zO)) hd))))
  refine Un.not (Br.mk (λ_=>?_) (λ_=>JE.mk (k17 _ _ _ (Sort.permIn_refl _ _ _) h)));refine ae.fq (Yf ok h (a:=a) (b:=b) zO hb zO) ?_;rintro w C' ⟨rfl,e1,p1,hd⟩;exact ah.sub (JE.mk (k17 _ _ _ p1 hd))
end
def FZ(l:List Int):List Int:=l.mergeSort λx y=>decide (x<=y)
def RA{d e:Array Int}(h1:Sort.PermIn 0 d.size d e)(h2:Sort.SortedIn cD 0 d.size e):e.toList=FZ d.toList:=by
 rw[Sort.sorted_unique_holds Sort.swo_ltInt (λx y h1 h2=>by simp[Sort.ltInt]at h1 h2;omega) d e h1 h2];unfold FZ;congr 1
 funext x y
 show(!decide (y<x))=decide (x<=y);rw[xbH];simp
def Dp(l:zL):zL:=l.mergeSort λx y=>decide (x<=y)
def me(l:zL):(Dp l).Perm l:=List.mergeSort_perm _ _
def Ba(l:zL):(Dp l).Pairwise λx y=>x<=y:=
 (List.pairwise_mergeSort (le:=λx y:Nat=>decide (x<=y)) (λa b c h1 h2=>by simp only[xaM]at*;omega) (λa b=>by simp only[xbu,xaM];omega) l).imp λh=>xb5 h
def Wj{l l':zL}(h:l.Perm l'):Dp l=Dp l':=
 List.Perm.eq_of_pairwise (λa b _ _ h1 h2=>xef h1 h2) (Ba l) (Ba l') (((me l).trans h).trans (me l').symm)
def K8(l:zL):FZ (iw l)=iw (Dp l):=by
 refine List.Perm.eq_of_pairwise (le:=λx y:Int=>x<=y) (λa b _ _ h1 h2=>Int.le_antisymm h1 h2) ?_ ?_ ((List.mergeSort_perm _ _).trans ((me l).map _).symm)
 ·exact(List.pairwise_mergeSort (le:=λx y:Int=>decide (x<=y)) (λa b c h1 h2=>by simp only[xaM]at*;omega) (λa b=>by simp only[xbu,xaM];omega) _).imp λh=>xb5 h
 exact xbN.2 ((Ba l).imp λh=>by omega)
def Wk{v:zV}{C:Hp}{l:List Int}(h:aL 78 .u32 v l C)(cB:l.length<1152921504606846976):Fc zQ 282 #[v] C (λr C'=>r=.tuple #[]/\aL 78 .u32 v (FZ l) C'):=by refine aJ λg=>HW (h.bL ?_);refine bu.q (ae.rq (B6 zO C) ?_);rintro w ⟨r,_,rfl⟩;have hd:Da 78 .u32 v l.toArray C:=h;apply ae.fn .here (Lr acQ l.length hd (a:=0) (b:=l.length) zO zO zI (by simpa using cB) (.inl rfl) _);rintro w C' ⟨rfl,e,⟨h1,h2⟩,dF⟩;have he:=RA (d:=l.toArray) (by simpa using h1) (by simpa using h2);exact aQ.here ⟨rfl,by rw[show FZ l=e.toList from he.symm];exact dF⟩
end
end Go.Proofs
namespace Go.Sx
open Go
variable{P:Program}{g:Gh}{n:Nat}{H:Hp}
section
variable{F:Fence}{ζ:Array Oper}{Q:Exit->Act->World->Prop}{rest:List Oper}{o:Oper}{a:Act}{fr:Fr}{w:World}
abbrev yo(ds:List Deferred)(n:Nat)(a:Act)(fr:Fr):Prop:=cF ds n a fr
variable{ds:List Deferred}
def yo.put(h:yo ds n a fr){d:Option Nat}(hd:eO n d=true)(v:zV):yo ds n (a.put d v) (bt fr d v):=cF.put h hd v
def dH{v0:zV}(hF:∀f,F.fn f)(hg:o.guard=none)(fQ:∀c,o.op≠.defer c)(hd:eO n o.dst=true)(ha:yo ds n a fr)(hw:Own g H w)(h:Bp P g o (ev fr) H (· =v0))
 (k:∀a',yo ds n a' (bt fr o.dst v0)->wpListIn F 0 P ζ Q rest a' w):wpListIn F 0 P ζ Q (o::rest) a w:=by refine wpListIn_plain hg λK hK=>⟨λf _=>hF f,?_⟩;rw[Oper.semAt_eq _ _ _ fQ,ha.eval];obtain⟨v,hv,hr,_⟩:=pH h;rw[hr w hw];subst hv;exact hK _ _ (k _ (ha.put hd _))
variable{K:zV->Hp->Prop}
def vN{s:Sem zV}(hF:∀f,F.fn f)(hg:o.guard=none)(fQ:∀c,o.op≠.defer c)(hd:eO n o.dst=true)(ha:yo ds n a fr)(he:execOp (ev fr) o=(do pure (.value (<-s))))
 (h:∃v w' H',s.run P w=.ok v w'/\Own g H' w'/\K v H')
 (k:∀v H' w' a',K v H'->Own g H' w'->yo ds n a' (bt fr o.dst v)->wpListIn F 0 P ζ Q rest a' w'):wpListIn F 0 P ζ Q (o::rest) a w:=by refine wpListIn_plain hg λK hK=>⟨λf _=>hF f,?_⟩;rw[Oper.semAt_eq _ _ _ fQ,ha.eval,he];obtain⟨v,w',H',hr,ho,hk⟩:=h;simp only[Sem.run_bind,hr,Result.andThen_ok,Sem.run_pure];exact hK _ _ (k v H' w' _ hk ho (ha.put hd _))
def y8{s:Sem zV}(hF:∀f,F.fn f)(hg:o.guard=none)(fQ:∀c,o.op≠.defer c)(hd:eO n o.dst=true)(ha:yo ds n a fr)(hw:Own g H w)(he:execOp (ev fr) o=(do pure (.value (<-s))))
 (h:NK P g o (ev fr) H K (λ_ _=>False))
 (k:∀v H' w' a',K v H'->Own g H' w'->yo ds n a' (bt fr o.dst v)->wpListIn F 0 P ζ Q rest a' w'):wpListIn F 0 P ζ Q (o::rest) a w:=by
 have h1:=wu (pS fr) h w hw;rw[he]at h1;refine vN (g:=g) (K:=K) hF hg fQ hd ha he ?_ k;cases hs:s.run P w with
 |ok v w'=>
  simp only[Sem.run_bind,hs,Result.andThen_ok,Sem.run_pure,pw]at h1;obtain⟨H',ho,hk⟩:=h1;exact⟨v,w',H',rfl,ho,hk⟩
 |halt x w'=>
  simp only[Sem.run_bind,hs,Result.andThen]at h1;cases x<;>simp only[pw]at h1;obtain⟨_,_,hk⟩:=h1;exact hk.elim
def YK{s:Sem Unit}(hF:∀f,F.fn f)(hg:o.guard=none)(fQ:∀c,o.op≠.defer c)(hd:eO n o.dst=true)(ha:yo ds n a fr)(hw:Own g H w)(he:execOp (ev fr) o=(do s;pure .skip))
 (h:NK P g o (ev fr) H K (λ_ _=>False))
 (k:∀H' w' a',K undef H'->Own g H' w'->yo ds n a' (bt fr o.dst undef)->wpListIn F 0 P ζ Q rest a' w'):wpListIn F 0 P ζ Q (o::rest) a w:=by
 have h1:=wu (pS fr) h w hw;rw[he]at h1;refine wpListIn_plain hg λK hK=>⟨λf _=>hF f,?_⟩;rw[Oper.semAt_eq _ _ _ fQ,ha.eval,he];cases hs:s.run P w with
 |ok v w'=>
  simp only[Sem.run_bind,hs,Result.andThen_ok,Sem.run_pure,pw]at h1⊢;obtain⟨H',ho,hk⟩:=h1;exact hK _ _ (k H' w' _ hk ho (ha.put hd _))
 |halt x w'=>
  simp only[Sem.run_bind,hs,Result.andThen]at h1;cases x<;>simp only[pw]at h1;obtain⟨_,_,hk⟩:=h1;exact hk.elim
def nF{m:Nat}{args:List zV}(hl:args.length<=m):yo [] m {tmps:=args.toArray++Array.replicate (m-args.toArray.size) undef,defers:=[]} (g8 args 0):=by
 refine⟨rfl,by simp;omega,λs=>?_⟩;rw[nj,xau,xd4];simp only[xc1,xb9,xa2,xcU];by_cases hs:s<args.length
 ·simp[hs,List.getD]
 rw[xac hs,xc7];have:args.getD s undef=undef:=by simp[List.getD,xaB (xc9 hs)]
 rw[this];split<;>rfl
def Own.putObj{H':Hp}{b:Nat}{o o':Obj}(h:Own g H w)(u:df b o o' H H'):Own g H' (w.putObj b o'):=by have hb:=h.lt u.mem;exact h.bt u rfl rfl rfl (World.putObj_heap_same hb) λc hc=>World.putObj_heap_other hc
def uF{α:Type}(P:Program)(f:FuncId)(cap:Array zV)(B:Hp)(enc:α->zV)(N:Nat)(S:List α->Prop):Prop:=
 ∀(g:Gh) (l:Nat) (G:List α->Hp->Prop),
  (∀ss x A X W,G ss A->ss.length<N->Own g (A++X) W->YieldAt Fence.wide 0 P l #[enc x] W (λe W'=>e=.returned (.bool true)/\∃A',G (ss++[x]) A'/\Own g (A'++X) W'))->
  ∀A W,G [] A->Own g (A++B) W->CallsIn Fence.wide 0 P f (#[.func (.yield l) #[] #[]]++cap) W (λe W'=>(∃v,e=.returned v)/\∃ss A',S ss/\G ss A'/\Own g (A'++B) W')
open Classical in
noncomputable def r5(p:Nat->Prop):Nat:=if h:∃k,p k then Classical.choose (mw h)else 0
def GA{p:Nat->Prop}{k:Nat}(h:p k):r5 p<=k:=by unfold r5;rw[xd8 ⟨k,h⟩];exact(xck (mw ⟨k,h⟩)).2 k h
def Bx{p:Nat->Prop}(h:∃k,p k):p (r5 p):=by unfold r5;rw[xd8 h];exact(xck (mw h)).1
def vA{c:Code}(J:Nat->Act->World->Prop){k:Nat}(h0:J k a w)
 (round:∀k a w,J k a w->c.wpIn F 0 P (Exit.then (λa' w'=>∃k',k'<k/\J k' a' w') Q) a w):(Code.loop c).wpIn F 0 P Q a w:=by
 refine wpIn_loop (λa w=>∃k,J k a w) (λa w=>r5 λk=>J k a w) ⟨k,h0⟩ λa w h=>?_;refine Code.wpIn_mono (λe a' w' hq=>?_) (round _ a w (Bx h));cases e with
 |normal=>
  obtain⟨k',η,hj⟩:=hq;exact⟨⟨k',hj⟩,xaC (GA hj) η⟩
 |_=>exact hq
end
end Go.Sx
set_option maxRecDepth 100000
namespace Go.Proofs
open Go Go.Sx Tryz
section
open ax
section
variable {es:Array MapEntry} {ck b:Nat} {m:List (Nd×Nat)}
def MZ(B:Hp):Fc zQ 276 #[.map (some b)] B
  (λv H=>∃bm,v=.func (.func 283) #[] #[γ bm]/\H=(bm,.cells #[.map (some b)] 105 zZ)::B):=by refine aJ λg=>H8 λb1 _=>?_;exact aQ.here ⟨b1,rfl,rfl⟩
noncomputable abbrev VF:Func:=Tryz.f283
def VAt(g:Gh)(bi b:Nat)(l:Nat)(es:Array MapEntry)(ck:Nat)(m:List (Nd×Nat))(G:zL->Hp->Prop)(B:Hp)(k:Nat)(a:Act)(w:World):Prop:=
 ∃(fr:Fr) (ss:zL) (A:Hp) (seen:Array Nat),yo [] 15 a fr/\fr 0=.func (.yield l) #[] #[]/\fr 6=γ bi/\G ss A/\Own g (A++((bi,.mapIter (some b) ck seen ck)::B)) w/\
  (ss++(bY es m seen).map Prod.snd).Perm (m.map Prod.snd)/\k=(bY es m seen).length
def FJ{bm:Nat}{fz:Nat×Nat}(h:aI nK Qs es ck m):uF zQ 283 #[γ bm] [(bm,.cells #[.map (some b)] 105 fz),(b,.map es ck)] δ m.length
  (λss=>ss.Perm (m.map Prod.snd)):=by
 intro g l G hY A W h0 hW;have hF:∀f,Fence.wide.fn f:=λ_=>trivial;apply callsIn_of_wp func283 rfl trivial;have ha:=nF (m:=15) (args:=[.func (.yield l) #[] #[],γ bm]) zI;apply wpIn_seq;apply wpIn_region_lit;obtain⟨B,hB⟩:∃B,B=[(bm,Obj.cells #[.map (some b)] 105 fz),(b,.map es ck)]:=⟨_,rfl⟩;rw[<-hB]at hW;have uO:(bm,Obj.cells #[.map (some b)] 105 fz)∈A++B:=by rw[hB];exact xaa _ (.head _)
 have mC:(b,Obj.map es ck)∈A++B:=by rw[hB];exact xaa _ (.tail _ (.head _))
 have hmB:∀{X:Hp},(b,Obj.map es ck)∈X++B:=by intro X;rw[hB];exact xaa _ (.tail _ (.head _))
 rw[<-hB];have e0:Bp zQ g (eZ VF 0 0) (ev (g8 [.func (.yield l) #[] #[],γ bm] 0)) (A++B) (λx=>x=.map (some b))=Ld (A++B) (γ bm) (λx=>x=.map (some b)):=by kernel_rfl
 refine dH (g:=g) (n:=15) (v0:=.map (some b)) hF rfl zC rfl ha hW (e0.mpr (Ld.mk uO rfl rfl)) λa1 uS=>?_;refine vN (g:=g) (n:=15) (s:=Instr.range 105 (.map (some b))) (K:=λv H=>∃bi,v=γ bi/\H=(bi,.mapIter (some b) ck #[] ck)::(A++B)) hF rfl zC rfl uS rfl
  (Rng.run (.inr ⟨b,es,ck,rfl,mC,λbi _=>⟨bi,rfl,rfl⟩⟩) hW (t:=105) (kt:=144) (e:=78) zK) λv H' w1 a2 hv jQ q9=>?_
 obtain⟨bi,rfl,rfl⟩:=hv;apply wpListIn_nil;have qm:Own g (A++((bi,.mapIter (some b) ck #[] ck)::B)) w1:=jQ.perm (xaO).symm;clear jQ uS ha hW uO mC;apply wpIn_block;refine vA (VAt g bi b l es ck m G B) (k:=(bY es m #[]).length) ⟨_,[],A,#[],q9,rfl,rfl,h0,qm,by rw[mU h];exact .refl _,rfl⟩ ?_;clear q9 qm h0 e0 A;rintro k a w ⟨fr,ss,A,seen,ha,f0,f6,hG,hw,cZ,hk⟩;apply wpIn_seq;apply wpIn_region_lit;have e6:ev fr (.tmp 6)=γ bi:=f6;refine vN (g:=g) (n:=15) (s:=Instr.next (γ bi) false 0)
  (K:=λv H=>(bY es m seen=[]/\v=.tuple #[.bool false]/\H=A++((bi,.mapIter (some b) ck seen ck)::B))\/
   ∃(e:MapEntry) (x:Nd×Nat) (Ψ:Array Nat),v=.tuple #[.bool true,e.key,e.val]/\e.val=δ x.2/\(bY es m seen).Perm (x::bY es m Ψ)/\Ψ.back?=some e.born/\es.find? (·.born==e.born)=some e/\
    H=A++((bi,.mapIter (some b) ck Ψ ck)::B)) hF rfl zC rfl ha ?_
  (ZD.run (h.next (bi:=bi) (bm:=b) (seen:=seen) (H:=A++((bi,.mapIter (some b) ck seen ck)::B)) (xaa _ (.tail _ (by rw[hB];exact .tail _ (.head _)))) (xaa _ (.head _))
   (λe x Ψ he hk hv hp hb hf=>⟨_,(df.head _).cf A,.inr ⟨e,x,Ψ,rfl,hv,hp,hb,hf,rfl⟩⟩) (λhu=>.inl ⟨hu,rfl,rfl⟩)) hw) λv H' w1 a1 hv jQ uS=>?_
 ·rw[e6.symm];rfl
 rcases hv with⟨hu,rfl,rfl⟩|⟨e,x,Ψ,rfl,GY,hp,hbk,hfi,rfl⟩
 ·refine dH (g:=g) (n:=15) (v0:=.bool false) hF rfl zC rfl uS jQ ⟨_,_,rfl,rfl,rfl⟩ λa2 q9=>?_;apply wpListIn_nil;apply wpIn_seq;refine wpIn_cond_false (by rw[q9.eval];rfl) ?_;apply wpIn_exit;simp only[Exit.then,Exit.inBlock,xa5,bodyPost];refine⟨q9.defers,_,results_none rfl _ _ _,⟨_,rfl⟩,ss,A,?_,hG,(jQ.perm xaO).tail⟩;rw[hu,xcd,xaI]at cZ;exact cZ
 refine dH (g:=g) (n:=15) (v0:=.bool true) hF rfl zC rfl uS jQ ⟨_,_,rfl,rfl,rfl⟩ λa2 q9=>?_;apply wpListIn_nil;apply wpIn_seq;refine wpIn_cond_true (by rw[q9.eval];rfl) ?_;apply wpIn_skip;apply wpIn_block;apply wpIn_seq;apply wpIn_region_lit;refine vN (g:=g) (n:=15) (s:=Instr.entry (γ bi)) (K:=λv H=>v=.tuple #[e.key,e.val]/\H=A++((bi,.mapIter (some b) ck Ψ ck)::B)) hF rfl zC rfl q9 ?_ ?_ λv H' w2 a3 hv qm ve=>?_
 ·rw[e6.symm];rfl
 ·obtain⟨v,hr,hv⟩:=KJ.run (P:=zQ) (k:=λv=>v=.tuple #[e.key,e.val]) ⟨bi,b,ck,Ψ,e.born,ck,es,e,rfl,xaa _ (.head _),hbk,xaa _ (.tail _ (by rw[hB];exact .tail _ (.head _))),hfi,rfl⟩ jQ;exact⟨v,w1,_,hr,jQ,hv,rfl⟩
 obtain⟨rfl,rfl⟩:=hv;refine dH (g:=g) (n:=15) (v0:=δ x.2) hF rfl zC rfl ve qm ⟨_,_,rfl,rfl,GY⟩ λa4 G8=>?_;refine dH (g:=g) (n:=15) (v0:=δ x.2) hF rfl zC rfl G8 qm (show δ x.2=δ x.2 from rfl) λa5 G7=>?_;apply wpListIn_nil;apply wpIn_seq;apply wpIn_region_lit;refine dH (g:=g) (n:=15) (v0:=.func (.yield l) #[] #[]) hF rfl zC rfl G7 qm f0 λa6 G6=>?_;refine dH (g:=g) (n:=15) (v0:=δ x.2) hF rfl zC rfl G6 qm (show δ x.2=δ x.2 from rfl) λa7 XK=>?_;have Ξ:(bY es m seen).length=(bY es m Ψ).length+1:=by rw[hp.length_eq];rfl
 have η:ss.length<m.length:=by
  have:=cZ.length_eq;simp only[xaf,xar]at this⊢;omega
 obtain⟨fn,tmps,assign,body,hy,hR⟩:=hY _ x.2 A _ w2 hG η qm;refine wpListIn_plain rfl λK hK=>⟨λ_ _=>trivial,?_⟩;rw[Oper.semAt_eq _ _ _ zC,XK.eval];have hex:∀F7:Fr,F7=bt (bt (bt (bt (bt (bt (bt fr (some 7) (.tuple #[.bool true,e.key,e.val])) (some 8) (.bool true)) (some 9) (.tuple #[e.key,e.val])) (some 10) (δ x.2)) (some 4) (δ x.2)) (some 11) (.func (.yield l) #[] #[])) (some 12) (δ x.2)->(execOp (ev F7) (eZ VF 3 2)).run zQ w2=.ok (.round l fn tmps assign body) w2:=λF7 hF7=>by
  have v11:ev F7 (.tmp 11)=.func (.yield l) #[] #[]:=by rw[hF7];rfl
  have v12:ev F7 (.tmp 12)=δ x.2:=by rw[hF7];rfl
  have e11:execOp (ev F7) (eZ VF 3 2)=(do let d <-resolve (ev F7) {callee:=.value (.tmp 11),args:=#[.tmp 12],argTypes:=#[78]} 4;invoke d.target d.args):=rfl;rw[e11];simp[resolve,Deferred.ofValue,v11,v12,invoke,go_sem,hy]
 refine(xch (Oper.uponIn Fence.wide 0 zQ (eZ VF 3 2) a7 K _) (hex _ rfl)).mpr ⟨λh=>(by cases h),hR.mono ?_⟩;rintro e' w3 ⟨rfl,A',hG',Xk⟩;apply hK _ _;have ha8:=XK.put (d:=some 13) rfl (.bool true);refine dH (g:=g) (n:=15) (v0:=.bool false) hF rfl zC rfl ha8 Xk ⟨_,rfl,rfl⟩ λa9 ha9=>?_;apply wpListIn_nil;refine wpIn_cond_false (by rw[ha9.eval];rfl) ?_;apply wpIn_skip;refine⟨(bY es m Ψ).length,by omega,_,ss++[x.2],A',Ψ,ha9,f0,f6,hG',Xk,?_,rfl⟩;rw[xag];exact((hp.map Prod.snd).append_left ss).symm.trans cZ
end
end
section
open ax
section
noncomputable abbrev AF:Func:=Tryz.f285
variable {f:FuncId} {cap:Array zV} {B:Hp} {N:Nat} {S:zL->Prop}
noncomputable def dD:Code:=match AF.body with|some (.seq _ (.seq (.seq _ (.block _ (.rangeFunc _ _ c _))) _))=>c|_=>.skip
noncomputable def fZ:Code:=match AF.body with|some (.seq _ (.seq (.seq _ (.block _ (.rangeFunc _ _ _ c))) _))=>c|_=>.skip
noncomputable def Yn(i:Nat):Oper:=match fZ with| .block _ (.region _ ζ _)=>(match ζ[i]? with|some o=>o|none=>default)|_=>default
def mK(fn:FuncId)(tmps:Array zV)(assign body:Code)(D:Nat):Loop:={state:=.ready,pending:=none,fn,tmps,params:=#[7],assign,body,defers:=D}
def APG(l D bs:Nat)(fn:FuncId)(tmps:Array zV)(assign body:Code)(ss:zL)(A:Hp):Prop:=
 ∃v C',A=(l,.loop (mK fn tmps assign body D))::(D,.deferred (some []))::(bs,.cells #[v] 133 zZ)::C'/\aL 78 .u32 v (iw ss) C'
def UW{g:Gh}{l D bs:Nat}{fn:FuncId}{tmps:Array zV}{fr:Fr}(hsz:tmps.size=13)(g9:∀s,tmps.getD s undef=fr s)(f2:fr 2=γ bs){ss:zL}{x:Nat}{A X:Hp}{W:World}
 (hG:APG l D bs fn tmps dD fZ ss A)(hl:ss.length<1099511627776)(hW:Own g (A++X) W):
  YieldAt Fence.wide 0 zQ l #[δ x] W (λe W'=>e=.returned (.bool true)/\∃A',APG l D bs fn tmps dD fZ (ss++[x]) A'/\Own g (A'++X) W'):=by
 obtain⟨v,C',rfl,ho⟩:=hG;have hF:∀f,(Fence.wide.inRound l).fn f:=λ_=>trivial;have hL:W.heap[l]? =some (.loop (mK fn tmps dD fZ D)):=hW.has _ (.head _);refine⟨fn,_,dD,fZ,run_yield hL rfl,roundIn_of_wpIn trivial ?_⟩;have ha:yo [] 13 {tmps:=tmps.setIfInBounds 7 (δ x),defers:=[]} (bt fr (some 7) (δ x)):=(yo.put (a:={tmps:=tmps,defers:=[]}) (d:=some 7) ⟨rfl,hsz,g9⟩ rfl (δ x));have ha:yo [] 13 {tmps:=(#[7].zip #[δ x]).foldl (λtmps (t,a)=>tmps.setIfInBounds t a) tmps,defers:=[]} (bt fr (some 7) (δ x)):=by simpa using ha
 change Code.wpIn _ 0 zQ (.region _ #[_] false) _ _ _;apply wpIn_region_lit;refine dH (g:=g) (n:=13) (v0:=δ x) hF rfl zC rfl ha hW rfl λa1 uS=>?_;apply wpListIn_nil;have hbr:=run_beginRound (P:=zQ) hL rfl;refine⟨_,hbr,?_⟩;have Ei:=hW.putObj (o':=.loop {mK fn tmps dD fZ D with state:=.busy}) (.head _);change Code.wpIn _ 0 zQ (.block _ (.region _ #[_,_,_,_,_] false)) _ _ _;apply wpIn_block;apply wpIn_region_lit;obtain⟨H1,hH1⟩:∃H1,H1=(l,Obj.loop {mK fn tmps dD fZ D with state:=.busy})::(((D,.deferred (some []))::(bs,.cells #[v] 133 zZ)::C')++X):=⟨_,rfl⟩
 replace Ei:Own g H1 (W.putObj l (.loop {mK fn tmps dD fZ D with state:=.busy})):=by rw[hH1];exact Ei
 have e0:Bp zQ g (Yn 0) (ev (bt (bt fr (some 7) (δ x)) (some 5) (δ x))) H1 (λz=>z=v)=Ld H1 (fr 2) (λz=>z=v):=by kernel_rfl
 refine dH (g:=g) (n:=13) (v0:=v) hF rfl zC rfl uS Ei (e0.mpr (by rw[f2];exact Ld.mk (by rw[hH1];exact .tail _ (.tail _ (.head _))) rfl rfl)) λa2 q9=>?_;refine dH (g:=g) (n:=13) (v0:=δ x) hF rfl zC rfl q9 Ei rfl λa3 ve=>?_;have eb:∀K:zV->Hp->Prop,aq zQ 133 1 [(0,.int .u32 (x:Int))] H1 K=NK zQ g (Yn 2) (ev (bt (bt (bt (bt fr (some 7) (δ x)) (some 5) (δ x)) (some 8) v) (some 9) (δ x))) H1 K (λ_ _=>False):=λK=>by kernel_rfl
 refine y8 (g:=g) (n:=13) (s:=_) (K:=λv H=>∃b,v=.slice (some ⟨b,0,none⟩) 1 1/\H=(b,.cells (az .u32 [(x:Int)]) 78 zZ)::H1) hF rfl zC rfl ve Ei rfl
  ((eb _).mp (aq.int zK zK zK λb=>⟨b,rfl,rfl⟩)) λv1 H2 w2 a4 hv TP G8=>?_
 obtain⟨b,rfl,rfl⟩:=hv;have hn:(iw ss).length=ss.length:=av ss;obtain⟨H2,hH2⟩:∃H2,H2=(b,Obj.cells (az .u32 [(x:Int)]) 78 zZ)::H1:=⟨_,rfl⟩;rw[<-hH2]at TP;refine y8 (g:=g) (n:=13) (s:=_) (K:=λv' H=>∃C2,aL 78 .u32 v' (iw (ss++[x])) C2/\H=(b,Obj.cells (az .u32 [(x:Int)]) 78 zZ)::(l,Obj.loop {mK fn tmps dD fZ D with state:=.busy})::(D,.deferred (some []))::(bs,.cells #[v] 133 zZ)::(C2++X))
  hF rfl zC rfl G8 TP (by simp only[execOp,resolve,invoke,builtin];simp[bind,Sem.bind];rfl) ?_ λv2 H3 w3 a5 hv BP G7=>?_
 ·have e1:∀K:zV->Hp->Prop,App zQ 78 1 4 (.int .u32 0) H2 v (.slice (some ⟨b,0,none⟩) 1 1) K=
   NK zQ g (Yn 3) (ev (bt (bt (bt (bt (bt fr (some 7) (δ x)) (some 5) (δ x)) (some 8) v) (some 9) (δ x)) (some 10) (.slice (some ⟨b,0,none⟩) 1 1))) H2 K (λ_ _=>False):=λK=>by kernel_rfl
  refine(e1 _).mp ?_;rw[hH2,hH1];refine ho.qd (.cons (.cons (.cons (.cons .left)))) (by exact .head _) zO zO λv' C2 uh=>⟨C2,?_,rfl⟩;rw[cH];exact uh
 obtain⟨C2,uh,rfl⟩:=hv;have es:∀(H:Hp) (K:zV->Hp->Prop),St 1 H (fr 2) v2 (λH'=>K undef H')=NK zQ g (Yn 4) (ev (bt (bt (bt (bt (bt (bt fr (some 7) (δ x)) (some 5) (δ x)) (some 8) v) (some 9) (δ x)) (some 10) (.slice (some ⟨b,0,none⟩) 1 1)) (some 11) v2)) H K (λ_ _=>False):=λH K=>by kernel_rfl
 refine YK (g:=g) (n:=13) (s:=_) (K:=λ_ H=>H=(b,Obj.cells (az .u32 [(x:Int)]) 78 zZ)::(l,Obj.loop {mK fn tmps dD fZ D with state:=.busy})::(D,.deferred (some []))::(bs,.cells #[v2] 133 zZ)::(C2++X))
  hF rfl zC rfl G7 BP rfl ((es _ _).mp ?_) λH4 w4 a6 hv XL G6=>?_
 ·rw[f2];exact St.one (.tail (.tail (.tail (.head _)))) uh.one zI rfl rfl
 subst hv;apply wpListIn_nil;simp only[Exit.inBlock,roundPost];refine⟨_,_,run_endRound none (XL.has _ (.tail _ (.head _))),rfl,_,⟨v2,C2,rfl,uh⟩,?_⟩;exact(XL.putObj (.tail (.head _))).tail
def OZ(hg:uF zQ f cap B δ N S)(hc:aW zQ f=true)(hN:N<=1099511627776):
  Fc zQ 285 #[.slice none 0 0,.func (.func f) #[] cap] B (λv H=>∃ss C',S ss/\H=C'++B/\aL 78 .u32 v (iw ss) C'):=by
 intro g w hw;rw[<-callsIn_wide (n:=0)];have hF:∀f,Fence.wide.fn f:=λ_=>trivial;apply callsIn_of_wp_marks func285 rfl trivial;have ha:=nF (m:=13) (args:=[.slice none 0 0,.func (.func f) #[] cap]) zI;apply wpIn_seq;apply wpIn_region_lit;refine y8 (g:=g) (n:=13) (s:=_) (K:=λv H=>∃bs,v=γ bs/\H=(bs,.cells #[.slice none 0 0] 133 zZ)::B) hF rfl zC rfl ha hw rfl (λbs _=>⟨bs,rfl,rfl⟩) λv H1 w1 a1 hv jQ uS=>?_;obtain⟨bs,rfl,rfl⟩:=hv;refine dH (g:=g) (n:=13) (v0:=.slice none 0 0) hF rfl zC rfl uS jQ rfl λa2 q9=>?_;apply wpListIn_nil;apply wpIn_seq;apply wpIn_seq;apply wpIn_region_lit;refine dH (g:=g) (n:=13) (v0:=.func (.func f) #[] cap) hF rfl zC rfl q9 jQ rfl λa3 ve=>?_;apply wpListIn_nil;apply wpIn_block;refine wpIn_rangeFunc λfn hfn=>?_;have yG:=(jQ.alloc (.deferred (some []))).alloc (.loop (mK fn a3.tmps dD fZ w1.heap.size));have f6:a3.tmps[6]?.getD undef=.func (.func f) #[] cap:=by have:=ve.get 6;rw[xau]at this;exact this
 obtain⟨W1,Ei⟩:∃W1,W1=(w1.alloc (.deferred (some []))).alloc (.loop (mK fn a3.tmps dD fZ w1.heap.size)):=⟨_,rfl⟩;rw[<-Ei]at yG;refine⟨w1.heap.size+1,[{target:=.collected w1.heap.size,args:=#[]}],W1,{target:=.fn (.func f) cap,args:=#[.func (.yield (w1.heap.size+1)) #[] #[]]},W1,f,#[.func (.yield (w1.heap.size+1)) #[] #[]]++cap,W1,?_,?_,λ_ _=>trivial,?_,λh=>(by cases h),?_⟩
 ·rw[Ei];exact run_enterLoop_outer fn a3.tmps #[7] _ _
 ·simp[resolve,Deferred.ofValue,f6,go_sem]
 ·simp[invoke,go_sem];exact eL hc _ _
 have hsz:(w1.alloc (.deferred (some []))).heap.size=w1.heap.size+1:=by simp
 rw[hsz]at yG;apply CallsIn.mono (hg g (w1.heap.size+1) (APG (w1.heap.size+1) w1.heap.size bs fn a3.tmps dD fZ) (λss x A X W hG hl hW=>UW ve.size ve.get rfl hG zO hW) [_,_,_] W1 ⟨_,[],rfl,aL.nil⟩ yG);rintro e W2 ⟨⟨v0,rfl⟩,ss,A',hS,⟨v,C',rfl,ho⟩,TP⟩;refine⟨none,_,run_endLoop (TP.has _ (.head _)) (by simp[mK]),?_⟩;have BP:=TP.putObj (o':=.loop {mK fn a3.tmps dD fZ w1.heap.size with state:=.exhausted}) (.head _);simp only[Exit.then,Exit.inBlock];have G8:yo [{target:=.collected w1.heap.size,args:=#[]}] 13 {a3 with defers:=[{target:=.collected w1.heap.size,args:=#[]}]++a3.defers} (bt (bt (bt (g8 [.slice none 0 0,.func (.func f) #[] cap] 0) (some 2) (γ bs)) (some 4) (.slice none 0 0)) (some 6) (.func (.func f) #[] cap)):=
  ⟨by rw[ve.defers];rfl,ve.size,ve.get⟩
 apply wpIn_seq;apply wpIn_region_lit;obtain⟨H3,hH3⟩:∃H3,H3=(w1.heap.size+1,Obj.loop {mK fn a3.tmps dD fZ w1.heap.size with state:=.exhausted})::(((w1.heap.size,.deferred (some []))::(bs,.cells #[v] 133 zZ)::C')++B):=⟨_,rfl⟩
 replace BP:Own g H3 (W2.putObj (w1.heap.size+1) (.loop {mK fn a3.tmps dD fZ w1.heap.size with state:=.exhausted})):=by rw[hH3];exact BP
 have e0:Bp zQ g (eZ AF 4 0) (ev (bt (bt (bt (g8 [.slice none 0 0,.func (.func f) #[] cap] 0) (some 2) (γ bs)) (some 4) (.slice none 0 0)) (some 6) (.func (.func f) #[] cap))) H3 (λz=>z=v)=Ld H3 (γ bs) (λz=>z=v):=by kernel_rfl
 refine dH (g:=g) (n:=13) (v0:=v) hF rfl zC rfl G8 BP (e0.mpr (Ld.mk (by rw[hH3];exact .tail _ (.tail _ (.head _))) rfl rfl)) λa5 G7=>?_;refine dH (g:=g) (n:=13) (v0:=v) hF rfl zC rfl G7 BP rfl λa6 G6=>?_;apply wpListIn_nil;apply wpIn_ret;simp only[Exit.then,bodyPostM];rw[G6.defers];rw[hH3]at BP;refine⟨by simp,.inl ⟨w1.heap.size,_,rfl,run_takeDeferred (BP.has _ (.tail _ (.head _))),?_⟩⟩;have XL:=BP.putObj (o':=.deferred none) (.tail (.head _));refine⟨_,results_tmp rfl _ _ _,C'++B,XL.tail.tail.tail,v,C'++B,?_,.refl _,ss,C',hS,rfl,ho⟩;have:=G6.get 4;rw[this];rfl
end
section
variable {f:FuncId} {cap:Array zV} {B:Hp} {N:Nat} {S:zL->Prop}
def Ht(hg:uF zQ f cap B δ N S)(hc:aW zQ f=true)(hN:N<=1099511627776):
  Fc zQ 281 #[.func (.func f) #[] cap] B (λv H=>∃ss C',S ss/\H=C'++B/\aL 78 .u32 v (iw ss) C'):=by refine aJ λg=>HX (ae.fq (OZ hg hc hN) ?_);rintro v H h;exact aQ.here h
def M9(hg:uF zQ f cap B δ N S)(hS:∀ss,S ss->ss.length<=N)(hc:aW zQ f=true)(hN:N<=1099511627776):
  Fc zQ 275 #[.func (.func f) #[] cap] B (λv H=>∃ss l C',S ss/\l.Perm ss/\H=C'++B/\aL 78 .u32 v (iw l) C'):=by refine aJ λg=>H9 (ae.fq (Ht hg hc hN) ?_);rintro v H ⟨ss,C',hs,rfl,ho⟩;have Ξ:=hS ss hs;refine ae.fn (.left (A:=B)) (Wk ho (by rw[av];omega)) ?_;rintro w C2 ⟨rfl,cA⟩;rw[K8]at cA;exact aQ.here ⟨ss,_,C2,hs,me ss,rfl,cA⟩
end
theorem Ww{pt n v:Nat}{T:Nd->Option Nat}{C:Hp}(h:pc pt n T C)(hv:v<n)(hinj:∀d d' r,T d=some r->T d'=some r->d=d')(hb:∀d r,T d=some r->r<1048576):
  Fc zQ 259 #[γ pt,iv (v:Int)] C (λr H=>∃w l N,r=.tuple #[w,iv 0]/\H=N++C/\aL 78 .u32 w (iw l) N/\l.Nodup/\∀r,r∈l↔∃d,T d=some r/\d.v=v):=by
 have h0:=h;obtain⟨vs,Cs,ms,rfl,hs,ho⟩:=h;obtain⟨m,hm⟩:∃m,ms[v]? =some m:=⟨_,xab (by rw[ho.len];exact hv)⟩;have he:=ho.dO v m hm;have hT:∀d:Nd,d.v=v->T d=aN m.l d:=λd hd=>by rw[ho.T,hd,hm];rfl
 have hmem:∀d r,(d,r)∈m.l↔T d=some r/\d.v=v:=λd r=>by
  constructor
  ·intro hx;have hd:=ho.var v m hm _ hx;exact⟨by rw[hT d hd];exact(ef he.nd).2 hx,hd⟩
  rintro⟨h1,h2⟩;rw[hT d h2]at h1;exact(ef he.nd).1 h1
 have fQ:(m.l.map Prod.snd).Nodup:=by
  refine xbN.2 ((xbN.1 he.nd).imp_of_mem λ{a b} ha hb' ξ e=>ξ ?_);have h1:=((hmem a.1 a.2).1 ha).1;have h2:=((hmem b.1 b.2).1 hb').1;rw[<-e]at h2;exact hinj _ _ _ h1 h2
 have Ξ:m.l.length<=1048576:=by
  have:=cz (l':=List.range 1048576) fQ λx hx=>by
   obtain⟨y,hy,rfl⟩:=xal.1 hx;exact xaN.2 (hb _ _ ((hmem y.1 y.2).1 hy).1)
  simpa using this
 refine aJ λg=>Ir (ae.eq (l7 h0 hv) (ah.cM (Br.F (Nil.γ ?_))));refine aj.mk (Ld.mk zM rfl ?_);refine hs.Vv (x:=.map (some m.b)) (by rw[xaq,hm];rfl) (λ_ h=>by exact .tail _ (xad _ h)) ?_;refine ae.fq (MZ (b:=m.b) _) ?_;rintro w H ⟨bm,rfl,rfl⟩;obtain⟨X,Y,hXY⟩:=xdh (rX hm);have cZ:((bm,Obj.cells #[.map (some m.b)] 105 zZ)::(pt,.cells #[vs] 104 zZ)::(Cs++NS ms)).Perm
   ([(bm,.cells #[.map (some m.b)] 105 zZ),(m.b,.map m.es m.ck)]++((pt,.cells #[vs] 104 zZ)::(Cs++(X++Y)))):=by
  rw[hXY];refine .cons _ ?_;show((pt,_)::(Cs++(X++(m.b,_)::Y))).Perm ((m.b,_)::(pt,_)::(Cs++(X++Y)));refine .trans (.cons _ ?_) (.swap _ _ _);rw[<-xag,<-xag];exact xaO
 refine ae.pre (.perm cZ) ?_;refine ae.fq (M9 (FJ he) (λss hss=>by rw[hss.length_eq,xar];exact xai _) zK zO) ?_;rintro w H ⟨ss,l,C',hss,hl,rfl,hown⟩;have q8:l.Perm (m.l.map Prod.snd):=hl.trans hss;refine aQ.mk (mS:=C'++((pt,.cells #[vs] 104 zZ)::(Cs++NS ms))) ?_ ⟨w,l,C',rfl,rfl,hown,q8.nodup_iff.2 fQ,λr=>?_⟩
 ·rw[xag];refine aO.cv ?_ C';exact(aO.perm cZ.symm).trans .tail
 rw[q8.mem_iff,xal];constructor
 ·rintro⟨y,hy,rfl⟩;exact⟨y.1,(hmem y.1 y.2).1 hy⟩
 rintro⟨d,hd⟩;exact⟨(d,r),(hmem d r).2 hd,rfl⟩
end
end Go.Proofs
namespace Go.Sx
open Go
variable{P:Program}{g:Gh}{H:Hp}{es:Array MapEntry}{ck b:Nat}
section
variable{κ β:Type}[DecidableEq κ]{ke:κ->zV}{vr:zV->β->Prop}{m:List (κ×β)}{K:zV->Hp->Prop}{KP:List PanicEntry->Hp->Prop}
omit [DecidableEq κ] in
def aI.sameKey(h:aI ke vr es ck m){i:Nat}{k:κ}{x:β}(hi:m[i]? =some (k,x)):es.modify i (λe=>{e with key:=ke k})=es:=by
 apply Array.ext_getElem?;intro j;rw[xb6];split
 ·rename_i e;subst e;cases he:es[i]? with
  |none=>rfl
  |some e0=>rw[xcj,<-(h.key i e0 _ he hi).1]
 ·rfl
def aI.Ya{o:Oper}{ρ:Operand->zV}{t kt e:TypeId}{kd:TypeDesc}{mo ko:Operand}{z:zV}{k:κ}{y0:β}(hk:∀a b,Cn P kt (ke a) (ke b) (decide (a=b)))(hc:∀a,mO P kt (ke a))(hb:∀a,Instr.sameBits 10000 (ke a) (ke a)=true)
 (ho:o.op=.mapEntry t mo ko)(Ω:ρ mo=.map (some b))(hk':ρ ko=ke k)(ht:P.underlying t=some (.map kt e))(Eg:P.underlying kt=some kd)(aeu:cV kd=true)(hzd:fh P e=some z)(hvz:vr z y0)
 (h:aI ke vr es ck m){c:Obj->Hp}(Ty:∀o o',df b o o' (c o) (c o'))
 (h1:∀τ bF v st,aI ke vr τ bF (if k∈m.map Prod.fst then m else m++[(k,y0)])->(∃e∈τ.toList,e.born=st)->K (.tuple #[v,.int .i64 (st:Int)]) (c (.map τ bF))):mR P g o ρ (c (.map es ck)) K KP:=by
 have yH:(b,Obj.map es ck)∈c (.map es ck):=(Ty _ (.map es ck)).mem;obtain⟨i,hi,yJ⟩:=cL hzd;refine mR.ofValue (s:=Instr.mapEntry t (.map (some b)) (ke k)) (by simp only[execOp,ho,Ω,hk']) λw hw=>?_;have fR:=λb=>hc k b w;rcases h.Ez hk k with⟨j,x,e0,g1,g2,g3,g4⟩|⟨g1,g2⟩
 ·have p7:=gT (P:=P) Eg aeu g4 w;have hj:=(xaU.1 g1).1;have hkey:es[j].key=ke k:=(h.key j _ _ (xbD hj) g2).1;have hmem:k∈m.map Prod.fst:=xal.2 ⟨_,xav g2,rfl⟩;obtain⟨w',hs,hown⟩:=bZ (P:=P) hw (es.modify j λe=>{e with key:=ke k}) ck (by rw[h.sameKey g2];exact Ty _ (.map es ck));refine⟨.tuple #[e0.val,.int .i64 (es[j].born:Int)],w',_,?_,hown,h1 es ck e0.val es[j].born (by rw[xae hmem];exact h) ⟨es[j],by simp,rfl⟩⟩;simp[Instr.mapEntry,run_underlying ht,bc hw yH,fR,p7,hj,Instr.keyThatStays,hkey,hb k,hs,goInt]
 have p7:=gT (P:=P) Eg aeu g2 w;obtain⟨w',hs,hown⟩:=bZ (P:=P) hw (es.push {key:=ke k,val:=z,born:=ck}) (ck+1) (Ty _ _);have mC:=h.more (k:=k) g1 hvz;have e2:eu m k y0=m++[(k,y0)]:=by unfold eu;rw[xac g1]
 rw[e2]at mC;refine⟨.tuple #[z,.int .i64 (ck:Int)],w',_,?_,hown,h1 _ _ z ck (by rw[xac g1];exact mC) ⟨_,by rw[xeu];exact xaa _ (.head _),rfl⟩⟩;simp[Instr.mapEntry,run_underlying ht,bc hw yH,fR,p7,dY hi yJ,hs,goInt]
omit [DecidableEq κ] in
def aI.Wg{o:Oper}{ρ:Operand->zV}{t:TypeId}{mo so xo:Operand}{st:Nat}(ho:o.op=.entryStore t mo so xo)(Ω:ρ mo=.map (some b))(μ:ρ so=.int .i64 (st:Int))
 (h:aI ke vr es ck m)(hst:∃e∈es.toList,e.born=st)(hv:∀x,vr (ρ xo) x){c:Obj->Hp}(Ty:∀o o',df b o o' (c o) (c o'))
 (h1:∀τ,aI ke vr τ ck m->K undef (c (.map τ ck))):mR P g o ρ (c (.map es ck)) K KP:=by
 have yH:(b,Obj.map es ck)∈c (.map es ck):=(Ty _ (.map es ck)).mem;refine mR.tc (s:=Instr.entryStore t (.map (some b)) (.int .i64 (st:Int)) (ρ xo)) (by simp only[execOp,ho,Ω,μ]) λw hw=>?_;obtain⟨i,hi⟩:∃i,es.findIdx? (λe=>(e.born:Int)==(st:Int))=some i:=by
  obtain⟨e,he,rfl⟩:=hst;rw[<-xdP,Array.findIdx?_isSome];rw[Array.any_eq_true'];exact⟨e,by simpa using he,by simp⟩
 obtain⟨w',hs,hown⟩:=bZ (P:=P) hw (es.modify i λe=>{e with val:=ρ xo}) ck (Ty _ _);have hbn:((es.modify i λe=>{e with val:=ρ xo}).toList.map MapEntry.born)=es.toList.map MapEntry.born:=by
  apply xba;intro j;simp only[xaq,xbd,xb6];split
  ·cases es[j]? <;>rfl
  rfl
 refine⟨w',_,?_,hown,h1 _ ⟨by simp[h.len],λj e x he hx=>?_,h.nd,by rw[hbn];exact h.born,λe he=>?_⟩⟩
 ·simp only[Instr.entryStore,Sem.run_bind,bc hw yH,Result.andThen_ok,asInt,asIntOf,Sem.run_pure];simp only[hi,hs]
 ·rw[xb6]at he;split at he
  ·cases h0:es[j]? with
   |none=>rw[h0]at he;simp at he
   |some e0=>
    rw[h0]at he;simp only[xcj,xat]at he;subst he;exact⟨(h.key j _ _ h0 hx).1,hv _⟩
  exact h.key j _ _ he hx
 have:e.born∈(es.modify i λe=>{e with val:=ρ xo}).toList.map MapEntry.born:=xaT he;rw[hbn]at this;obtain⟨e0,h1,h2⟩:=xal.1 this;rw[<-h2];exact h.lt e0 h1
end
def bE.out{C:Hp}{c:Hp->Hp}(h:bE C H c)(N:Hp):aO (c (N++C)) (N++H):=by obtain⟨e,F,hp⟩:=h.spec;refine .perm ((hp (N++C)).trans ?_);rw[xag];apply xbB N;have:=hp C;rw[<-e]at this;exact this.symm
end Go.Sx
set_option maxRecDepth 100000
namespace Go.Proofs
open Go Go.Sx Tryz
section
open ax
section
variable {kp:Nat} {K:Kd} {θ ai tr:zL} {C:Hp} {S:Nat->ax.Fn}
def Cq(N:eM)(r:Nat):Int:=match N r with|some d=>(d.v:Int)|none=> -1
variable{N:eM}{r:Nat}
def Em(hl:live N r)(h2:∀d,N r=some d->2<=r):∃lo hi,got N r=[iv (Cq N r),δ lo,δ hi]/\∀e,N r=some e->lo=e.lo/\hi=e.hi:=by
 cases h:N r with
 |some d=>
  refine⟨d.lo,d.hi,?_,λe he=>by cases he;exact⟨rfl,rfl⟩⟩;rw[eo h (h2 d h)];simp[bB,Cq,h]
 |none=>
  have hr:r<2:=by
   rcases hl with hl|⟨d,hd⟩
   ·exact hl
   rw[h]at hd;cases hd
  refine⟨r,r,?_,λe he=>by cases he⟩;rw[fS hr];simp[Cq,h]
theorem DH(h:cX kp K θ ai tr C){r:Nat}(hr:r<4294967296)(hl:live K.N r)(h2:∀d,K.N r=some d->2<=r)(y:Nat):
  Rd zQ 260 #[γ kp,δ r,iv (y:Int)] C (· =.tuple #[δ (pl K.N y r),δ (ph K.N y r)]):=by
 have h0:=h;obtain⟨b,rfl,hO⟩:=h;obtain⟨lo,hi,hg,he⟩:=Em hl h2;refine aJ λg=>Iq (Nil.γ (aj.mk (ae.eq (oz h0 hr) ?_)));intro b5 _;refine St.whole (r:=got K.N r) (by exact .head _) rfl (aS _ _).1 (aS _ _).2 ?_;rw[hg];refine Ld.f ?_;refine ah.iD (Br.dec (λe=>?_) (λe=>?_))
 ·refine Ld.f ?_;refine Ld.f ?_;cases hN:K.N r with
  |none=>simp[Cq,hN]at e<;>omega
  |some d=>
   obtain⟨rfl,rfl⟩:=he d hN;have hv:d.v=y:=by simp[Cq,hN]at e;omega
   obtain⟨e1,e2⟩:=WD hN hv;exact br.mk .tail (by rw[e1,e2];rfl)
 obtain⟨e1,e2⟩:=WE (N:=K.N) (y:=y) (r:=r) λd hd=>by simp[Cq,hd]at e<;>omega
 exact br.mk .tail (by rw[e1,e2])
def mP(c:Cx):List zV:=[δ c.r,iv (c.d.v:Int),δ c.d.lo,δ c.d.hi,δ c.yQ,δ c.yP,δ c.uB,δ c.uA]
def mH(c:Cx):∀x∈mP c,x.oneCell'=true:=by intro x hx;simp[mP,δ]at hx;rcases hx with rfl|rfl|rfl|rfl|rfl|rfl|rfl|rfl<;>rfl
structure yW(N:eM)(x y:Nat)(l:zL)(all:List Cx):Prop where
 nd:(all.map Cx.r).Nodup
 mem:∀c,c∈all↔c.r∈l/\nw N x y c.r c.d/\c=oU N y c.r c.d
variable{x y:Nat}
def yW.skip{l:zL}{all:List Cx}{d:Nd}(h:yW N x y l all)(hd:N r=some d)(hn:¬nw N x y r d):yW N x y (l++[r]) all where
 nd:=h.nd
 mem:=λc=>by
  rw[h.mem,xao];constructor
  ·rintro⟨h1,h2⟩;exact⟨.inl h1,h2⟩
  rintro⟨h1|h1,h2,h3⟩
  ·exact⟨h1,h2,h3⟩
  simp at h1;have:=h2.1;rw[h1,hd]at this;cases this;rw[h1]at h2;exact absurd h2 hn
def yW.more{l:zL}{all:List Cx}{d:Nd}(h:yW N x y l all)(hr:r∉l)(hn:nw N x y r d):yW N x y (l++[r]) (all++[oU N y r d]) where
 nd:=by
  rw[xaz];refine xa3.2 ⟨h.nd,by simp,λa ha b hb e=>?_⟩;simp[oU]at hb;subst e;obtain⟨c,hc,rfl⟩:=xal.1 ha;exact hr (hb▸((h.mem c).1 hc).1)
 mem:=λc=>by
  rw[xao,h.mem,xao,xaE,xaE];constructor
  ·rintro(⟨h1,h2⟩|rfl)
   ·exact⟨.inl h1,h2⟩
   exact⟨.inr rfl,hn,rfl⟩
  rintro⟨h1|h1,h2,h3⟩
  ·exact .inl ⟨h1,h2,h3⟩
  right;have h4:=h2.1;rw[h1,hn.1]at h4;cases h4;exact h3.trans (by rw[h1])
def yW.all{l:zL}{all:List Cx}(h:yW N x y l all)(hl:∀r d,N r=some d->d.v=x->r∈l):ME N x y all where
 nd:=h.nd
 mem:=λc=>by
  rw[h.mem];exact⟨λh=>h.2,λh=>⟨hl _ _ h.1.1 h.1.2.1,h⟩⟩
def Bs(h:cX kp K θ ai tr C)(hl:live K.N r)(h2:∀d,K.N r=some d->2<=r){H:Hp}{c:Hp->Hp}(hh:bE C H c){g:Gh}{Q:zV->Hp->Prop}{KP:List PanicEntry->Hp->Prop}
 (hk:∀lo hi,got K.N r=[iv (Cq K.N r),δ lo,δ hi]->(∀e,K.N r=some e->lo=e.lo/\hi=e.hi)->Q (.agg #[iv (Cq K.N r),δ lo,δ hi]) H):ae zQ g 190 #[γ kp,δ r] H Q KP:=by have hr:=h.lt hl;obtain⟨lo,hi,hg,he⟩:=Em hl h2;apply ae.eh hh (oz h zO);have:=hk lo hi hg he;rw[hg];exact this
theorem BY(h:cX kp K θ ai tr C)(hok:Ok K S (lv ai))(hx:x<K.n):
  Fc zQ 200 #[γ kp,iv (x:Int),iv (y:Int)] C (λr H=>∃all Na,H=Na++C/\aU 272 8 r (all.map mP) Na/\ME K.N x y all/\all.length<=1048576):=by
 have hcap:=h.cap;have h0:=h;obtain⟨b,hC,hO⟩:=h;have Xp:∀d r,K.T d=some r↔K.N r=some d:=λd r=>by rw[hok.mid.kK];exact⟨λh=>h.1,λh=>⟨h,λx=>x⟩⟩
 have two:∀{r d},K.N r=some d->2<=r:=λhd=>(hok.mid.two hd).1;refine aJ λg=>Jc ?_;rw[hC];refine Nil.γ (aj.mk (aj.mk (Ld.q ?_)));refine ae.fq (Ww hO.ut hx (λd d' r h1 h2=>by rw[Xp]at h1 h2;rw[h1]at h2;cases h2;rfl) (λd r h1=>by have:=(hok.mid.two ((Xp d r).1 h1)).2;omega)) ?_;rintro w H ⟨sl,l,Nr,rfl,rfl,Y9,fQ,hmem⟩;refine Ext.two (Y9.bL ?_);rw[av];have hl:∀r∈l,∃d,K.N r=some d/\d.v=x:=λr hr=>by obtain⟨d,h1,h2⟩:=(hmem r).1 hr;exact⟨d,(Xp d r).1 h1,h2⟩
 have Ξ:l.length<=1048576:=by
  have:=cz (l':=List.range 1048576) fQ λr hr=>by
   obtain⟨d,hd,_⟩:=hl r hr;have:=(hok.mid.two hd).2;exact xaN.2 zO
  simpa using this
 refine⟨λvs H=>∃(v:zV) (i:Nat) (all:List Cx) (Na:Hp),vs=[v,iv (i:Int)]/\H=Na++(Nr++C)/\i<=l.length/\aU 272 8 v (all.map mP) Na/\yW K.N x y (l.take i) all/\all.length<=i,
  λvs _=>l.length-bH vs 1,JE.of (bE.out (C:=b.CT) (.cons (.app .left)) Nr) ⟨_,0,[],[],rfl,by rw[hC];rfl,xaL _,aU.nil _ _,⟨by simp,by simp⟩,xai _⟩,?_⟩
 rintro w w' H ⟨v,i,all,Na,hw,rfl,hi,ho,CD,QJ⟩ gs;simp only[xaw,xaW]at hw;obtain⟨rfl,rfl⟩:=hw;refine ah.eA (Br.dec (λη=>?_) (λhge=>?_));rotate_left
 ·have:i=l.length:=by omega
  subst this;rw[xa7]at CD;refine aQ.mk (mS:=Na++C) ?_ ⟨all,Na,by rw[hC],ho,CD.all λr d hd hv=>(hmem r).2 ⟨d,(Xp d r).2 hd,hv⟩,by omega⟩;exact aO.cv .right Na
 obtain⟨r,Fu⟩:∃r,l[i]? =some r:=⟨_,xab η⟩;have nT:l.take (i+1)=l.take i++[r]:=by rw[xbg,Fu];rfl
 have hrn:r∉l.take i:=λhm=>by
  have:(l.take (i+1)).Nodup:=fQ.sublist (xdZ _ _);rw[nT]at this;exact(xa3.1 this).2.2 r hm r zI rfl
 obtain⟨d,hd,kQ⟩:=hl r (xav Fu);have aa6:=hok.mid.lo hd;have aa7:=hok.mid.hi hd;intro J17 He;have next:∀v' U7 Na',aU 272 8 v' (U7.map mP) Na'->yW K.N x y (l.take (i+1)) U7->U7.length<=i+1->J17 [v'] (Na'++(Nr++C)):=λv' U7 Na' h1 h2 h3=>
  He _ _ λgs=>ah.inc (aD.mk ⟨v',i+1,U7,Na',rfl,rfl,by omega,h1,h2,h3⟩ (by simp[bH];omega))
 refine Y9.ld (x:=(r:Int)) (dk Fu) (λy hy=>xaa _ (xad _ hy)) (Nil.γ (aj.mk (Bs h0 (.inr ⟨d,hd⟩) (λ_ h=>two h) (.app (.app .here)) λlo hi hg he=>?_)));obtain⟨rfl,rfl⟩:=he d hd;have hvr:Cq K.N r=(x:Int):=by simp[Cq,hd,kQ]
 rw[hvr];intro b28 _;refine St.p (by intro z hz;simp[δ]at hz;rcases hz with rfl|rfl|rfl<;>rfl) ?_;obtain⟨H0,XS⟩:∃H0,H0=(b28,Obj.cells #[iv (x:Int),δ d.lo,δ d.hi] 144 zZ)::(Na++(Nr++C)):=⟨_,rfl⟩;have hEq:((b28,Obj.cells [Value.int .i64 (x:Int),δ d.lo,δ d.hi].toArray 144 zZ)::(Na++(Nr++C)))=H0:=XS.symm;rw[hEq];intro J31 TX;have skip:¬nw K.N x y r d->J31 [.bool true] H0:=λhn=>TX _ _ λgs=>Br.yes (JE.of (by rw[XS];exact .tail) (next w all Na ho (by rw[nT];exact CD.skip hd hn) zO));have take:nw K.N x y r d->J31 [.bool false] H0:=λhn=>by
  refine TX _ _ λgs=>Br.no ?_;rw[XS];refine aB.q ?_;refine Build.mk (cs:=mP ⟨r,⟨x,d.lo,d.hi⟩,0,0,0,0⟩) zK λb37 _=>?_;refine St.p (mH _) ?_;refine Ld.f ?_;refine ae.eq (DH h0 (by have:=h0.lt aa6;omega) aa6 (λ_ h=>two h) y) (Ext.two (aj.mk (St.one (by exact .head _) rfl (by simp[mP]) rfl ?_)));refine aj.mk (St.one (by exact .head _) rfl (by simp[mP]) rfl ?_);refine Ld.f ?_;refine ae.eq (DH h0 (by have:=h0.lt aa7;omega) aa7 (λ_ h=>two h) y) (Ext.two (aj.mk (St.one (by exact .head _) rfl (by simp[mP]) rfl ?_)));refine aj.mk (St.one (by exact .head _) rfl (by simp[mP]) rfl ?_);have dF:d=⟨x,d.lo,d.hi⟩:=by cases d;simp at kQ;subst kQ;rfl
  have hcell:mP (oU K.N y r d)=[δ r,iv (x:Int),δ d.lo,δ d.hi,δ (pl K.N y d.lo),δ (ph K.N y d.lo),δ (pl K.N y d.hi),δ (ph K.N y d.hi)]:=by
   simp[mP,oU,kQ]
  refine aB.whole (r:=mP (oU K.N y r d)) (by rw[hcell];exact .head _) rfl ?_;refine aq.one (e:=272) (z:=.agg #[.int .u32 0,iv 0,.int .u32 0,.int .u32 0,.int .u32 0,.int .u32 0,.int .u32 0,.int .u32 0]) (k:=8) (r:=mP (oU K.N y r d)) zK zK zK zD rfl λxb=>?_;refine ho.qd (.cons (.cons (.cons .left))) (by exact .head _) rfl (mH _) ⟨_,rfl,rfl⟩ zP zP λv' Na' cA=>?_;refine JE.of (.skip (.skip .tail)) (next v' (all++[oU K.N y r d]) Na' (by rw[xaz];exact cA) (by rw[nT];exact CD.more hrn hn) zP)
 refine DR.of (R:=[(b28,Obj.cells #[iv (x:Int),δ d.lo,δ d.hi] 144 zZ)]) (by rw[XS];exact .left (A:=[_])) (Nil.γ (aj.mk (Ld.f ?_)));have heR:aO H0 [(b28,Obj.cells #[iv (x:Int),δ d.lo,δ d.hi] 144 zZ)]:=by rw[XS];exact .left (A:=[_])
 intro F;rw[XS];refine Bs h0 aa6 (λ_ h=>two h) (.cons (.app (.app .here))) λlo1 hi1 hg1 GZ=>?_;rw[<-XS];refine⟨heR,CY.mk rfl (ah.cM (Br.dec (λξ=>?_) (λhe=>?_)))⟩
 ·refine Nil.γ (aj.mk (Ld.f ?_));intro F2;rw[XS];refine Bs h0 aa7 (λ_ h=>two h) (.cons (.app (.app .here))) λlo2 LN VD VG=>?_;rw[<-XS];refine⟨heR,CY.mk rfl (ah.cM (aG.mk ?_))⟩;by_cases e2:Cq K.N d.hi=(y:Int)
  ·rw[xan (by simpa using e2)];refine JE.mk (take ⟨hd,kQ,.inr ?_⟩);cases hN:K.N d.hi with
   |none=>simp[Cq,hN]at e2<;>omega
   |some f=>exact⟨f,rfl,by simp[Cq,hN]at e2;omega⟩
  ·rw[xam (by simpa using e2)];refine JE.mk (skip ?_);rintro⟨_,_,⟨f,hf,Tp⟩|⟨f,hf,Tp⟩⟩
   ·exact ξ (by simp[Cq,hf,Tp])
   exact e2 (by simp[Cq,hf,Tp])
 have e1:Cq K.N d.lo=(y:Int):=by simpa using he
 refine JE.mk (take ⟨hd,kQ,.inl ?_⟩);cases hN:K.N d.lo with
 |none=>simp[Cq,hN]at e1<;>omega
 |some f=>exact⟨f,rfl,by simp[Cq,hN]at e1;omega⟩
end
end
section
open ax
section
def zOf:zV->Int
 | .int _ z=>z
 |_=>0
abbrev vrZ(v:zV)(z:Int):Prop:=v=iv z
def xQ(es:Array MapEntry)(ck:Nat)(ks:List Nd):Prop:=∃m:List (Nd×Int),aI nK vrZ es ck m/\m.map Prod.fst=ks
def xQ.empty:xQ #[] 0 []:=⟨[],aI.empty,rfl⟩
def xQ.of{es:Array MapEntry}{ck:Nat}{m:List (Nd×Int)}(h:aI nK (λv _=>∃z,v=iv z) es ck m):xQ es ck (m.map Prod.fst):=by
 have Ξ:es.toList.length=m.length:=by simpa using h.len
 have hz:((es.toList.zip m).map λp=>((p.2.1,zOf p.1.val):Nd×Int)).map Prod.fst=m.map Prod.fst:=by
  rw[xbY];have:(Prod.fst∘λ(p:MapEntry×(Nd×Int))=>((p.2.1,zOf p.1.val):Nd×Int))=Prod.fst∘Prod.snd:=rfl;rw[this,<-xbY,List.map_snd_zip zO]
 refine⟨_,⟨?_,λi e x he hx=>?_,by rw[hz];exact h.nd,h.born,h.lt⟩,hz⟩
 ·simp[h.len]
 have hi:=(xaU.1 he).1;have LN:i<m.length:=by rw[<-h.len];exact hi
 have hm:m[i]? =some m[i]:=xab LN;obtain⟨h1,z,h2⟩:=h.key i e _ he hm;have hx':x=(m[i].1,zOf e.val):=by
  have e1:es.toList[i]? =some e:=by rw[xbd];exact he
  rw[xaq,(List.getElem?_zip_eq_some (z:=(e,m[i]))).2 ⟨e1,hm⟩]at hx;simpa using hx.symm
 subst hx';exact⟨h1,by rw[h2];rfl⟩
def Own.sub{g:Gh}{H:Hp}{w:World}(h:Own g H w){y:Nat×Obj}(hy:y∈H):Own g [y] w:=by obtain⟨X,Y,rfl⟩:=xdh hy;exact(h.perm xaO).left (A:=[y])
noncomputable abbrev FF:Func:=Tryz.f201
def six{i:Nat}(hi:i<6):¬Se .any (pY FF 10) i 6:=λh=>by
 have e6:(pY FF 10)[6]? =some (eZ FF 10 6):=by kernel_rfl
 have:=h _ e6;have hm:(⟨i,.phase⟩:Edge)∈(eZ FF 10 6).after:=by
  have ea:(eZ FF 10 6).after=#[⟨0,.data⟩,⟨5,.data⟩,⟨3,.data⟩,⟨4,.chain⟩,⟨0,.phase⟩,⟨1,.phase⟩,⟨2,.phase⟩,⟨3,.phase⟩,⟨4,.phase⟩,⟨5,.phase⟩]:=by kernel_rfl
  rw[ea];rcases i with _|_|_|_|_|_|i;all_goals first|omega|simp
 exact this _ hm rfl rfl
end
section
def Mf(ζ:Array Oper)(υ:Array Bool):Bool:=(List.range ζ.size).all λj=>match ζ[j]? with
 |some oj=> !υ.getD j true||oj.after.toList.all λe=> !Region.binds .any e||υ.getD e.on true
 |none=>true
def ij{ζ:Array Oper}{υ:Array Bool}(h:Mf ζ υ=true):fH .any ζ υ:=by intro j oj hj hl e he hb;unfold Mf at h;have h1:=xc8.1 h j (xaN.2 (xaU.1 hj).1);simp only[hj,hl,xcE,xdD]at h1;have h2:=xc8.1 h1 e (xc3.2 he);rw[hb]at h2;simpa using h2
theorem Xj{g:Gh}{mb nb:Nat}{es:Array MapEntry}{ck:Nat}{ks:List Nd}{d:Nd}(hmk:xQ es ck ks){c:Obj->Hp}(Ty:∀o o',df mb o o' (c o) (c o'))(hcn:∀o,(nb,Obj.cells (bB d).toArray 144 zZ)∈c o){K:Hp->Prop}
 (hk:∀τ bF,xQ τ bF (if d∈ks then ks else ks++[d])->K (c (.map τ bF))):
  abM zQ g 10 (pY FF 10) [7,11] [.map (some mb),γ nb] (c (.map es ck)) K:=by
 have hm:(mb,Obj.map es ck)∈c (.map es ck):=(Ty _ (.map es ck)).mem;have hn:=hcn (.map es ck);obtain⟨m,hE,rfl⟩:=hmk;intro a w hok hvs hw;simp only[xay,xcd,xaw,xaW]at hvs;obtain⟨h7,XW⟩:=hvs;obtain⟨n,hnn⟩:∃n,n=a.tmps.size:=⟨_,rfl⟩;obtain⟨fr,hfr⟩:∃fr:Fr,fr=λs=>a.tmps.getD s undef:=⟨_,rfl⟩;have ha:cF a.defers n a fr:=⟨rfl,hnn.symm,λs=>by rw[hfr]⟩;have f7:fr 7=.map (some mb):=by rw[hfr];exact h7
 have f11:fr 11=γ nb:=by rw[hfr];exact XW
 rw[<-hnn]at hok;have eok:jr n (pY FF 10).toList=(Nat.blt 58 n&& (Nat.blt 59 n&& (Nat.blt 60 n&& (Nat.blt 61 n&& (Nat.blt 62 n&& (Nat.blt 63 n&& (true&&true))))))):=by kernel_rfl
 rw[eok]at hok;simp only[xaJ,xd2]at hok;obtain⟨k58,k59,k60,k61,k62,k63⟩:=hok;refine wp_region_any zK ?_;obtain⟨z0,YY⟩:∃z0:Int,z0=(aN m d).getD 0:=⟨_,rfl⟩;obtain⟨S0,TS⟩:∃S0:World->Prop,S0=λw=>Own g [(nb,Obj.cells (bB d).toArray 144 zZ)] w/\(Instr.lookup 329 (.map (some mb)) (nK d) false).run zQ w=.ok (iv z0) w:=⟨_,rfl⟩;have look:∀{τ:Array MapEntry} {bF:Nat} {m':List (Nd×Int)} {H':Hp} {w':World},aI nK vrZ τ bF m'->(mb,Obj.map τ bF)∈H'->Own g H' w'->(aN m' d).getD 0=z0->(Instr.lookup 329 (.map (some mb)) (nK d) false).run zQ w'=.ok (iv z0) w':=by
  intro τ bF m' H' w' h1 h2 h3 h4;have hL:kG zQ 144 (iv 0) false H' (.map (some mb)) (nK d) (· =iv z0):=by
   cases hg:aN m' d with
   |some z=>exact aI.GU (ke:=nK) (k:=d) rS m9 h1 h2 hg (by rintro v rfl;rw[hg]at h4;simp at h4;rw[h4];rfl)
   |none=>exact aI.wA (ke:=nK) (k:=d) rS m9 h1 h2 hg (by rw[hg]at h4;simp at h4;rw[<-h4];rfl)
  obtain⟨v,hr,rfl⟩:=hL.run (P:=zQ) h3 (t:=329) (kt:=144) (e:=3) (kd:=.struct (Tryz.prog.fieldsOf 144)) (i:=(Tryz.prog.info? 3).get zK) zK Lw rfl zK zK;exact hr
 have Vx:=hw.Ap;have s0:S0 {w with drawn:=w.drawn+1}:=by rw[TS];exact⟨Own.sub Vx hn,look hE hm Vx YY.symm⟩
 have hQp:∀{o:Oper} {v:zV} (c:List PanicEntry) (a':Act) (w':World),(λ(e:Exit) (a':Act) (w':World)=>e=.normal/\a'.defers=a.defers/\a'.tmps.size=a.tmps.size/\(∀s,bV (pY FF 10).toList s=false->a'.tmps.getD s undef=a.tmps.getD s undef)/\∃H',Own g H' w'/\K H') (.panic c) (a'.put o.dst v) w'->
   (λ(e:Exit) (a':Act) (w':World)=>e=.normal/\a'.defers=a.defers/\a'.tmps.size=a.tmps.size/\(∀s,bV (pY FF 10).toList s=false->a'.tmps.getD s undef=a.tmps.getD s undef)/\∃H',Own g H' w'/\K H') (.panic c) a' w':=by
  rintro _ _ _ _ _ ⟨h,_⟩;cases h
 have hsel:Region.noSelect (pY FF 10)=true:=by kernel_rfl
 have hkeep:∀i,i<6->∀(j:Nat) (oj:Oper) (w w':World),(pY FF 10)[j]? =some oj->j≠i->¬o9 .any (pY FF 10) i j->S0 w->(j≠6->S0 w->S0 w')->S0 w':=λi hi j oj w w' _ _ Γ h0 hs=>by
  by_cases e:j=6
  ·subst e;exact absurd (λoj jF e he hb heq=>Γ (.one jF he hb heq)) (six hi)
  exact hs e h0
 refine dj.any (S:=λj w w'=>j≠6->S0 w->S0 w') ?_;have hsz:(pY FF 10).size=7:=by kernel_rfl
 rw[hsz];refine dj.take (ij zK) (S0:=S0) (i:=0) (oi:=eZ FF 10 0) (v:=.map (some mb)) zK hsel zK zK hQp (λ_ h _ _=>h) (hkeep 0 zD) (.inl ⟨rfl,λw hw=>?_⟩) s0 ?_
 ·rw[ha.eval];have:(execOp (ev fr) (eZ FF 10 0))=pure (.value (fr 7)):=rfl
  rw[this,f7];rfl
 have uS:=ha.put (d:=some 58) k58 (.map (some mb));change dj _ _ _ _ _ 6 _ (a.put (some 58) (.map (some mb))) _;refine dj.take (ij zK) (S0:=S0) (i:=1) (oi:=eZ FF 10 1) (v:=nK d) zK hsel zK zK hQp (λ_ h _ _=>h) (hkeep 1 zD) (.inl ⟨rfl,λw hw=>?_⟩) s0 ?_
 ·rw[uS.eval];have e:Bp zQ g (eZ FF 10 1) (ev (bt fr (some 58) (.map (some mb)))) [(nb,Obj.cells (bB d).toArray 144 zZ)] (λv=>v=nK d)=aB 3 [(nb,Obj.cells (bB d).toArray 144 zZ)] (fr 11) (λv=>v=nK d):=by kernel_rfl
  obtain⟨v,rfl,hr,_⟩:=pH (e.mpr (by rw[f11];exact aB.q rfl));rw[TS]at hw;exact hr _ hw.1
 have q9:=uS.put (d:=some 59) k59 (nK d);change dj _ _ _ _ _ 5 _ ((a.put (some 58) (.map (some mb))).put (some 59) (nK d)) _;refine dj.take (ij zK) (S0:=S0) (i:=2) (oi:=eZ FF 10 2) (v:=iv z0) zK hsel zK zK hQp (λ_ h _ _=>h) (hkeep 2 zD) (.inl ⟨rfl,λw hw=>?_⟩) s0 ?_
 ·rw[q9.eval];have e:execOp (ev (bt (bt fr (some 58) (.map (some mb))) (some 59) (nK d))) (eZ FF 10 2)=(do pure (.value (<-Instr.lookup 329 (.map (some mb)) (nK d) false))):=rfl;rw[TS]at hw;rw[e];simp only[Sem.run_bind,hw.2,Result.andThen_ok,Sem.run_pure]
 have ve:=q9.put (d:=some 60) k60 (iv z0);change dj _ _ _ _ _ 4 _ (((a.put (some 58) (.map (some mb))).put (some 59) (nK d)).put (some 60) (iv z0)) _;refine dj.take (ij zK) (S0:=S0) (i:=3) (oi:=eZ FF 10 3) (v:=iv (IntKind.i64.wrap (z0+1))) zK hsel zK zK hQp (λ_ h _ _=>h) (hkeep 3 zD) (.inl ⟨rfl,λw hw=>?_⟩) s0 ?_
 ·rw[ve.eval];have e:Bp zQ g (eZ FF 10 3) (ev (bt (bt (bt fr (some 58) (.map (some mb))) (some 59) (nK d)) (some 60) (iv z0))) [(nb,Obj.cells (bB d).toArray 144 zZ)] (λv=>v=iv (IntKind.i64.wrap (z0+1)))=ah .num .add (iv z0) (iv 1) (λv=>v=iv (IntKind.i64.wrap (z0+1))):=by kernel_rfl
  obtain⟨v,rfl,hr,_⟩:=pH (e.mpr (ah.add rfl));rw[TS]at hw;exact hr _ hw.1
 have G8:=ve.put (d:=some 61) k61 (iv (IntKind.i64.wrap (z0+1)));change dj _ _ _ _ _ 3 _ ((((a.put (some 58) (.map (some mb))).put (some 59) (nK d)).put (some 60) (iv z0)).put (some 61) (iv (IntKind.i64.wrap (z0+1)))) _;generalize (((a.put (some 58) (.map (some mb))).put (some 59) (nK d)).put (some 60) (iv z0)).put (some 61) (iv (IntKind.i64.wrap (z0+1)))=a4 at G8;refine dj.all (rs:=[4]) zK zI λi hi=>?_;simp only[xaE]at hi;subst hi;have e4:(pY FF 10)[4]? =some (eZ FF 10 4):=by kernel_rfl
 unfold wpOp;rw[e4];simp only;rw[xae (show Region.wanted (eZ FF 10 4) (yielded (pY FF 10) a4.tmps)=true from rfl)];refine .inl ?_;show(eZ FF 10 4).upon zQ a4 _ _ ((execOp a4.eval (eZ FF 10 4)).run zQ _);rw[G8.eval];refine pw.upon (g:=g) (KP:=λ_ _=>False) (aI.Ya (K:=λv H'=>∃τ bF v0 st,aI nK vrZ τ bF (if d∈m.map Prod.fst then m else m++[(d,0)])/\(∃e∈τ.toList,e.born=st)/\H'=c (.map τ bF)/\v=.tuple #[v0,iv (st:Int)])
  (t:=329) (kt:=144) (e:=3) (z:=iv 0) (k:=d) (y0:=(0:Int)) rS m9 Ly (o:=eZ FF 10 4) (mo:=.tmp 58) (ko:=.tmp 59) rfl rfl rfl zK Lw rfl zK rfl hE Ty
  (λτ bF v st h1 h2=>⟨τ,bF,v,st,h1,h2,rfl,rfl⟩) _ Vx) ?_ (λ_ _ _ _ h=>h.elim)
 rintro v H1 w1 jQ ⟨kR,j7,v0,st,VM,hst,rfl,rfl⟩;have VA:(nb,Obj.cells (bB d).toArray 144 zZ)∈c (.map kR j7):=hcn _;have uO:(mb,Obj.map kR j7)∈c (.map kR j7):=(Ty _ (.map kR j7)).mem;have s1:S0 w1:=by
  rw[TS];refine⟨Own.sub jQ VA,look VM uO jQ ?_⟩;rw[YY];split
  ·rfl
  rename_i dF;have e1:=iH.2 dF;have e2:aN (m++[(d,0)]) d=some 0:=(ef (by
   have:=VM.nd;rw[xac dF]at this;exact this)).2 zI
  rw[e1,e2];rfl
 refine⟨λ_ _=>s1,?_⟩;have G7:=G8.put (d:=some 62) k62 (.tuple #[v0,iv (st:Int)]);change dj _ _ _ _ _ 2 _ (a4.put (some 62) (.tuple #[v0,iv (st:Int)])) _;generalize a4.put (some 62) (.tuple #[v0,iv (st:Int)])=a5 at G7;refine dj.take (ij zK) (S0:=S0) (i:=5) (oi:=eZ FF 10 5) (v:=iv (st:Int)) zK hsel zK zK hQp (λ_ h _ _=>h) (hkeep 5 zD) (.inl ⟨rfl,λw hw=>?_⟩) s1 ?_
 ·rw[G7.eval];obtain⟨v,rfl,hr,_⟩:=pH (P:=zQ) (g:=g) (o:=eZ FF 10 5) (H:=[(nb,Obj.cells (bB d).toArray 144 zZ)]) (k:=λv=>v=iv (st:Int))
   (ρ:=ev (bt (bt (bt (bt (bt fr (some 58) (.map (some mb))) (some 59) (nK d)) (some 60) (iv z0)) (some 61) (iv (IntKind.i64.wrap (z0+1)))) (some 62) (.tuple #[v0,iv (st:Int)]))) ⟨_,_,rfl,rfl,rfl⟩
  rw[TS]at hw;exact hr _ hw.1
 have G6:=G7.put (d:=some 63) k63 (iv (st:Int));change dj _ _ _ _ _ 1 _ (a5.put (some 63) (iv (st:Int))) _;generalize a5.put (some 63) (iv (st:Int))=a6 at G6;refine dj.all (rs:=[6]) zK zI λi hi=>?_;simp only[xaE]at hi;subst hi;have e6:(pY FF 10)[6]? =some (eZ FF 10 6):=by kernel_rfl
 unfold wpOp;rw[e6];simp only;rw[xae (show Region.wanted (eZ FF 10 6) (yielded (pY FF 10) a6.tmps)=true from rfl)];refine .inl ?_;show(eZ FF 10 6).upon zQ a6 _ _ ((execOp a6.eval (eZ FF 10 6)).run zQ _);rw[G6.eval];refine pw.upon (g:=g) (KP:=λ_ _=>False) (aI.Wg (vr:=λv _=>∃z:Int,v=iv z) (K:=λ_ H'=>∃τ,aI nK (λv _=>∃z:Int,v=iv z) τ j7 (if d∈m.map Prod.fst then m else m++[(d,0)])/\H'=c (.map τ j7))
  (o:=eZ FF 10 6) (t:=329) (mo:=.tmp 58) (so:=.tmp 63) (xo:=.tmp 61) rfl rfl rfl (VM.mono λv z h=>⟨z,h⟩) hst (λ_=>⟨_,rfl⟩) Ty
  (λτ h1=>⟨τ,h1,rfl⟩) _ jQ) ?_ (λ_ _ _ _ h=>h.elim)
 rintro v H2 w2 qm ⟨ic,tw,rfl⟩;refine⟨λh=>absurd rfl h,?_⟩;have XK:cF a.defers n a6 _:=G6;change dj _ _ _ _ _ 0 _ a6 _;refine dj.done zK ⟨rfl,XK.defers,by rw[XK.size,hnn],λs hs=>?_,_,qm,hk ic j7 ?_⟩ 0
 ·have eD:bV (pY FF 10).toList s=(Nat.beq s 58||(Nat.beq s 59||(Nat.beq s 60||(Nat.beq s 61||(Nat.beq s 62||(Nat.beq s 63||(false||false))))))):=by kernel_rfl
  rw[eD]at hs;simp only[xaG]at hs;rw[XK.get];simp only[bt,hs,xaj];rw[hfr]
 have:=xQ.of tw;have e:(if d∈m.map Prod.fst then m else m++[(d,(0:Int))]).map Prod.fst=if d∈m.map Prod.fst then m.map Prod.fst else m.map Prod.fst++[d]:=by
  split<;>simp
 rw[e]at this;exact this
end
section
variable {kp:Nat} {K:Kd} {θ ai tr:zL} {C:Hp} {S:Nat->ax.Fn}
def UH{H:Hp}(a b:Nd){K:zV->Hp->Prop}(h:∀x,K (.slice (some ⟨x,0,none⟩) 2 2) ((x,.cells (ψ [bB a,bB b]) 144 zZ)::H)):
  aq zQ 213 2 [(0,nK a),(1,nK b)] H K:=by refine⟨ψ [bB a,bB b],144,3,.agg #[iv 0,.int .u32 0,.int .u32 0],by kernel_rfl,by kernel_rfl,by kernel_rfl,by decide,?_,λx _=>h x⟩;have e1:Array.range (2*3)=#[0,1,2,3,4,5]:=rfl;simp[Instr.fill,Value.cells,nK,bB,e1,ψ,δ]
def iR(K:Kd)(x:Nat)(l:List Cx)(ks:List Nd)(m:List Nd):Prop:=m.Nodup/\∀k,k∈m↔((∃c∈l,k∈keys x c)\/k∈ks)/\K.T k=none/\k.lo≠k.hi
variable{x:Nat}
def iR.step{l:List Cx}{ks m:List Nd}{d:Nd}(h:iR K x l ks m)(hd:K.T d=none/\d.lo≠d.hi):iR K x l (ks++[d]) (if d∈m then m else m++[d]):=by
 obtain⟨h1,h2⟩:=h;constructor
 ·split
  ·exact h1
  rename_i hn;exact xa3.2 ⟨h1,by simp,λa ha b hb e=>by simp at hb;subst hb;subst e;exact hn ha⟩
 intro k;by_cases hm:d∈m
 ·rw[xae hm,h2,xao,xaE];constructor
  ·rintro⟨h3|h3,h4⟩
   ·exact⟨.inl h3,h4⟩
   exact⟨.inr (.inl h3),h4⟩
  rintro⟨h3|h3|rfl,h4⟩
  ·exact⟨.inl h3,h4⟩
  ·exact⟨.inr h3,h4⟩
  exact(h2 _).1 hm
 rw[xac hm,xao,xaE,h2,xao,xaE];constructor
 ·rintro(⟨h3|h3,h4⟩|rfl)
  ·exact⟨.inl h3,h4⟩
  ·exact⟨.inr (.inl h3),h4⟩
  exact⟨.inr (.inr rfl),hd⟩
 rintro⟨h3|h3|rfl,h4⟩
 ·exact .inl ⟨.inl h3,h4⟩
 ·exact .inl ⟨.inr h3,h4⟩
 exact .inr rfl
def iR.skip{l:List Cx}{ks m:List Nd}{d:Nd}(h:iR K x l ks m)(hd:¬(K.T d=none/\d.lo≠d.hi)):iR K x l (ks++[d]) m:=by
 obtain⟨h1,h2⟩:=h;refine⟨h1,λk=>?_⟩;rw[h2,xao,xaE];constructor
 ·rintro⟨h3|h3,h4⟩
  ·exact⟨.inl h3,h4⟩
  exact⟨.inr (.inl h3),h4⟩
 rintro⟨h3|h3|rfl,h4⟩
 ·exact⟨.inl h3,h4⟩
 ·exact⟨.inr h3,h4⟩
 exact absurd h4 hd
def iR.A5{l:List Cx}{c:Cx}{m:List Nd}(h:iR K x l (keys x c) m):iR K x (l++[c]) [] m:=by
 obtain⟨h1,h2⟩:=h;refine⟨h1,λk=>?_⟩;rw[h2];constructor
 ·rintro⟨⟨c',hc,hk⟩|h3,h4⟩
  ·exact⟨.inl ⟨c',xad _ hc,hk⟩,h4⟩
  exact⟨.inl ⟨c,by simp,h3⟩,h4⟩
 rintro⟨⟨c',hc,hk⟩|h3,h4⟩
 ·rcases xao.1 hc with hc|hc
  ·exact⟨.inl ⟨c',hc,hk⟩,h4⟩
  simp at hc;subst hc;exact⟨.inr hk,h4⟩
 cases h3
theorem T9(h:cX kp K θ ai tr C)(hx:x<K.n){v:zV}{all:List Cx}{Na:Hp}(ha:aU 272 8 v (all.map mP) Na)(Ξ:all.length<=1048576):
  Rd zQ 201 #[γ kp,iv (x:Int),v] (Na++C) (λr=>∃ν,r=iv ((ν.length:Nat):Int)/\Made K x all ν):=by
 have h0:=h;obtain⟨b,hC,hO⟩:=h;refine aJ λg=>Jb λmb _=>?_;refine ha.bL ?_;rw[xar];refine⟨λvs H=>∃(i:Nat) (es:Array MapEntry) (ck:Nat) (m:List Nd),vs=[iv (i:Int)]/\H=(mb,.map es ck)::(Na++C)/\i<=all.length/\xQ es ck m/\iR K x (all.take i) [] m,
  λvs _=>all.length-bH vs 0,JE.mk ⟨0,_,_,[],rfl,rfl,xaL _,xQ.empty,by simp,by simp⟩,?_⟩
 rintro w H ⟨i,es,ck,m,hw,rfl,hi,hmk,Xz⟩ gs;simp only[xaw,xaW]at hw;subst hw;refine ah.eA (Br.dec (λη=>?_) (λhge=>?_));rotate_left
 ·have:i=all.length:=by omega
  subst this;rw[xa7]at Xz;obtain⟨m',he,rfl⟩:=hmk;refine aI.Sq he (.head _) ?_;refine br.mk .tail ⟨m'.map Prod.fst,by rw[xar],Xz.1,λk=>?_⟩;rw[Xz.2];constructor
  ·rintro⟨h3|h3,h4⟩
   ·exact⟨h3,h4⟩
   cases h3
  rintro⟨h3,h4⟩;exact⟨.inl h3,h4⟩
 obtain⟨c,qp⟩:∃c,all[i]? =some c:=⟨_,xab η⟩;have nT:all.take (i+1)=all.take i++[c]:=by rw[xbg,qp];rfl
 refine ha.LG (r:=mP c) (by rw[xaq,qp];rfl) (λy hy=>.tail _ (xad _ hy)) ?_;intro VQ _;refine St.p (mH _) ?_;refine Ld.f ?_;refine Ld.f ?_;refine Build.mk (cs:=bB ⟨x,c.yQ,c.uB⟩) zK (Ld.f ?_);refine Ld.f ?_;refine Build.mk (cs:=bB ⟨x,c.yP,c.uA⟩) zK (UH _ _ λxb=>?_);refine aP.mk ?_;refine⟨λvs H=>∃(j:Nat) (es:Array MapEntry) (ck:Nat) (m:List Nd),vs=[iv (j:Int)]/\H=(xb,.cells (ψ [bB ⟨x,c.yQ,c.uB⟩,bB ⟨x,c.yP,c.uA⟩]) 144 zZ)::(mb,.map es ck)::(Na++C)/\j<=2/\xQ es ck m/\iR K x (all.take i) ((keys x c).take j) m,
  λvs _=>2-bH vs 0,JE.of (.cons .tail) ⟨0,es,ck,m,rfl,rfl,xaL _,hmk,Xz⟩,?_⟩
 clear hmk Xz;rintro w H ⟨j,es,ck,m,hw,rfl,hj,hmk,Xz⟩ gs;simp only[xaw,xaW]at hw;subst hw;refine ah.eA (b:=2) (Br.dec (λuP=>?_) (λhge=>?_));rotate_left
 ·have:j=2:=by omega
  subst this;refine ah.inc (aD.of .tail ⟨i+1,es,ck,m,rfl,rfl,by omega,hmk,?_⟩ (by simp[bH];omega));rw[nT];exact iR.A5 Xz
 obtain⟨d,G0,kQ⟩:∃d,(keys x c)[j]? =some d/\d.v=x:=by
  rcases j with _|_|j
  ·exact⟨_,rfl,rfl⟩
  ·exact⟨_,rfl,rfl⟩
  omega
 have htj:(keys x c).take (j+1)=(keys x c).take j++[d]:=by rw[xbg,G0];rfl
 have hrow:[bB ⟨x,c.yQ,c.uB⟩,bB ⟨x,c.yP,c.uA⟩][j]? =some (bB d):=by
  have:[bB ⟨x,c.yQ,c.uB⟩,bB ⟨x,c.yP,c.uA⟩]=(keys x c).map bB:=rfl;rw[this,xaq,G0];rfl
 intro J34 aiI;have next:∀τ bF m' H',xQ τ bF m'->iR K x (all.take i) ((keys x c).take (j+1)) m'->aO H' ((xb,.cells (ψ [bB ⟨x,c.yQ,c.uB⟩,bB ⟨x,c.yP,c.uA⟩]) 144 zZ)::(mb,.map τ bF)::(Na++C))->JE J34 [] H':=λτ bF m' H' h1 h2 h3=>
  JE.mk (aiI _ λgs=>ah.inc (aD.of h3 ⟨j+1,τ,bF,m',rfl,rfl,by omega,h1,h2⟩ (by simp[bH];omega)))
 refine ay.nat uP ?_;have hmem:(xb,Obj.cells (ψ [bB ⟨x,c.yQ,c.uB⟩,bB ⟨x,c.yP,c.uA⟩]) 144 zZ)∈(xb,Obj.cells (ψ [bB ⟨x,c.yQ,c.uB⟩,bB ⟨x,c.yP,c.uA⟩]) 144 zZ)::(mb,.map es ck)::(Na++C):=.head _;refine aB.row (k:=3) hmem (by simp[bB]) hrow ?_;intro b40 _;refine St.p (λz hz=>by simp[bB,δ]at hz;rcases hz with rfl|rfl|rfl<;>rfl) ?_;refine DR.self ?_;rw[hC];refine Nil.γ (aj.mk (Ld.f ?_));refine aB.q ?_;refine ae.eq (vk (d:=d) hO.ut (by rw[kQ];exact hx)) (⟨.refl _,Ext.mk rfl (Ext.mk rfl (Un.not ?_))⟩);have Za:(!(K.T d).isSome)=decide (K.T d=none):=by cases K.T d<;>simp
 rw[Za];refine dh.and (decide (d.lo≠d.hi)) (λ_=>?_) rfl λgs=>?_
 ·refine Ld.f ?_;refine Ld.f ?_;exact ah.Cu ⟨rfl,rfl⟩
 rw[<-xeg];rw[<-hC];refine Br.dec (λhd=>?_) (λhd=>?_)
 ·refine Xj hmk (c:=λo=>(b40,.cells (bB d).toArray 144 zZ)::(xb,.cells (ψ [bB ⟨x,c.yQ,c.uB⟩,bB ⟨x,c.yP,c.uA⟩]) 144 zZ)::(mb,o)::(Na++C)) (λo o'=>.tail (.tail (.head _))) (λo=>.head _) λτ bF h1 gs=>?_;exact next τ bF _ _ h1 (by rw[htj];exact Xz.step hd) .tail
 exact next es ck m _ hmk (by rw[htj];exact Xz.skip hd) .tail
end
def kO(l:List Cx):Nat->Nat:=λs=>(l.map λc=>e1 (some c.d) s).sum
def pG(c:Cx)(l:List Cx)(s:Nat):kO (c::l) s=e1 (some c.d) s+kO l s:=by simp[kO]
def NF(c:Cx)(l:List Cx)(s:Nat):kO (l++[c]) s=kO l s+e1 (some c.d) s:=by simp[kO]
def ae9(d:Nd)(s:Nat):e1 (some d) s<=2:=by rw[eJ];split<;>split<;>omega
def Bn(s:Nat):∀l:List Cx,kO l s<=2*l.length
 | []=>xai _
 |c::l=>by rw[pG,xax];have:=Bn s l;have:=ae9 c.d s;omega
def DG{s:Nat}:∀{l:List Cx},0<kO l s->∃c∈l,c.d.lo=s\/c.d.hi=s
 | [],h=>by simp[kO]at h
 |c::l,h=>by
  rw[pG]at h;by_cases h0:0<e1 (some c.d) s
  ·refine⟨c,by simp,?_⟩;rw[eJ]at h0;by_cases h1:c.d.lo=s
   ·exact .inl h1
   by_cases h2:c.d.hi=s
   ·exact .inr h2
   simp[h1,h2]at h0
  obtain⟨c',hc,h1⟩:=DG (s:=s) (l:=l) zO;exact⟨c',by simp[hc],h1⟩
def Lq{s:Nat}{c:Cx}(hs:c.d.lo=s\/c.d.hi=s):∀{l:List Cx},c∈l->0<kO l s
 |c'::l,h=>by
  rw[pG];rcases xak.1 h with rfl|h
  ·rw[eJ];rcases hs with hs|hs
   ·rw[xae hs];omega
   rw[xae hs];omega
  have:=Lq hs h;omega
def Idle(K:Kd):Prop:=∀s,K.N s=none->K.use s=0
def vE{K:Kd}{S:Nat->ax.Fn}{E:Nat->Prop}{P:Nat->Nat}(hm:j9 K S E P)(hi:Idle K){M:Nat}(hP:∀s,P s<=M)(s:Nat):K.use s<=2097153+M:=by
 cases h:K.N s with
 |none=>rw[hi s h];omega
 |some d=>
  rw[hm.use h];have:=EC (N:=K.N) (r:=s) K.cap;have:=hm.cap.2;have:=hP s;split<;>omega
section
variable {kp:Nat} {K K0:Kd} {θ ai tr:zL} {C:Hp} {S S0:Nat->ax.Fn} {sM:Nat->Nat} {x y l:Nat} {all done rest:List Cx} {ν:List Nd} {P:Nat->Nat}
def T3(b:TB K0 S0 sM x y l all ν)(h:cX kp K θ ai tr C)(ht:TI K0 S0 sM x y l ν K S done rest P)(hd:∀c∈done,c∈all)(hr:∀c∈rest,c∈all){c:Cx}(hc:c∈all){k:Nd}(hk:k∈keys x c)
 (QL:PL P K.N)(Tm:Idle K)(hP:∀s,P s<=4194304):
  Fc zQ 202 #[γ kp,iv (k.v:Int),δ k.lo,δ k.hi] C (λv C'=>∃r K' S',v=δ r/\cX kp K' θ ai tr C'/\TI K0 S0 sM x y l ν K' S' done rest P/\yV K0 K' sM x l r/\
   ((k.lo=k.hi/\r=k.lo)\/K'.N r=some k)/\PL P K'.N/\Idle K'/\(∀s d,K.N s=some d->K'.N s=some d)/\(∀s d,K'.N s=some d->s=r\/(K.N s=some d/\K.use s<=K'.use s))):=by
 have tt:K.n<=64:=by obtain⟨_,_,hO⟩:=h;exact hO.mq
 have nr:=b.W0 hc;have hkv:k.v=x/\uD K0 sM l k.lo/\uD K0 sM l k.hi:=by
  simp only[keys,xak,xaQ,xbi]at hk;rcases hk with rfl|rfl
  ·exact⟨rfl,nr.1.1,nr.1.2⟩
  exact⟨rfl,nr.2.1,nr.2.2⟩
 have Cz:=ht.r4 b hd hkv.2.1;have q8:=ht.r4 b hd hkv.2.2;have hxn:k.v<K.n:=by rw[hkv.1,ht.n];exact b.nb.xn
 by_cases he:k.lo=k.hi
 ·refine Fc.mono (by rw[<-he];exact XX C _ k.lo _) ?_;rintro v C' ⟨rfl,rfl⟩;exact⟨k.lo,K,S,rfl,h,ht,.inl hkv.2.1,.inl ⟨he,rfl⟩,QL,Tm,λ_ _ h=>h,λs d h=>.inr ⟨h,xai _⟩⟩
 cases hT:K.T k with
 |some r=>
  obtain⟨h1,h2⟩:=ht.found b hc hk hT;apply Fc.mono (XZ h he hxn hT);rintro v C' ⟨rfl,rfl⟩;exact⟨r,K,S,rfl,h,ht,h2,.inr h1,QL,Tm,λ_ _ h=>h,λs d h=>.inr ⟨h,xai _⟩⟩
 |none=>
  have hfit:∀{t:Nat},live K.N t->t<2\/t<K.us.length:=λht'=>by
   rcases ht' with ht'|⟨d,dF⟩
   ·exact .inl ht'
   exact .inr (ht.mid.fit dF)
  have hkm:=ht.SN b hd hr hc hk he hkv.2.1 hkv.2.2 hT;refine Fc.mono (XY h (d:=k) he ⟨by omega,Cz,q8⟩ hxn hT (ht.fits b hkm hT) (hfit Cz) (hfit q8) (λs=>by have:=vE ht.mid Tm hP s;omega)) ?_;rintro v C' ⟨r,dG,cA,rfl,hN,h2,hrc,Ξ,hru,Oe,u0,u1,u2,o0,o1,de⟩;have hPr:P r=0:=by
   apply xdK;intro ξ;obtain⟨d,dF⟩:=QL r h2 zO;rw[hN]at dF;cases dF
  obtain⟨g1,g2⟩:=ht.lay b hd hr hc hk he hT hN ⟨h2,hrc⟩ Ξ ⟨hru,Oe⟩ u0 u1 o0 o1 hPr;have hup:∀s d,K.N s=some d->up K.N r (some k) s=some d:=λs d hs=>by
   rw[aT (λe=>by rw[e,hN]at hs;cases hs)];exact hs
  refine⟨r,_,_,rfl,de,g1,g2,.inr aR,λt TY h0=>?_,λs hs=>?_,hup,λs d hs=>?_⟩
  ·obtain⟨d,dF⟩:=QL t TY h0;exact⟨d,hup t d dF⟩
  ·have μ:up K.N r (some k) s=none:=hs;have ξ:s≠r:=λe=>by subst e;rw[aR]at μ;cases μ
   rw[aT ξ]at μ;show dG.getD s 0=0;by_cases h2s:2<=s
   ·rw[u1 s h2s ξ,Tm s μ,eJ];have a1:k.lo≠s:=λe=>by
     rcases Cz with h5|⟨d,h5⟩
     ·omega
     rw[e,μ]at h5;cases h5
    have a2:k.hi≠s:=λe=>by
     rcases q8 with h5|⟨d,h5⟩
     ·omega
     rw[e,μ]at h5;cases h5
    simp[a1,a2]
   rw[u2 s zO,Tm s μ]
  have μ:up K.N r (some k) s=some d:=hs;by_cases e:s=r
  ·exact .inl e
  rw[aT e]at μ;refine .inr ⟨μ,?_⟩;show K.use s<=dG.getD s 0;rw[u1 s (ht.mid.two μ).1 e];omega
def Q6(h:cX kp K θ ai tr C)(ht:TI K0 S0 sM x y l ν K S done rest P)(QL:PL P K.N)(Tm:Idle K)(hP:∀s,P s<=4194304){r:Nat}(hr:live K.N r):
  Fc zQ 203 #[γ kp,δ r] C (λv C'=>∃K',v=.tuple #[]/\cX kp K' θ ai tr C'/\TI K0 S0 sM x y l ν K' S done rest (λs=>P s+if s=r then 1 else 0)/\PL (λs=>P s+if s=r then 1 else 0) K'.N/\Idle K'/\
   K'.N=K.N/\(∀s,K.use s<=K'.use s)/\(2<=r->0<K'.use r)):=by
 have hfit:r<2\/r<K.us.length:=by
  rcases hr with hr|⟨d,hd⟩
  ·exact .inl hr
  exact .inr (ht.mid.fit hd)
 refine Fc.mono (FL h hfit (by have:=vE ht.mid Tm hP r;omega)) ?_;rintro v C' ⟨rfl,de⟩;by_cases h2:2<=r
 ·have hrd:∃d,K.N r=some d:=by
   rcases hr with hr|hr
   ·omega
   exact hr
  have η:r<K.us.length:=by omega
  refine⟨_,rfl,de,(ht.use (jK r) (n7 h2 η) (λs hs=>vG hs)).congr (λs _=>?_),λt TY h0=>?_,λs hs=>?_,rfl,λs=>?_,λ_=>?_⟩
  ·unfold up;split
   ·rename_i e;subst e;rfl
   rfl
  ·by_cases e:t=r
   ·subst e;exact hrd
   simp[e]at h0;exact QL t TY h0
  ·show(tR K r).getD s 0=0;have ξ:s≠r:=λe=>by
    obtain⟨d,hd⟩:=hrd;have μ:K.N s=none:=hs;rw[e,hd]at μ;cases μ
   rw[vG ξ];exact Tm s hs
  ·show K.use s<=(tR K r).getD s 0;by_cases e:s=r
   ·subst e;rw[n7 h2 η];omega
   rw[vG e];exact xai _
  show 0<(tR K r).getD r 0;rw[n7 h2 η];omega
 have e:tR K r=K.us:=by unfold tR;rw[xae zO]
 have eK:({K with us:=tR K r}:Kd)=K:=by rw[e]
 rw[eK]at de;refine⟨K,rfl,de,ht.congr (λs hs=>?_),λt TY h0=>?_,Tm,rfl,λ_=>xai _,λh=>absurd h h2⟩
 ·rw[xac zO];rfl
 have h0':0<P t+if t=r then 1 else 0:=h0
 rw[xac zO]at h0';exact QL t TY h0'
def yV.mono{K':Kd}(h:yV K0 K sM x l y)(hm:∀s d,K.N s=some d->K'.N s=some d):yV K0 K' sM x l y:=by
 rcases h with h|⟨e,h1,h2⟩
 ·exact .inl h
 exact .inr ⟨e,hm _ _ h1,h2⟩
end
section
variable {kp:Nat} {K:Kd} {θ ai tr:zL} {C:Hp} {S:Nat->ax.Fn}
structure Kept(K:Kd)(S:Nat->ax.Fn)(K':Kd)(S':Nat->ax.Fn):Prop where
 n:K'.n=K.n
 cap:K'.cap=K.cap
 hold:∀r,K'.hold r=K.hold r
 held:∀g,K'.held S' g↔K.held S g
 fn:∀r,K.hold r≠0->S' r=S r
def aak{x y l:Nat}(ξ:x≠y)(hx:x<ai.length)(hy:y<ai.length):lv ((ai.set x (l+1)).set y l)=uH (lv ai) x y l:=by
 funext v
 show((ai.set x (l+1)).set y l).getD v 0=_;rw[ia (by simpa using hy),ia hx];unfold uH;by_cases e:v=y
 ·rw[xae e,xac (by rw[e];exact xa9 ξ),xae e]
 rw[xac e,xac e]
def R5(c:Cx)(rest:List Cx):kO (c::rest)=ig (ig (kO rest) [c.d.hi]) [c.d.lo]:=by
 funext s
 rw[pG,eJ];unfold ig;simp only[xca,xdV,xcT];omega
def rZ{x:Nat}{all:List Cx}{ν:List Nd}(h:Made K x all ν):ν.length<=2*all.length:=by
 have h1:=cz (l':=all.flatMap (keys x)) h.nd λk hk=>by
  obtain⟨⟨c,hc,hk'⟩,_⟩:=(h.mem k).1 hk;exact List.mem_flatMap.2 ⟨c,hc,hk'⟩
 have h2:(all.flatMap (keys x)).length=2*all.length:=by
  clear h1 h;induction all with
  |nil=>rfl
  |cons c all ih=>rw[xev,xaf,ih,xax];simp[keys];omega
 omega
def Ra{x y l:Nat}{K1:Kd}{S1:Nat->ax.Fn}{all:List Cx}{ν:List Nd}(b:TB K S (lv ai) x y l all ν)(h:TI K S (lv ai) x y l ν K1 S1 all [] (kO all))(hnew:∀r d,K.N r=none->K1.N r=some d->0<K1.use r):Pos K1:=by
 intro r d hd;cases hN:K.N r with
 |none=>exact hnew r d hN hd
 |some d0=>
  rw[h.mid.use hd];rcases b.ok.reach r d0 hN with hh|⟨p,e,hp,QA⟩
  ·have p6:K1.hold r≠0:=by rw[h.hold];exact hh
   rw[xac p6];omega
  by_cases hm:p∈all.map Cx.r
  ·obtain⟨c,hc,rfl⟩:=xal.1 hm;have hcd:=(b.oV hc).1;rw[hp]at hcd;cases hcd;have:=Lq (s:=r) QA hc;omega
  have u6:=h.old hp hm;have:dB K1.N r K1.cap≠0:=λhe=>by
   have:=kE he p (h.mid.two u6).2 e u6;rcases QA with QA|QA
   ·exact this.1 QA
   exact this.2 QA
  omega
theorem KV(h:cX kp K θ ai tr C)(hok:Ok K S (lv ai))(ho:Ord K.n (lv ai) θ)(Tm:Idle K){l:Nat}(hl:l+1<K.n):
  Fc zQ 134 #[γ kp,iv (l:Int)] C (λr C'=>
   (A2 K.n θ l (K.held S)+2<=K.cap/\r=.bool true/\∃K' S' bU,cX kp K' (fV θ l) bU tr C'/\Ok K' S' (lv bU)/\Ord K'.n (lv bU) (fV θ l)/\Idle K'/\Kept K S K' S')\/
   (K.cap<A2 K.n θ l (K.held S)+2/\r=.bool false/\C'=C)):=by
 have h0:=h;have hcap:=h.cap;obtain⟨b,hC,hO⟩:=h;have Cy:=hO.ol;have tt:=hO.mq;have nb:=ho.nb hl;obtain⟨x,hx⟩:∃x,x=θ.getD l 0:=⟨_,rfl⟩;obtain⟨y,hy⟩:∃y,y=θ.getD (l+1) 0:=⟨_,rfl⟩;rw[<-hx,<-hy]at nb;refine aJ λg=>J0 ?_;have hmk:(kp,Obj.cells (b.cells K.n) 91 zZ)∈C:=by rw[hC];exact .head _
 have Y8:∀z∈b.CO,z∈C:=by rw[hC];exact bE.sub (.cons (.app (.app (.app (.app .left)))))
 refine Ld.v hmk ?_;refine hO.od.ld (x:=(x:Int)) (by rw[hx];exact bM zO) Y8 (Ld.v hmk ?_);refine ah.inc (hO.od.ld (x:=(y:Int)) (by rw[hy];exact bM zO) Y8 (ae.fq (BY h0 hok nb.xn) ?_));rintro w H ⟨all,Na,rfl,aH,CD,Ξ⟩;refine DR.self (Nil.γ (aj.mk (ae.rq (T9 h0 nb.xn aH Ξ) ?_)));rintro w ⟨ν,rfl,Tc⟩;have hml:=rZ Tc;have LJ:=hok.mid.cap;have ahi:=hok.mid.room;refine ae.eq (D2 h0 (m:=ν.length) zO zO) ?_;have amv:A2 K.n θ l (K.held S)=K.used-2+ν.length:=ZO (Rb hok ho hl (by rw[<-hx,<-hy];exact CD) (by rw[<-hx];exact Tc));apply Un.not;by_cases hroom:K.used+ν.length<=K.cap;rotate_left
 ·rw[xan hroom];exact Br.yes (aQ.mk .right (.inr ⟨by omega,rfl,rfl⟩))
 rw[xam hroom];apply Br.no;have tb:TB K S (lv ai) x y l all ν:=⟨hok,nb,CD,Tc,hroom⟩;have fQ:=CD.nd;have hge:∀{i:Nat} {c:Cx},all[i]? =some c->c.r∉(all.take i).map Cx.r:=λ{i c} qp hm=>by
  have h1:(all.take (i+1)).map Cx.r=(all.take i).map Cx.r++[c.r]:=by rw[xbg,qp,xaz];rfl
  have h2:((all.take (i+1)).map Cx.r).Nodup:=fQ.sublist ((xdZ _ _).map _);rw[h1]at h2;exact(xa3.1 h2).2.2 _ hm _ zI rfl
 have nT:∀{i:Nat} {c:Cx},all[i]? =some c->all.take (i+1)=all.take i++[c]:=λqp=>by rw[xbg,qp];rfl
 have hdr:∀{i:Nat} {c:Cx},all[i]? =some c->all.drop i=c::all.drop (i+1):=λ{i c} qp=>by
  obtain⟨hi,e⟩:=xah.1 qp;rw[xbt hi,e]
 have hmT:∀{i:Nat},∀c∈all.take i,c∈all:=λc hc=>xcK hc;have hmD:∀{i:Nat},∀c∈all.drop i,c∈all:=λc hc=>List.mem_of_mem_drop hc;refine aH.bL ?_;rw[xar];refine⟨λvs H=>∃(i:Nat) (T':Nd->Option Nat) (C1:Hp),vs=[iv (i:Int)]/\H=Na++C1/\i<=all.length/\cX kp {K with T:=T'} θ ai tr C1/\j9 {K with T:=T'} S (λs=>∃c∈all.take i,s=c.r) zero'/\(∀d,T' d=none\/T' d=K.T d),
  λvs _=>all.length-bH vs 0,JE.mk ⟨0,K.T,C,rfl,rfl,xaL _,h0,hok.mid.congr (λs=>by simp[iZ]) (λ_ _=>rfl),λ_=>.inr rfl⟩,?_⟩
 rintro w H ⟨i,T',C1,hw,rfl,hi,dR,Ot,Oq⟩ gs;simp only[xaw,xaW]at hw;subst hw;refine ah.eA (Br.dec (λη=>?_) (λXF=>?_))
 ·obtain⟨c,qp⟩:∃c,all[i]? =some c:=⟨_,xab η⟩;have G4:c∈all:=xav qp;obtain⟨BM,aej,hce⟩:=tb.oV G4;refine aH.LG (r:=mP c) (by rw[xaq,qp];rfl) (λz hz=>xad _ hz) ?_;intro b31 _;refine St.p (mH _) ?_;obtain⟨b1,rfl,Zp⟩:=dR;refine DR.self (Nil.γ (aj.mk (Ld.f ?_)));refine aj.mk (aB.mk (vs:=(bB c.d).toArray) (.head _) (by simp[mP]) rfl ?_);have hTc:T' c.d=some c.r:=(Ot.kK c.d c.r).2 ⟨BM,by rintro⟨c',pP,e⟩;exact hge qp (e▸xaT pP)⟩;refine ae.fq (zh (d:=c.d) Zp.ut (hok.mid.var BM) hTc) ?_;rintro v CT' ⟨rfl,hut⟩;refine ah.inc (aD.of .tail ⟨i+1,rA T' c.d none,_,rfl,rfl,by omega,⟨{b1 with CT:=CT'},rfl,{Zp with ut:=hut}⟩,(Ot.ahS (r:=c.r) (d:=c.d) BM ?_).congr (λs=>?_) (λ_ _=>rfl),λd=>?_⟩ (by simp[bH];omega))
  ·rintro⟨c',pP,e⟩;exact hge qp (e▸xaT pP)
  ·rw[nT qp];constructor
   ·rintro(⟨c',pP,e⟩|e)
    ·exact⟨c',xad _ pP,e⟩
    exact⟨c,by simp,e⟩
   rintro⟨c',pP,e⟩;rcases xao.1 pP with pP|pP
   ·exact .inl ⟨c',pP,e⟩
   simp at pP;subst pP;exact .inr e
  unfold rA;split
  ·exact .inl rfl
  exact Oq d
 have hi':i=all.length:=by omega
 subst hi';rw[xa7]at Ot;have hTI:=tb.start Ot Oq;refine aH.bL ?_;rw[xar];refine⟨λvs H=>∃(i:Nat) (K1:Kd) (S1:Nat->ax.Fn) (C1:Hp),vs=[iv (i:Int)]/\H=Na++C1/\i<=all.length/\cX kp K1 θ ai tr C1/\TI K S (lv ai) x y l ν K1 S1 (all.take i) (all.drop i) (kO (all.take i))/\
   PL (kO (all.take i)) K1.N/\Idle K1/\(∀r d,K.N r=none->K1.N r=some d->0<K1.use r),
  λvs _=>all.length-bH vs 0,JE.mk ⟨0,_,S,C1,rfl,rfl,xaL _,dR,hTI,λt _ h=>by simp[kO]at h,Tm,λr d h1 h2=>by rw[h1]at h2;cases h2⟩,?_⟩
 clear hTI Ot Oq dR T' C1 XF hi;rintro w H ⟨i,K1,S1,C1,hw,rfl,hi,dR,Oq,XP,Tk,Zd⟩ gs;simp only[xaw,xaW]at hw;subst hw;refine ah.eA (Br.dec (λη=>?_) (λXF=>?_))
 ·obtain⟨c,qp⟩:∃c,all[i]? =some c:=⟨_,xab η⟩;have G4:c∈all:=xav qp;obtain⟨BM,aej,hce⟩:=tb.oV G4;rw[hdr qp]at Oq;have jE:∀c'∈c::all.drop (i+1),c'∈all:=by rw[<-hdr qp];exact hmD
  have hPb:∀s,kO (all.take i) s<=2097152:=λs=>by have:=Bn s (all.take i);rw[xbI]at this;omega
  refine aH.LG (r:=mP c) (by rw[xaq,qp];rfl) (λz hz=>xad _ hz) ?_;intro b53 _;refine St.p (mH _) ?_;refine DR.self (Nil.γ (aj.mk (Ld.f ?_)));refine Ld.f ?_;refine ae.fq (T3 tb dR Oq hmT jE G4 (k:=⟨x,c.yQ,c.uB⟩) (by simp[keys]) XP Tk (λs=>by have:=hPb s;omega)) ?_;rintro w C2 ⟨t0,K2,S2,rfl,cY,hT2,adl,g0,XO,GV,ajQ,agY⟩;refine Nil.γ (aj.mk (ae.fq (Q6 cY hT2 XO GV (λs=>by have:=hPb s;omega) (hT2.r8 tb hmT adl)) ?_));rintro w C3 ⟨K3,rfl,kB,hT3,abh,ahV,hN3,ahk,adH⟩;have aeD:∀s,(kO (all.take i) s+if s=t0 then 1 else 0)<=2097153:=λs=>by have:=hPb s;split<;>omega
  refine DR.self (Nil.γ (aj.mk (Ld.f ?_)));refine Ld.f ?_;refine ae.fq (T3 tb kB hT3 hmT jE G4 (k:=⟨x,c.yP,c.uA⟩) (by simp[keys]) abh ahV (λs=>by have:=aeD s;omega)) ?_;rintro w C4 ⟨t1,K4,S4,rfl,Ou,hT4,adk,g1,abg,ahU,YP,agX⟩;refine Nil.γ (aj.mk (ae.fq (Q6 Ou hT4 abg ahU (λs=>by have:=aeD s;omega) (hT4.r8 tb hmT adk)) ?_));rintro w C5 ⟨K5,rfl,LU,hT5,ans,ahT,hN5,ahj,adG⟩;have YT:yV K K5 (lv ai) x l t0:=yV.mono adl (λs d hs=>by rw[hN5];exact YP s d (by rw[hN3];exact hs));have YS:yV K K5 (lv ai) x l t1:=yV.mono adk (λs d hs=>by rw[hN5];exact hs);have g0':(c.yQ=c.uB/\t0=c.yQ)\/K5.N t0=some ⟨x,c.yQ,c.uB⟩:=by
   rcases g0 with g0|g0
   ·exact .inl g0
   exact .inr (by rw[hN5];exact YP _ _ (by rw[hN3];exact g0))
  have g1':(c.yP=c.uA/\t1=c.yP)\/K5.N t1=some ⟨x,c.yP,c.uA⟩:=by
   rcases g1 with g1|g1
   ·exact .inl g1
   exact .inr (by rw[hN5];exact g1)
  have ahC:((all.take i++c::all.drop (i+1)).map Cx.r).Nodup:=by rw[<-hdr qp,xbs];exact fQ
  obtain⟨hTn,hT6⟩:=hT5.A5 tb hmT jE ahC YT YS g0' g1' (P':=kO (all.take (i+1))) (λs _=>by
   rw[nT qp,NF,eJ ⟨y,t0,t1⟩];have Yb:(if t0=s then 1 else 0)=(if s=t0 then 1 else 0:Nat):=by split<;>split<;>first|rfl|(exfalso;omega)
   have e2':(if t1=s then 1 else 0)=(if s=t1 then 1 else 0:Nat):=by split<;>split<;>first|rfl|(exfalso;omega)
   simp only[Yb,e2'];omega)
  have Td:∀{t:Nat},yV K K5 (lv ai) x l t->live K5.N t:=λhk=>hT5.r8 tb hmT hk;have hcr:∃e,K5.N c.r=some e:=hT5.kept BM;refine Build.mk (cs:=bB ⟨y,t0,t1⟩) zK λb83 _=>?_;refine St.p (λz hz=>by simp[bB,δ]at hz;rcases hz with rfl|rfl|rfl<;>rfl) ?_;obtain⟨b5,rfl,hO5⟩:=LU;refine DR.self (Nil.γ (aj.mk (Ld.f ?_)));refine Ld.f ?_;refine aB.q ?_;have hyn:y<K5.n:=by rw[hT5.n];exact nb.yn
  refine ae.fq (Ym (d:=⟨y,t0,t1⟩) hO5.ar ⟨by show y<64;have:=hO5.mq;omega,Td YT,Td YS⟩ hcr (tb.ok.mid.two BM).1) ?_;rintro w CA' ⟨rfl,har⟩;refine DR.self (Nil.γ (aj.mk (Ld.f ?_)));refine aB.q ?_;refine Ld.f ?_;refine ae.fq (KU (d:=⟨y,t0,t1⟩) (r:=c.r) hO5.ut hyn hTn) ?_;rintro w CT' ⟨rfl,hut⟩;refine ah.inc (aD.of (.skip .tail) ⟨i+1,{K5 with N:=up K5.N c.r (some ⟨y,t0,t1⟩),T:=rA K5.T ⟨y,t0,t1⟩ (some c.r)},S4,_,rfl,rfl,by omega,⟨{b5 with CA:=CA',CT:=CT'},rfl,{hO5 with ar:=har,ut:=hut}⟩,by rw[nT qp]at hT6⊢;exact hT6,λt TY hp=>?_,λs hs=>?_,λr d hr0 hrd=>?_⟩ (by simp[bH];omega))
  ·obtain⟨c',pP,kM⟩:=DG hp;have aif:=hmT c' pP;have TC:=(tb.oV aif).1;have hlv:live K.N t:=by
    rcases kM with rfl|rfl
    ·exact tb.ok.mid.lo TC
    exact tb.ok.mid.hi TC
   rcases hlv with hlv|⟨d,hd⟩
   ·omega
   exact hT6.kept hd
  ·have μ:up K5.N c.r (some ⟨y,t0,t1⟩) s=none:=hs;have ξ:s≠c.r:=λe=>by subst e;rw[aR]at μ;cases μ
   rw[aT ξ]at μ;exact ahT s μ
  have aaH:up K5.N c.r (some ⟨y,t0,t1⟩) r=some d:=hrd;have ξ:r≠c.r:=λe=>by rw[e,BM]at hr0;cases hr0
  rw[aT ξ,hN5]at aaH;have QT:2<=r:=(hT4.mid.two aaH).1;show 0<K5.use r;rcases agX r d aaH with e|⟨h3,hu3⟩
  ·rw[e]at QT⊢;exact adG QT
  rw[hN3]at h3;have h5:=ahj r;rcases agY r d h3 with e|⟨h1,GQ⟩
  ·rw[e]at QT⊢h5 hu3;have:=adH QT;omega
  have:=Zd r d hr0 h1;have:=ahk r;omega
 have hi':i=all.length:=by omega
 subst hi';rw[xa7,xeF]at Oq;rw[xa7]at XP;have u6:=Ra tb Oq Zd;refine aH.bL ?_;rw[xar];refine⟨λvs H=>∃(i:Nat) (K2:Kd) (C2:Hp),vs=[iv (i:Int)]/\H=Na++C2/\i<=all.length/\cX kp K2 θ ai tr C2/\j9 K2 S1 iZ (kO (all.drop i))/\Pos K2/\PL (kO (all.drop i)) K2.N/\yU K2 K1,
  λvs _=>all.length-bH vs 0,JE.mk ⟨0,K1,C1,rfl,rfl,xaL _,dR,Oq.mid.congr (λs=>by simp[iZ]) (λ_ _=>rfl),u6,XP,.refl K1⟩,?_⟩
 clear dR XP hi XF C1;rintro w H ⟨i,K2,C2,hw,rfl,hi,cY,LS,nq,XO,ej⟩ gs;simp only[xaw,xaW]at hw;subst hw;refine ah.eA (Br.dec (λη=>?_) (λXF=>?_))
 ·obtain⟨c,qp⟩:∃c,all[i]? =some c:=⟨_,xab η⟩;have G4:c∈all:=xav qp;obtain⟨BM,aej,hce⟩:=tb.oV G4;have hPb:∀s,kO (all.drop i) s<=2097152:=λs=>by have:=Bn s (all.drop i);rw[List.length_drop]at this;omega
  have hlo:=h0.lt (hok.mid.lo BM);have hhi:=h0.lt (hok.mid.hi BM);refine aH.LG (r:=mP c) (by rw[xaq,qp];rfl) (λz hz=>xad _ hz) ?_;intro aot _;refine St.p (mH _) ?_;refine DR.self (Nil.γ (aj.mk (aj.mk (Ld.f ?_))));have GV:Idle K2:=ej.idle Tk;have hub:∀s,K2.use s<2147483648:=λs=>by have:=vE LS GV hPb s;omega
  rw[hdr qp,R5]at LS XO;refine ae.fq (m4 cY LS nq XO hlo hub) ?_;rintro w C3 ⟨rfl,K3,kB,XQ,Vz,abh,Tf⟩;refine DR.self (Nil.γ (aj.mk (aj.mk (Ld.f ?_))));refine ae.fq (m4 kB XQ Vz abh hhi (λs=>xaC (Tf.us s) (hub s))) ?_;rintro w C4 ⟨rfl,K4,Ou,hM4,hp4,abg,aaT⟩;exact ah.inc (aD.of .tail ⟨i+1,K4,C4,rfl,rfl,by omega,Ou,hM4,hp4,abg,aaT.trans (Tf.trans ej)⟩ (by simp[bH];omega))
 have hi':i=all.length:=by omega
 subst hi';rw[xeF]at LS;have GV:Idle K2:=ej.idle Tk;obtain⟨f1,f2,f3⟩:=Oq.fin tb (K':=K2) (LS.congr (λ_=>xcZ) (λ_ _=>rfl)) nq (λh=>ej.N h) ej.n (λr=>by show K2.ho.getD r 0=K1.ho.getD r 0;rw[ej.ho]);have Xy:K2.n=K.n:=by rw[ej.n,Oq.n]
 obtain⟨b2,rfl,hO2⟩:=cY;refine DR.self (Ld.n ?_);refine Ld.n ?_;refine ah.inc (hO2.od.mh (x:=(y:Int)) (.app (.cons (.app (.app (.app (.app .left)))))) (by rw[av];omega) λCO1 yG=>?_);refine yG.mh (x:=(x:Int)) (.app (.cons (.app (.app (.app (.app .left)))))) (by rw[xbE,av];omega) λCO2 uh=>?_;refine DR.self (Ld.n ?_);refine Ld.n ?_;refine ah.inc ?_;have nL:=hO2.ol.2;have hxn:=nb.xn;have hyn:=nb.yn;refine hO2.lv.mh (x:=((l+1:Nat):Int)) (.app (.cons (.app (.app (.app (.app (.app .left))))))) (by rw[av];omega) λCL1 Cz=>?_;refine Cz.mh (x:=(l:Int)) (.app (.cons (.app (.app (.app (.app (.app .left))))))) (by rw[xbE,av];omega) λCL2 q8=>?_;rw[fA,fA]at uh q8;have Cw:(θ.set l y).set (l+1) x=fV θ l:=by rw[hx,hy];rfl
 rw[Cw]at uh;have hlv:lv ((ai.set x (l+1)).set y l)=uH (lv ai) x y l:=aak nb.ne zO zO;refine aQ.mk .right (.inl ⟨by omega,rfl,K2,S1,_,⟨{b2 with CO:=CO2,CL:=CL2},rfl,{hO2 with od:=uh,lv:=q8,ol:=?_}⟩,by rw[hlv];exact f1,by rw[hlv,Xy,hx,hy];exact Wd ho hl,GV,Xy,by rw[ej.cap,Oq.cap],λr=>?_,f2,f3⟩)
 ·rw[mY];simp;exact hO2.ol
 show K2.ho.getD r 0=K.hold r;rw[ej.ho];exact Oq.hold r
end
structure bS(kp:Nat)(K:Kd)(S:Nat->ax.Fn)(θ ai tr:zL)(C:Hp):Prop where
 rep:cX kp K θ ai tr C
 ok:Ok K S (lv ai)
 od:Ord K.n (lv ai) θ
 idle:Idle K
 tr:yS K.n K.cap (K.held S) θ tr.reverse
def Kept.refl(K:Kd)(S:Nat->ax.Fn):Kept K S K S:=⟨rfl,rfl,λ_=>rfl,λ_=>xcZ,λ_ _=>rfl⟩
def Kept.trans{K K' K2:Kd}{S S' S2:Nat->ax.Fn}(h:Kept K S K' S')(h':Kept K' S' K2 S2):Kept K S K2 S2:=
 ⟨h'.n.trans h.n,h'.cap.trans h.cap,λr=>(h'.hold r).trans (h.hold r),λg=>(h'.held g).trans (h.held g),λr hr=>(h'.fn r (by rw[h.hold];exact hr)).trans (h.fn r hr)⟩
section
variable {kp:Nat} {K:Kd} {θ ai tr:zL} {C:Hp} {S:Nat->ax.Fn}
theorem Uh(h:bS kp K S θ ai tr C){l:Int}(hl:¬(0<=l/\l+1<K.n)):Rd zQ 94 #[γ kp,iv l] C (· =iv 1):=by
 obtain⟨b,rfl,hO⟩:=h.rep;have hn:=hO.mq;refine aJ λg=>AL (ah.aK (Br.no (ah.lss (dh.or (decide ((K.n:Int) -2<l)) (λ_=>?_) zI λgs=>?_))))
 ·refine Ld.n ?_;exact ah.mc (c:=(K.n:Int) -2) rfl zO (ah.gtr ⟨rfl,rfl⟩)
 rw[<-xa6];exact Br.T (br.mk (.refl _) rfl)
theorem L3(h:bS kp K S θ ai tr C){l:Nat}(hl:l+1<K.n)(fm:tr.length<17592186044416):Fc zQ 94 #[γ kp,iv (l:Int)] C (λr C'=>
   (A2 K.n θ l (K.held S)+2<=K.cap/\r=iv 0/\∃K' S' bU,bS kp K' S' (fV θ l) bU (tr++[l]) C'/\Kept K S K' S')\/
   (K.cap<A2 K.n θ l (K.held S)+2/\r=iv 9/\C'=C)):=by
 have h0:=h;obtain⟨b,hC,hO⟩:=h.rep;have hn:=hO.mq;refine aJ λg=>AL (ah.aK (Br.no (ah.lss (dh.or (decide ((K.n:Int) -2<l)) (λ_=>?_) zI λgs=>?_))))
 ·refine Ld.v (by rw[hC];exact .head _) ?_;exact ah.mc (c:=(K.n:Int) -2) rfl zO (ah.gtr ⟨rfl,rfl⟩)
 rw[<-xa6];refine Br.F (ae.fq (KV h.rep h.ok h.od h.idle hl) ?_);rintro w C' (⟨hfit,rfl,K',S',bU,de,yF,aaQ,wT,si⟩|⟨Γ,rfl,rfl⟩)
 ·refine Un.not (Br.no ?_);obtain⟨b',rfl,yL⟩:=de;refine Ld.n ?_;refine aq.int (e:=3) zK zK zK λbx=>?_;refine yL.tr.qd (.cons (.cons (.app (.app (.app (.app (.app (.app .here)))))))) (by exact .head _) (by rw[av];omega) (by rw[av];omega) λv' CR' cA=>?_;refine Nil.γ (aj.mk (St.one (by exact .tail (.head _)) cA.one (by simp[uW.cells]) rfl ?_));refine aQ.mk .tail (.inl ⟨hfit,rfl,K',S',bU,⟨⟨{b' with vt:=v',CR:=CR'},rfl,{yL with tr:=by rw[cH];exact cA}⟩,yF,aaQ,wT,?_⟩,si⟩);rw[si.n,si.cap];exact(yS.ai5 hO.ol.1 hl hfit h.tr).congr λg=>(si.held g).symm
 exact Un.not (Br.yes (aQ.here (.inr ⟨Γ,rfl,rfl⟩)))
theorem V7{l:Nat}(h:bS kp K S θ ai (tr++[l]) C)(fm:tr.length<17592186044416):Fc zQ 231 #[γ kp] C (λr C'=>
   r=.tuple #[iv (l:Int),iv 0]/\l+1<K.n/\∃K' S' bU,bS kp K' S' (fV θ l) bU tr C'/\Kept K S K' S'):=by
 have h0:=h;obtain⟨b,hC,hO⟩:=h.rep;have hn:=hO.mq;have SV:=h.tr;rw[List.reverse_append]at SV;obtain⟨hl,hfit,uM⟩:l+1<K.n/\A2 K.n θ l (K.held S)+2<=K.cap/\yS K.n K.cap (K.held S) (fV θ l) tr.reverse:=SV;have hmk:(kp,Obj.cells (b.cells K.n) 91 zZ)∈C:=by rw[hC];exact .head _
 refine aJ λg=>IQ (ah.aK (dh.or false (λ_=>?_) rfl λgs=>Br.no ?_))
 ·refine Ld.v hmk ?_;refine hO.tr.bL (ah.iD ⟨rfl,?_⟩);rw[xan];rw[av,xaf];simp;omega
 refine Ld.v hmk ?_;refine hO.tr.bL ?_;rw[av,xaf];refine ah.cj (a:=tr.length+1) (b:=1) ?_;rw[xcc];refine Ld.v hmk ?_;refine hO.tr.ld (i:=tr.length) (x:=(l:Int)) (by rw[cH];simp[iw]) (by rw[hC];exact bE.sub (.cons (.app (.app (.app (.app (.app (.app .here)))))))) (ae.fq (KV h.rep h.ok h.od h.idle hl) ?_);rintro w C' (⟨_,rfl,K',S',bU,de,yF,aaQ,wT,si⟩|⟨Γ,rfl,rfl⟩);rotate_left
 ·omega
 obtain⟨b',rfl,yL⟩:=de;refine Ld.n ?_;refine yL.tr.cut (i:=tr.length) (by rw[av];simp) λv' oC=>?_;refine Nil.γ (aj.mk (St.one (by exact .head _) oC.one (by simp[uW.cells]) rfl ?_));refine aQ.here ⟨rfl,hl,K',S',bU,⟨⟨{b' with vt:=v'},rfl,{yL with tr:=by rw[cH,xeK zI]at oC;exact oC}⟩,yF,aaQ,wT,?_⟩,si⟩;rw[si.n,si.cap];exact uM.congr λg=>(si.held g).symm
variable{r:Nat}
def bS.bQ(h:bS kp K S θ ai tr C)(hl:live K.N r):r<1048576:=h.rep.lt hl
def bS.dU(h:bS kp K S θ ai tr C)(r:Nat):K.hold r<=65535:=h.ok.mid.mx r
def bS.FM(h:bS kp K S θ ai tr C)(r:Nat):K.use r<=2097153:=by have:=vE h.ok.mid h.idle (M:=0) (λ_=>xai _) r;omega
structure Yv(K K':Kd)(r:Nat):Prop where
 n:K'.n=K.n
 cap:K'.cap=K.cap
 used:K'.used=K.used
 N:K'.N=K.N
 hold:∀s,K'.hold s=if s=r/\2<=r then K.hold s+1 else K.hold s
def pM(h:bS kp K S θ ai tr C)(hl:live K.N r)(h2:2<=r)(hf:K.hold r=65535):Rd zQ 84 #[γ kp,δ r] C (· =iv 8):=by
 have hr:=h.bQ hl;obtain⟨b,hC,hO⟩:=h.rep;have hfit:r<K.ho.length:=by
  rcases hl with hl|⟨d,hd⟩
  ·omega
  rw[<-hO.ul.1];exact h.ok.mid.fit hd
 refine aJ λg=>AO (ah.aK (Br.no (Nil.γ (aj.mk (ae.eq (oB h.rep zO) ?_)))));rw[cg.2 hl];refine Un.not (Br.no λJ7 _=>(ah.nV (b:=1) (Br.T (Nil.γ (aj.mk (Ld.u (by rw[hC];exact .head _) ?_))))));refine hO.ho.ld (x:=((K.hold r:Nat):Int)) (bM hfit) (by rw[hC];exact bE.sub (.cons (.app (.app (.app .left))))) ?_;rw[hf];exact ah.iD (Br.T (br.mk (.refl _) rfl))
def D4(h:cX kp K θ ai tr C)(hM0:j9 K S iZ zero')(XE:Idle K)(hl:live K.N r)(hf:2<=r->K.hold r<65535):Fc zQ 84 #[γ kp,δ r] C (λv C'=>v=iv 0/\∃K',cX kp K' θ ai [] C'/\
  j9 K' S iZ zero'/\Idle K'/\Yv K K' r/\(∀s,K.use s<=K'.use s)/\(2<=r->0<K'.use r)):=by
 have hr:=h.lt hl;have h0:=h;obtain⟨b,hC,hO⟩:=h;refine aJ λg=>AO (ah.aK (Br.no (Nil.γ (aj.mk (ae.eq (oB h0 zO) ?_)))));rw[cg.2 hl];refine Un.not (Br.no λJ7 hJ7=>?_);have fin:∀(K':Kd) C1,cX kp K' θ ai tr C1->j9 K' S iZ zero'->Idle K'->Yv K K' r->(∀s,K.use s<=K'.use s)->(2<=r->0<K'.use r)->J7 [] C1:=λK' C1 de yF wT hm hu hp=>by
  refine hJ7 _ λgs=>?_;obtain⟨b',rfl,yL⟩:=de;refine Nil.γ (aj.mk (St.one (by exact .head _) rfl (by simp[uW.cells]) rfl ?_));refine aQ.mk (mS:=({b' with vt:=.slice none 0 0,CR:=[]}:uW).hp kp K'.n) ?_ ⟨rfl,K',⟨{b' with vt:=.slice none 0 0,CR:=[]},rfl,{yL with tr:=aL.nil}⟩,yF,wT,hm,hu,hp⟩;refine .cons (.cv (.cv (.cv (.cv (.cv (.cv .nil _) _) _) _) _) _)
 refine ah.nV (b:=1) (Br.dec (λh2=>?_) (λh2=>?_));rotate_left
 ·refine JE.mk (fin K C h0 hM0 XE ⟨rfl,rfl,rfl,rfl,λs=>?_⟩ (λ_=>xai _) (λh=>by omega));rw[xac zO]
 have lZ:2<=r:=by omega
 have Oj:=hf lZ;obtain⟨d,hd⟩:∃d,K.N r=some d:=by
  rcases hl with hl|hl
  ·omega
  exact hl
 have hfu:=hM0.fit hd;have Oe:=hO.ul;have hfit:r<K.ho.length:=by omega
 subst hC;refine Nil.γ (aj.mk (Ld.f ?_));refine hO.ho.ld (x:=((K.hold r:Nat):Int)) (bM hfit) (bE.sub (.cons (.app (.app (.app .left))))) (ah.iD (Br.F (Nil.γ (aj.mk (Ld.f ?_)))));refine hO.ho.ld (x:=((K.hold r:Nat):Int)) (bM hfit) (bE.sub (.cons (.app (.app (.app .left))))) (ah.inc (hO.ho.mh (x:=((K.hold r+1:Nat):Int)) (.cons (.app (.app (.app .left)))) (by rw[av];exact hfit) λVr p6=>?_));rw[fA]at p6;have g1:∀s,(K.ho.set r (K.hold r+1)).getD s 0=if s=r then K.hold r+1 else K.hold s:=λs=>ia hfit
 refine Nil.γ (aj.mk (Ld.f ?_));apply p6.ld (x:=((K.hold r+1:Nat):Int)) (by rw[bM (by simpa using hfit),g1,xae rfl]) (bE.sub (.cons (.app (.app (.app .left)))));refine ah.fc (b:=1) (Br.dec (λh3=>?_) (λh3=>?_))
 ·refine Nil.γ (aj.mk (Ld.f ?_));apply hO.us.ld (x:=((K.use r:Nat):Int)) (bM hfu) (bE.sub (.cons (.app (.app .left))));have hub:=vE hM0 XE (M:=0) (λ_=>xai _) r;refine ah.inc (hO.us.mh (x:=((K.use r+1:Nat):Int)) (.cons (.app (.app .left))) (by rw[av];exact hfu) λVT BF=>?_);rw[fA]at BF;have g2:∀s,(K.us.set r (K.use r+1)).getD s 0=if s=r then K.use r+1 else K.use s:=λs=>ia hfu
  have hM:=hM0.keep (r:=r) (dG:=K.us.set r (K.use r+1)) (cA:=K.ho.set r (K.hold r+1)) ⟨d,hd⟩ Oj zI (by rw[g1,xae rfl]) (λs hs=>by rw[g1,xac hs]) (by rw[g2,xae rfl,xae zO]) (λs hs=>by rw[g2,xac hs]);refine JE.mk (fin {K with us:=K.us.set r (K.use r+1),ho:=K.ho.set r (K.hold r+1)} _ ⟨{b with CU:=VT,CH:=Vr},rfl,{hO with us:=BF,ho:=p6,ul:=by simp;exact Oe}⟩ hM (λs hs=>?_) ⟨rfl,rfl,rfl,rfl,λs=>?_⟩ (λs=>?_) (λ_=>?_))
  ·show(K.us.set r (K.use r+1)).getD s 0=0;have μ:K.N s=none:=hs;rw[g2,xac (λe=>by rw[e,hd]at μ;cases μ)];exact XE s μ
  ·show(K.ho.set r (K.hold r+1)).getD s 0=_;rw[g1];by_cases e:s=r
   ·subst e;rw[xae rfl,xae ⟨rfl,lZ⟩]
   rw[xac e,xac (λh=>e h.1)]
  ·show K.use s<=(K.us.set r (K.use r+1)).getD s 0;rw[g2];split
   ·rename_i e;subst e;omega
   exact xai _
  show 0<(K.us.set r (K.use r+1)).getD r 0;rw[g2,xae rfl];omega
 have hM:=hM0.keep (r:=r) (dG:=K.us) (cA:=K.ho.set r (K.hold r+1)) ⟨d,hd⟩ Oj zI (by rw[g1,xae rfl]) (λs hs=>by rw[g1,xac hs]) (by show K.use r=_;rw[xac zO];rfl) (λs hs=>rfl);refine JE.mk (fin {K with ho:=K.ho.set r (K.hold r+1)} _ ⟨{b with CH:=Vr},rfl,{hO with ho:=p6,ul:=by simp;exact Oe}⟩ hM XE ⟨rfl,rfl,rfl,rfl,λs=>?_⟩ (λ_=>xai _) (λ_=>?_));rotate_left
 ·show 0<K.use r;rw[hM0.use hd,xac zO];omega
 show(K.ho.set r (K.hold r+1)).getD s 0=_;rw[g1];by_cases e:s=r
 ·subst e;rw[xae rfl,xae ⟨rfl,lZ⟩]
 rw[xac e,xac (λh=>e h.1)]
def nh(h:bS kp K S θ ai tr C)(hl:live K.N r)(hf:2<=r->K.hold r<65535):Fc zQ 84 #[γ kp,δ r] C (λv C'=>v=iv 0/\∃K',bS kp K' S θ ai [] C'/\Yv K K' r):=by refine(D4 h.rep h.ok.mid h.idle hl hf).mono ?_;rintro v C' ⟨rfl,K',de,hM',wT,hm,hu,hp⟩;refine⟨rfl,K',⟨de,⟨hM',λs d hs=>?_,by rw[hm.n];exact h.ok.lv,by rw[hm.n,hm.N];exact h.ok.wf⟩,by rw[hm.n];exact h.od,wT,trivial⟩,hm⟩;rw[hm.N]at hs;exact xaP (h.ok.pos s d hs) (hu s)
end
section
variable {kp:Nat} {K:Kd} {θ ai tr:zL} {C:Hp} {S:Nat->ax.Fn}
def LF{K':Kd}{P:Nat->Nat}(hw:WF K.n (lv ai) K.N)(hM:j9 K' S iZ P)(hN:∀{s d},K'.N s=some d->K.N s=some d)(hn:K'.n=K.n):WF K'.n (lv ai) K'.N:=by
 have same:∀{t},live K'.N t->ι K'.n (lv ai) K'.N t=ι K.n (lv ai) K.N t:=λ{t} ht=>by
  cases e:K'.N t with
  |some f=>rw[au e,au (hN e)]
  |none=>
   have Y7:t<2:=by
    rcases ht with ht|⟨f,hf⟩
    ·exact ht
    rw[e]at hf;cases hf
   rw[aV e,aV (hw.const Y7),hn]
 refine hM.wf λ{s d} hs=>?_;rw[same (hM.lo hs),same (hM.hi hs)];exact⟨(hw.lo (hN hs)).2,(hw.hi (hN hs)).2⟩
structure AZ(K K':Kd)(r:Nat):Prop where
 n:K'.n=K.n
 cap:K'.cap=K.cap
 N:∀s d,K'.N s=some d->K.N s=some d
 hold:∀s,K'.hold s=if s=r/\2<=r then K.hold s-1 else K.hold s
def afa(h:bS kp K S θ ai tr C){r:Nat}(hr:r<4294967296)(h2:2<=r)(h0:K.hold r=0):Rd zQ 85 #[γ kp,δ r] C (· =iv 3):=by refine aJ λg=>AN (ah.aK (Br.no ?_));intro J2 _;refine ah.nV (b:=1) (Br.T (ae.eq (wI h.rep hr (λs=>by have:=h.dU s;omega)) ?_));rw[h0];exact ah.iD (Br.T (br.mk (.refl _) rfl))
def nv(h:bS kp K S θ ai tr C){r:Nat}(hr:r<4294967296)(hh:2<=r->K.hold r≠0):Fc zQ 85 #[γ kp,δ r] C (λv C'=>v=iv 0/\∃K',bS kp K' S θ ai [] C'/\AZ K K' r):=by
 have h0:=h;obtain⟨b,hC,hO⟩:=h.rep;refine aJ λg=>AN (ah.aK (Br.no ?_));intro J2 CJ;have fin:∀(K':Kd) C1,cX kp K' θ ai tr C1->Ok K' S (lv ai)->Idle K'->AZ K K' r->J2 [] C1:=λK' C1 de yF wT hm=>by
  refine CJ _ λgs=>?_;obtain⟨b',rfl,yL⟩:=de;refine Nil.γ (aj.mk (St.one (by exact .head _) rfl (by simp[uW.cells]) rfl ?_));have lB:Ord K'.n (lv ai) θ:=by rw[hm.n];exact h.od
  refine aQ.mk (mS:=({b' with vt:=.slice none 0 0,CR:=[]}:uW).hp kp K'.n) ?_ ⟨rfl,K',⟨⟨{b' with vt:=.slice none 0 0,CR:=[]},rfl,{yL with tr:=aL.nil}⟩,yF,lB,wT,trivial⟩,hm⟩;refine .cons (.cv (.cv (.cv (.cv (.cv (.cv .nil _) _) _) _) _) _)
 refine ah.nV (b:=1) (Br.dec (λh2=>?_) (λh2=>?_));rotate_left
 ·exact JE.mk (fin K C h.rep h.ok h.idle ⟨rfl,rfl,λ_ _ h=>h,λs=>by rw[xac zO]⟩)
 have lZ:2<=r:=by omega
 have p6:=hh lZ;obtain⟨d,hd⟩:=h.ok.mid.held r p6;have hfu:=h.ok.mid.fit hd;have Oe:=hO.ul;have hfit:r<K.ho.length:=by omega
 have hle:=h.dU r;refine ae.eq (wI h.rep hr (λs=>by have:=h.dU s;omega)) (ah.iD (Br.F ?_));subst hC;refine Nil.γ (aj.mk (Ld.f ?_));refine hO.ho.ld (x:=((K.hold r:Nat):Int)) (bM hfit) (bE.sub (.cons (.app (.app (.app .left))))) (ah.cj (b:=1) (hO.ho.mh (x:=((K.hold r-1:Nat):Int)) (.cons (.app (.app (.app .left)))) (by rw[av];exact hfit) λVr hhh=>?_));rw[fA]at hhh;have g1:∀s,(K.ho.set r (K.hold r-1)).getD s 0=if s=r then K.hold r-1 else K.hold s:=λs=>ia hfit
 have hM:=h.ok.mid.drop (r:=r) (cA:=K.ho.set r (K.hold r-1)) zO zI (by rw[g1,xae rfl];omega) (λs hs=>by rw[g1,xac hs]);have dR:cX kp {K with ho:=K.ho.set r (K.hold r-1)} θ ai tr (({b with CH:=Vr}:uW).hp kp K.n):=⟨_,rfl,{hO with ho:=hhh,ul:=by simp;exact Oe}⟩;have hho:∀s,(K.ho.set r (K.hold r-1)).getD s 0=if s=r/\2<=r then K.hold s-1 else K.hold s:=λs=>by
  rw[g1];by_cases e:s=r
  ·subst e;rw[xae rfl,xae ⟨rfl,lZ⟩]
  rw[xac e,xac (λh=>e h.1)]
 refine Nil.γ (aj.mk (Ld.f ?_));refine hhh.ld (x:=((K.hold r-1:Nat):Int)) (by rw[bM (by simpa using hfit),g1,xae rfl]) (bE.sub (.cons (.app (.app (.app .left))))) (ah.fc (b:=0) (Br.dec (λh3=>?_) (λh3=>?_)));rotate_left
 ·rw[xac zO]at hM;exact JE.mk (fin {K with ho:=K.ho.set r (K.hold r-1)} _ dR ⟨hM,h.ok.pos,h.ok.lv,h.ok.wf⟩ h.idle ⟨rfl,rfl,λ_ _ h=>h,hho⟩)
 rw[xae zO]at hM;refine Nil.γ (aj.mk ?_);have LS:j9 {K with ho:=K.ho.set r (K.hold r-1)} S iZ (ig zero' [r]):=hM.congr (λ_=>xcZ) λs _=>by
  unfold up ig zero';by_cases e:s=r
  ·subst e;simp
  simp[e,xa9 e]
 refine ae.fq (m4 (P0:=zero') dR LS h.ok.pos (λt TY h0=>?_) (h.bQ (.inr ⟨d,hd⟩)) (λs=>by have:=h.FM s;show K.use s<_;omega)) ?_
 ·by_cases e:t=r
  ·subst e;exact⟨d,hd⟩
  have h0':0<zero' t+[r].count t:=h0;simp[zero',xa9 e]at h0'
 rintro w C2 ⟨rfl,K2,cY,XQ,Vz,_,ej⟩;refine JE.mk (fin K2 _ cY ⟨XQ,Vz,by rw[ej.n];exact h.ok.lv,LF h.ok.wf XQ (λh=>ej.N h) ej.n⟩ (ej.idle h.idle) ⟨ej.n,ej.cap,λs e hs=>ej.N hs,λs=>?_⟩);show K2.ho.getD s 0=_;rw[ej.ho];exact hho s
structure qx(K:Kd)(S:Nat->ax.Fn)(K':Kd)(S':Nat->ax.Fn)(f:ax.Fn)(r:Nat):Prop where
 n:K'.n=K.n
 cap:K'.cap=K.cap
 used:K'.used<=K.used+1
 N:∀s d,K.N s=some d->K'.N s=some d
 fn:∀s,live K.N s->S' s=S s
 live:live K'.N r
 is:S' r=f
 hold:∀s,K'.hold s=if s=r/\2<=r then K.hold s+1 else K.hold s
def Bv(h:bS kp K S θ ai tr C){v lo hi:Nat}(hv:v<K.n)(hlo:live K.N lo)(hhi:live K.N hi)(η:lo=hi\/(lv ai v<ι K.n (lv ai) K.N lo/\lv ai v<ι K.n (lv ai) K.N hi)):
  Fc zQ 98 #[γ kp,iv (v:Int),δ lo,δ hi] C (λw C'=>
   (∃r K' S',w=.tuple #[δ r,iv 0]/\bS kp K' S' θ ai [] C'/\qx K S K' S' (ite S ⟨v,lo,hi⟩) r)\/
   (∃r,w=.tuple #[δ 0,iv 8]/\C'=C/\live K.N r/\2<=r/\K.hold r=65535/\S r=ite S ⟨v,lo,hi⟩)\/
   (w=.tuple #[δ 0,iv 9]/\C'=C/\K.cap<=K.used/\lo≠hi/\K.T ⟨v,lo,hi⟩=none)):=by
 have h0:=h;have ahM:=h.bQ hlo;have ahW:=h.bQ hhi;have Cz:=cg.2 hlo;have q8:=cg.2 hhi;have hfe:qu K ai (v:Int) lo hi=0:=by
  unfold qu;rw[xac zO,xac (by rw[Cz,q8];simp),xac];rintro⟨ξ,hmin⟩;rcases η with e|⟨a,b⟩
  ·exact ξ e
  simp only[xbe,lv]at hmin a b;omega
 refine aJ λg=>O9 (ah.aK (Br.no (ae.eq (L1 h.rep (v:Int) zO zO (λr d hd=>⟨h.ok.mid.var hd,(h.ok.mid.two hd).1⟩)) ?_)));rw[hfe];refine ah.cM (Br.F (ae.rq (Le h.rep (lo:=lo) (hi:=hi) hv) ?_));rintro w hw;have there:∀(J9:List zV->Hp->Prop),(∀w12:zV,∀H11:Hp,(∀an2:Fr,ae zQ g 84 #[γ kp,w12] H11 (λv13 H14=>ah .num .neq v13 (Value.int .i64 0) λv15=>Br v15
   (aQ (λw C'=>(∃r K' S',w=.tuple #[δ r,iv 0]/\bS kp K' S' θ ai [] C'/\qx K S K' S' (ite S ⟨v,lo,hi⟩) r)\/
   (∃r,w=.tuple #[δ 0,iv 8]/\C'=C/\live K.N r/\2<=r/\K.hold r=65535/\S r=ite S ⟨v,lo,hi⟩)\/
   (w=.tuple #[δ 0,iv 9]/\C'=C/\K.cap<=K.used/\lo≠hi/\K.T ⟨v,lo,hi⟩=none)) (.returned (.tuple #[(Value.int .u32 0),v13])) H14) (aQ (λw C'=>(∃r K' S',w=.tuple #[δ r,iv 0]/\bS kp K' S' θ ai [] C'/\qx K S K' S' (ite S ⟨v,lo,hi⟩) r)\/
   (∃r,w=.tuple #[δ 0,iv 8]/\C'=C/\live K.N r/\2<=r/\K.hold r=65535/\S r=ite S ⟨v,lo,hi⟩)\/
   (w=.tuple #[δ 0,iv 9]/\C'=C/\K.cap<=K.used/\lo≠hi/\K.T ⟨v,lo,hi⟩=none)) (.returned (.tuple #[w12,(Value.int .i64 0)])) H14)) (dy (aQ (λw C'=>(∃r K' S',w=.tuple #[δ r,iv 0]/\bS kp K' S' θ ai [] C'/\qx K S K' S' (ite S ⟨v,lo,hi⟩) r)\/
   (∃r,w=.tuple #[δ 0,iv 8]/\C'=C/\live K.N r/\2<=r/\K.hold r=65535/\S r=ite S ⟨v,lo,hi⟩)\/
   (w=.tuple #[δ 0,iv 9]/\C'=C/\K.cap<=K.used/\lo≠hi/\K.T ⟨v,lo,hi⟩=none)))))->J9 [w12] H11)->
   ∀r,live K.N r->S r=ite S ⟨v,lo,hi⟩->J9 [δ r] C:=λJ9 TW r hr hS=>by
  refine TW _ _ λgs=>?_;by_cases hf:2<=r/\K.hold r=65535
  ·exact ae.eq (pM h hr hf.1 hf.2) (ah.cM (Br.T (aQ.here (.inr (.inl ⟨r,rfl,rfl,hr,hf.1,hf.2,hS⟩)))))
  refine ae.fq (nh h hr (λh2=>by have:=h.dU r;omega)) ?_;rintro w C' ⟨rfl,K',de,hm⟩;refine ah.cM (Br.F (aQ.here (.inl ⟨r,K',S,rfl,de,⟨hm.n,hm.cap,by rw[hm.used];omega,λs d hs=>by rw[hm.N];exact hs,λ_ _=>rfl,by rw[hm.N];exact hr,hS,hm.hold⟩⟩)))
 by_cases he:lo=hi
 ·rw[xae he]at hw;subst hw;refine Ext.two λJ9 TW=>(Un.not (Br.no (JE.mk (there J9 TW lo hlo ?_))))
  funext z
  unfold ax.ite;simp[he]
 rw[xac he]at hw;have iL:lv ai v<ι K.n (lv ai) K.N lo/\lv ai v<ι K.n (lv ai) K.N hi:=by
  rcases η with e|e
  ·exact absurd e he
  exact e
 obtain⟨o,ho⟩:∃o,o=K.T ⟨v,lo,hi⟩:=⟨_,rfl⟩;cases o with
 |some r=>
  have hT:K.T ⟨v,lo,hi⟩=some r:=ho.symm;rw[hT]at hw;subst hw;refine Ext.two λJ9 TW=>?_;have hN:=((h.ok.mid.kK _ r).1 hT).1;refine Un.not (Br.no (JE.mk (there J9 TW r (.inr ⟨_,hN⟩) ?_)))
  funext z
  rw[h.ok.mid.int.node hN];rfl
 |none=>
  have hT:K.T ⟨v,lo,hi⟩=none:=ho.symm;rw[hT]at hw;subst hw;refine Ext.two λJ9 TW=>(Un.not (Br.yes (Nil.γ (aj.mk ?_))));have hcap:=h.ok.mid.cap;refine ae.eq (D2 h.rep (m:=1) zO zO) (Un.not ?_);by_cases hroom:K.used+1<=K.cap;rotate_left
  ·rw[xan hroom];exact Br.yes (aQ.here (.inr (.inr ⟨rfl,rfl,by omega,he,hT⟩)))
  rw[xam hroom];refine Br.no (Nil.γ (aj.mk (Build.mk (cs:=bB ⟨v,lo,hi⟩) zK ?_)));have hfit:∀{t:Nat},live K.N t->t<2\/t<K.us.length:=λht'=>by
   rcases ht' with ht'|⟨d,dF⟩
   ·exact .inl ht'
   exact .inr (h.ok.mid.fit dF)
  have tt:K.n<=64:=by obtain⟨_,_,hO⟩:=h.rep;exact hO.mq
  refine ae.fq (KX h.rep (d:=⟨v,lo,hi⟩) ⟨by show v<64;omega,hlo,hhi⟩ hv hT zO (hfit hlo) (hfit hhi) (λs=>by have:=h.FM s;omega)) ?_;rintro w C1 ⟨r,dG,cA,rfl,hN,h2,hrc,Ξ,hru,Oe,u0,u1,u2,o0,o1,dR⟩;have Ot:=h.ok.mid.lay (r:=r) (d:=⟨v,lo,hi⟩) hN ⟨h2,hrc⟩ hv he hlo hhi hT (λh=>h) rfl zO Ξ ⟨hru,Oe⟩ u0 u1 o0 o1;have aiE:∀s d,K.N s=some d->up K.N r (some ⟨v,lo,hi⟩) s=some d:=λs d hs=>by rw[aT (λe=>by rw[e,hN]at hs;cases hs)];exact hs
  have ξ:∀{t:Nat},live K.N t->t≠r:=λht=>gw ht h2 hN;have Tk:Idle {K with N:=up K.N r (some ⟨v,lo,hi⟩),T:=rA K.T ⟨v,lo,hi⟩ (some r),used:=K.used+1,us:=dG,ho:=cA}:=λs hs=>by
   have μ:up K.N r (some ⟨v,lo,hi⟩) s=none:=hs;have SY:s≠r:=λe=>by subst e;rw[aR]at μ;cases μ
   rw[aT SY]at μ;show dG.getD s 0=0;by_cases h2s:2<=s
   ·rw[u1 s h2s SY,h.idle s μ,eJ];have a1:lo≠s:=λe=>by
     rcases hlo with h5|⟨d,h5⟩
     ·omega
     rw[e,μ]at h5;cases h5
    have a2:hi≠s:=λe=>by
     rcases hhi with h5|⟨d,h5⟩
     ·omega
     rw[e,μ]at h5;cases h5
    simp[a1,a2]
   rw[u2 s zO,h.idle s μ]
  refine JE.mk (TW _ _ λgs=>?_);refine ae.fq (D4 dR Ot Tk (r:=r) (.inr ⟨_,aR⟩) (λ_=>by show cA.getD r 0<65535;rw[o0];omega)) ?_;rintro w C2 ⟨rfl,K2,cY,LS,GV,hm,hu,hp⟩;refine ah.cM (Br.F ?_);have Xy:K2.n=K.n:=hm.n;have hN2:K2.N=up K.N r (some ⟨v,lo,hi⟩):=hm.N;have hpos:Pos K2:=λs d hs=>by
   by_cases e:s=r
   ·rw[e];exact hp h2
   rw[hN2,aT e]at hs;have h3:=hu s;have h4:({K with N:=up K.N r (some ⟨v,lo,hi⟩),T:=rA K.T ⟨v,lo,hi⟩ (some r),used:=K.used+1,us:=dG,ho:=cA}:Kd).use s=dG.getD s 0:=rfl;rw[h4,u1 s (h.ok.mid.two hs).1 e]at h3;have:=h.ok.pos s d hs;omega
  have BJ:∀{t:Nat},live K.N t->ι K2.n (lv ai) K2.N t=ι K.n (lv ai) K.N t:=λ{t} ht=>by
   rw[hN2,Xy];unfold ι;rw[aT (ξ ht)]
  have ahe:WF K2.n (lv ai) K2.N:=LS.wf λ{s d} hs=>by
   rw[hN2]at hs;by_cases e:s=r
   ·rw[e,aR]at hs;cases hs;rw[BJ hlo,BJ hhi];exact iL
   rw[aT e]at hs;rw[BJ (h.ok.wf.lo hs).1,BJ (h.ok.wf.hi hs).1];exact⟨(h.ok.wf.lo hs).2,(h.ok.wf.hi hs).2⟩
  have hS:∀s,live K.N s->up S r (ite S ⟨v,lo,hi⟩) s=S s:=λs hs=>aT (ξ hs);refine aQ.here (.inl ⟨r,K2,up S r (ite S ⟨v,lo,hi⟩),rfl,⟨cY,⟨LS,hpos,by rw[Xy];exact h.ok.lv,ahe⟩,by rw[Xy];exact h.od,GV,trivial⟩,⟨Xy,hm.cap,by rw[hm.used];exact xai _,λs d hs=>by rw[hN2];exact aiE s d hs,hS,.inr ⟨_,by rw[hN2];exact aR⟩,aR,λs=>?_⟩⟩);rw[hm.hold];show(if s=r/\2<=r then cA.getD s 0+1 else cA.getD s 0)=_;by_cases e:s=r
  ·subst e;rw[xae ⟨rfl,h2⟩,xae ⟨rfl,h2⟩,o0];have:K.hold s=0:=by
    apply xdK;intro ξ;obtain⟨d,hd⟩:=h.ok.mid.held s ξ;rw[hN]at hd;cases hd
   omega
  rw[xac (λh=>e h.1),xac (λh=>e h.1),o1 s e]
end
def hnew{H:Hp}:bE [] H (λX=>X++H):=bE.left
variable{n:Nat}
theorem SP(hn:n<=64):Fc zQ 61 #[iv (n:Int)] [] (λv H=>aL 3 .i64 v (iw (List.range n)) H):=by
 refine aJ λg=>PG (cJ.ints zO zO λb=>?_);have h0:aL 3 .i64 (.slice (some ⟨b,0,none⟩) n n) (List.replicate n 0) [(b,.cells (az .i64 (List.replicate n 0)) 3 zZ)]:=by
  have:=aL.made (T:=3) (kd:=.i64) (b:=b) (List.replicate n (0:Int));rw[xd5]at this;exact this
 refine⟨λvs H=>∃j:Nat,vs=[iv (j:Int)]/\j<=n/\aL 3 .i64 (.slice (some ⟨b,0,none⟩) n n) (iw (List.range j)++List.replicate (n-j) 0) H,λvs _=>n-bH vs 0,JE.mk ⟨0,rfl,by omega,by simpa[iw]using h0⟩,?_⟩;rintro w H ⟨j,hw,hj,hs⟩ gs;simp only[xaw,xaW]at hw;subst hw;refine ah.eA (Br.dec (λη=>?_) (λη=>?_))
 ·refine hs.mh (x:=(j:Int)) .here zP λC' μ=>?_;refine ah.inc ?_;have e:(iw (List.range j)++List.replicate (n-j) 0).set j (j:Int)=iw (List.range (j+1))++List.replicate (n-(j+1)) 0:=by
   rw[xcl _ _ zI];rw[show n-j=(n-(j+1))+1 by omega,xdc,xbZ,cH];simp[iw]
  rw[e]at μ;exact aD.of (.refl _) ⟨j+1,rfl,by omega,μ⟩ (by show n-(((j+1:Nat):Int).toNat)<n-(((j:Nat):Int).toNat);omega)
 obtain rfl:j=n:=by omega
 exact aQ.here (by simpa using hs)
theorem ug(hn:n<=64):Fc zQ 28 #[iv (n:Int)] [] (λv H=>∃s,v=.tuple #[s,iv 0]/\aL 3 .i64 s (iw (List.range n)) H):=by
 refine aJ λg=>AV (ah.lss ?_);rw[xan zO];refine dh.or false (λ_=>ah.gtr ⟨rfl,by rw[xan zO]⟩) rfl λ_=>Br.no ?_;refine ae.fq (SP hn) ?_;intro s H hs;exact aQ.here ⟨s,rfl,hs⟩
def K0(n cap:Nat):Kd:=⟨n,cap,2,λ_=>none,λ_=>none,[],[]⟩
def S0:Nat->ax.Fn:=λr _=>decide (r=1)
def ou{v:Nat}(hv:v<n):lv (List.range n) v=v:=by show(List.range n).getD v 0=v;simp[List.getD,hv]
def afv{cap:Nat}(hc:2<=cap/\cap<=1048576):Ok (K0 n cap) S0 (lv (List.range n)):=by
 have c0:∀k,nX (λ_=>none) k=0:=λk=>by induction k with|zero=>rfl|succ k ih=>rw[nX,ih];rfl
 have hm:j9 (K0 n cap) S0 iZ zero':={
  two:=λh=>nomatch h
  var:=λh=>nomatch h
  ne:=λh=>nomatch h
  lo:=λh=>nomatch h
  hi:=λh=>nomatch h
  int:=⟨λ_=>rfl,λ_=>rfl,λh=>nomatch h⟩
  kK:=λd r=>⟨λh=>(nomatch h),λh=>nomatch h.1⟩
  use:=λh=>nomatch h
  len:=rfl
  fit:=λh=>nomatch h
  held:=λr h=>absurd (by simp[Kd.hold,K0]) h
  mx:=λr=>by simp[Kd.hold,K0]
  room:=by show 2=2+nX (λ_=>none) _;rw[c0]
  cap:=hc}
 refine⟨hm,λr d h=>(nomatch h),⟨λv hv=>?_,λu v hu hv h=>?_⟩,⟨λh=>(nomatch h),λh=>(nomatch h),λh=>(nomatch h),λh=>(nomatch h),λh=>(nomatch h),λh=>(nomatch h)⟩⟩
 ·have oC:v<n:=hv;rw[ou oC];exact hv
 have BF:u<n:=hu;have oC:v<n:=hv;rwa [ou BF,ou oC]at h
theorem DQ{pt cap:Nat}{CT:Hp}(hu:pc pt n (λ_=>none) CT)(hc:2<=cap/\cap<=1048576):Fc zQ 30 #[iv (cap:Int),γ pt] CT (λv H=>∃pa CA,v=.tuple #[.agg #[γ pa,γ pt,.slice none 0 0,.slice none 0 0],iv 0]/\jk pa cap 2 (λ_=>none) CA/\H=CA++CT):=by
 refine aJ λg=>Qa λb1 _=>?_;refine ae.fn hnew (Yo hc) ?_;rintro v C ⟨pa,rfl,hA⟩;refine Ext.two (Build.mk (cs:=[γ pa,γ pt,.slice none 0 0,.slice none 0 0]) zK (St.q ?_));refine aB.q ?_;exact aQ.mk (.cv .tail _) ⟨pa,C,rfl,hA,rfl⟩
theorem aag{cap:Nat}(hn:1<=n/\n<=64)(hc:2<=cap/\cap<=1048576):Fc zQ 19 #[iv (n:Int),iv (cap:Int)] [] (λv C=>∃kp,v=.tuple #[γ kp,iv 0]/\bS kp (K0 n cap) S0 (List.range n) (List.range n) [] C):=by
 refine aJ λg=>AX (ae.fq (ug hn.2) ?_);rintro v CO ⟨s,rfl,hO⟩;obtain⟨sa,sl,sc,hse⟩:∃a l c,s=Value.slice a l c:=by obtain⟨a,c,h⟩:=aU.len hO;exact⟨a,_,c,h⟩
 refine Ext.two (ah.cM (dh.or false (λ_=>ah.lss ⟨rfl,by rw[xan zO]⟩) rfl λgs=>?_));refine dh.or false (λ_=>ah.lss ⟨rfl,by rw[xan zO]⟩) rfl λgs=>?_;refine dh.or false (λ_=>ah.gtr ⟨rfl,by rw[xan zO]⟩) rfl λgs=>Br.no ?_;refine ae.fn hnew (V6 hn) ?_;rintro v CT ⟨pt,rfl,hT⟩;refine Ext.two (ah.cM (Br.no (ae.fq (DQ hT hc) ?_)));rintro v H ⟨pa,CA,rfl,hA,rfl⟩;refine Ext.two λb24 _=>(St.q ?_);refine ah.cM (Br.no (DR.self (aB.q ?_)));refine ae.fq (xA (hO.ints.mono λ_ h=>h) zP) ?_;rintro v H ⟨CL,rfl,hL⟩;obtain⟨la,ll,lc,hle⟩:∃a l c,v=Value.slice a l c:=by obtain⟨a,c,h⟩:=aU.len hL;exact⟨a,_,c,h⟩
 refine⟨(.cons (.cv .right _)),?_⟩;subst hse hle;refine Build.mk (cs:=[γ pa,γ pt,.slice none 0 0,.slice none 0 0,iv (n:Int),.slice sa sl sc,.slice la ll lc,.slice none 0 0]) zK λZA _=>?_;refine⟨(.skip (.cons (.cv .right _))),?_⟩
 let kb:uW:=⟨pa,pt,.slice none 0 0,.slice none 0 0,.slice sa sl sc,.slice la ll lc,.slice none 0 0,CA,CT,[],[],CO,CL,[]⟩
 refine aQ.mk (mS:=kb.hp ZA n) ?_ ⟨ZA,rfl,⟨kb,rfl,⟨hA,hT,aL.nil,aL.nil,hO,hL,aL.nil,⟨rfl,by simp[K0]⟩,hn.2,by simp[K0]⟩⟩,afv hc,⟨by simp[K0],λl hl=>?_⟩,λs _=>by simp[Kd.use,K0],trivial⟩
 ·refine .cons (.skip ((aO.assoc).trans ?_));show aO (CA++(CT++(CL++CO))) (CA++(CT++([]++([]++(CO++(CL++[]))))));simp only[xbR,xaI];exact .cv (.cv (.perm xbk) _) _
 have hl':l<n:=hl;have e:(List.range n).getD l 0=l:=ou hl';rw[e];exact⟨hl,ou hl'⟩
end
end Go.Proofs
namespace ax
def aA(θ Λ:zL):zL:=Λ.foldl fV θ
variable{l:Nat}
def gH{θ Λ:zL}:aA θ (Λ++[l])=fV (aA θ Λ) l:=by simp[aA]
def cq{θ Λ q:zL}:aA θ (Λ++q)=aA (aA θ Λ) q:=by simp[aA]
variable{θ:zL}
def gf:∀{Λ:zL},(aA θ Λ).length=θ.length:=by
 intro Λ;unfold aA;induction Λ generalizing θ with
 |nil=>rfl
 |cons l r ih=>rw[xcL,ih];simp[fV]
def mI:Nat->zL
 |2=>[0]
 |3=>[1,0,1,0,1]
 |4=>[2,1,0,2,0,1,2,0,2,1,0,2,0,1,2,0,2,1,0,2,0,1,2]
 |_=>[]
structure Rm where
 n:Nat
 size:zL->Nat
 fit:zL->Nat->Bool
def Rm.dJ(m:Rm)(p:Nat):zL->zL->zL
 | [],_=>[]
 |c::cs,θ=>if m.fit θ (p+c)then(p+c)::m.dJ p cs (fV θ (p+c))else []
def Rm.keep(m:Rm)(θ Λ:zL):Nat->Nat
 |0=>0
 |i+1=>if m.size (aA θ (Λ.take (i+1)))<m.size (aA θ (Λ.take (m.keep θ Λ i)))then i+1 else m.keep θ Λ i
def Rm.visit(m:Rm)(w p:Nat)(θ:zL):zL×Nat:=
 let Λ:=m.dJ p (mI w) θ
 let k:=m.keep θ Λ Λ.length
 (Λ.take k,Λ.length+(Λ.length-k))
def Rm.all(m:Rm)(w:Nat)(θ:zL):Nat->zL×Nat
 |0=>([],0)
 |i+1=>let a:=m.all w θ i;let b:=m.visit w i (aA θ a.1);(a.1++b.1,a.2+b.2)
def Rm.pass(m:Rm)(w:Nat)(θ:zL):zL×Nat:=m.all w θ (m.n+1-w)
def Rm.mF(m:Rm)(p:Nat):∀cs θ,(m.dJ p cs θ).length<=cs.length
 | [],_=>by simp[dJ]
 |c::cs,θ=>by
  rw[dJ];split
  ·have:=m.mF p cs (fV θ (p+c));simp only[xax];omega
  simp
def Rm.sn(m:Rm)(p:Nat):∀cs θ i,i<(m.dJ p cs θ).length->(m.dJ p cs θ)[i]? =(cs[i]?).map (p+ ·)/\∃c,cs[i]? =some c/\m.fit (aA θ ((m.dJ p cs θ).take i)) (p+c)=true
 | [],_,i,h=>by simp[dJ]at h
 |c::cs,θ,i,h=>by
  by_cases hf:m.fit θ (p+c)=true
  ·rw[dJ,xae hf]at h⊢;cases i with
   |zero=>exact⟨by simp,c,rfl,hf⟩
   |succ i=>
    obtain⟨h1,c',h2,h3⟩:=m.sn p cs (fV θ (p+c)) i (by simpa using h);exact⟨by simpa using h1,c',by simpa using h2,by simpa[aA]using h3⟩
  rw[dJ,xac hf]at h;simp at h
def Rm.wX(m:Rm)(p:Nat):∀cs θ c,cs[(m.dJ p cs θ).length]? =some c->m.fit (aA θ (m.dJ p cs θ)) (p+c)=false
 | [],_,c,h=>by simp at h
 |c'::cs,θ,c,h=>by
  by_cases hf:m.fit θ (p+c')=true
  ·rw[dJ,xae hf]at h⊢;have:=m.wX p cs (fV θ (p+c')) c (by simpa using h);simpa[aA]using this
  rw[dJ,xac hf]at h⊢;simp only[xbF,xcR,xat]at h;subst h;simpa[aA]using hf
def Rm.Eo(m:Rm)(p:Nat){cs:zL}(h:l∈m.dJ p cs θ):∃c∈cs,l=p+c:=by obtain⟨i,hi,e⟩:=List.getElem_of_mem h;obtain⟨h1,c,h2,_⟩:=m.sn p cs θ i hi;rw[xab hi,e,h2]at h1;exact⟨c,xav h2,by simpa using h1⟩
def Rm.BA(m:Rm)(θ Λ:zL):∀i,m.keep θ Λ i<=i
 |0=>xai _
 |i+1=>by rw[keep];split;omega;have:=m.BA θ Λ i;omega
def Rm.wK(m:Rm)(θ Λ:zL):∀i j,j<=i->m.size (aA θ (Λ.take (m.keep θ Λ i)))<=m.size (aA θ (Λ.take j))
 |0,j,h=>by
  obtain rfl:j=0:=by omega
  exact xai _
 |i+1,j,h=>by
  by_cases e:j=i+1
  ·subst e;rw[keep];split<;>omega
  have:=m.wK θ Λ i j zO;rw[keep];split<;>omega
def Hv{w c:Nat}(h:c∈mI w):c+2<=w:=by
 unfold mI at h;split at h
 ·simp at h;omega
 ·simp at h;omega
 ·simp at h;omega
 simp at h
def Mg(w:Nat):(mI w).length<=23:=by unfold mI;split<;>simp
def Rm.MT(m:Rm){w p:Nat}(h:l∈(m.visit w p θ).1):l+2<=p+w:=by obtain⟨c,hc,rfl⟩:=m.Eo p (xcK h);have:=Hv hc;omega
def Rm.sP(m:Rm)(w p:Nat)(θ:zL):(m.visit w p θ).1.length<=23/\(m.visit w p θ).2<=46:=by
 have h1:=m.mF p (mI w) θ;have h2:=Mg w;have h3:=m.BA θ (m.dJ p (mI w) θ) (m.dJ p (mI w) θ).length;constructor
 ·show(List.take _ _).length<=23;rw[xbI];omega
 show _+(_-_)<=46;omega
def Rm.Db(m:Rm)(w p:Nat)(θ:zL):m.size (aA θ (m.visit w p θ).1)<=m.size θ:=by have:=m.wK θ (m.dJ p (mI w) θ) (m.dJ p (mI w) θ).length 0 (xaL _);simpa[visit,aA]using this
def Rm.U0(m:Rm)(w:Nat)(θ:zL):∀i,m.size (aA θ (m.all w θ i).1)<=m.size θ
 |0=>xai _
 |i+1=>by
  have h1:=m.U0 w θ i;have h2:=m.Db w i (aA θ (m.all w θ i).1);show m.size (aA θ (_++_))<=_;rw[cq];exact xbT h2 h1
def Rm.Mr(m:Rm)(w:Nat)(θ:zL):∀i,(m.all w θ i).1.length<=23*i/\(m.all w θ i).2<=46*i
 |0=>⟨xai _,xai _⟩
 |i+1=>by
  have h1:=m.Mr w θ i;have h2:=m.sP w i (aA θ (m.all w θ i).1);constructor
  ·show((m.all w θ i).1++(m.visit w i (aA θ (m.all w θ i).1)).1).length<=_;rw[xaf];omega
  show(m.all w θ i).2+(m.visit w i (aA θ (m.all w θ i).1)).2<=_;omega
def Rm.Mq(m:Rm){w:Nat}:∀{i},l∈(m.all w θ i).1->l+3<=i+w
 |0,h=>by simp[all]at h
 |i+1,h=>by
  rcases xao.1 h with h|h
  ·have:=m.Mq h;omega
  have:=m.MT h;omega
def Rm.all_succ(m:Rm)(w:Nat)(θ:zL)(i:Nat):m.all w θ (i+1)=((m.all w θ i).1++(m.visit w i (aA θ (m.all w θ i).1)).1,(m.all w θ i).2+(m.visit w i (aA θ (m.all w θ i).1)).2):=rfl
end ax
set_option maxRecDepth 100000
namespace Go.Proofs
open Go Go.Sx Tryz
open ax
def At(kp:Nat)(K:Kd)(S:Nat->ax.Fn)(θ tr:zL)(C:Hp):Prop:=∃K' S' bU,bS kp K' S' θ bU tr C/\Kept K S K' S'
noncomputable def cK(K:Kd)(S:Nat->ax.Fn)(θ:zL):Nat:=sz K.n θ (K.held S)
def js(K:Kd)(S:Nat->ax.Fn)(θ:zL)(l:Nat):Prop:=A2 K.n θ l (K.held S)+2<=K.cap
variable{kp:Nat}{K:Kd}{S:Nat->ax.Fn}{θ tr:zL}{C:Hp}
section
def bS.bg{ai:zL}(h:bS kp K S θ ai tr C):At kp K S θ tr C:=⟨K,S,ai,h,.refl _ _⟩
def D1{ai:zL}(h:bS kp K S θ ai tr C):K.used=cK K S θ+2:=by have h1:=KY (h.ok.size h.od);have h2:=h.ok.mid.room;unfold cK;omega
def r9{K':Kd}{S':Nat->ax.Fn}(h:Kept K S K' S')(θ:zL):cK K' S' θ=cK K S θ:=by unfold cK;rw[h.n];exact Ri h.held
def z6{K':Kd}{S':Nat->ax.Fn}(h:Kept K S K' S')(θ:zL)(l:Nat):js K' S' θ l↔js K S θ l:=by unfold js;rw[h.n,h.cap,M0 h.held]
def At.len(h:At kp K S θ tr C):θ.length=K.n:=by obtain⟨K',S',bU,h,hk⟩:=h;rw[<-hk.n];exact h.od.len
def gB(h:At kp K S θ tr C):cK K S θ<=1048574:=by obtain⟨K',S',bU,h,hk⟩:=h;rw[<-r9 hk];have:=D1 h;have:=h.ok.mid.cap;omega
def At.mq(h:At kp K S θ tr C):K.n<=64:=by obtain⟨K',S',bU,h,hk⟩:=h;obtain⟨b,_,hO⟩:=h.rep;rw[<-hk.n];exact hO.mq
def cI(h:At kp K S θ tr C):Rd zQ 83 #[γ kp] C (· =iv ((cK K S θ:Nat):Int)):=by obtain⟨K',S',bU,h,hk⟩:=h;have hs:=D1 h;have hc:=h.ok.mid.cap;refine(Xd h.rep zO zO).mono ?_;rintro v H ⟨rfl,rfl⟩;exact⟨rfl,by rw[hs,r9 hk];rfl⟩
def sH(h:At kp K S θ tr C):Rd zQ 174 #[γ kp] C (· =iv ((tr.length:Nat):Int)):=by obtain⟨K',S',bU,h,hk⟩:=h;exact Oa h.rep
def ny(h:At kp K S θ tr C):Rd zQ 108 #[γ kp] C (· =iv ((K.n:Nat):Int)):=by obtain⟨K',S',bU,h,hk⟩:=h;rw[<-hk.n];exact gY h.rep
def EW(h:At kp K S θ tr C):Fc zQ 27 #[γ kp] C (λr H=>∃N,H=N++C/\aL 3 .i64 r (iw θ) N):=by obtain⟨K',S',bU,h,hk⟩:=h;exact zN h.rep
variable{l:Nat}
def vy(h:At kp K S θ tr C)(hl:l+1<K.n)(fm:tr.length<17592186044416)(hf:js K S θ l):Fc zQ 94 #[γ kp,iv (l:Int)] C (λr C'=>r=iv 0/\At kp K S (fV θ l) (tr++[l]) C'):=by
 obtain⟨K',S',bU,h,hk⟩:=h;refine(L3 h (by rw[hk.n];exact hl) fm).mono ?_;rintro v C' (⟨_,rfl,K2,S2,aal,h2,sj⟩|⟨Γ,_,_⟩)
 ·exact⟨rfl,K2,S2,aal,h2,hk.trans sj⟩
 have:=(z6 hk θ l).2 hf;unfold js at this;omega
def nA(h:At kp K S θ tr C)(hl:l+1<K.n)(fm:tr.length<17592186044416)(hf:¬js K S θ l):Rd zQ 94 #[γ kp,iv (l:Int)] C (· =iv 9):=by
 obtain⟨K',S',bU,h,hk⟩:=h;refine(L3 h (by rw[hk.n];exact hl) fm).mono ?_;rintro v C' (⟨SR,_⟩|⟨Γ,rfl,rfl⟩)
 ·exact absurd ((z6 hk θ l).1 SR) hf
 exact⟨rfl,rfl⟩
def Ca(h:At kp K S θ (tr++[l]) C)(fm:tr.length<17592186044416):Fc zQ 231 #[γ kp] C (λr C'=>r=.tuple #[iv (l:Int),iv 0]/\At kp K S (fV θ l) tr C'):=by obtain⟨K',S',bU,h,hk⟩:=h;refine(V7 h fm).mono ?_;rintro v C' ⟨rfl,_,K2,S2,aal,h2,sj⟩;exact⟨rfl,K2,S2,aal,h2,hk.trans sj⟩
theorem ZP(h:At kp K S θ tr C)(hl:l+1<K.n)(fm:tr.length<17592186044416)(hf:js K S θ l):Fc zQ 175 #[γ kp,iv (l:Int)] C (λr C'=>
   r=.tuple #[.agg #[iv (l:Int),iv ((cK K S θ:Nat):Int),iv ((cK K S (fV θ l):Nat):Int)],iv 0]/\At kp K S (fV θ l) (tr++[l]) C'):=by
 refine aJ λg=>x9 λb1 _=>?_;refine ae.eq (cI h) (Build.mk (cs:=[iv (l:Int),iv ((cK K S θ:Nat):Int),iv 0]) zK λb6 _=>?_);refine St.q ?_;refine ae.fq (vy h hl fm hf) ?_;rintro v C' ⟨rfl,h'⟩;refine ah.cM (Br.F (ae.eq (cI h') (aj.mk (St.one (by exact .head _) rfl zI rfl ?_))));refine aB.q ?_;refine St.q ?_;refine aB.q ?_;exact aQ.mk (.skip .tail) ⟨rfl,h'⟩
theorem ZQ(h:At kp K S θ tr C)(hl:l+1<K.n)(fm:tr.length<17592186044416)(hf:¬js K S θ l):Rd zQ 175 #[γ kp,iv (l:Int)] C (· =.tuple #[.agg #[iv 0,iv 0,iv 0],iv 9]):=by
 refine aJ λg=>x9 λb1 _=>?_;refine ae.eq (cI h) (Build.mk (cs:=[iv (l:Int),iv ((cK K S θ:Nat):Int),iv 0]) zK λb6 _=>?_);refine St.q ?_;refine ae.eq (nA h hl fm hf) (ah.cM (Br.T (Build.mk (cs:=[iv 0,iv 0,iv 0]) zK (St.q ?_))));refine aB.q ?_;exact br.mk (.skip .tail) rfl
def Mm{Λ:zL}(h:At kp K S (aA θ Λ) (tr++Λ) C)(hp:∀l∈Λ,l+1<K.n){k:Nat}(hk:k<=Λ.length)(fm:(tr++Λ).length<17592186044416):Fc zQ 176 #[γ kp,iv ((tr.length+k:Nat):Int)] C (λr C'=>
   r=.tuple #[iv ((Λ.length-k:Nat):Int),iv 0]/\At kp K S (aA θ (Λ.take k)) (tr++Λ.take k) C'):=by
 have Ξ:=h.len;rw[gf]at Ξ;rw[xaf]at fm;refine aJ λg=>Jy (ah.aK (Br.no ?_));intro J2 CJ;apply ah.lss;rw[xan zO];refine Split.go rfl (ae.eq (sH h) (ah.gtr ?_));rw[xan (by rw[xaf];omega)];refine aG.mk (JE.mk (CJ _ _ λgs=>Br.no ?_));refine⟨λvs H=>∃m,m<=Λ.length/\k<=m/\vs=[iv ((Λ.length-m:Nat):Int)]/\At kp K S (aA θ (Λ.take m)) (tr++Λ.take m) H,λvs _=>Λ.length-bH vs 0,JE.mk ⟨Λ.length,xai _,hk,by simp,by simpa using h⟩,?_⟩;rintro w H ⟨m,hm,hkm,hw,CE⟩ gs;simp only[xaw,xaW]at hw;subst hw;refine ae.eq (sH CE) (ah.nV (Br.dec (λη=>?_) (λη=>?_)))
 ·rw[xaf,xbI]at η;obtain⟨m,rfl⟩:∃m',m=m'+1:=⟨m-1,by omega⟩;have e:Λ.take (m+1)=Λ.take m++[Λ[m]]:=by rw[xbg,xab zO];rfl
  rw[e,<-xag,gH]at CE;apply ae.fq (Ca CE zP);rintro v C' ⟨rfl,h'⟩;rw[rJ (by rw[gf,Ξ];exact hp _ (xaK _))]at h';refine ah.inc (aD.of (.refl _) ⟨m,by omega,by omega,by rw[show Λ.length-(m+1)+1=Λ.length-m by omega],h'⟩ ?_);show Λ.length-(((Λ.length-(m+1)+1:Nat):Int).toNat)<Λ.length-(((Λ.length-(m+1):Nat):Int).toNat);omega
 rw[xaf,xbI]at η;obtain rfl:m=k:=by omega
 exact aQ.here ⟨rfl,CE⟩
end
theorem Hw{w:Nat}(hw:2<=w/\w<=4):Fc zQ 172 #[iv (w:Int)] [] (λv H=>∃s,v=.tuple #[s,iv 0]/\aL 3 .i64 s (iw (mI w)) H):=by
 refine aJ λg=>JB ?_;obtain rfl|rfl|rfl:w=2\/w=3\/w=4:=by omega
 ·refine ah.iD (Br.T (aq.int (e:=3) zK zK zK λbx=>?_));exact aQ.here ⟨_,rfl,aL.made [0]⟩
 ·refine ah.iD (Br.F (ah.iD (Br.T (⟨az .i64 (iw (mI 3)),3,1,iv 0,by kernel_rfl,by kernel_rfl,by kernel_rfl,by decide,by kernel_rfl,λbx _=>?_⟩))));exact aQ.here ⟨_,rfl,aL.made (iw (mI 3))⟩
 refine ah.iD (Br.F (ah.iD (Br.F (ah.iD (Br.T (⟨az .i64 (iw (mI 4)),3,1,iv 0,by kernel_rfl,by kernel_rfl,by kernel_rfl,by decide,by kernel_rfl,λbx _=>?_⟩))))));exact aQ.here ⟨_,rfl,aL.made (iw (mI 4))⟩
end Go.Proofs
namespace Go.Sx
open Go
variable{P:Program}{g:Gh}{H:Hp}
section
def jl.nat{len size b o j:Nat}{kd:IntKind}{k:zV->Prop}(h1:j<len)(h:k (.pointer (some ⟨b,o+j*size,none⟩))):jl len size (.pointer (some ⟨b,o,none⟩)) (.int kd (j:Int)) k:=
 ⟨b,o,kd,(j:Int),rfl,rfl,by omega,by omega,by simpa using h⟩
def iQ.afl{o:Oper}{ρ:Operand->zV}{k:zV->Prop}{t e:TypeId}{q kd:IntKind}{n j:Nat}{x i:Operand}{l:List Int}{z:Int}(ho:o.op=.index t x i)(hx:ρ x=.agg (az q l))(hi:ρ i=.int kd (j:Int))
 (ht:P.underlying t=some (.array n e))(hu:P.underlying e=some (.int q))(hz:dm P e=some 1)(hj:j<n)(hl:l[j]? =some z)(hk:k (.int q z)):iQ P g o ρ H k:=by
 obtain⟨inf,ahQ,hs⟩:=bJ hz;refine⟨_,λw _=>?_,hk⟩;have hp:=rR (P:=P) hu hl w;have Tz:(0:Int)<=(j:Int)/\(j:Int)<(n:Int):=by omega
 simp only[execOp,ho,Instr.index,hx,hi,asIntOf,Sem.run_bind,Sem.run_pure,Result.andThen_ok,run_underlying ht,run_sizeOf ahQ,hs,xae Tz,xbe,xb8,hp]
end
end Go.Sx
namespace ax
open an
def clr(m v:Nat):Nat:=if m.testBit v then m^^^2^v else m
def rest(m:Nat)(θ:zL):Nat->Nat
 |0=>m
 |k+1=>clr (rest m θ k) (θ.getD k 0)
variable{n:Nat}{θ:zL}{F:Fn->Prop}
section
variable{m o:Nat}
def getD_inj(hn:θ.Nodup){i j:Nat}(hi:i<θ.length)(hj:j<θ.length)(e:θ.getD i 0=θ.getD j 0):i=j:=by rw[xas,xas,xab hi,xab hj]at e;exact(xeD hn).1 e
def Rk{l:Nat}(hl:l+1<θ.length):(fV θ l).Perm θ:=by
 unfold fV;have e1:θ=θ.take l++θ.getD l 0::θ.getD (l+1) 0::θ.drop (l+2):=by
  conv=>lhs;rw[<-xbs l θ]
  congr 1;rw[xbt zO,xbt zO];simp[List.getD,xab (show l<θ.length by omega),xab hl]
 have ht:(θ.take l).length=l:=by simp;omega
 have e2:(θ.set l (θ.getD (l+1) 0)).set (l+1) (θ.getD l 0)=θ.take l++θ.getD (l+1) 0::θ.getD l 0::θ.drop (l+2):=by
  generalize hx:θ.getD l 0=x at*;generalize hy:θ.getD (l+1) 0=y at*
  conv=>lhs;rw[e1]
  rw[xcl _ _ zO,ht,xcX,xcH,xcl _ _ zO,ht,Nat.add_sub_cancel_left,xdM,xcH]
 rw[e2]
 conv=>rhs;rw[e1]
 exact xbB _ (List.Perm.swap _ _ _)
def l8:∀{Λ:zL} {θ:zL},(∀l∈Λ,l+1<θ.length)->(aA θ Λ).Perm θ
 | [],_,_=>.refl _
 |l::r,θ,h=>by
  show(aA (fV θ l) r).Perm θ;have h1:=h l zI;exact(l8 λx hx=>by rw[mY];exact h x (by simp[hx])).trans (Rk h1)
end
def flat(n s:Nat):Rm:=⟨n,λ_=>s,λ_ _=>true⟩
def Hz(i:Nat):Nat->zL
 |0=>[]
 |j+1=>if i<=j then j::Hz i j else []
variable{i:Nat}
def B5{j:Nat}(h:j<=i):Hz i j=[]:=by
 cases j with
 |zero=>rfl
 |succ j=>rw[Hz,xac zO]
def sG{j:Nat}(h:i<=j):Hz i (j+1)=j::Hz i j:=by rw[Hz,xae h]
def Mh{i l:Nat}:∀{j},l∈Hz i j->i<=l/\l<j
 |0,h=>by simp[Hz]at h
 |j+1,h=>by
  by_cases e:i<=j
  ·rw[sG e]at h;rcases xak.1 h with rfl|h
   ·omega
   have:=Mh h;omega
  rw[B5 zO]at h;simp at h
def B4(i:Nat):∀j,(Hz i j).length=j-i
 |0=>by simp[Hz]
 |j+1=>by
  by_cases e:i<=j
  ·rw[sG e,xax,B4 i j];omega
  rw[B5 zO];simp;omega
def Mi{i k:Nat}:∀{j:Nat} {a:zL},i<=j->j<a.length->(k<=i->(aA a (Hz i j)).getD k 0=if k=i then a.getD j 0 else a.getD k 0)
 |0,a,hi,hj,hk=>by
  obtain rfl:i=0:=by omega
  obtain rfl:k=0:=by omega
  simp[Hz,aA]
 |j+1,a,hi,hj,hk=>by
  by_cases e:i<=j
  ·rw[sG e];show(aA (fV a j) (Hz i j)).getD k 0=_;rw[Mi (j:=j) e (by rw[mY];omega) hk,fI zO,fI zO];by_cases h:k=i
   ·subst h;simp
   rw[xac h,xac h,xac zO,xac zO]
  obtain rfl:i=j+1:=by omega
  rw[B5 (xai _)];show a.getD k 0=_;split
  ·rename_i h;rw[h]
  rfl
def plc(p:zL)(x:Nat):Nat:=p.idxOf x
def ew(p q:zL):Nat->zL
 |0=>[]
 |i+1=>ew p q i++Hz i (plc (aA p (ew p q i)) (q.getD i 0))
def Λ(p q:zL):zL:=ew p q q.length
def RZ{p:zL}{x:Nat}(h:x∈p):plc p x<p.length:=List.idxOf_lt_length_iff.2 h
def Ln{p:zL}{x:Nat}(h:x∈p):p.getD (plc p x) 0=x:=by have h1:=RZ h;rw[xas,xab h1];show p[p.idxOf x]=x;exact List.getElem_idxOf h1
variable{q:zL}
section
variable{p:zL}
def kx(hq:q.Nodup)(hp:p.Perm q):∀i,i<=q.length->(∀l∈ew p q i,l+1<p.length)/\(∀k,k<i->(aA p (ew p q i)).getD k 0=q.getD k 0)/\(i<q.length->i<=plc (aA p (ew p q i)) (q.getD i 0)/\plc (aA p (ew p q i)) (q.getD i 0)<p.length)
 |i,hi=>by
  have Ξ:=hp.length_eq;have base:(∀l∈ew p q i,l+1<p.length)/\(∀k,k<i->(aA p (ew p q i)).getD k 0=q.getD k 0):=by
   cases i with
   |zero=>exact⟨λl hl=>by simp[ew]at hl,λk hk=>absurd hk (xb9 _)⟩
   |succ i=>
    obtain⟨h1,h2,h3⟩:=kx hq hp i zO;obtain⟨h4,h5⟩:=h3 zO;have hm:q.getD i 0∈aA p (ew p q i):=by
     have:q.getD i 0∈q:=by rw[xas,xab (show i<q.length by omega)];exact xaK _
     exact((l8 h1).trans hp).mem_iff.2 this
    refine⟨λl hl=>?_,λk hk=>?_⟩
    ·rcases xao.1 hl with hl|hl
     ·exact h1 l hl
     have:=Mh hl;omega
    rw[ew,cq,Mi h4 (by rw[gf];exact h5) zO];split
    ·rename_i e;subst e;exact Ln hm
    exact h2 k zO
  refine⟨base.1,base.2,λη=>?_⟩;have hm:q.getD i 0∈aA p (ew p q i):=by
   have:q.getD i 0∈q:=by rw[xas,xab η];exact xaK _
   exact((l8 base.1).trans hp).mem_iff.2 this
  have h5:=RZ hm;rw[gf]at h5;refine⟨?_,h5⟩;refine xaD λuP=>?_;have:=base.2 _ (Nat.lt_of_not_le uP);rw[Ln hm]at this;have:=getD_inj hq η zO this;omega
def Bo(hq:q.Nodup)(hp:p.Perm q):aA p (Λ p q)=q/\∀l∈Λ p q,l+1<p.length:=by obtain⟨h1,h2,_⟩:=kx hq hp q.length (xai _);refine⟨EB (by rw[gf];exact hp.length_eq) λi hi=>h2 i ?_,h1⟩;rw[gf,hp.length_eq]at hi;exact hi
def ta(hq:q.Nodup)(hp:p.Perm q):∀i,i<=q.length->(ew p q i).length<=i*p.length
 |0,_=>by simp[ew]
 |i+1,hi=>by
  have:=ta hq hp i zO;obtain⟨_,_,h3⟩:=kx hq hp i zO;rw[ew,xaf,B4,xbr];have:=(h3 zO).2;omega
end
variable{l:Nat}
section
variable{G:Fn->Prop}{f c:Fn}
def Ak:∀l g,fs θ (λg=>F g\/G g) l g↔fs θ F l g\/fs θ G l g
 |0,g=>xcZ
 |l+1,g=>by
  constructor
  ·rintro⟨f,hf,b,rfl⟩;rcases(Ak l f).1 hf with h|h
   ·exact .inl ⟨f,h,b,rfl⟩
   exact .inr ⟨f,h,b,rfl⟩
  rintro(⟨f,hf,b,rfl⟩|⟨f,hf,b,rfl⟩)
  ·exact⟨f,(Ak l f).2 (.inl hf),b,rfl⟩
  exact⟨f,(Ak l f).2 (.inr hf),b,rfl⟩
def mj(g:Fn):aE n θ (λg=>F g\/G g) g↔aE n θ F g\/aE n θ G g:=by
 constructor
 ·rintro⟨l,hl,hf,hh⟩;rcases(Ak l g).1 hf with h|h
  ·exact .inl ⟨l,hl,h,hh⟩
  exact .inr ⟨l,hl,h,hh⟩
 rintro(⟨l,hl,hf,hh⟩|⟨l,hl,hf,hh⟩)
 ·exact⟨l,hl,(Ak l g).2 (.inl hf),hh⟩
 exact⟨l,hl,(Ak l g).2 (.inr hf),hh⟩
def cQ{v:Nat}(h:¬bW f v)(x:Nat)(b:Bool):f (aC x v b)=f x:=by
 have h0:f (aC x v false)=f (aC x v true):=xaD λξ=>h ⟨x,ξ⟩;have h1:=iE x v
 conv=>rhs;rw[<-h1]
 cases b<;>cases x.testBit v<;>simp[h0]
def BT(hi:∀j,j<l->¬bW f (θ.getD j 0)):∀k,k<=l->fs θ (λg=>g=f) k f
 |0,_=>rfl
 |k+1,hk=>⟨f,BT hi k zO,false,funext λx=>(cQ (hi k zO) x false).symm⟩
def vi(hi:∀j,j<l->¬bW f (θ.getD j 0)):∀k,k<=l->∀g,fs θ (λg=>g=f) k g->g=f
 |0,_,g,h=>h
 |k+1,hk,g,h=>by
  obtain⟨f',hf,b,rfl⟩:=h;obtain rfl:=vi hi k zO f' hf;exact funext λx=>cQ (hi k zO) x b
def j3(hi:∀j,j<l->¬bW f (θ.getD j 0)){b:Bool}(hc:c=λx=>f (aC x (θ.getD l 0) b)):
  (∀j,j<l+1->¬bW c (θ.getD j 0))/\∀g,aE n θ (λg=>g=c) g->aE n θ (λg=>g=f) g:=by
 have h1:fs θ (λg=>g=f) (l+1) c:=⟨f,BT hi l (xai _),b,hc⟩;have h2:∀j,j<l+1->¬bW c (θ.getD j 0):=λj hj=>xd (l+1) c h1 j hj;refine⟨h2,?_⟩;rintro g ⟨m,hm,hf,hh⟩;by_cases e:m<l+1
 ·obtain rfl:=vi h2 m zO g hf;exact absurd hh (h2 m e)
 have key:∀d g,fs θ (λg=>g=c) (l+1+d) g->fs θ (λg=>g=f) (l+1+d) g:=λd=>by
  induction d with
  |zero=>intro g hg;obtain rfl:=vi h2 (l+1) (xai _) g hg;exact h1
  |succ d ih=>rintro g ⟨f',Oj,b',rfl⟩;exact⟨f',ih f' Oj,b',rfl⟩
 obtain⟨d,rfl⟩:∃d,m=l+1+d:=⟨m-(l+1),by omega⟩;exact⟨_,hm,key d g hf,hh⟩
def pC(hi:∀j,j<l->¬bW f (θ.getD j 0))(hl:l<n)(hh:bW f (θ.getD l 0)):aE n θ (λg=>g=f) f:=⟨l,hl,BT hi l (xai _),hh⟩
end
variable{K:Kd}
section
variable{S:Nat->Fn}{ai:Nat->Nat}
def Ok.below(h:Ok K S ai)(ho:Ord K.n ai θ){r:Nat}(hr:live K.N r)(hl:l<=K.n)(hi:∀j,j<l->¬bW (S r) (θ.getD j 0)):l<=ι K.n ai K.N r:=by
 cases e:K.N r with
 |none=>rw[aV e];exact hl
 |some d=>
  rw[au e];refine xaD λη=>?_;have iL:ai d.v<l:=Nat.lt_of_not_le η;have:=hi _ iL;rw[ho.of h.lv (h.mid.var e)]at this;exact this (gA h.wf h.lv h.mid.int e)
def Ok.roomFor(h:Ok K S ai)(ho:Ord K.n ai θ){U:Fn->Prop}{k:Nat}(hk:nQ U k)(hfit:k+2<=K.cap)(hU:∀g,aE K.n θ (K.held S) g->U g){d:Nd}
 (hlo:live K.N d.lo)(hhi:live K.N d.hi)(ξ:d.lo≠d.hi)(hv:d.v<K.n)(η:ai d.v<ι K.n ai K.N d.lo/\ai d.v<ι K.n ai K.N d.hi)(hg:U (ite S d))(hT:K.T d=none):K.used<K.cap:=by
 have hs:=h.size ho;have hu:=h.mid.room;obtain⟨l1,a1,a2,a3⟩:=hs;have aaR:ite S d∉l1:=λhm=>by
  obtain⟨r,e,hr,he⟩:=(oo h.wf h.lv ho h.mid.int (λr hr=>.inr (h.mid.held r hr)) h.reach (ite S d)).1 ((a3 _).2 hm);have hTd:¬K.N r=some d:=λhN=>by
   have:=(h.mid.kK d r).2 ⟨hN,λx=>x⟩;rw[hT]at this;cases this
  apply hTd;have SY:S r=ite S d:=he.symm;have SS:e.v=d.v:=by
   have e1:=h.lv.lt e.v (h.mid.var hr);have e2:=h.lv.lt d.v hv;rcases xcu (ai e.v) (ai d.v)with hh|hh|hh
   ·exfalso;obtain⟨z,hz⟩:=gA h.wf h.lv h.mid.int hr;rw[SY]at hz;apply hz;unfold ite;have i1:=h.wf.bO h.lv h.mid.int hlo (h.mid.var hr) zO;have i2:=h.wf.bO h.lv h.mid.int hhi (h.mid.var hr) zO;have GY:d.v≠e.v:=λp6=>by rw[p6]at hh;omega
    simp only[ak,xac GY,i1,i2]
   ·exact h.lv.inj _ _ (h.mid.var hr) hv hh
   exfalso;have hx:=h.wf.bO h.lv h.mid.int (r:=r) (.inr ⟨e,hr⟩) hv (by rw[au hr];exact hh);apply ξ;refine h.wf.same h.lv h.mid.int hlo hhi λx=>?_;have i1:=h.wf.bO h.lv h.mid.int hlo hv η.1;have i2:=h.wf.bO h.lv h.mid.int hhi hv η.2;have q1:=hx x false;have q2:=hx x true;rw[SY]at q1 q2;have q3:=q1.trans q2.symm;unfold ite at q3;simp only[ak,xa5,i1,i2,xaR,xa2]at q3;exact q3
  have kM:∀(b:Bool) x,S (if b then e.hi else e.lo) x=S (if b then d.hi else d.lo) x:=λb x=>by
   rw[<-h.wf.child h.lv h.mid.int hr x b,SY,SS];have i1:=h.wf.bO h.lv h.mid.int hlo hv η.1;have i2:=h.wf.bO h.lv h.mid.int hhi hv η.2;unfold ite;rw[ak,xae rfl,i1,i2];cases b<;>rfl
  have e1:e.lo=d.lo:=h.wf.same h.lv h.mid.int (h.mid.lo hr) hlo λx=>kM false x;have e2:e.hi=d.hi:=h.wf.same h.lv h.mid.int (h.mid.hi hr) hhi λx=>kM true x;have hed:∀a b:Nd,a.v=b.v->a.lo=b.lo->a.hi=b.hi->a=b:=λa b h1 h2 h3=>by
   cases a;cases b;cases h1;cases h2;cases h3;rfl
  rw[hr,hed e d SS e1 e2]
 obtain⟨l2,b1,b2,b3⟩:=hk;have:=cz (l:=ite S d::l1) (l':=l2) (xaX.2 ⟨aaR,a1⟩) λg Fv=>by
  rcases xak.1 Fv with rfl|Fv
  ·exact(b3 _).1 hg
  exact(b3 _).1 (hU g ((a3 g).2 Fv))
 rw[xax]at this;omega
end
def er(N:eM)(v:Nat)(b:Bool)(r:Nat):Nat:=match N r with
 |some d=>if d.v=v then(if b then d.hi else d.lo)else r
 |none=>r
def jh(N:eM)(v:Nat)(b:Bool)(q:zL):zL:=q.map (er N v b)
structure uV(n:Nat)(ai:Nat->Nat)(N:eM)(q:zL)(v:Nat):Prop where
 lt:v<n
 ex:∃r∈q,∃d,N r=some d/\d.v=v
 le:∀r∈q,ai v<=ι n ai N r
inductive Tree(n:Nat)(ai:Nat->Nat)(N:eM):zL->Nat->Prop
 |leaf {q:zL} (h:∀r∈q,N r=none):Tree n ai N q 0
 |node {q:zL} {v a b:Nat} (h:uV n ai N q v) (ha:Tree n ai N (jh N v false q) a) (hb:Tree n ai N (jh N v true q) b):Tree n ai N q (a+b+1)
def uT(t:Bool->Bool->Bool->Bool)(S:Nat->Fn)(q:zL):Fn:=λx=>t (S (q.getD 0 0) x) (S (q.getD 1 0) x) (S (q.getD 2 0) x)
section
variable{ai:Nat->Nat}{N:eM}{S:Nat->Fn}{v:Nat}
def uV.uniq(hl:jY n ai){u:Nat}(h:uV n ai N q v)(h':uV n ai N q u):v=u:=by obtain⟨r,hr,d,hd,rfl⟩:=h.ex;obtain⟨s,hs,e,he,rfl⟩:=h'.ex;have a:=h.le s hs;have b:=h'.le r hr;rw[au he]at a;rw[au hd]at b;exact hl.inj _ _ h.lt h'.lt zO
def gy(h:WF n ai N)(hl:jY n ai)(hi:Interp N S){r:Nat}(hr:live N r)(hv:v<n)(hle:ai v<=ι n ai N r)(b:Bool):
  (∀x,S (er N v b r) x=S r (aC x v b))/\live N (er N v b r)/\ai v+1<=ι n ai N (er N v b r):=by
 have η:=hl.lt v hv;unfold er;cases e:N r with
 |none=>
  simp only;refine⟨λx=>?_,hr,by rw[aV e];omega⟩;exact(h.bO hl hi hr hv (by rw[aV e];exact η) x b).symm
 |some d=>
  simp only;rw[au e]at hle;by_cases ev:d.v=v
  ·rw[xae ev];subst ev;refine⟨λx=>(h.child hl hi e x b).symm,?_,?_⟩
   ·cases b
    ·exact(h.lo e).1
    exact(h.hi e).1
   cases b
   ·exact(h.lo e).2
   exact(h.hi e).2
  rw[xac ev];have ξ:ai v≠ai d.v:=λe2=>ev (hl.inj _ _ (h.var e) hv e2.symm);refine⟨λx=>(h.bO hl hi hr hv (by rw[au e];omega) x b).symm,hr,by rw[au e];omega⟩
def UA(b:Bool):(jh N v b q).length=q.length:=by simp[jh]
variable{b:Bool}
def UB(hi:i<q.length):(jh N v b q).getD i 0=er N v b (q.getD i 0):=by simp[jh,List.getD,xab hi]
def pV(h:WF n ai N)(hl:jY n ai)(hi:Interp N S)(hq:∀r∈q,live N r)(ht:uV n ai N q v)(b:Bool):
  (∀r∈jh N v b q,live N r)/\(∀r∈jh N v b q,ai v+1<=ι n ai N r):=by
 constructor
 ·intro r hr;obtain⟨s,hs,rfl⟩:=xal.1 hr;exact(gy h hl hi (hq s hs) ht.lt (ht.le s hs) b).2.1
 intro r hr;obtain⟨s,hs,rfl⟩:=xal.1 hr;exact(gy h hl hi (hq s hs) ht.lt (ht.le s hs) b).2.2
def L4(h:WF n ai N)(hl:jY n ai)(hi:Interp N S)(h3:q.length=3)(hq:∀r∈q,live N r)(ht:uV n ai N q v)(t:Bool->Bool->Bool->Bool)(b:Bool):uT t S (jh N v b q)=λx=>uT t S q (aC x v b):=by
 funext x
 have key:∀i,i<3->S ((jh N v b q).getD i 0) x=S (q.getD i 0) (aC x v b):=λi hi3=>by
  have hi':i<q.length:=by omega
  rw[UB hi'];have hm:q.getD i 0∈q:=by rw[xas,xab hi'];exact xaK _
  exact(gy h hl hi (hq _ hm) ht.lt (ht.le _ hm) b).1 x
 unfold uT;rw[key 0 zO,key 1 zO,key 2 zO]
def An(h:WF n ai N)(hl:jY n ai)(hi:Interp N S)(ho:Ord n ai θ)(h3:q.length=3)(hq:∀r∈q,live N r)(yI:l<=n)(hle:∀r∈q,l<=ι n ai N r)(t:Bool->Bool->Bool->Bool):∀j,j<l->¬bW (uT t S q) (θ.getD j 0):=by
 rintro j hj ⟨x,hx⟩;apply hx;obtain⟨o1,o2⟩:=ho.bg j zO;have key:∀i,i<3->∀b,S (q.getD i 0) (aC x (θ.getD j 0) b)=S (q.getD i 0) x:=λi hi3 b=>by
  have hi':i<q.length:=by omega
  have hm:q.getD i 0∈q:=by rw[xas,xab hi'];exact xaK _
  exact h.bO hl hi (hq _ hm) o1 (by rw[o2];exact xaP hj (hle _ hm)) x b
 unfold uT;simp only[key 0 zO,key 1 zO,key 2 zO]
def OB(hi:Interp N S)(h3:q.length=3)(hq:∀r∈q,r<2)(t:Bool->Bool->Bool->Bool)(x:Nat):uT t S q x=t (decide (q.getD 0 0=1)) (decide (q.getD 1 0=1)) (decide (q.getD 2 0=1)):=by
 have key:∀i,i<3->S (q.getD i 0) x=decide (q.getD i 0=1):=λi hi3=>by
  have hi':i<q.length:=by omega
  have hm:q.getD i 0∈q:=by rw[xas,xab hi'];exact xaK _
  have:=hq _ hm;have h2:q.getD i 0=0\/q.getD i 0=1:=by omega
  rcases h2 with e|e<;>rw[e]
  ·rw[hi.zero];rfl
  rw[hi.one];rfl
 unfold uT;rw[key 0 zO,key 1 zO,key 2 zO]
def Rf(h:WF n ai N):∀{q:zL},(∃r∈q,∃d,N r=some d)->(hl:jY n ai)->∃v,uV n ai N q v
 | [],he,_=>by obtain⟨r,hr,_⟩:=he;cases hr
 |s::q,he,hl=>by
  by_cases hq:∃r∈q,∃d,N r=some d
  ·obtain⟨v,hv⟩:=Rf h hq hl;cases es:N s with
   |none=>
    refine⟨v,hv.lt,?_,λr hr=>?_⟩
    ·obtain⟨r,hr,x⟩:=hv.ex;exact⟨r,by simp[hr],x⟩
    rcases xak.1 hr with rfl|hr
    ·rw[aV es];exact xce (hl.lt v hv.lt)
    exact hv.le r hr
   |some d=>
    by_cases η:ai d.v<=ai v
    ·refine⟨d.v,h.var es,⟨s,by simp,d,es,rfl⟩,λr hr=>?_⟩;rcases xak.1 hr with rfl|hr
     ·rw[au es];exact xai _
     exact xbT η (hv.le r hr)
    refine⟨v,hv.lt,?_,λr hr=>?_⟩
    ·obtain⟨r,hr,x⟩:=hv.ex;exact⟨r,by simp[hr],x⟩
    rcases xak.1 hr with rfl|hr
    ·rw[au es];omega
    exact hv.le r hr
  obtain⟨r,hr,d,hd⟩:=he;rcases xak.1 hr with rfl|hr
  ·refine⟨d.v,h.var hd,⟨r,by simp,d,hd,rfl⟩,λs hs=>?_⟩;rcases xak.1 hs with rfl|hs
   ·rw[au hd];exact xai _
   have:N s=none:=by
    cases e:N s with
    |none=>rfl
    |some d'=>exact absurd ⟨s,hs,d',e⟩ hq
   rw[aV this];exact xce (hl.lt _ (h.var hd))
  exact absurd ⟨r,hr,d,hd⟩ hq
def Wa(h:WF n ai N)(hl:jY n ai)(hi:Interp N S):∀(k l:Nat) (q:zL),n-l<=k->l<=n->(∀r∈q,live N r)->(∀r∈q,l<=ι n ai N r)->∃c,Tree n ai N q c/\c+1<=2^(n-l):=by
 intro k;induction k with
 |zero=>
  intro l q hk yI hq hd;refine⟨0,.leaf λr hr=>?_,xer⟩;cases e:N r with
  |none=>rfl
  |some d=>have:=hd r hr;rw[au e]at this;have:=hl.lt _ (h.var e);omega
 |succ k ih=>
  intro l q hk yI hq hd;by_cases he:∃r∈q,∃d,N r=some d
  ·obtain⟨v,hv⟩:=Rf h he hl;have hlv:=hl.lt v hv.lt;have nL:l<=ai v:=by
    obtain⟨r,hr,d,dF,rfl⟩:=hv.ex;have:=hd r hr;rwa [au dF]at this
   obtain⟨f1,f2⟩:=pV (S:=S) h hl hi hq hv false;obtain⟨t1,t2⟩:=pV (S:=S) h hl hi hq hv true;obtain⟨a,ha,q9⟩:=ih (ai v+1) _ zO hlv f1 f2;obtain⟨b,hb,uj⟩:=ih (ai v+1) _ zO hlv t1 t2;refine⟨a+b+1,.node hv ha hb,?_⟩;have e1:2^(n-ai v)=2*2^(n-(ai v+1)):=by
    rw[show n-ai v=(n-(ai v+1))+1 by omega,xee,xcn]
   have e2:2^(n-ai v)<=2^(n-l):=xaA zD zO;omega
  refine⟨0,.leaf λr hr=>?_,xer⟩;cases e:N r with
  |none=>rfl
  |some d=>exact absurd ⟨r,hr,d,e⟩ he
def nf(N:eM)(v:Nat)(b:Bool)(q:zL)(i:Nat):zL:=(jh N v b q).take i++q.drop i
def DT(hi:i<=q.length):(nf N v b q i).length=q.length:=by simp[nf,jh];omega
def zl(b:Bool):nf N v b q 0=q:=by simp[nf]
def Sj(b:Bool):nf N v b q q.length=jh N v b q:=by unfold nf;rw[xcD (by rw[UA];exact xai _),xeF,xaI]
def td{r:Nat}(hr:q[i]? =some r):(nf N v b q i).set i (er N v b r)=nf N v b q (i+1):=by
 have hi:=(xah.1 hr).1;have he:=(xah.1 hr).2;have hl:((jh N v b q).take i).length=i:=by simp[jh];omega
 have hc:(jh N v b q)[i]? =some (er N v b r):=by simp[jh,hr]
 unfold nf;rw[xcl _ _ zO,hl,xcX,xbt hi,xcH,xbg,hc,xag];rfl
def zm{r:Nat}(hr:q[i]? =some r)(h:er N v b r=r):nf N v b q (i+1)=nf N v b q i:=by
 rw[<-td hr,h];have hi:=(xah.1 hr).1;have he:=(xah.1 hr).2;have hl:((jh N v b q).take i).length=i:=by simp[jh];omega
 unfold nf;rw[xcl _ _ zO,hl,xcX,xbt hi,xcH,he]
end
end ax
set_option maxRecDepth 100000
namespace Go.Proofs
open Go Go.Sx Tryz
section
open ax
noncomputable instance {K:Kd}{S:Nat->ax.Fn}{θ:zL}{l:Nat}:Decidable (js K S θ l):=Nat.decLe _ _
noncomputable def rm(K:Kd)(S:Nat->ax.Fn):Rm:=⟨K.n,cK K S,λθ l=>decide (js K S θ l)⟩
def qR{K:Kd}{S:Nat->ax.Fn}{θ:zL}{l:Nat}:(rm K S).fit θ l=true↔js K S θ l:=by show decide (js K S θ l)=true↔_;exact decide_eq_true_iff
def Box(kp b1 mJ:Nat)(cs:zL)(B:Hp):Prop:=∃vc Cc,B=(b1,.cells #[γ kp] 53 zZ)::(mJ,.cells #[vc] 43 zZ)::Cc/\aL 3 .i64 vc (iw cs) Cc
section
variable {kp b1 mJ w p:Nat} {K:Kd} {S:Nat->ax.Fn} {θ tr:zL} {B C:Hp}
theorem Q4(hB:Box kp b1 mJ (mI w) B)(h:At kp K S θ tr C)(hp:p+w<=K.n)(fm:tr.length<17454747090944):
  Fc zQ 173 #[iv (p:Int),γ b1,γ mJ] (B++C) (λv H=>v=iv ((((rm K S).visit w p θ).2:Nat):Int)/\∃C',H=B++C'/\At kp K S (aA θ ((rm K S).visit w p θ).1) (tr++((rm K S).visit w p θ).1) C'):=by
 obtain⟨vc,Cc,rfl,hc⟩:=hB;have hn:=h.mq;have Ξ:=h.len;have fX:=Mg w
 let m:=rm K S
 let Λ:=m.dJ p (mI w) θ
 have Ab:Λ.length<=(mI w).length:=m.mF p _ _;have S7:∀l∈Λ,l+1<K.n:=λl hl=>by
  obtain⟨c,hc,rfl⟩:=m.Eo p hl;have:=Hv hc;omega
 let P0:Hp->Hp:=λX=>(b1,.cells #[γ kp] 53 zZ)::(mJ,.cells #[vc] 43 zZ)::(Cc++X)
 refine aJ λg=>JA ?_;rw[xaS,xaS];refine DR.self (Ld.q ?_);refine Ld.q ?_;refine ae.eq (sH h) (⟨.refl _,?_⟩);refine ae.eq (cI h) (⟨.refl _,?_⟩);intro J8 hJ8;have fin:∀C2,At kp K S (aA θ Λ) (tr++Λ) C2->J8 [iv ((m.keep θ Λ Λ.length:Nat):Int),iv ((Λ.length:Nat):Int)] (P0 C2):=λC2 h2=>by
  refine hJ8 _ _ _ λgs=>?_;refine Ld.q ?_;have hk:=m.BA θ Λ Λ.length;refine ah.fT (ae.fq (Mm h2 S7 hk (by rw[xaf];omega)) ?_);rintro v C' ⟨rfl,h3⟩;exact Ext.two (ah.fT (aQ.here ⟨rfl,C',by simp only[xaS],h3⟩))
 refine Ld.q ?_;refine hc.bL ?_;rw[av];refine⟨λvs H=>∃i C2,i<=Λ.length/\vs=[iv ((cK K S (aA θ (Λ.take (m.keep θ Λ i))):Nat):Int),iv ((m.keep θ Λ i:Nat):Int),iv (i:Int),iv (i:Int)]/\H=P0 C2/\At kp K S (aA θ (Λ.take i)) (tr++Λ.take i) C2,
  λvs _=>(mI w).length-bH vs 3,JE.mk ⟨0,C,xaL _,rfl,rfl,by simpa[aA]using h⟩,?_⟩
 rintro w26 w27 w28 w29 H ⟨i,C2,hi,hw,rfl,h2⟩ gs;simp only[xaw,xaW]at hw;obtain⟨rfl,rfl,rfl,rfl⟩:=hw;refine ah.eA (Br.dec (λη=>?_) (λη=>?_));rotate_left
 ·obtain rfl:i=Λ.length:=by omega
  rw[xa7]at h2;exact JE.mk (fin C2 h2)
 intro J31 TX;have qp:(mI w)[i]? =some (mI w)[i]:=xab η;have G4:(mI w)[i]+2<=w:=Hv (xaK _);refine hc.ld (x:=(((mI w)[i]:Nat):Int)) (by rw[bM η,List.getD,qp];rfl) (bE.sub (.cons (.cons .left))) (Ld.q ?_);refine ah.fT ?_;by_cases BI:i=Λ.length
 ·-- no room
  subst BI;rw[xa7]at h2;have Γ:¬js K S (aA θ Λ) (p+(mI w)[Λ.length]):=λhf=>by
   have:=m.wX p (mI w) θ _ qp;have h9:=qR.2 hf;rw[show(rm K S).fit (aA θ Λ) (p+(mI w)[Λ.length])=false from this]at h9;cases h9
  refine ae.eq (ZQ h2 zO (by rw[xaf];omega) Γ) (Ext.two λb46 _=>(St.q ?_));exact ah.cM (Br.T (JE.of .tail (fin C2 h2)))
 have Tj:i<Λ.length:=by omega
 obtain⟨e1,c',e2,hf⟩:=m.sn p (mI w) θ i Tj;rw[qp]at e1 e2;cases e2;have SR:js K S (aA θ (Λ.take i)) (p+(mI w)[i]):=qR.1 hf;have nT:Λ.take (i+1)=Λ.take i++[p+(mI w)[i]]:=by
  rw[xbg,show Λ[i]? =some (p+(mI w)[i])from e1];rfl
 refine ae.fq (ZP h2 zO (by rw[xaf,xbI];omega) SR) ?_;rintro v C3 ⟨rfl,h3⟩;rw[<-gH,xag,<-nT]at h3;refine Ext.two λb46 _=>(St.q ?_);refine ah.cM (Br.F (ah.inc (Ld.f ?_)));rw[<-gH,<-nT];refine ah.eA (Br.dec (λuP=>?_) (λuP=>?_))
 ·have hk:m.keep θ Λ (i+1)=i+1:=by rw[Rm.keep];exact xae uP
  refine aj.mk (Ld.mk (v:=iv ((cK K S (aA θ (Λ.take (i+1))):Nat):Int)) (by exact .head _) rfl ?_);refine JE.mk (TX _ _ _ _ λgs=>?_);refine ah.inc (aD.of .tail ⟨i+1,C3,Tj,by rw[hk],rfl,h3⟩ ?_);show(mI w).length-(((i+1:Nat):Int).toNat)<(mI w).length-(((i:Nat):Int).toNat);omega
 have hk:m.keep θ Λ (i+1)=m.keep θ Λ i:=by rw[Rm.keep];exact xac uP
 refine JE.mk (TX _ _ _ _ λgs=>?_);refine ah.inc (aD.of .tail ⟨i+1,C3,Tj,by rw[hk],rfl,h3⟩ ?_);show(mI w).length-(((i+1:Nat):Int).toNat)<(mI w).length-(((i:Nat):Int).toNat);omega
end
end
section
open ax
def rep(b a s:Nat):zV:=.agg #[iv (b:Int),iv (a:Int),iv (s:Int),.bool false]
def m5(b1 mJ b a s:Nat):Array zV:=#[.func (.func 173) #[] #[γ b1,γ mJ],iv (b:Int),iv (a:Int),iv (s:Int),.bool false]
def Pass(pp kp w b a s:Nat)(B:Hp):Prop:=∃b1 mJ B',B=(pp,.cells (m5 b1 mJ b a s) 170 zZ)::B'/\Box kp b1 mJ (mI w) B'
section
variable {pp kp w p bf af sw:Nat} {K:Kd} {S:Nat->ax.Fn} {θ tr:zL} {B C:Hp}
def MR(kp:Nat)(w:Int)(C:Hp):Rd zQ 112 #[γ kp,iv w] C (· =iv (if w<2\/4<w then 1 else 0)):=by refine aJ λg=>Kx (ah.aK (Br.no (ah.lss (dh.or (decide (4<w)) (λ_=>ah.gtr ⟨rfl,rfl⟩) zI λgs=>?_))));rw[<-xa6];exact Br.dec (λh=>br.mk (.refl _) (by rw[xae h])) (λh=>br.mk (.refl _) (by rw[xac h]))
theorem UP(h:At kp K S θ tr C)(hw:2<=w/\w<=4):Fc zQ 113 #[γ kp,iv (w:Int)] C (λv H=>∃pp B,v=γ pp/\H=B++C/\Pass pp kp w (cK K S θ) (cK K S θ) 0 B):=by
 refine aJ λg=>Kw λb1 _=>?_;refine DR.self (Ld.q ?_);refine Ld.q ?_;refine ae.eq (cI h) (⟨.refl _,?_⟩);refine ae.eq (cI h) (⟨.refl _,?_⟩);refine Build.mk (cs:=[iv ((cK K S θ:Nat):Int),iv ((cK K S θ:Nat):Int),iv 0,.bool false]) zK (Build.mk (cs:=[.nilFunc,iv ((cK K S θ:Nat):Int),iv ((cK K S θ:Nat):Int),iv 0,.bool false]) zK λVQ _=>?_);refine⟨.tail,?_⟩;refine ae.fn hnew (Hw hw) ?_;rintro v Cc ⟨s,rfl,hc⟩;obtain⟨sa,sl,sc,rfl⟩:∃a l c,s=Value.slice a l c:=by obtain⟨a,c,h⟩:=aU.len hc;exact⟨a,_,c,h⟩
 refine Ext.two λmJ _=>(St.one (c':=#[.slice sa sl sc]) (by exact .head _) rfl zI rfl ?_);refine Nil.γ (aj.mk (St.one (c':=m5 b1 mJ (cK K S θ) (cK K S θ) 0) (by repeat (first|exact df.head _|apply df.tail|apply df.cf)) rfl (by simp[Value.cells]) rfl ?_));refine aQ.mk (mS:=((VQ,.cells (m5 b1 mJ (cK K S θ) (cK K S θ) 0) 170 zZ)::(b1,.cells #[γ kp] 53 zZ)::(mJ,.cells #[.slice sa sl sc] 43 zZ)::Cc)++C) (.perm ?_) ⟨VQ,_,rfl,rfl,b1,mJ,_,rfl,_,Cc,rfl,hc⟩;refine(List.Perm.cons _ (xaO.trans (List.Perm.cons _ xaO))).trans ?_;refine(List.Perm.swap _ _ _).trans (List.Perm.cons _ (List.Perm.swap _ _ _))
theorem afb(hB:Pass pp kp w bf af sw B)(h:At kp K S θ tr C)(hp:p+w<=K.n)(fm:tr.length<17454747090944)(hs:sw<4611686018427387904):
  Fc zQ 177 #[γ pp,γ kp,iv (p:Int)] (B++C) (λv H=>v=.tuple #[]/\∃B' C',H=B'++C'/\Pass pp kp w bf (cK K S (aA θ ((rm K S).visit w p θ).1)) (sw+((rm K S).visit w p θ).2) B'/\At kp K S (aA θ ((rm K S).visit w p θ).1) (tr++((rm K S).visit w p θ).1) C'):=by
 obtain⟨b1,mJ,B',rfl,hb⟩:=hB;have hv:=((rm K S).sP w p θ).2;refine aJ λg=>Jx (DR.of (R:=[(pp,.cells (m5 b1 mJ bf af sw) 170 zZ)]) (.cons .nil) (Nil.γ (aj.mk (Ld.f ?_))));refine Ld.n ?_;refine aM.of rfl zK (ae.fq (args:=#[iv (p:Int),γ b1,γ mJ]) (Q4 hb h hp fm) ?_);rintro v H ⟨rfl,C',rfl,h'⟩;refine⟨.cons .nil,?_⟩;refine ah.fT (Nil.γ (aj.mk (aj.mk (St.one (c':=m5 b1 mJ bf af (sw+((rm K S).visit w p θ).2)) (by exact .head _) rfl (by simp[m5]) rfl ?_))));refine ae.eq (cI h') (Nil.γ (aj.mk (aj.mk (St.one (c':=m5 b1 mJ bf (cK K S (aA θ ((rm K S).visit w p θ).1)) (sw+((rm K S).visit w p θ).2)) (by exact .head _) rfl (by simp[m5]) rfl ?_))));exact aQ.here ⟨rfl,_::B',C',rfl,⟨b1,mJ,B',rfl,hb⟩,h'⟩
theorem VX(hB:Pass pp kp w bf (cK K S θ) sw B)(h:At kp K S θ tr C)(hw:2<=w/\w<=4)(fm:tr.length<17317308137472)(hs:sw<2305843009213693952):
  Fc zQ 114 #[γ pp,γ kp,iv (w:Int)] (B++C) (λv H=>v=.tuple #[]/\∃B' C',H=B'++C'/\Pass pp kp w bf (cK K S (aA θ ((rm K S).pass w θ).1)) (sw+((rm K S).pass w θ).2) B'/\At kp K S (aA θ ((rm K S).pass w θ).1) (tr++((rm K S).pass w θ).1) C'):=by
 have hn:=h.mq;refine aJ λg=>Kv ?_;refine⟨λvs H=>∃i B' C',i<=K.n+1-w/\vs=[iv ((i:Nat):Int)]/\H=B'++C'/\Pass pp kp w bf (cK K S (aA θ ((rm K S).all w θ i).1)) (sw+((rm K S).all w θ i).2) B'/\At kp K S (aA θ ((rm K S).all w θ i).1) (tr++((rm K S).all w θ i).1) C',
  λvs _=>K.n+1-bH vs 0,JE.mk ⟨0,B,C,xaL _,rfl,rfl,by simpa[Rm.all,aA]using hB,by simpa[Rm.all,aA]using h⟩,?_⟩
 rintro w5 H ⟨i,B',C',hi,⟨⟩,rfl,hp,ha⟩ gs;have QJ:=(rm K S).Mr w θ i;refine ah.fT (ae.eq (ny ha) (ah.By (Br.dec (λhle=>?_) (λhle=>?_))))
 ·refine ae.fq (afb hp ha zO (by rw[xaf];omega) zO) ?_;rintro v H ⟨rfl,B2,C2,rfl,nq,q9⟩;rw[<-cq,xag,xcq]at*;refine ah.inc (aD.of (.refl _) ⟨i+1,B2,C2,by omega,rfl,rfl,by rw[Rm.all_succ];exact nq,by rw[Rm.all_succ];exact q9⟩ ?_);show K.n+1-(((i+1:Nat):Int).toNat)<K.n+1-(((i:Nat):Int).toNat);omega
 obtain rfl:i=K.n+1-w:=by omega
 exact aQ.here ⟨rfl,B',C',rfl,hp,ha⟩
end
section
variable {pp kp w p bf af sw:Nat} {K:Kd} {S:Nat->ax.Fn} {θ tr:zL} {B C:Hp}
theorem Yp(h:At kp K S θ tr C)(hw:2<=w/\w<=4)(fm:tr.length<17317308137472):
  Fc zQ 80 #[γ kp,iv (w:Int)] C (λv H=>v=.tuple #[rep (cK K S θ) (cK K S (aA θ ((rm K S).pass w θ).1)) ((rm K S).pass w θ).2,iv 0]/\At kp K S (aA θ ((rm K S).pass w θ).1) (tr++((rm K S).pass w θ).1) H):=by
 have hn:=h.mq;refine aJ λg=>Pn λb1 _=>?_;refine ae.eq (MR kp w C) ?_;rw[xac zO];refine ah.cM (Br.F (ae.fq (UP h hw) ?_));rintro v H ⟨pp,B,rfl,rfl,hB⟩;refine ae.fq (VX hB h hw fm zO) ?_;rintro v H ⟨rfl,B',C',rfl,hB',h'⟩;rw[xa1]at hB';obtain⟨x1,x18,B2,rfl,hb⟩:=hB';refine Nil.γ (aj.mk (aB.mk (vs:=#[iv ((cK K S θ:Nat):Int),iv ((cK K S (aA θ ((rm K S).pass w θ).1):Nat):Int),iv ((((rm K S).pass w θ).2:Nat):Int),.bool false]) (by exact .tail _ (.head _)) (by simp[m5]) rfl ?_));refine St.q ?_;refine aB.q ?_;exact aQ.mk (.skip .right) ⟨rfl,h'⟩
end
def bM{ws:zL}{i:Nat}(h:i<ws.length):(iw ws)[i]? =some ((ws.getD i 0:Nat):Int):=by rw[dk (w:=ws.getD i 0)];rw[xas,xab h];rfl
def sb{B:Hp}{v1 v2:zV}{a b:List Int}(h1:di .i64 B v1 a)(h2:di .i64 B v2 b)(cB:a.length<4611686018427387904):Rd zQ 17 #[v1,v2] B (· =.bool (decide (a=b))):=by
 refine aJ λg=>Qj (h1.bL (h2.bL ?_));refine ah.Cu (Br.dec (λξ=>br.mk (.refl _) (by rw[xan (λe=>ξ (by rw[e]))])) (λheq=>?_));have hl:a.length=b.length:=by omega
 refine⟨λvs H=>∃i:Nat,vs=[iv (i:Int)]/\H=B/\i<=a.length/\∀j,j<i->a[j]? =b[j]?,λvs _=>a.length-bH vs 0,JE.mk ⟨0,rfl,rfl,xaL _,λj hj=>absurd hj (xb9 _)⟩,?_⟩;rintro w H ⟨i,⟨⟩,rfl,hi,hq⟩ gs;refine h1.bL (ah.eA (Br.dec (λη=>?_) (λη=>?_)))
 ·apply h1.ld (xab η) (λ_ h=>h);apply h2.ld (xab (show i<b.length by omega)) (λ_ h=>h);refine ah.cM (Br.dec (λξ=>br.mk (.refl _) ?_) (λheq=>?_))
  ·rw[xan];intro e;subst e;exact ξ rfl
  refine ah.inc (aD.of (.refl _) ⟨i+1,rfl,rfl,η,λj hj=>?_⟩ (by show a.length-(((i+1:Nat):Int).toNat)<a.length-(((i:Nat):Int).toNat);omega));by_cases e:j=i
  ·subst e;rw[xab η,xab (show j<b.length by omega),xdr.1 heq]
  exact hq j zO
 apply br.mk (.refl _);rw[xam];apply xba λj=>?_;by_cases hj:j<i
 ·exact hq j hj
 rw[xaB zO,xaB zO]
def adm(n:Nat)(p:List Int):Prop:=p.length=n/\∀v:Nat,v<n->p.count (v:Int)=1
instance (n:Nat)(p:List Int):Decidable (adm n p):=by unfold adm;infer_instance
def SO{p:List Int}{x:Int}{i:Nat}(h:x∉p.take i)(hi:i<p.length)(he:p[i]=x):p.idxOf x=i:=by
 have e:p=p.take i++p[i]::p.drop (i+1):=by
  conv=>lhs;rw[<-xbs i p]
  rw[xbt hi]
 conv=>lhs;rw[e]
 rw[List.idxOf_append,xac h,he,List.idxOf_cons_self,xbI];omega
def o8(p:List Int):Prop:=∀v:Nat,v<p.length->(v:Int)∈p
def xL{p:zL}{n:Nat}(hp:p.Perm (List.range n)):o8 (iw p):=λv hv=>by
 rw[av,hp.length_eq,xaF]at hv;exact xal.2 ⟨v,hp.mem_iff.2 (xaN.2 hv),rfl⟩
def aai{q:zL}{x:Nat}:(x:Int)∈iw q↔x∈q:=by unfold iw;rw[xal];exact⟨λ⟨y,hy,e⟩=>by rw[<-Int.ofNat.inj e];exact hy,λh=>⟨x,h,rfl⟩⟩
def aax(q:zL)(x:Nat):(iw q).idxOf (x:Int)=q.idxOf x:=by
 induction q with
 |nil=>rfl
 |cons y q ih=>
  show(((y:Nat):Int)::iw q).idxOf (x:Int)=_;rw[List.idxOf_cons,List.idxOf_cons,ih];have:(((y:Nat):Int)==(x:Int))=(y==x):=by
   rw[xbH];simp[xeJ]
  rw[this]
def BX(a k:Nat):decide ((a>>>k)%2=1)=a.testBit k:=by
 cases hb:a.testBit k
 ·rw[xan];rw[an.Mj,hb];simp
 rw[xam];rw[an.Mj,hb]
def T8{θ:zL}{F G:ax.Fn->Prop}(h:∀g,F g->G g):∀l g,fs θ F l g->fs θ G l g
 |0,g,hg=>h g hg
 |l+1,g,⟨f,hf,b,e⟩=>⟨f,T8 h l f hf,b,e⟩
def aX{n:Nat}{θ:zL}{F G:ax.Fn->Prop}(h:∀g,F g->G g){g:ax.Fn}(hg:aE n θ F g):aE n θ G g:=let ⟨l,a,b,c⟩:=hg;⟨l,a,T8 h l g b,c⟩
structure gn(K:Kd)(S:Nat->ax.Fn)(K':Kd)(S':Nat->ax.Fn)(f:ax.Fn)(r:Nat):Prop where
 n:K'.n=K.n
 cap:K'.cap=K.cap
 N:∀s d,K.N s=some d->K'.N s=some d
 fn:∀s,live K.N s->S' s=S s
 live:live K'.N r
 is:S' r=f
 hold:∀s,K'.hold s=K.hold s+if s=r/\2<=r then 1 else 0
def bC{N N':eM}(h:∀s d,N s=some d->N' s=some d){s:Nat}(hs:live N s):live N' s:=by
 rcases hs with hs|⟨d,hd⟩
 ·exact .inl hs
 exact .inr ⟨d,h s d hd⟩
def kA{K K5:Kd}{S S5:Nat->ax.Fn}{ai:Nat->Nat}(hK:Ok K S ai)(LU:Ok K5 S5 ai)(hold:∀s,K.hold s≠0->K5.hold s≠0)(h3:∀s d d',K.N s=some d->K5.N s=some d'->d'=d):
  ∀(k s:Nat) (d:Nd),K.N s=some d->ai d.v<=k->K5.N s=some d:=by
 intro k;induction k with
 |zero=>
  intro s d hd hl;have fin:live K5.N s->K5.N s=some d:=λhs=>by
   rcases hs with hs|⟨d',dF⟩
   ·have:=(hK.mid.two hd).1;omega
   rw[dF,h3 s d d' hd dF]
  rcases hK.reach s d hd with h|⟨p,e,hp,he⟩
  ·exact fin (.inr (LU.mid.held s (hold s h)))
  have h1:=hK.wf.lo hp;have h2:=hK.wf.hi hp;rcases he with rfl|rfl
  ·have:=h1.2;rw[au hd]at this;omega
  have:=h2.2;rw[au hd]at this;omega
 |succ k ih=>
  intro s d hd hl;have fin:live K5.N s->K5.N s=some d:=λhs=>by
   rcases hs with hs|⟨d',dF⟩
   ·have:=(hK.mid.two hd).1;omega
   rw[dF,h3 s d d' hd dF]
  rcases hK.reach s d hd with h|⟨p,e,hp,he⟩
  ·exact fin (.inr (LU.mid.held s (hold s h)))
  have h1:=hK.wf.lo hp;have h2:=hK.wf.hi hp;rcases he with rfl|rfl
  ·have:=h1.2;rw[au hd]at this;exact fin (LU.mid.lo (ih p e hp zO))
  have:=h2.2;rw[au hd]at this;exact fin (LU.mid.hi (ih p e hp zO))
def gn.held{K K':Kd}{S S':Nat->ax.Fn}{f:ax.Fn}{r:Nat}(h:gn K S K' S' f r)(hm:∀s,K.hold s≠0->ax.live K.N s)(g:ax.Fn)(hg:K'.held S' g):K.held S g\/g=f:=by
 obtain⟨s,hs,rfl⟩:=hg;by_cases h0:K.hold s=0
 ·right;have:=h.hold s;have μ:K'.hold s≠0:=hs;rw[h0]at this;by_cases e:s=r/\2<=r
  ·rw[e.1];exact h.is
  rw[xac e]at this;omega
 exact .inl ⟨s,h0,h.fn s (hm s h0)⟩
end
end Go.Proofs
namespace ax
open an
variable{K:Kd}
section
variable{S:Nat->Fn}{ai:Nat->Nat}
def Ok.WO(h:Ok K S ai){d e:Nd}{r:Nat}
 (hlo:live K.N d.lo)(hhi:live K.N d.hi)(ξ:d.lo≠d.hi)(hv:d.v<K.n)(η:ai d.v<ι K.n ai K.N d.lo/\ai d.v<ι K.n ai K.N d.hi)(hr:K.N r=some e)(SY:S r=ite S d):e=d:=by
 have SS:e.v=d.v:=by
  have e1:=h.lv.lt e.v (h.mid.var hr);have e2:=h.lv.lt d.v hv;rcases xcu (ai e.v) (ai d.v)with hh|hh|hh
  ·exfalso;obtain⟨z,hz⟩:=gA h.wf h.lv h.mid.int hr;rw[SY]at hz;apply hz;unfold ite;have i1:=h.wf.bO h.lv h.mid.int hlo (h.mid.var hr) zO;have i2:=h.wf.bO h.lv h.mid.int hhi (h.mid.var hr) zO;have GY:d.v≠e.v:=λp6=>by rw[p6]at hh;omega
   simp only[ak,xac GY,i1,i2]
  ·exact h.lv.inj _ _ (h.mid.var hr) hv hh
  exfalso;have hx:=h.wf.bO h.lv h.mid.int (r:=r) (.inr ⟨e,hr⟩) hv (by rw[au hr];exact hh);apply ξ;refine h.wf.same h.lv h.mid.int hlo hhi λx=>?_;have i1:=h.wf.bO h.lv h.mid.int hlo hv η.1;have i2:=h.wf.bO h.lv h.mid.int hhi hv η.2;have q1:=hx x false;have q2:=hx x true;rw[SY]at q1 q2;have q3:=q1.trans q2.symm;unfold ite at q3;simp only[ak,xa5,i1,i2,xaR,xa2]at q3;exact q3
 have kM:∀(b:Bool) x,S (if b then e.hi else e.lo) x=S (if b then d.hi else d.lo) x:=λb x=>by
  rw[<-h.wf.child h.lv h.mid.int hr x b,SY,SS];have i1:=h.wf.bO h.lv h.mid.int hlo hv η.1;have i2:=h.wf.bO h.lv h.mid.int hhi hv η.2;unfold ite;rw[ak,xae rfl,i1,i2];cases b<;>rfl
 have e1:e.lo=d.lo:=h.wf.same h.lv h.mid.int (h.mid.lo hr) hlo λx=>kM false x;have e2:e.hi=d.hi:=h.wf.same h.lv h.mid.int (h.mid.hi hr) hhi λx=>kM true x;have hed:∀a b:Nd,a.v=b.v->a.lo=b.lo->a.hi=b.hi->a=b:=λa b h1 h2 h3=>by
  cases a;cases b;cases h1;cases h2;cases h3;rfl
 exact hed e d SS e1 e2
end
end ax
set_option maxRecDepth 100000
namespace Go.Proofs
open Go Go.Sx Tryz
section
open ax
def gF(bw kp:Nat)(vl vm:zV):Nat×Obj:=(bw,.cells #[γ kp,vl,vm] 209 zZ)
abbrev Q3:=Nat×Nat×Nat
def l3(q:Q3):zL:=[q.1,q.2.1,q.2.2]
def kq(q:Q3):zV:=.agg (az .u32 (iw (l3 q)))
def Xh{a b:zL}(h:iw a=iw b):a=b:=by
 induction a generalizing b with
 |nil=>cases b with
  |nil=>rfl
  |cons y b=>simp[iw]at h
 |cons x a ih=>cases b with
  |nil=>simp[iw]at h
  |cons y b=>
   simp only[iw,xay,xaw]at h;rw[Int.ofNat.inj h.1,ih h.2]
def aaq{a b:Q3}(h:l3 a=l3 b):a=b:=by obtain⟨a1,a2,a3⟩:=a;obtain⟨b1,b2,b3⟩:=b;simp[l3]at h;rw[h.1,h.2.1,h.2.2]
def wH(a b:Q3):Cn zQ 154 (kq a) (kq b) (decide (a=b)):=by have:=Cn.array (P:=zQ) (t:=154) (e:=78) (q:=.u32) (n:=3) zK zK zK (iw (l3 a)) (iw (l3 b)) rfl rfl;have e:decide (iw (l3 a)=iw (l3 b))=decide (a=b):=xb1.2 ⟨λh=>aaq (Xh h),λh=>by rw[h]⟩;rw[e]at this;exact this
def q6(a:Q3):mO zQ 154 (kq a):=mO.array (P:=zQ) (t:=154) (e:=78) (q:=.u32) (n:=3) zK zK zK _ rfl
def Bz(a:Q3):Instr.sameBits 10000 (kq a) (kq a)=true:=lj 9998 λx hx=>.inl (by simp[az]at hx;obtain⟨n,_,rfl⟩:=hx;exact⟨_,_,rfl⟩)
section
variable {kp bw:Nat} {vl vm:zV} {K:Kd} {S:Nat->ax.Fn} {θ ai tr:zL} {C:Hp}
def OR{H:Hp}{r:List zV}{K:zV->Hp->Prop}(hl:r.length=3)(h:∀b,K (.slice (some ⟨b,0,none⟩) 1 1) ((b,.cells r.toArray 144 zZ)::H)):aq zQ 213 1 [(0,.agg r.toArray)] H K:=
 aq.one (r:=r) (e:=144) (k:=3) (z:=.agg #[iv 0,.int .u32 0,.int .u32 0]) zK zK zK zD hl h
theorem AB{X Y:Hp}(h:cX kp K θ ai tr C)(q:Q3)(hq:∀r∈l3 q,r<4294967296):
  Fc zQ 156 #[γ bw,kq q] (gF bw kp vl vm::(X++(Y++C))) (λv H=>∃CN,H=CN++(gF bw kp vl vm::(X++(Y++C)))/\aU 144 3 v ((l3 q).map (got K.N)) CN):=by
 have Ξ:(l3 q).length=3:=rfl;refine aJ λg=>JQ λb1 _=>?_;refine aB.q ?_;refine⟨λvs H=>∃(i:Nat) (u:zV) (CN:Hp),vs=[u,iv (i:Int)]/\i<=3/\H=CN++((b1,.cells (az .u32 (iw (l3 q))) 154 zZ)::(gF bw kp vl vm::(X++(Y++C))))/\aU 144 3 u (((l3 q).take i).map (got K.N)) CN,λvs _=>3-bH vs 1,
  JE.mk ⟨0,_,[],rfl,by omega,rfl,aU.nil _ _⟩,?_⟩
 rintro w8 w9 H ⟨i,u,CN,⟨⟩,hi,rfl,hN⟩ gs;refine ah.eA (b:=3) (Br.dec (λη=>?_) (λη=>?_))
 ·have iL:i<(l3 q).length:=η;obtain⟨r,hr⟩:∃r,(l3 q)[i]? =some r:=⟨_,xab iL⟩;have aaJ:=hq r (xav hr);refine iQ.afl (t:=154) (e:=78) (q:=.u32) (x:=.tmp 10) (i:=.tmp 11) (l:=iw (l3 q)) (z:=(r:Int)) (kd:=.i64) (n:=3) (j:=i) zK rfl rfl zK zK zK η (dk hr) ?_;refine Ld.n ?_;refine ae.eq (args:=#[γ kp,δ r]) (jc h aaJ) (Ext.two λCX _=>(St.whole (r:=got K.N r) (by exact .head _) rfl (aS _ _).1 (aS _ _).2 ?_));refine aB.whole (r:=got K.N r) (by exact .head _) (aS _ _).1 ?_;refine OR (aS _ _).1 λbx=>?_;refine hN.qd (r:=got K.N r) (.cons (.cons .left)) (by exact .head _) (aS _ _).1 (aS _ _).2 ⟨[iv 0,.int .u32 0,.int .u32 0],rfl,rfl⟩ zP zP λv' C' ho=>?_;refine ah.inc (aD.of (.skip .tail) ⟨i+1,v',C',rfl,by omega,rfl,?_⟩ (by simp only[bH];omega));rw[xbg,hr,xaz];exact ho
 obtain rfl:i=3:=by omega
 rw[xcD (by rw[Ξ];exact xai _)]at hN;exact aQ.mk (.cv .tail _) ⟨CN,rfl,hN⟩
theorem Mn{n:Nat}{sM:Nat->Nat}{N:eM}{B:Hp}{vn:zV}{lvl:zL}(hw:gF bw kp vl vm∈B)(hl:di .i64 B vl (iw lvl))(nL:lvl.length=n)(hlv:∀v,v<n->lvl.getD v 0=sM v)(q:Q3)(hn:Sl 3 B vn ((l3 q).map (got N)))
 (h:WF n sM N)(hL:jY n sM)(hq:∀r∈l3 q,live N r)(tt:n<=64):
  Rd zQ 157 #[γ bw,vn] B (λr=>((∀s∈l3 q,N s=none)/\r=iv (-1))\/∃v,uV n sM N (l3 q) v/\r=iv (v:Int)):=by
 have Ξ:(l3 q).length=3:=rfl;refine aJ λg=>JP (hn.bL ?_);rw[xar,Ξ];refine⟨λvs H=>∃(i:Nat) (w:Int),vs=[iv w,iv (i:Int)]/\i<=3/\H=B/\(((∀s∈(l3 q).take i,N s=none)/\w= -1)\/∃v:Nat,uV n sM N ((l3 q).take i) v/\w=(v:Int)),λvs _=>3-bH vs 1,
  JE.mk ⟨0, -1,rfl,by omega,rfl,.inl ⟨by simp,rfl⟩⟩,?_⟩
 rintro w6 w7 H ⟨i,w,⟨⟩,hi,rfl,hw6⟩ gs;refine ah.eA (b:=3) (Br.dec (λη=>?_) (λη=>?_))
 ·intro J hJ;have iL:i<(l3 q).length:=η;obtain⟨r,hr⟩:∃r,(l3 q)[i]? =some r:=⟨_,xab iL⟩;have nT:(l3 q).take (i+1)=(l3 q).take i++[r]:=by rw[xbg,hr];rfl
  have fin:∀(w':Int) (Z:Hp),((∀s∈(l3 q).take (i+1),N s=none)/\w'= -1)\/(∃v:Nat,uV n sM N ((l3 q).take (i+1)) v/\w'=(v:Int))->J [iv w'] (Z++H):=λw' Z h'=>hJ _ _ λgs=>by
   exact ah.inc (aD.of .right ⟨i+1,w',rfl,by omega,rfl,h'⟩ (by simp only[bH];omega))
  have hrow:((l3 q).map (got N))[i]? =some (got N r):=by rw[xaq,hr];rfl
  refine ay.sl hn hrow λp hp=>?_;refine aB.at hp (aS _ _).1 zD (λ_ h=>h) ?_;intro sN _;refine St.whole (r:=got N r) (by exact .head _) rfl (aS _ _).1 (aS _ _).2 ?_;have hlr:=hq r (xav hr);cases hN:N r with
  |none=>
   have q7:r<2:=by rcases hlr with h2|⟨d,hd⟩;exact h2;rw[hN]at hd;cases hd
   have eg:got N r=[iv (-1),δ r,δ r]:=fS q7;rw[eg];refine Ld.f ?_;refine ah.geq (dh.mk false (λh=>by simp at h) (λ_=>rfl) λgs=>Br.no ?_);refine JE.mk (fin w [_] ?_);rcases hw6 with⟨h1,h2⟩|⟨v,h1,h2⟩
   ·refine .inl ⟨λs hs=>?_,h2⟩;rw[nT,xao,xaE]at hs;rcases hs with hs|rfl
    ·exact h1 s hs
    exact hN
   refine .inr ⟨v,⟨h1.lt,?_,λs hs=>?_⟩,h2⟩
   ·obtain⟨s,hs,x⟩:=h1.ex;exact⟨s,by rw[nT];exact xad _ hs,x⟩
   rw[nT,xao,xaE]at hs;rcases hs with hs|rfl
   ·exact h1.le s hs
   rw[aV hN];exact xce (hL.lt v h1.lt)
  |some d=>
   have h2:=h.two hN;have kQ:=h.var hN;have eg:got N r=bB d:=eo hN h2;rw[eg];refine Ld.f ?_;refine ah.geq ?_;rw[xam zO];have Dj:(∀s∈(l3 q).take i,sM d.v<=ι n sM N s)->∃v:Nat,uV n sM N ((l3 q).take (i+1)) v/\(d.v:Int)=(v:Int):=λhle=>by
    refine⟨d.v,⟨kQ,⟨r,by rw[nT];simp,d,hN,rfl⟩,λs hs=>?_⟩,rfl⟩;rw[nT,xao,xaE]at hs;rcases hs with hs|rfl
    ·exact hle s hs
    rw[au hN];exact xai _
   rcases hw6 with⟨h1,rfl⟩|⟨v,h1,rfl⟩
   ·refine dh.and true (λ_=>?_) rfl λgs=>Br.yes ?_
    ·exact ah.lss (dh.mk true (λh=>by simp at h) (λ_=>rfl) λgs=>⟨rfl,rfl⟩)
    refine Ld.f ?_;refine JE.mk (fin (d.v:Int) [_] (.inr (Dj λs hs=>?_)));rw[aV (h1 s hs)];exact xce (hL.lt _ kQ)
   have g1:(iw lvl)[d.v]? =some ((sM d.v:Nat):Int):=by rw[<-hlv d.v kQ];exact bM zO
   have g2:(iw lvl)[v]? =some ((sM v:Nat):Int):=by rw[<-hlv v h1.lt];exact bM (by have:=h1.lt;omega)
   refine dh.and (decide (sM d.v<sM v)) (λ_=>?_) rfl λgs=>?_
   ·refine ah.lss ?_;rw[xan zO];refine dh.or (decide (sM d.v<sM v)) (λ_=>?_) rfl λgs=>⟨rfl,by simp⟩;refine Ld.v (.tail _ hw) ?_;refine Ld.f ?_;refine hl.ld g1 (λ_ h=>.tail _ h) (Ld.v (.tail _ hw) ?_);exact hl.ld g2 (λ_ h=>.tail _ h) (ah.eA ⟨rfl,rfl⟩)
   rw[xcr];refine Br.dec (λuP=>?_) (λuP=>?_)
   ·refine Ld.f ?_;refine JE.mk (fin (d.v:Int) [_] (.inr (Dj λs hs=>?_)));have:=h1.le s hs;omega
   refine JE.mk (fin (v:Int) [_] (.inr ⟨v,⟨h1.lt,?_,λs hs=>?_⟩,rfl⟩))
   ·obtain⟨s,hs,x⟩:=h1.ex;exact⟨s,by rw[nT];exact xad _ hs,x⟩
   rw[nT,xao,xaE]at hs;rcases hs with hs|rfl
   ·exact h1.le s hs
   rw[au hN];omega
 obtain rfl:i=3:=by omega
 rw[xcD (by rw[Ξ];exact xai _)]at hw6;refine br.mk (.refl _) ?_;rcases hw6 with⟨h1,rfl⟩|⟨v,h1,rfl⟩
 ·exact .inl ⟨h1,rfl⟩
 exact .inr ⟨v,h1,rfl⟩
def Ob(h:bS kp K S θ ai tr C){v lo hi:Nat}(hv:v<K.n)(hlo:live K.N lo)(hhi:live K.N hi)(η:lv ai v<ι K.n (lv ai) K.N lo/\lv ai v<ι K.n (lv ai) K.N hi):
  Rd zQ 216 #[γ kp,iv (v:Int),δ lo,δ hi] C (· =if lo=hi then .tuple #[δ lo,.bool true]else .tuple #[δ ((K.T ⟨v,lo,hi⟩).getD 0),.bool (K.T ⟨v,lo,hi⟩).isSome]):=by
 have ahM:=h.bQ hlo;have ahW:=h.bQ hhi;have Cz:=cg.2 hlo;have q8:=cg.2 hhi;have hfe:qu K ai (v:Int) lo hi=0:=by
  unfold qu;rw[xac zO,xac (by rw[Cz,q8];simp),xac];rintro⟨ξ,hmin⟩;simp only[xbe,lv]at hmin η;omega
 refine aJ λg=>I1 λJ hJ=>?_;refine ah.aK (Split.go rfl (ae.eq (L1 h.rep (v:Int) zO zO (λr d hd=>⟨h.ok.mid.var hd,(h.ok.mid.two hd).1⟩)) ?_));rw[hfe];refine ah.cM (aG.mk (JE.mk (hJ _ _ λgs=>?_)));rw[xan zI];refine Br.no (ae.rq (Le h.rep (lo:=lo) (hi:=hi) hv) ?_);rintro w hw;subst hw;by_cases he:lo=hi
 ·rw[xae he];exact Ext.mk rfl (Ext.mk rfl (br.mk (.refl _) rfl))
 rw[xac he];exact Ext.mk rfl (Ext.mk rfl (br.mk (.refl _) rfl))
def wJ(h:bS kp K S θ ai tr C){v lo hi r:Nat}(hv:v<K.n)(hlo:live K.N lo)(hhi:live K.N hi)(η:lv ai v<ι K.n (lv ai) K.N lo/\lv ai v<ι K.n (lv ai) K.N hi)(hr:live K.N r)(h2:2<=r)(hS:S r=ite S ⟨v,lo,hi⟩):
  Rd zQ 216 #[γ kp,iv (v:Int),δ lo,δ hi] C (· =.tuple #[δ r,.bool true]):=by
 refine(Ob h hv hlo hhi η).mono ?_;rintro w H ⟨e,rfl⟩;refine⟨e,?_⟩;by_cases he:lo=hi
 ·subst he;rw[xae rfl,h.ok.wf.same h.ok.lv h.ok.mid.int hr hlo λx=>by rw[hS];unfold ax.ite;split<;>rfl]
 rw[xac he];obtain⟨d,hd⟩:∃d,K.N r=some d:=by
  rcases hr with h3|h3
  ·omega
  exact h3
 have hdd:d=⟨v,lo,hi⟩:=h.ok.WO (d:=⟨v,lo,hi⟩) hlo hhi he hv η hd hS;subst hdd;rw[(h.ok.mid.kK _ r).2 ⟨hd,λe=>e⟩];rfl
def HN(r v:Nat)(B:Hp):Rd zQ 158 #[γ bw,iv (v:Int),δ r,δ r] B (· =.tuple #[δ r,iv 0]):=by exact aJ λg=>yb (ah.iD (Br.T (br.mk (.refl _) rfl)))
def UY{CM X:Hp}{ν:zL}(h:bS kp K S θ ai tr C){v lo hi:Nat}(hv:v<K.n)(hlo:live K.N lo)(hhi:live K.N hi)(ξ:lo≠hi)(η:lv ai v<ι K.n (lv ai) K.N lo/\lv ai v<ι K.n (lv ai) K.N hi)
 (hM:aL 78 .u32 vm (iw ν) CM)(Ξ:ν.length<=1099511627776):
  Fc zQ 158 #[γ bw,iv (v:Int),δ lo,δ hi] (gF bw kp vl vm::(X++(CM++C))) (λw H=>
   (∃r K' S' C' ZN CM',w=.tuple #[δ r,iv 0]/\H=gF bw kp vl ZN::(X++(CM'++C'))/\bS kp K' S' θ ai [] C'/\qx K S K' S' (ite S ⟨v,lo,hi⟩) r/\aL 78 .u32 ZN (iw (ν++[r])) CM')\/
   (w=.tuple #[δ 0,iv 9]/\H=gF bw kp vl vm::(X++(CM++C))/\K.cap<=K.used/\K.T ⟨v,lo,hi⟩=none)\/
   (∃r,w=.tuple #[δ r,iv 0]/\H=gF bw kp vl vm::(X++(CM++C))/\live K.N r/\2<=r/\K.hold r=65535/\S r=ite S ⟨v,lo,hi⟩)):=by
 refine aJ λg=>yb (ah.fc (Br.Ut ξ (Ld.n ?_)));apply ae.fq (Bv h hv hlo hhi (.inr η));rintro w C' (⟨r,K',S',rfl,de,mk⟩|⟨r,rfl,rfl,hlr,QT,hfull,G9⟩|⟨rfl,rfl,hcap,_,hT⟩)
 ·refine Ext.two λJ hJ=>(ah.iD (Br.T (Ld.n ?_)));refine aq.int (e:=78) zK zK zK λbx=>?_;refine hM.qd (x:=(r:Int)) (.cons (.cons (.app .left))) (by exact .head _) (by rw[av];omega) (by rw[av];omega) λZN CM' hM'=>?_;have h1:=hM'.one;refine Nil.γ (aj.mk (St.one (by exact .tail (.head _)) h1 zI rfl ?_));refine aQ.mk .tail (.inl ⟨r,K',S',C',ZN,CM',rfl,rfl,de,mk,?_⟩);rw[cH];exact hM'
 ·refine Ext.two λJ hJ=>(ah.iD (Br.F (ah.iD (Br.T (Ld.n ?_)))));exact ae.eq (wJ h hv hlo hhi η hlr QT G9) (Ext.mk rfl (Ext.mk rfl (Br.yes (aQ.here (.inr (.inr ⟨r,rfl,rfl,hlr,QT,hfull,G9⟩))))))
 exact Ext.two λJ hJ=>(ah.iD (Br.F (ah.iD (Br.F (JE.mk (hJ _ λgs=>aQ.here (.inr (.inl ⟨rfl,rfl,hcap,hT⟩))))))))
end
end
section
open ax
structure lP(K0:Kd)(S0:Nat->ax.Fn)(U:ax.Fn->Prop)(θ:zL)(K:Kd)(S:Nat->ax.Fn)(ν:zL):Prop where
 n:K.n=K0.n
 cap:K.cap=K0.cap
 N:∀s d,K0.N s=some d->K.N s=some d
 fn:∀s,live K0.N s->S s=S0 s
 hold:∀s,K.hold s=K0.hold s+ν.count s
 two:∀s∈ν,2<=s
 U:∀g,aE K0.n θ (K.held S) g->U g
def lP.refl{K0:Kd}{S0:Nat->ax.Fn}{U:ax.Fn->Prop}{θ:zL}(h:∀g,aE K0.n θ (K0.held S0) g->U g):lP K0 S0 U θ K0 S0 []:=⟨rfl,rfl,λ_ _ h=>h,λ_ _=>rfl,λs=>by simp,by simp,h⟩
def Fits(U:ax.Fn->Prop)(cap:Nat):Prop:=∃ku,nQ U ku/\ku+2<=cap
section
variable {kp:Nat} {K0 K:Kd} {S0 S:Nat->ax.Fn} {U:ax.Fn->Prop} {θ ai tr:zL} {ν:zL} {C:Hp}
def lP.iK(h:lP K0 S0 U θ K S ν)(hK:bS kp K S θ ai tr C){s:Nat}(hs:s∈ν):live K.N s:=by refine .inr (hK.ok.mid.held s ?_);rw[h.hold];have:=xbP.2 hs;omega
def zz{b:Nat}:∀(m:Nat) (l:zL),(∀x∈l,x<m)->(∀x,l.count x<=b)->l.length<=m*b
 |0,l,h1,_=>by
  cases l with
  |nil=>simp
  |cons x l=>exact absurd (h1 x (xbA ..)) (xb9 _)
 |m+1,l,h1,h2=>by
  have ih:=zz m (l.filter λx=> !(x==m)) (λx hx=>by
   obtain⟨hx,ξ⟩:=xb0.1 hx;have:=h1 x hx;have:x≠m:=by simpa using ξ
   omega) (λx=>xbT (List.filter_sublist.count_le x) (h2 x))
  have e:=List.length_eq_countP_add_countP (λx=>x==m) (l:=l);have h3:=h2 m;rw[List.count]at h3;rw[List.countP_eq_length_filter (l:=l) (p:=λa=>decide ¬(a==m)=true)]at e;rw[xbr];have e2:(l.filter λa=>decide ¬(a==m)=true)=l.filter λx=> !(x==m):=xdq λx _=>by cases x==m<;>rfl
  rw[e2]at e;omega
def lP.rZ(h:lP K0 S0 U θ K S ν)(hK:bS kp K S θ ai tr C):ν.length<=1048576*65535:=
 zz _ _ (λx hx=>by
  have hc:=xbP.2 hx;have:=h.hold x;obtain⟨d,hd⟩:=hK.ok.mid.held x zO;have:=(hK.ok.mid.two hd).2;have:=hK.ok.mid.cap;omega) (λx=>by have:=h.hold x;have:=hK.ok.mid.mx x;omega)
def lP.full(h:lP K0 S0 U θ K S ν){r:Nat}(hr:K.hold r=65535):r∈ν\/K0.hold r=65535:=by
 by_cases hm:r∈ν
 ·exact .inl hm
 have:=h.hold r;rw[xdS.2 hm]at this;exact .inr zO
def lP.live(h:lP K0 S0 U θ K S ν){s:Nat}(hs:live K0.N s):live K.N s:=bC h.N hs
def lP.step(h:lP K0 S0 U θ K S ν)(hK:bS kp K S θ ai tr C){K':Kd}{S':Nat->ax.Fn}{f:ax.Fn}{r:Nat}(m:qx K S K' S' f r)(h2:2<=r)(hU:∀g,aE K0.n θ (λg=>g=f) g->U g):lP K0 S0 U θ K' S' (ν++[r]):=by
 refine⟨m.n.trans h.n,m.cap.trans h.cap,λs d hd=>m.N s d (h.N s d hd),λs hs=>(m.fn s (h.live hs)).trans (h.fn s hs),λs=>?_,λs hs=>?_,λg hg=>?_⟩
 ·rw[m.hold,xbf,xcN,h.hold];by_cases e:s=r
  ·subst e;simp[h2];omega
  have:(r==s)=false:=by simpa using λe'=>e e'.symm
  simp[e,this]
 ·rcases xao.1 hs with hs|hs
  ·exact h.two s hs
  simp at hs;subst hs;exact h2
 have mQ:∀g,K'.held S' g->K.held S g\/g=f:=by
  rintro g ⟨s,hs,rfl⟩;have μ:K'.hold s≠0:=hs;rw[m.hold]at μ;by_cases e:s=r/\2<=r
  ·right;rw[e.1];exact m.is
  rw[xac e]at μ;exact .inl ⟨s,μ,m.fn s (.inr (hK.ok.mid.held s μ))⟩
 rcases(mj g).1 (aX mQ hg)with h1|h1
 ·exact h.U g h1
 exact hU g h1
end
def B3(jx b1 b5 sN:Nat):zV:=.func (.func 155) #[] #[γ jx,γ b1,γ b5,γ sN]
structure Ck(fv:zV)(LB:Hp)(t:Bool->Bool->Bool->Bool):Prop where
 is:∃f first cap,fv=.func (.func f) first cap/\aW zQ f=true/\∀x y z:Bool,Rd zQ f (first++ #[.bool x,.bool y,.bool z]++cap) LB (· =.bool (t x y z))
def aft(K0:Kd)(S0 S:Nat->ax.Fn)(t:Bool->Bool->Bool->Bool)(ν:zL)(m:List (Q3×Nat)):Prop:=∀y∈m,S y.2=uT t S0 (l3 y.1)/\(y.2<2\/y.2∈ν\/K0.hold y.2=65535)
section
variable {kp jx b1 b5 sN bm bw:Nat} {vl fv:zV} {LB CL:Hp} {lvl:zL} {K0:Kd} {S0:Nat->ax.Fn} {U:ax.Fn->Prop} {θ ai:zL} {t:Bool->Bool->Bool->Bool}
abbrev Zs(jx b1 b5 sN bm bw kp:Nat)(fv vl vm:zV)(LB CL CM C:Hp)(es:Array MapEntry)(ck:Nat):Hp:=
 (jx,.cells #[.map (some bm)] 211 zZ)::(b1,.cells #[γ bw] 149 zZ)::(b5,.cells #[fv] 155 zZ)::(sN,.cells #[B3 jx b1 b5 sN] 212 zZ)::
 (LB++((bm,.map es ck)::(gF bw kp vl vm::(CL++(CM++C)))))
structure Stp(kp:Nat)(K0:Kd)(S0:Nat->ax.Fn)(U:ax.Fn->Prop)(θ ai ZR:zL)(t:Bool->Bool->Bool->Bool)(K:Kd)(S:Nat->ax.Fn)(ν:zL)(es:Array MapEntry)(ck:Nat)(vm:zV)(CM C:Hp):Prop where
 ks:∃tr,bS kp K S θ ai tr C/\(tr=[]\/(tr=ZR/\ν=[]))
 c6:lP K0 S0 U θ K S ν
 mde:aL 78 .u32 vm (iw ν) CM
 kn:∃m,aI kq Qs es ck m/\aft K0 S0 S t ν m
structure gE(K:Kd)(S:Nat->ax.Fn)(ν:zL)(K':Kd)(S':Nat->ax.Fn)(Φ:zL)(c:Nat):Prop where
 N:∀s d,K.N s=some d->K'.N s=some d
 fn:∀s,live K.N s->S' s=S s
 ext:∃ext,Φ=ν++ext/\ext.length<=c
def gE.refl{K:Kd}{S:Nat->ax.Fn}{ν:zL}{c:Nat}:gE K S ν K S ν c:=⟨λ_ _ h=>h,λ_ _=>rfl,[],by simp,xaL _⟩
section
variable {K K' K2:Kd} {S S' S2:Nat->ax.Fn} {ν Φ gg:zL} {c c':Nat}
def gE.MO(h:gE K S ν K' S' Φ c)(hc:c<=c'):gE K S ν K' S' Φ c':=⟨h.N,h.fn,let ⟨e,h1,h2⟩:=h.ext;⟨e,h1,by omega⟩⟩
def gE.mem{s:Nat}(h:gE K S ν K' S' Φ c)(hs:s∈ν):s∈Φ:=by obtain⟨e,rfl,_⟩:=h.ext;exact xad _ hs
def gE.count(h:gE K S ν K' S' Φ c)(s:Nat):Φ.count s<=ν.count s+c/\Φ.length<=ν.length+c:=by obtain⟨e,rfl,he⟩:=h.ext;have:=List.count_le_length (a:=s) (l:=e);rw[xbf,xaf];omega
def gE.trans(h:gE K S ν K' S' Φ c)(h':gE K' S' Φ K2 S2 gg c'):gE K S ν K2 S2 gg (c+c'):=by obtain⟨e,rfl,he⟩:=h.ext;obtain⟨e',rfl,he'⟩:=h'.ext;exact⟨λs d hd=>h'.N s d (h.N s d hd),λs hs=>(h'.fn s (bC h.N hs)).trans (h.fn s hs),e++e',by rw[xag],by rw[xaf];omega⟩
end
def oq{κ β:Type}[DecidableEq κ]{m:List (κ×β)}{k:κ}{x:β}{y:κ×β}(h:y∈eu m k x):y=(k,x)\/y∈m:=by
 unfold eu at h;split at h
 ·obtain⟨z,hz,rfl⟩:=xal.1 h;split
  ·exact .inl rfl
  exact .inr hz
 rcases xao.1 h with h|h
 ·exact .inr h
 simp at h;exact .inl h
def DF(N:eM)(v:Nat)(b:Bool)(q:Q3):Q3:=(er N v b q.1,er N v b q.2.1,er N v b q.2.2)
def Xa(N:eM)(v:Nat)(b:Bool)(q:Q3):l3 (DF N v b q)=jh N v b (l3 q):=rfl
def oJ{N N':eM}(hN:∀s d,N s=some d->N' s=some d)(h2:∀r,r<2->N r=none)(lZ:∀r,r<2->N' r=none){r:Nat}(hr:live N r):got N' r=got N r:=by
 rcases hr with hr|⟨d,hd⟩
 ·rw[fS hr,fS hr]
 by_cases h:r<2
 ·rw[h2 r h]at hd;cases hd
 rw[eo hd zO,eo (hN r d hd) zO]
def Ans(kp jx b1 b5 sN bm bw:Nat)(fv vl:zV)(LB CL:Hp)(K0:Kd)(S0:Nat->ax.Fn)(U:ax.Fn->Prop)(θ ai ZR:zL)(t:Bool->Bool->Bool->Bool)(ql:zL)(c:Nat)(K:Kd)(S:Nat->ax.Fn)(ν:zL)(r:zV)(H:Hp):Prop:=
 ∃K' S' Φ τ bF ZN CM' C',H=Zs jx b1 b5 sN bm bw kp fv vl ZN LB CL CM' C' τ bF/\Stp kp K0 S0 U θ ai ZR t K' S' Φ τ bF ZN CM' C'/\gE K S ν K' S' Φ c/\
   ((∃x:Nat,r=.tuple #[δ x,iv 0]/\S' x=uT t S0 ql/\(x<2\/x∈Φ\/K0.hold x=65535))\/(r=.tuple #[δ 0,iv 9]/\¬Fits U K0.cap))
theorem abr(fX:aW zQ 155=true)(BQ:Ck fv LB t)(Zq:aL 3 .i64 vl (iw lvl) CL)(nL:lvl.length=K0.n)(hlv:∀v,v<K0.n->lvl.getD v 0=lv ai v)(tt:K0.n<=64)(lY:WF K0.n (lv ai) K0.N)(p9:Interp K0.N S0)(j5:jY K0.n (lv ai))(QN:∀r,live K0.N r->r<4294967296)(hh0:∀s,K0.hold s=65535->live K0.N s){ZR:zL}:
  ∀(ql:zL) (c:Nat),Tree K0.n (lv ai) K0.N ql c->∀(q:Q3),l3 q=ql->∀(K:Kd) (S:Nat->ax.Fn) (ν:zL) (es:Array MapEntry) (ck:Nat) (vm:zV) (CM C:Hp),Stp kp K0 S0 U θ ai ZR t K S ν es ck vm CM C->
  (∀r∈ql,live K0.N r)->(∀g,aE K0.n θ (λg=>g=uT t S0 ql) g->U g)->
  Fc zQ 155 #[kq q,γ jx,γ b1,γ b5,γ sN] (Zs jx b1 b5 sN bm bw kp fv vl vm LB CL CM C es ck) (λr H=>Ans kp jx b1 b5 sN bm bw fv vl LB CL K0 S0 U θ ai ZR t ql c K S ν r H):=by
 have hc0:∀r,r<2->K0.N r=none:=λr hr=>lY.const hr;intro ql c hT;induction hT with
 | @leaf ql hnone=>
  intro q hq K S ν es ck vm CM C hS fW hU g;subst hq;obtain⟨tr,hK,fm⟩:=hS.ks;obtain⟨m,hE,hkn⟩:=hS.kn;have LR:∀r,r<2->K.N r=none:=λr hr=>hK.ok.wf.const hr;refine yc (R:=aQ _) ?_;unfold L155;intro bq _;refine Ld.q ?_;refine aB.q ?_;have yH:(bm,Obj.map es ck)∈(bq,Obj.cells (az .u32 (iw (l3 q))) 154 zZ)::Zs jx b1 b5 sN bm bw kp fv vl vm LB CL CM C es ck:=.tail _ (.tail _ (.tail _ (.tail _ (.tail _ (xaa _ (.head _))))));cases hg:aN m q with
  |some x=>
   refine aI.GU (ke:=kq) (k:=q) wH q6 hE yH hg ?_;rintro v rfl;obtain⟨h1,h2⟩:=hkn _ ((ef hE.nd).1 hg);exact Ext.mk rfl (Ext.mk rfl (Br.yes (aQ.mk .tail ⟨K,S,ν,es,ck,vm,CM,C,rfl,hS,.refl,.inl ⟨x,rfl,h1,h2⟩⟩)))
  |none=>
   refine aI.wA (ke:=kq) (k:=q) wH q6 hE yH hg ?_;refine Ext.mk rfl (Ext.mk rfl (Br.no (Ld.q ?_)));refine aB.q ?_;refine ae.fq (args:=#[γ bw,kq q]) (AB hK.rep q (λr hr=>QN r (fW r hr))) ?_;rintro vn H ⟨CN,rfl,hN⟩;have eN:(l3 q).map (got K.N)=(l3 q).map (got K0.N):=xbn λr hr=>oJ hS.c6.N hc0 LR (fW r hr);rw[eN]at hN;refine Ld.q ?_;refine ae.rq (Mn (bw:=bw) (kp:=kp) (vl:=vl) (vm:=vm) (lvl:=lvl) (n:=K0.n) (sM:=lv ai) (N:=K0.N) (.tail _ (.tail _ (.tail _ (.tail _ (.tail _ (xaa _ (.tail _ (xaa _ (.head _))))))))) (Zq.ints.mono λ_ h=>.tail _ (.tail _ (.tail _ (.tail _ (.tail _ (xaa _ (.tail _ (xaa _ (.tail _ (xad _ h)))))))))) nL hlv q ((Sl.iC hN zD).mono λ_ h=>.tail _ (.tail _ (.tail _ (.tail _ (.tail _ (xaa _ (.tail _ (xad _ h)))))))) lY j5 fW tt) ?_;rintro w (⟨_,rfl⟩|⟨v,hv,rfl⟩);rotate_left
   ·obtain⟨s,hs,d,hd,_⟩:=hv.ex;rw[hnone s hs]at hd;cases hd
   refine ah.lss (Br.T ?_);have Om:∀r∈l3 q,r<2:=λr hr=>by
    rcases fW r hr with h|⟨d,hd⟩
    ·exact h
    rw[hnone r hr]at hd;cases hd
   obtain⟨f,first,cap,Tp,hfc,hL⟩:=BQ.is;refine Ld.q ?_;refine jl.nat (j:=0) zD (Ld.q ?_);refine ah.fc (b:=1) (jl.nat (j:=1) zD (Ld.q ?_));refine ah.fc (b:=1) (jl.nat (j:=2) zD (Ld.q ?_));refine ah.fc (b:=1) (aM.of Tp hfc ?_);refine ae.eq (hL _ _ _) ?_;have GY:=λx=>OB p9 (q:=l3 q) rfl Om t x;have hint:=hK.ok.mid.int;have Zh:aO ((bq,Obj.cells (az .u32 (iw (l3 q))) 154 zZ)::(jx,.cells #[.map (some bm)] 211 zZ)::(b1,.cells #[γ bw] 149 zZ)::(b5,.cells #[fv] 155 zZ)::(sN,.cells #[B3 jx b1 b5 sN] 212 zZ)::(LB++((bm,.map es ck)::(CN++(gF bw kp vl vm::(CL++(CM++C))))))) (Zs jx b1 b5 sN bm bw kp fv vl vm LB CL CM C es ck):=
    .skip (.cons (.cons (.cons (.cons (.cv (.cons .right) _)))))
   refine Br.mk (λhb=>?_) (λhb=>?_)
   ·refine aQ.mk Zh ⟨K,S,ν,es,ck,vm,CM,C,rfl,hS,.refl,.inl ⟨1,rfl,funext λx=>?_,.inl zO⟩⟩;rw[hint.one,GY x];exact hb.symm
   refine aQ.mk Zh ⟨K,S,ν,es,ck,vm,CM,C,rfl,hS,.refl,.inl ⟨0,rfl,funext λx=>?_,.inl zO⟩⟩;rw[hint.zero,GY x];exact hb.symm
 | @node ql v a b hv ha hb iha ihb=>
  intro q hq K S ν es ck vm CM C hS fW hU g;subst hq;obtain⟨tr,hK,fm⟩:=hS.ks;obtain⟨m,hE,hkn⟩:=hS.kn;have LR:∀r,r<2->K.N r=none:=λr hr=>hK.ok.wf.const hr;refine yc (R:=aQ _) ?_;unfold L155;intro bq _;refine Ld.q ?_;refine aB.q ?_;have yH:(bm,Obj.map es ck)∈(bq,Obj.cells (az .u32 (iw (l3 q))) 154 zZ)::Zs jx b1 b5 sN bm bw kp fv vl vm LB CL CM C es ck:=.tail _ (.tail _ (.tail _ (.tail _ (.tail _ (xaa _ (.head _))))));cases hg:aN m q with
  |some x=>
   refine aI.GU (ke:=kq) (k:=q) wH q6 hE yH hg ?_;rintro v rfl;obtain⟨h1,h2⟩:=hkn _ ((ef hE.nd).1 hg);exact Ext.mk rfl (Ext.mk rfl (Br.yes (aQ.mk .tail ⟨K,S,ν,es,ck,vm,CM,C,rfl,hS,.refl,.inl ⟨x,rfl,h1,h2⟩⟩)))
  |none=>
  refine aI.wA (ke:=kq) (k:=q) wH q6 hE yH hg ?_;refine Ext.mk rfl (Ext.mk rfl (Br.no (Ld.q ?_)));refine aB.q ?_;refine ae.fq (args:=#[γ bw,kq q]) (AB hK.rep q (λr hr=>QN r (fW r hr))) ?_;rintro vn H ⟨CN,rfl,hN⟩;have eN:(l3 q).map (got K.N)=(l3 q).map (got K0.N):=xbn λr hr=>oJ hS.c6.N hc0 LR (fW r hr);rw[eN]at hN;refine Ld.q ?_;refine ae.rq (Mn (bw:=bw) (kp:=kp) (vl:=vl) (vm:=vm) (lvl:=lvl) (n:=K0.n) (sM:=lv ai) (N:=K0.N) (.tail _ (.tail _ (.tail _ (.tail _ (.tail _ (xaa _ (.tail _ (xaa _ (.head _))))))))) (Zq.ints.mono λ_ h=>.tail _ (.tail _ (.tail _ (.tail _ (.tail _ (xaa _ (.tail _ (xaa _ (.tail _ (xad _ h)))))))))) nL hlv q ((Sl.iC hN zD).mono λ_ h=>.tail _ (.tail _ (.tail _ (.tail _ (.tail _ (xaa _ (.tail _ (xad _ h)))))))) lY j5 fW tt) ?_;rintro w (⟨aH,_⟩|⟨v',oC,rfl⟩)
  ·obtain⟨s,hs,d,hd,_⟩:=hv.ex;rw[aH s hs]at hd;cases hd
  obtain rfl:v'=v:=oC.uniq j5 hv;refine ah.lss (Br.F (DR.of (R:=[(bq,Obj.cells (az .u32 (iw (l3 q))) 154 zZ)]) (aO.left (A:=[_])) (aB.q ?_)));refine aB.q ?_;intro b31 _ ZA _ F35;have hone:∀x∈(iw (l3 q)).map λn=>Value.int .u32 n,x.oneCell'=true:=λx hx=>by obtain⟨n,_,rfl⟩:=xal.1 hx;rfl
  refine St.p hone ?_;refine⟨.skip (.skip (aO.left (A:=[_]))),?_⟩;intro F37;refine St.p hone ?_;refine hN.bL ?_;rw[xar];refine⟨λvs H=>∃i:Nat,vs=[iv (i:Int)]/\i<=3/\H=(ZA,.cells (az .u32 (iw (nf K0.N v' true (l3 q) i))) 154 zZ)::(b31,.cells (az .u32 (iw (nf K0.N v' false (l3 q) i))) 154 zZ)::
    (bq,Obj.cells (az .u32 (iw (l3 q))) 154 zZ)::(jx,.cells #[.map (some bm)] 211 zZ)::(b1,.cells #[γ bw] 149 zZ)::(b5,.cells #[fv] 155 zZ)::(sN,.cells #[B3 jx b1 b5 sN] 212 zZ)::(LB++((bm,.map es ck)::(CN++(gF bw kp vl vm::(CL++(CM++C)))))),
   λvs _=>3-bH vs 0,JE.mk ⟨0,rfl,by omega,by rw[zl,zl];rfl⟩,?_⟩
  rintro w44 H ⟨i,hvs,hi,rfl⟩ gs;simp only[xaw,xaW]at hvs;subst hvs;have hl3:(l3 q).length=3:=rfl;refine ah.eA (b:=3) (Br.dec (λη=>?_) (λη=>?_))
  ·-- a part of the question
   intro J hJ;obtain⟨r,hr⟩:∃r,(l3 q)[i]? =some r:=⟨_,xab (show i<(l3 q).length from η)⟩;have hlr:=fW r (xav hr);have hrow:((l3 q).map (got K0.N))[i]? =some (got K0.N r):=by rw[xaq,hr];rfl
   refine ay.sl (Sl.iC hN zD) hrow λp hp=>?_;refine aB.at hp (aS _ _).1 zD (λ_ h=>.tail _ (.tail _ (.tail _ (.tail _ (.tail _ (.tail _ (.tail _ (xaa _ (.tail _ (xad _ h)))))))))) ?_;intro b52 _;refine St.whole (r:=got K0.N r) (by exact .head _) rfl (aS _ _).1 (aS _ _).2 ?_;have stay:er K0.N v' false r=r->er K0.N v' true r=r->∀Z:Hp,JE J [] (Z++((ZA,.cells (az .u32 (iw (nf K0.N v' true (l3 q) i))) 154 zZ)::(b31,.cells (az .u32 (iw (nf K0.N v' false (l3 q) i))) 154 zZ)::
    (bq,Obj.cells (az .u32 (iw (l3 q))) 154 zZ)::(jx,.cells #[.map (some bm)] 211 zZ)::(b1,.cells #[γ bw] 149 zZ)::(b5,.cells #[fv] 155 zZ)::(sN,.cells #[B3 jx b1 b5 sN] 212 zZ)::(LB++((bm,.map es ck)::(CN++(gF bw kp vl vm::(CL++(CM++C)))))))):=λe1 e2 Z=>by
    refine JE.of .right (hJ _ λgs=>?_);exact ah.inc (aD.of (.refl _) ⟨i+1,rfl,by omega,by rw[zm hr e1,zm hr e2]⟩ (by simp only[bH];omega))
   cases hNr:K0.N r with
   |none=>
    have q7:r<2:=by rcases hlr with h2|⟨d,hd⟩;exact h2;rw[hNr]at hd;cases hd
    rw[fS q7];refine Ld.f ?_;refine ah.iD (Br.F ?_);have ec:∀b,er K0.N v' b r=r:=λb=>by unfold er;rw[hNr]
    exact stay (ec false) (ec true) [_]
   |some d=>
    have h2:=lY.two hNr;rw[eo hNr h2];refine Ld.f ?_;refine ah.fc (Br.dec (λkQ=>?_) (λkQ=>?_))
    ·refine DR.of (R:=[(b52,Obj.cells (bB d).toArray 144 zZ)]) (aO.left (A:=[_])) (Ld.f ?_);refine Ld.f ?_;have elo:er K0.N v' false r=d.lo:=by unfold er;rw[hNr];simp[kQ]
     have ehi:er K0.N v' true r=d.hi:=by unfold er;rw[hNr];simp[kQ]
     refine jl.nat η ?_;refine St.ints (l:=iw (nf K0.N v' false (l3 q) i)) (x:=(d.lo:Int)) (by exact .tail (.tail (.head _))) (by rw[av,DT zO];omega) ?_;refine⟨aO.left (A:=[_]),?_⟩;refine jl.nat η ?_;refine St.ints (l:=iw (nf K0.N v' true (l3 q) i)) (x:=(d.hi:Int)) (by exact .tail (.head _)) (by rw[av,DT zO];omega) ?_;rw[fA,fA,<-elo,<-ehi,td hr,td hr];refine JE.of .tail (hJ _ λgs=>?_);exact ah.inc (aD.of (.refl _) ⟨i+1,rfl,by omega,rfl⟩ (by simp only[bH];omega))
    have ec:∀b,er K0.N v' b r=r:=λb=>by unfold er;rw[hNr];simp[kQ]
    exact stay (ec false) (ec true) [_]
  obtain rfl:i=3:=by omega
  have em:∀b,nf K0.N v' b (l3 q) 3=l3 (DF K0.N v' b q):=λb=>by rw[Xa,<-Sj];rfl
  rw[em,em];obtain⟨f1,f2⟩:=pV (S:=S0) lY j5 p9 fW hv false;obtain⟨t1,t2⟩:=pV (S:=S0) lY j5 p9 fW hv true;have ec:∀b,uT t S0 (jh K0.N v' b (l3 q))=λx=>uT t S0 (l3 q) (an.aC x v' b):=λb=>L4 lY j5 p9 rfl fW hv t b;have lB:Ord K0.n (lv ai) θ:=by rw[<-hS.c6.n];exact hK.od
  have iL:=j5.lt v' hv.lt;have Eb:=lB.of j5 hv.lt;have tv:=An lY j5 p9 lB (q:=l3 q) rfl fW (xce iL) hv.le t;obtain⟨i1,Rq⟩:=j3 (n:=K0.n) (θ:=θ) (c:=uT t S0 (jh K0.N v' false (l3 q))) tv (b:=false) (by rw[Eb];exact ec false);obtain⟨i2,Ro⟩:=j3 (n:=K0.n) (θ:=θ) (c:=uT t S0 (jh K0.N v' true (l3 q))) tv (b:=true) (by rw[Eb];exact ec true);refine Ld.q ?_;refine aB.q ?_;refine aM.of rfl fX ?_;refine ae.pre (H':=(ZA,.cells (az .u32 (iw (l3 (DF K0.N v' true q)))) 154 zZ)::(b31,.cells (az .u32 (iw (l3 (DF K0.N v' false q)))) 154 zZ)::(bq,Obj.cells (az .u32 (iw (l3 q))) 154 zZ)::Zs jx b1 b5 sN bm bw kp fv vl vm LB CL CM C es ck) (.cons (.cons (.cons (.cons (.cons (.cons (.cons (.cv (.cons .right) _)))))))) ?_;refine ae.fq (args:=#[kq (DF K0.N v' false q),γ jx,γ b1,γ b5,γ sN]) (iha (DF K0.N v' false q) rfl K S ν es ck vm CM C hS f1 (λg hg=>hU g (Rq g hg))) ?_;rintro w H ⟨K1,S1,zw,kR,j7,vm1,CM1,C1,rfl,Fw,XU,TL⟩;rcases TL with⟨x1,rfl,hx1,uO⟩|⟨rfl,Γ⟩;rotate_left
  ·exact Ext.mk rfl (Ext.mk rfl (ah.cM (Br.T (aQ.mk (.skip (.skip .tail)) ⟨K1,S1,zw,kR,j7,vm1,CM1,C1,rfl,Fw,XU.MO zO,.inr ⟨rfl,Γ⟩⟩))))
  refine Ext.mk rfl (Ext.mk rfl (ah.cM (Br.F (Ld.q ?_))));refine aB.q ?_;refine aM.of rfl fX ?_;have hc1:=λs=>XU.count s;have hh1:∀s,K1.hold s<=K.hold s+a:=λs=>by rw[Fw.c6.hold,hS.c6.hold];have:=(hc1 s).1;omega
  refine ae.fq (args:=#[kq (DF K0.N v' true q),γ jx,γ b1,γ b5,γ sN]) (ihb (DF K0.N v' true q) rfl K1 S1 zw kR j7 vm1 CM1 C1 Fw t1 (λg hg=>hU g (Ro g hg))) ?_;rintro w H ⟨K2,S2,gg,ic,iO,vm2,CM2,C2,rfl,jS,oI,TL⟩;have yM:=XU.trans oI;rcases TL with⟨x2,rfl,GN,mC⟩|⟨rfl,Γ⟩;rotate_left
  ·exact Ext.mk rfl (Ext.mk rfl (ah.cM (Br.T (aQ.mk (.skip (.skip .tail)) ⟨K2,S2,gg,ic,iO,vm2,CM2,C2,rfl,jS,yM.MO zO,.inr ⟨rfl,Γ⟩⟩))))
  refine Ext.mk rfl (Ext.mk rfl (ah.cM (Br.F (Ld.q ?_))));obtain⟨YG,dR,Xo⟩:=Fw.ks;obtain⟨Fm,cY,uM⟩:=jS.ks;have ad2:=cY.ok.mid.int;have l11:live K1.N x1:=by rcases uO with h|h|h;exact .inl h;exact Fw.c6.iK dR h;exact Fw.c6.live (hh0 _ h)
  have e1:S2 x1=uT t S0 (jh K0.N v' false (l3 q)):=(oI.fn x1 l11).trans hx1;have l1:live K2.N x1:=by rcases uO with h|h|h;exact .inl h;exact jS.c6.iK cY (oI.mem h);exact jS.c6.live (hh0 _ h)
  have l2:live K2.N x2:=by rcases mC with h|h|h;exact .inl h;exact jS.c6.iK cY h;exact jS.c6.live (hh0 _ h)
  have n2:=jS.c6.n;have tu:ite S2 ⟨v',x1,x2⟩=uT t S0 (l3 q):=by
   funext x
   unfold ax.ite;rw[e1,GN,ec,ec]
   conv=>rhs;rw[<-an.iE x v']
   simp only;cases x.testBit v'<;>rfl
  obtain⟨m2,tw,XC⟩:=jS.kn;have hkl:∀y∈m2,live K2.N y.2:=λy hy=>by
   rcases(XC y hy).2 with h|h|h
   ·exact .inl h
   ·exact jS.c6.iK cY h
   exact jS.c6.live (hh0 _ h)
  by_cases hx:x1=x2
  ·subst hx;refine ae.eq (HN x1 v' _) (Ext.two λJ hJ=>(ah.iD (Br.T (Ld.q ?_))));refine aB.q ?_;refine aI.M1 (ke:=kq) (k:=q) (vr:=Qs) (x:=x1) wH q6 Bz tw rfl λτ bF he=>⟨_,.tail (.tail (.tail (.tail (.tail (.tail (.tail ((df.head _).cf LB))))))),?_⟩;refine JE.mk (hJ _ λgs=>?_);have hr:S2 x1=uT t S0 (l3 q):=by
    rw[<-tu]
    funext x
    unfold ax.ite;split<;>rfl
   have wP:x1<2\/x1∈gg\/K0.hold x1=65535:=mC;exact aQ.mk (.skip (.skip .tail)) ⟨K2,S2,gg,τ,bF,vm2,CM2,C2,rfl,⟨jS.ks,jS.c6,jS.mde,_,he,λy hy=>(oq hy).elim (λe=>by rw[e];exact⟨hr,wP⟩) (λhy=>XC y hy)⟩,yM.MO zO,.inl ⟨x1,rfl,hr,wP⟩⟩
  have Ad:bW (uT t S0 (l3 q)) (θ.getD (lv ai v') 0):=by
   rw[Eb];refine xaD λΓ=>hx ?_;refine cY.ok.wf.same cY.ok.lv ad2 l1 l2 λx=>?_;rw[e1,GN,ec,ec];exact(cQ Γ x false).trans (cQ Γ x true).symm
  have b1':=cY.ok.below cY.od (l:=lv ai v'+1) l1 zO (by rw[e1];exact i1);have b2':=cY.ok.below cY.od (l:=lv ai v'+1) l2 zO (by rw[GN];exact i2);have TQ:∀g,aE K0.n θ (λg=>g=ite S2 ⟨v',x1,x2⟩) g->U g:=by rw[tu];exact hU
  refine ae.fq (args:=#[γ bw,iv (v':Int),δ x1,δ x2]) (UY cY (v:=v') (by rw[n2];exact hv.lt) l1 l2 hx ⟨by omega,by omega⟩ jS.mde (by have:=jS.c6.rZ cY;omega)) ?_;rintro w H (⟨r,K3,S3,C3,vm3,CM3,rfl,rfl,kB,mk,XQ⟩|⟨rfl,rfl,hcr,hT⟩|⟨r,rfl,rfl,hlr,QT,hfull,G9⟩)
  ·refine Ext.two λJ hJ=>(ah.iD (Br.T (Ld.q ?_)));refine aB.q ?_;refine aI.M1 (ke:=kq) (k:=q) (vr:=Qs) (x:=r) wH q6 Bz tw rfl λτ bF he=>⟨_,.tail (.tail (.tail (.tail (.tail (.tail (.tail ((df.head _).cf LB))))))),?_⟩;refine JE.mk (hJ _ λgs=>?_);have hr:S3 r=uT t S0 (l3 q):=mk.is.trans tu;have q7:2<=r:=xc9 λh=>by
    obtain⟨x,hx⟩:=Ad;apply hx;rw[<-hr];have hi3:=kB.ok.mid.int;have:r=0\/r=1:=by omega
    rcases this with rfl|rfl
    ·rw[hi3.zero,hi3.zero]
    rw[hi3.one,hi3.one]
   have kL:=jS.c6.step cY mk q7 TQ;have Fx:gE K2 S2 gg K3 S3 (gg++[r]) 1:=⟨mk.N,mk.fn,[r],rfl,xai _⟩;have wP:r<2\/r∈gg++[r]\/K0.hold r=65535:=.inr (.inl zI);refine aQ.mk (.skip (.skip .tail)) ⟨K3,S3,gg++[r],τ,bF,vm3,CM3,C3,rfl,⟨⟨[],kB,.inl rfl⟩,kL,XQ,_,he,λy hy=>(oq hy).elim (λe=>by rw[e];exact⟨hr,wP⟩) (λhy=>?_)⟩,(yM.trans Fx).MO zO,.inl ⟨r,rfl,hr,wP⟩⟩;obtain⟨k1,k2⟩:=XC y hy;exact⟨by rw[Fx.fn y.2 (hkl y hy),k1],k2.imp id (Or.imp Fx.mem id)⟩
  ·refine Ext.two λJ hJ=>(ah.iD (Br.F (JE.mk (hJ _ λgs=>?_))));refine aQ.mk (.skip (.skip .tail)) ⟨K2,S2,gg,ic,iO,vm2,CM2,C2,rfl,jS,yM.MO zO,.inr ⟨rfl,?_⟩⟩;rintro⟨ku,Th,hfit⟩;have:=cY.ok.roomFor cY.od Th (by rw[jS.c6.cap];exact hfit) (by rw[n2];exact jS.c6.U) (d:=⟨v',x1,x2⟩) l1 l2 hx (by rw[n2];exact hv.lt) ⟨by show lv ai v'<ι K2.n (lv ai) K2.N x1;omega,by show lv ai v'<ι K2.n (lv ai) K2.N x2;omega⟩ (TQ _ (by rw[tu];exact pC tv iL Ad)) hT;omega
  refine Ext.two λJ hJ=>(ah.iD (Br.T (Ld.q ?_)));refine aB.q ?_;refine aI.M1 (ke:=kq) (k:=q) (vr:=Qs) (x:=r) wH q6 Bz tw rfl λτ bF he=>⟨_,.tail (.tail (.tail (.tail (.tail (.tail (.tail ((df.head _).cf LB))))))),?_⟩;refine JE.mk (hJ _ λgs=>?_);have hr:S2 r=uT t S0 (l3 q):=G9.trans tu;have wP:r<2\/r∈gg\/K0.hold r=65535:=.inr (jS.c6.full hfull);exact aQ.mk (.skip (.skip .tail)) ⟨K2,S2,gg,τ,bF,vm2,CM2,C2,rfl,⟨jS.ks,jS.c6,jS.mde,_,he,λy hy=>(oq hy).elim (λe=>by rw[e];exact⟨hr,wP⟩) (λhy=>XC y hy)⟩,yM.MO zO,.inl ⟨r,rfl,hr,wP⟩⟩
end
section
variable {kp bw:Nat} {vl vm:zV} {K:Kd} {S:Nat->ax.Fn} {θ ai tr:zL} {C:Hp}
def AI{Y:Hp}{vr:zV}{refs:zL}(hK:bS kp K S θ ai tr C)(hr:di .u32 Y vr (iw refs))(hl:∀r∈refs,live K.N r)(cB:refs.length<=1048576):
  Fc zQ 100 #[γ kp,vr] (Y++C) (λw H=>∃bw vl CL lvl,w=.tuple #[γ bw,iv 0]/\H=gF bw kp vl (.slice none 0 0)::(CL++(Y++C))/\aL 3 .i64 vl (iw lvl) CL/\lvl.length=K.n/\∀v,v<K.n->lvl.getD v 0=lv ai v):=by
 have hn:K.n<=64:=hK.bg.mq;have lB:=hK.od;refine aJ λg=>KI (ah.aK (Br.no (hr.bL ?_)));rw[av];refine⟨λvs H=>∃i:Nat,vs=[iv (i:Int)]/\i<=refs.length/\H=Y++C,λvs _=>refs.length-bH vs 0,JE.mk ⟨0,rfl,xaL _,rfl⟩,?_⟩;rintro w7 H ⟨i,⟨⟩,hi,rfl⟩ gs;refine ah.eA (Br.dec (λη=>?_) (λη=>?_))
 ·have hlr:=hl _ (xaK η);apply hr.ld (n:=((refs[i]:Nat):Int)) (dk (xab η)) (λ_ h=>xad _ h);refine ae.eq (args:=#[γ kp,δ refs[i]]) (jc hK.rep (by have:=hK.bQ hlr;omega)) ?_;rw[cg.2 hlr];refine Ext.two λb15 _=>(St.whole (r:=got K.N refs[i]) (by exact .head _) rfl (aS _ _).1 (aS _ _).2 ?_);exact ah.cM (Br.F (ah.inc (aD.of .tail ⟨i+1,rfl,η,rfl⟩ (by simp only[bH];omega))))
 refine ae.eq (gY hK.rep) (cJ.ints zO zO λbl=>?_);refine Build.mk (cs:=[γ kp,.slice (some ⟨bl,0,none⟩) K.n K.n,.slice none 0 0]) zK λbw _=>?_;apply ae.fq (zN hK.rep);rintro vo H ⟨N,rfl,ho⟩;apply ho.bL;rw[av,lB.len];have hz:List.replicate K.n (0:Int)=iw (List.replicate K.n 0):=by simp[iw]
 have hm:=aL.made (T:=3) (kd:=.i64) (b:=bl) (iw (List.replicate K.n 0));rw[av,xd5]at hm;rw[hz];generalize hvl:Value.slice (some ⟨bl,0,none⟩) K.n K.n=vl at*;refine⟨λvs H=>∃(i:Nat) (L:zL) (CL:Hp),vs=[iv (i:Int)]/\i<=K.n/\H=gF bw kp vl (.slice none 0 0)::(CL++(Y++(N++C)))/\aL 3 .i64 vl (iw L) CL/\L.length=K.n/\∀j,j<i->L.getD (θ.getD j 0) 0=j,λvs _=>K.n-bH vs 0,
  JE.mk ⟨0,_,_,rfl,xaL _,rfl,hm,by simp,λj hj=>absurd hj (xb9 _)⟩,?_⟩
 rintro w34 H ⟨i,L,CL,⟨⟩,hi,rfl,hL,hLl,hLo⟩ gs;refine ah.eA (Br.dec (λη=>?_) (λη=>?_))
 ·have pO:=(lB.bg i η).1;refine ho.ld (x:=((θ.getD i 0:Nat):Int)) (bM (by rw[lB.len];exact η)) (λ_ h=>.tail _ (xaa _ (xaa _ (xad _ h)))) (Ld.n ?_);refine hL.mh (x:=(i:Int)) (.cons .left) (by rw[av];omega) λCL' hL'=>?_;rw[fA]at hL';refine ah.inc (aD.mk ⟨i+1,L.set (θ.getD i 0) i,CL',rfl,η,rfl,hL',by simp[hLl],λj hj=>?_⟩ (by simp only[bH];omega));by_cases e:j=i
  ·subst e;rw[xas,xbo zO];rfl
  have hj':j<i:=by omega
  have ξ:θ.getD i 0≠θ.getD j 0:=λh=>by
   have a:=(lB.bg i η).2;have b:=(lB.bg j zO).2;rw[h,b]at a;exact e a
  rw[xas,xbw ξ,<-xas,hLo j hj']
 obtain rfl:i=K.n:=by omega
 refine aQ.mk (.cons (.cv (.cv .right _) _)) ⟨bw,vl,CL,L,rfl,rfl,hL,hLl,λv hv=>?_⟩;have h1:=hLo (lv ai v) (hK.ok.lv.lt v hv);rwa [lB.of hK.ok.lv hv]at h1
structure MD(K K':Kd)(ν:zL)(x:Nat)(ok:Bool):Prop where
 n:K'.n=K.n
 cap:K'.cap=K.cap
 N:∀s d,K'.N s=some d->K.N s=some d
 hold:∀s,K'.hold s+ν.count s=K.hold s+if ok=true/\s=x/\2<=x then 1 else 0
theorem Yq{X CM:Hp}{ν:zL}{x:Nat}{ok fu:Bool}(hK:bS kp K S θ ai tr C)(hM:aL 78 .u32 vm (iw ν) CM)(hc:∀s,ν.count s<=K.hold s)(h2:∀s∈ν,2<=s)(QN:∀s∈ν,s<4294967296)(hx:ok=true->((x<2\/x∈ν)↔fu=false))(cB:ν.length<=1099511627776):
  Fc zQ 154 #[γ bw,δ x,iv (if ok then 0 else 9)] (gF bw kp vl vm::(X++(CM++C))) (λw H=>∃K' C' cC,w=.tuple #[δ (if ok&& !fu then x else 0),iv (if ok then(if fu then 8 else 0)else 9)]/\H=gF bw kp vl (.slice none 0 0)::(X++(CM++C'))/\bS kp K' S θ ai cC C'/\(cC=[]\/(cC=tr/\((ok&& !fu)=true->ν≠[])))/\MD K K' ν x (ok&& !fu)):=by
 refine aJ λg=>JR (ah.fc (b:=0) (dh.or (decide (x=1)) (λ_=>ah.fc (b:=1) ⟨rfl,rfl⟩) zI λgs=>?_));rw[<-xa6];refine Ld.n (hM.bL ?_);rw[av];refine⟨λvs H=>∃(i:Nat) (Ki:Kd) (Ci:Hp) (YF:zL) (kept:Bool),vs=[.bool kept,iv (i:Int)]/\i<=ν.length/\H=gF bw kp vl vm::(X++(CM++Ci))/\bS kp Ki S θ ai YF Ci/\(YF=[]\/YF=tr)/\Ki.n=K.n/\Ki.cap=K.cap/\(∀s d,Ki.N s=some d->K.N s=some d)/\
   (∀s,Ki.hold s+(ν.take i).count s=K.hold s+if kept=true/\s=x/\2<=x then 1 else 0)/\(x<2->kept=true)/\(kept=true->x<2\/(ok=true/\x∈ν.take i))/\(ok=true->x∈ν.take i->kept=true),λvs _=>ν.length-bH vs 1,
  JE.mk ⟨0,K,C,tr,_,rfl,xaL _,rfl,hK,.inr rfl,rfl,rfl,λ_ _ h=>h,λs=>?_,λh=>xam zO,λh=>.inl (by have:=xb5 h;omega),λ_ h=>by simp at h⟩,?_⟩
 ·rw[xep,xdV,xac (λh=>by have:=xb5 h.1;omega)]
 rintro w13 w14 H ⟨i,Ki,Ci,YF,kept,⟨⟩,hi,rfl,hKi,Xn,hn,hcap,hN,hh,uR,sj,qo⟩ gs;refine ah.eA (Br.dec (λη=>?_) (λη=>?_))
 ·intro J hJ;have nT:ν.take (i+1)=ν.take i++[ν[i]]:=xa8 η;have hfm:ν[i]∈ν:=xaK η;have mD:(ν.take i).count ν[i]+1<=ν.count ν[i]:=by
   have h1:=(xdZ (i+1) ν).count_le ν[i];rw[nT,xbf,List.count_singleton_self]at h1;exact h1
  refine hM.ld (x:=((ν[i]:Nat):Int)) (dk (xab η)) (λ_ h=>.tail _ (xaa _ (xad _ h))) ?_;generalize hf:ν[i]=f at*;refine ah.fc (dh.and (!kept) (λ_=>Un.not ⟨rfl,rfl⟩) zI λgs=>?_);refine dh.and ok (λ_=>ah.iD ⟨rfl,by cases ok<;>rfl⟩) zI λgs=>?_;refine Br.mk (λhb=>?_) (λhb=>?_)
  ·simp only[xaJ,xaM,xbL]at hb;obtain⟨⟨rfl,hkf⟩,hok⟩:=hb;refine JE.mk (hJ _ _ λgs=>?_);refine ah.inc (aD.mk ⟨i+1,Ki,Ci,YF,true,rfl,η,rfl,hKi,Xn,hn,hcap,hN,λs=>?_,λ_=>rfl,λ_=>.inr ⟨hok,by rw[nT];simp⟩,λ_ _=>rfl⟩ (by simp only[bH];omega));have h0:=hh s;rw[nT,xbf,xcN];rw[xac (λh=>by rw[hkf]at h;cases h.1)]at h0;by_cases e:s=f
   ·subst e;have:=h2 s hfm;simp[this];omega
   have:(f==s)=false:=by simpa using λe'=>e e'.symm
   simp[e,this];omega
  refine Ld.n ?_;have hhf:Ki.hold f≠0:=by
   have h0:=hh f;have:=hc f;split at h0<;>omega
  refine ae.fq (args:=#[γ kp,δ f]) (nv hKi (r:=f) (QN f hfm) (λ_=>hhf)) ?_;rintro w C2 ⟨rfl,K2,cY,f2⟩;refine JE.mk (hJ _ _ λgs=>?_);refine ah.inc (aD.mk ⟨i+1,K2,C2,[],kept,rfl,η,rfl,cY,.inl rfl,f2.n.trans hn,f2.cap.trans hcap,λs d hd=>hN s d (f2.N s d hd),λs=>?_,uR,λh=>(sj h).imp id (λh=>⟨h.1,by rw[nT];exact xad _ h.2⟩),λh1 h3=>?_⟩ (by simp only[bH];omega))
  ·have h0:=hh s;rw[f2.hold,nT,xbf,xcN];by_cases e:s=f
   ·subst e;have:=h2 s hfm;simp[this];omega
   have:(f==s)=false:=by simpa using λe'=>e e'.symm
   simp[e,this];omega
  rw[nT,xao,xaE]at h3;rcases h3 with h3|h3
  ·exact qo h1 h3
  subst h3;cases hkk:kept
  ·rw[hkk,h1]at hb;simp at hb
  rfl
 obtain rfl:i=ν.length:=by omega
 rw[xa7]at hh sj qo;refine Nil.γ (aj.mk (St.one (by exact .head _) rfl zI rfl ?_));intro J hJ;refine ah.cM ?_;cases ok with
 |false=>
  refine Br.T ?_;have hE:MD K Ki ν x false:=⟨hn,hcap,hN,λs=>by
   have h0:=hh s;rw[xac (λh=>by cases h.1)];rw[xac (λh=>by
    rcases sj h.1 with h3|h3
    ·omega
    cases h3.1)]at h0
   exact h0⟩
  refine aQ.here ⟨Ki,Ci,YF,?_,rfl,hKi,Xn.imp id λh=>⟨h,λh=>by cases h⟩,hE⟩;rfl
 |true=>
  have hx:=hx rfl;cases fu with
  |true=>
   have hkf:kept=false:=by
    cases hkk:kept
    ·rfl
    have:(true=false):=hx.1 ((sj hkk).imp id λh=>h.2);cases this
   refine Br.F ?_;rw[hkf];refine Un.not (Br.yes (aQ.here ⟨Ki,Ci,YF,rfl,rfl,hKi,Xn.imp id λh=>⟨h,λh=>by cases h⟩,⟨hn,hcap,hN,λs=>?_⟩⟩));have h0:=hh s;rw[hkf]at h0;rw[xac (λh=>by cases h.1)]at h0⊢;exact h0
  |false=>
  have hx:=hx.2 rfl;have Eg:kept=true:=by
   rcases hx with h|h
   ·exact uR h
   exact qo rfl h
  refine Br.F ?_;rw[Eg];refine Un.not (Br.no ?_);have hE:∀K3:Kd,K3.n=Ki.n->K3.cap=Ki.cap->K3.N=Ki.N->(∀s,K3.hold s=Ki.hold s)->MD K K3 ν x true:=λK3 a1 a2 a3 a4=>⟨a1.trans hn,a2.trans hcap,by rw[a3];exact hN,λs=>by rw[a4,hh s,Eg]⟩;refine ah.fc (b:=0) (dh.or (decide (x=1)) (λ_=>ah.fc (b:=1) ⟨rfl,rfl⟩) zI λgs=>?_);rw[<-xa6];refine Br.dec (λOm=>?_) (λOm=>?_)
  ·refine Ld.n ?_;refine ae.fq (nh hKi (r:=x) (.inl zO) (λh=>by omega)) ?_;rintro w C3 ⟨rfl,K3,kB,mo⟩;refine JE.mk (hJ _ λgs=>aQ.here ⟨K3,C3,[],by simp,rfl,kB,.inl rfl,hE K3 mo.n mo.cap mo.N λs=>?_⟩);rw[mo.hold,xac zO]
  refine JE.mk (hJ _ λgs=>aQ.here ⟨Ki,Ci,YF,by simp,rfl,hKi,Xn.imp id λh=>⟨h,λ_ hm=>?_⟩,hE Ki rfl rfl rfl λ_=>rfl⟩);rcases hx with h|h
  ·omega
  rw[hm]at h;cases h
end
def ac3{α:Type}(a b c d e f g h:α)(L R:List α):(a::b::c::d::e::f::g::h::(L++R)).Perm (g::d::e::b::h::f::a::(L++c::R)):=by
 classical
 rw[xcz];intro x;simp only[xbf,xca];omega
def abU(kp:Nat)(K:Kd)(S:Nat->ax.Fn)(θ ai tr:zL)(f:ax.Fn)(w:zV)(H:Hp):Prop:=
 (∃x K' S',w=.tuple #[δ x,iv 0]/\bS kp K' S' θ ai [] H/\gn K S K' S' f x)\/
 (w=.tuple #[δ 0,iv 9]/\(∃K' S' cC,bS kp K' S' θ ai cC H/\(cC=[]\/cC=tr)/\Kept K S K' S')/\¬Fits (aE K.n θ (λg=>K.held S g\/g=f)) K.cap)
def kH(kp:Nat)(K:Kd)(S:Nat->ax.Fn)(θ ai tr:zL)(f:ax.Fn)(w:zV)(H:Hp):Prop:=
 abU kp K S θ ai tr f w H\/(w=.tuple #[δ 0,iv 8]/\(∃K' S' cC,bS kp K' S' θ ai cC H/\(cC=[]\/cC=tr)/\Kept K S K' S')/\∃r,2<=r/\K.hold r=65535/\S r=f)
section
variable {kp bw:Nat} {vl fv:zV} {K:Kd} {S:Nat->ax.Fn} {θ ai tr lvl:zL} {LB CL C:Hp} {t:Bool->Bool->Bool->Bool}
theorem Mo(hK:bS kp K S θ ai tr C)(BQ:Ck fv LB t)(Zq:aL 3 .i64 vl (iw lvl) CL)(nL:lvl.length=K.n)(hlv:∀v,v<K.n->lvl.getD v 0=lv ai v)(q:Q3)(hq:∀r∈l3 q,live K.N r){c:Nat}(hT:Tree K.n (lv ai) K.N (l3 q) c):
  Fc zQ 101 #[γ bw,kq q,fv] (LB++(gF bw kp vl (.slice none 0 0)::(CL++C))) (kH kp K S θ ai tr (uT t S (l3 q))):=by
 have hrb:aW zQ 155=true:=by kernel_rfl
 obtain⟨fl,ai3,an8,Tp,hfr⟩:=BQ.is;refine aJ λg=>KH λb1 _ b3 _ b5 _ b7 _ b9 _ bm _ jx _=>?_;refine St.one (by exact .head _) rfl zI rfl ?_;intro sN _;refine St.one (by exact .head _) rfl zI rfl ?_;refine Ld.q ?_;refine aB.q ?_;refine aM.of rfl hrb (ae.pre (H':=(b9,.cells #[iv 0] 27 zZ)::(b7,.cells #[.int .u32 0] 78 zZ)::Zs jx b1 b5 sN bm bw kp fv vl (.slice none 0 0) LB CL [] C #[] 0) ?_ ?_)
 ·rw[Tp];exact(aO.perm (ac3 _ _ _ _ _ _ _ _ _ _)).trans .tail
 have lB:=hK.od;have lY:=hK.ok.wf;have j5:=hK.ok.lv;have p9:=hK.ok.mid.int;have hS:Stp kp K S (aE K.n θ (λg=>K.held S g\/g=uT t S (l3 q))) θ ai tr t K S [] #[] 0 (.slice none 0 0) [] C:=
  ⟨⟨tr,hK,.inr ⟨rfl,rfl⟩⟩,.refl λg hg=>aX (λg h=>.inl h) hg,aL.nil,[],aI.empty,λy hy=>by cases hy⟩
 refine ae.fq (args:=#[kq q,γ jx,γ b1,γ b5,γ sN]) (abr hrb BQ Zq nL hlv hK.bg.mq lY p9 j5 (λr hr=>by have:=hK.bQ hr;omega) (λs hs=>.inr (hK.ok.mid.held s zO)) (ZR:=tr) (l3 q) c hT q rfl K S [] #[] 0 (.slice none 0 0) [] C hS hq (λg hg=>aX (λg h=>.inr h) hg)) ?_;rintro w H ⟨K1,S1,ν,es,ck,vm,CM,C1,rfl,Fw,hA,TL⟩;obtain⟨YG,dR,Xo⟩:=Fw.ks;have kL:=Fw.c6;have hmx:=kL.rZ dR;have ahH:∀s∈ν,s<4294967296:=λs hs=>by have:=dR.bQ (kL.iK dR hs);omega
 have hmc:∀s,ν.count s<=K1.hold s:=λs=>by rw[kL.hold];omega
 have fin:∀(x:Nat) (ok fu:Bool),w=.tuple #[δ (if ok then x else 0),iv (if ok then 0 else 9)]->(ok=true->((x<2\/x∈ν)↔fu=false))->(∀K2 C2 Fm,bS kp K2 S1 θ ai Fm C2->(Fm=[]\/(Fm=YG/\((ok&& !fu)=true->ν≠[])))->MD K1 K2 ν (if ok then x else 0) (ok&& !fu)->kH kp K S θ ai tr (uT t S (l3 q)) (.tuple #[δ (if ok&& !fu then(if ok then x else 0)else 0),iv (if ok then(if fu then 8 else 0)else 9)]) C2)->(ok=false->x=0)->
   Ext 0 w λv23=>Ext 1 w λv24=>St 1 ((b9,.cells #[iv 0] 27 zZ)::(b7,.cells #[.int .u32 0] 78 zZ)::Zs jx b1 b5 sN bm bw kp fv vl vm LB CL CM C1 es ck) (γ b7) v23 λH25=>St 1 H25 (γ b9) v24 λH26=>
   kJ zQ g 153 #[γ b1,γ b7,γ b9] H26 λH27=>Ld H27 (γ b7) λv28=>Ld H27 (γ b9) λv29=>aQ (kH kp K S θ ai tr (uT t S (l3 q))) (.returned (.tuple #[v28,v29])) H27:=by
  intro x ok fu hw hx hd h0;subst hw;refine Ext.two (St.one (by exact .tail (.head _)) rfl zI rfl ?_);refine St.one (by exact .head _) rfl zI rfl ?_;refine Fg (R:=_) ?_;unfold L153;refine Ld.q ?_;refine Ld.q ?_;refine Ld.q ?_;refine ae.fq (Yq (X:=CL) (x:=if ok then x else 0) (ok:=ok) (fu:=fu) dR Fw.mde hmc kL.two ahH (λh=>by rw[xae h];exact hx h) zO) ?_;rintro w H ⟨K2,C2,Fm,rfl,rfl,cY,uM,hE⟩;refine Ext.two (St.one (by exact .tail (.head _)) rfl zI rfl ?_);refine St.one (by exact .head _) rfl zI rfl ?_;refine⟨⟨_,rfl⟩,?_⟩;refine Ld.q ?_;refine Ld.q ?_;exact aQ.mk (.skip (.skip (.skip (.skip (.skip (.skip (aO.right.trans (.skip (.skip (aO.right.trans .right)))))))))) (hd K2 C2 Fm cY uM hE)
 have rD:∀s,K.hold s≠0->live K.N s:=λs hs=>.inr (hK.ok.mid.held s hs);rcases TL with⟨x,rfl,hx,hxm⟩|⟨rfl,Γ⟩
 ·by_cases hxk:x<2\/x∈ν;rotate_left
  ·have GN:2<=x:=by omega
   have hfull:K.hold x=65535:=by
    rcases hxm with h|h|h
    ·exact absurd (.inl h) hxk
    ·exact absurd (.inr h) hxk
    exact h
   refine fin x true true rfl (λ_=>⟨λh=>absurd h hxk,λh=>by cases h⟩) (λK2 C2 Fm cY uM hE=>.inr ⟨rfl,⟨K2,S1,Fm,cY,?_,?_⟩,x,GN,hfull,?_⟩) (λh=>by cases h)
   ·rcases uM with h|⟨h,_⟩
    ·exact .inl h
    rcases Xo with h2|⟨h2,_⟩
    ·exact .inl (h.trans h2)
    exact .inr (h.trans h2)
   ·have gh:∀s,K2.hold s=K.hold s:=λs=>by
     have a:=hE.hold s;have b:=kL.hold s;rw[xac (λh=>by cases h.1)]at a;omega
    refine⟨hE.n.trans kL.n,hE.cap.trans kL.cap,gh,λg=>?_,λr hr=>kL.fn r (rD r hr)⟩;constructor
    ·rintro⟨s,hs,rfl⟩;have μ:K.hold s≠0:=by rw[<-gh];exact hs
     exact⟨s,μ,kL.fn s (rD s μ)⟩
    rintro⟨s,hs,rfl⟩;exact⟨s,by show K2.hold s≠0;rw[gh];exact hs,(kL.fn s (rD s hs)).symm⟩
   rw[<-hx];exact(kL.fn x (rD x zO)).symm
  refine fin x true false rfl (λ_=>⟨λ_=>rfl,λ_=>hxk⟩) (λK2 C2 Fm cY uM hE=>.inl (.inl ⟨x,K2,S1,rfl,?_,?_⟩)) (λh=>by cases h)
  ·have:Fm=[]:=by
    rcases uM with h|⟨h,h'⟩
    ·exact h
    rcases Xo with h2|⟨_,h2⟩
    ·rw[h,h2]
    exact absurd h2 (h' rfl)
   rw[this]at cY;exact cY
  have gh:∀s,K2.hold s=K.hold s+if s=x/\2<=x then 1 else 0:=λs=>by
   have a:=hE.hold s;have b:=kL.hold s;simp only[xct,xd2,xa5,xco]at a;omega
  have hl:live K2.N x:=by
   by_cases h2:x<2
   ·exact .inl h2
   refine .inr (cY.ok.mid.held x ?_);rw[gh,xae ⟨rfl,by omega⟩];omega
  exact⟨hE.n.trans kL.n,hE.cap.trans kL.cap,λs d hs=>kA hK.ok cY.ok (λs h=>by rw[gh];omega) (λs d d' h h'=>by
   have a:=hE.N s d' h';rw[kL.N s d h]at a;exact(xbb a).symm) _ s d hs (xai _),λs hs=>kL.fn s hs,hl,hx,gh⟩
 refine fin 0 false false rfl (λh=>by cases h) (λK2 C2 Fm cY uM hE=>.inl (.inr ⟨rfl,⟨K2,S1,Fm,cY,?_,?_⟩,Γ⟩)) (λ_=>rfl)
 ·rcases uM with h|⟨h,_⟩
  ·exact .inl h
  rcases Xo with h2|⟨h2,_⟩
  ·exact .inl (h.trans h2)
  exact .inr (h.trans h2)
 have gh:∀s,K2.hold s=K.hold s:=λs=>by
  have a:=hE.hold s;have b:=kL.hold s;rw[xac (λh=>by cases h.1)]at a;omega
 refine⟨hE.n.trans kL.n,hE.cap.trans kL.cap,gh,λg=>?_,λr hr=>kL.fn r (rD r hr)⟩;constructor
 ·rintro⟨s,hs,rfl⟩;have μ:K.hold s≠0:=by rw[<-gh];exact hs
  exact⟨s,μ,kL.fn s (rD s μ)⟩
 rintro⟨s,hs,rfl⟩;exact⟨s,by show K2.hold s≠0;rw[gh];exact hs,(kL.fn s (rD s hs)).symm⟩
end
end
end Go.Proofs
namespace Go.Sx
open Go
variable{P:Program}{g:Gh}
section
def Build.three{t e:TypeId}{q:IntKind}{x y z:Int}{K:zV->Prop}(ht:P.underlying t=some (.array 3 e))(hz:dm P e=some 1)(h0:fh P t=some (.agg (az q [0,0,0])))(h:K (.agg (az q [x,y,z]))):
  Build P t [(0,.int q x),(1,.int q y),(2,.int q z)] K:=by refine⟨_,λw=>?_,h⟩;obtain⟨i,hi,hs⟩:=bJ hz;obtain⟨i0,GW,YY⟩:=cL h0;simp only[Instr.build,Sem.run_bind,dY GW YY,Result.andThen_ok,run_underlying ht,run_sizeOf hi,hs];simp[Instr.fill,Value.cells,az]
def Build.acT{t e:TypeId}{q:IntKind}{x y:Int}{K:zV->Prop}(ht:P.underlying t=some (.array 3 e))(hz:dm P e=some 1)(h0:fh P t=some (.agg (az q [0,0,0])))(h:K (.agg (az q [x,y,0]))):
  Build P t [(0,.int q x),(1,.int q y)] K:=by refine⟨_,λw=>?_,h⟩;obtain⟨i,hi,hs⟩:=bJ hz;obtain⟨i0,GW,YY⟩:=cL h0;simp only[Instr.build,Sem.run_bind,dY GW YY,Result.andThen_ok,run_underlying ht,run_sizeOf hi,hs];simp[Instr.fill,Value.cells,az]
end
end Go.Sx
