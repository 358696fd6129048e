import Derived.Test.YtgeffephefcdiaaGreatK2
import Derived.Sort.AssemblyPlain
import Derived.Test.YtgeffephefcdiaaGreatK1
import Derived.Test.YtgeffephefcdiaaGreatProg
import Derived.RangeFuncIn
import Derived.RangeFuncLeaves
import Derived.RangeFuncRecord
import Derived.RangeFuncSeq
set_option linter.unusedVariables false
set_option linter.unusedSimpArgs false
set_option linter.unusedSectionVars false
set_option maxRecDepth 100000
namespace Go.Proofs
open Go Go.Sx Tryz
section
open aA
section
variable {kp:Nat} {K:Kd} {ord ah tr:zL} {C:Hp} {S:Nat->aA.Fn}
theorem Wj(B:Hp)(v:Int)(r:Nat)(kv:zV):Rd zQ 299 #[kv,iv v,u32 r,u32 r] B (· =u32 r):=by
 exact aE λg=>qy (ae.eR (Br.T (bg.mk (.refl _) rfl)))
theorem Wl(h:cS kp K ord ah tr C){v lo hi r:Nat}(hne:lo≠hi)(hv:v<K.n)(hT:K.T ⟨v,lo,hi⟩=some r):
  Rd zQ 299 #[ptr kp,iv (v:Int),u32 lo,u32 hi] C (· =u32 r):=by
 obtain⟨b,rfl,hO⟩:=h;refine aE λg=>qy (ae.eR (Br.SO hne (Build.mk (cs:=bu ⟨v,lo,hi⟩) zK ?_)));intro b3 _;refine St.p (λx hx=>by simp[bu,u32]at hx;rcases hx with rfl|rfl|rfl<;>rfl) ?_;refine DR.self (Nil.ptr (Ld.f ?_));refine ay.q ?_;refine aa.eq (uK (d:=⟨v,lo,hi⟩) hO.ut hv) ?_;rw[hT];exact⟨.refl _,Ext.mk rfl (Ext.mk rfl (Br.yes (bg.mk .tail rfl)))⟩
theorem Wk(h:cS kp K ord ah tr C){d:Nd}(hne:d.lo≠d.hi)(hd:NOk K.N d)(hv:d.v<K.n)(hT:K.T d=none)(hroom:K.used<K.cap)(hlo:d.lo<2\/d.lo<K.us.length)(hhi:d.hi<2\/d.hi<K.us.length)
 (hb:∀s,K.use s+2<2147483648):
  Fc zQ 299 #[ptr kp,iv (d.v:Int),u32 d.lo,u32 d.hi] C (λv C'=>∃r dz cv,v=u32 r/\K.N r=none/\2<=r/\r<K.cap/\dz.length=cv.length/\r<dz.length/\K.us.length<=dz.length/\dz.getD r 0=0/\
   (∀s,2<=s->s≠r->dz.getD s 0=K.use s+e1 (some d) s)/\(∀s,s<2->dz.getD s 0=K.use s)/\cv.getD r 0=0/\(∀s,s≠r->cv.getD s 0=K.hold s)/\
   cS kp {K with N:=up K.N r (some d),T:=qI K.T d (some r),used:=K.used+1,us:=dz,ho:=cv} ord ah tr C'):=by
 have h0:=h;obtain⟨b,rfl,hO⟩:=h;refine aE λg=>qy (ae.eR (Br.SO hne (Build.mk (cs:=bu d) zK ?_)));intro b3 _;refine St.p (λx hx=>by simp[bu,u32]at hx;rcases hx with rfl|rfl|rfl<;>rfl) ?_;refine DR.self (Nil.ptr (Ld.f ?_));refine ay.q ?_;refine aa.eq (uK (d:=d) hO.ut hv) ?_;rw[hT];refine⟨.refl _,Ext.mk rfl (Ext.mk rfl (Br.no ?_))⟩;refine ay.q ?_;refine aa.fq (KE h0 hd hv hT hroom hlo hhi hb) ?_;rintro v C' ⟨r,dz,cv,rfl,hh⟩;exact aM.mk .tail ⟨r,dz,cv,rfl,hh⟩
structure yl(K' K:Kd):Prop where
 N:∀{s d},K'.N s=some d->K.N s=some d
 n:K'.n=K.n
 cap:K'.cap=K.cap
 ho:K'.ho=K.ho
 us:∀s,K'.use s<=K.use s
 idle:(∀s,K.N s=none->K.use s=0)->∀s,K'.N s=none->K'.use s=0
theorem yl.refl(K:Kd):yl K K:=⟨λh=>h,rfl,rfl,rfl,λ_=>xaj _,λh=>h⟩
theorem yl.trans{A B C:Kd}(h:yl A B)(h':yl B C):yl A C:=⟨λx=>h'.N (h.N x),h.n.trans h'.n,h.cap.trans h'.cap,h.ho.trans h'.ho,λs=>xbw (h.us s) (h'.us s),λhi=>h.idle (h'.idle hi)⟩
def PL(P:Nat->Nat)(N:eA):Prop:=∀t,2<=t->0<P t->∃d,N t=some d
def gU(P0:Nat->Nat)(l:zL):Nat->Nat:=λs=>P0 s+l.count s
theorem N8{P0:Nat->Nat}{l:zL}{t:Nat}:up (gU P0 (l++[t])) t (gU P0 (l++[t]) t-1)=gU P0 l:=by
 funext s
 unfold up gU;split
 ·rename_i e;subst e;simp
 rename_i e;simp[xbf,xcG,xa9 e]
theorem mH{P0:Nat->Nat}(h:cS kp K ord ah tr C){r:Nat}(hm:jO K S iP (gU P0 [r]))(hp:Pos K)(hl:PL (gU P0 [r]) K.N)(hr:r<1048576)(hbu:∀s,K.use s<2147483648):
  Fc zQ 199 #[ptr kp,u32 r] C (λv C'=>v=.tuple #[]/\∃K',cS kp K' ord ah tr C'/\jO K' S iP P0/\Pos K'/\PL P0 K'.N/\yl K' K):=by
 refine aE λg=>Jm (au.int (e:=110) zK zK zK λbx=>?_);refine abe (λk vs H=>∃(w:zV) (Ct C':Hp) (todo:zL) (K':Kd),vs=[w]/\H=Ct++C'/\aO 110 .u32 w (iw todo) Ct/\cS kp K' ord ah tr C'/\jO K' S iP (gU P0 todo)/\Pos K'/\PL (gU P0 todo) K'.N/\yl K' K/\(∀t∈todo,t<1048576)/\k=3*K'.used+todo.length/\k<=3*K.used+1)
  _ ⟨_,[_],C,[r],K,rfl,rfl,aO.made [(r:Int)],h,hm,hp,hl,.refl K,by simpa using hr,rfl,by simp⟩ ?_
 rintro w H hJ gs;obtain⟨k,⟨w',Ct,C',todo,K',hw,rfl,ht,hK,hM,Sn,Pr,pO,hT,hk,hkb⟩,hkm⟩:=hJ.open;simp only[xau,xa1]at hw;subst hw;refine ht.bP ?_;rw[aq];refine ae.ny (b:=0) (Br.dec (λhpos=>?_) (λhpos=>?_))
 ·have hc1:=hm.cap;obtain⟨pre,t,rfl⟩:∃pre t,todo=pre++[t]:=⟨todo.dropLast,todo.getLast (by intro e;simp[e]at hpos),(xeb _).symm⟩;have htl:(pre++[t]).length=pre.length+1:=by simp
  have TT:=hT t zI;refine ht.bP ?_;rw[aq,htl];refine ae.xS (b:=1) ?_ zO ?_
  ·simp[bF];omega
  rw[xb5];refine ht.ld (i:=pre.length) (x:=(t:Int)) (by rw[cg];simp[iw]) (bG.sub .left) (ht.cut (i:=pre.length) zI λw' ht'=>?_);have RA:aO 110 .u32 w' (iw pre) Ct:=by
   rw[cg,xey zI]at ht';exact ht'
  have hTp:∀s∈pre,s<1048576:=λs hs=>hT s (xad _ hs);refine ae.BH (b:=1) (Br.dec (λh1=>?_) (λh1=>?_))
  ·have hc:∀s,2<=s->gU P0 (pre++[t]) s=gU P0 pre s:=λs hs=>by
    unfold gU;rw[xbf,xcG];simp;omega
   exact oq.back (.refl _) hkm (3*K'.used+pre.length) ⟨w',Ct,C',pre,K',rfl,rfl,RA,hK,hM.congr (λ_=>xcT) hc,Sn,λs hs h0=>Pr s hs (by rw[hc s hs];exact h0),pO,hTp,rfl,by simp at hk;omega⟩ (by rw[hk];simp)
  have hPt:0<gU P0 (pre++[t]) t:=by unfold gU;simp;omega
  obtain⟨d,hd⟩:=Pr t zO hPt;have hfit:=hM.fit hd;have YT:=Sn t d hd;obtain⟨b,rfl,hO⟩:=hK;refine Nil.ptr (Ld.f ?_);refine hO.us.ld (x:=((K'.use t:Nat):Int)) (bH hfit) (bG.sub (.app (.cons (.app (.app .left))))) (ae.xS (b:=1) ?_ zO ?_)
  ·have:=pO.us t;have:=hbu t;simp[bF];omega
  refine hO.us.nt (x:=((K'.use t-1:Nat):Int)) (.app (.cons (.app (.app .left)))) (by simpa using hfit) λUa A1=>?_;rw[fi]at A1;have g1:∀s,(K'.us.set t (K'.use t-1)).getD s 0=if s=t then K'.use t-1 else K'.use s:=λs=>gQ hfit
  have NG:=hM.less (r:=t) (dz:=K'.us.set t (K'.use t-1)) hPt zI (by rw[g1,xae rfl];omega) (λs hs=>by rw[g1,xac hs]);rw[N8]at NG;have XK:Z4 {b with CU:=Ua} {K' with us:=K'.us.set t (K'.use t-1)} ord ah tr:={hO with us:=A1,ul:=by simp;exact hO.ul};have So:yl {K' with us:=K'.us.set t (K'.use t-1)} K:=⟨pO.N,pO.n,pO.cap,pO.ho,λs=>by
   show(K'.us.set t (K'.use t-1)).getD s 0<=_;rw[g1];have:=pO.us s;split
   ·rename_i e;subst e;omega
   ·exact this,λhi s hs=>by
   show(K'.us.set t (K'.use t-1)).getD s 0=0;have hs':K'.N s=none:=hs;rw[g1,xac (λe=>by subst e;rw[hd]at hs';cases hs')];exact pO.idle hi s hs'⟩
  have acH:PL (gU P0 pre) K'.N:=λs hs h0=>Pr s hs (by unfold gU at h0⊢;rw[xbf];omega);refine Nil.ptr (Ld.f ?_);refine A1.ld (x:=((K'.use t-1:Nat):Int)) (by rw[<-fi];simp[hfit]) (bG.sub (.app (.cons (.app (.app .left))))) ?_;refine ae.ny (b:=0) (Br.dec (λh3=>?_) (λh3=>?_))
  ·refine oq.back (.refl _) hkm (3*K'.used+pre.length) ⟨w',Ct,_,pre,_,rfl,rfl,RA,⟨_,rfl,XK⟩,NG,λs e hs=>?_,acH,So,hTp,rfl,by simp at hk;omega⟩ (by rw[hk];simp);show 0<(K'.us.set t (K'.use t-1)).getD s 0;rw[g1];split
   ·exact h3
   exact Sn s e hs
  have hu0:K'.use t=1:=by omega
  have eW:cS kp {K' with us:=K'.us.set t (K'.use t-1)} ord ah tr (({b with CU:=Ua}:uz).hp kp K'.n):=⟨_,rfl,XK⟩;refine aa.eq (nV eW zO) ?_;have Sr:2<=t:=by omega
  have afL:got K'.N t=bu d:=dV hd Sr;show Ow _ _ _;intro b32 _;rw[afL];refine St.p (λx hx=>by simp[bu,u32]at hx;rcases hx with rfl|rfl|rfl<;>rfl) ?_;refine DR.self (Nil.ptr (Ld.f ?_));refine ay.q ?_;have hTd:K'.T d=some t:=(hM.j9 d t).2 ⟨hd,λh=>h⟩;refine aa.fq (yJ XK.ut (hM.var hd) hTd) ?_;rintro v CT' ⟨rfl,YK⟩;refine Nil.ptr (Ld.f ?_);refine aa.fq (Tx XK.ar ⟨d,hd⟩ Sr) ?_;rintro v CA' ⟨rfl,har⟩;refine Ld.f ?_;refine Ld.f ?_;refine au.Rj (e:=110) zK zK zK λbz=>?_;refine RA.XT (.cons (.cons .left)) (dk.block (l:=[(d.lo:Int),(d.hi:Int)]) (by exact .head _) zI) (by simp at hk⊢;omega) (by simp at hk⊢;omega) λw2 Ct2 Rz=>?_;have e0:iw pre++[(d.lo:Int),(d.hi:Int)]=iw (pre++[d.lo,d.hi]):=by rw[cg];rfl
  rw[e0]at Rz;have F0:({K' with us:=K'.us.set t (K'.use t-1)}:Kd).use t=0:=by show(K'.us.set t (K'.use t-1)).getD t 0=0;rw[g1,xae rfl];omega
  have Lu:=NG.free (r:=t) (d:=d) hd (λh=>h) F0;have hed:dx K'.N t K'.cap=0:=by have:=NG.use hd;rw[F0]at this;exact(by have h5:dx K'.N t K'.cap+_+_=0:=this.symm;omega)
  have fN:=jY hed t (hM.two hd).2 d hd;have ago:gU P0 pre t=0:=by have:=NG.use hd;rw[F0]at this;omega
  have hroom:0<K'.used:=by have:=hM.room;omega
  have hlt:∀x,live K'.N x->x<1048576:=λx hx=>eW.lt hx;have l6:∀s,2<=s->gU P0 pre s+e1 (some d) s=gU P0 (pre++[d.lo,d.hi]) s:=λs _=>by
   unfold gU;rw[eu,xbf,xb3,xb3,xdK];simp only[xcO];omega
  refine oq.back (.skip (.skip (.refl _))) hkm (3*(K'.used-1)+(pre++[d.lo,d.hi]).length) ⟨w2,Ct2,_,pre++[d.lo,d.hi],{K' with us:=K'.us.set t (K'.use t-1),N:=up K'.N t none,T:=qI K'.T d none,used:=K'.used-1},rfl,rfl,Rz,
   ⟨{b with CU:=Ua,CT:=CT',CA:=CA'},rfl,{XK with ar:=har,ut:=YK}⟩,Lu.congr (λ_=>xcT) l6,λs e hs=>?_,λs hs h0=>?_,⟨λ{s e} hs=>?_,So.n,So.cap,So.ho,So.us,λhi s hs=>?_⟩,λs hs=>?_,rfl,by simp at hk⊢;omega⟩ (by simp at hk⊢;omega)
  ·have hne:s≠t:=λe2=>by subst e2;have sK:up K'.N s none s=some e:=hs;rw[aP]at sK;cases sK
   show 0<(K'.us.set t (K'.use t-1)).getD s 0;rw[g1,xac hne];have sK:up K'.N t none s=some e:=hs;rw[aS hne]at sK;exact Sn s e sK
  ·have hne:s≠t:=λe2=>by
    subst e2;rw[<-l6 s hs,ago]at h0;rw[eu,xac fN.1,xac fN.2]at h0;omega
   show∃e,up K'.N t none s=some e;rw[aS hne];rw[<-l6 s hs]at h0;by_cases h5:0<gU P0 pre s
   ·exact acH s hs h5
   rw[eu]at h0;have:d.lo=s\/d.hi=s:=by
    by_cases h6:d.lo=s
    ·exact .inl h6
    by_cases h7:d.hi=s
    ·exact .inr h7
    rw[xac h6,xac h7]at h0;omega
   rcases this with rfl|rfl
   ·rcases hM.lo hd with h8|h8
    ·omega
    exact h8
   rcases hM.hi hd with h8|h8
   ·omega
   exact h8
  ·have sK:up K'.N t none s=some e:=hs;by_cases e2:s=t
   ·subst e2;rw[aP]at sK;cases sK
   rw[aS e2]at sK;exact pO.N sK
  ·have sK:up K'.N t none s=none:=hs;show(K'.us.set t (K'.use t-1)).getD s 0=0;by_cases e2:s=t
   ·subst e2;rw[g1,xae rfl];omega
   rw[aS e2]at sK;exact So.idle hi s sK
  rcases xao.1 hs with hs|hs
  ·exact hTp s hs
  simp at hs;rcases hs with rfl|rfl
  ·exact hlt _ (hM.lo hd)
  exact hlt _ (hM.hi hd)
 obtain rfl:todo=[]:=xbV zO;exact aM.mk .right ⟨rfl,K',hK,hM.congr (λ_=>xcT) (λs _=>by simp[gU]),Sn,λs hs h0=>Pr s hs (by simpa[gU]using h0),pO⟩
end
abbrev lv(ah:zL):Nat->Nat:=λv=>ah.getD v 0
section
variable {kp:Nat} {K:Kd} {ord ah tr:zL} {C:Hp} {S:Nat->aA.Fn}
theorem rz(h:cS kp K ord ah tr C)(v:Int):Rd zQ 210 #[ptr kp,iv v] C (· =.bool (decide (0<=v/\v<K.n))):=by
 obtain⟨b,rfl,hO⟩:=h;refine aE λg=>Jc (ae.geq (dc.and (decide (v<K.n)) (λ_=>?_) rfl λ_=>bg.mk (.refl _) (by rw[xcU])));refine Nil.ptr (Ld.f ?_);exact ae.lss ⟨rfl,rfl⟩
theorem y9(h:cS kp K ord ah tr C){r:Nat}(hl:live K.N r)(hv:∀d,K.N r=some d->d.v<K.n)(h01:r<2->K.N r=none):Rd zQ 319 #[ptr kp,u32 r] C (· =iv ((dep K.n (lv ah) K.N r:Nat):Int)):=by
 have h0:=h;have hr:=h.lt hl;obtain⟨b,rfl,hO⟩:=h;refine aE λg=>Ib (Nil.ptr (ai.mk (aa.eq (nV h0 zO) ?_)));intro b5 _;refine St.whole (r:=got K.N r) (by exact .head _) rfl (aQ _ _).1 (aQ _ _).2 ?_;by_cases h2:r<2
 ·rw[fG h2,aU (h01 h2)];refine Ld.f ?_;refine ae.geq (Br.no' zD (Nil.ptr (Ld.f ?_)));exact bg.mk .tail rfl
 obtain⟨d,hd⟩:∃d,K.N r=some d:=by rcases hl with hl|hl;omega;exact hl
 rw[dV hd zO,an hd];have kY:=hv d hd;have hlen:=hO.ol.2;refine Ld.f ?_;refine ae.geq (Br.Ub zI (Nil.ptr (Ld.f ?_)));refine Ld.f ?_;exact hO.lv.ld (x:=((ah.getD d.v 0:Nat):Int)) (bH zO) (bG.sub (.cons (.cons (.app (.app (.app (.app (.app .left)))))))) (bg.mk .tail rfl)
def pQ(K:Kd)(ah:zL)(v:Int)(lo hi:Nat):Int:=
 if¬(0<=v/\v<K.n)then 2 else if gD K.N lo=false\/gD K.N hi=false then 3 else if lo≠hi/\min (dep K.n (lv ah) K.N lo) (dep K.n (lv ah) K.N hi)<=ah.getD v.toNat 0 then 4 else 0
theorem LD(h:cS kp K ord ah tr C)(v:Int){lo hi:Nat}(hlo:lo<4294967296)(hhi:hi<4294967296)(hv:∀r d,K.N r=some d->d.v<K.n/\2<=r):
  Rd zQ 243 #[ptr kp,iv v,u32 lo,u32 hi] C (· =iv (pQ K ah v lo hi)):=by
 have h0:=h;have h01:∀r,r<2->K.N r=none:=λr hr=>by
  cases e:K.N r with
  |none=>rfl
  |some d=>have:=(hv r d e).2;omega
 obtain⟨b,rfl,hO⟩:=h;refine aE λg=>I9 (aa.eq (rz h0 v) (Un.not ?_));by_cases FZ:0<=v/\v<K.n;rotate_left
 ·rw[xal FZ];exact Br.yes (bg.mk (.refl _) (by unfold pQ;rw[xae FZ]))
 rw[xan FZ];apply Br.no;obtain⟨n,rfl⟩:∃n:Nat,v=n:=⟨v.toNat,by omega⟩;have hnv:n<K.n:=by omega
 intro J hJ;refine Nil.ptr (ai.mk (aa.eq (nW h0 hlo) (Un.not ?_)));by_cases ni:gD K.N lo=true;rotate_left
 ·have abU:gD K.N lo=false:=by simpa using ni
  rw[abU];exact Split.U0 rfl (aL.mk (JE.mk (hJ _ _ λgs=>Br.yes (bg.mk (.refl _) (by unfold pQ;rw[xac (by simpa using FZ),xae (.inl abU)])))))
 rw[ni];refine Split.go rfl (Nil.ptr (ai.mk (aa.eq (nW h0 hhi) (Un.not ?_))));by_cases hhl:gD K.N hi=true;rotate_left
 ·have ab4:gD K.N hi=false:=by simpa using hhl
  rw[ab4];exact aL.mk (JE.mk (hJ _ _ λgs=>Br.yes (bg.mk (.refl _) (by unfold pQ;rw[xac (by simpa using FZ),xae (.inr ab4)]))))
 rw[hhl];refine aL.mk (JE.mk (hJ _ _ λgs=>Br.no ?_));intro J2 BQ;have hE:pQ K ah n lo hi=if lo≠hi/\min (dep K.n (lv ah) K.N lo) (dep K.n (lv ah) K.N hi)<=ah.getD n 0 then 4 else 0:=by
  unfold pQ;rw[xac (by simpa using FZ),xac (by rw[ni,hhl];simp)];rfl
 refine DR.self (ae.AQ ?_);by_cases hne:lo≠hi;rotate_left
 ·rw[xal hne];exact Br.no (JE.mk (BQ _ _ λgs=>Br.no (bg.mk (.refl _) (by rw[hE,xac (λh=>hne h.1)]))))
 rw[xan hne];refine Br.yes (Nil.ptr (Ld.f ?_));have hlen:=hO.ol.2;refine hO.lv.ld (x:=((ah.getD n 0:Nat):Int)) (bH zO) (bG.sub (.cons (.app (.app (.app (.app (.app .left))))))) λF=>?_;refine aa.eq (y9 h0 (bX.1 ni) (λd hd=>(hv _ _ hd).1) (h01 _)) (⟨.refl _,?_⟩);intro F2;refine aa.eq (y9 h0 (bX.1 hhl) (λd hd=>(hv _ _ hd).1) (h01 _)) (⟨.refl _,?_⟩);refine⟨_,_,_,rfl,rfl,?_⟩;have hmin:(if((dep K.n (lv ah) K.N hi:Nat):Int)<((dep K.n (lv ah) K.N lo:Nat):Int)then((dep K.n (lv ah) K.N hi:Nat):Int)else((dep K.n (lv ah) K.N lo:Nat):Int))=((min (dep K.n (lv ah) K.N lo) (dep K.n (lv ah) K.N hi):Nat):Int):=by
  split<;>omega
 rw[hmin];refine ae.tI (aL.mk ?_);by_cases hm:min (dep K.n (lv ah) K.N lo) (dep K.n (lv ah) K.N hi)<=ah.getD n 0
 ·rw[xan hm];exact JE.mk (BQ _ _ λgs=>Br.yes (bg.mk (.refl _) (by rw[hE,xae ⟨hne,hm⟩])))
 rw[xal hm];exact JE.mk (BQ _ _ λgs=>Br.no (bg.mk (.refl _) (by rw[hE,xac (λh=>hm h.2)])))
theorem KL(h:cS kp K ord ah tr C){v lo hi:Nat}(hv:v<K.n):
  Rd zQ 244 #[ptr kp,iv (v:Int),u32 lo,u32 hi] C (· =if lo=hi then .tuple #[u32 lo,.bool true]else .tuple #[u32 ((K.T ⟨v,lo,hi⟩).getD 0),.bool (K.T ⟨v,lo,hi⟩).isSome]):=by
 obtain⟨b,rfl,hO⟩:=h;refine aE λg=>I8 (ae.eR (Br.dec (λhe=>bg.mk (.refl _) (by rw[xae he])) (λhe=>?_)));refine Nil.ptr (ai.mk (Ld.f ?_));exact Build.mk (cs:=bu ⟨v,lo,hi⟩) zK (aa.eq (uK (d:=⟨v,lo,hi⟩) hO.ut hv) (Ext.mk rfl (Ext.mk rfl (bg.mk (.refl _) (by rw[xac he];rfl)))))
theorem vX(h:cS kp K ord ah tr C){r:Nat}(hr:r<4294967296)(hb:∀s,K.hold s<2147483648):Rd zQ 198 #[ptr kp,u32 r] C (· =iv ((K.hold r:Nat):Int)):=by
 obtain⟨b,rfl,hO⟩:=h;refine aE λg=>Jn (ae.aH (dc.or (decide (K.ho.length<=r)) (λ_=>?_) zI λ_=>?_))
 ·refine aZ.q (Nil.ptr (ai.mk (Ld.f ?_)));refine hO.ho.bP ?_;rw[aq];exact ae.tI ⟨rfl,rfl⟩
 rw[xdy];refine Br.dec (λhge=>?_) (λhlt=>?_)
 ·refine bg.mk (.refl _) ?_;unfold Kd.hold;rw[List.getD,xaC hge];rfl
 refine Nil.ptr (ai.mk (Ld.f ?_));exact hO.ho.ld (x:=((K.hold r:Nat):Int)) (bH zO) (bG.sub (.cons (.app (.app (.app .left))))) (aZ.nat (by have:=hb r;simp[bF];omega) (bg.mk (.refl _) rfl))
theorem Vr(h:cS kp K ord ah tr C)(h2:2<=K.used)(hu:K.used<=1048576):Rd zQ 140 #[ptr kp] C (· =iv ((K.used-2:Nat):Int)):=by
 obtain⟨b,rfl,hO⟩:=h;refine aE λg=>JT (ae.aH (Br.no (Nil.ptr (ai.mk (Ld.f ?_)))));exact aa.eq (Ed hO.ar) (ae.xS (b:=2) (by simp[bF];omega) h2 (bg.mk (.refl _) rfl))
theorem Nm(h:cS kp K ord ah tr C):Rd zQ 271 #[ptr kp] C (· =iv ((tr.length:Nat):Int)):=by
 obtain⟨b,rfl,hO⟩:=h;refine aE λg=>IJ (ae.aH (Br.no (Nil.ptr (Ld.f ?_))));refine hO.tr.bP ?_;rw[aq];exact bg.mk (.refl _) rfl
theorem gM(h:cS kp K ord ah tr C):Rd zQ 185 #[ptr kp] C (· =iv ((K.n:Nat):Int)):=by
 obtain⟨b,rfl,hO⟩:=h;refine aE λg=>JB (ae.aH (Br.no (Nil.ptr (Ld.f ?_))));exact bg.mk (.refl _) rfl
theorem iT(h:cS kp K ord ah tr C){r:Nat}(hr:r<4294967296):Rd zQ 249 #[ptr kp,u32 r] C (· =.tuple #[.agg (got K.N r).toArray,iv (if gD K.N r then 0 else 3)]):=by
 have h0:=h;obtain⟨b,rfl,hO⟩:=h;refine aE λg=>I3 λb1 _=>?_;refine ae.aH (Br.no (Nil.ptr (ai.mk (aa.eq (nW h0 hr) (Un.not ?_)))));cases hb:gD K.N r with
 |false=>
  refine Br.yes (Build.mk (cs:=[iv 0,.int .u32 0,.int .u32 0]) zK (St.q ?_));refine ay.q ?_;exact bg.mk .tail (by rw[DG hb];rfl)
 |true=>
  refine Br.no (Nil.ptr (ai.mk (aa.eq (nV h0 hr) (St.whole (r:=got K.N r) (by exact .head _) rfl (aQ _ _).1 (aQ _ _).2 ?_))));refine ay.whole (r:=got K.N r) (by exact .head _) (aQ _ _).1 ?_;exact bg.mk .tail rfl
end
theorem wM{B:Hp}{v:zV}{l:List Int}(h:dk .i64 B v l)(hl:l.length<=1099511627776):Fc zQ 71 #[v] B (λr H=>∃C,H=C++B/\aO 3 .i64 r l C):=by
 refine aE λg=>OT ?_;obtain⟨a,c,rfl,hc⟩:=h.shape;refine⟨.bool a.isNone,by simp[gX],?_⟩;refine Br.mk (λha=>?_) (λha=>?_)
 ·have:l=[]:=by
   rcases h.2 with⟨_,_,h1,h2⟩|⟨b,o,cap,cs,T,fz,h1,_⟩
   ·simpa using h2
   simp at h1;rw[h1.1]at ha;simp at ha
  subst this;exact aM.here ⟨[],rfl,aO.nil⟩
 refine au.none (z:=iv 0) (e:=3) (k:=1) zK zK zK λb=>?_;refine(aO.made (T:=3) (kd:=.i64) (b:=b) []).XT (l2:=l) .left ((show dk .i64 B _ l from h).mono λ_ h=>.tail _ h) zP zP λv' C' ho=>?_;exact aM.here ⟨C',rfl,by simpa using ho⟩
theorem y3{kp:Nat}{K:Kd}{ord ah tr:zL}{C:Hp}(h:cS kp K ord ah tr C):Fc zQ 65 #[ptr kp] C (λr H=>∃N,H=N++C/\aO 3 .i64 r (iw ord) N):=by
 obtain⟨b,rfl,hO⟩:=h;refine aE λg=>OW (ae.aH (Br.no (Nil.ptr (Ld.f ?_))));refine aa.fq (wM (hO.od.ints.mono (bG.sub (.cons (.app (.app (.app (.app .left))))))) (by have:=hO.ol.1;have:=hO.lB;simp;omega)) ?_;rintro v C' ⟨N,rfl,ho⟩;exact aM.here ⟨N,rfl,ho⟩
end
section
def Am(x r:Nat):Prop:=x<2^r/\(r=0\/2^(r-1)<=x)
theorem Am.up{x s t:Nat}(h:Am (x>>>s) t)(h0:s=0\/x>>>s≠0):Am x (s+t):=by
 rw[xa0]at h h0;have hp:=xbx s;refine⟨?_,?_⟩
 ·have:=h.1;rw[Nat.div_lt_iff_lt_mul hp]at this;rw[xdz,xck];exact this
 rcases h.2 with h2|h2
 ·subst h2;have:=h.1;rcases h0 with h0|h0
  ·exact .inl zO
  rw[Nat.pow_zero]at this;exact absurd (Nat.lt_one_iff.1 this) h0
 by_cases ht:t=0
 ·subst ht;rcases h0 with h0|h0
  ·exact .inl zO
  have:=h.1;rw[Nat.pow_zero]at this;exact absurd (Nat.lt_one_iff.1 this) h0
 right;have:=(Nat.le_div_iff_mul_le hp).1 h2;rw[show s+t-1=(t-1)+s by omega,xdz];exact this
theorem Vm:∀y:Fin 256,∃b:UInt8, zX[y.1]? =some b/\(y.1<2^b.toNat/\(b.toNat=0\/2^(b.toNat-1)<=y.1)):=by
 have h:∀y:Fin 256,(match zX[y.1]? with|some b=>decide (y.1<2^b.toNat/\(b.toNat=0\/2^(b.toNat-1)<=y.1))|none=>false)=true:=by decide+kernel
 intro y;have:=h y;split at this
 ·rename_i b hb;exact⟨b,hb,by simpa using this⟩
 cases this
theorem Q4{x:Nat}(hx:x<18446744073709551616)(B:Hp):Rd zQ 222 #[.int .u64 (x:Int)] B (λv=>∃r:Nat,Am x r/\v=iv (r:Int)):=by
 refine aE λg=>Ja λJ1 hJ1=>?_;have h1:∀s,s<=32->x>>>s<4294967296->(s=0\/x>>>s≠0)->J1 [.int .u64 ((x>>>s:Nat):Int),iv (s:Int)] B:=by
  intro s hs hlt h0;refine hJ1 _ _ _ λgs=>?_;intro J2 BQ;have h2:∀s,s<=48->x>>>s<65536->(s=0\/x>>>s≠0)->J2 [.int .u64 ((x>>>s:Nat):Int),iv (s:Int)] B:=by
   intro s hs hlt h0;refine BQ _ _ _ λgs=>?_;intro J3 hJ3;have h3:∀s,s<=56->x>>>s<256->(s=0\/x>>>s≠0)->J3 [.int .u64 ((x>>>s:Nat):Int),iv (s:Int)] B:=by
    intro s hs hlt h0;refine hJ3 _ _ _ λgs=>?_;refine aZ.nat (show x>>>s<256 from hlt) ?_;obtain⟨b,hb,hl⟩:=Vm ⟨x>>>s,hlt⟩;refine⟨_,_,_,b,rfl,rfl,xdf _,by rw[xbe];exact hb,?_⟩;have Zo:b.toNat<256:=b.toNat_lt;exact aZ.q (ae.fH (bg.mk (.refl _) ⟨s+b.toNat,Am.up (t:=b.toNat) hl h0,rfl⟩))
   refine ae.tI (b:=256) (Br.dec (λhge=>?_) (λhge=>JE.mk (h3 s zO zO h0)));refine ae.iM (b:=8) (by simp only[bF];omega) (ae.fH (b:=8) ?_);rw[<-xdH];have e:x>>>(s+8)=x>>>s/256:=by rw[xdH,xa0 (x>>>s) 8]
   exact JE.mk (h3 (s+8) zO zO (.inr zO))
  refine ae.tI (b:=65536) (Br.dec (λhge=>?_) (λhge=>JE.mk (h2 s zO zO h0)));refine ae.iM (b:=16) (by simp only[bF];omega) (ae.fH (b:=16) ?_);rw[<-xdH];have e:x>>>(s+16)=x>>>s/65536:=by rw[xdH,xa0 (x>>>s) 16]
  exact JE.mk (h2 (s+16) zO zO (.inr zO))
 refine ae.tI (b:=4294967296) (Br.dec (λhge=>?_) (λhge=>JE.mk (h1 0 zO zP (.inl rfl))));refine ae.iM (b:=32) (by simp only[bF];exact hx) ?_;have e:x>>>32=x/4294967296:=by rw[xa0]
 exact JE.mk (h1 32 zO zO (.inr zO))
end
end Go.Proofs
namespace Go.Sx
open Go
section
variable {P:Program} {H C:Hp} {c:Hp->Hp}
theorem bG.re(h:bG C H c)(X:Hp):bG X (c X) c:=by
 induction h with
 |here=>exact .here
 |left=>exact .left
 |cons _ ih=>exact .cons ih
 |app _ ih=>exact .app ih
theorem swap_perm{l:List Int}{i j:Nat}{x y:Int}(hi:l[i]? =some x)(hj:l[j]? =some y):((l.set i y).set j x).Perm l:=by
 have h1:=(xah.1 hi).1;have h2:=(xah.1 hj).1;rw[xcs];intro a;by_cases e:i=j
 ·subst e;rw[hi]at hj;cases hj;rw[List.set_set];have:l.set i x=l:=by
   have hx:l[i]=x:=by rw[xaa h1]at hi;exact xbm hi
   rw[<-hx];exact List.set_getElem_self h1
  rw[this]
 have hx:l[i]=x:=by rw[xaa h1]at hi;exact xbm hi
 have hy:l[j]=y:=by rw[xaa h2]at hj;exact xbm hj
 rw[xdL (by simpa using h2),xdL h1];have:(l.set i y)[j]'(by simpa using h2)=y:=by rw[List.getElem_set_ne e];exact hy
 rw[this,hx];have c1:l.count x≥1:=List.one_le_count_iff.2 (hx▸xaB h1);have c2:l.count y≥1:=List.one_le_count_iff.2 (hy▸xaB h2);by_cases e1:x=a
 ·subst e1;by_cases e2:y=x
  ·subst e2;simp<;>omega
  simp[e2,xa9 e2]<;>omega
 by_cases e2:y=a
 ·subst e2;simp[e1]<;>omega
 simp[e1,e2]<;>omega
def up1(vs:List zV):Nat:=match vs with
 | .int _ q::_=>(q+1).toNat
 |_=>0
theorem Aq{k:IntKind}{q:Int}{r:List zV}:up1 (.int k q::r)=(q+1).toNat:=rfl
end
end Go.Sx
namespace Go.Sx
open Go
abbrev cy:=Sort.ltInt
section
variable {P:Program} {H C:Hp} {c:Hp->Hp} {T:TypeId} {kd x4 k1 k2 k3 k4:IntKind} {v:zV} {d:Array Int}
def Da(T:TypeId)(kd:IntKind)(v:zV)(d:Array Int)(C:Hp):Prop:=aO T kd v d.toList C
theorem ZN(d:Array Int){i:Nat}(hi:i<d.size):d.toList[i]? =some d[i]! :=by
 rw[xbc,getElem!_pos d i hi];exact xbA hi
theorem PZ(d:Array Int)(i j:Nat):(Sort.swp d i j).toList=(d.toList.set i d[j]!).set j d[i]! :=by
 unfold Sort.swp;rw[Array.toList_setIfInBounds,Array.toList_setIfInBounds]
theorem Da.ld(h:Da T kd v d C)(hC:∀y∈C,y∈H){i:Nat}(hi:i<d.size){K:zV->Prop}(hk:K (.int kd d[i]!)):av 1 v (.int x4 (i:Int)) λp=>Ld H p K:=
 aO.ld h (ZN d hi) hC hk
theorem Da.Xa(h:Da T kd v d C)(hh:bG C H c){i j:Nat}(hi:i<d.size)(hj:j<d.size){B:(zV->Prop)->Prop}
 (hB:∀k:zV->Prop,k (.int k2 (i:Int))->B k){K:Hp->Prop}(hk:∀C',Da T kd v (Sort.swp d i j) C'->K (c C')):
  av 1 v (.int k1 (j:Int)) λp1=>Ld H p1 λx=>B λu=>av 1 v u λp2=>Ld H p2 λy=>av 1 v (.int k3 (i:Int)) λp3=>St 1 H p3 x λH1=>av 1 v (.int k4 (j:Int)) λp4=>St 1 H1 p4 y K:=by
 refine h.ld hh.sub hj (hB _ ?_);refine h.ld hh.sub hi ?_;refine aO.nt h hh (by rw[xcc];exact hi) λC1 h1=>?_;refine h1.nt (hh.re C1) (by rw[xbQ,xcc];exact hj) λC2 h2=>?_;exact hk C2 (by unfold Da;rw[PZ];exact h2)
theorem Da.swap(h:Da T kd v d C)(hh:bG C H c){i j:Nat}(hi:i<d.size)(hj:j<d.size){K:Hp->Prop}(hk:∀C',Da T kd v (Sort.swp d i j) C'->K (c C')):
  av 1 v (.int k1 (j:Int)) λp1=>Ld H p1 λx=>av 1 v (.int k2 (i:Int)) λp2=>Ld H p2 λy=>av 1 v (.int k3 (i:Int)) λp3=>St 1 H p3 x λH1=>av 1 v (.int k4 (j:Int)) λp4=>St 1 H1 p4 y K:=
 h.Xa (B:=λk=>k _) hh hi hj (λ_ h=>h) hk
end
theorem ja{d:Array Int}{n i j:Nat}(h:d.size=n):(Sort.swp d i j).size=n:=(Sort.size_swp d i j).trans h
theorem Rl{a j:Nat}{e:Array Int}(h:¬a<j):Sort.insInner cy a j e=e:=by
 cases j with
 |zero=>rfl
 |succ j=>rw[Sort.insInner,xac zP]
theorem Rn{a j:Nat}{e:Array Int}(h:a<j):Sort.insInner cy a j e=if cy e[j]! e[j-1]! =true then Sort.insInner cy a (j-1) (Sort.swp e j (j-1))else e:=by
 obtain⟨j,rfl⟩:∃k,j=k+1:=⟨j-1,by omega⟩;rw[Sort.insInner,xan h,xcn];rfl
theorem NX{j:Nat}{e:Array Int}(h:¬1<=j):Sort.shiftDown cy j e=e:=by
 obtain rfl:j=0:=by omega
 rfl
theorem sW{j:Nat}{e:Array Int}(h:1<=j):Sort.shiftDown cy j e=if(!cy e[j]! e[j-1]!)=true then e else Sort.shiftDown cy (j-1) (Sort.swp e j (j-1)):=by
 obtain⟨j,rfl⟩:∃k,j=k+1:=⟨j-1,by omega⟩;rw[Sort.shiftDown];rfl
theorem fA{p:Int->Bool}{d:Array Int}{i j:Nat}(h:0<j):Sort.scanDown p d i j=if(decide (i<=j) &&p d[j]!)=true then Sort.scanDown p d i (j-1)else j:=by
 obtain⟨j,rfl⟩:∃k,j=k+1:=⟨j-1,by omega⟩;rw[Sort.scanDown];rfl
theorem MF{hi f r:Nat}{d:Array Int}(h:hi<=2*r+1):Sort.siftDown cy hi f r d=d:=by
 rw[Sort.siftDown,xea h]
theorem UF{hi f r c:Nat}{d:Array Int}(h:2*r+1<hi)(hc:c=if(decide (2*r+1+1<hi) &&cy d[f+(2*r+1)]! d[f+(2*r+1)+1]!)=true then 2*r+2 else 2*r+1):
  Sort.siftDown cy hi f r d=if(!cy d[f+r]! d[f+c]!)=true then d else Sort.siftDown cy hi f c (Sort.swp d (f+r) (f+c)):=by
 rw[Sort.siftDown,dif_neg zO];split at hc
 ·rename_i hb;subst hc;rw[xae hb];rw[xaH,xaI]at hb;split
  ·rfl
  rw[xea hb.1]
 rename_i hb;subst hc;rw[xac hb]
theorem KI(hi f r:Nat)(d:Array Int):(Sort.siftDown cy hi f r d).size=d.size:=by
 fun_induction Sort.siftDown cy hi f r d<;>simp_all[Sort.size_swp]
end Go.Sx
set_option maxRecDepth 100000
namespace Go.Proofs
open Go Go.Sx Tryz
section
structure ZV where
 nan:Nat
 less:Nat
 Dp:Nat
 MG:Nat
 heap:Nat
 rev:Nat
 pins:Nat
 vD:Nat
 part:Nat
 brk:Nat
 Fw:Nat
 med:Nat
 FD:Nat
 piv:Nat
 Yj:Nat
section
variable (zs:ZV)
variable {g:Gh} {a0 a1 a2 a3 a4 a5 a6 a7 a8 a9 tT tS a12 a13 a14 a15:zV} {H:Hp} {R:Rt}
def L9000:Y1:=λ_ a b c=>lN a a λa=>rt c a b
def L9001:Y2:=λa b c d e=>jB (λf g=>rt e f g) λf=>CF a zs.nan #[b] d (λd g=>Split d true (CF a zs.nan #[c] g (λa d=>Un .not a λa=>aL vT a vF λa=>Split a false (lL b c λa=>aL vF vT a λa=>JE f [a] d) (aL vT vT undef λa=>JE f [a] d)) (dg e)) (aL vF undef vF λa=>lL b c λb=>aL a vT b λa=>JE f [a] g)) (dg e)
def L9002:Y3:=λa b c d e f=>lA c i1 λg=>yA [g] e λe g h i=>lL h d λd=>Br d (yA [h] i λd j k l=>jB (λm n=>Br m (DR n λm=>lS k i1 λo=>lS k i1 λp=>lI 1 b p m λp=>lI 1 b k m λm=>av 1 b k λq=>St 1 n q p λp=>av 1 b o λo=>St 1 p o m λm=>lS k i1 λo=>aC d j [o] m [k] l) (lA h i1 λd=>aC e g [d] n [h] i)) λd=>DR l λe=>lG k c λc=>Br c (lI 1 b k e λc=>lS k i1 λg=>lI 1 b g e λb=>∀e:Hp,
CF (a.add e) zs.less #[c,b] l (λa b=>aL vT a vF λa=>JE d [a] b) fJ) (JE d [vF] l)) (rt f (.tuple #[]) i)
def L9003:Y4:=λa b c d e f g=>yA [c] f λc f h i=>oM (iv 2) h λj=>lA j i1 λj=>oG j d λk=>Br k (rt g (.tuple #[]) i) (jB (λk l=>DR l λm=>lA e h λn=>lI 1 b n m λn=>lA e k λo=>lI 1 b o m λm=>CF a zs.less #[n,m] l (λl m=>Un .not l λl=>Br l (rt g (.tuple #[]) m) (DR m λg=>lA e h λl=>lA e k λn=>lA e k λo=>lI 1 b o g λo=>lA e h λp=>lI 1 b p g λg=>av 1 b l λl=>St 1 m l o λl=>av 1 b n λm=>St 1 l m g λg=>aC c f [k] g [h] i)) fJ) λc=>jB (λf g=>Br f (lA j i1 λf=>JE c [f] g) (JE c [j] g)) λc=>DR i λf=>lA j i1 λg=>lL g d λd=>Br d (lA e j λd=>lI 1 b d f λd=>lA e j λe=>lA e i1 λe=>lI 1 b e f λb=>∀e:Hp,
CF (a.add e) zs.less #[d,b] i (λa b=>aL vT a vF λa=>JE c [a] b) fJ) (JE c [vF] i))
def L9004:Y3:=λa b c d e f=>lS d c λd=>lS d i1 λg=>ae .num .quo g (iv 2) λg=>yA [g] e λe g h i=>oG h i0 λj=>Br j (CF a zs.MG #[b,h,d,c] i (λ_ j=>lS h i1 λk=>aC e g [k] j [h] i) (dg f)) (lS d i1 λd=>yA [d] i λd e g h=>oG g i0 λi=>Br i (DR h λi=>lA c g λj=>lA c g λk=>lI 1 b k i λk=>lI 1 b c i λi=>av 1 b c λl=>St 1 h l k λk=>av 1 b j λj=>St 1 k j i λi=>CF a zs.MG #[b,i0,g,c] i (λ_ a=>lS g i1 λb=>aC d e [b] a [g] h) (dg f)) (rt f (.tuple #[]) h))
def L9005:Y3:=λ_ a b c d e=>lS c i1 λc=>yB [b,c] d λb c d f g=>lL d f λh=>Br h (DR g λh=>lI 1 a f h λi=>lI 1 a d h λh=>av 1 a d λj=>St 1 g j i λi=>av 1 a f λa=>St 1 i a h λa=>lA d i1 λh=>lS f i1 λi=>aC b c [h,i] a [d,f] g) (rt e (.tuple #[]) g)
def L9006:Y3:=λa b c d e f=>lA c i1 λg=>yB [g,i0] e λe g h i j=>lL i (iv 5) λk=>Br k (jB (λk l=>lA i i1 λm=>aC e g [k,m] l [h,i] j) λe=>yA [h] j λg h i k=>jB (λl m=>Br l (lA i i1 λl=>aC g h [l] m [i] k) (lE i d λg=>Br g (rt f vT m) (lS d c λg=>lL g (iv 50) λg=>Br g (rt f vF m) (DR m λg=>lS i i1 λh=>lS i i1 λl=>lI 1 b l g λl=>lI 1 b i g λg=>av 1 b i λn=>St 1 m n l λl=>av 1 b h λh=>St 1 l h g λg=>jA (λh=>lS d i λl=>oG l (iv 2) λl=>Br l (lA i i1 λl=>yA [l] h λl m n o=>lL n d λp=>Br p (DR o λp=>lI 1 b n p λq=>lS n i1 λr=>lI 1 b r p λp=>CF a zs.less #[q,p] o (λp q=>Un .not p λp=>Br p (JE e [i] q) (DR q λp=>lS n i1 λr=>lS n i1 λs=>lI 1 b s p λs=>lI 1 b n p λp=>av 1 b n λt=>St 1 q t s λq=>av 1 b r λr=>St 1 q r p λp=>lA n i1 λq=>aC l m [q] p [n] o)) fJ) (JE e [i] o)) (JE e [i] h)) λe=>lS i c λc=>oG c (iv 2) λc=>Br c (lS i i1 λc=>yA [c] g λc h l m=>oG l i1 λn=>Br n (DR m λn=>lI 1 b l n λo=>lS l i1 λp=>lI 1 b p n λn=>CF a zs.less #[o,n] m (λn o=>Un .not n λn=>Br n (JE e [] o) (DR o λn=>lS l i1 λp=>lS l i1 λq=>lI 1 b q n λq=>lI 1 b l n λn=>av 1 b l λr=>St 1 o r q λo=>av 1 b p λp=>St 1 o p n λn=>lS l i1 λo=>aC c h [o] n [l] m)) fJ) (JE e [] m)) (JE e [] g))))) λc=>DR k λe=>lL i d λd=>Br d (lI 1 b i e λd=>lS i i1 λg=>lI 1 b g e λb=>∀e:Hp,
CF (a.add e) zs.less #[d,b] k (λa b=>Un .not a λa=>aL vT a vF λa=>JE c [a] b) fJ) (JE c [vF] k)) (rt f vF j)
def L9007:Y4:=λa b c d e f g=>DR f λh=>lI 1 b e h λi=>lI 1 b c h λh=>av 1 b c λj=>St 1 f j i λf=>av 1 b e λe=>St 1 f e h λe=>lA c i1 λf=>lS d i1 λd=>yB [f,d] e λd e f h i=>yA [f] i λj k l m=>jB (λn o=>Br n (lA l i1 λn=>aC j k [n] o [l] m) (yA [h] o λj k n o=>jB (λp q=>Br p (lS n i1 λp=>aC j k [p] q [n] o) (lG l n λj=>Br j (rt g l q) (DR q λg=>lI 1 b n g λj=>lI 1 b l g λg=>av 1 b l λk=>St 1 q k j λj=>av 1 b n λk=>St 1 j k g λg=>lA l i1 λj=>lS n i1 λk=>aC d e [j,k] g [f,h] i))) λd=>DR o λe=>oQ l n λf=>Br f (lI 1 b c e λf=>lI 1 b n e λe=>∀g:Hp,
CF (a.add g) zs.less #[f,e] o (λe f=>aL vT e vF λe=>JE d [e] f) fJ) (JE d [vF] o))) λd=>DR m λe=>oQ l h λf=>Br f (lI 1 b c e λc=>lI 1 b l e λb=>∀e:Hp,
CF (a.add e) zs.less #[c,b] m (λa b=>Un .not a λa=>aL vT a vF λa=>JE d [a] b) fJ) (JE d [vF] m)
def L9008:Y4:=λa b c d e f g=>DR f λh=>lI 1 b e h λi=>lI 1 b c h λh=>av 1 b c λj=>St 1 f j i λf=>av 1 b e λe=>St 1 f e h λe=>lA c i1 λf=>lS d i1 λd=>yA [f] e λe f h i=>jB (λj k=>Br j (lA h i1 λj=>aC e f [j] k [h] i) (yA [d] k λe f j k=>jB (λl m=>Br l (lS j i1 λl=>aC e f [l] m [j] k) (lG h j λe=>Br e (DR m λe=>lI 1 b c e λf=>lI 1 b j e λe=>av 1 b j λl=>St 1 m l f λf=>av 1 b c λl=>St 1 f l e λe=>rt g (tP j vT) e) (DR m λe=>lI 1 b j e λf=>lI 1 b h e λe=>av 1 b h λl=>St 1 m l f λf=>av 1 b j λl=>St 1 f l e λe=>lA h i1 λf=>lS j i1 λl=>yB [f,l] e λe f l m n=>yA [l] n λo p q r=>jB (λs t=>Br s (lA q i1 λs=>aC o p [s] t [q] r) (yA [m] t λo p s t=>jB (λu v=>Br u (lS s i1 λu=>aC o p [u] v [s] t) (lG q s λo=>Br o (DR v λo=>lI 1 b c o λp=>lI 1 b s o λo=>av 1 b s λu=>St 1 v u p λp=>av 1 b c λu=>St 1 p u o λo=>rt g (tP s vF) o) (DR v λg=>lI 1 b s g λo=>lI 1 b q g λg=>av 1 b q λp=>St 1 v p o λo=>av 1 b s λp=>St 1 o p g λg=>lA q i1 λo=>lS s i1 λp=>aC e f [o,p] g [l,m] n))) λe=>DR t λf=>oQ q s λg=>Br g (lI 1 b s f λg=>lI 1 b c f λf=>∀l:Hp,
CF (a.add l) zs.less #[g,f] t (λf g=>Un .not f λf=>aL vT f vF λf=>JE e [f] g) fJ) (JE e [vF] t))) λe=>DR r λf=>oQ q m λg=>Br g (lI 1 b q f λg=>lI 1 b c f λf=>∀l:Hp,
CF (a.add l) zs.less #[g,f] r (λf g=>aL vT f vF λf=>JE e [f] g) fJ) (JE e [vF] r)))) λe=>DR k λf=>oQ h j λg=>Br g (lI 1 b j f λg=>lI 1 b c f λf=>∀j:Hp,
CF (a.add j) zs.less #[g,f] k (λf g=>Un .not f λf=>aL vT f vF λf=>JE e [f] g) fJ) (JE e [vF] k))) λe=>DR i λf=>oQ h d λd=>Br d (lI 1 b h f λd=>lI 1 b c f λb=>∀c:Hp,
CF (a.add c) zs.less #[d,b] i (λa b=>aL vT a vF λa=>JE e [a] b) fJ) (JE e [vF] i)
def L9009:Y3:=λa b c d e f=>lS d c λd=>oG d (iv 8) λg=>Br g (aZ .u64 d λg=>lQ 1 e #[(wi 0)] 371 g λg h=>CR f a 304 #[d] h λh i=>ae .num .quo d (iv 4) λj=>oM j (iv 2) λj=>lA c j λj=>lS j i1 λj=>yA [j] i λi j k l=>ae .num .quo d (iv 4) λm=>oM m (iv 2) λm=>lA c m λm=>lA m i1 λm=>oQ k m λm=>Br m (CR f a 305 #[(pt g)] l λa g=>lS h (wi 1) λh=>oA a h λa=>aZ .i64 a λa=>jB (λh m=>DR m λn=>lA c h λo=>lA c h λc=>lI 1 b c n λc=>lI 1 b k n λh=>av 1 b k λn=>St 1 m n c λc=>av 1 b o λb=>St 1 c b h λb=>lA k i1 λc=>aC i j [c] b [k] l) λb=>oG a d λc=>Br c (lS a d λc=>JE b [c] g) (JE b [a] g)) (rt f (.tuple #[]) l)) (rt f (.tuple #[]) e)
def L9010:Y4:=λa b c d e f g=>DR f λh=>lI 1 b d h λi=>lI 1 b c h λb=>CF a zs.less #[i,b] f (λa b=>Br a (Nil e λa=>Ld b a λa=>lA a i1 λa=>Nil e λe=>St 1 b e a λa=>rt g (tP d c) a) (rt g (tP c d) b)) fJ
def L9011:Y5:=λa b c d e f g h=>CF a zs.Fw #[b,c,d,f] g (λc d=>lX c λc g=>CF a zs.Fw #[b,g,e,f] d (λd e=>lX d λd _=>CF a zs.Fw #[b,c,d,f] e (λa b=>lX a λ_ a=>rt h a b) (dg h)) (dg h)) (dg h)
def L9012:Y3:=λa b c d e f=>lS c i1 λg=>lA c i1 λh=>CF a zs.med #[b,g,c,h,d] e (λa b=>rt f a b) (dg f)
def L9013:Y3:=λa b c d e f=>lS d c λd=>lW e #[i0] 3 λe g=>ae .num .quo d (iv 4) λh=>oM h i1 λh=>lA c h λh=>ae .num .quo d (iv 4) λi=>oM i (iv 2) λi=>lA c i λi=>ae .num .quo d (iv 4) λj=>oM j (iv 3) λj=>lA c j λc=>jB (λj k=>Ld k (pt e) λl=>lE l i0 λm=>Br m (rt f (tP j i1) k) (lE l (iv 12) λl=>Br l (rt f (tP j (iv 2)) k) (rt f (tP j i0) k))) λj=>oG d (iv 8) λk=>Br k (∀k:Jt,(∀l m n:zV,∀o:Hp,(∀_:Fr,
CF a zs.med #[b,l,m,n,(pt e)] o (λp q=>JE j [p] q) (dg f))->k [l,m,n] o)->oG d (iv 50) λd=>Br d (CF a zs.FD #[b,h,(pt e)] g (λd l=>CF a zs.FD #[b,i,(pt e)] l (λl m=>CF a zs.FD #[b,c,(pt e)] m (λa b=>JE k [d,l,a] b) (dg f)) (dg f)) (dg f)) (JE k [h,i,c] g)) (JE j [i] g)
def L9014:Y4:=λa b c d e f g=>∃(h:Jt) (i:Mt),JE h [c,d,e,vT,vT] f/\∀c d e f j:zV,∀k:Hp,h [c,d,e,f,j] k->∀_:Fr,
lS d c λl=>oQ l (iv 12) λm=>Br m (CF a zs.Dp #[b,c,d] k (λ_ m=>rt g (.tuple #[]) m) (dg g)) (lE e i0 λm=>Br m (CF a zs.heap #[b,c,d] k (λ_ m=>rt g (.tuple #[]) m) (dg g)) (jB (λm n=>CF a zs.piv #[b,c,d] n (λn o=>lX n λn p=>jC (λq r s=>jA (λt=>jB (λu v=>Br u (CF a zs.vD #[b,c,d,q] v (λu w=>aC h i [u,d,m,f,j] w [c,d,e,f,j] k) (dg g)) (CF a zs.part #[b,c,d,q] v (λu v=>lX u λu w=>lS u c λx=>lS d u λy=>ae .num .quo l (iv 8) λl=>lL x y λz=>Br z (oG x l λx=>CF a zs.Yj #[b,c,u,m] v (λ_ z=>lA u i1 λA=>aC h i [A,d,m,x,w] z [c,d,e,f,j] k) (dg g)) (oG y l λl=>lA u i1 λx=>CF a zs.Yj #[b,x,d,m] v (λ_ v=>aC h i [c,u,m,l,w] v [c,d,e,f,j] k) (dg g))) (dg g))) λh=>DR t λi=>lG c i0 λl=>Br l (lS c i1 λl=>lI 1 b l i λl=>lI 1 b q i λi=>∀m:Hp,
CF (a.add m) zs.less #[l,i] t (λi l=>Un .not i λi=>aL vT i vF λi=>JE h [i] l) fJ) (JE h [vF] t)) λh=>lU f (λi=>(lV s j i)) λi=>lU (Value.bool i) (λi=>lE r i1 λj=>(lV s j i)) λi=>Br (Value.bool i) (CF a zs.pins #[b,c,d] s (λi j=>Br i (rt g (.tuple #[]) j) (JE h [] j)) (dg g)) (JE h [] s)) λh=>lE p (iv 2) λi=>Br i (CF a zs.rev #[b,c,d] o (λ_ i=>lS d i1 λj=>lS n c λl=>lS j l λj=>JE h [j,i1] i) (dg g)) (JE h [n,p] o)) (dg g)) λh=>Un .not f λf=>Br f (CF a zs.brk #[b,c,d] k (λ_ a=>lS e i1 λb=>JE h [b] a) (dg g)) (JE h [e] k)))
end
structure Ep(zs:ZV):Prop where
 nan:∀{g:Gh} {a0:zV} {H:Hp} {R:Rt},L9000 g a0 H R->bC zQ g zs.nan #[a0] H R
 less:∀{g:Gh} {a0 a1:zV} {H:Hp} {R:Rt},L9001 zs g a0 a1 H R->bC zQ g zs.less #[a0,a1] H R
 Dp:∀{g:Gh} {a0 a1 a2:zV} {H:Hp} {R:Rt},L9002 zs g a0 a1 a2 H R->bC zQ g zs.Dp #[a0,a1,a2] H R
 MG:∀{g:Gh} {a0 a1 a2 a3:zV} {H:Hp} {R:Rt},L9003 zs g a0 a1 a2 a3 H R->bC zQ g zs.MG #[a0,a1,a2,a3] H R
 heap:∀{g:Gh} {a0 a1 a2:zV} {H:Hp} {R:Rt},L9004 zs g a0 a1 a2 H R->bC zQ g zs.heap #[a0,a1,a2] H R
 rev:∀{g:Gh} {a0 a1 a2:zV} {H:Hp} {R:Rt},L9005 g a0 a1 a2 H R->bC zQ g zs.rev #[a0,a1,a2] H R
 pins:∀{g:Gh} {a0 a1 a2:zV} {H:Hp} {R:Rt},L9006 zs g a0 a1 a2 H R->bC zQ g zs.pins #[a0,a1,a2] H R
 vD:∀{g:Gh} {a0 a1 a2 a3:zV} {H:Hp} {R:Rt},L9007 zs g a0 a1 a2 a3 H R->bC zQ g zs.vD #[a0,a1,a2,a3] H R
 part:∀{g:Gh} {a0 a1 a2 a3:zV} {H:Hp} {R:Rt},L9008 zs g a0 a1 a2 a3 H R->bC zQ g zs.part #[a0,a1,a2,a3] H R
 brk:∀{g:Gh} {a0 a1 a2:zV} {H:Hp} {R:Rt},L9009 g a0 a1 a2 H R->bC zQ g zs.brk #[a0,a1,a2] H R
 Fw:∀{g:Gh} {a0 a1 a2 a3:zV} {H:Hp} {R:Rt},L9010 zs g a0 a1 a2 a3 H R->bC zQ g zs.Fw #[a0,a1,a2,a3] H R
 med:∀{g:Gh} {a0 a1 a2 a3 a4:zV} {H:Hp} {R:Rt},L9011 zs g a0 a1 a2 a3 a4 H R->bC zQ g zs.med #[a0,a1,a2,a3,a4] H R
 FD:∀{g:Gh} {a0 a1 a2:zV} {H:Hp} {R:Rt},L9012 zs g a0 a1 a2 H R->bC zQ g zs.FD #[a0,a1,a2] H R
 piv:∀{g:Gh} {a0 a1 a2:zV} {H:Hp} {R:Rt},L9013 zs g a0 a1 a2 H R->bC zQ g zs.piv #[a0,a1,a2] H R
 Yj:∀{g:Gh} {a0 a1 a2 a3:zV} {H:Hp} {R:Rt},L9014 zs g a0 a1 a2 a3 H R->bC zQ g zs.Yj #[a0,a1,a2,a3] H R
def zR:ZV:=⟨419,413,407,416,408,411,412,414,415,409,420,418,417,410,406⟩
theorem aaQ:Ep zR:=⟨λh=>cm (hn:=.e) func419 h zK,
 λh=>cm (hn:=(.n .e (.h 1 [4] [] .e .e))) func413 h zK,
 λh=>cm (hn:=(.n .e (.n (.h 0 [6] [0,1,2] (.n .e (.n (.n (.n .e (.n (.h 0 [7] [0,1,2,6] (.n (.h 1 [30] [0,1,2,6,7] (.h 1 [] [] (.h 0 [0] [] (.h 0 [1] [] (.h 0 [2] [] (.h 2 [3] [] (.h 0 [4] [] (.h 0 [5] [] (.h 0 [6] [] (.h 0 [7] [] (.h 0 [8] [] (.h 0 [9] [] (.h 0 [10] [] (.h 0 [11] [] (.h 0 [12] [] (.h 0 [13] [] (.h 0 [14] [] .e .e) .e) .e) .e) .e) .e) .e) .e) .e) .e) .e) (.h 0 [4] [] (.h 0 [5] [] (.h 0 [6] [] (.h 0 [7] [] (.h 0 [8] [] (.h 0 [9] [] (.h 0 [10] [] (.h 0 [11] [] (.h 0 [12] [] (.h 0 [13] [] (.h 3 [14] [] .e .e) .e) .e) .e) .e) .e) .e) .e) .e) .e) .e)) .e) .e) .e) .e) .e) (.n (.n (.h 0 [0,1,2,3,4,5,6,7,8,9,10,11,12,13,14,15,16,17] [] .e .e) .e) .e)) .e) .e)) .e) .e)) .e) .e))) func407 h zK,
 λh=>cm (hn:=(.n .e (.n (.h 0 [8] [0,2,3] (.n (.n .e (.n .e (.h 1 [9] [0,2,3,8] (.h 1 [36] [0,2,3,8,9] (.h 1 [] [] (.h 0 [0] [] (.h 0 [1] [] (.h 0 [2] [] (.h 0 [3] [] (.h 2 [4] [] (.h 0 [5] [] (.h 0 [6] [] (.h 0 [7] [] (.h 0 [8] [] (.h 0 [9] [] (.h 0 [10] [] (.h 0 [11] [] (.h 0 [12] [] (.h 0 [13] [] (.h 0 [14] [] (.h 0 [15] [] (.h 0 [16] [] (.h 0 [17] [] (.h 0 [18] [] (.h 0 [19] [] .e .e) .e) .e) .e) .e) .e) .e) .e) .e) .e) .e) .e) .e) .e) .e) (.h 0 [5] [] (.h 0 [6] [] (.h 0 [7] [] (.h 0 [8] [] (.h 0 [9] [] (.h 0 [10] [] (.h 0 [11] [] (.h 0 [12] [] (.h 0 [13] [] (.h 0 [14] [] (.h 0 [15] [] (.h 0 [16] [] (.h 0 [17] [] (.h 0 [18] [] (.h 3 [19] [] .e .e) .e) .e) .e) .e) .e) .e) .e) .e) .e) .e) .e) .e) .e) .e)) .e) .e) .e) .e) .e) .e) (.n (.n (.h 0 [0,1,2,3,4,5,6,7,8,9,10,11,12,13] [] .e .e) .e) (.n (.h 0 [0,1,2,3,4,5,6,7,8,9,10,11,12,13,14,15,16,17,18,19,20,21,22,23] [] .e .e) .e))))) .e) .e) .e))) func416 h zK,
 λh=>cm (hn:=(.n .e (.n .e (.n .e (.n (.n .e (.n (.h 0 [9] [0,6,7,8] .e .e) .e)) (.n .e (.n (.h 0 [10] [0,6,7] (.n .e (.n (.n (.n (.h 0 [0,1,2,3,4,5,6,7,8,9,10,11,12,13,14,15,16,17,18,19] [] .e .e) .e) .e) .e)) .e) .e))))))) func408 h zK,
 λh=>cm (hn:=(.n .e (.n .e (.n (.h 0 [6,7] [0] (.n .e (.n (.n (.h 0 [0,1,2,3,4,5,6,7,8,9,10,11,12,13,14,15] [] .e .e) .e) .e)) .e) .e)))) func411 h zK,
 λh=>cm (hn:=(.n .e (.n .e (.n (.n .e (.n (.h 0 [7,8] [0,1,2] (.n .e (.h 1 [7] [0,1,2,8] (.n (.n (.n (.h 0 [7] [0,1,2,8] (.n (.h 1 [32] [0,1,2,7,8] (.h 1 [] [] (.h 0 [0] [] (.h 0 [1] [] (.h 0 [2] [] (.h 2 [3] [] (.h 0 [4] [] (.h 0 [5] [] (.h 0 [6] [] (.h 0 [7] [] (.h 0 [8] [] (.h 0 [9] [] (.h 0 [10] [] (.h 0 [11] [] (.h 0 [12] [] (.h 0 [13] [] (.h 0 [14] [] (.h 0 [15] [] .e .e) .e) .e) .e) .e) .e) .e) .e) .e) .e) .e) .e) (.h 0 [4] [] (.h 0 [5] [] (.h 0 [6] [] (.h 0 [7] [] (.h 0 [8] [] (.h 0 [9] [] (.h 0 [10] [] (.h 0 [11] [] (.h 0 [12] [] (.h 0 [13] [] (.h 0 [14] [] (.h 3 [15] [] .e .e) .e) .e) .e) .e) .e) .e) .e) .e) .e) .e) .e)) .e) .e) .e) .e) .e) .e) .e) .e) (.n .e (.n .e (.n (.h 0 [0,1,2,3,4,5,6,7,8,9,10,11,12,13,14,15,16,17] [] .e .e) (.h 1 [] [0,1,2,7,8] (.n .e (.n (.n .e (.n (.h 0 [9] [0,1,2,7,8] (.n .e (.n (.n (.n (.n (.h 0 [0,1,2,3,4,5,6,7,8,9,10] [] .e .e) .e) (.h 0 [0,1,2,3,4,5,6,7,8,9,10,11,12,13,14,15,16,17] [] .e .e)) .e) .e)) .e) .e)) .e)) (.n .e (.n (.n .e (.n (.h 0 [10] [0,1,2,7,8] (.n .e (.n (.n (.n (.n (.h 0 [0,1,2,3,4,5,6,7,8,9,10] [] .e .e) .e) (.h 0 [0,1,2,3,4,5,6,7,8,9,10,11,12,13,14,15,16,17] [] .e .e)) .e) .e)) .e) .e)) .e))))))) .e) .e)) .e) .e)) .e)))) func412 h zK,
 λh=>cm (hn:=(.n .e (.n (.h 0 [0,1,2,3,4,5,6,7,8,9,10,11,12,13,14,15] [] .e .e) (.n .e (.n (.n (.h 0 [9,10] [0,1] (.n (.n (.n (.h 0 [9] [0,1,10] (.n (.h 1 [43] [0,1,9,10] (.h 1 [] [] (.h 0 [0] [] (.h 0 [1] [] (.h 0 [2] [] (.h 2 [3] [] (.h 0 [4] [] (.h 0 [5] [] (.h 0 [6] [] (.h 0 [7] [] (.h 0 [8] [] (.h 0 [9] [] (.h 0 [10] [] (.h 0 [11] [] (.h 0 [12] [] (.h 0 [13] [] (.h 0 [14] [] .e .e) .e) .e) .e) .e) .e) .e) .e) .e) .e) .e) (.h 0 [4] [] (.h 0 [5] [] (.h 0 [6] [] (.h 0 [7] [] (.h 0 [8] [] (.h 0 [9] [] (.h 0 [10] [] (.h 0 [11] [] (.h 0 [12] [] (.h 0 [13] [] (.h 3 [14] [] .e .e) .e) .e) .e) .e) .e) .e) .e) .e) .e) .e)) .e) .e) .e) .e) .e) .e) .e) .e) (.n (.n (.h 0 [10] [0,1,9] (.n (.h 1 [59] [0,1,9,10] (.h 1 [] [] (.h 0 [0] [] (.h 0 [1] [] (.h 0 [2] [] (.h 2 [3] [] (.h 0 [4] [] (.h 0 [5] [] (.h 0 [6] [] (.h 0 [7] [] (.h 0 [8] [] (.h 0 [9] [] (.h 0 [10] [] (.h 0 [11] [] (.h 0 [12] [] (.h 0 [13] [] .e .e) .e) .e) .e) .e) .e) .e) .e) .e) .e) (.h 0 [4] [] (.h 0 [5] [] (.h 0 [6] [] (.h 0 [7] [] (.h 0 [8] [] (.h 0 [9] [] (.h 0 [10] [] (.h 0 [11] [] (.h 0 [12] [] (.h 3 [13] [] .e .e) .e) .e) .e) .e) .e) .e) .e) .e) .e)) .e) .e) .e) .e) .e) .e) .e) .e) (.n .e (.n (.h 0 [0,1,2,3,4,5,6,7,8,9,10,11,12,13,14,15] [] .e .e) .e)))) .e) .e) .e) .e))))) func414 h zK,
 λh=>cm (hn:=(.n .e (.n (.h 0 [0,1,2,3,4,5,6,7,8,9,10,11,12,13,14,15] [] .e .e) (.n .e (.n (.n (.h 0 [10] [0,1,11] (.n (.h 1 [43] [0,1,10,11] (.h 1 [] [] (.h 0 [0] [] (.h 0 [1] [] (.h 0 [2] [] (.h 2 [3] [] (.h 0 [4] [] (.h 0 [5] [] (.h 0 [6] [] (.h 0 [7] [] (.h 0 [8] [] (.h 0 [9] [] (.h 0 [10] [] (.h 0 [11] [] (.h 0 [12] [] (.h 0 [13] [] .e .e) .e) .e) .e) .e) .e) .e) .e) .e) .e) (.h 0 [4] [] (.h 0 [5] [] (.h 0 [6] [] (.h 0 [7] [] (.h 0 [8] [] (.h 0 [9] [] (.h 0 [10] [] (.h 0 [11] [] (.h 0 [12] [] (.h 3 [13] [] .e .e) .e) .e) .e) .e) .e) .e) .e) .e) .e)) .e) .e) .e) .e) .e) .e) .e) .e) (.n (.n (.h 0 [11] [0,1,10] (.n (.h 1 [60] [0,1,10,11] (.h 1 [] [] (.h 0 [0] [] (.h 0 [1] [] (.h 0 [2] [] (.h 2 [3] [] (.h 0 [4] [] (.h 0 [5] [] (.h 0 [6] [] (.h 0 [7] [] (.h 0 [8] [] (.h 0 [9] [] (.h 0 [10] [] (.h 0 [11] [] (.h 0 [12] [] (.h 0 [13] [] (.h 0 [14] [] .e .e) .e) .e) .e) .e) .e) .e) .e) .e) .e) .e) (.h 0 [4] [] (.h 0 [5] [] (.h 0 [6] [] (.h 0 [7] [] (.h 0 [8] [] (.h 0 [9] [] (.h 0 [10] [] (.h 0 [11] [] (.h 0 [12] [] (.h 0 [13] [] (.h 3 [14] [] .e .e) .e) .e) .e) .e) .e) .e) .e) .e) .e) .e)) .e) .e) .e) .e) .e) .e) .e) .e) (.n (.n .e (.n (.n (.h 0 [0,1,2,3,4,5,6,7,8,9,10,11,12,13,14,15] [] .e .e) .e) .e)) (.n (.h 0 [0,1,2,3,4,5,6,7,8,9,10,11,12,13,14,15] [] .e .e) (.n .e (.n .e (.n (.n (.h 0 [10,11] [0,1] (.n (.n (.n (.h 0 [10] [0,1,11] (.n (.h 1 [112] [0,1,10,11] (.h 1 [] [] (.h 0 [0] [] (.h 0 [1] [] (.h 0 [2] [] (.h 2 [3] [] (.h 0 [4] [] (.h 0 [5] [] (.h 0 [6] [] (.h 0 [7] [] (.h 0 [8] [] (.h 0 [9] [] (.h 0 [10] [] (.h 0 [11] [] (.h 0 [12] [] (.h 0 [13] [] .e .e) .e) .e) .e) .e) .e) .e) .e) .e) .e) (.h 0 [4] [] (.h 0 [5] [] (.h 0 [6] [] (.h 0 [7] [] (.h 0 [8] [] (.h 0 [9] [] (.h 0 [10] [] (.h 0 [11] [] (.h 0 [12] [] (.h 3 [13] [] .e .e) .e) .e) .e) .e) .e) .e) .e) .e) .e)) .e) .e) .e) .e) .e) .e) .e) .e) (.n (.n (.h 0 [11] [0,1,10] (.n (.h 1 [129] [0,1,10,11] (.h 1 [] [] (.h 0 [0] [] (.h 0 [1] [] (.h 0 [2] [] (.h 2 [3] [] (.h 0 [4] [] (.h 0 [5] [] (.h 0 [6] [] (.h 0 [7] [] (.h 0 [8] [] (.h 0 [9] [] (.h 0 [10] [] (.h 0 [11] [] (.h 0 [12] [] (.h 0 [13] [] (.h 0 [14] [] .e .e) .e) .e) .e) .e) .e) .e) .e) .e) .e) .e) (.h 0 [4] [] (.h 0 [5] [] (.h 0 [6] [] (.h 0 [7] [] (.h 0 [8] [] (.h 0 [9] [] (.h 0 [10] [] (.h 0 [11] [] (.h 0 [12] [] (.h 0 [13] [] (.h 3 [14] [] .e .e) .e) .e) .e) .e) .e) .e) .e) .e) .e) .e)) .e) .e) .e) .e) .e) .e) .e) .e) (.n .e (.n (.h 0 [0,1,2,3,4,5,6,7,8,9,10,11,12,13,14,15] [] .e .e) .e)))) .e) .e) .e) (.n (.h 0 [0,1,2,3,4,5,6,7,8,9,10,11,12,13,14,15] [] .e .e) .e)))))))))))) func415 h zK,
 λh=>cm (hn:=(.n .e (.n .e (.n (.n .e (.n .e (.n .e (.n (.h 0 [9] [0,1,6,7,8] (.n .e (.n (.n (.n .e (.h 1 [10] [0,1,6,7,8,9] .e (.h 0 [0,1,2,3,4,5,6,7,8,9,10,11,12,13,14,15,16,17,18,19] [] .e .e))) .e) .e)) .e) .e)))) .e)))) func409 h zK,
 λh=>cm (hn:=(.n .e (.n (.n (.h 0 [0,1,2,3,4,5,6,7,8] [] .e .e) .e) .e))) func420 h zK,
 λh=>cm (hn:=.e) func418 h zK,
 λh=>cm (hn:=.e) func417 h zK,
 λh=>cm (hn:=(.n .e (.n .e (.n .e (.n .e (.n .e (.n .e (.h 1 [11] [9] (.n .e (.n (.h 1 [10,11,12] [0,9] .e .e) .e)) .e)))))))) func410 h zK,
 λh=>cm (hn:=(.n .e (.n .e (.n (.h 0 [1,2,3,8,9] [0] (.n (.n .e (.n .e (.n .e (.h 1 [3] [0,1,2,8,9,10] .e (.n .e (.h 1 [11,12] [0,1,2,3,8,9,10] .e (.h 1 [] [0,1,2,3,8,9,10,11] (.n (.h 0 [] [1] .e .e) .e) (.n (.h 1 [87] [0,1,2,3,8,9,10,11] (.h 1 [] [] (.h 0 [0] [] (.h 0 [1] [] (.h 2 [2] [] (.h 0 [3] [] (.h 0 [4] [] (.h 0 [5] [] (.h 0 [6] [] (.h 0 [7] [] (.h 0 [8] [] (.h 0 [9] [] (.h 0 [10] [] (.h 0 [11] [] (.h 0 [12] [] (.h 0 [13] [] (.h 0 [14] [] .e .e) .e) .e) .e) .e) .e) .e) .e) .e) .e) .e) .e) (.h 0 [3] [] (.h 0 [4] [] (.h 0 [5] [] (.h 0 [6] [] (.h 0 [7] [] (.h 0 [8] [] (.h 0 [9] [] (.h 0 [10] [] (.h 0 [11] [] (.h 0 [12] [] (.h 0 [13] [] (.h 3 [14] [] .e .e) .e) .e) .e) .e) .e) .e) .e) .e) .e) .e) .e)) .e) .e) .e) .e) .e)))))))) .e) .e) .e)))) func406 h zK⟩
def zJ:ZV:=⟨308,218,212,303,213,216,217,219,220,214,369,307,306,215,153⟩
theorem aaR:Ep zJ:=⟨λh=>cm (hn:=.e) func308 h zK,
 λh=>cm (hn:=(.n .e (.h 1 [4] [] .e .e))) func218 h zK,
 λh=>cm (hn:=(.n .e (.n (.h 0 [6] [0,1,2] (.n .e (.n (.n (.n .e (.n (.h 0 [7] [0,1,2,6] (.n (.h 1 [30] [0,1,2,6,7] (.h 1 [] [] (.h 0 [0] [] (.h 0 [1] [] (.h 0 [2] [] (.h 2 [3] [] (.h 0 [4] [] (.h 0 [5] [] (.h 0 [6] [] (.h 0 [7] [] (.h 0 [8] [] (.h 0 [9] [] (.h 0 [10] [] (.h 0 [11] [] (.h 0 [12] [] (.h 0 [13] [] (.h 0 [14] [] .e .e) .e) .e) .e) .e) .e) .e) .e) .e) .e) .e) (.h 0 [4] [] (.h 0 [5] [] (.h 0 [6] [] (.h 0 [7] [] (.h 0 [8] [] (.h 0 [9] [] (.h 0 [10] [] (.h 0 [11] [] (.h 0 [12] [] (.h 0 [13] [] (.h 3 [14] [] .e .e) .e) .e) .e) .e) .e) .e) .e) .e) .e) .e)) .e) .e) .e) .e) .e) (.n (.n (.h 0 [0,1,2,3,4,5,6,7,8,9,10,11,12,13,14,15,16,17] [] .e .e) .e) .e)) .e) .e)) .e) .e)) .e) .e))) func212 h zK,
 λh=>cm (hn:=(.n .e (.n (.h 0 [8] [0,2,3] (.n (.n .e (.n .e (.h 1 [9] [0,2,3,8] (.h 1 [36] [0,2,3,8,9] (.h 1 [] [] (.h 0 [0] [] (.h 0 [1] [] (.h 0 [2] [] (.h 0 [3] [] (.h 2 [4] [] (.h 0 [5] [] (.h 0 [6] [] (.h 0 [7] [] (.h 0 [8] [] (.h 0 [9] [] (.h 0 [10] [] (.h 0 [11] [] (.h 0 [12] [] (.h 0 [13] [] (.h 0 [14] [] (.h 0 [15] [] (.h 0 [16] [] (.h 0 [17] [] (.h 0 [18] [] (.h 0 [19] [] .e .e) .e) .e) .e) .e) .e) .e) .e) .e) .e) .e) .e) .e) .e) .e) (.h 0 [5] [] (.h 0 [6] [] (.h 0 [7] [] (.h 0 [8] [] (.h 0 [9] [] (.h 0 [10] [] (.h 0 [11] [] (.h 0 [12] [] (.h 0 [13] [] (.h 0 [14] [] (.h 0 [15] [] (.h 0 [16] [] (.h 0 [17] [] (.h 0 [18] [] (.h 3 [19] [] .e .e) .e) .e) .e) .e) .e) .e) .e) .e) .e) .e) .e) .e) .e) .e)) .e) .e) .e) .e) .e) .e) (.n (.n (.h 0 [0,1,2,3,4,5,6,7,8,9,10,11,12,13] [] .e .e) .e) (.n (.h 0 [0,1,2,3,4,5,6,7,8,9,10,11,12,13,14,15,16,17,18,19,20,21,22,23] [] .e .e) .e))))) .e) .e) .e))) func303 h zK,
 λh=>cm (hn:=(.n .e (.n .e (.n .e (.n (.n .e (.n (.h 0 [9] [0,6,7,8] .e .e) .e)) (.n .e (.n (.h 0 [10] [0,6,7] (.n .e (.n (.n (.n (.h 0 [0,1,2,3,4,5,6,7,8,9,10,11,12,13,14,15,16,17,18,19] [] .e .e) .e) .e) .e)) .e) .e))))))) func213 h zK,
 λh=>cm (hn:=(.n .e (.n .e (.n (.h 0 [6,7] [0] (.n .e (.n (.n (.h 0 [0,1,2,3,4,5,6,7,8,9,10,11,12,13,14,15] [] .e .e) .e) .e)) .e) .e)))) func216 h zK,
 λh=>cm (hn:=(.n .e (.n .e (.n (.n .e (.n (.h 0 [7,8] [0,1,2] (.n .e (.h 1 [7] [0,1,2,8] (.n (.n (.n (.h 0 [7] [0,1,2,8] (.n (.h 1 [32] [0,1,2,7,8] (.h 1 [] [] (.h 0 [0] [] (.h 0 [1] [] (.h 0 [2] [] (.h 2 [3] [] (.h 0 [4] [] (.h 0 [5] [] (.h 0 [6] [] (.h 0 [7] [] (.h 0 [8] [] (.h 0 [9] [] (.h 0 [10] [] (.h 0 [11] [] (.h 0 [12] [] (.h 0 [13] [] (.h 0 [14] [] (.h 0 [15] [] .e .e) .e) .e) .e) .e) .e) .e) .e) .e) .e) .e) .e) (.h 0 [4] [] (.h 0 [5] [] (.h 0 [6] [] (.h 0 [7] [] (.h 0 [8] [] (.h 0 [9] [] (.h 0 [10] [] (.h 0 [11] [] (.h 0 [12] [] (.h 0 [13] [] (.h 0 [14] [] (.h 3 [15] [] .e .e) .e) .e) .e) .e) .e) .e) .e) .e) .e) .e) .e)) .e) .e) .e) .e) .e) .e) .e) .e) (.n .e (.n .e (.n (.h 0 [0,1,2,3,4,5,6,7,8,9,10,11,12,13,14,15,16,17] [] .e .e) (.h 1 [] [0,1,2,7,8] (.n .e (.n (.n .e (.n (.h 0 [9] [0,1,2,7,8] (.n .e (.n (.n (.n (.n (.h 0 [0,1,2,3,4,5,6,7,8,9,10] [] .e .e) .e) (.h 0 [0,1,2,3,4,5,6,7,8,9,10,11,12,13,14,15,16,17] [] .e .e)) .e) .e)) .e) .e)) .e)) (.n .e (.n (.n .e (.n (.h 0 [10] [0,1,2,7,8] (.n .e (.n (.n (.n (.n (.h 0 [0,1,2,3,4,5,6,7,8,9,10] [] .e .e) .e) (.h 0 [0,1,2,3,4,5,6,7,8,9,10,11,12,13,14,15,16,17] [] .e .e)) .e) .e)) .e) .e)) .e))))))) .e) .e)) .e) .e)) .e)))) func217 h zK,
 λh=>cm (hn:=(.n .e (.n (.h 0 [0,1,2,3,4,5,6,7,8,9,10,11,12,13,14,15] [] .e .e) (.n .e (.n (.n (.h 0 [9,10] [0,1] (.n (.n (.n (.h 0 [9] [0,1,10] (.n (.h 1 [43] [0,1,9,10] (.h 1 [] [] (.h 0 [0] [] (.h 0 [1] [] (.h 0 [2] [] (.h 2 [3] [] (.h 0 [4] [] (.h 0 [5] [] (.h 0 [6] [] (.h 0 [7] [] (.h 0 [8] [] (.h 0 [9] [] (.h 0 [10] [] (.h 0 [11] [] (.h 0 [12] [] (.h 0 [13] [] (.h 0 [14] [] .e .e) .e) .e) .e) .e) .e) .e) .e) .e) .e) .e) (.h 0 [4] [] (.h 0 [5] [] (.h 0 [6] [] (.h 0 [7] [] (.h 0 [8] [] (.h 0 [9] [] (.h 0 [10] [] (.h 0 [11] [] (.h 0 [12] [] (.h 0 [13] [] (.h 3 [14] [] .e .e) .e) .e) .e) .e) .e) .e) .e) .e) .e) .e)) .e) .e) .e) .e) .e) .e) .e) .e) (.n (.n (.h 0 [10] [0,1,9] (.n (.h 1 [59] [0,1,9,10] (.h 1 [] [] (.h 0 [0] [] (.h 0 [1] [] (.h 0 [2] [] (.h 2 [3] [] (.h 0 [4] [] (.h 0 [5] [] (.h 0 [6] [] (.h 0 [7] [] (.h 0 [8] [] (.h 0 [9] [] (.h 0 [10] [] (.h 0 [11] [] (.h 0 [12] [] (.h 0 [13] [] .e .e) .e) .e) .e) .e) .e) .e) .e) .e) .e) (.h 0 [4] [] (.h 0 [5] [] (.h 0 [6] [] (.h 0 [7] [] (.h 0 [8] [] (.h 0 [9] [] (.h 0 [10] [] (.h 0 [11] [] (.h 0 [12] [] (.h 3 [13] [] .e .e) .e) .e) .e) .e) .e) .e) .e) .e) .e)) .e) .e) .e) .e) .e) .e) .e) .e) (.n .e (.n (.h 0 [0,1,2,3,4,5,6,7,8,9,10,11,12,13,14,15] [] .e .e) .e)))) .e) .e) .e) .e))))) func219 h zK,
 λh=>cm (hn:=(.n .e (.n (.h 0 [0,1,2,3,4,5,6,7,8,9,10,11,12,13,14,15] [] .e .e) (.n .e (.n (.n (.h 0 [10] [0,1,11] (.n (.h 1 [43] [0,1,10,11] (.h 1 [] [] (.h 0 [0] [] (.h 0 [1] [] (.h 0 [2] [] (.h 2 [3] [] (.h 0 [4] [] (.h 0 [5] [] (.h 0 [6] [] (.h 0 [7] [] (.h 0 [8] [] (.h 0 [9] [] (.h 0 [10] [] (.h 0 [11] [] (.h 0 [12] [] (.h 0 [13] [] .e .e) .e) .e) .e) .e) .e) .e) .e) .e) .e) (.h 0 [4] [] (.h 0 [5] [] (.h 0 [6] [] (.h 0 [7] [] (.h 0 [8] [] (.h 0 [9] [] (.h 0 [10] [] (.h 0 [11] [] (.h 0 [12] [] (.h 3 [13] [] .e .e) .e) .e) .e) .e) .e) .e) .e) .e) .e)) .e) .e) .e) .e) .e) .e) .e) .e) (.n (.n (.h 0 [11] [0,1,10] (.n (.h 1 [60] [0,1,10,11] (.h 1 [] [] (.h 0 [0] [] (.h 0 [1] [] (.h 0 [2] [] (.h 2 [3] [] (.h 0 [4] [] (.h 0 [5] [] (.h 0 [6] [] (.h 0 [7] [] (.h 0 [8] [] (.h 0 [9] [] (.h 0 [10] [] (.h 0 [11] [] (.h 0 [12] [] (.h 0 [13] [] (.h 0 [14] [] .e .e) .e) .e) .e) .e) .e) .e) .e) .e) .e) .e) (.h 0 [4] [] (.h 0 [5] [] (.h 0 [6] [] (.h 0 [7] [] (.h 0 [8] [] (.h 0 [9] [] (.h 0 [10] [] (.h 0 [11] [] (.h 0 [12] [] (.h 0 [13] [] (.h 3 [14] [] .e .e) .e) .e) .e) .e) .e) .e) .e) .e) .e) .e)) .e) .e) .e) .e) .e) .e) .e) .e) (.n (.n .e (.n (.n (.h 0 [0,1,2,3,4,5,6,7,8,9,10,11,12,13,14,15] [] .e .e) .e) .e)) (.n (.h 0 [0,1,2,3,4,5,6,7,8,9,10,11,12,13,14,15] [] .e .e) (.n .e (.n .e (.n (.n (.h 0 [10,11] [0,1] (.n (.n (.n (.h 0 [10] [0,1,11] (.n (.h 1 [112] [0,1,10,11] (.h 1 [] [] (.h 0 [0] [] (.h 0 [1] [] (.h 0 [2] [] (.h 2 [3] [] (.h 0 [4] [] (.h 0 [5] [] (.h 0 [6] [] (.h 0 [7] [] (.h 0 [8] [] (.h 0 [9] [] (.h 0 [10] [] (.h 0 [11] [] (.h 0 [12] [] (.h 0 [13] [] .e .e) .e) .e) .e) .e) .e) .e) .e) .e) .e) (.h 0 [4] [] (.h 0 [5] [] (.h 0 [6] [] (.h 0 [7] [] (.h 0 [8] [] (.h 0 [9] [] (.h 0 [10] [] (.h 0 [11] [] (.h 0 [12] [] (.h 3 [13] [] .e .e) .e) .e) .e) .e) .e) .e) .e) .e) .e)) .e) .e) .e) .e) .e) .e) .e) .e) (.n (.n (.h 0 [11] [0,1,10] (.n (.h 1 [129] [0,1,10,11] (.h 1 [] [] (.h 0 [0] [] (.h 0 [1] [] (.h 0 [2] [] (.h 2 [3] [] (.h 0 [4] [] (.h 0 [5] [] (.h 0 [6] [] (.h 0 [7] [] (.h 0 [8] [] (.h 0 [9] [] (.h 0 [10] [] (.h 0 [11] [] (.h 0 [12] [] (.h 0 [13] [] (.h 0 [14] [] .e .e) .e) .e) .e) .e) .e) .e) .e) .e) .e) .e) (.h 0 [4] [] (.h 0 [5] [] (.h 0 [6] [] (.h 0 [7] [] (.h 0 [8] [] (.h 0 [9] [] (.h 0 [10] [] (.h 0 [11] [] (.h 0 [12] [] (.h 0 [13] [] (.h 3 [14] [] .e .e) .e) .e) .e) .e) .e) .e) .e) .e) .e) .e)) .e) .e) .e) .e) .e) .e) .e) .e) (.n .e (.n (.h 0 [0,1,2,3,4,5,6,7,8,9,10,11,12,13,14,15] [] .e .e) .e)))) .e) .e) .e) (.n (.h 0 [0,1,2,3,4,5,6,7,8,9,10,11,12,13,14,15] [] .e .e) .e)))))))))))) func220 h zK,
 λh=>cm (hn:=(.n .e (.n .e (.n (.n .e (.n .e (.n .e (.n (.h 0 [9] [0,1,6,7,8] (.n .e (.n (.n (.n .e (.h 1 [10] [0,1,6,7,8,9] .e (.h 0 [0,1,2,3,4,5,6,7,8,9,10,11,12,13,14,15,16,17,18,19] [] .e .e))) .e) .e)) .e) .e)))) .e)))) func214 h zK,
 λh=>cm (hn:=(.n .e (.n (.n (.h 0 [0,1,2,3,4,5,6,7,8] [] .e .e) .e) .e))) func369 h zK,
 λh=>cm (hn:=.e) func307 h zK,
 λh=>cm (hn:=.e) func306 h zK,
 λh=>cm (hn:=(.n .e (.n .e (.n .e (.n .e (.n .e (.n .e (.h 1 [11] [9] (.n .e (.n (.h 1 [10,11,12] [0,9] .e .e) .e)) .e)))))))) func215 h zK,
 λh=>cm (hn:=(.n .e (.n .e (.n (.h 0 [1,2,3,8,9] [0] (.n (.n .e (.n .e (.n .e (.h 1 [3] [0,1,2,8,9,10] .e (.n .e (.h 1 [11,12] [0,1,2,3,8,9,10] .e (.h 1 [] [0,1,2,3,8,9,10,11] (.n (.h 0 [] [1] .e .e) .e) (.n (.h 1 [87] [0,1,2,3,8,9,10,11] (.h 1 [] [] (.h 0 [0] [] (.h 0 [1] [] (.h 2 [2] [] (.h 0 [3] [] (.h 0 [4] [] (.h 0 [5] [] (.h 0 [6] [] (.h 0 [7] [] (.h 0 [8] [] (.h 0 [9] [] (.h 0 [10] [] (.h 0 [11] [] (.h 0 [12] [] (.h 0 [13] [] (.h 0 [14] [] .e .e) .e) .e) .e) .e) .e) .e) .e) .e) .e) .e) .e) (.h 0 [3] [] (.h 0 [4] [] (.h 0 [5] [] (.h 0 [6] [] (.h 0 [7] [] (.h 0 [8] [] (.h 0 [9] [] (.h 0 [10] [] (.h 0 [11] [] (.h 0 [12] [] (.h 0 [13] [] (.h 3 [14] [] .e .e) .e) .e) .e) .e) .e) .e) .e) .e) .e) .e) .e)) .e) .e) .e) .e) .e)))))))) .e) .e) .e)))) func153 h zK⟩
end
section
def SXZ(T:TypeId)(kd:IntKind)(v:zV)(d:Array Int):zV->Hp->Prop:=λr C'=>r=.tuple #[]/\Da T kd v d C'
section
variable {v:zV} {d:Array Int} {C:Hp} {T:TypeId} {kd:IntKind} {zs:ZV} (ok:Ep zs)
include ok in
theorem U8(x:Int)(B:Hp):Rd zQ zs.nan #[.int kd x] B (· =.bool false):=by
 refine aE λg=>ok.nan ?_;exact ae.cL (bg.mk (.refl _) zI)
include ok in
theorem dH(x y:Int)(B:Hp):Rd zQ zs.less #[.int kd x,.int kd y] B (· =.bool (cy x y)):=by
 refine aE λg=>ok.less ?_;intro J1 hJ1;exact aa.eq (U8 ok x B) (Split.U0 rfl (aL.mk (ae.lss (aL.mk (JE.mk (hJ1 _ _ λgs=>bg.mk (.refl _) rfl))))))
include ok in
theorem zc(h:Da T kd v d C){a b:Nat}(hab:a<=b)(hb:b<=d.size)(cD:d.size<1152921504606846976):Fc zQ zs.Dp #[v,iv (a:Int),iv (b:Int)] C (SXZ T kd v (Sort.insertionSort cy d a b)):=by
 refine aE λg=>ok.Dp ?_;refine ae.inc (⟨λvs H=>∃(i:Nat) (e:Array Int),vs=[iv (i:Int)]/\a<i/\e.size=d.size/\Sort.insOuter cy a b i e=Sort.insertionSort cy d a b/\Da T kd v e H,λvs _=>d.size-bJ vs 0,JE.mk ⟨a+1,d,rfl,by omega,rfl,rfl,h⟩,?_⟩);rintro w H ⟨i,e,hw,hi,hs,he,hd⟩ gs;simp only[xau,xa1]at hw;subst hw;rw[Sort.insOuter]at he;refine ae.eZ (Br.dec (λhlt=>?_) (λhge=>?_));rotate_left
 ·rw[xac hge]at he;exact aM.here ⟨rfl,by rw[<-he];exact hd⟩
 rw[xae hlt]at he;refine⟨λvs H=>∃(j:Nat) (e:Array Int),vs=[iv (j:Int)]/\a<=j/\j<=i/\e.size=d.size/\Sort.insOuter cy a b (i+1) (Sort.insInner cy a j e)=Sort.insertionSort cy d a b/\Da T kd v e H,λvs _=>bJ vs 0,JE.mk ⟨i,e,rfl,by omega,xaj _,hs,he,hd⟩,?_⟩;clear hd he hs e;rintro w H ⟨j,e,hw,Zr,Zd,hs,he,hd⟩ gs;simp only[xau,xa1]at hw;subst hw;intro J hJ;have no:Sort.insInner cy a j e=e->J [.bool false] H:=λhi=>hJ _ _ λgs=>Br.no (ae.inc (aC.mk ⟨i+1,e,rfl,by omega,hs,by rw[hi]at he;exact he,hd⟩ (by simp[bJ];omega)));have yes:a<j->Sort.insInner cy a j e=Sort.insInner cy a (j-1) (Sort.swp e j (j-1))->J [.bool true] H:=λZr hi=>hJ _ _ λgs=>Br.yes (DR.self (ae.bY (b:=1) (ae.bY (b:=1)
  (hd.swap .here zO zO λC' dN=>ae.bY (b:=1) (aC.mk ⟨j-1,_,rfl,by omega,by omega,ja hs,by rw[<-hi];exact he,dN⟩ (by simp[bJ];omega))))))
 refine DR.self (ae.ny (Br.dec (λhgt=>?_) λhn=>JE.mk (no (Rl hn))));refine hd.ld (λ_ h=>h) zO (ae.bY (b:=1) (hd.ld (λ_ h=>h) zO λF=>?_));refine aa.eq (dH ok _ _ _) (aL.mk ?_);have hst:=Rn (e:=e) hgt;cases hl:cy e[j]! e[j-1]!
 ·rw[hl]at hst;exact JE.mk (no hst)
 rw[hl]at hst;exact JE.mk (yes hgt hst)
include ok in
theorem UL(h:Da T kd v d C){a b:Nat}(hab:a<b)(hb:b<=d.size)(cD:d.size<1152921504606846976):Fc zQ zs.rev #[v,iv (a:Int),iv (b:Int)] C (SXZ T kd v (Sort.reverseRange d a b)):=by
 refine aE λg=>ok.rev ?_;refine ae.bY (b:=1) (⟨λvs H=>∃(i j:Nat) (e:Array Int),vs=[iv (i:Int),iv (j:Int)]/\j<d.size/\e.size=d.size/\Sort.reverseLoop i j e=Sort.reverseRange d a b/\Da T kd v e H,λvs _=>bJ vs 1-bJ vs 0,JE.mk ⟨a,b-1,d,rfl,by omega,rfl,rfl,h⟩,?_⟩);rintro w w' H ⟨i,j,e,hw,hj,hs,he,hd⟩ gs;simp only[xau,xa1]at hw;obtain⟨rfl,rfl⟩:=hw;rw[Sort.reverseLoop]at he;refine ae.eZ (Br.dec (λhlt=>?_) (λhge=>?_));rotate_left
 ·rw[xac hge]at he;exact aM.here ⟨rfl,by rw[<-he];exact hd⟩
 rw[xae hlt]at he;refine DR.self (hd.swap .here zO zO λC' dN=>?_);exact ae.inc (ae.bY (b:=1) (aC.mk ⟨i+1,j-1,_,rfl,by omega,ja hs,he,dN⟩ (by simp[bJ];omega)))
include ok in
theorem QI(h:Da T kd v d C){a b:Nat}(hab:a<b)(hb:b<=d.size)(cD:d.size<1152921504606846976):Fc zQ zs.pins #[v,iv (a:Int),iv (b:Int)] C (λr C'=>r=.bool (Sort.partialInsertionSort cy d a b).2/\Da T kd v (Sort.partialInsertionSort cy d a b).1 C'):=by
 refine aE λg=>ok.pins ?_;refine ae.inc ?_;have fin:∀{e:Array Int} {t:Bool} {H:Hp},(e,t)=Sort.partialInsertionSort cy d a b->Da T kd v e H->aM (λr C'=>r=.bool (Sort.partialInsertionSort cy d a b).2/\Da T kd v (Sort.partialInsertionSort cy d a b).1 C') (.returned (.bool t)) H:=λhe hd=>by
  rw[<-he];exact aM.here ⟨rfl,hd⟩
 refine⟨λvs H=>∃(i k:Nat) (e:Array Int),vs=[iv (i:Int),iv (k:Int)]/\k<=5/\a<i/\i<=b/\e.size=d.size/\Sort.partialIns cy a b (5-k) i e=Sort.partialInsertionSort cy d a b/\Da T kd v e H,λvs _=>5-bJ vs 1,JE.mk ⟨a+1,0,d,rfl,by omega,by omega,by omega,rfl,rfl,h⟩,?_⟩;rintro w w' H ⟨i0,k,e,hw,hk5,T2,zg,hs,he,hd⟩ gs;simp only[xau,xa1]at hw;obtain⟨rfl,rfl⟩:=hw;refine ae.eZ (b:=5) (Br.dec (λhk=>?_) (λhk=>?_));rotate_left
 ·obtain rfl:k=5:=by omega
  exact fin he hd
 rw[show 5-k=(5-(k+1))+1 by omega,Sort.partialIns_succ]at he;intro J9 Sp;refine⟨λvs H=>∃i:Nat,vs=[iv (i:Int)]/\a<i/\i<=b/\Sort.scanSorted cy e b i=Sort.scanSorted cy e b i0/\Da T kd v e H,λvs _=>b-bJ vs 0,JE.mk ⟨i0,rfl,T2,zg,rfl,hd⟩,?_⟩;clear hd T2 zg;rintro w H ⟨i,hw,T2,zg,hsc,hd⟩ gs;simp only[xau,xa1]at hw;subst hw;rw[<-hsc]at he;rw[Sort.scanSorted]at hsc;intro J19 acS;have yes:i<b->(!cy e[i]! e[i-1]!)=true->J19 [.bool true] H:=λhlt hl=>acS _ _ λgs=>Br.yes (ae.inc (aC.mk ⟨i+1,rfl,by omega,by omega,by rw[<-hsc,xan hlt,hl];rfl,hd⟩ (by simp[bJ];omega)));have no:Sort.scanSorted cy e b i=i->J19 [.bool false] H:=λhi=>by
  rw[hi]at he;refine acS _ _ λgs=>Br.no ?_;refine ae.eR (Br.dec (λhz=>?_) (λhne=>?_))
  ·rw[xae hz]at he;exact fin he hd
  rw[xac hne]at he;refine ae.bY (ae.eZ (b:=50) (Br.dec (λhz=>?_) (λhz=>?_)))
  ·rw[xae hz]at he;exact fin he hd
  rw[xac hz]at he;refine DR.self (ae.bY (b:=1) (ae.bY (b:=1) (hd.swap .here zO zO λC1 Pp=>?_)));have uE:(Sort.swp e i (i-1)).size=d.size:=ja hs;generalize Sort.swp e i (i-1)=e1 at Pp uE he;intro Z6 agt;have next:∀(f:Array Int) H',f.size=d.size->f=Sort.fixUp cy b i (Sort.fixDown cy a i e1)->Da T kd v f H'->J9 [iv (i:Int)] H':=λf H' h1 h2 dN=>Sp _ _ λgs=>ae.inc (aC.mk ⟨i,k+1,f,rfl,by omega,T2,zg,h1,by rw[h2];exact he,dN⟩ (by simp[bJ];omega))
  have tail:∀(f:Array Int) H',f.size=d.size->f=Sort.fixDown cy a i e1->Da T kd v f H'->Z6 [] H':=λf H' h1 h2 dN=>by
   refine agt _ λgs=>?_;rw[<-h2]at next
   unfold Sort.fixUp at next
   refine ae.bY (ae.tI (b:=2) (Br.dec (λh2=>?_) (λh2=>JE.mk (next f _ h1 (by rw[xac h2]) dN))));rw[xae h2]at next
   refine ae.inc (⟨λvs H=>∃(j:Nat) (q:Array Int),vs=[iv (j:Int)]/\0<j/\q.size=d.size/\Sort.shiftUp cy b j q=Sort.shiftUp cy b (i+1) f/\Da T kd v q H,λvs _=>b-bJ vs 0,JE.mk ⟨i+1,f,rfl,by omega,h1,rfl,dN⟩,?_⟩);rintro w H ⟨j,q,hw,Ze,YN,hq,Gc⟩ gs;simp only[xau,xa1]at hw;subst hw;rw[Sort.shiftUp]at hq;refine ae.eZ (Br.dec (λhlt=>?_) (λhge=>?_));rotate_left
   ·rw[xac hge]at hq;exact JE.mk (next q _ YN hq Gc)
   rw[xae hlt]at hq;refine DR.self (Gc.ld (λ_ h=>h) zO (ae.bY (b:=1) (Gc.ld (λ_ h=>h) zO (aa.eq (dH ok _ _ _) (Un.not ?_)))));cases hl:cy q[j]! q[j-1]!
   ·rw[hl]at hq;exact Br.yes (JE.mk (next q _ YN hq Gc))
   rw[hl]at hq;refine Br.no (DR.self (ae.bY (b:=1) (ae.bY (b:=1) (Gc.swap .here zO zO λC2 x9=>?_))));exact ae.inc (aC.mk ⟨j+1,_,rfl,by omega,ja YN,hq,x9⟩ (by simp[bJ];omega))
  unfold Sort.fixDown at tail;refine ae.bY (ae.tI (b:=2) (Br.dec (λh2=>?_) (λh2=>JE.mk (tail e1 _ uE (by rw[xac h2]) Pp))));rw[xae h2]at tail;refine ae.bY (b:=1) (⟨λvs H=>∃(j:Nat) (q:Array Int),vs=[iv (j:Int)]/\j<d.size/\q.size=d.size/\Sort.shiftDown cy j q=Sort.shiftDown cy (i-1) e1/\Da T kd v q H,λvs _=>bJ vs 0,JE.mk ⟨i-1,e1,rfl,by omega,uE,rfl,Pp⟩,?_⟩);rintro w H ⟨j,q,hw,Ze,YN,hq,Gc⟩ gs;simp only[xau,xa1]at hw;subst hw;refine ae.tI (b:=1) (Br.dec (λhlt=>?_) (λhge=>JE.mk (tail q _ YN (by rw[<-hq,NX hge]) Gc)));rw[sW hlt]at hq;refine DR.self (Gc.ld (λ_ h=>h) zO (ae.bY (b:=1) (Gc.ld (λ_ h=>h) zO (aa.eq (dH ok _ _ _) (Un.not ?_)))));cases hl:cy q[j]! q[j-1]!
  ·rw[hl]at hq;exact Br.yes (JE.mk (tail q _ YN hq Gc))
  rw[hl]at hq;refine Br.no (DR.self (ae.bY (b:=1) (ae.bY (b:=1) (Gc.swap .here zO zO λC2 x9=>?_))));exact ae.bY (b:=1) (aC.mk ⟨j-1,_,rfl,by omega,ja YN,hq,x9⟩ (by simp[bJ];omega))
 refine DR.self (ae.eZ (Br.dec (λhlt=>?_) λhge=>JE.mk (no (by rw[Sort.scanSorted,xac zP]))));refine hd.ld (λ_ h=>h) zO (ae.bY (b:=1) (hd.ld (λ_ h=>h) zO λF=>?_));refine aa.eq (dH ok _ _ _) (Un.not (aL.mk ?_));cases hl:cy e[i]! e[i-1]!
 ·exact JE.mk (yes hlt (by rw[hl];rfl))
 exact JE.mk (no (by rw[Sort.scanSorted,hl,xac zI]))
include ok in
theorem Fu(h:Da T kd v d C){a b p:Nat}(hp:a<=p/\p<b)(hb:b<=d.size)(cD:d.size<1152921504606846976):Fc zQ zs.vD #[v,iv (a:Int),iv (b:Int),iv (p:Int)] C
  (λr C'=>r=iv ((Sort.partitionEqual cy d a b p).1:Nat)/\Da T kd v (Sort.partitionEqual cy d a b p).2 C'):=by
 refine aE λg=>ok.vD ?_;refine DR.self (h.swap .here zO zO λC1 hd=>?_);refine ae.inc (ae.bY (b:=1) (⟨λvs H=>∃(i j:Nat) (e:Array Int),vs=[iv (i:Int),iv (j:Int)]/\a<i/\i<=b/\a<=j/\j<b/\e.size=d.size/\Sort.partEqLoop cy a i j e=Sort.partitionEqual cy d a b p/\Da T kd v e H,λvs _=>b-bJ vs 0,JE.mk ⟨a+1,b-1,_,rfl,by omega,by omega,by omega,by omega,ja rfl,rfl,hd⟩,?_⟩));clear hd;rintro w w' H0 ⟨i0,j0,e,hw,T2,zg,Zr,hjb,hs,he,hd⟩ gs;simp only[xau,xa1]at hw;obtain⟨rfl,rfl⟩:=hw;rw[Sort.partEqLoop_eq]at he;refine⟨λvs H=>∃i:Nat,vs=[iv (i:Int)]/\i0<=i/\i<=b/\Sort.scanUp (λx=> !cy e[a]! x) e j0 i=Sort.scanUp (λx=> !cy e[a]! x) e j0 i0/\Da T kd v e H,λvs _=>b-bJ vs 0,JE.mk ⟨i0,rfl,xaj _,zg,rfl,hd⟩,?_⟩;clear hd zg;rintro w H ⟨i,hw,F8,zg,hsc,hd⟩ gs;simp only[xau,xa1]at hw;subst hw;rw[<-hsc]at he;rw[Sort.scanUp]at hsc;intro J23 acR;have yes:i<=j0->(!cy e[a]! e[i]!)=true->J23 [.bool true] H:=λhle hl=>acR _ _ λgs=>Br.yes (ae.inc (aC.mk ⟨i+1,rfl,by omega,by omega,by rw[<-hsc,xan hle,hl];rfl,hd⟩ (by simp[bJ];omega)));have no:Sort.scanUp (λx=> !cy e[a]! x) e j0 i=i->J23 [.bool false] H:=λhi=>by
  rw[hi]at he;refine acR _ _ λgs=>Br.no ?_;refine⟨λvs H=>∃j:Nat,vs=[iv (j:Int)]/\a<=j/\j<b/\Sort.scanDown (λx=>cy e[a]! x) e i j=Sort.scanDown (λx=>cy e[a]! x) e i j0/\Da T kd v e H,λvs _=>bJ vs 0,JE.mk ⟨j0,rfl,Zr,hjb,rfl,hd⟩,?_⟩;rintro w H' ⟨j,hw,af8,afC,VI,dN⟩ gs;simp only[xau,xa1]at hw;subst hw;rw[<-VI]at he;intro J33 We;have Mc:i<=j->cy e[a]! e[j]! =true->J33 [.bool true] H':=λhle hl=>We _ _ λgs=>Br.yes (ae.bY (b:=1) (aC.mk ⟨j-1,rfl,by omega,by omega,by rw[<-VI,fA (j:=j) zO,xan hle,hl];rfl,dN⟩ (by simp[bJ];omega)));have Xf:Sort.scanDown (λx=>cy e[a]! x) e i j=j->J33 [.bool false] H':=λhj=>by
   rw[hj]at he;refine We _ _ λgs=>Br.no ?_;refine ae.ny (Br.dec (λhgt=>?_) (λhle=>?_))
   ·rw[xae hgt]at he;exact aM.here (by rw[<-he];exact⟨rfl,dN⟩)
   rw[xac hle]at he;refine DR.self (dN.swap .here zO zO λC2 x9=>?_);exact ae.inc (ae.bY (b:=1) (aC.mk ⟨i+1,j-1,_,rfl,by omega,by omega,by omega,by omega,ja hs,he,x9⟩ (by simp[bJ];omega)))
  refine DR.self (ae.BH (Br.dec (λhle=>?_) λhgt=>JE.mk (Xf ?_)));rotate_left
  ·by_cases h0:j=0
   ·subst h0;rfl
   rw[fA zO,xac zP]
  refine dN.ld (λ_ h=>h) zO ?_;refine dN.ld (λ_ h=>h) zO ?_;intro F;refine aa.eq (dH ok _ _ _) (aL.mk ?_);cases hl:cy e[a]! e[j]!
  ·exact JE.mk (Xf (by rw[fA zO,hl,xac zI]))
  exact JE.mk (Mc hle hl)
 refine DR.self (ae.BH (Br.dec (λhle=>?_) λhgt=>JE.mk (no (by rw[Sort.scanUp,xac zP]))));refine hd.ld (λ_ h=>h) zO (hd.ld (λ_ h=>h) zO λF=>?_);refine aa.eq (dH ok _ _ _) (Un.not (aL.mk ?_));cases hl:cy e[a]! e[i]!
 ·exact JE.mk (yes hle (by rw[hl];rfl))
 exact JE.mk (no (by rw[Sort.scanUp,hl,xac zI]))
end
section
variable {v:zV} {d:Array Int} {C:Hp} {T:TypeId} {kd:IntKind} {zs:ZV} (ok:Ep zs)
include ok in
theorem QK(h:Da T kd v d C){a b p:Nat}(hp:a<=p/\p<b)(hb:b<=d.size)(cD:d.size<1152921504606846976):Fc zQ zs.part #[v,iv (a:Int),iv (b:Int),iv (p:Int)] C
  (λr C'=>r=.tuple #[iv ((Sort.partition cy d a b p).1:Nat),.bool (Sort.partition cy d a b p).2.1]/\Da T kd v (Sort.partition cy d a b p).2.2 C'):=by
 obtain⟨R,hR⟩:∃R,R=Sort.partition cy d a b p:=⟨_,rfl⟩;rw[<-hR];refine aE λg=>ok.part ?_;refine DR.self (h.swap .here zO zO λC1 hd=>?_);have hs:(Sort.swp d a p).size=d.size:=ja rfl;have fin:∀{m:Nat} {t:Bool} {e:Array Int} {H:Hp},(m,t,e)=R->Da T kd v e H->aM (λr C'=>r=.tuple #[iv (R.1:Nat),.bool R.2.1]/\Da T kd v R.2.2 C') (.returned (.tuple #[iv (m:Int),.bool t])) H:=λhe hd=>by
  rw[<-he];exact aM.here ⟨rfl,hd⟩
 unfold Sort.partition at hR;simp only at hR;generalize Sort.swp d a p=e at hd hs hR;refine ae.inc (ae.bY (b:=1) (⟨λvs H=>∃i:Nat,vs=[iv (i:Int)]/\a<i/\i<=b/\Sort.scanUp (λx=>cy x e[a]!) e (b-1) i=Sort.scanUp (λx=>cy x e[a]!) e (b-1) (a+1)/\Da T kd v e H,λvs _=>b-bJ vs 0,JE.mk ⟨a+1,rfl,by omega,by omega,rfl,hd⟩,?_⟩));clear hd;rintro w H ⟨i,hw,T2,zg,hsc,hd⟩ gs;simp only[xau,xa1]at hw;subst hw;rw[<-hsc]at hR;rw[Sort.scanUp]at hsc;intro Z7 Gk;have yes:i<b->cy e[i]! e[a]! =true->Z7 [.bool true] H:=λhle hl=>Gk _ _ λgs=>Br.yes (ae.inc (aC.mk ⟨i+1,rfl,by omega,by omega,by rw[<-hsc,xan (show i<=b-1 by omega),hl];rfl,hd⟩ (by simp[bJ];omega)));have no:Sort.scanUp (λx=>cy x e[a]!) e (b-1) i=i->Z7 [.bool false] H:=λhi=>by
  rw[hi]at hR;refine Gk _ _ λgs=>Br.no ?_;refine⟨λvs H=>∃j:Nat,vs=[iv (j:Int)]/\a<=j/\j<b/\Sort.scanDown (λx=> !cy x e[a]!) e i j=Sort.scanDown (λx=> !cy x e[a]!) e i (b-1)/\Da T kd v e H,λvs _=>bJ vs 0,JE.mk ⟨b-1,rfl,by omega,by omega,rfl,hd⟩,?_⟩;clear hd;rintro w H ⟨j,hw,Zr,hjb,VI,hd⟩ gs;simp only[xau,xa1]at hw;subst hw;rw[<-VI]at hR;intro J27 ZA;have Mc:i<=j->(!cy e[j]! e[a]!)=true->J27 [.bool true] H:=λhle hl=>ZA _ _ λgs=>Br.yes (ae.bY (b:=1) (aC.mk ⟨j-1,rfl,by omega,by omega,by rw[<-VI,fA (j:=j) zO,xan hle,hl];rfl,hd⟩ (by simp[bJ];omega)));have Xf:Sort.scanDown (λx=> !cy x e[a]!) e i j=j->J27 [.bool false] H:=λhj=>by
   rw[hj]at hR;refine ZA _ _ λgs=>Br.no ?_;refine ae.ny (Br.dec (λhgt=>?_) (λhle=>?_))
   ·rw[xae hgt]at hR;refine DR.self (hd.swap .here zO zO λC2 x9=>?_);exact fin hR.symm x9
   rw[xac hle]at hR;refine DR.self (hd.swap .here zO zO λC2 x9=>?_);refine ae.inc (ae.bY (b:=1) ?_);obtain⟨L,hL⟩:∃L,L=Sort.partLoop cy a (i+1) (j-1) (Sort.swp e i j):=⟨_,rfl⟩;rw[<-hL]at hR;have sK:(Sort.swp e i j).size=d.size:=ja hs;generalize Sort.swp e i j=e0 at hL x9 sK;refine⟨λvs H=>∃(i j:Nat) (e:Array Int),vs=[iv (i:Int),iv (j:Int)]/\a<i/\i<=b/\a<=j/\j<b/\e.size=d.size/\L=Sort.partLoop cy a i j e/\Da T kd v e H,λvs _=>b-bJ vs 0,JE.mk ⟨i+1,j-1,e0,rfl,by omega,by omega,by omega,by omega,sK,hL,x9⟩,?_⟩;clear x9 hd T2 zg Zr hjb hle Mc ZA J27 Gk Z7 yes hL sK hs hsc hi VI hj;rintro w w' H0 ⟨i0,j0,e,hw,T2,zg,Zr,hjb,hs,he,hd⟩ gs;simp only[xau,xa1]at hw;obtain⟨rfl,rfl⟩:=hw;rw[Sort.partLoop_eq]at he;refine⟨λvs H=>∃i:Nat,vs=[iv (i:Int)]/\i0<=i/\i<=b/\Sort.scanUp (λx=>cy x e[a]!) e j0 i=Sort.scanUp (λx=>cy x e[a]!) e j0 i0/\Da T kd v e H,λvs _=>b-bJ vs 0,JE.mk ⟨i0,rfl,xaj _,zg,rfl,hd⟩,?_⟩;clear hd zg;rintro w H ⟨i,hw,F8,zg,hsc,hd⟩ gs;simp only[xau,xa1]at hw;subst hw;rw[<-hsc]at he;rw[Sort.scanUp]at hsc;intro J64 acP;have yes:i<=j0->cy e[i]! e[a]! =true->J64 [.bool true] H:=λhle hl=>acP _ _ λgs=>Br.yes (ae.inc (aC.mk ⟨i+1,rfl,by omega,by omega,by rw[<-hsc,xan hle,hl];rfl,hd⟩ (by simp[bJ];omega)));have no:Sort.scanUp (λx=>cy x e[a]!) e j0 i=i->J64 [.bool false] H:=λhi=>by
    rw[hi]at he;refine acP _ _ λgs=>Br.no ?_;refine⟨λvs H=>∃j:Nat,vs=[iv (j:Int)]/\a<=j/\j<b/\Sort.scanDown (λx=> !cy x e[a]!) e i j=Sort.scanDown (λx=> !cy x e[a]!) e i j0/\Da T kd v e H,λvs _=>bJ vs 0,JE.mk ⟨j0,rfl,Zr,hjb,rfl,hd⟩,?_⟩;rintro w H' ⟨j,hw,af8,afC,VI,dN⟩ gs;simp only[xau,xa1]at hw;subst hw;rw[<-VI]at he;intro J74 acO;have Mc:i<=j->(!cy e[j]! e[a]!)=true->J74 [.bool true] H':=λhle hl=>acO _ _ λgs=>Br.yes (ae.bY (b:=1) (aC.mk ⟨j-1,rfl,by omega,by omega,by rw[<-VI,fA (j:=j) zO,xan hle,hl];rfl,dN⟩ (by simp[bJ];omega)));have Xf:Sort.scanDown (λx=> !cy x e[a]!) e i j=j->J74 [.bool false] H':=λhj=>by
     rw[hj]at he;refine acO _ _ λgs=>Br.no ?_;refine ae.ny (Br.dec (λhgt=>?_) (λhle=>?_))
     ·rw[xae hgt]at he;rw[he]at hR;refine DR.self (dN.swap .here zO zO λC2 x9=>?_);exact fin hR.symm x9
     rw[xac hle]at he;refine DR.self (dN.swap .here zO zO λC2 x9=>?_);exact ae.inc (ae.bY (b:=1) (aC.mk ⟨i+1,j-1,_,rfl,by omega,by omega,by omega,by omega,ja hs,he,x9⟩ (by simp[bJ];omega)))
    refine DR.self (ae.BH (Br.dec (λhle=>?_) λhgt=>JE.mk (Xf ?_)));rotate_left
    ·by_cases h0:j=0
     ·subst h0;rfl
     rw[fA zO,xac zP]
    refine dN.ld (λ_ h=>h) zO ?_;refine dN.ld (λ_ h=>h) zO ?_;intro F;refine aa.eq (dH ok _ _ _) (Un.not (aL.mk ?_));cases hl:cy e[j]! e[a]!
    ·exact JE.mk (Mc hle (by rw[hl];rfl))
    exact JE.mk (Xf (by rw[fA zO,hl,xac zI]))
   refine DR.self (ae.BH (Br.dec (λhle=>?_) λhgt=>JE.mk (no (by rw[Sort.scanUp,xac zP]))));refine hd.ld (λ_ h=>h) zO (hd.ld (λ_ h=>h) zO λF=>?_);refine aa.eq (dH ok _ _ _) (aL.mk ?_);cases hl:cy e[i]! e[a]!
   ·exact JE.mk (no (by rw[Sort.scanUp,hl,xac zI]))
   exact JE.mk (yes hle hl)
  refine DR.self (ae.BH (Br.dec (λhle=>?_) λhgt=>JE.mk (Xf ?_)));rotate_left
  ·by_cases h0:j=0
   ·subst h0;rfl
   rw[fA zO,xac zP]
  refine hd.ld (λ_ h=>h) zO (hd.ld (λ_ h=>h) zO λF=>?_);refine aa.eq (dH ok _ _ _) (Un.not (aL.mk ?_));cases hl:cy e[j]! e[a]!
  ·exact JE.mk (Mc hle (by rw[hl];rfl))
  exact JE.mk (Xf (by rw[fA zO,hl,xac zI]))
 refine DR.self (ae.BH (Br.dec (λhle=>?_) λhgt=>JE.mk (no (by rw[Sort.scanUp,xac zP]))));refine hd.ld (λ_ h=>h) zO (hd.ld (λ_ h=>h) zO λF=>?_);refine aa.eq (dH ok _ _ _) (aL.mk ?_);cases hl:cy e[i]! e[a]!
 ·exact JE.mk (no (by rw[Sort.scanUp,hl,xac zI]))
 exact JE.mk (yes zO hl)
include ok in
theorem Cj(h:Da T kd v d C){lo hi f:Nat}(hlo:lo<=d.size)(hb:f+hi<=d.size)(cD:d.size<1152921504606846976):Fc zQ zs.MG #[v,iv (lo:Int),iv (hi:Int),iv (f:Int)] C (SXZ T kd v (Sort.siftDown cy hi f lo d)):=by
 refine aE λg=>ok.MG ?_;refine⟨λvs H=>∃(i:Nat) (e:Array Int),vs=[iv (i:Int)]/\i<=d.size/\e.size=d.size/\Sort.siftDown cy hi f i e=Sort.siftDown cy hi f lo d/\Da T kd v e H,λvs _=>d.size-bJ vs 0,JE.mk ⟨lo,d,rfl,hlo,rfl,rfl,h⟩,?_⟩;rintro w H ⟨r,e,hw,hr,hs,he,hd⟩ gs;simp only[xau,xa1]at hw;subst hw;refine ae.xZ (a:=2) (ae.inc (ae.tI (Br.dec (λhge=>?_) (λhlt=>?_))))
 ·rw[MF hge]at he;exact aM.here ⟨rfl,by rw[<-he];exact hd⟩
 have Lp:=λc=>UF (c:=c) (d:=e) (f:=f) (show 2*r+1<hi by omega);intro J9 Sp;have go:∀c:Nat,r<c->c<hi->(c=if(decide (2*r+1+1<hi) &&cy e[f+(2*r+1)]! e[f+(2*r+1)+1]!)=true then 2*r+2 else 2*r+1)->J9 [iv (c:Int)] H:=λc hrc akz hc=>by
  rw[Lp c hc]at he;refine Sp _ _ λgs=>?_;refine DR.self (ae.fH (hd.ld (λ_ h=>h) zO (ae.fH (hd.ld (λ_ h=>h) zO (aa.eq (dH ok _ _ _) (Un.not ?_))))));cases hl:cy e[f+r]! e[f+c]!
  ·rw[hl]at he;exact Br.yes (aM.here ⟨rfl,by rw[<-he];exact hd⟩)
  rw[hl]at he;refine Br.no (DR.self (ae.fH (ae.fH (ae.fH (hd.Xa .here (i:=f+r) (j:=f+c) (B:=λk=>ae .num .add (iv (f:Int)) (iv (r:Int)) k) zO zO (λk hk=>ae.fH hk) λC1 Pp=>?_)))));exact aC.mk ⟨c,_,rfl,by omega,ja hs,he,Pp⟩ (by simp[bJ];omega)
 intro J36 acQ;have stay:(decide (2*r+1+1<hi) &&cy e[f+(2*r+1)]! e[f+(2*r+1)+1]!)=false->J36 [.bool false] H:=λhc=>acQ _ _ λgs=>Br.no (JE.mk (go _ zO zO (by rw[hc];rfl)));refine DR.self (ae.inc (ae.eZ (Br.dec (λhc=>?_) λhc=>JE.mk (stay (by rw[xal hc];rfl)))));refine ae.fH (hd.ld (λ_ h=>h) zO (ae.fH (ae.inc (hd.ld (λ_ h=>h) zO λF=>?_))));refine aa.eq (dH ok _ _ _) (aL.mk ?_);cases hl:cy e[f+(2*r+1)]! e[f+(2*r+1)+1]!
 ·exact JE.mk (stay (by rw[hl,xec]))
 exact JE.mk (acQ _ _ λgs=>Br.yes (ae.inc (JE.mk (go _ zO hc (by rw[hl,xan hc];rfl)))))
include ok in
theorem Nq(h:Da T kd v d C){a b:Nat}(hab:a<b)(hb:b<=d.size)(cD:d.size<1152921504606846976):Fc zQ zs.heap #[v,iv (a:Int),iv (b:Int)] C (SXZ T kd v (Sort.heapSort cy d a b)):=by
 refine aE λg=>ok.heap ?_;obtain⟨B,hB⟩:∃B,B=Sort.heapBuild cy (b-a) a ((b-a-1) /2+1) d:=⟨_,rfl⟩;have hH:Sort.heapSort cy d a b=Sort.heapPop cy a (b-a) B:=by rw[hB];rfl
 rw[hH];refine ae.bY (ae.bY (b:=1) (ae.Gq (b:=2) (by simp[bF];omega) zO (⟨λvs H=>∃(q:Int) (e:Array Int),vs=[iv q]/\ -1<=q/\q<(b:Int) -a/\e.size=d.size/\B=Sort.heapBuild cy (b-a) a (q+1).toNat e/\Da T kd v e H,λvs _=>up1 vs,JE.mk ⟨(((b-a-1) /2:Nat):Int),d,rfl,by omega,by omega,rfl,hB,h⟩,?_⟩)));clear hB hH;rintro w H ⟨q,e,hw,VJ,hq2,hs,he,hd⟩ gs;simp only[xau,xa1]at hw;subst hw;refine ae.geq (Br.dec (λh0=>?_) (λhn=>?_))
 ·obtain⟨i,rfl⟩:∃i:Nat,q=i:=⟨q.toNat,by omega⟩;rw[show((i:Int)+1).toNat=i+1 by omega,Sort.heapBuild]at he;refine aa.fq (Cj ok hd zO zO zO) ?_;rintro w C1 ⟨rfl,Pp⟩;exact ae.lj (c:=(i:Int) -1) rfl zO (aC.mk ⟨(i:Int) -1,_,rfl,by omega,by omega,by rw[KI];exact hs,by rw[show((i:Int) -1+1).toNat=i by omega];exact he,Pp⟩ (by rw[Aq,Aq];omega))
 obtain rfl:q= -1:=by omega
 have he:B=e:=he;subst he;refine ae.bY (b:=1) (⟨λvs H=>∃(q:Int) (e:Array Int),vs=[iv q]/\ -1<=q/\q<(b:Int) -a/\e.size=d.size/\Sort.heapPop cy a (q+1).toNat e=Sort.heapPop cy a (b-a) B/\Da T kd v e H,λvs _=>up1 vs,JE.mk ⟨((b-a-1:Nat):Int),B,rfl,by omega,by omega,hs,by rw[show(((b-a-1:Nat):Int)+1).toNat=b-a by omega],hd⟩,?_⟩);clear hd hs hn;rintro w H ⟨q,e,hw,VJ,hq2,hs,he,hd⟩ gs;simp only[xau,xa1]at hw;subst hw;refine ae.geq (Br.dec (λh0=>?_) (λhn=>?_));rotate_left
 ·obtain rfl:q= -1:=by omega
  have he:e=Sort.heapPop cy a (b-a) B:=he;exact aM.here ⟨rfl,by rw[<-he];exact hd⟩
 obtain⟨i,rfl⟩:∃i:Nat,q=i:=⟨q.toNat,by omega⟩;rw[show((i:Int)+1).toNat=i+1 by omega,Sort.heapPop]at he;refine DR.self (ae.fH (ae.fH (hd.swap .here zO zO λC1 Pp=>?_)));have uE:(Sort.swp e a (a+i)).size=d.size:=ja hs;refine aa.fq (Cj ok Pp (lo:=0) zO zO zO) ?_;rintro w C2 ⟨rfl,x9⟩;exact ae.lj (c:=(i:Int) -1) rfl zO (aC.mk ⟨(i:Int) -1,_,rfl,by omega,by omega,by rw[KI];exact uE,by rw[show((i:Int) -1+1).toNat=i by omega];exact he,x9⟩ (by rw[Aq,Aq];omega))
end
section
variable {v:zV} {d:Array Int} {C:Hp} {T:TypeId} {kd:IntKind} {zs:ZV} (ok:Ep zs)
theorem xlt{a b:Nat}(ha:a<18446744073709551616)(hb:b<18446744073709551616):a^^^b<18446744073709551616:=Nat.xor_lt_two_pow (n:=64) ha hb
theorem PB(b x:Nat)(hx:x<18446744073709551616):Fc zQ 305 #[ptr b] [(b,.cells #[.int .u64 (x:Int)] 371 zZ)]
  (λr H=>∃y:Nat,y<18446744073709551616/\r=.int .u64 (y:Int)/\H=[(b,.cells #[.int .u64 (y:Int)] 371 zZ)]):=by
 refine aE λg=>Ic (DR.self (Nil.ptr (Ld.q ?_)));refine Nil.ptr (Ld.q ?_);refine ae.nL (b:=13) (ae.X1 hx (xbC _ zD) ?_);have h1:=xlt hx (xbC (x<<<13) (show 0<18446744073709551616 by decide));generalize x^^^x<<<13%18446744073709551616=x1 at h1;refine Nil.ptr (St.one (by exact .head _) rfl zI rfl ?_);refine DR.self (Nil.ptr (Ld.q ?_));refine Nil.ptr (Ld.q ?_);refine ae.iM (b:=7) h1 ?_;have h2:x1>>>7<18446744073709551616:=by rw[xa0];omega
 refine ae.X1 h1 h2 ?_;have h3:=xlt h1 h2;generalize x1^^^x1>>>7=x2 at h3;refine Nil.ptr (St.one (by exact .head _) rfl zI rfl ?_);refine DR.self (Nil.ptr (Ld.q ?_));refine Nil.ptr (Ld.q ?_);refine ae.nL (b:=17) (ae.X1 h3 (xbC _ zD) ?_);have h4:=xlt h3 (xbC (x2<<<17) (show 0<18446744073709551616 by decide));generalize x2^^^x2<<<17%18446744073709551616=x3 at h4;refine Nil.ptr (St.one (by exact .head _) rfl zI rfl ?_);refine Nil.ptr (Ld.q ?_);exact aM.here ⟨x3,h4,rfl,rfl⟩
theorem Bo{x:Nat}(hx:x<18446744073709551616)(B:Hp):Rd zQ 154 #[.int .u64 (x:Int)] B (λv=>∃r:Nat,Am x r/\v=iv (r:Int)):=by
 refine aE λg=>JM (Br.no (aa.rq (Q4 hx B) ?_));rintro w hw;exact bg.mk (.refl _) hw
theorem U3{x:Nat}(h0:0<x)(hx:x<1152921504606846976)(B:Hp):Rd zQ 304 #[iv (x:Int)] B (λv=>∃r:Nat,0<r/\r<=2*x/\v=.int .u64 (r:Int)):=by
 refine aE λg=>Ie (aZ.q (aa.rq (Bo zO B) ?_));rintro w ⟨r,hr,rfl⟩;have RD:0<r:=by
  rcases Nat.eq_zero_or_pos r with e|e
  ·subst e;have:=hr.1;omega
  exact e
 have h2:2^(r-1)<=x:=by
  rcases hr.2 with e|e
  ·omega
  exact e
 have h3:2^r=2*2^(r-1):=by
  obtain⟨k,rfl⟩:∃k,r=k+1:=⟨r-1,by omega⟩;rw[xb5,xd2];omega
 refine ae.nL (a:=1) ?_;have e:1<<<r%18446744073709551616=2^r:=by
  rw[xcl,xc2];exact xbi zO
 rw[e];exact bg.mk (.refl _) ⟨2^r,xbx r,by omega,rfl⟩
include ok in
theorem WC(h:Da T kd v d C){a b:Nat}(hab:a<b)(hb:b<=d.size)(cD:d.size<1152921504606846976):Fc zQ zs.brk #[v,iv (a:Int),iv (b:Int)] C (λr C'=>r=.tuple #[]/\∃e,Sort.PermIn a b d e/\Da T kd v e C'):=by
 refine aE λg=>ok.brk ?_;refine ae.bY (ae.tI (b:=8) (Br.dec (λh8=>?_) (λ_=>aM.here ⟨rfl,d,Sort.permIn_refl _ _ _,h⟩)));refine aZ.q λb4 _=>(St.one (by exact .head _) rfl zI rfl ?_);refine aa.rq (U3 zO zO C) ?_;rintro w ⟨m,hm0,hm,rfl⟩;refine ae.Gq (b:=4) (by simp[bF];omega) zO (ae.xZ (b:=2) (ae.fH (ae.bY (b:=1) ?_)));refine⟨λvs H=>∃(i x:Nat) (C':Hp) (e:Array Int),vs=[iv (i:Int)]/\a<=i/\x<18446744073709551616/\H=(b4,.cells #[.int .u64 (x:Int)] 371 zZ)::C'/\Sort.PermIn a b d e/\Da T kd v e C',λvs _=>b-bJ vs 0,
  JE.mk ⟨_,b-a,C,d,rfl,by omega,by omega,rfl,Sort.permIn_refl _ _ _,h⟩,?_⟩
 rintro w H ⟨i,x,C',e,hw,T2,hx,rfl,hp,hd⟩ gs;simp only[xau,xa1]at hw;subst hw;have hs:=hp.1;refine ae.Gq (b:=4) (by simp[bF];omega) zO (ae.xZ (b:=2) (ae.fH (ae.inc (ae.BH (Br.dec (λhle=>?_) (λ_=>aM.mk .tail ⟨rfl,e,hp,hd⟩))))));refine aa.fn (.left (A:=C')) (PB b4 x hx) ?_;rintro w H' ⟨y,hy,rfl,rfl⟩;refine ae.bY (b:=1) (ae.jF (by simp[bF];omega) (by simp[bF];omega) ?_);have hand:y&&& (m-1)<m:=by have:=xc7 (n:=y) (m:=m-1);omega
 generalize y&&& (m-1)=z at hand;refine aZ.q λJ28 agw=>?_;have go:∀o:Nat,o<b-a->J28 [iv (o:Int)] ([(b4,Obj.cells #[.int .u64 (y:Int)] 371 zZ)]++C'):=λo ho=>by
  refine agw _ _ λgs=>?_;refine DR.self (ae.fH (ae.fH (hd.swap (.cons .here) zO zO λC1 Pp=>?_)));exact ae.inc (aC.mk ⟨i+1,y,C1,_,rfl,by omega,hy,rfl,Sort.permIn_trans _ _ _ _ _ hp (Sort.swp_permIn _ a b i (a+o) T2 zO zO zO zO),Pp⟩ (by simp[bJ];omega))
 refine ae.tI (Br.dec (λhge=>?_) (λhlt=>JE.mk (go z zO)));exact ae.bY (JE.mk (go _ zO))
def OQZ(b:Nat)(C:Hp)(i j:Nat):zV->Hp->Prop:=λr H=>(r=.tuple #[iv (i:Int),iv (j:Int)]\/r=.tuple #[iv (j:Int),iv (i:Int)])/\∃z:Int,H=(b,.cells #[iv z] 3 zZ)::C
include ok in
theorem vH(h:Da T kd v d C){b:Nat}{z:Int}{i j:Nat}(hi:i<d.size)(hj:j<d.size):
  Fc zQ zs.Fw #[v,iv (i:Int),iv (j:Int),ptr b] ((b,.cells #[iv z] 3 zZ)::C) (OQZ b C i j):=by
 refine aE λg=>ok.Fw ?_;refine DR.self (h.ld (λ_ h=>.tail _ h) hj (h.ld (λ_ h=>.tail _ h) hi (aa.eq (dH ok _ _ _) (Br.mk (λ_=>?_) (λ_=>aM.here ⟨.inl rfl,z,rfl⟩)))));refine Nil.ptr (Ld.q ?_);refine ae.add (Nil.ptr (St.one (by exact .head _) rfl zI rfl ?_));exact aM.here ⟨.inr rfl,_,rfl⟩
def MQZ(b:Nat)(C:Hp)(p:Nat->Prop):zV->Hp->Prop:=λr H=>(∃m:Nat,r=iv (m:Int)/\p m)/\∃z:Int,H=(b,.cells #[iv z] 3 zZ)::C
include ok in
theorem Le(h:Da T kd v d C){b:Nat}{z:Int}{i j k:Nat}(hi:i<d.size)(hj:j<d.size)(hk:k<d.size):
  Fc zQ zs.med #[v,iv (i:Int),iv (j:Int),iv (k:Int),ptr b] ((b,.cells #[iv z] 3 zZ)::C) (MQZ b C λm=>m=i\/m=j\/m=k):=by
 refine aE λg=>ok.med ?_;refine aa.fq (vH ok h hi hj) ?_;rintro w H ⟨hw,z1,rfl⟩;obtain⟨i1,j1,rfl,hij⟩:∃i1 j1:Nat,w=.tuple #[iv (i1:Int),iv (j1:Int)]/\((i1=i/\j1=j)\/(i1=j/\j1=i)):=by
  rcases hw with rfl|rfl
  ·exact⟨i,j,rfl,.inl ⟨rfl,rfl⟩⟩
  exact⟨j,i,rfl,.inr ⟨rfl,rfl⟩⟩
 refine Ext.two (aa.fq (vH ok h (i:=j1) (j:=k) zO hk) ?_);rintro w H ⟨hw,z2,rfl⟩;obtain⟨j2,k2,rfl,VU⟩:∃j2 k2:Nat,w=.tuple #[iv (j2:Int),iv (k2:Int)]/\((j2=j1/\k2=k)\/(j2=k/\k2=j1)):=by
  rcases hw with rfl|rfl
  ·exact⟨_,_,rfl,.inl ⟨rfl,rfl⟩⟩
  exact⟨_,_,rfl,.inr ⟨rfl,rfl⟩⟩
 refine Ext.two (aa.fq (vH ok h (i:=i1) (j:=j2) zO zO) ?_);rintro w H ⟨hw,z3,rfl⟩;rcases hw with rfl|rfl
 ·exact Ext.mk rfl (Ext.mk rfl (aM.here ⟨⟨_,rfl,by omega⟩,_,rfl⟩))
 exact Ext.mk rfl (Ext.mk rfl (aM.here ⟨⟨_,rfl,by omega⟩,_,rfl⟩))
include ok in
theorem vP(h:Da T kd v d C){b:Nat}{z:Int}{i:Nat}(h0:0<i)(hi:i+1<d.size)(cD:d.size<1152921504606846976):
  Fc zQ zs.FD #[v,iv (i:Int),ptr b] ((b,.cells #[iv z] 3 zZ)::C) (MQZ b C λm=>i<=m+1/\m<=i+1):=by
 refine aE λg=>ok.FD ?_;refine ae.bY (b:=1) (ae.inc (aa.fq (Le ok h zO zO hi) ?_));rintro w H ⟨⟨m,rfl,hm⟩,z',rfl⟩;exact aM.here ⟨⟨m,rfl,by omega⟩,z',rfl⟩
include ok in
theorem UY(h:Da T kd v d C){a b:Nat}(hab:a<b)(hb:b<=d.size)(cD:d.size<1152921504606846976):
  Rd zQ zs.piv #[v,iv (a:Int),iv (b:Int)] C (λr=>∃(p:Nat) (q:Int),r=.tuple #[iv (p:Int),iv q]/\a<=p/\p<b):=by
 refine aE λg=>ok.piv ?_;refine ae.bY λb2 _=>(ae.Gq (b:=4) (by simp[bF];omega) zO (ae.xZ (b:=1) (ae.fH (ae.Gq (b:=4) (by simp[bF];omega) zO (ae.xZ (b:=2) (ae.fH (ae.Gq (b:=4) (by simp[bF];omega) zO (ae.xZ (b:=3) (ae.fH ?_)))))))));intro J13 agz;have fin:∀(p:Nat) (z:Int),a<=p->p<b->J13 [iv (p:Int)] ((b2,.cells #[iv z] 3 zZ)::C):=λp z uF lY=>by
  refine agz _ _ λgs=>?_;refine Ld.q ?_;refine ae.ik (Br.dec (λ_=>bg.mk .tail ⟨p,_,rfl,uF,lY⟩) (λ_=>?_));exact ae.ik (Br.dec (λ_=>bg.mk .tail ⟨p,_,rfl,uF,lY⟩) (λ_=>bg.mk .tail ⟨p,_,rfl,uF,lY⟩))
 refine ae.tI (b:=8) (Br.dec (λh8=>?_) (λ_=>JE.mk (fin _ _ zO zO)));intro J21 agy;have three:∀(x y u:Nat) (z:Int),a<=x/\x<b->a<=y/\y<b->a<=u/\u<b->J21 [iv (x:Int),iv (y:Int),iv (u:Int)] ((b2,.cells #[iv z] 3 zZ)::C):=λx y u z hx hy hu=>by
  refine agy _ _ _ _ λgs=>?_;refine aa.fq (Le ok h zO zO zO) ?_;rintro w H ⟨⟨m,rfl,hm⟩,z',rfl⟩;exact JE.mk (fin _ _ zO zO)
 refine ae.tI (b:=50) (Br.dec (λh50=>?_) (λ_=>JE.mk (three _ _ _ _ zO zO zO)));refine aa.fq (vP ok h zO zO cD) ?_;rintro w H ⟨⟨m1,rfl,uj⟩,z1,rfl⟩;refine aa.fq (vP ok h zO zO cD) ?_;rintro w H ⟨⟨m2,rfl,lZ⟩,z2,rfl⟩;refine aa.fq (vP ok h zO zO cD) ?_;rintro w H ⟨⟨m3,rfl,hm3⟩,z3,rfl⟩;exact JE.mk (three _ _ _ _ zO zO zO)
def PSZ(T:TypeId)(kd:IntKind)(v:zV)(d:Array Int)(a b:Nat):zV->Hp->Prop:=λr C'=>r=.tuple #[]/\∃e,(Sort.PermIn a b d e/\Sort.SortedIn cy a b e)/\Da T kd v e C'
include ok in
theorem KY:∀(N:Nat) {C:Hp} {d:Array Int} (h:Da T kd v d C) {a b:Nat} (hN:b-a<=N) (hab:a<=b) (hb:b<=d.size) (cD:d.size<1152921504606846976) (hB:Sort.Below cy a b d) (z:Int),Fc zQ zs.Yj #[v,iv (a:Int),iv (b:Int),iv z] C (PSZ T kd v d a b):=by
 intro N;induction N with
 |zero=>
  intro C d h a b hN hab hb cD hB z g;refine ok.Yj (R:=aM _) ?_;unfold L9014;refine⟨λvs H=>vs=[iv (a:Int),iv (b:Int),iv z,.bool true,.bool true]/\H=C,λ_ _=>0,JE.mk ⟨rfl,rfl⟩,?_⟩;rintro w1 w2 w3 w4 w5 H ⟨hw,rfl⟩ gs;simp only[xau,xa1]at hw;obtain⟨rfl,rfl,rfl,rfl,rfl⟩:=hw;refine ae.bY (ae.BH (b:=12) (Br.T (aa.fq (zc ok h hab hb cD) ?_)));rintro w C' ⟨rfl,hd⟩;exact aM.here ⟨rfl,_,Sort.insertionSort_holds Sort.swo_ltInt d a b hab hb,hd⟩
 |succ N ih=>
  intro C d h a b hN hab hb cD hB z g;refine ok.Yj (R:=aM _) ?_;unfold L9014;obtain⟨G,hG⟩:∃G:Array Int->Prop,G=λR=>Sort.PermIn a b d R/\Sort.SortedIn cy a b R:=⟨_,rfl⟩;have fin:∀{R:Array Int} {H:Hp},G R->Da T kd v R H->aM (PSZ T kd v d a b) (.returned (.tuple #[])) H:=λhR hd=>by
   subst hG;exact aM.here ⟨rfl,_,hR,hd⟩
  refine⟨λvs H=>∃(a b:Nat) (z:Int) (t1 t2:Bool) (e:Array Int),vs=[iv (a:Int),iv (b:Int),iv z,.bool t1,.bool t2]/\b-a<=N+1/\a<=b/\b<=e.size/\e.size=d.size/\Sort.Below cy a b e/\(∀R,Sort.PermIn a b e R->Sort.SortedIn cy a b R->G R)/\Da T kd v e H,λvs _=>bJ vs 1-bJ vs 0,
   JE.mk ⟨a,b,z,true,true,d,rfl,hN,hab,hb,rfl,hB,by subst hG;exact λR h1 h2=>⟨h1,h2⟩,h⟩,?_⟩
  clear h hN hab hb hB hG;rintro w1 w2 w3 w4 w5 H ⟨a,b,z,t1,t2,e,hw,hN,hab,hb,hs,hB,Lp,h⟩ gs;simp only[xau,xa1]at hw;obtain⟨rfl,rfl,rfl,rfl,rfl⟩:=hw;refine ae.bY (ae.BH (b:=12) (Br.dec (λNI=>?_) (λNI=>?_)))
  ·refine aa.fq (zc ok h hab hb zO) ?_;rintro w C' ⟨rfl,hd⟩;obtain⟨q1,q2⟩:=Sort.insertionSort_holds Sort.swo_ltInt e a b hab hb;exact fin (Lp _ q1 q2) hd
  refine ae.ik (Br.dec (λ_=>?_) (λ_=>?_))
  ·refine aa.fq (Nq ok h zO hb zO) ?_;rintro w C' ⟨rfl,hd⟩;obtain⟨q1,q2⟩:=Sort.heapSort_holds Sort.swo_ltInt e a b hab hb;exact fin (Lp _ q1 q2) hd
  intro Z7 Gk;have k17:∀(z1:Int) H1 e1,Sort.PermIn a b e e1->Da T kd v e1 H1->Z7 [iv z1] H1:=λz1 H1 e1 p1 h1=>by
   have uE:=p1.1;refine Gk _ _ λgs=>?_;refine aa.rq (UY ok h1 (a:=a) (b:=b) zO zO zO) ?_;rintro w ⟨p,q,rfl,uF,lY⟩;refine Ext.two λJ25 agx=>?_;have k25:∀(p:Nat) (q:Int) H2 e2,a<=p->p<b->Sort.PermIn a b e e2->Da T kd v e2 H2->J25 [iv (p:Int),iv q] H2:=λp q H2 e2 uF lY p2 h2=>by
    have sK:=p2.1;refine agx _ _ _ λgs=>?_;intro J30 agv;have k30:∀H3 e3,Sort.PermIn a b e e3->Da T kd v e3 H3->J30 [] H3:=λH3 e3 p3 h3=>by
     have hs3:=p3.1;have hB3:=hB.perm hb p3;have R8:b<=e3.size:=by omega
     refine agv _ λgs=>?_;intro J33 We;have k33:∀(t:Bool),(t=true->0<a/\cy e3[a-1]! e3[p]! =false)->J33 [.bool t] H3:=λt ht=>by
      refine We _ _ λgs=>?_;refine Br.mk (λet=>?_) (λ_=>?_)
      ·obtain⟨ha0,hnl⟩:=ht et;refine aa.fq (Fu ok h3 ⟨uF,lY⟩ R8 zO) ?_;rintro w C' ⟨rfl,hd⟩;obtain⟨g1,g2,g3,g4,g5⟩:=Sort.round_eq Sort.swo_ltInt (Sort.partitionEqual_holds cy) ha0 uF lY R8 hB3 hnl (mid:=(Sort.partitionEqual cy e3 a b p).1) (d4:=(Sort.partitionEqual cy e3 a b p).2) rfl;generalize (Sort.partitionEqual cy e3 a b p).1=m at*;generalize (Sort.partitionEqual cy e3 a b p).2=e4 at*;exact aC.mk ⟨m,b,z1,t1,t2,e4,rfl,by omega,by omega,by omega,by omega,g4,λR r1 r2=>by
        obtain⟨q1,q2⟩:=g5 R r1 r2;exact Lp R (Sort.permIn_trans _ _ _ _ _ p3 q1) q2,hd⟩ (by simp[bJ];omega)
      refine aa.fq (QK ok h3 ⟨uF,lY⟩ R8 zO) ?_;rintro w C' ⟨rfl,hd⟩;obtain⟨g1,g2,g3,g4,g5,g6,g7⟩:=Sort.round_part Sort.swo_ltInt (Sort.partition_holds cy) uF lY R8 hB3 (mid:=(Sort.partition cy e3 a b p).1) (ap:=(Sort.partition cy e3 a b p).2.1) (d4:=(Sort.partition cy e3 a b p).2.2) rfl;generalize (Sort.partition cy e3 a b p).1=m at*;generalize (Sort.partition cy e3 a b p).2.1=t at*;generalize (Sort.partition cy e3 a b p).2.2=e4 at*;refine Ext.two (ae.bY (ae.bY (ae.Gq (b:=8) (by simp[bF];omega) zO (ae.eZ (Br.dec (λ_=>?_) (λ_=>?_))))))
      ·refine ae.tI (aa.fq (ih hd (a:=a) (b:=m) zO zO zO zO g4 z1) ?_);rintro w C' ⟨rfl,e5,⟨l1,l2⟩,dN⟩;obtain⟨hBL,ie⟩:=g6 _ l1 l2;have hs5:=l1.1;refine ae.inc ?_;exact aC.mk ⟨m+1,b,z1,_,t,e5,rfl,by omega,by omega,by omega,by omega,hBL,λR r1 r2=>by
        obtain⟨q1,q2⟩:=ie R r1 r2;exact Lp R (Sort.permIn_trans _ _ _ _ _ p3 q1) q2,dN⟩ (by simp[bJ];omega)
      refine ae.tI (ae.inc (aa.fq (ih hd (a:=m+1) (b:=b) zO zO zO zO g5 z1) ?_));rintro w C' ⟨rfl,e5,⟨l1,l2⟩,dN⟩;obtain⟨hBL,ie⟩:=g7 _ l1 l2;have hs5:=l1.1;exact aC.mk ⟨a,m,z1,_,t,e5,rfl,by omega,by omega,by omega,by omega,hBL,λR r1 r2=>by
       obtain⟨q1,q2⟩:=ie R r1 r2;exact Lp R (Sort.permIn_trans _ _ _ _ _ p3 q1) q2,dN⟩ (by simp[bJ];omega)
     refine DR.self (ae.ny (b:=0) (Br.dec (λh0=>?_) (λ_=>JE.mk (k33 false nofun))));refine ae.bY (b:=1) (h3.ld (λ_ h=>h) zO (h3.ld (λ_ h=>h) zO λF=>?_));exact aa.eq (dH ok _ _ _) (Un.not (aL.mk (JE.mk (k33 _ λht=>⟨h0,by simpa using ht⟩))))
    refine dc.and t2 (λ_=>⟨rfl,rfl⟩) rfl λgs=>?_;refine dc.and (decide (q=1)) (λ_=>ae.ik ⟨rfl,rfl⟩) rfl λgs=>?_;refine Br.mk (λ_=>?_) (λ_=>JE.mk (k30 _ _ p2 h2));refine aa.fq (QI ok h2 zO (show b<=e2.size by omega) zO) ?_;rintro w C' ⟨rfl,hd⟩;obtain⟨q1,q2⟩:=Sort.partialInsertionSort_holds Sort.swo_ltInt e2 a b zO zO (hB.perm hb p2);exact Br.mk (λet=>fin (Lp _ (Sort.permIn_trans _ _ _ _ _ p2 q1) (q2 et)) hd) (λ_=>JE.mk (k30 _ _ (Sort.permIn_trans _ _ _ _ _ p2 q1) hd))
   refine ae.ik (Br.dec (λ_=>?_) (λ_=>JE.mk (k25 p q _ _ uF lY p1 h1)));refine aa.fq (UL ok h1 (a:=a) (b:=b) zO zO zO) ?_;rintro w C' ⟨rfl,hd⟩;exact ae.bY (b:=1) (ae.bY (ae.bY (JE.mk (k25 _ _ _ _ zO zO (Sort.permIn_trans _ _ _ _ _ p1 (Sort.reverseRange_holds e1 a b hab zO)) hd))))
  refine Un.not (Br.mk (λ_=>?_) (λ_=>JE.mk (k17 _ _ _ (Sort.permIn_refl _ _ _) h)));refine aa.fq (WC ok h (a:=a) (b:=b) zO hb zO) ?_;rintro w C' ⟨rfl,e1,p1,hd⟩;exact ae.sub (JE.mk (k17 _ _ _ p1 hd))
end
def Fa(l:List Int):List Int:=l.mergeSort λx y=>decide (x<=y)
theorem Qb{d e:Array Int}(h1:Sort.PermIn 0 d.size d e)(h2:Sort.SortedIn cy 0 d.size e):e.toList=Fa d.toList:=by
 rw[Sort.sorted_unique_holds Sort.swo_ltInt (λx y h1 h2=>by simp[Sort.ltInt]at h1 h2;omega) d e h1 h2];unfold Fa;congr 1
 funext x y
 show(!decide (y<x))=decide (x<=y);rw[xbS];simp
def Ce(l:zL):zL:=l.mergeSort λx y=>decide (x<=y)
theorem ir(l:zL):(Ce l).Perm l:=List.mergeSort_perm _ _
theorem Ay(l:zL):(Ce l).Pairwise λx y=>x<=y:=
 (List.pairwise_mergeSort (le:=λx y:Nat=>decide (x<=y)) (λa b c h1 h2=>by simp only[xaI]at*;omega) (λa b=>by simp only[xbt,xaI];omega) l).imp λh=>xca h
theorem Uy{l l':zL}(h:l.Perm l'):Ce l=Ce l':=
 List.Perm.eq_of_pairwise (λa b _ _ h1 h2=>xd3 h1 h2) (Ay l) (Ay l') (((ir l).trans h).trans (ir l').symm)
theorem KH(l:zL):Fa (iw l)=iw (Ce l):=by
 refine List.Perm.eq_of_pairwise (le:=λx y:Int=>x<=y) (λa b _ _ h1 h2=>Int.le_antisymm h1 h2) ?_ ?_ ((List.mergeSort_perm _ _).trans ((ir l).map _).symm)
 ·exact(List.pairwise_mergeSort (le:=λx y:Int=>decide (x<=y)) (λa b c h1 h2=>by simp only[xaI]at*;omega) (λa b=>by simp only[xbt,xaI];omega) _).imp λh=>xca h
 exact xb9.2 ((Ay l).imp λh=>by omega)
theorem Uz{v:zV}{C:Hp}{l:List Int}(h:aO 110 .u32 v l C)(cD:l.length<1152921504606846976):Fc zQ 401 #[v] C (λr C'=>r=.tuple #[]/\aO 110 .u32 v (Fa l) C'):=by
 refine aE λg=>GS (h.bP ?_);refine aZ.q (aa.rq (Bo zO C) ?_);rintro w ⟨r,_,rfl⟩;have hd:Da 110 .u32 v l.toArray C:=h;refine aa.fn .here (KY aaQ l.length hd (a:=0) (b:=l.length) zO zO zI (by simpa using cD) (.inl rfl) _) ?_;rintro w C' ⟨rfl,e,⟨h1,h2⟩,dN⟩;have he:=Qb (d:=l.toArray) (by simpa using h1) (by simpa using h2);exact aM.here ⟨rfl,by rw[show Fa l=e.toList from he.symm];exact dN⟩
end
end Go.Proofs
namespace Go.Sx
open Go
section
variable {P:Program} {g:Gh} {F:Fence} {n:Nat} {ops:Array Oper} {Q:Exit->Act->World->Prop} {rest:List Oper} {o:Oper} {a:Act} {fr:Fr} {w:World} {H:Hp}
abbrev xR(ds:List Deferred)(n:Nat)(a:Act)(fr:Fr):Prop:=cA ds n a fr
variable {ds:List Deferred}
theorem xR.put(h:xR ds n a fr){d:Option Nat}(hd:eC n d=true)(v:zV):xR ds n (a.put d v) (br fr d v):=cA.put h hd v
theorem dA{v0:zV}(hF:∀f,F.fn f)(hg:o.guard=none)(fc:∀c,o.op≠.defer c)(hd:eC n o.dst=true)(ha:xR ds n a fr)(hw:Own g H w)(h:AO P g o (ev fr) H (· =v0))
 (k:∀a',xR ds n a' (br fr o.dst v0)->wpListIn F 0 P ops Q rest a' w):wpListIn F 0 P ops Q (o::rest) a w:=by
 refine wpListIn_plain hg λK hK=>⟨λf _=>hF f,?_⟩;rw[Oper.semAt_eq _ _ _ fc,ha.eval];obtain⟨v,hv,hr,_⟩:=oN h;rw[hr w hw];subst hv;exact hK _ _ (k _ (ha.put hd _))
theorem u4{s:Sem zV}{K:zV->Hp->Prop}(hF:∀f,F.fn f)(hg:o.guard=none)(fc:∀c,o.op≠.defer c)(hd:eC n o.dst=true)(ha:xR ds n a fr)(he:execOp (ev fr) o=(do pure (.value (<-s))))
 (h:∃v w' H',s.run P w=.ok v w'/\Own g H' w'/\K v H')
 (k:∀v H' w' a',K v H'->Own g H' w'->xR ds n a' (br fr o.dst v)->wpListIn F 0 P ops Q rest a' w'):wpListIn F 0 P ops Q (o::rest) a w:=by
 refine wpListIn_plain hg λK hK=>⟨λf _=>hF f,?_⟩;rw[Oper.semAt_eq _ _ _ fc,ha.eval,he];obtain⟨v,w',H',hr,ho,hk⟩:=h;simp only[Sem.run_bind,hr,Result.andThen_ok,Sem.run_pure];exact hK _ _ (k v H' w' _ hk ho (ha.put hd _))
theorem yE{s:Sem zV}{K:zV->Hp->Prop}(hF:∀f,F.fn f)(hg:o.guard=none)(fc:∀c,o.op≠.defer c)(hd:eC n o.dst=true)(ha:xR ds n a fr)(hw:Own g H w)(he:execOp (ev fr) o=(do pure (.value (<-s))))
 (h:M1 P g o (ev fr) H K (λ_ _=>False))
 (k:∀v H' w' a',K v H'->Own g H' w'->xR ds n a' (br fr o.dst v)->wpListIn F 0 P ops Q rest a' w'):wpListIn F 0 P ops Q (o::rest) a w:=by
 have h1:=vI (o6 fr) h w hw;rw[he]at h1;refine u4 (g:=g) (K:=K) hF hg fc hd ha he ?_ k;cases hs:s.run P w with
 |ok v w'=>
  simp only[Sem.run_bind,hs,Result.andThen_ok,Sem.run_pure,oz]at h1;obtain⟨H',ho,hk⟩:=h1;exact⟨v,w',H',rfl,ho,hk⟩
 |halt x w'=>
  simp only[Sem.run_bind,hs,Result.andThen]at h1;cases x<;>simp only[oz]at h1;obtain⟨_,_,hk⟩:=h1;exact hk.elim
theorem Xb{s:Sem Unit}{K:zV->Hp->Prop}(hF:∀f,F.fn f)(hg:o.guard=none)(fc:∀c,o.op≠.defer c)(hd:eC n o.dst=true)(ha:xR ds n a fr)(hw:Own g H w)(he:execOp (ev fr) o=(do s;pure .skip))
 (h:M1 P g o (ev fr) H K (λ_ _=>False))
 (k:∀H' w' a',K undef H'->Own g H' w'->xR ds n a' (br fr o.dst undef)->wpListIn F 0 P ops Q rest a' w'):wpListIn F 0 P ops Q (o::rest) a w:=by
 have h1:=vI (o6 fr) h w hw;rw[he]at h1;refine wpListIn_plain hg λK hK=>⟨λf _=>hF f,?_⟩;rw[Oper.semAt_eq _ _ _ fc,ha.eval,he];cases hs:s.run P w with
 |ok v w'=>
  simp only[Sem.run_bind,hs,Result.andThen_ok,Sem.run_pure,oz]at h1⊢;obtain⟨H',ho,hk⟩:=h1;exact hK _ _ (k H' w' _ hk ho (ha.put hd _))
 |halt x w'=>
  simp only[Sem.run_bind,hs,Result.andThen]at h1;cases x<;>simp only[oz]at h1;obtain⟨_,_,hk⟩:=h1;exact hk.elim
theorem m9{m:Nat}{args:List zV}(hl:args.length<=m):xR [] m {tmps:=args.toArray++Array.replicate (m-args.toArray.size) undef,defers:=[]} (gO args 0):=by
 refine⟨rfl,by simp;omega,λs=>?_⟩;rw[mS,xas,xdU];simp only[xcY,xcS,xa2,xc5];by_cases hs:s<args.length
 ·simp[hs,List.getD]
 rw[xac hs,xc3];have:args.getD s undef=undef:=by simp[List.getD,xaC (xc6 hs)]
 rw[this];split<;>rfl
theorem Own.putObj{g:Gh}{H H':Hp}{w:World}{b:Nat}{o o':Obj}(h:Own g H w)(u:c6 b o o' H H'):Own g H' (w.putObj b o'):=by
 have hb:=h.lt u.mem;exact h.br u rfl rfl rfl (World.putObj_heap_same hb) λc hc=>World.putObj_heap_other hc
def tY{α:Type}(P:Program)(f:FuncId)(cap:Array zV)(B:Hp)(enc:α->zV)(N:Nat)(S:List α->Prop):Prop:=
 ∀(g:Gh) (l:Nat) (G:List α->Hp->Prop),
  (∀ss x A X W,G ss A->ss.length<N->Own g (A++X) W->YieldAt Fence.wide 0 P l #[enc x] W (λe W'=>e=.returned (.bool true)/\∃A',G (ss++[x]) A'/\Own g (A'++X) W'))->
  ∀A W,G [] A->Own g (A++B) W->CallsIn Fence.wide 0 P f (#[.func (.yield l) #[] #[]]++cap) W (λe W'=>(∃v,e=.returned v)/\∃ss A',S ss/\G ss A'/\Own g (A'++B) W')
open Classical in
noncomputable def ry(p:Nat->Prop):Nat:=if h:∃k,p k then Classical.choose (lH h)else 0
theorem FJ{p:Nat->Prop}{k:Nat}(h:p k):ry p<=k:=by
 unfold ry;rw[xea ⟨k,h⟩];exact(xcA (lH ⟨k,h⟩)).2 k h
theorem AV{p:Nat->Prop}(h:∃k,p k):p (ry p):=by
 unfold ry;rw[xea h];exact(xcA (lH h)).1
theorem uP{c:Code}(J:Nat->Act->World->Prop){k:Nat}(h0:J k a w)
 (round:∀k a w,J k a w->c.wpIn F 0 P (Exit.then (λa' w'=>∃k',k'<k/\J k' a' w') Q) a w):(Code.loop c).wpIn F 0 P Q a w:=by
 refine wpIn_loop (λa w=>∃k,J k a w) (λa w=>ry λk=>J k a w) ⟨k,h0⟩ λa w h=>?_;refine Code.wpIn_mono (λe a' w' hq=>?_) (round _ a w (AV h));cases e with
 |normal=>
  obtain⟨k',hlt,hj⟩:=hq;exact⟨⟨k',hj⟩,xaA (FJ hj) hlt⟩
 |_=>exact hq
end
end Go.Sx
set_option maxRecDepth 100000
namespace Go.Proofs
open Go Go.Sx Tryz
section
open aA
section
variable {es:Array MapEntry} {ck b:Nat} {m:List (Nd×Nat)}
theorem Mp(B:Hp):Fc zQ 392 #[.map (some b)] B
  (λv H=>∃bm,v=.func (.func 402) #[] #[ptr bm]/\H=(bm,.cells #[.map (some b)] 167 zZ)::B):=by
 refine aE λg=>GZ λb1 _=>?_;exact aM.here ⟨b1,rfl,rfl⟩
noncomputable abbrev VF:Func:=Tryz.f402
def VAt(g:Gh)(bi b:Nat)(l:Nat)(es:Array MapEntry)(ck:Nat)(m:List (Nd×Nat))(G:zL->Hp->Prop)(B:Hp)(k:Nat)(a:Act)(w:World):Prop:=
 ∃(fr:Fr) (ss:zL) (A:Hp) (seen:Array Nat),xR [] 15 a fr/\fr 0=.func (.yield l) #[] #[]/\fr 6=ptr bi/\G ss A/\Own g (A++((bi,.mapIter (some b) ck seen ck)::B)) w/\
  (ss++(bS es m seen).map Prod.snd).Perm (m.map Prod.snd)/\k=(bS es m seen).length
theorem EU{bm:Nat}{fz:Nat×Nat}(h:aD nK Pb es ck m):tY zQ 402 #[ptr bm] [(bm,.cells #[.map (some b)] 167 fz),(b,.map es ck)] u32 m.length
  (λss=>ss.Perm (m.map Prod.snd)):=by
 intro g l G hY A W h0 hW;have hF:∀f,Fence.wide.fn f:=λ_=>trivial;refine callsIn_of_wp func402 rfl trivial ?_;have ha:=m9 (m:=15) (args:=[.func (.yield l) #[] #[],ptr bm]) zI;refine wpIn_seq ?_;refine wpIn_region_lit ?_;obtain⟨B,hB⟩:∃B,B=[(bm,Obj.cells #[.map (some b)] 167 fz),(b,.map es ck)]:=⟨_,rfl⟩;rw[<-hB]at hW;have uj:(bm,Obj.cells #[.map (some b)] 167 fz)∈A++B:=by rw[hB];exact xab _ (.head _)
 have lZ:(b,Obj.map es ck)∈A++B:=by rw[hB];exact xab _ (.tail _ (.head _))
 have hmB:∀{X:Hp},(b,Obj.map es ck)∈X++B:=by intro X;rw[hB];exact xab _ (.tail _ (.head _))
 rw[<-hB];have e0:AO zQ g (fh VF 0 0) (ev (gO [.func (.yield l) #[] #[],ptr bm] 0)) (A++B) (λx=>x=.map (some b))=Ld (A++B) (ptr bm) (λx=>x=.map (some b)):=by kernel_rfl
 refine dA (g:=g) (n:=15) (v0:=.map (some b)) hF rfl zC rfl ha hW (e0.mpr (Ld.mk uj rfl rfl)) λa1 ur=>?_;refine u4 (g:=g) (n:=15) (s:=Instr.range 167 (.map (some b))) (K:=λv H=>∃bi,v=ptr bi/\H=(bi,.mapIter (some b) ck #[] ck)::(A++B)) hF rfl zC rfl ur rfl
  (ZY.run (.inr ⟨b,es,ck,rfl,lZ,λbi _=>⟨bi,rfl,rfl⟩⟩) hW (t:=167) (kt:=226) (e:=110) zK) λv H' w1 a2 hv jy qu=>?_
 obtain⟨bi,rfl,rfl⟩:=hv;refine wpListIn_nil ?_;have pJ:Own g (A++((bi,.mapIter (some b) ck #[] ck)::B)) w1:=jy.perm (xaT).symm;clear jy ur ha hW uj lZ;refine wpIn_block ?_;refine uP (VAt g bi b l es ck m G B) (k:=(bS es m #[]).length) ⟨_,[],A,#[],qu,rfl,rfl,h0,pJ,by rw[mz h];exact .refl _,rfl⟩ ?_;clear qu pJ h0 e0 A;rintro k a w ⟨fr,ss,A,seen,ha,f0,f6,hG,hw,c8,hk⟩;refine wpIn_seq ?_;refine wpIn_region_lit ?_;have e6:ev fr (.tmp 6)=ptr bi:=f6;refine u4 (g:=g) (n:=15) (s:=Instr.next (ptr bi) false 0)
  (K:=λv H=>(bS es m seen=[]/\v=.tuple #[.bool false]/\H=A++((bi,.mapIter (some b) ck seen ck)::B))\/
   ∃(e:MapEntry) (x:Nd×Nat) (seen':Array Nat),v=.tuple #[.bool true,e.key,e.val]/\e.val=u32 x.2/\(bS es m seen).Perm (x::bS es m seen')/\seen'.back?=some e.born/\es.find? (·.born==e.born)=some e/\
    H=A++((bi,.mapIter (some b) ck seen' ck)::B)) hF rfl zC rfl ha ?_
  (XV.run (h.next (bi:=bi) (bm:=b) (seen:=seen) (H:=A++((bi,.mapIter (some b) ck seen ck)::B)) (xab _ (.tail _ (by rw[hB];exact .tail _ (.head _)))) (xab _ (.head _))
   (λe x seen' he hk hv hp hb hf=>⟨_,(c6.head _).ca A,.inr ⟨e,x,seen',rfl,hv,hp,hb,hf,rfl⟩⟩) (λhu=>.inl ⟨hu,rfl,rfl⟩)) hw) λv H' w1 a1 hv jy ur=>?_
 ·rw[e6.symm];rfl
 rcases hv with⟨hu,rfl,rfl⟩|⟨e,x,seen',rfl,Ga,hp,hbk,hfi,rfl⟩
 ·refine dA (g:=g) (n:=15) (v0:=.bool false) hF rfl zC rfl ur jy ⟨_,_,rfl,rfl,rfl⟩ λa2 qu=>?_;refine wpListIn_nil ?_;refine wpIn_seq ?_;refine wpIn_cond_false (by rw[qu.eval];rfl) ?_;refine wpIn_exit ?_;simp only[Exit.then,Exit.inBlock,xa6,bodyPost];refine⟨qu.defers,_,results_none rfl _ _ _,⟨_,rfl⟩,ss,A,?_,hG,(jy.perm xaT).tail⟩;rw[hu,xb6,xaL]at c8;exact c8
 refine dA (g:=g) (n:=15) (v0:=.bool true) hF rfl zC rfl ur jy ⟨_,_,rfl,rfl,rfl⟩ λa2 qu=>?_;refine wpListIn_nil ?_;refine wpIn_seq ?_;refine wpIn_cond_true (by rw[qu.eval];rfl) ?_;refine wpIn_skip ?_;refine wpIn_block ?_;refine wpIn_seq ?_;refine wpIn_region_lit ?_;refine u4 (g:=g) (n:=15) (s:=Instr.entry (ptr bi)) (K:=λv H=>v=.tuple #[e.key,e.val]/\H=A++((bi,.mapIter (some b) ck seen' ck)::B)) hF rfl zC rfl qu ?_ ?_ λv H' w2 a3 hv pJ uH=>?_
 ·rw[e6.symm];rfl
 ·obtain⟨v,hr,hv⟩:=Kr.run (P:=zQ) (k:=λv=>v=.tuple #[e.key,e.val]) ⟨bi,b,ck,seen',e.born,ck,es,e,rfl,xab _ (.head _),hbk,xab _ (.tail _ (by rw[hB];exact .tail _ (.head _))),hfi,rfl⟩ jy;exact⟨v,w1,_,hr,jy,hv,rfl⟩
 obtain⟨rfl,rfl⟩:=hv;refine dA (g:=g) (n:=15) (v0:=u32 x.2) hF rfl zC rfl uH pJ ⟨_,_,rfl,rfl,Ga⟩ λa4 Gi=>?_;refine dA (g:=g) (n:=15) (v0:=u32 x.2) hF rfl zC rfl Gi pJ (show u32 x.2=u32 x.2 from rfl) λa5 Gg=>?_;refine wpListIn_nil ?_;refine wpIn_seq ?_;refine wpIn_region_lit ?_;refine dA (g:=g) (n:=15) (v0:=.func (.yield l) #[] #[]) hF rfl zC rfl Gg pJ f0 λa6 Gf=>?_;refine dA (g:=g) (n:=15) (v0:=u32 x.2) hF rfl zC rfl Gf pJ (show u32 x.2=u32 x.2 from rfl) λa7 V6=>?_;have hlen:(bS es m seen).length=(bS es m seen').length+1:=by rw[hp.length_eq];rfl
 have hlt:ss.length<m.length:=by
  have:=c8.length_eq;simp only[xaf,xav]at this⊢;omega
 obtain⟨fn,tmps,assign,body,hy,hR⟩:=hY _ x.2 A _ w2 hG hlt pJ;refine wpListIn_plain rfl λK hK=>⟨λ_ _=>trivial,?_⟩;rw[Oper.semAt_eq _ _ _ zC,V6.eval];have hex:∀F7:Fr,F7=br (br (br (br (br (br (br fr (some 7) (.tuple #[.bool true,e.key,e.val])) (some 8) (.bool true)) (some 9) (.tuple #[e.key,e.val])) (some 10) (u32 x.2)) (some 4) (u32 x.2)) (some 11) (.func (.yield l) #[] #[])) (some 12) (u32 x.2)->(execOp (ev F7) (fh VF 3 2)).run zQ w2=.ok (.round l fn tmps assign body) w2:=λF7 hF7=>by
  have v11:ev F7 (.tmp 11)=.func (.yield l) #[] #[]:=by rw[hF7];rfl
  have v12:ev F7 (.tmp 12)=u32 x.2:=by rw[hF7];rfl
  have ZH:execOp (ev F7) (fh VF 3 2)=(do let d <-resolve (ev F7) {callee:=.value (.tmp 11),args:=#[.tmp 12],argTypes:=#[110]} 4;invoke d.target d.args):=rfl;rw[ZH];simp[resolve,Deferred.ofValue,v11,v12,invoke,go_sem,hy]
 refine(xcb (Oper.uponIn Fence.wide 0 zQ (fh VF 3 2) a7 K _) (hex _ rfl)).mpr ⟨λh=>(by cases h),hR.mono ?_⟩;rintro e' w3 ⟨rfl,A',hG',Vz⟩;refine hK _ _ ?_;have ha8:=V6.put (d:=some 13) rfl (.bool true);refine dA (g:=g) (n:=15) (v0:=.bool false) hF rfl zC rfl ha8 Vz ⟨_,rfl,rfl⟩ λa9 ha9=>?_;refine wpListIn_nil ?_;refine wpIn_cond_false (by rw[ha9.eval];rfl) ?_;refine wpIn_skip ?_;refine⟨(bS es m seen').length,by omega,_,ss++[x.2],A',seen',ha9,f0,f6,hG',Vz,?_,rfl⟩;rw[xai];exact((hp.map Prod.snd).append_left ss).symm.trans c8
end
end
section
open aA
section
noncomputable abbrev AF:Func:=Tryz.f405
variable {f:FuncId} {cap:Array zV} {B:Hp} {N:Nat} {S:zL->Prop}
noncomputable def dy:Code:=match AF.body with|some (.seq _ (.seq (.seq _ (.block _ (.rangeFunc _ _ c _))) _))=>c|_=>.skip
noncomputable def fP:Code:=match AF.body with|some (.seq _ (.seq (.seq _ (.block _ (.rangeFunc _ _ _ c))) _))=>c|_=>.skip
noncomputable def WK(i:Nat):Oper:=match fP with| .block _ (.region _ ops _)=>(match ops[i]? with|some o=>o|none=>default)|_=>default
def mg(fn:FuncId)(tmps:Array zV)(assign body:Code)(D:Nat):Loop:={state:=.ready,pending:=none,fn,tmps,params:=#[7],assign,body,defers:=D}
def APG(l D bs:Nat)(fn:FuncId)(tmps:Array zV)(assign body:Code)(ss:zL)(A:Hp):Prop:=
 ∃v C',A=(l,.loop (mg fn tmps assign body D))::(D,.deferred (some []))::(bs,.cells #[v] 194 zZ)::C'/\aO 110 .u32 v (iw ss) C'
theorem To{g:Gh}{l D bs:Nat}{fn:FuncId}{tmps:Array zV}{fr:Fr}(hsz:tmps.size=13)(gP:∀s,tmps.getD s undef=fr s)(f2:fr 2=ptr bs){ss:zL}{x:Nat}{A X:Hp}{W:World}
 (hG:APG l D bs fn tmps dy fP ss A)(hl:ss.length<1099511627776)(hW:Own g (A++X) W):
  YieldAt Fence.wide 0 zQ l #[u32 x] W (λe W'=>e=.returned (.bool true)/\∃A',APG l D bs fn tmps dy fP (ss++[x]) A'/\Own g (A'++X) W'):=by
 obtain⟨v,C',rfl,ho⟩:=hG;have hF:∀f,(Fence.wide.inRound l).fn f:=λ_=>trivial;have hL:W.heap[l]? =some (.loop (mg fn tmps dy fP D)):=hW.has _ (.head _);refine⟨fn,_,dy,fP,run_yield hL rfl,roundIn_of_wpIn trivial ?_⟩;have ha:xR [] 13 {tmps:=tmps.setIfInBounds 7 (u32 x),defers:=[]} (br fr (some 7) (u32 x)):=(xR.put (a:={tmps:=tmps,defers:=[]}) (d:=some 7) ⟨rfl,hsz,gP⟩ rfl (u32 x));have ha:xR [] 13 {tmps:=(#[7].zip #[u32 x]).foldl (λtmps (t,a)=>tmps.setIfInBounds t a) tmps,defers:=[]} (br fr (some 7) (u32 x)):=by simpa using ha
 change Code.wpIn _ 0 zQ (.region _ #[_] false) _ _ _;refine wpIn_region_lit ?_;refine dA (g:=g) (n:=13) (v0:=u32 x) hF rfl zC rfl ha hW rfl λa1 ur=>?_;refine wpListIn_nil ?_;have hbr:=run_beginRound (P:=zQ) hL rfl;refine⟨_,hbr,?_⟩;have DD:=hW.putObj (o':=.loop {mg fn tmps dy fP D with state:=.busy}) (.head _);change Code.wpIn _ 0 zQ (.block _ (.region _ #[_,_,_,_,_] false)) _ _ _;refine wpIn_block ?_;refine wpIn_region_lit ?_;obtain⟨H1,ZC⟩:∃H1,H1=(l,Obj.loop {mg fn tmps dy fP D with state:=.busy})::(((D,.deferred (some []))::(bs,.cells #[v] 194 zZ)::C')++X):=⟨_,rfl⟩
 replace DD:Own g H1 (W.putObj l (.loop {mg fn tmps dy fP D with state:=.busy})):=by rw[ZC];exact DD
 have e0:AO zQ g (WK 0) (ev (br (br fr (some 7) (u32 x)) (some 5) (u32 x))) H1 (λz=>z=v)=Ld H1 (fr 2) (λz=>z=v):=by kernel_rfl
 refine dA (g:=g) (n:=13) (v0:=v) hF rfl zC rfl ur DD (e0.mpr (by rw[f2];exact Ld.mk (by rw[ZC];exact .tail _ (.tail _ (.head _))) rfl rfl)) λa2 qu=>?_;refine dA (g:=g) (n:=13) (v0:=u32 x) hF rfl zC rfl qu DD rfl λa3 uH=>?_;have eb:∀K:zV->Hp->Prop,au zQ 194 1 [(0,.int .u32 (x:Int))] H1 K=M1 zQ g (WK 2) (ev (br (br (br (br fr (some 7) (u32 x)) (some 5) (u32 x)) (some 8) v) (some 9) (u32 x))) H1 K (λ_ _=>False):=λK=>by kernel_rfl
 refine yE (g:=g) (n:=13) (s:=_) (K:=λv H=>∃b,v=.slice (some ⟨b,0,none⟩) 1 1/\H=(b,.cells (ax .u32 [(x:Int)]) 110 zZ)::H1) hF rfl zC rfl uH DD rfl
  ((eb _).mp (au.int zK zK zK λb=>⟨b,rfl,rfl⟩)) λv1 H2 w2 a4 hv Sg Gi=>?_
 obtain⟨b,rfl,rfl⟩:=hv;have hn:(iw ss).length=ss.length:=aq ss;obtain⟨H2,hH2⟩:∃H2,H2=(b,Obj.cells (ax .u32 [(x:Int)]) 110 zZ)::H1:=⟨_,rfl⟩;rw[<-hH2]at Sg;refine yE (g:=g) (n:=13) (s:=_) (K:=λv' H=>∃C2,aO 110 .u32 v' (iw (ss++[x])) C2/\H=(b,Obj.cells (ax .u32 [(x:Int)]) 110 zZ)::(l,Obj.loop {mg fn tmps dy fP D with state:=.busy})::(D,.deferred (some []))::(bs,.cells #[v] 194 zZ)::(C2++X))
  hF rfl zC rfl Gi Sg (by simp only[execOp,resolve,invoke,builtin];simp[bind,Sem.bind];rfl) ?_ λv2 H3 w3 a5 hv Ba Gg=>?_
 ·have e1:∀K:zV->Hp->Prop,App zQ 110 1 4 (.int .u32 0) H2 v (.slice (some ⟨b,0,none⟩) 1 1) K=
   M1 zQ g (WK 3) (ev (br (br (br (br (br fr (some 7) (u32 x)) (some 5) (u32 x)) (some 8) v) (some 9) (u32 x)) (some 10) (.slice (some ⟨b,0,none⟩) 1 1))) H2 K (λ_ _=>False):=λK=>by kernel_rfl
  refine(e1 _).mp ?_;rw[hH2,ZC];refine ho.pC (.cons (.cons (.cons (.cons .left)))) (by exact .head _) zO zO λv' C2 tD=>⟨C2,?_,rfl⟩;rw[cg];exact tD
 obtain⟨C2,tD,rfl⟩:=hv;have es:∀(H:Hp) (K:zV->Hp->Prop),St 1 H (fr 2) v2 (λH'=>K undef H')=M1 zQ g (WK 4) (ev (br (br (br (br (br (br fr (some 7) (u32 x)) (some 5) (u32 x)) (some 8) v) (some 9) (u32 x)) (some 10) (.slice (some ⟨b,0,none⟩) 1 1)) (some 11) v2)) H K (λ_ _=>False):=λH K=>by kernel_rfl
 refine Xb (g:=g) (n:=13) (s:=_) (K:=λ_ H=>H=(b,Obj.cells (ax .u32 [(x:Int)]) 110 zZ)::(l,Obj.loop {mg fn tmps dy fP D with state:=.busy})::(D,.deferred (some []))::(bs,.cells #[v2] 194 zZ)::(C2++X))
  hF rfl zC rfl Gg Ba rfl ((es _ _).mp ?_) λH4 w4 a6 hv V7 Gf=>?_
 ·rw[f2];exact St.one (.tail (.tail (.tail (.head _)))) tD.one zI rfl rfl
 subst hv;refine wpListIn_nil ?_;simp only[Exit.inBlock,roundPost];refine⟨_,_,run_endRound none (V7.has _ (.tail _ (.head _))),rfl,_,⟨v2,C2,rfl,tD⟩,?_⟩;exact(V7.putObj (.tail (.head _))).tail
theorem Oj(hg:tY zQ f cap B u32 N S)(hc:aT zQ f=true)(hN:N<=1099511627776):
  Fc zQ 405 #[.slice none 0 0,.func (.func f) #[] cap] B (λv H=>∃ss C',S ss/\H=C'++B/\aO 110 .u32 v (iw ss) C'):=by
 intro g w hw;rw[<-callsIn_wide (n:=0)];have hF:∀f,Fence.wide.fn f:=λ_=>trivial;refine callsIn_of_wp_marks func405 rfl trivial ?_;have ha:=m9 (m:=13) (args:=[.slice none 0 0,.func (.func f) #[] cap]) zI;refine wpIn_seq ?_;refine wpIn_region_lit ?_;refine yE (g:=g) (n:=13) (s:=_) (K:=λv H=>∃bs,v=ptr bs/\H=(bs,.cells #[.slice none 0 0] 194 zZ)::B) hF rfl zC rfl ha hw rfl (λbs _=>⟨bs,rfl,rfl⟩) λv H1 w1 a1 hv jy ur=>?_;obtain⟨bs,rfl,rfl⟩:=hv;refine dA (g:=g) (n:=13) (v0:=.slice none 0 0) hF rfl zC rfl ur jy rfl λa2 qu=>?_;refine wpListIn_nil ?_;refine wpIn_seq ?_;refine wpIn_seq ?_;refine wpIn_region_lit ?_;refine dA (g:=g) (n:=13) (v0:=.func (.func f) #[] cap) hF rfl zC rfl qu jy rfl λa3 uH=>?_;refine wpListIn_nil ?_;refine wpIn_block ?_;refine wpIn_rangeFunc λfn hfn=>?_;have x6:=(jy.alloc (.deferred (some []))).alloc (.loop (mg fn a3.tmps dy fP w1.heap.size));have f6:a3.tmps[6]?.getD undef=.func (.func f) #[] cap:=by have:=uH.get 6;rw[xas]at this;exact this
 obtain⟨W1,DD⟩:∃W1,W1=(w1.alloc (.deferred (some []))).alloc (.loop (mg fn a3.tmps dy fP w1.heap.size)):=⟨_,rfl⟩;rw[<-DD]at x6;refine⟨w1.heap.size+1,[{target:=.collected w1.heap.size,args:=#[]}],W1,{target:=.fn (.func f) cap,args:=#[.func (.yield (w1.heap.size+1)) #[] #[]]},W1,f,#[.func (.yield (w1.heap.size+1)) #[] #[]]++cap,W1,?_,?_,λ_ _=>trivial,?_,λh=>(by cases h),?_⟩
 ·rw[DD];exact run_enterLoop_outer fn a3.tmps #[7] _ _
 ·simp[resolve,Deferred.ofValue,f6,go_sem]
 ·simp[invoke,go_sem];exact ew hc _ _
 have hsz:(w1.alloc (.deferred (some []))).heap.size=w1.heap.size+1:=by simp
 rw[hsz]at x6;refine CallsIn.mono (hg g (w1.heap.size+1) (APG (w1.heap.size+1) w1.heap.size bs fn a3.tmps dy fP) (λss x A X W hG hl hW=>To uH.size uH.get rfl hG zO hW) [_,_,_] W1 ⟨_,[],rfl,aO.nil⟩ x6) ?_;rintro e W2 ⟨⟨v0,rfl⟩,ss,A',hS,⟨v,C',rfl,ho⟩,Sg⟩;refine⟨none,_,run_endLoop (Sg.has _ (.head _)) (by simp[mg]),?_⟩;have Ba:=Sg.putObj (o':=.loop {mg fn a3.tmps dy fP w1.heap.size with state:=.exhausted}) (.head _);simp only[Exit.then,Exit.inBlock];have Gi:xR [{target:=.collected w1.heap.size,args:=#[]}] 13 {a3 with defers:=[{target:=.collected w1.heap.size,args:=#[]}]++a3.defers} (br (br (br (gO [.slice none 0 0,.func (.func f) #[] cap] 0) (some 2) (ptr bs)) (some 4) (.slice none 0 0)) (some 6) (.func (.func f) #[] cap)):=
  ⟨by rw[uH.defers];rfl,uH.size,uH.get⟩
 refine wpIn_seq ?_;refine wpIn_region_lit ?_;obtain⟨H3,ZB⟩:∃H3,H3=(w1.heap.size+1,Obj.loop {mg fn a3.tmps dy fP w1.heap.size with state:=.exhausted})::(((w1.heap.size,.deferred (some []))::(bs,.cells #[v] 194 zZ)::C')++B):=⟨_,rfl⟩
 replace Ba:Own g H3 (W2.putObj (w1.heap.size+1) (.loop {mg fn a3.tmps dy fP w1.heap.size with state:=.exhausted})):=by rw[ZB];exact Ba
 have e0:AO zQ g (fh AF 4 0) (ev (br (br (br (gO [.slice none 0 0,.func (.func f) #[] cap] 0) (some 2) (ptr bs)) (some 4) (.slice none 0 0)) (some 6) (.func (.func f) #[] cap))) H3 (λz=>z=v)=Ld H3 (ptr bs) (λz=>z=v):=by kernel_rfl
 refine dA (g:=g) (n:=13) (v0:=v) hF rfl zC rfl Gi Ba (e0.mpr (Ld.mk (by rw[ZB];exact .tail _ (.tail _ (.head _))) rfl rfl)) λa5 Gg=>?_;refine dA (g:=g) (n:=13) (v0:=v) hF rfl zC rfl Gg Ba rfl λa6 Gf=>?_;refine wpListIn_nil ?_;refine wpIn_ret ?_;simp only[Exit.then,bodyPostM];rw[Gf.defers];rw[ZB]at Ba;refine⟨by simp,.inl ⟨w1.heap.size,_,rfl,run_takeDeferred (Ba.has _ (.tail _ (.head _))),?_⟩⟩;have V7:=Ba.putObj (o':=.deferred none) (.tail (.head _));refine⟨_,results_tmp rfl _ _ _,C'++B,V7.tail.tail.tail,v,C'++B,?_,.refl _,ss,C',hS,rfl,ho⟩;have:=Gf.get 4;rw[this];rfl
end
section
variable {f:FuncId} {cap:Array zV} {B:Hp} {N:Nat} {S:zL->Prop}
theorem Gv(hg:tY zQ f cap B u32 N S)(hc:aT zQ f=true)(hN:N<=1099511627776):
  Fc zQ 400 #[.func (.func f) #[] cap] B (λv H=>∃ss C',S ss/\H=C'++B/\aO 110 .u32 v (iw ss) C'):=by
 refine aE λg=>GU (aa.fq (Oj hg hc hN) ?_);rintro v H h;exact aM.here h
theorem UZ{l':List Int}{ss:zL}(h:l'.Perm (iw ss)):∃l:zL,l.Perm ss/\l'=iw l:=by
 refine⟨l'.map Int.toNat,?_,?_⟩
 ·have:=h.map Int.toNat;rw[iw,xbM]at this;have e:(Int.toNat∘(Nat.cast:Nat->Int))=id:=by funext x;simp
  rw[e,xed]at this;exact this
 unfold iw;rw[xbM];have:∀x∈l',((Nat.cast:Nat->Int)∘Int.toNat) x=x:=λx hx=>by
  obtain⟨n,_,rfl⟩:=xam.1 (h.mem_iff.1 hx);simp
 rw[xbg this,List.map_id']
theorem MA(hg:tY zQ f cap B u32 N S)(hS:∀ss,S ss->ss.length<=N)(hc:aT zQ f=true)(hN:N<=1099511627776):
  Fc zQ 391 #[.func (.func f) #[] cap] B (λv H=>∃ss l C',S ss/\l.Perm ss/\H=C'++B/\aO 110 .u32 v (iw l) C'):=by
 refine aE λg=>G0 (aa.fq (Gv hg hc hN) ?_);rintro v H ⟨ss,C',hs,rfl,ho⟩;have hlen:=hS ss hs;refine aa.fn (.left (A:=B)) (Uz ho (by rw[aq];omega)) ?_;rintro w C2 ⟨rfl,cv⟩;rw[KH]at cv;exact aM.here ⟨ss,_,C2,hs,ir ss,rfl,cv⟩
end
theorem UN{pt n v:Nat}{T:Nd->Option Nat}{C:Hp}(h:oo pt n T C)(hv:v<n)(hinj:∀d d' r,T d=some r->T d'=some r->d=d')(hb:∀d r,T d=some r->r<1048576):
  Fc zQ 366 #[ptr pt,iv (v:Int)] C (λr H=>∃w l N,r=.tuple #[w,iv 0]/\H=N++C/\aO 110 .u32 w (iw l) N/\l.Nodup/\∀r,r∈l↔∃d,T d=some r/\d.v=v):=by
 have h0:=h;obtain⟨vs,Cs,ms,rfl,hs,ho⟩:=h;obtain⟨m,hm⟩:∃m,ms[v]? =some m:=⟨_,xaa (by rw[ho.len];exact hv)⟩;have he:=ho.dD v m hm;have hT:∀d:Nd,d.v=v->T d=aJ m.l d:=λd hd=>by rw[ho.T,hd,hm];rfl
 have hmem:∀d r,(d,r)∈m.l↔T d=some r/\d.v=v:=λd r=>by
  constructor
  ·intro hx;have hd:=ho.var v m hm _ hx;exact⟨by rw[hT d hd];exact(dS he.nd).2 hx,hd⟩
  rintro⟨h1,h2⟩;rw[hT d h2]at h1;exact(dS he.nd).1 h1
 have fc:(m.l.map Prod.snd).Nodup:=by
  refine xb9.2 ((xb9.1 he.nd).imp_of_mem λ{a b} ha hb' hne e=>hne ?_);have h1:=((hmem a.1 a.2).1 ha).1;have h2:=((hmem b.1 b.2).1 hb').1;rw[<-e]at h2;exact hinj _ _ _ h1 h2
 have hlen:m.l.length<=1048576:=by
  have:=cu (l':=List.range 1048576) fc λx hx=>by
   obtain⟨y,hy,rfl⟩:=xam.1 hx;exact xaN.2 (hb _ _ ((hmem y.1 y.2).1 hy).1)
  simpa using this
 refine aE λg=>Hr (aa.eq (k8 h0 hv) (ae.cL (Br.F (Nil.ptr ?_))));refine ai.mk (Ld.mk zM rfl ?_);refine hs.Xh (x:=.map (some m.b)) (by rw[xat,hm];rfl) (λ_ h=>by exact .tail _ (xad _ h)) ?_;refine aa.fq (Mp (b:=m.b) _) ?_;rintro w H ⟨bm,rfl,rfl⟩;obtain⟨X,Y,hXY⟩:=xde (rh hm);have c8:((bm,Obj.cells #[.map (some m.b)] 167 zZ)::(pt,.cells #[vs] 166 zZ)::(Cs++M8 ms)).Perm
   ([(bm,.cells #[.map (some m.b)] 167 zZ),(m.b,.map m.es m.ck)]++((pt,.cells #[vs] 166 zZ)::(Cs++(X++Y)))):=by
  rw[hXY];refine .cons _ ?_;show((pt,_)::(Cs++(X++(m.b,_)::Y))).Perm ((m.b,_)::(pt,_)::(Cs++(X++Y)));refine .trans (.cons _ ?_) (.swap _ _ _);rw[<-xai,<-xai];exact xaT
 refine aa.pre (.perm c8) ?_;refine aa.fq (MA (EU he) (λss YM=>by rw[YM.length_eq,xav];exact xaj _) zK zO) ?_;rintro w H ⟨ss,l,C',YM,hl,rfl,hown⟩;have qK:l.Perm (m.l.map Prod.snd):=hl.trans YM;refine aM.mk (nD:=C'++((pt,.cells #[vs] 166 zZ)::(Cs++M8 ms))) ?_ ⟨w,l,C',rfl,rfl,hown,qK.nodup_iff.2 fc,λr=>?_⟩
 ·rw[xai];refine aN.cU ?_ C';exact(aN.perm c8.symm).trans .tail
 rw[qK.mem_iff,xam];constructor
 ·rintro⟨y,hy,rfl⟩;exact⟨y.1,(hmem y.1 y.2).1 hy⟩
 rintro⟨d,hd⟩;exact⟨(d,r),(hmem d r).2 hd,rfl⟩
end
end Go.Proofs
namespace Go.Sx
open Go
section
variable {P:Program} {g:Gh} {H:Hp} {κ β:Type} [DecidableEq κ] {ke:κ->zV} {vr:zV->β->Prop} {es:Array MapEntry} {ck b:Nat} {m:List (κ×β)} {K:zV->Hp->Prop} {KP:List PanicEntry->Hp->Prop}
omit [DecidableEq κ] in
theorem aD.sameKey(h:aD ke vr es ck m){i:Nat}{k:κ}{x:β}(hi:m[i]? =some (k,x)):es.modify i (λe=>{e with key:=ke k})=es:=by
 apply Array.ext_getElem?;intro j;rw[xbX];split
 ·rename_i e;subst e;cases he:es[i]? with
  |none=>rfl
  |some e0=>rw[xch,<-(h.key i e0 _ he hi).1]
 ·rfl
theorem aD.Wx{o:Oper}{ρ:Operand->zV}{t kt e:TypeId}{kd:TypeDesc}{mo ko:Operand}{z:zV}{k:κ}{y0:β}(hk:∀a b,Bz P kt (ke a) (ke b) (decide (a=b)))(hc:∀a,mr P kt (ke a))(hb:∀a,Instr.sameBits 10000 (ke a) (ke a)=true)
 (ho:o.op=.mapEntry t mo ko)(hm':ρ mo=.map (some b))(hk':ρ ko=ke k)(ht:P.underlying t=some (.map kt e))(DA:P.underlying kt=some kd)(acv:cQ kd=true)(hzd:fK P e=some z)(hvz:vr z y0)
 (h:aD ke vr es ck m){c:Obj->Hp}(R3:∀o o',c6 b o o' (c o) (c o'))
 (h1:∀es' bB v st,aD ke vr es' bB (if k∈m.map Prod.fst then m else m++[(k,y0)])->(∃e∈es'.toList,e.born=st)->K (.tuple #[v,.int .i64 (st:Int)]) (c (.map es' bB))):ov P g o ρ (c (.map es ck)) K KP:=by
 have x7:(b,Obj.map es ck)∈c (.map es ck):=(R3 _ (.map es ck)).mem;obtain⟨i,hi,x8⟩:=cG hzd;refine ov.ofValue (s:=Instr.mapEntry t (.map (some b)) (ke k)) (by simp only[execOp,ho,hm',hk']) λw hw=>?_;have fE:=λb=>hc k b w;rcases h.DS hk k with⟨j,x,e0,g1,g2,g3,g4⟩|⟨g1,g2⟩
 ·have pw:=gJ (P:=P) DA acv g4 w;have hj:=(xaU.1 g1).1;have hkey:es[j].key=ke k:=(h.key j _ _ (xbA hj) g2).1;have hmem:k∈m.map Prod.fst:=xam.2 ⟨_,xax g2,rfl⟩;obtain⟨w',hs,hown⟩:=bT (P:=P) hw (es.modify j λe=>{e with key:=ke k}) ck (by rw[h.sameKey g2];exact R3 _ (.map es ck));refine⟨.tuple #[e0.val,.int .i64 (es[j].born:Int)],w',_,?_,hown,h1 es ck e0.val es[j].born (by rw[xae hmem];exact h) ⟨es[j],by simp,rfl⟩⟩;simp[Instr.mapEntry,run_underlying ht,aY hw x7,fE,pw,hj,Instr.keyThatStays,hkey,hb k,hs,goInt]
 have pw:=gJ (P:=P) DA acv g2 w;obtain⟨w',hs,hown⟩:=bT (P:=P) hw (es.push {key:=ke k,val:=z,born:=ck}) (ck+1) (R3 _ _);have lZ:=h.more (k:=k) g1 hvz;have e2:dX m k y0=m++[(k,y0)]:=by unfold dX;rw[xac g1]
 rw[e2]at lZ;refine⟨.tuple #[z,.int .i64 (ck:Int)],w',_,?_,hown,h1 _ _ z ck (by rw[xac g1];exact lZ) ⟨_,by rw[xei];exact xab _ (.head _),rfl⟩⟩;simp[Instr.mapEntry,run_underlying ht,aY hw x7,fE,pw,dQ hi x8,hs,goInt]
omit [DecidableEq κ] in
theorem aD.Uv{o:Oper}{ρ:Operand->zV}{t:TypeId}{mo so xo:Operand}{st:Nat}(ho:o.op=.entryStore t mo so xo)(hm':ρ mo=.map (some b))(hs':ρ so=.int .i64 (st:Int))
 (h:aD ke vr es ck m)(hst:∃e∈es.toList,e.born=st)(hv:∀x,vr (ρ xo) x){c:Obj->Hp}(R3:∀o o',c6 b o o' (c o) (c o'))
 (h1:∀es',aD ke vr es' ck m->K undef (c (.map es' ck))):ov P g o ρ (c (.map es ck)) K KP:=by
 have x7:(b,Obj.map es ck)∈c (.map es ck):=(R3 _ (.map es ck)).mem;refine ov.sC (s:=Instr.entryStore t (.map (some b)) (.int .i64 (st:Int)) (ρ xo)) (by simp only[execOp,ho,hm',hs']) λw hw=>?_;obtain⟨i,hi⟩:∃i,es.findIdx? (λe=>(e.born:Int)==(st:Int))=some i:=by
  obtain⟨e,he,rfl⟩:=hst;rw[<-xdG,Array.findIdx?_isSome];rw[Array.any_eq_true'];exact⟨e,by simpa using he,by simp⟩
 obtain⟨w',hs,hown⟩:=bT (P:=P) hw (es.modify i λe=>{e with val:=ρ xo}) ck (R3 _ _);have hbn:((es.modify i λe=>{e with val:=ρ xo}).toList.map MapEntry.born)=es.toList.map MapEntry.born:=by
  apply xbd;intro j;simp only[xat,xbc,xbX];split
  ·cases es[j]? <;>rfl
  rfl
 refine⟨w',_,?_,hown,h1 _ ⟨by simp[h.len],λj e x he hx=>?_,h.nd,by rw[hbn];exact h.born,λe he=>?_⟩⟩
 ·simp only[Instr.entryStore,Sem.run_bind,aY hw x7,Result.andThen_ok,asInt,asIntOf,Sem.run_pure];simp only[hi,hs]
 ·rw[xbX]at he;split at he
  ·cases h0:es[j]? with
   |none=>rw[h0]at he;simp at he
   |some e0=>
    rw[h0]at he;simp only[xch,xaq]at he;subst he;exact⟨(h.key j _ _ h0 hx).1,hv _⟩
  exact h.key j _ _ he hx
 have:e.born∈(es.modify i λe=>{e with val:=ρ xo}).toList.map MapEntry.born:=xaR he;rw[hbn]at this;obtain⟨e0,h1,h2⟩:=xam.1 this;rw[<-h2];exact h.lt e0 h1
end
theorem bG.out{C H:Hp}{c:Hp->Hp}(h:bG C H c)(N:Hp):aN (c (N++C)) (N++H):=by
 obtain⟨e,F,hp⟩:=h.spec;refine .perm ((hp (N++C)).trans ?_);rw[xai];refine xbY N ?_;have:=hp C;rw[<-e]at this;exact this.symm
end Go.Sx
set_option maxRecDepth 100000
namespace Go.Proofs
open Go Go.Sx Tryz
section
open aA
section
variable {kp:Nat} {K:Kd} {ord ah tr:zL} {C:Hp} {S:Nat->aA.Fn}
def BC(N:eA)(r:Nat):Int:=match N r with|some d=>(d.v:Int)|none=> -1
theorem DH{N:eA}{r:Nat}(hl:live N r)(h2:∀d,N r=some d->2<=r):∃lo hi,got N r=[iv (BC N r),u32 lo,u32 hi]/\∀e,N r=some e->lo=e.lo/\hi=e.hi:=by
 cases h:N r with
 |some d=>
  refine⟨d.lo,d.hi,?_,λe he=>by cases he;exact⟨rfl,rfl⟩⟩;rw[dV h (h2 d h)];simp[bu,BC,h]
 |none=>
  have hr:r<2:=by
   rcases hl with hl|⟨d,hd⟩
   ·exact hl
   rw[h]at hd;cases hd
  refine⟨r,r,?_,λe he=>by cases he⟩;rw[fG hr];simp[BC,h]
theorem CD(h:cS kp K ord ah tr C){r:Nat}(hr:r<4294967296)(hl:live K.N r)(h2:∀d,K.N r=some d->2<=r)(y:Nat):
  Rd zQ 367 #[ptr kp,u32 r,iv (y:Int)] C (· =.tuple #[u32 (pl K.N y r),u32 (ph K.N y r)]):=by
 have h0:=h;obtain⟨b,rfl,hO⟩:=h;obtain⟨lo,hi,hg,he⟩:=DH hl h2;refine aE λg=>Hq (Nil.ptr (ai.mk (aa.eq (nV h0 hr) ?_)));intro b5 _;refine St.whole (r:=got K.N r) (by exact .head _) rfl (aQ _ _).1 (aQ _ _).2 ?_;rw[hg];refine Ld.f ?_;refine ae.ik (Br.dec (λe=>?_) (λe=>?_))
 ·refine Ld.f ?_;refine Ld.f ?_;cases hN:K.N r with
  |none=>simp[BC,hN]at e<;>omega
  |some d=>
   obtain⟨rfl,rfl⟩:=he d hN;have hv:d.v=y:=by simp[BC,hN]at e;omega
   obtain⟨e1,e2⟩:=UU hN hv;exact bg.mk .tail (by rw[e1,e2];rfl)
 obtain⟨e1,e2⟩:=UW (N:=K.N) (y:=y) (r:=r) λd hd=>by simp[BC,hd]at e<;>omega
 exact bg.mk .tail (by rw[e1,e2])
def mu(c:Cx):List zV:=[u32 c.r,iv (c.d.v:Int),u32 c.d.lo,u32 c.d.hi,u32 c.yg,u32 c.yf,u32 c.tT,u32 c.tS]
theorem l9(c:Cx):∀x∈mu c,x.oneCell'=true:=by intro x hx;simp[mu,u32]at hx;rcases hx with rfl|rfl|rfl|rfl|rfl|rfl|rfl|rfl<;>rfl
structure yo(N:eA)(x y:Nat)(l:zL)(all:List Cx):Prop where
 nd:(all.map Cx.r).Nodup
 mem:∀c,c∈all↔c.r∈l/\m0 N x y c.r c.d/\c=oa N y c.r c.d
theorem yo.skip{N:eA}{x y r:Nat}{l:zL}{all:List Cx}{d:Nd}(h:yo N x y l all)(hd:N r=some d)(hn:¬m0 N x y r d):yo N x y (l++[r]) all where
 nd:=h.nd
 mem:=λc=>by
  rw[h.mem,xao];constructor
  ·rintro⟨h1,h2⟩;exact⟨.inl h1,h2⟩
  rintro⟨h1|h1,h2,h3⟩
  ·exact⟨h1,h2,h3⟩
  simp at h1;have:=h2.1;rw[h1,hd]at this;cases this;rw[h1]at h2;exact absurd h2 hn
theorem yo.more{N:eA}{x y r:Nat}{l:zL}{all:List Cx}{d:Nd}(h:yo N x y l all)(hr:r∉l)(hn:m0 N x y r d):yo N x y (l++[r]) (all++[oa N y r d]) where
 nd:=by
  rw[xaE];refine xa4.2 ⟨h.nd,by simp,λa ha b hb e=>?_⟩;simp[oa]at hb;subst e;obtain⟨c,hc,rfl⟩:=xam.1 ha;exact hr (hb▸((h.mem c).1 hc).1)
 mem:=λc=>by
  rw[xao,h.mem,xao,xaG,xaG];constructor
  ·rintro(⟨h1,h2⟩|rfl)
   ·exact⟨.inl h1,h2⟩
   exact⟨.inr rfl,hn,rfl⟩
  rintro⟨h1|h1,h2,h3⟩
  ·exact .inl ⟨h1,h2,h3⟩
  right;have h4:=h2.1;rw[h1,hn.1]at h4;cases h4;exact h3.trans (by rw[h1])
theorem yo.all{N:eA}{x y:Nat}{l:zL}{all:List Cx}(h:yo N x y l all)(hl:∀r d,N r=some d->d.v=x->r∈l):L8 N x y all where
 nd:=h.nd
 mem:=λc=>by
  rw[h.mem];exact⟨λh=>h.2,λh=>⟨hl _ _ h.1.1 h.1.2.1,h⟩⟩
theorem AP(h:cS kp K ord ah tr C){r:Nat}(hl:live K.N r)(h2:∀d,K.N r=some d->2<=r){H:Hp}{c:Hp->Hp}(hh:bG C H c){g:Gh}{Q:zV->Hp->Prop}{KP:List PanicEntry->Hp->Prop}
 (hk:∀lo hi,got K.N r=[iv (BC K.N r),u32 lo,u32 hi]->(∀e,K.N r=some e->lo=e.lo/\hi=e.hi)->Q (.agg #[iv (BC K.N r),u32 lo,u32 hi]) H):aa zQ g 287 #[ptr kp,u32 r] H Q KP:=by
 have hr:=h.lt hl;obtain⟨lo,hi,hg,he⟩:=DH hl h2;refine aa.eh hh (nV h zO) ?_;have:=hk lo hi hg he;rw[hg];exact this
theorem Bi(h:cS kp K ord ah tr C)(hok:Ok K S (lv ah)){x y:Nat}(hx:x<K.n):
  Fc zQ 297 #[ptr kp,iv (x:Int),iv (y:Int)] C (λr H=>∃all Na,H=Na++C/\aV 367 8 r (all.map mu) Na/\L8 K.N x y all/\all.length<=1048576):=by
 have hcap:=h.cap;have h0:=h;obtain⟨b,hC,hO⟩:=h;have VE:∀d r,K.T d=some r↔K.N r=some d:=λd r=>by rw[hok.mid.j9];exact⟨λh=>h.1,λh=>⟨h,λx=>x⟩⟩
 have two:∀{r d},K.N r=some d->2<=r:=λhd=>(hok.mid.two hd).1;refine aE λg=>Ik ?_;rw[hC];refine Nil.ptr (ai.mk (ai.mk (Ld.q ?_)));refine aa.fq (UN hO.ut hx (λd d' r h1 h2=>by rw[VE]at h1 h2;rw[h1]at h2;cases h2;rfl) (λd r h1=>by have:=(hok.mid.two ((VE d r).1 h1)).2;omega)) ?_;rintro w H ⟨sl,l,Nr,rfl,rfl,RC,fc,hmem⟩;refine Ext.two (RC.bP ?_);rw[aq];have hl:∀r∈l,∃d,K.N r=some d/\d.v=x:=λr hr=>by obtain⟨d,h1,h2⟩:=(hmem r).1 hr;exact⟨d,(VE d r).1 h1,h2⟩
 have hlen:l.length<=1048576:=by
  have:=cu (l':=List.range 1048576) fc λr hr=>by
   obtain⟨d,hd,_⟩:=hl r hr;have:=(hok.mid.two hd).2;exact xaN.2 zO
  simpa using this
 refine⟨λvs H=>∃(v:zV) (i:Nat) (all:List Cx) (Na:Hp),vs=[v,iv (i:Int)]/\H=Na++(Nr++C)/\i<=l.length/\aV 367 8 v (all.map mu) Na/\yo K.N x y (l.take i) all/\all.length<=i,
  λvs _=>l.length-bJ vs 1,JE.of (bG.out (C:=b.CT) (.cons (.app .left)) Nr) ⟨_,0,[],[],rfl,by rw[hC];rfl,xaM _,aV.nil _ _,⟨by simp,by simp⟩,xaj _⟩,?_⟩
 rintro w w' H ⟨v,i,all,Na,hw,rfl,hi,ho,BN,V5⟩ gs;simp only[xau,xa1]at hw;obtain⟨rfl,rfl⟩:=hw;refine ae.eZ (Br.dec (λhlt=>?_) (λhge=>?_));rotate_left
 ·have:i=l.length:=by omega
  subst this;rw[xba]at BN;refine aM.mk (nD:=Na++C) ?_ ⟨all,Na,by rw[hC],ho,BN.all λr d hd hv=>(hmem r).2 ⟨d,(VE d r).2 hd,hv⟩,by omega⟩;exact aN.cU .right Na
 obtain⟨r,EE⟩:∃r,l[i]? =some r:=⟨_,xaa hlt⟩;have nv:l.take (i+1)=l.take i++[r]:=by rw[xbo,EE];rfl
 have hrn:r∉l.take i:=λhm=>by
  have:(l.take (i+1)).Nodup:=fc.sublist (xdO _ _);rw[nv]at this;exact(xa4.1 this).2.2 r hm r zI rfl
 obtain⟨d,hd,kY⟩:=hl r (xax EE);have Zk:=hok.mid.lo hd;have Zl:=hok.mid.hi hd;intro Z7 Gk;have next:∀v' Tw Na',aV 367 8 v' (Tw.map mu) Na'->yo K.N x y (l.take (i+1)) Tw->Tw.length<=i+1->Z7 [v'] (Na'++(Nr++C)):=λv' Tw Na' h1 h2 h3=>
  Gk _ _ λgs=>ae.inc (aC.mk ⟨v',i+1,Tw,Na',rfl,rfl,by omega,h1,h2,h3⟩ (by simp[bJ];omega))
 refine RC.ld (x:=(r:Int)) (cP EE) (λy hy=>xab _ (xad _ hy)) (Nil.ptr (ai.mk (AP h0 (.inr ⟨d,hd⟩) (λ_ h=>two h) (.app (.app .here)) λlo hi hg he=>?_)));obtain⟨rfl,rfl⟩:=he d hd;have hvr:BC K.N r=(x:Int):=by simp[BC,hd,kY]
 rw[hvr];intro b28 _;refine St.p (by intro z hz;simp[u32]at hz;rcases hz with rfl|rfl|rfl<;>rfl) ?_;obtain⟨H0,Wf⟩:∃H0,H0=(b28,Obj.cells #[iv (x:Int),u32 d.lo,u32 d.hi] 226 zZ)::(Na++(Nr++C)):=⟨_,rfl⟩;have hEq:((b28,Obj.cells [Value.int .i64 (x:Int),u32 d.lo,u32 d.hi].toArray 226 zZ)::(Na++(Nr++C)))=H0:=Wf.symm;rw[hEq];intro J31 Sq;have skip:¬m0 K.N x y r d->J31 [.bool true] H0:=λhn=>Sq _ _ λgs=>Br.yes (JE.of (by rw[Wf];exact .tail) (next w all Na ho (by rw[nv];exact BN.skip hd hn) zO));have take:m0 K.N x y r d->J31 [.bool false] H0:=λhn=>by
  refine Sq _ _ λgs=>Br.no ?_;rw[Wf];refine ay.q ?_;refine Build.mk (cs:=mu ⟨r,⟨x,d.lo,d.hi⟩,0,0,0,0⟩) zK λb37 _=>?_;refine St.p (l9 _) ?_;refine Ld.f ?_;refine aa.eq (CD h0 (by have:=h0.lt Zk;omega) Zk (λ_ h=>two h) y) (Ext.two (ai.mk (St.one (by exact .head _) rfl (by simp[mu]) rfl ?_)));refine ai.mk (St.one (by exact .head _) rfl (by simp[mu]) rfl ?_);refine Ld.f ?_;refine aa.eq (CD h0 (by have:=h0.lt Zl;omega) Zl (λ_ h=>two h) y) (Ext.two (ai.mk (St.one (by exact .head _) rfl (by simp[mu]) rfl ?_)));refine ai.mk (St.one (by exact .head _) rfl (by simp[mu]) rfl ?_);have dN:d=⟨x,d.lo,d.hi⟩:=by cases d;simp at kY;subst kY;rfl
  have hcell:mu (oa K.N y r d)=[u32 r,iv (x:Int),u32 d.lo,u32 d.hi,u32 (pl K.N y d.lo),u32 (ph K.N y d.lo),u32 (pl K.N y d.hi),u32 (ph K.N y d.hi)]:=by
   simp[mu,oa,kY]
  refine ay.whole (r:=mu (oa K.N y r d)) (by rw[hcell];exact .head _) rfl ?_;refine au.one (e:=367) (z:=.agg #[.int .u32 0,iv 0,.int .u32 0,.int .u32 0,.int .u32 0,.int .u32 0,.int .u32 0,.int .u32 0]) (k:=8) (r:=mu (oa K.N y r d)) zK zK zK zD rfl λxb=>?_;refine ho.pC (.cons (.cons (.cons .left))) (by exact .head _) rfl (l9 _) ⟨_,rfl,rfl⟩ zP zP λv' Na' cv=>?_;refine JE.of (.skip (.skip .tail)) (next v' (all++[oa K.N y r d]) Na' (by rw[xaE];exact cv) (by rw[nv];exact BN.more hrn hn) zP)
 refine DR.of (R:=[(b28,Obj.cells #[iv (x:Int),u32 d.lo,u32 d.hi] 226 zZ)]) (by rw[Wf];exact .left (A:=[_])) (Nil.ptr (ai.mk (Ld.f ?_)));have heR:aN H0 [(b28,Obj.cells #[iv (x:Int),u32 d.lo,u32 d.hi] 226 zZ)]:=by rw[Wf];exact .left (A:=[_])
 intro F;rw[Wf];refine AP h0 Zk (λ_ h=>two h) (.cons (.app (.app .here))) λlo1 hi1 hg1 Gb=>?_;rw[<-Wf];refine⟨heR,An.mk rfl (ae.cL (Br.dec (λhne=>?_) (λhe=>?_)))⟩
 ·refine Nil.ptr (ai.mk (Ld.f ?_));intro F2;rw[Wf];refine AP h0 Zl (λ_ h=>two h) (.cons (.app (.app .here))) λlo2 Lo TY TZ=>?_;rw[<-Wf];refine⟨heR,An.mk rfl (ae.cL (aL.mk ?_))⟩;by_cases e2:BC K.N d.hi=(y:Int)
  ·rw[xal (by simpa using e2)];refine JE.mk (take ⟨hd,kY,.inr ?_⟩);cases hN:K.N d.hi with
   |none=>simp[BC,hN]at e2<;>omega
   |some f=>exact⟨f,rfl,by simp[BC,hN]at e2;omega⟩
  ·rw[xan (by simpa using e2)];refine JE.mk (skip ?_);rintro⟨_,_,⟨f,hf,RT⟩|⟨f,hf,RT⟩⟩
   ·exact hne (by simp[BC,hf,RT])
   exact e2 (by simp[BC,hf,RT])
 have e1:BC K.N d.lo=(y:Int):=by simpa using he
 refine JE.mk (take ⟨hd,kY,.inl ?_⟩);cases hN:K.N d.lo with
 |none=>simp[BC,hN]at e1<;>omega
 |some f=>exact⟨f,rfl,by simp[BC,hN]at e1;omega⟩
end
end
section
open aA
section
def zOf:zV->Int
 | .int _ z=>z
 |_=>0
abbrev vrZ(v:zV)(z:Int):Prop:=v=iv z
def xh(es:Array MapEntry)(ck:Nat)(ks:List Nd):Prop:=∃m:List (Nd×Int),aD nK vrZ es ck m/\m.map Prod.fst=ks
theorem xh.empty:xh #[] 0 []:=⟨[],aD.empty,rfl⟩
theorem xh.of{es:Array MapEntry}{ck:Nat}{m:List (Nd×Int)}(h:aD nK (λv _=>∃z,v=iv z) es ck m):xh es ck (m.map Prod.fst):=by
 have hlen:es.toList.length=m.length:=by simpa using h.len
 have hz:((es.toList.zip m).map λp=>((p.2.1,zOf p.1.val):Nd×Int)).map Prod.fst=m.map Prod.fst:=by
  rw[xbM];have:(Prod.fst∘λ(p:MapEntry×(Nd×Int))=>((p.2.1,zOf p.1.val):Nd×Int))=Prod.fst∘Prod.snd:=rfl;rw[this,<-xbM,List.map_snd_zip zO]
 refine⟨_,⟨?_,λi e x he hx=>?_,by rw[hz];exact h.nd,h.born,h.lt⟩,hz⟩
 ·simp[h.len]
 have hi:=(xaU.1 he).1;have Lo:i<m.length:=by rw[<-h.len];exact hi
 have hm:m[i]? =some m[i]:=xaa Lo;obtain⟨h1,z,h2⟩:=h.key i e _ he hm;have hx':x=(m[i].1,zOf e.val):=by
  have e1:es.toList[i]? =some e:=by rw[xbc];exact he
  rw[xat,(List.getElem?_zip_eq_some (z:=(e,m[i]))).2 ⟨e1,hm⟩]at hx;simpa using hx.symm
 subst hx';exact⟨h1,by rw[h2];rfl⟩
theorem Own.sub{g:Gh}{H:Hp}{w:World}(h:Own g H w){y:Nat×Obj}(hy:y∈H):Own g [y] w:=by
 obtain⟨X,Y,rfl⟩:=xde hy;exact(h.perm xaT).left (A:=[y])
noncomputable abbrev FF:Func:=Tryz.f298
theorem six{i:Nat}(hi:i<6):¬QS .any (pn FF 10) i 6:=λh=>by
 have e6:(pn FF 10)[6]? =some (fh FF 10 6):=by kernel_rfl
 have:=h _ e6;have hm:(⟨i,.phase⟩:Edge)∈(fh FF 10 6).after:=by
  have ea:(fh FF 10 6).after=#[⟨0,.data⟩,⟨5,.data⟩,⟨3,.data⟩,⟨4,.chain⟩,⟨0,.phase⟩,⟨1,.phase⟩,⟨2,.phase⟩,⟨3,.phase⟩,⟨4,.phase⟩,⟨5,.phase⟩]:=by kernel_rfl
  rw[ea];rcases i with _|_|_|_|_|_|i;all_goals first|omega|simp
 exact this _ hm rfl rfl
end
section
def LL(ops:Array Oper)(listed:Array Bool):Bool:=(List.range ops.size).all λj=>match ops[j]? with
 |some oj=> !listed.getD j true||oj.after.toList.all λe=> !Region.binds .any e||listed.getD e.on true
 |none=>true
theorem gV{ops:Array Oper}{listed:Array Bool}(h:LL ops listed=true):fw .any ops listed:=by
 intro j oj hj hl e he hb;unfold LL at h;have h1:=xc4.1 h j (xaN.2 (xaU.1 hj).1);simp only[hj,hl,xcw,xdy]at h1;have h2:=xc4.1 h1 e (xcZ.2 he);rw[hb]at h2;simpa using h2
theorem Vx{g:Gh}{mb nb:Nat}{es:Array MapEntry}{ck:Nat}{ks:List Nd}{d:Nd}(hmk:xh es ck ks){c:Obj->Hp}(R3:∀o o',c6 mb o o' (c o) (c o'))(hcn:∀o,(nb,Obj.cells (bu d).toArray 226 zZ)∈c o){K:Hp->Prop}
 (hk:∀es' bB,xh es' bB (if d∈ks then ks else ks++[d])->K (c (.map es' bB))):
  ZZ zQ g 10 (pn FF 10) [7,11] [.map (some mb),ptr nb] (c (.map es ck)) K:=by
 have hm:(mb,Obj.map es ck)∈c (.map es ck):=(R3 _ (.map es ck)).mem;have hn:=hcn (.map es ck);obtain⟨m,hE,rfl⟩:=hmk;intro a w hok hvs hw;simp only[xay,xb6,xau,xa1]at hvs;obtain⟨h7,h11⟩:=hvs;obtain⟨n,hnn⟩:∃n,n=a.tmps.size:=⟨_,rfl⟩;obtain⟨fr,hfr⟩:∃fr:Fr,fr=λs=>a.tmps.getD s undef:=⟨_,rfl⟩;have ha:cA a.defers n a fr:=⟨rfl,hnn.symm,λs=>by rw[hfr]⟩;have f7:fr 7=.map (some mb):=by rw[hfr];exact h7
 have f11:fr 11=ptr nb:=by rw[hfr];exact h11
 rw[<-hnn]at hok;have eok:jb n (pn FF 10).toList=(Nat.blt 58 n&& (Nat.blt 59 n&& (Nat.blt 60 n&& (Nat.blt 61 n&& (Nat.blt 62 n&& (Nat.blt 63 n&& (true&&true))))))):=by kernel_rfl
 rw[eok]at hok;simp only[xaH,xdS]at hok;obtain⟨k58,k59,k60,k61,k62,k63⟩:=hok;refine wp_region_any zK ?_;obtain⟨z0,Xp⟩:∃z0:Int,z0=(aJ m d).getD 0:=⟨_,rfl⟩;obtain⟨S0,Sk⟩:∃S0:World->Prop,S0=λw=>Own g [(nb,Obj.cells (bu d).toArray 226 zZ)] w/\(Instr.lookup 429 (.map (some mb)) (nK d) false).run zQ w=.ok (iv z0) w:=⟨_,rfl⟩;have look:∀{es':Array MapEntry} {bB:Nat} {m':List (Nd×Int)} {H':Hp} {w':World},aD nK vrZ es' bB m'->(mb,Obj.map es' bB)∈H'->Own g H' w'->(aJ m' d).getD 0=z0->(Instr.lookup 429 (.map (some mb)) (nK d) false).run zQ w'=.ok (iv z0) w':=by
  intro es' bB m' H' w' h1 h2 h3 h4;have hL:j4 zQ 226 (iv 0) false H' (.map (some mb)) (nK d) (· =iv z0):=by
   cases hg:aJ m' d with
   |some z=>exact aD.F5 (ke:=nK) (k:=d) q7 mN h1 h2 hg (by rintro v rfl;rw[hg]at h4;simp at h4;rw[h4];rfl)
   |none=>exact aD.vN (ke:=nK) (k:=d) q7 mN h1 h2 hg (by rw[hg]at h4;simp at h4;rw[<-h4];rfl)
  obtain⟨v,hr,rfl⟩:=hL.run (P:=zQ) h3 (t:=429) (kt:=226) (e:=3) (kd:=.struct (Tryz.prog.fieldsOf 226)) (i:=(Tryz.prog.info? 3).get zK) zK K9 rfl zK zK;exact hr
 have TS:=hw.zx;have s0:S0 {w with drawn:=w.drawn+1}:=by rw[Sk];exact⟨Own.sub TS hn,look hE hm TS Xp.symm⟩
 have hQp:∀{o:Oper} {v:zV} (c:List PanicEntry) (a':Act) (w':World),(λ(e:Exit) (a':Act) (w':World)=>e=.normal/\a'.defers=a.defers/\a'.tmps.size=a.tmps.size/\(∀s,bQ (pn FF 10).toList s=false->a'.tmps.getD s undef=a.tmps.getD s undef)/\∃H',Own g H' w'/\K H') (.panic c) (a'.put o.dst v) w'->
   (λ(e:Exit) (a':Act) (w':World)=>e=.normal/\a'.defers=a.defers/\a'.tmps.size=a.tmps.size/\(∀s,bQ (pn FF 10).toList s=false->a'.tmps.getD s undef=a.tmps.getD s undef)/\∃H',Own g H' w'/\K H') (.panic c) a' w':=by
  rintro _ _ _ _ _ ⟨h,_⟩;cases h
 have hsel:Region.noSelect (pn FF 10)=true:=by kernel_rfl
 have hkeep:∀i,i<6->∀(j:Nat) (oj:Oper) (w w':World),(pn FF 10)[j]? =some oj->j≠i->¬om .any (pn FF 10) i j->S0 w->(j≠6->S0 w->S0 w')->S0 w':=λi hi j oj w w' _ _ hno h0 hs=>by
  by_cases e:j=6
  ·subst e;exact absurd (λoj jj e he hb heq=>hno (.one jj he hb heq)) (six hi)
  exact hs e h0
 refine de.any (S:=λj w w'=>j≠6->S0 w->S0 w') ?_;have hsz:(pn FF 10).size=7:=by kernel_rfl
 rw[hsz];refine de.take (gV zK) (S0:=S0) (i:=0) (oi:=fh FF 10 0) (v:=.map (some mb)) zK hsel zK zK hQp (λ_ h _ _=>h) (hkeep 0 zD) (.inl ⟨rfl,λw hw=>?_⟩) s0 ?_
 ·rw[ha.eval];have:(execOp (ev fr) (fh FF 10 0))=pure (.value (fr 7)):=rfl
  rw[this,f7];rfl
 have ur:=ha.put (d:=some 58) k58 (.map (some mb));change de _ _ _ _ _ 6 _ (a.put (some 58) (.map (some mb))) _;refine de.take (gV zK) (S0:=S0) (i:=1) (oi:=fh FF 10 1) (v:=nK d) zK hsel zK zK hQp (λ_ h _ _=>h) (hkeep 1 zD) (.inl ⟨rfl,λw hw=>?_⟩) s0 ?_
 ·rw[ur.eval];have e:AO zQ g (fh FF 10 1) (ev (br fr (some 58) (.map (some mb)))) [(nb,Obj.cells (bu d).toArray 226 zZ)] (λv=>v=nK d)=ay 3 [(nb,Obj.cells (bu d).toArray 226 zZ)] (fr 11) (λv=>v=nK d):=by kernel_rfl
  obtain⟨v,rfl,hr,_⟩:=oN (e.mpr (by rw[f11];exact ay.q rfl));rw[Sk]at hw;exact hr _ hw.1
 have qu:=ur.put (d:=some 59) k59 (nK d);change de _ _ _ _ _ 5 _ ((a.put (some 58) (.map (some mb))).put (some 59) (nK d)) _;refine de.take (gV zK) (S0:=S0) (i:=2) (oi:=fh FF 10 2) (v:=iv z0) zK hsel zK zK hQp (λ_ h _ _=>h) (hkeep 2 zD) (.inl ⟨rfl,λw hw=>?_⟩) s0 ?_
 ·rw[qu.eval];have e:execOp (ev (br (br fr (some 58) (.map (some mb))) (some 59) (nK d))) (fh FF 10 2)=(do pure (.value (<-Instr.lookup 429 (.map (some mb)) (nK d) false))):=rfl;rw[Sk]at hw;rw[e];simp only[Sem.run_bind,hw.2,Result.andThen_ok,Sem.run_pure]
 have uH:=qu.put (d:=some 60) k60 (iv z0);change de _ _ _ _ _ 4 _ (((a.put (some 58) (.map (some mb))).put (some 59) (nK d)).put (some 60) (iv z0)) _;refine de.take (gV zK) (S0:=S0) (i:=3) (oi:=fh FF 10 3) (v:=iv (IntKind.i64.wrap (z0+1))) zK hsel zK zK hQp (λ_ h _ _=>h) (hkeep 3 zD) (.inl ⟨rfl,λw hw=>?_⟩) s0 ?_
 ·rw[uH.eval];have e:AO zQ g (fh FF 10 3) (ev (br (br (br fr (some 58) (.map (some mb))) (some 59) (nK d)) (some 60) (iv z0))) [(nb,Obj.cells (bu d).toArray 226 zZ)] (λv=>v=iv (IntKind.i64.wrap (z0+1)))=ae .num .add (iv z0) (iv 1) (λv=>v=iv (IntKind.i64.wrap (z0+1))):=by kernel_rfl
  obtain⟨v,rfl,hr,_⟩:=oN (e.mpr (ae.add rfl));rw[Sk]at hw;exact hr _ hw.1
 have Gi:=uH.put (d:=some 61) k61 (iv (IntKind.i64.wrap (z0+1)));change de _ _ _ _ _ 3 _ ((((a.put (some 58) (.map (some mb))).put (some 59) (nK d)).put (some 60) (iv z0)).put (some 61) (iv (IntKind.i64.wrap (z0+1)))) _;generalize (((a.put (some 58) (.map (some mb))).put (some 59) (nK d)).put (some 60) (iv z0)).put (some 61) (iv (IntKind.i64.wrap (z0+1)))=a4 at Gi;refine de.all (rs:=[4]) zK zI λi hi=>?_;simp only[xaG]at hi;subst hi;have e4:(pn FF 10)[4]? =some (fh FF 10 4):=by kernel_rfl
 unfold wpOp;rw[e4];simp only;rw[xae (show Region.wanted (fh FF 10 4) (yielded (pn FF 10) a4.tmps)=true from rfl)];refine .inl ?_;show(fh FF 10 4).upon zQ a4 _ _ ((execOp a4.eval (fh FF 10 4)).run zQ _);rw[Gi.eval];refine oz.upon (g:=g) (KP:=λ_ _=>False) (aD.Wx (K:=λv H'=>∃es' bB v0 st,aD nK vrZ es' bB (if d∈m.map Prod.fst then m else m++[(d,0)])/\(∃e∈es'.toList,e.born=st)/\H'=c (.map es' bB)/\v=.tuple #[v0,iv (st:Int)])
  (t:=429) (kt:=226) (e:=3) (z:=iv 0) (k:=d) (y0:=(0:Int)) q7 mN Lb (o:=fh FF 10 4) (mo:=.tmp 58) (ko:=.tmp 59) rfl rfl rfl zK K9 rfl zK rfl hE R3
  (λes' bB v st h1 h2=>⟨es',bB,v,st,h1,h2,rfl,rfl⟩) _ TS) ?_ (λ_ _ _ _ h=>h.elim)
 rintro v H1 w1 jy ⟨kx,jN,v0,st,T3,hst,rfl,rfl⟩;have TW:(nb,Obj.cells (bu d).toArray 226 zZ)∈c (.map kx jN):=hcn _;have uj:(mb,Obj.map kx jN)∈c (.map kx jN):=(R3 _ (.map kx jN)).mem;have s1:S0 w1:=by
  rw[Sk];refine⟨Own.sub jy TW,look T3 uj jy ?_⟩;rw[Xp];split
  ·rfl
  rename_i dN;have e1:=iz.2 dN;have e2:aJ (m++[(d,0)]) d=some 0:=(dS (by
   have:=T3.nd;rw[xac dN]at this;exact this)).2 zI
  rw[e1,e2];rfl
 refine⟨λ_ _=>s1,?_⟩;have Gg:=Gi.put (d:=some 62) k62 (.tuple #[v0,iv (st:Int)]);change de _ _ _ _ _ 2 _ (a4.put (some 62) (.tuple #[v0,iv (st:Int)])) _;generalize a4.put (some 62) (.tuple #[v0,iv (st:Int)])=a5 at Gg;refine de.take (gV zK) (S0:=S0) (i:=5) (oi:=fh FF 10 5) (v:=iv (st:Int)) zK hsel zK zK hQp (λ_ h _ _=>h) (hkeep 5 zD) (.inl ⟨rfl,λw hw=>?_⟩) s1 ?_
 ·rw[Gg.eval];obtain⟨v,rfl,hr,_⟩:=oN (P:=zQ) (g:=g) (o:=fh FF 10 5) (H:=[(nb,Obj.cells (bu d).toArray 226 zZ)]) (k:=λv=>v=iv (st:Int))
   (ρ:=ev (br (br (br (br (br fr (some 58) (.map (some mb))) (some 59) (nK d)) (some 60) (iv z0)) (some 61) (iv (IntKind.i64.wrap (z0+1)))) (some 62) (.tuple #[v0,iv (st:Int)]))) ⟨_,_,rfl,rfl,rfl⟩
  rw[Sk]at hw;exact hr _ hw.1
 have Gf:=Gg.put (d:=some 63) k63 (iv (st:Int));change de _ _ _ _ _ 1 _ (a5.put (some 63) (iv (st:Int))) _;generalize a5.put (some 63) (iv (st:Int))=a6 at Gf;refine de.all (rs:=[6]) zK zI λi hi=>?_;simp only[xaG]at hi;subst hi;have e6:(pn FF 10)[6]? =some (fh FF 10 6):=by kernel_rfl
 unfold wpOp;rw[e6];simp only;rw[xae (show Region.wanted (fh FF 10 6) (yielded (pn FF 10) a6.tmps)=true from rfl)];refine .inl ?_;show(fh FF 10 6).upon zQ a6 _ _ ((execOp a6.eval (fh FF 10 6)).run zQ _);rw[Gf.eval];refine oz.upon (g:=g) (KP:=λ_ _=>False) (aD.Uv (vr:=λv _=>∃z:Int,v=iv z) (K:=λ_ H'=>∃es',aD nK (λv _=>∃z:Int,v=iv z) es' jN (if d∈m.map Prod.fst then m else m++[(d,0)])/\H'=c (.map es' jN))
  (o:=fh FF 10 6) (t:=429) (mo:=.tmp 58) (so:=.tmp 63) (xo:=.tmp 61) rfl rfl rfl (T3.mono λv z h=>⟨z,h⟩) hst (λ_=>⟨_,rfl⟩) R3
  (λes' h1=>⟨es',h1,rfl⟩) _ jy) ?_ (λ_ _ _ _ h=>h.elim)
 rintro v H2 w2 pJ ⟨gR,sO,rfl⟩;refine⟨λh=>absurd rfl h,?_⟩;have V6:cA a.defers n a6 _:=Gf;change de _ _ _ _ _ 0 _ a6 _;refine de.done zK ⟨rfl,V6.defers,by rw[V6.size,hnn],λs hs=>?_,_,pJ,hk gR jN ?_⟩ 0
 ·have eD:bQ (pn FF 10).toList s=(Nat.beq s 58||(Nat.beq s 59||(Nat.beq s 60||(Nat.beq s 61||(Nat.beq s 62||(Nat.beq s 63||(false||false))))))):=by kernel_rfl
  rw[eD]at hs;simp only[xaD]at hs;rw[V6.get];simp only[br,hs,xag];rw[hfr]
 have:=xh.of sO;have e:(if d∈m.map Prod.fst then m else m++[(d,(0:Int))]).map Prod.fst=if d∈m.map Prod.fst then m.map Prod.fst else m.map Prod.fst++[d]:=by
  split<;>simp
 rw[e]at this;exact this
end
section
variable {kp:Nat} {K:Kd} {ord ah tr:zL} {C:Hp} {S:Nat->aA.Fn}
theorem Ta{H:Hp}(a b:Nd){K:zV->Hp->Prop}(h:∀x,K (.slice (some ⟨x,0,none⟩) 2 2) ((x,.cells (rows [bu a,bu b]) 226 zZ)::H)):
  au zQ 309 2 [(0,nK a),(1,nK b)] H K:=by
 refine⟨rows [bu a,bu b],226,3,.agg #[iv 0,.int .u32 0,.int .u32 0],by kernel_rfl,by kernel_rfl,by kernel_rfl,by decide,?_,λx _=>h x⟩;have e1:Array.range (2*3)=#[0,1,2,3,4,5]:=rfl;simp[Instr.fill,Value.cells,nK,bu,e1,rows,u32]
def iH(K:Kd)(x:Nat)(l:List Cx)(ks:List Nd)(m:List Nd):Prop:=m.Nodup/\∀k,k∈m↔((∃c∈l,k∈keys x c)\/k∈ks)/\K.T k=none/\k.lo≠k.hi
theorem iH.step{x:Nat}{l:List Cx}{ks m:List Nd}{d:Nd}(h:iH K x l ks m)(hd:K.T d=none/\d.lo≠d.hi):iH K x l (ks++[d]) (if d∈m then m else m++[d]):=by
 obtain⟨h1,h2⟩:=h;constructor
 ·split
  ·exact h1
  rename_i hn;exact xa4.2 ⟨h1,by simp,λa ha b hb e=>by simp at hb;subst hb;subst e;exact hn ha⟩
 intro k;by_cases hm:d∈m
 ·rw[xae hm,h2,xao,xaG];constructor
  ·rintro⟨h3|h3,h4⟩
   ·exact⟨.inl h3,h4⟩
   exact⟨.inr (.inl h3),h4⟩
  rintro⟨h3|h3|rfl,h4⟩
  ·exact⟨.inl h3,h4⟩
  ·exact⟨.inr h3,h4⟩
  exact(h2 _).1 hm
 rw[xac hm,xao,xaG,h2,xao,xaG];constructor
 ·rintro(⟨h3|h3,h4⟩|rfl)
  ·exact⟨.inl h3,h4⟩
  ·exact⟨.inr (.inl h3),h4⟩
  exact⟨.inr (.inr rfl),hd⟩
 rintro⟨h3|h3|rfl,h4⟩
 ·exact .inl ⟨.inl h3,h4⟩
 ·exact .inl ⟨.inr h3,h4⟩
 exact .inr rfl
theorem iH.skip{x:Nat}{l:List Cx}{ks m:List Nd}{d:Nd}(h:iH K x l ks m)(hd:¬(K.T d=none/\d.lo≠d.hi)):iH K x l (ks++[d]) m:=by
 obtain⟨h1,h2⟩:=h;refine⟨h1,λk=>?_⟩;rw[h2,xao,xaG];constructor
 ·rintro⟨h3|h3,h4⟩
  ·exact⟨.inl h3,h4⟩
  exact⟨.inr (.inl h3),h4⟩
 rintro⟨h3|h3|rfl,h4⟩
 ·exact⟨.inl h3,h4⟩
 ·exact⟨.inr h3,h4⟩
 exact absurd h4 hd
theorem iH.As{x:Nat}{l:List Cx}{c:Cx}{m:List Nd}(h:iH K x l (keys x c) m):iH K x (l++[c]) [] m:=by
 obtain⟨h1,h2⟩:=h;refine⟨h1,λk=>?_⟩;rw[h2];constructor
 ·rintro⟨⟨c',hc,hk⟩|h3,h4⟩
  ·exact⟨.inl ⟨c',xad _ hc,hk⟩,h4⟩
  exact⟨.inl ⟨c,by simp,h3⟩,h4⟩
 rintro⟨⟨c',hc,hk⟩|h3,h4⟩
 ·rcases xao.1 hc with hc|hc
  ·exact⟨.inl ⟨c',hc,hk⟩,h4⟩
  simp at hc;subst hc;exact⟨.inr hk,h4⟩
 cases h3
theorem SA(h:cS kp K ord ah tr C){x:Nat}(hx:x<K.n){v:zV}{all:List Cx}{Na:Hp}(ha:aV 367 8 v (all.map mu) Na)(hlen:all.length<=1048576):
  Rd zQ 298 #[ptr kp,iv (x:Int),v] (Na++C) (λr=>∃made,r=iv ((made.length:Nat):Int)/\Made K x all made):=by
 have h0:=h;obtain⟨b,hC,hO⟩:=h;refine aE λg=>Ij λmb _=>?_;refine ha.bP ?_;rw[xav];refine⟨λvs H=>∃(i:Nat) (es:Array MapEntry) (ck:Nat) (m:List Nd),vs=[iv (i:Int)]/\H=(mb,.map es ck)::(Na++C)/\i<=all.length/\xh es ck m/\iH K x (all.take i) [] m,
  λvs _=>all.length-bJ vs 0,JE.mk ⟨0,_,_,[],rfl,rfl,xaM _,xh.empty,by simp,by simp⟩,?_⟩
 rintro w H ⟨i,es,ck,m,hw,rfl,hi,hmk,VQ⟩ gs;simp only[xau,xa1]at hw;subst hw;refine ae.eZ (Br.dec (λhlt=>?_) (λhge=>?_));rotate_left
 ·have:i=all.length:=by omega
  subst this;rw[xba]at VQ;obtain⟨m',he,rfl⟩:=hmk;refine aD.Q2 he (.head _) ?_;refine bg.mk .tail ⟨m'.map Prod.fst,by rw[xav],VQ.1,λk=>?_⟩;rw[VQ.2];constructor
  ·rintro⟨h3|h3,h4⟩
   ·exact⟨h3,h4⟩
   cases h3
  rintro⟨h3,h4⟩;exact⟨.inl h3,h4⟩
 obtain⟨c,pM⟩:∃c,all[i]? =some c:=⟨_,xaa hlt⟩;have nv:all.take (i+1)=all.take i++[c]:=by rw[xbo,pM];rfl
 refine ha.Lh (r:=mu c) (by rw[xat,pM];rfl) (λy hy=>.tail _ (xad _ hy)) ?_;intro T6 _;refine St.p (l9 _) ?_;refine Ld.f ?_;refine Ld.f ?_;refine Build.mk (cs:=bu ⟨x,c.yg,c.tT⟩) zK (Ld.f ?_);refine Ld.f ?_;refine Build.mk (cs:=bu ⟨x,c.yf,c.tS⟩) zK (Ta _ _ λxb=>?_);refine aR.mk ?_;refine⟨λvs H=>∃(j:Nat) (es:Array MapEntry) (ck:Nat) (m:List Nd),vs=[iv (j:Int)]/\H=(xb,.cells (rows [bu ⟨x,c.yg,c.tT⟩,bu ⟨x,c.yf,c.tS⟩]) 226 zZ)::(mb,.map es ck)::(Na++C)/\j<=2/\xh es ck m/\iH K x (all.take i) ((keys x c).take j) m,
  λvs _=>2-bJ vs 0,JE.of (.cons .tail) ⟨0,es,ck,m,rfl,rfl,xaM _,hmk,VQ⟩,?_⟩
 clear hmk VQ;rintro w H ⟨j,es,ck,m,hw,rfl,hj,hmk,VQ⟩ gs;simp only[xau,xa1]at hw;subst hw;refine ae.eZ (b:=2) (Br.dec (λuk=>?_) (λhge=>?_));rotate_left
 ·have:j=2:=by omega
  subst this;refine ae.inc (aC.of .tail ⟨i+1,es,ck,m,rfl,rfl,by omega,hmk,?_⟩ (by simp[bJ];omega));rw[nv];exact iH.As VQ
 obtain⟨d,Gc,kY⟩:∃d,(keys x c)[j]? =some d/\d.v=x:=by
  rcases j with _|_|j
  ·exact⟨_,rfl,rfl⟩
  ·exact⟨_,rfl,rfl⟩
  omega
 have htj:(keys x c).take (j+1)=(keys x c).take j++[d]:=by rw[xbo,Gc];rfl
 have hrow:[bu ⟨x,c.yg,c.tT⟩,bu ⟨x,c.yf,c.tS⟩][j]? =some (bu d):=by
  have:[bu ⟨x,c.yg,c.tT⟩,bu ⟨x,c.yf,c.tS⟩]=(keys x c).map bu:=rfl;rw[this,xat,Gc];rfl
 intro J34 agu;have next:∀es' bB m' H',xh es' bB m'->iH K x (all.take i) ((keys x c).take (j+1)) m'->aN H' ((xb,.cells (rows [bu ⟨x,c.yg,c.tT⟩,bu ⟨x,c.yf,c.tS⟩]) 226 zZ)::(mb,.map es' bB)::(Na++C))->JE J34 [] H':=λes' bB m' H' h1 h2 h3=>
  JE.mk (agu _ λgs=>ae.inc (aC.of h3 ⟨j+1,es',bB,m',rfl,rfl,by omega,h1,h2⟩ (by simp[bJ];omega)))
 refine av.nat uk ?_;have hmem:(xb,Obj.cells (rows [bu ⟨x,c.yg,c.tT⟩,bu ⟨x,c.yf,c.tS⟩]) 226 zZ)∈(xb,Obj.cells (rows [bu ⟨x,c.yg,c.tT⟩,bu ⟨x,c.yf,c.tS⟩]) 226 zZ)::(mb,.map es ck)::(Na++C):=.head _;refine ay.row (k:=3) hmem (by simp[bu]) hrow ?_;intro b40 _;refine St.p (λz hz=>by simp[bu,u32]at hz;rcases hz with rfl|rfl|rfl<;>rfl) ?_;refine DR.self ?_;rw[hC];refine Nil.ptr (ai.mk (Ld.f ?_));refine ay.q ?_;refine aa.eq (uK (d:=d) hO.ut (by rw[kY];exact hx)) (⟨.refl _,Ext.mk rfl (Ext.mk rfl (Un.not ?_))⟩);have Xt:(!(K.T d).isSome)=decide (K.T d=none):=by cases K.T d<;>simp
 rw[Xt];refine dc.and (decide (d.lo≠d.hi)) (λ_=>?_) rfl λgs=>?_
 ·refine Ld.f ?_;refine Ld.f ?_;exact ae.AQ ⟨rfl,rfl⟩
 rw[<-xcU];rw[<-hC];refine Br.dec (λhd=>?_) (λhd=>?_)
 ·refine Vx hmk (c:=λo=>(b40,.cells (bu d).toArray 226 zZ)::(xb,.cells (rows [bu ⟨x,c.yg,c.tT⟩,bu ⟨x,c.yf,c.tS⟩]) 226 zZ)::(mb,o)::(Na++C)) (λo o'=>.tail (.tail (.head _))) (λo=>.head _) λes' bB h1 gs=>?_;exact next es' bB _ _ h1 (by rw[htj];exact VQ.step hd) .tail
 exact next es ck m _ hmk (by rw[htj];exact VQ.skip hd) .tail
end
def kf(l:List Cx):Nat->Nat:=λs=>(l.map λc=>e1 (some c.d) s).sum
theorem oJ(c:Cx)(l:List Cx)(s:Nat):kf (c::l) s=e1 (some c.d) s+kf l s:=by simp[kf]
theorem MX(c:Cx)(l:List Cx)(s:Nat):kf (l++[c]) s=kf l s+e1 (some c.d) s:=by simp[kf]
theorem ac9(d:Nd)(s:Nat):e1 (some d) s<=2:=by rw[eu];split<;>split<;>omega
theorem AM(s:Nat):∀l:List Cx,kf l s<=2*l.length
 | []=>xaj _
 |c::l=>by rw[oJ,xaw];have:=AM s l;have:=ac9 c.d s;omega
theorem CC{s:Nat}:∀{l:List Cx},0<kf l s->∃c∈l,c.d.lo=s\/c.d.hi=s
 | [],h=>by simp[kf]at h
 |c::l,h=>by
  rw[oJ]at h;by_cases h0:0<e1 (some c.d) s
  ·refine⟨c,by simp,?_⟩;rw[eu]at h0;by_cases h1:c.d.lo=s
   ·exact .inl h1
   by_cases h2:c.d.hi=s
   ·exact .inr h2
   simp[h1,h2]at h0
  obtain⟨c',hc,h1⟩:=CC (s:=s) (l:=l) zO;exact⟨c',by simp[hc],h1⟩
theorem KX{s:Nat}{c:Cx}(hs:c.d.lo=s\/c.d.hi=s):∀{l:List Cx},c∈l->0<kf l s
 |c'::l,h=>by
  rw[oJ];rcases xak.1 h with rfl|h
  ·rw[eu];rcases hs with hs|hs
   ·rw[xae hs];omega
   rw[xae hs];omega
  have:=KX hs h;omega
def Idle(K:Kd):Prop:=∀s,K.N s=none->K.use s=0
theorem uT{K:Kd}{S:Nat->aA.Fn}{E:Nat->Prop}{P:Nat->Nat}(hm:jO K S E P)(hi:Idle K){M:Nat}(hP:∀s,P s<=M)(s:Nat):K.use s<=2097153+M:=by
 cases h:K.N s with
 |none=>rw[hi s h];omega
 |some d=>
  rw[hm.use h];have:=DW (N:=K.N) (r:=s) K.cap;have:=hm.cap.2;have:=hP s;split<;>omega
section
variable {kp:Nat} {K K0:Kd} {ord ah tr:zL} {C:Hp} {S S0:Nat->aA.Fn} {rZ:Nat->Nat} {x y l:Nat} {all done rest:List Cx} {made:List Nd} {P:Nat->Nat}
theorem Sv(b:TB K0 S0 rZ x y l all made)(h:cS kp K ord ah tr C)(ht:TI K0 S0 rZ x y l made K S done rest P)(hd:∀c∈done,c∈all)(hr:∀c∈rest,c∈all){c:Cx}(hc:c∈all){k:Nd}(hk:k∈keys x c)
 (Pr:PL P K.N)(RQ:Idle K)(hP:∀s,P s<=4194304):
  Fc zQ 299 #[ptr kp,iv (k.v:Int),u32 k.lo,u32 k.hi] C (λv C'=>∃r K' S',v=u32 r/\cS kp K' ord ah tr C'/\TI K0 S0 rZ x y l made K' S' done rest P/\ym K0 K' rZ x l r/\
   ((k.lo=k.hi/\r=k.lo)\/K'.N r=some k)/\PL P K'.N/\Idle K'/\(∀s d,K.N s=some d->K'.N s=some d)/\(∀s d,K'.N s=some d->s=r\/(K.N s=some d/\K.use s<=K'.use s))):=by
 have sL:K.n<=64:=by obtain⟨_,_,hO⟩:=h;exact hO.lB
 have mV:=b.Vg hc;have hkv:k.v=x/\tW K0 rZ l k.lo/\tW K0 rZ l k.hi:=by
  simp only[keys,xak,xaQ,xbE]at hk;rcases hk with rfl|rfl
  ·exact⟨rfl,mV.1.1,mV.1.2⟩
  exact⟨rfl,mV.2.1,mV.2.2⟩
 have Dz:=ht.ru b hd hkv.2.1;have qK:=ht.ru b hd hkv.2.2;have hxn:k.v<K.n:=by rw[hkv.1,ht.n];exact b.nb.xn
 by_cases he:k.lo=k.hi
 ·refine Fc.mono (by rw[<-he];exact Wj C _ k.lo _) ?_;rintro v C' ⟨rfl,rfl⟩;exact⟨k.lo,K,S,rfl,h,ht,.inl hkv.2.1,.inl ⟨he,rfl⟩,Pr,RQ,λ_ _ h=>h,λs d h=>.inr ⟨h,xaj _⟩⟩
 cases hT:K.T k with
 |some r=>
  obtain⟨h1,h2⟩:=ht.found b hc hk hT;refine Fc.mono (Wl h he hxn hT) ?_;rintro v C' ⟨rfl,rfl⟩;exact⟨r,K,S,rfl,h,ht,h2,.inr h1,Pr,RQ,λ_ _ h=>h,λs d h=>.inr ⟨h,xaj _⟩⟩
 |none=>
  have hfit:∀{t:Nat},live K.N t->t<2\/t<K.us.length:=λht'=>by
   rcases ht' with ht'|⟨d,dN⟩
   ·exact .inl ht'
   exact .inr (ht.mid.fit dN)
  have hkm:=ht.Rr b hd hr hc hk he hkv.2.1 hkv.2.2 hT;refine Fc.mono (Wk h (d:=k) he ⟨by omega,Dz,qK⟩ hxn hT (ht.fits b hkm hT) (hfit Dz) (hfit qK) (λs=>by have:=uT ht.mid RQ hP s;omega)) ?_;rintro v C' ⟨r,dz,cv,rfl,hN,h2,hrc,hlen,hru,Np,u0,u1,u2,o0,o1,dh⟩;have hPr:P r=0:=by
   apply xdE;intro hne;obtain⟨d,dN⟩:=Pr r h2 zO;rw[hN]at dN;cases dN
  obtain⟨g1,g2⟩:=ht.lay b hd hr hc hk he hT hN ⟨h2,hrc⟩ hlen ⟨hru,Np⟩ u0 u1 o0 o1 hPr;have hup:∀s d,K.N s=some d->up K.N r (some k) s=some d:=λs d hs=>by
   rw[aS (λe=>by rw[e,hN]at hs;cases hs)];exact hs
  refine⟨r,_,_,rfl,dh,g1,g2,.inr aP,λt Sr h0=>?_,λs hs=>?_,hup,λs d hs=>?_⟩
  ·obtain⟨d,dN⟩:=Pr t Sr h0;exact⟨d,hup t d dN⟩
  ·have hs':up K.N r (some k) s=none:=hs;have hne:s≠r:=λe=>by subst e;rw[aP]at hs';cases hs'
   rw[aS hne]at hs';show dz.getD s 0=0;by_cases h2s:2<=s
   ·rw[u1 s h2s hne,RQ s hs',eu];have a1:k.lo≠s:=λe=>by
     rcases Dz with h5|⟨d,h5⟩
     ·omega
     rw[e,hs']at h5;cases h5
    have a2:k.hi≠s:=λe=>by
     rcases qK with h5|⟨d,h5⟩
     ·omega
     rw[e,hs']at h5;cases h5
    simp[a1,a2]
   rw[u2 s zO,RQ s hs']
  have hs':up K.N r (some k) s=some d:=hs;by_cases e:s=r
  ·exact .inl e
  rw[aS e]at hs';refine .inr ⟨hs',?_⟩;show K.use s<=dz.getD s 0;rw[u1 s (ht.mid.two hs').1 e];omega
theorem PJ(h:cS kp K ord ah tr C)(ht:TI K0 S0 rZ x y l made K S done rest P)(Pr:PL P K.N)(RQ:Idle K)(hP:∀s,P s<=4194304){r:Nat}(hr:live K.N r):
  Fc zQ 300 #[ptr kp,u32 r] C (λv C'=>∃K',v=.tuple #[]/\cS kp K' ord ah tr C'/\TI K0 S0 rZ x y l made K' S done rest (λs=>P s+if s=r then 1 else 0)/\PL (λs=>P s+if s=r then 1 else 0) K'.N/\Idle K'/\
   K'.N=K.N/\(∀s,K.use s<=K'.use s)/\(2<=r->0<K'.use r)):=by
 have hfit:r<2\/r<K.us.length:=by
  rcases hr with hr|⟨d,hd⟩
  ·exact .inl hr
  exact .inr (ht.mid.fit hd)
 refine Fc.mono (EW h hfit (by have:=uT ht.mid RQ hP r;omega)) ?_;rintro v C' ⟨rfl,dh⟩;by_cases h2:2<=r
 ·have hrd:∃d,K.N r=some d:=by
   rcases hr with hr|hr
   ·omega
   exact hr
  have hlt:r<K.us.length:=by omega
  refine⟨_,rfl,dh,(ht.use (jo r) (nE h2 hlt) (λs hs=>uU hs)).congr (λs _=>?_),λt Sr h0=>?_,λs hs=>?_,rfl,λs=>?_,λ_=>?_⟩
  ·unfold up;split
   ·rename_i e;subst e;rfl
   rfl
  ·by_cases e:t=r
   ·subst e;exact hrd
   simp[e]at h0;exact Pr t Sr h0
  ·show(th K r).getD s 0=0;have hne:s≠r:=λe=>by
    obtain⟨d,hd⟩:=hrd;have hs':K.N s=none:=hs;rw[e,hd]at hs';cases hs'
   rw[uU hne];exact RQ s hs
  ·show K.use s<=(th K r).getD s 0;by_cases e:s=r
   ·subst e;rw[nE h2 hlt];omega
   rw[uU e];exact xaj _
  show 0<(th K r).getD r 0;rw[nE h2 hlt];omega
 have e:th K r=K.us:=by unfold th;rw[xae zO]
 have eK:({K with us:=th K r}:Kd)=K:=by rw[e]
 rw[eK]at dh;refine⟨K,rfl,dh,ht.congr (λs hs=>?_),λt Sr h0=>?_,RQ,rfl,λ_=>xaj _,λh=>absurd h h2⟩
 ·rw[xac zO];rfl
 have h0':0<P t+if t=r then 1 else 0:=h0
 rw[xac zO]at h0';exact Pr t Sr h0'
theorem ym.mono{K K':Kd}(h:ym K0 K rZ x l y)(hm:∀s d,K.N s=some d->K'.N s=some d):ym K0 K' rZ x l y:=by
 rcases h with h|⟨e,h1,h2⟩
 ·exact .inl h
 exact .inr ⟨e,hm _ _ h1,h2⟩
end
section
variable {kp:Nat} {K:Kd} {ord ah tr:zL} {C:Hp} {S:Nat->aA.Fn}
structure Kept(K:Kd)(S:Nat->aA.Fn)(K':Kd)(S':Nat->aA.Fn):Prop where
 n:K'.n=K.n
 cap:K'.cap=K.cap
 hold:∀r,K'.hold r=K.hold r
 held:∀g,K'.held S' g↔K.held S g
 fn:∀r,K.hold r≠0->S' r=S r
theorem Yu{x y l:Nat}(hne:x≠y)(hx:x<ah.length)(hy:y<ah.length):lv ((ah.set x (l+1)).set y l)=tZ (lv ah) x y l:=by
 funext v
 show((ah.set x (l+1)).set y l).getD v 0=_;rw[gQ (by simpa using hy),gQ hx];unfold tZ;by_cases e:v=y
 ·rw[xae e,xac (by rw[e];exact xa9 hne),xae e]
 rw[xac e,xac e]
theorem QJ(c:Cx)(rest:List Cx):kf (c::rest)=gU (gU (kf rest) [c.d.hi]) [c.d.lo]:=by
 funext s
 rw[oJ,eu];unfold gU;simp only[xb3,xdK,xcO];omega
theorem rj{x:Nat}{all:List Cx}{made:List Nd}(h:Made K x all made):made.length<=2*all.length:=by
 have h1:=cu (l':=all.flatMap (keys x)) h.nd λk hk=>by
  obtain⟨⟨c,hc,hk'⟩,_⟩:=(h.mem k).1 hk;exact List.mem_flatMap.2 ⟨c,hc,hk'⟩
 have h2:(all.flatMap (keys x)).length=2*all.length:=by
  clear h1 h;induction all with
  |nil=>rfl
  |cons c all ih=>rw[xej,xaf,ih,xaw];simp[keys];omega
 omega
theorem PO{x y l:Nat}{K1:Kd}{S1:Nat->aA.Fn}{all:List Cx}{made:List Nd}(b:TB K S (lv ah) x y l all made)(h:TI K S (lv ah) x y l made K1 S1 all [] (kf all))(hnew:∀r d,K.N r=none->K1.N r=some d->0<K1.use r):Pos K1:=by
 intro r d hd;cases hN:K.N r with
 |none=>exact hnew r d hN hd
 |some d0=>
  rw[h.mid.use hd];rcases b.ok.reach r d0 hN with hh|⟨p,e,hp,Pk⟩
  ·have pL:K1.hold r≠0:=by rw[h.hold];exact hh
   rw[xac pL];omega
  by_cases hm:p∈all.map Cx.r
  ·obtain⟨c,hc,rfl⟩:=xam.1 hm;have hcd:=(b.ob hc).1;rw[hp]at hcd;cases hcd;have:=KX (s:=r) Pk hc;omega
  have uF:=h.old hp hm;have:dx K1.N r K1.cap≠0:=λhe=>by
   have:=jY he p (h.mid.two uF).2 e uF;rcases Pk with Pk|Pk
   ·exact this.1 Pk
   exact this.2 Pk
  omega
theorem KC(h:cS kp K ord ah tr C)(hok:Ok K S (lv ah))(ho:Ord K.n (lv ah) ord)(RQ:Idle K){l:Nat}(hl:l+1<K.n):
  Fc zQ 211 #[ptr kp,iv (l:Int)] C (λr C'=>
   (BD K.n ord l (K.held S)+2<=K.cap/\r=.bool true/\∃K' S' bW,cS kp K' (fR ord l) bW tr C'/\Ok K' S' (lv bW)/\Ord K'.n (lv bW) (fR ord l)/\Idle K'/\Kept K S K' S')\/
   (K.cap<BD K.n ord l (K.held S)+2/\r=.bool false/\C'=C)):=by
 have h0:=h;have hcap:=h.cap;obtain⟨b,hC,hO⟩:=h;have EF:=hO.ol;have sL:=hO.lB;have nb:=ho.nb hl;obtain⟨x,hx⟩:∃x,x=ord.getD l 0:=⟨_,rfl⟩;obtain⟨y,hy⟩:∃y,y=ord.getD (l+1) 0:=⟨_,rfl⟩;rw[<-hx,<-hy]at nb;refine aE λg=>Jb ?_;have hmk:(kp,Obj.cells (b.cells K.n) 141 zZ)∈C:=by rw[hC];exact .head _
 have Xr:∀z∈b.CO,z∈C:=by rw[hC];exact bG.sub (.cons (.app (.app (.app (.app .left)))))
 refine Ld.v hmk ?_;refine hO.od.ld (x:=(x:Int)) (by rw[hx];exact bH zO) Xr (Ld.v hmk ?_);refine ae.inc (hO.od.ld (x:=(y:Int)) (by rw[hy];exact bH zO) Xr (aa.fq (Bi h0 hok nb.xn) ?_));rintro w H ⟨all,Na,rfl,aI,BN,hlen⟩;refine DR.self (Nil.ptr (ai.mk (aa.rq (SA h0 nb.xn aI hlen) ?_)));rintro w ⟨made,rfl,RI⟩;have hml:=rj RI;have Ll:=hok.mid.cap;have ae8:=hok.mid.room;refine aa.eq (Dk h0 (m:=made.length) zO zO) ?_;have ajP:BD K.n ord l (K.held S)=K.used-2+made.length:=X4 (PR hok ho hl (by rw[<-hx,<-hy];exact BN) (by rw[<-hx];exact RI));apply Un.not;by_cases hroom:K.used+made.length<=K.cap;rotate_left
 ·rw[xal hroom];exact Br.yes (aM.mk .right (.inr ⟨by omega,rfl,rfl⟩))
 rw[xan hroom];apply Br.no;have tb:TB K S (lv ah) x y l all made:=⟨hok,nb,BN,RI,hroom⟩;have fc:=BN.nd;have hge:∀{i:Nat} {c:Cx},all[i]? =some c->c.r∉(all.take i).map Cx.r:=λ{i c} pM hm=>by
  have h1:(all.take (i+1)).map Cx.r=(all.take i).map Cx.r++[c.r]:=by rw[xbo,pM,xaE];rfl
  have h2:((all.take (i+1)).map Cx.r).Nodup:=fc.sublist ((xdO _ _).map _);rw[h1]at h2;exact(xa4.1 h2).2.2 _ hm _ zI rfl
 have nv:∀{i:Nat} {c:Cx},all[i]? =some c->all.take (i+1)=all.take i++[c]:=λpM=>by rw[xbo,pM];rfl
 have hdr:∀{i:Nat} {c:Cx},all[i]? =some c->all.drop i=c::all.drop (i+1):=λ{i c} pM=>by
  obtain⟨hi,e⟩:=xah.1 pM;rw[xbs hi,e]
 have YZ:∀{i:Nat},∀c∈all.take i,c∈all:=λc hc=>xcD hc;have hmD:∀{i:Nat},∀c∈all.drop i,c∈all:=λc hc=>List.mem_of_mem_drop hc;refine aI.bP ?_;rw[xav];refine⟨λvs H=>∃(i:Nat) (T':Nd->Option Nat) (C1:Hp),vs=[iv (i:Int)]/\H=Na++C1/\i<=all.length/\cS kp {K with T:=T'} ord ah tr C1/\jO {K with T:=T'} S (λs=>∃c∈all.take i,s=c.r) zero'/\(∀d,T' d=none\/T' d=K.T d),
  λvs _=>all.length-bJ vs 0,JE.mk ⟨0,K.T,C,rfl,rfl,xaM _,h0,hok.mid.congr (λs=>by simp[iP]) (λ_ _=>rfl),λ_=>.inr rfl⟩,?_⟩
 rintro w H ⟨i,T',C1,hw,rfl,hi,eW,NG,ND⟩ gs;simp only[xau,xa1]at hw;subst hw;refine ae.eZ (Br.dec (λhlt=>?_) (λNx=>?_))
 ·obtain⟨c,pM⟩:∃c,all[i]? =some c:=⟨_,xaa hlt⟩;have Gd:c∈all:=xax pM;obtain⟨A7,aci,hce⟩:=tb.ob Gd;refine aI.Lh (r:=mu c) (by rw[xat,pM];rfl) (λz hz=>xad _ hz) ?_;intro b31 _;refine St.p (l9 _) ?_;obtain⟨b1,rfl,XK⟩:=eW;refine DR.self (Nil.ptr (ai.mk (Ld.f ?_)));refine ai.mk (ay.mk (vs:=(bu c.d).toArray) (.head _) (by simp[mu]) rfl ?_);have hTc:T' c.d=some c.r:=(NG.j9 c.d c.r).2 ⟨A7,by rintro⟨c',oY,e⟩;exact hge pM (e▸xaR oY)⟩;refine aa.fq (yJ (d:=c.d) XK.ut (hok.mid.var A7) hTc) ?_;rintro v CT' ⟨rfl,YK⟩;refine ae.inc (aC.of .tail ⟨i+1,qI T' c.d none,_,rfl,rfl,by omega,⟨{b1 with CT:=CT'},rfl,{XK with ut:=YK}⟩,(NG.afG (r:=c.r) (d:=c.d) A7 ?_).congr (λs=>?_) (λ_ _=>rfl),λd=>?_⟩ (by simp[bJ];omega))
  ·rintro⟨c',oY,e⟩;exact hge pM (e▸xaR oY)
  ·rw[nv pM];constructor
   ·rintro(⟨c',oY,e⟩|e)
    ·exact⟨c',xad _ oY,e⟩
    exact⟨c,by simp,e⟩
   rintro⟨c',oY,e⟩;rcases xao.1 oY with oY|oY
   ·exact .inl ⟨c',oY,e⟩
   simp at oY;subst oY;exact .inr e
  unfold qI;split
  ·exact .inl rfl
  exact ND d
 have hi':i=all.length:=by omega
 subst hi';rw[xba]at NG;have hTI:=tb.start NG ND;refine aI.bP ?_;rw[xav];refine⟨λvs H=>∃(i:Nat) (K1:Kd) (S1:Nat->aA.Fn) (C1:Hp),vs=[iv (i:Int)]/\H=Na++C1/\i<=all.length/\cS kp K1 ord ah tr C1/\TI K S (lv ah) x y l made K1 S1 (all.take i) (all.drop i) (kf (all.take i))/\
   PL (kf (all.take i)) K1.N/\Idle K1/\(∀r d,K.N r=none->K1.N r=some d->0<K1.use r),
  λvs _=>all.length-bJ vs 0,JE.mk ⟨0,_,S,C1,rfl,rfl,xaM _,eW,hTI,λt _ h=>by simp[kf]at h,RQ,λr d h1 h2=>by rw[h1]at h2;cases h2⟩,?_⟩
 clear hTI NG ND eW T' C1 Nx hi;rintro w H ⟨i,K1,S1,C1,hw,rfl,hi,eW,ND,Wc,RP,Xw⟩ gs;simp only[xau,xa1]at hw;subst hw;refine ae.eZ (Br.dec (λhlt=>?_) (λNx=>?_))
 ·obtain⟨c,pM⟩:∃c,all[i]? =some c:=⟨_,xaa hlt⟩;have Gd:c∈all:=xax pM;obtain⟨A7,aci,hce⟩:=tb.ob Gd;rw[hdr pM]at ND;have ji:∀c'∈c::all.drop (i+1),c'∈all:=by rw[<-hdr pM];exact hmD
  have hPb:∀s,kf (all.take i) s<=2097152:=λs=>by have:=AM s (all.take i);rw[xbB]at this;omega
  refine aI.Lh (r:=mu c) (by rw[xat,pM];rfl) (λz hz=>xad _ hz) ?_;intro b53 _;refine St.p (l9 _) ?_;refine DR.self (Nil.ptr (ai.mk (Ld.f ?_)));refine Ld.f ?_;refine aa.fq (Sv tb eW ND YZ ji Gd (k:=⟨x,c.yg,c.tT⟩) (by simp[keys]) Wc RP (λs=>by have:=hPb s;omega)) ?_;rintro w C2 ⟨t0,K2,S2,rfl,dm,hT2,abi,g0,Wb,F6,ahs,aeN⟩;refine Nil.ptr (ai.mk (aa.fq (PJ dm hT2 Wb F6 (λs=>by have:=hPb s;omega) (hT2.rB tb YZ abi)) ?_));rintro w C3 ⟨K3,rfl,kj,hT3,Zw,afJ,hN3,afa,abH⟩;have acF:∀s,(kf (all.take i) s+if s=t0 then 1 else 0)<=2097153:=λs=>by have:=hPb s;split<;>omega
  refine DR.self (Nil.ptr (ai.mk (Ld.f ?_)));refine Ld.f ?_;refine aa.fq (Sv tb kj hT3 YZ ji Gd (k:=⟨x,c.yf,c.tS⟩) (by simp[keys]) Zw afJ (λs=>by have:=acF s;omega)) ?_;rintro w C4 ⟨t1,K4,S4,rfl,NH,hT4,abh,g1,Zv,afI,Xg,aeM⟩;refine Nil.ptr (ai.mk (aa.fq (PJ NH hT4 Zv afI (λs=>by have:=acF s;omega) (hT4.rB tb YZ abh)) ?_));rintro w C5 ⟨K5,rfl,Lv,hT5,akS,afH,hN5,ae9,abG⟩;have Xl:ym K K5 (lv ah) x l t0:=ym.mono abi (λs d hs=>by rw[hN5];exact Xg s d (by rw[hN3];exact hs));have Xk:ym K K5 (lv ah) x l t1:=ym.mono abh (λs d hs=>by rw[hN5];exact hs);have g0':(c.yg=c.tT/\t0=c.yg)\/K5.N t0=some ⟨x,c.yg,c.tT⟩:=by
   rcases g0 with g0|g0
   ·exact .inl g0
   exact .inr (by rw[hN5];exact Xg _ _ (by rw[hN3];exact g0))
  have g1':(c.yf=c.tS/\t1=c.yf)\/K5.N t1=some ⟨x,c.yf,c.tS⟩:=by
   rcases g1 with g1|g1
   ·exact .inl g1
   exact .inr (by rw[hN5];exact g1)
  have afr:((all.take i++c::all.drop (i+1)).map Cx.r).Nodup:=by rw[<-hdr pM,xbr];exact fc
  obtain⟨hTn,hT6⟩:=hT5.As tb YZ ji afr Xl Xk g0' g1' (P':=kf (all.take (i+1))) (λs _=>by
   rw[nv pM,MX,eu ⟨y,t0,t1⟩];have Wy:(if t0=s then 1 else 0)=(if s=t0 then 1 else 0:Nat):=by split<;>split<;>first|rfl|(exfalso;omega)
   have e2':(if t1=s then 1 else 0)=(if s=t1 then 1 else 0:Nat):=by split<;>split<;>first|rfl|(exfalso;omega)
   simp only[Wy,e2'];omega)
  have RJ:∀{t:Nat},ym K K5 (lv ah) x l t->live K5.N t:=λhk=>hT5.rB tb YZ hk;have Zm:∃e,K5.N c.r=some e:=hT5.kept A7;refine Build.mk (cs:=bu ⟨y,t0,t1⟩) zK λb83 _=>?_;refine St.p (λz hz=>by simp[bu,u32]at hz;rcases hz with rfl|rfl|rfl<;>rfl) ?_;obtain⟨b5,rfl,hO5⟩:=Lv;refine DR.self (Nil.ptr (ai.mk (Ld.f ?_)));refine Ld.f ?_;refine ay.q ?_;have YI:y<K5.n:=by rw[hT5.n];exact nb.yn
  refine aa.fq (WJ (d:=⟨y,t0,t1⟩) hO5.ar ⟨by show y<64;have:=hO5.lB;omega,RJ Xl,RJ Xk⟩ Zm (tb.ok.mid.two A7).1) ?_;rintro w CA' ⟨rfl,har⟩;refine DR.self (Nil.ptr (ai.mk (Ld.f ?_)));refine ay.q ?_;refine Ld.f ?_;refine aa.fq (KB (d:=⟨y,t0,t1⟩) (r:=c.r) hO5.ut YI hTn) ?_;rintro w CT' ⟨rfl,YK⟩;refine ae.inc (aC.of (.skip .tail) ⟨i+1,{K5 with N:=up K5.N c.r (some ⟨y,t0,t1⟩),T:=qI K5.T ⟨y,t0,t1⟩ (some c.r)},S4,_,rfl,rfl,by omega,⟨{b5 with CA:=CA',CT:=CT'},rfl,{hO5 with ar:=har,ut:=YK}⟩,by rw[nv pM]at hT6⊢;exact hT6,λt Sr hp=>?_,λs hs=>?_,λr d YS hrd=>?_⟩ (by simp[bJ];omega))
  ·obtain⟨c',oY,kJ⟩:=CC hp;have af1:=YZ c' oY;have R6:=(tb.ob af1).1;have hlv:live K.N t:=by
    rcases kJ with rfl|rfl
    ·exact tb.ok.mid.lo R6
    exact tb.ok.mid.hi R6
   rcases hlv with hlv|⟨d,hd⟩
   ·omega
   exact hT6.kept hd
  ·have hs':up K5.N c.r (some ⟨y,t0,t1⟩) s=none:=hs;have hne:s≠c.r:=λe=>by subst e;rw[aP]at hs';cases hs'
   rw[aS hne]at hs';exact afH s hs'
  have YP:up K5.N c.r (some ⟨y,t0,t1⟩) r=some d:=hrd;have hne:r≠c.r:=λe=>by rw[e,A7]at YS;cases YS
  rw[aS hne,hN5]at YP;have Pv:2<=r:=(hT4.mid.two YP).1;show 0<K5.use r;rcases aeM r d YP with e|⟨h3,hu3⟩
  ·rw[e]at Pv⊢;exact abG Pv
  rw[hN3]at h3;have h5:=ae9 r;rcases aeN r d h3 with e|⟨h1,F0⟩
  ·rw[e]at Pv⊢h5 hu3;have:=abH Pv;omega
  have:=Xw r d YS h1;have:=afa r;omega
 have hi':i=all.length:=by omega
 subst hi';rw[xba,xet]at ND;rw[xba]at Wc;have uF:=PO tb ND Xw;refine aI.bP ?_;rw[xav];refine⟨λvs H=>∃(i:Nat) (K2:Kd) (C2:Hp),vs=[iv (i:Int)]/\H=Na++C2/\i<=all.length/\cS kp K2 ord ah tr C2/\jO K2 S1 iP (kf (all.drop i))/\Pos K2/\PL (kf (all.drop i)) K2.N/\yl K2 K1,
  λvs _=>all.length-bJ vs 0,JE.mk ⟨0,K1,C1,rfl,rfl,xaM _,eW,ND.mid.congr (λs=>by simp[iP]) (λ_ _=>rfl),uF,Wc,.refl K1⟩,?_⟩
 clear eW Wc hi Nx C1;rintro w H ⟨i,K2,C2,hw,rfl,hi,dm,Lu,lY,Wb,dU⟩ gs;simp only[xau,xa1]at hw;subst hw;refine ae.eZ (Br.dec (λhlt=>?_) (λNx=>?_))
 ·obtain⟨c,pM⟩:∃c,all[i]? =some c:=⟨_,xaa hlt⟩;have Gd:c∈all:=xax pM;obtain⟨A7,aci,hce⟩:=tb.ob Gd;have hPb:∀s,kf (all.drop i) s<=2097152:=λs=>by have:=AM s (all.drop i);rw[List.length_drop]at this;omega
  have hlo:=h0.lt (hok.mid.lo A7);have hhi:=h0.lt (hok.mid.hi A7);refine aI.Lh (r:=mu c) (by rw[xat,pM];rfl) (λz hz=>xad _ hz) ?_;intro alU _;refine St.p (l9 _) ?_;refine DR.self (Nil.ptr (ai.mk (ai.mk (Ld.f ?_))));have F6:Idle K2:=dU.idle RP;have hub:∀s,K2.use s<2147483648:=λs=>by have:=uT Lu F6 hPb s;omega
  rw[hdr pM,QJ]at Lu Wb;refine aa.fq (mH dm Lu lY Wb hlo hub) ?_;rintro w C3 ⟨rfl,K3,kj,Wd,TV,Zw,RL⟩;refine DR.self (Nil.ptr (ai.mk (ai.mk (Ld.f ?_))));refine aa.fq (mH kj Wd TV Zw hhi (λs=>xaA (RL.us s) (hub s))) ?_;rintro w C4 ⟨rfl,K4,NH,hM4,hp4,Zv,Y6⟩;exact ae.inc (aC.of .tail ⟨i+1,K4,C4,rfl,rfl,by omega,NH,hM4,hp4,Zv,Y6.trans (RL.trans dU)⟩ (by simp[bJ];omega))
 have hi':i=all.length:=by omega
 subst hi';rw[xet]at Lu;have F6:Idle K2:=dU.idle RP;obtain⟨f1,f2,f3⟩:=ND.fin tb (K':=K2) (Lu.congr (λ_=>xcT) (λ_ _=>rfl)) lY (λh=>dU.N h) dU.n (λr=>by show K2.ho.getD r 0=K1.ho.getD r 0;rw[dU.ho]);have VO:K2.n=K.n:=by rw[dU.n,ND.n]
 obtain⟨b2,rfl,hO2⟩:=dm;refine DR.self (Ld.n ?_);refine Ld.n ?_;refine ae.inc (hO2.od.nt (x:=(y:Int)) (.app (.cons (.app (.app (.app (.app .left)))))) (by rw[aq];omega) λCO1 x6=>?_);refine x6.nt (x:=(x:Int)) (.app (.cons (.app (.app (.app (.app .left)))))) (by rw[xbQ,aq];omega) λCO2 tD=>?_;refine DR.self (Ld.n ?_);refine Ld.n ?_;refine ae.inc ?_;have ni:=hO2.ol.2;have hxn:=nb.xn;have YI:=nb.yn;refine hO2.lv.nt (x:=((l+1:Nat):Int)) (.app (.cons (.app (.app (.app (.app (.app .left))))))) (by rw[aq];omega) λCL1 Dz=>?_;refine Dz.nt (x:=(l:Int)) (.app (.cons (.app (.app (.app (.app (.app .left))))))) (by rw[xbQ,aq];omega) λCL2 qK=>?_;rw[fi,fi]at tD qK;have BI:(ord.set l y).set (l+1) x=fR ord l:=by rw[hx,hy];rfl
 rw[BI]at tD;have hlv:lv ((ah.set x (l+1)).set y l)=tZ (lv ah) x y l:=Yu nb.ne zO zO;refine aM.mk .right (.inl ⟨by omega,rfl,K2,S1,_,⟨{b2 with CO:=CO2,CL:=CL2},rfl,{hO2 with od:=tD,lv:=qK,ol:=?_}⟩,by rw[hlv];exact f1,by rw[hlv,VO,hx,hy];exact Ur ho hl,F6,VO,by rw[dU.cap,ND.cap],λr=>?_,f2,f3⟩)
 ·rw[mF];simp;exact hO2.ol
 show K2.ho.getD r 0=K.hold r;rw[dU.ho];exact ND.hold r
end
structure cc(kp:Nat)(K:Kd)(S:Nat->aA.Fn)(ord ah tr:zL)(C:Hp):Prop where
 rep:cS kp K ord ah tr C
 ok:Ok K S (lv ah)
 od:Ord K.n (lv ah) ord
 idle:Idle K
 tr:yh K.n K.cap (K.held S) ord tr.reverse
theorem Kept.refl(K:Kd)(S:Nat->aA.Fn):Kept K S K S:=⟨rfl,rfl,λ_=>rfl,λ_=>xcT,λ_ _=>rfl⟩
theorem Kept.trans{K K' K2:Kd}{S S' S2:Nat->aA.Fn}(h:Kept K S K' S')(h':Kept K' S' K2 S2):Kept K S K2 S2:=
 ⟨h'.n.trans h.n,h'.cap.trans h.cap,λr=>(h'.hold r).trans (h.hold r),λg=>(h'.held g).trans (h.held g),λr hr=>(h'.fn r (by rw[h.hold];exact hr)).trans (h.fn r hr)⟩
section
variable {kp:Nat} {K:Kd} {ord ah tr:zL} {C:Hp} {S:Nat->aA.Fn}
theorem SF(h:cc kp K S ord ah tr C){l:Int}(hl:¬(0<=l/\l+1<K.n)):Rd zQ 151 #[ptr kp,iv l] C (· =iv 1):=by
 obtain⟨b,rfl,hO⟩:=h.rep;have hn:=hO.lB;refine aE λg=>xG (ae.aH (Br.no (ae.lss (dc.or (decide ((K.n:Int) -2<l)) (λ_=>?_) zI λgs=>?_))))
 ·refine Ld.n ?_;exact ae.lj (c:=(K.n:Int) -2) rfl zO (ae.gtr ⟨rfl,rfl⟩)
 rw[<-xa7];exact Br.T (bg.mk (.refl _) rfl)
theorem LF(h:cc kp K S ord ah tr C){l:Nat}(hl:l+1<K.n)(eM:tr.length<17592186044416):Fc zQ 151 #[ptr kp,iv (l:Int)] C (λr C'=>
   (BD K.n ord l (K.held S)+2<=K.cap/\r=iv 0/\∃K' S' bW,cc kp K' S' (fR ord l) bW (tr++[l]) C'/\Kept K S K' S')\/
   (K.cap<BD K.n ord l (K.held S)+2/\r=iv 9/\C'=C)):=by
 have h0:=h;obtain⟨b,hC,hO⟩:=h.rep;have hn:=hO.lB;refine aE λg=>xG (ae.aH (Br.no (ae.lss (dc.or (decide ((K.n:Int) -2<l)) (λ_=>?_) zI λgs=>?_))))
 ·refine Ld.v (by rw[hC];exact .head _) ?_;exact ae.lj (c:=(K.n:Int) -2) rfl zO (ae.gtr ⟨rfl,rfl⟩)
 rw[<-xa7];refine Br.F (aa.fq (KC h.rep h.ok h.od h.idle hl) ?_);rintro w C' (⟨hfit,rfl,K',S',bW,dh,A3,YX,wh,rF⟩|⟨hno,rfl,rfl⟩)
 ·refine Un.not (Br.no ?_);obtain⟨b',rfl,ya⟩:=dh;refine Ld.n ?_;refine au.int (e:=3) zK zK zK λbx=>?_;refine ya.tr.pC (.cons (.cons (.app (.app (.app (.app (.app (.app .here)))))))) (by exact .head _) (by rw[aq];omega) (by rw[aq];omega) λv' CR' cv=>?_;refine Nil.ptr (ai.mk (St.one (by exact .tail (.head _)) cv.one (by simp[uz.cells]) rfl ?_));refine aM.mk .tail (.inl ⟨hfit,rfl,K',S',bW,⟨⟨{b' with vt:=v',CR:=CR'},rfl,{ya with tr:=by rw[cg];exact cv}⟩,A3,YX,wh,?_⟩,rF⟩);rw[rF.n,rF.cap];exact(yh.agL hO.ol.1 hl hfit h.tr).congr λg=>(rF.held g).symm
 exact Un.not (Br.yes (aM.here (.inr ⟨hno,rfl,rfl⟩)))
theorem Uk{l:Nat}(h:cc kp K S ord ah (tr++[l]) C)(eM:tr.length<17592186044416):Fc zQ 338 #[ptr kp] C (λr C'=>
   r=.tuple #[iv (l:Int),iv 0]/\l+1<K.n/\∃K' S' bW,cc kp K' S' (fR ord l) bW tr C'/\Kept K S K' S'):=by
 have h0:=h;obtain⟨b,hC,hO⟩:=h.rep;have hn:=hO.lB;have Ds:=h.tr;rw[List.reverse_append]at Ds;obtain⟨hl,hfit,ug⟩:l+1<K.n/\BD K.n ord l (K.held S)+2<=K.cap/\yh K.n K.cap (K.held S) (fR ord l) tr.reverse:=Ds;have hmk:(kp,Obj.cells (b.cells K.n) 141 zZ)∈C:=by rw[hC];exact .head _
 refine aE λg=>HQ (ae.aH (dc.or false (λ_=>?_) rfl λgs=>Br.no ?_))
 ·refine Ld.v hmk ?_;refine hO.tr.bP (ae.ik ⟨rfl,?_⟩);rw[xal];rw[aq,xaf];simp;omega
 refine Ld.v hmk ?_;refine hO.tr.bP ?_;rw[aq,xaf];refine ae.bY (a:=tr.length+1) (b:=1) ?_;rw[xb5];refine Ld.v hmk ?_;refine hO.tr.ld (i:=tr.length) (x:=(l:Int)) (by rw[cg];simp[iw]) (by rw[hC];exact bG.sub (.cons (.app (.app (.app (.app (.app (.app .here)))))))) (aa.fq (KC h.rep h.ok h.od h.idle hl) ?_);rintro w C' (⟨_,rfl,K',S',bW,dh,A3,YX,wh,rF⟩|⟨hno,rfl,rfl⟩);rotate_left
 ·omega
 obtain⟨b',rfl,ya⟩:=dh;refine Ld.n ?_;refine ya.tr.cut (i:=tr.length) (by rw[aq];simp) λv' nX=>?_;refine Nil.ptr (ai.mk (St.one (by exact .head _) nX.one (by simp[uz.cells]) rfl ?_));refine aM.here ⟨rfl,hl,K',S',bW,⟨⟨{b' with vt:=v'},rfl,{ya with tr:=by rw[cg,xey zI]at nX;exact nX}⟩,A3,YX,wh,?_⟩,rF⟩;rw[rF.n,rF.cap];exact ug.congr λg=>(rF.held g).symm
theorem cc.bL(h:cc kp K S ord ah tr C){r:Nat}(hl:live K.N r):r<1048576:=h.rep.lt hl
theorem cc.gg(h:cc kp K S ord ah tr C)(r:Nat):K.hold r<=65535:=h.ok.mid.mx r
theorem cc.EX(h:cc kp K S ord ah tr C)(r:Nat):K.use r<=2097153:=by have:=uT h.ok.mid h.idle (M:=0) (λ_=>xaj _) r;omega
structure WV(K K':Kd)(r:Nat):Prop where
 n:K'.n=K.n
 cap:K'.cap=K.cap
 used:K'.used=K.used
 N:K'.N=K.N
 hold:∀s,K'.hold s=if s=r/\2<=r then K.hold s+1 else K.hold s
theorem oW(h:cc kp K S ord ah tr C){r:Nat}(hl:live K.N r)(h2:2<=r)(hf:K.hold r=65535):Rd zQ 141 #[ptr kp,u32 r] C (· =iv 8):=by
 have hr:=h.bL hl;obtain⟨b,hC,hO⟩:=h.rep;have hfit:r<K.ho.length:=by
  rcases hl with hl|⟨d,hd⟩
  ·omega
  rw[<-hO.ul.1];exact h.ok.mid.fit hd
 refine aE λg=>xJ (ae.aH (Br.no (Nil.ptr (ai.mk (aa.eq (nW h.rep zO) ?_)))));rw[bX.2 hl];refine Un.not (Br.no λJ7 _=>(ae.ny (b:=1) (Br.T (Nil.ptr (ai.mk (Ld.u (by rw[hC];exact .head _) ?_))))));refine hO.ho.ld (x:=((K.hold r:Nat):Int)) (bH hfit) (by rw[hC];exact bG.sub (.cons (.app (.app (.app .left))))) ?_;rw[hf];exact ae.ik (Br.T (bg.mk (.refl _) rfl))
theorem Dm(h:cS kp K ord ah tr C)(hM0:jO K S iP zero')(VV:Idle K){r:Nat}(hl:live K.N r)(hf:2<=r->K.hold r<65535):Fc zQ 141 #[ptr kp,u32 r] C (λv C'=>v=iv 0/\∃K',cS kp K' ord ah [] C'/\
  jO K' S iP zero'/\Idle K'/\WV K K' r/\(∀s,K.use s<=K'.use s)/\(2<=r->0<K'.use r)):=by
 have hr:=h.lt hl;have h0:=h;obtain⟨b,hC,hO⟩:=h;refine aE λg=>xJ (ae.aH (Br.no (Nil.ptr (ai.mk (aa.eq (nW h0 zO) ?_)))));rw[bX.2 hl];refine Un.not (Br.no λJ7 hJ7=>?_);have fin:∀(K':Kd) C1,cS kp K' ord ah tr C1->jO K' S iP zero'->Idle K'->WV K K' r->(∀s,K.use s<=K'.use s)->(2<=r->0<K'.use r)->J7 [] C1:=λK' C1 dh A3 wh hm hu hp=>by
  refine hJ7 _ λgs=>?_;obtain⟨b',rfl,ya⟩:=dh;refine Nil.ptr (ai.mk (St.one (by exact .head _) rfl (by simp[uz.cells]) rfl ?_));refine aM.mk (nD:=({b' with vt:=.slice none 0 0,CR:=[]}:uz).hp kp K'.n) ?_ ⟨rfl,K',⟨{b' with vt:=.slice none 0 0,CR:=[]},rfl,{ya with tr:=aO.nil}⟩,A3,wh,hm,hu,hp⟩;refine .cons (.cU (.cU (.cU (.cU (.cU (.cU .nil _) _) _) _) _) _)
 refine ae.ny (b:=1) (Br.dec (λh2=>?_) (λh2=>?_));rotate_left
 ·refine JE.mk (fin K C h0 hM0 VV ⟨rfl,rfl,rfl,rfl,λs=>?_⟩ (λ_=>xaj _) (λh=>by omega));rw[xac zO]
 have oZ:2<=r:=by omega
 have RU:=hf oZ;obtain⟨d,hd⟩:∃d,K.N r=some d:=by
  rcases hl with hl|hl
  ·omega
  exact hl
 have hfu:=hM0.fit hd;have Np:=hO.ul;have hfit:r<K.ho.length:=by omega
 subst hC;refine Nil.ptr (ai.mk (Ld.f ?_));refine hO.ho.ld (x:=((K.hold r:Nat):Int)) (bH hfit) (bG.sub (.cons (.app (.app (.app .left))))) (ae.ik (Br.F (Nil.ptr (ai.mk (Ld.f ?_)))));refine hO.ho.ld (x:=((K.hold r:Nat):Int)) (bH hfit) (bG.sub (.cons (.app (.app (.app .left))))) (ae.inc (hO.ho.nt (x:=((K.hold r+1:Nat):Int)) (.cons (.app (.app (.app .left)))) (by rw[aq];exact hfit) λTO pL=>?_));rw[fi]at pL;have g1:∀s,(K.ho.set r (K.hold r+1)).getD s 0=if s=r then K.hold r+1 else K.hold s:=λs=>gQ hfit
 refine Nil.ptr (ai.mk (Ld.f ?_));refine pL.ld (x:=((K.hold r+1:Nat):Int)) (by rw[bH (by simpa using hfit),g1,xae rfl]) (bG.sub (.cons (.app (.app (.app .left))))) ?_;refine ae.eR (b:=1) (Br.dec (λh3=>?_) (λh3=>?_))
 ·refine Nil.ptr (ai.mk (Ld.f ?_));refine hO.us.ld (x:=((K.use r:Nat):Int)) (bH hfu) (bG.sub (.cons (.app (.app .left)))) ?_;have hub:=uT hM0 VV (M:=0) (λ_=>xaj _) r;refine ae.inc (hO.us.nt (x:=((K.use r+1:Nat):Int)) (.cons (.app (.app .left))) (by rw[aq];exact hfu) λUa A1=>?_);rw[fi]at A1;have g2:∀s,(K.us.set r (K.use r+1)).getD s 0=if s=r then K.use r+1 else K.use s:=λs=>gQ hfu
  have hM:=hM0.keep (r:=r) (dz:=K.us.set r (K.use r+1)) (cv:=K.ho.set r (K.hold r+1)) ⟨d,hd⟩ RU zI (by rw[g1,xae rfl]) (λs hs=>by rw[g1,xac hs]) (by rw[g2,xae rfl,xae zO]) (λs hs=>by rw[g2,xac hs]);refine JE.mk (fin {K with us:=K.us.set r (K.use r+1),ho:=K.ho.set r (K.hold r+1)} _ ⟨{b with CU:=Ua,CH:=TO},rfl,{hO with us:=A1,ho:=pL,ul:=by simp;exact Np}⟩ hM (λs hs=>?_) ⟨rfl,rfl,rfl,rfl,λs=>?_⟩ (λs=>?_) (λ_=>?_))
  ·show(K.us.set r (K.use r+1)).getD s 0=0;have hs':K.N s=none:=hs;rw[g2,xac (λe=>by rw[e,hd]at hs';cases hs')];exact VV s hs'
  ·show(K.ho.set r (K.hold r+1)).getD s 0=_;rw[g1];by_cases e:s=r
   ·subst e;rw[xae rfl,xae ⟨rfl,oZ⟩]
   rw[xac e,xac (λh=>e h.1)]
  ·show K.use s<=(K.us.set r (K.use r+1)).getD s 0;rw[g2];split
   ·rename_i e;subst e;omega
   exact xaj _
  show 0<(K.us.set r (K.use r+1)).getD r 0;rw[g2,xae rfl];omega
 have hM:=hM0.keep (r:=r) (dz:=K.us) (cv:=K.ho.set r (K.hold r+1)) ⟨d,hd⟩ RU zI (by rw[g1,xae rfl]) (λs hs=>by rw[g1,xac hs]) (by show K.use r=_;rw[xac zO];rfl) (λs hs=>rfl);refine JE.mk (fin {K with ho:=K.ho.set r (K.hold r+1)} _ ⟨{b with CH:=TO},rfl,{hO with ho:=pL,ul:=by simp;exact Np}⟩ hM VV ⟨rfl,rfl,rfl,rfl,λs=>?_⟩ (λ_=>xaj _) (λ_=>?_));rotate_left
 ·show 0<K.use r;rw[hM0.use hd,xac zO];omega
 show(K.ho.set r (K.hold r+1)).getD s 0=_;rw[g1];by_cases e:s=r
 ·subst e;rw[xae rfl,xae ⟨rfl,oZ⟩]
 rw[xac e,xac (λh=>e h.1)]
theorem mQ(h:cc kp K S ord ah tr C){r:Nat}(hl:live K.N r)(hf:2<=r->K.hold r<65535):Fc zQ 141 #[ptr kp,u32 r] C (λv C'=>v=iv 0/\∃K',cc kp K' S ord ah [] C'/\WV K K' r):=by
 refine(Dm h.rep h.ok.mid h.idle hl hf).mono ?_;rintro v C' ⟨rfl,K',dh,Zz,wh,hm,hu,hp⟩;refine⟨rfl,K',⟨dh,⟨Zz,λs d hs=>?_,by rw[hm.n];exact h.ok.lv,by rw[hm.n,hm.N];exact h.ok.wf⟩,by rw[hm.n];exact h.od,wh,trivial⟩,hm⟩;rw[hm.N]at hs;exact xaP (h.ok.pos s d hs) (hu s)
end
section
variable {kp:Nat} {K:Kd} {ord ah tr:zL} {C:Hp} {S:Nat->aA.Fn}
theorem Lg{K':Kd}{P:Nat->Nat}(hw:WF K.n (lv ah) K.N)(hM:jO K' S iP P)(hN:∀{s d},K'.N s=some d->K.N s=some d)(hn:K'.n=K.n):WF K'.n (lv ah) K'.N:=by
 have same:∀{t},live K'.N t->dep K'.n (lv ah) K'.N t=dep K.n (lv ah) K.N t:=λ{t} ht=>by
  cases e:K'.N t with
  |some f=>rw[an e,an (hN e)]
  |none=>
   have RA:t<2:=by
    rcases ht with ht|⟨f,hf⟩
    ·exact ht
    rw[e]at hf;cases hf
   rw[aU e,aU (hw.const RA),hn]
 refine hM.wf λ{s d} hs=>?_;rw[same (hM.lo hs),same (hM.hi hs)];exact⟨(hw.lo (hN hs)).2,(hw.hi (hN hs)).2⟩
structure Ao(K K':Kd)(r:Nat):Prop where
 n:K'.n=K.n
 cap:K'.cap=K.cap
 N:∀s d,K'.N s=some d->K.N s=some d
 hold:∀s,K'.hold s=if s=r/\2<=r then K.hold s-1 else K.hold s
theorem ada(h:cc kp K S ord ah tr C){r:Nat}(hr:r<4294967296)(h2:2<=r)(h0:K.hold r=0):Rd zQ 142 #[ptr kp,u32 r] C (· =iv 3):=by
 refine aE λg=>xI (ae.aH (Br.no ?_));intro J2 _;refine ae.ny (b:=1) (Br.T (aa.eq (vX h.rep hr (λs=>by have:=h.gg s;omega)) ?_));rw[h0];exact ae.ik (Br.T (bg.mk (.refl _) rfl))
theorem mY(h:cc kp K S ord ah tr C){r:Nat}(hr:r<4294967296)(hh:2<=r->K.hold r≠0):Fc zQ 142 #[ptr kp,u32 r] C (λv C'=>v=iv 0/\∃K',cc kp K' S ord ah [] C'/\Ao K K' r):=by
 have h0:=h;obtain⟨b,hC,hO⟩:=h.rep;refine aE λg=>xI (ae.aH (Br.no ?_));intro J2 BQ;have fin:∀(K':Kd) C1,cS kp K' ord ah tr C1->Ok K' S (lv ah)->Idle K'->Ao K K' r->J2 [] C1:=λK' C1 dh A3 wh hm=>by
  refine BQ _ λgs=>?_;obtain⟨b',rfl,ya⟩:=dh;refine Nil.ptr (ai.mk (St.one (by exact .head _) rfl (by simp[uz.cells]) rfl ?_));have mU:Ord K'.n (lv ah) ord:=by rw[hm.n];exact h.od
  refine aM.mk (nD:=({b' with vt:=.slice none 0 0,CR:=[]}:uz).hp kp K'.n) ?_ ⟨rfl,K',⟨⟨{b' with vt:=.slice none 0 0,CR:=[]},rfl,{ya with tr:=aO.nil}⟩,A3,mU,wh,trivial⟩,hm⟩;refine .cons (.cU (.cU (.cU (.cU (.cU (.cU .nil _) _) _) _) _) _)
 refine ae.ny (b:=1) (Br.dec (λh2=>?_) (λh2=>?_));rotate_left
 ·exact JE.mk (fin K C h.rep h.ok h.idle ⟨rfl,rfl,λ_ _ h=>h,λs=>by rw[xac zO]⟩)
 have oZ:2<=r:=by omega
 have pL:=hh oZ;obtain⟨d,hd⟩:=h.ok.mid.held r pL;have hfu:=h.ok.mid.fit hd;have Np:=hO.ul;have hfit:r<K.ho.length:=by omega
 have hle:=h.gg r;refine aa.eq (vX h.rep hr (λs=>by have:=h.gg s;omega)) (ae.ik (Br.F ?_));subst hC;refine Nil.ptr (ai.mk (Ld.f ?_));refine hO.ho.ld (x:=((K.hold r:Nat):Int)) (bH hfit) (bG.sub (.cons (.app (.app (.app .left))))) (ae.bY (b:=1) (hO.ho.nt (x:=((K.hold r-1:Nat):Int)) (.cons (.app (.app (.app .left)))) (by rw[aq];exact hfit) λTO Zg=>?_));rw[fi]at Zg;have g1:∀s,(K.ho.set r (K.hold r-1)).getD s 0=if s=r then K.hold r-1 else K.hold s:=λs=>gQ hfit
 have hM:=h.ok.mid.drop (r:=r) (cv:=K.ho.set r (K.hold r-1)) zO zI (by rw[g1,xae rfl];omega) (λs hs=>by rw[g1,xac hs]);have eW:cS kp {K with ho:=K.ho.set r (K.hold r-1)} ord ah tr (({b with CH:=TO}:uz).hp kp K.n):=⟨_,rfl,{hO with ho:=Zg,ul:=by simp;exact Np}⟩;have hho:∀s,(K.ho.set r (K.hold r-1)).getD s 0=if s=r/\2<=r then K.hold s-1 else K.hold s:=λs=>by
  rw[g1];by_cases e:s=r
  ·subst e;rw[xae rfl,xae ⟨rfl,oZ⟩]
  rw[xac e,xac (λh=>e h.1)]
 refine Nil.ptr (ai.mk (Ld.f ?_));refine Zg.ld (x:=((K.hold r-1:Nat):Int)) (by rw[bH (by simpa using hfit),g1,xae rfl]) (bG.sub (.cons (.app (.app (.app .left))))) (ae.eR (b:=0) (Br.dec (λh3=>?_) (λh3=>?_)));rotate_left
 ·rw[xac zO]at hM;exact JE.mk (fin {K with ho:=K.ho.set r (K.hold r-1)} _ eW ⟨hM,h.ok.pos,h.ok.lv,h.ok.wf⟩ h.idle ⟨rfl,rfl,λ_ _ h=>h,hho⟩)
 rw[xae zO]at hM;refine Nil.ptr (ai.mk ?_);have Lu:jO {K with ho:=K.ho.set r (K.hold r-1)} S iP (gU zero' [r]):=hM.congr (λ_=>xcT) λs _=>by
  unfold up gU zero';by_cases e:s=r
  ·subst e;simp
  simp[e,xa9 e]
 refine aa.fq (mH (P0:=zero') eW Lu h.ok.pos (λt Sr h0=>?_) (h.bL (.inr ⟨d,hd⟩)) (λs=>by have:=h.EX s;show K.use s<_;omega)) ?_
 ·by_cases e:t=r
  ·subst e;exact⟨d,hd⟩
  have h0':0<zero' t+[r].count t:=h0;simp[zero',xa9 e]at h0'
 rintro w C2 ⟨rfl,K2,dm,Wd,TV,_,dU⟩;refine JE.mk (fin K2 _ dm ⟨Wd,TV,by rw[dU.n];exact h.ok.lv,Lg h.ok.wf Wd (λh=>dU.N h) dU.n⟩ (dU.idle h.idle) ⟨dU.n,dU.cap,λs e hs=>dU.N hs,λs=>?_⟩);show K2.ho.getD s 0=_;rw[dU.ho];exact hho s
structure pT(K:Kd)(S:Nat->aA.Fn)(K':Kd)(S':Nat->aA.Fn)(f:aA.Fn)(r:Nat):Prop where
 n:K'.n=K.n
 cap:K'.cap=K.cap
 used:K'.used<=K.used+1
 N:∀s d,K.N s=some d->K'.N s=some d
 fn:∀s,live K.N s->S' s=S s
 live:live K'.N r
 is:S' r=f
 hold:∀s,K'.hold s=if s=r/\2<=r then K.hold s+1 else K.hold s
theorem AT(h:cc kp K S ord ah tr C){v lo hi:Nat}(hv:v<K.n)(hlo:live K.N lo)(hhi:live K.N hi)(hlt:lo=hi\/(lv ah v<dep K.n (lv ah) K.N lo/\lv ah v<dep K.n (lv ah) K.N hi)):
  Fc zQ 175 #[ptr kp,iv (v:Int),u32 lo,u32 hi] C (λw C'=>
   (∃r K' S',w=.tuple #[u32 r,iv 0]/\cc kp K' S' ord ah [] C'/\pT K S K' S' (ite S ⟨v,lo,hi⟩) r)\/
   (∃r,w=.tuple #[u32 0,iv 8]/\C'=C/\live K.N r/\2<=r/\K.hold r=65535/\S r=ite S ⟨v,lo,hi⟩)\/
   (w=.tuple #[u32 0,iv 9]/\C'=C/\K.cap<=K.used/\lo≠hi/\K.T ⟨v,lo,hi⟩=none)):=by
 have h0:=h;have afA:=h.bL hlo;have afK:=h.bL hhi;have Dz:=bX.2 hlo;have qK:=bX.2 hhi;have hfe:pQ K ah (v:Int) lo hi=0:=by
  unfold pQ;rw[xac zO,xac (by rw[Dz,qK];simp),xac];rintro⟨hne,hmin⟩;rcases hlt with e|⟨a,b⟩
  ·exact hne e
  simp only[xbe,lv]at hmin a b;omega
 refine aE λg=>JL (ae.aH (Br.no (aa.eq (LD h.rep (v:Int) zO zO (λr d hd=>⟨h.ok.mid.var hd,(h.ok.mid.two hd).1⟩)) ?_)));rw[hfe];refine ae.cL (Br.F (aa.rq (KL h.rep (lo:=lo) (hi:=hi) hv) ?_));rintro w hw;have there:∀(J9:List zV->Hp->Prop),(∀w12:zV,∀H11:Hp,(∀alv:Fr,aa zQ g 141 #[ptr kp,w12] H11 (λv13 H14=>ae .num .neq v13 (Value.int .i64 0) λv15=>Br v15
   (aM (λw C'=>(∃r K' S',w=.tuple #[u32 r,iv 0]/\cc kp K' S' ord ah [] C'/\pT K S K' S' (ite S ⟨v,lo,hi⟩) r)\/
   (∃r,w=.tuple #[u32 0,iv 8]/\C'=C/\live K.N r/\2<=r/\K.hold r=65535/\S r=ite S ⟨v,lo,hi⟩)\/
   (w=.tuple #[u32 0,iv 9]/\C'=C/\K.cap<=K.used/\lo≠hi/\K.T ⟨v,lo,hi⟩=none)) (.returned (.tuple #[(Value.int .u32 0),v13])) H14) (aM (λw C'=>(∃r K' S',w=.tuple #[u32 r,iv 0]/\cc kp K' S' ord ah [] C'/\pT K S K' S' (ite S ⟨v,lo,hi⟩) r)\/
   (∃r,w=.tuple #[u32 0,iv 8]/\C'=C/\live K.N r/\2<=r/\K.hold r=65535/\S r=ite S ⟨v,lo,hi⟩)\/
   (w=.tuple #[u32 0,iv 9]/\C'=C/\K.cap<=K.used/\lo≠hi/\K.T ⟨v,lo,hi⟩=none)) (.returned (.tuple #[w12,(Value.int .i64 0)])) H14)) (dg (aM (λw C'=>(∃r K' S',w=.tuple #[u32 r,iv 0]/\cc kp K' S' ord ah [] C'/\pT K S K' S' (ite S ⟨v,lo,hi⟩) r)\/
   (∃r,w=.tuple #[u32 0,iv 8]/\C'=C/\live K.N r/\2<=r/\K.hold r=65535/\S r=ite S ⟨v,lo,hi⟩)\/
   (w=.tuple #[u32 0,iv 9]/\C'=C/\K.cap<=K.used/\lo≠hi/\K.T ⟨v,lo,hi⟩=none)))))->J9 [w12] H11)->
   ∀r,live K.N r->S r=ite S ⟨v,lo,hi⟩->J9 [u32 r] C:=λJ9 Sp r hr hS=>by
  refine Sp _ _ λgs=>?_;by_cases hf:2<=r/\K.hold r=65535
  ·exact aa.eq (oW h hr hf.1 hf.2) (ae.cL (Br.T (aM.here (.inr (.inl ⟨r,rfl,rfl,hr,hf.1,hf.2,hS⟩)))))
  refine aa.fq (mQ h hr (λh2=>by have:=h.gg r;omega)) ?_;rintro w C' ⟨rfl,K',dh,hm⟩;refine ae.cL (Br.F (aM.here (.inl ⟨r,K',S,rfl,dh,⟨hm.n,hm.cap,by rw[hm.used];omega,λs d hs=>by rw[hm.N];exact hs,λ_ _=>rfl,by rw[hm.N];exact hr,hS,hm.hold⟩⟩)))
 by_cases he:lo=hi
 ·rw[xae he]at hw;subst hw;refine Ext.two λJ9 Sp=>(Un.not (Br.no (JE.mk (there J9 Sp lo hlo ?_))))
  funext z
  unfold aA.ite;simp[he]
 rw[xac he]at hw;have fk:lv ah v<dep K.n (lv ah) K.N lo/\lv ah v<dep K.n (lv ah) K.N hi:=by
  rcases hlt with e|e
  ·exact absurd e he
  exact e
 obtain⟨o,ho⟩:∃o,o=K.T ⟨v,lo,hi⟩:=⟨_,rfl⟩;cases o with
 |some r=>
  have hT:K.T ⟨v,lo,hi⟩=some r:=ho.symm;rw[hT]at hw;subst hw;refine Ext.two λJ9 Sp=>?_;have hN:=((h.ok.mid.j9 _ r).1 hT).1;refine Un.not (Br.no (JE.mk (there J9 Sp r (.inr ⟨_,hN⟩) ?_)))
  funext z
  rw[h.ok.mid.int.node hN];rfl
 |none=>
  have hT:K.T ⟨v,lo,hi⟩=none:=ho.symm;rw[hT]at hw;subst hw;refine Ext.two λJ9 Sp=>(Un.not (Br.yes (Nil.ptr (ai.mk ?_))));have hcap:=h.ok.mid.cap;refine aa.eq (Dk h.rep (m:=1) zO zO) (Un.not ?_);by_cases hroom:K.used+1<=K.cap;rotate_left
  ·rw[xal hroom];exact Br.yes (aM.here (.inr (.inr ⟨rfl,rfl,by omega,he,hT⟩)))
  rw[xan hroom];refine Br.no (Nil.ptr (ai.mk (Build.mk (cs:=bu ⟨v,lo,hi⟩) zK ?_)));have hfit:∀{t:Nat},live K.N t->t<2\/t<K.us.length:=λht'=>by
   rcases ht' with ht'|⟨d,dN⟩
   ·exact .inl ht'
   exact .inr (h.ok.mid.fit dN)
  have sL:K.n<=64:=by obtain⟨_,_,hO⟩:=h.rep;exact hO.lB
  refine aa.fq (KE h.rep (d:=⟨v,lo,hi⟩) ⟨by show v<64;omega,hlo,hhi⟩ hv hT zO (hfit hlo) (hfit hhi) (λs=>by have:=h.EX s;omega)) ?_;rintro w C1 ⟨r,dz,cv,rfl,hN,h2,hrc,hlen,hru,Np,u0,u1,u2,o0,o1,eW⟩;have NG:=h.ok.mid.lay (r:=r) (d:=⟨v,lo,hi⟩) hN ⟨h2,hrc⟩ hv he hlo hhi hT (λh=>h) rfl zO hlen ⟨hru,Np⟩ u0 u1 o0 o1;have agq:∀s d,K.N s=some d->up K.N r (some ⟨v,lo,hi⟩) s=some d:=λs d hs=>by rw[aS (λe=>by rw[e,hN]at hs;cases hs)];exact hs
  have hne:∀{t:Nat},live K.N t->t≠r:=λht=>gf ht h2 hN;have RP:Idle {K with N:=up K.N r (some ⟨v,lo,hi⟩),T:=qI K.T ⟨v,lo,hi⟩ (some r),used:=K.used+1,us:=dz,ho:=cv}:=λs hs=>by
   have hs':up K.N r (some ⟨v,lo,hi⟩) s=none:=hs;have RB:s≠r:=λe=>by subst e;rw[aP]at hs';cases hs'
   rw[aS RB]at hs';show dz.getD s 0=0;by_cases h2s:2<=s
   ·rw[u1 s h2s RB,h.idle s hs',eu];have a1:lo≠s:=λe=>by
     rcases hlo with h5|⟨d,h5⟩
     ·omega
     rw[e,hs']at h5;cases h5
    have a2:hi≠s:=λe=>by
     rcases hhi with h5|⟨d,h5⟩
     ·omega
     rw[e,hs']at h5;cases h5
    simp[a1,a2]
   rw[u2 s zO,h.idle s hs']
  refine JE.mk (Sp _ _ λgs=>?_);refine aa.fq (Dm eW NG RP (r:=r) (.inr ⟨_,aP⟩) (λ_=>by show cv.getD r 0<65535;rw[o0];omega)) ?_;rintro w C2 ⟨rfl,K2,dm,Lu,F6,hm,hu,hp⟩;refine ae.cL (Br.F ?_);have VO:K2.n=K.n:=hm.n;have Zy:K2.N=up K.N r (some ⟨v,lo,hi⟩):=hm.N;have hpos:Pos K2:=λs d hs=>by
   by_cases e:s=r
   ·rw[e];exact hp h2
   rw[Zy,aS e]at hs;have h3:=hu s;have h4:({K with N:=up K.N r (some ⟨v,lo,hi⟩),T:=qI K.T ⟨v,lo,hi⟩ (some r),used:=K.used+1,us:=dz,ho:=cv}:Kd).use s=dz.getD s 0:=rfl;rw[h4,u1 s (h.ok.mid.two hs).1 e]at h3;have:=h.ok.pos s d hs;omega
  have A5:∀{t:Nat},live K.N t->dep K2.n (lv ah) K2.N t=dep K.n (lv ah) K.N t:=λ{t} ht=>by
   rw[Zy,VO];unfold dep;rw[aS (hne ht)]
  have ae4:WF K2.n (lv ah) K2.N:=Lu.wf λ{s d} hs=>by
   rw[Zy]at hs;by_cases e:s=r
   ·rw[e,aP]at hs;cases hs;rw[A5 hlo,A5 hhi];exact fk
   rw[aS e]at hs;rw[A5 (h.ok.wf.lo hs).1,A5 (h.ok.wf.hi hs).1];exact⟨(h.ok.wf.lo hs).2,(h.ok.wf.hi hs).2⟩
  have hS:∀s,live K.N s->up S r (ite S ⟨v,lo,hi⟩) s=S s:=λs hs=>aS (hne hs);refine aM.here (.inl ⟨r,K2,up S r (ite S ⟨v,lo,hi⟩),rfl,⟨dm,⟨Lu,hpos,by rw[VO];exact h.ok.lv,ae4⟩,by rw[VO];exact h.od,F6,trivial⟩,⟨VO,hm.cap,by rw[hm.used];exact xaj _,λs d hs=>by rw[Zy];exact agq s d hs,hS,.inr ⟨_,by rw[Zy];exact aP⟩,aP,λs=>?_⟩⟩);rw[hm.hold];show(if s=r/\2<=r then cv.getD s 0+1 else cv.getD s 0)=_;by_cases e:s=r
  ·subst e;rw[xae ⟨rfl,h2⟩,xae ⟨rfl,h2⟩,o0];have:K.hold s=0:=by
    apply xdE;intro hne;obtain⟨d,hd⟩:=h.ok.mid.held s hne;rw[hN]at hd;cases hd
   omega
  rw[xac (λh=>e h.1),xac (λh=>e h.1),o1 s e]
end
theorem hnew{H:Hp}:bG [] H (λX=>X++H):=bG.left
theorem Ru{n:Nat}(hn:n<=64):Fc zQ 118 #[iv (n:Int)] [] (λv H=>aO 3 .i64 v (iw (List.range n)) H):=by
 refine aE λg=>Kq (cV.ints zO zO λb=>?_);have h0:aO 3 .i64 (.slice (some ⟨b,0,none⟩) n n) (List.replicate n 0) [(b,.cells (ax .i64 (List.replicate n 0)) 3 zZ)]:=by
  have:=aO.made (T:=3) (kd:=.i64) (b:=b) (List.replicate n (0:Int));rw[xdV]at this;exact this
 refine⟨λvs H=>∃j:Nat,vs=[iv (j:Int)]/\j<=n/\aO 3 .i64 (.slice (some ⟨b,0,none⟩) n n) (iw (List.range j)++List.replicate (n-j) 0) H,λvs _=>n-bJ vs 0,JE.mk ⟨0,rfl,by omega,by simpa[iw]using h0⟩,?_⟩;rintro w H ⟨j,hw,hj,hs⟩ gs;simp only[xau,xa1]at hw;subst hw;refine ae.eZ (Br.dec (λhlt=>?_) (λhlt=>?_))
 ·refine hs.nt (x:=(j:Int)) .here zP λC' hs'=>?_;refine ae.inc ?_;have e:(iw (List.range j)++List.replicate (n-j) 0).set j (j:Int)=iw (List.range (j+1))++List.replicate (n-(j+1)) 0:=by
   rw[xcB _ _ zI];rw[show n-j=(n-(j+1))+1 by omega,xda,xci,cg];simp[iw]
  rw[e]at hs';exact aC.of (.refl _) ⟨j+1,rfl,by omega,hs'⟩ (by show n-(((j+1:Nat):Int).toNat)<n-(((j:Nat):Int).toNat);omega)
 obtain rfl:j=n:=by omega
 exact aM.here (by simpa using hs)
theorem tC{n:Nat}(hn:n<=64):Fc zQ 68 #[iv (n:Int)] [] (λv H=>∃s,v=.tuple #[s,iv 0]/\aO 3 .i64 s (iw (List.range n)) H):=by
 refine aE λg=>Aj (ae.lss ?_);rw[xal zO];refine dc.or false (λ_=>ae.gtr ⟨rfl,by rw[xal zO]⟩) rfl λ_=>Br.no ?_;refine aa.fq (Ru hn) ?_;intro s H hs;exact aM.here ⟨s,rfl,hs⟩
def K0(n cap:Nat):Kd:=⟨n,cap,2,λ_=>none,λ_=>none,[],[]⟩
def S0:Nat->aA.Fn:=λr _=>decide (r=1)
theorem nT{n v:Nat}(hv:v<n):lv (List.range n) v=v:=by
 show(List.range n).getD v 0=v;simp[List.getD,hv]
theorem adw{n cap:Nat}(hc:2<=cap/\cap<=1048576):Ok (K0 n cap) S0 (lv (List.range n)):=by
 have c0:∀k,nA (λ_=>none) k=0:=λk=>by induction k with|zero=>rfl|succ k ih=>rw[nA,ih];rfl
 have hm:jO (K0 n cap) S0 iP zero':={
  two:=λh=>nomatch h
  var:=λh=>nomatch h
  ne:=λh=>nomatch h
  lo:=λh=>nomatch h
  hi:=λh=>nomatch h
  int:=⟨λ_=>rfl,λ_=>rfl,λh=>nomatch h⟩
  j9:=λd r=>⟨λh=>(nomatch h),λh=>nomatch h.1⟩
  use:=λh=>nomatch h
  len:=rfl
  fit:=λh=>nomatch h
  held:=λr h=>absurd (by simp[Kd.hold,K0]) h
  mx:=λr=>by simp[Kd.hold,K0]
  room:=by show 2=2+nA (λ_=>none) _;rw[c0]
  cap:=hc}
 refine⟨hm,λr d h=>(nomatch h),⟨λv hv=>?_,λu v hu hv h=>?_⟩,⟨λh=>(nomatch h),λh=>(nomatch h),λh=>(nomatch h),λh=>(nomatch h),λh=>(nomatch h),λh=>(nomatch h)⟩⟩
 ·have nX:v<n:=hv;rw[nT nX];exact hv
 have A1:u<n:=hu;have nX:v<n:=hv;rwa [nT A1,nT nX]at h
theorem C7{pt n cap:Nat}{CT:Hp}(hu:oo pt n (λ_=>none) CT)(hc:2<=cap/\cap<=1048576):Fc zQ 70 #[iv (cap:Int),ptr pt] CT (λv H=>∃pa CA,v=.tuple #[.agg #[ptr pa,ptr pt,.slice none 0 0,.slice none 0 0],iv 0]/\iY pa cap 2 (λ_=>none) CA/\H=CA++CT):=by
 refine aE λg=>OU λb1 _=>?_;refine aa.fn hnew (WL hc) ?_;rintro v C ⟨pa,rfl,hA⟩;refine Ext.two (Build.mk (cs:=[ptr pa,ptr pt,.slice none 0 0,.slice none 0 0]) zK (St.q ?_));refine ay.q ?_;exact aM.mk (.cU .tail _) ⟨pa,C,rfl,hA,rfl⟩
theorem Yr{n cap:Nat}(hn:1<=n/\n<=64)(hc:2<=cap/\cap<=1048576):Fc zQ 40 #[iv (n:Int),iv (cap:Int)] [] (λv C=>∃kp,v=.tuple #[ptr kp,iv 0]/\cc kp (K0 n cap) S0 (List.range n) (List.range n) [] C):=by
 refine aE λg=>Al (aa.fq (tC hn.2) ?_);rintro v CO ⟨s,rfl,hO⟩;obtain⟨sa,sl,sc,hse⟩:∃a l c,s=Value.slice a l c:=by obtain⟨a,c,h⟩:=aV.len hO;exact⟨a,_,c,h⟩
 refine Ext.two (ae.cL (dc.or false (λ_=>ae.lss ⟨rfl,by rw[xal zO]⟩) rfl λgs=>?_));refine dc.or false (λ_=>ae.lss ⟨rfl,by rw[xal zO]⟩) rfl λgs=>?_;refine dc.or false (λ_=>ae.gtr ⟨rfl,by rw[xal zO]⟩) rfl λgs=>Br.no ?_;refine aa.fn hnew (Uj hn) ?_;rintro v CT ⟨pt,rfl,hT⟩;refine Ext.two (ae.cL (Br.no (aa.fq (C7 hT hc) ?_)));rintro v H ⟨pa,CA,rfl,hA,rfl⟩;refine Ext.two λb24 _=>(St.q ?_);refine ae.cL (Br.no (DR.self (ay.q ?_)));refine aa.fq (wM (hO.ints.mono λ_ h=>h) zP) ?_;rintro v H ⟨CL,rfl,hL⟩;obtain⟨la,ll,lc,hle⟩:∃a l c,v=Value.slice a l c:=by obtain⟨a,c,h⟩:=aV.len hL;exact⟨a,_,c,h⟩
 refine⟨(.cons (.cU .right _)),?_⟩;subst hse hle;refine Build.mk (cs:=[ptr pa,ptr pt,.slice none 0 0,.slice none 0 0,iv (n:Int),.slice sa sl sc,.slice la ll lc,.slice none 0 0]) zK λXR _=>?_;refine⟨(.skip (.cons (.cU .right _))),?_⟩
 let kb:uz:=⟨pa,pt,.slice none 0 0,.slice none 0 0,.slice sa sl sc,.slice la ll lc,.slice none 0 0,CA,CT,[],[],CO,CL,[]⟩
 refine aM.mk (nD:=kb.hp XR n) ?_ ⟨XR,rfl,⟨kb,rfl,⟨hA,hT,aO.nil,aO.nil,hO,hL,aO.nil,⟨rfl,by simp[K0]⟩,hn.2,by simp[K0]⟩⟩,adw hc,⟨by simp[K0],λl hl=>?_⟩,λs _=>by simp[Kd.use,K0],trivial⟩
 ·refine .cons (.skip ((aN.assoc).trans ?_));show aN (CA++(CT++(CL++CO))) (CA++(CT++([]++([]++(CO++(CL++[]))))));simp only[xb2,xaL];exact .cU (.cU (.perm xbb) _) _
 have hl':l<n:=hl;have e:(List.range n).getD l 0=l:=nT hl';rw[e];exact⟨hl,nT hl'⟩
end
end Go.Proofs
namespace aA
def az(ord path:zL):zL:=path.foldl fR ord
theorem gA{ord path:zL}{l:Nat}:az ord (path++[l])=fR (az ord path) l:=by simp[az]
theorem cq{ord path q:zL}:az ord (path++q)=az (az ord path) q:=by simp[az]
theorem fQ{ord:zL}:∀{path:zL},(az ord path).length=ord.length:=by
 intro path;unfold az;induction path generalizing ord with
 |nil=>rfl
 |cons l r ih=>rw[xcE,ih];simp[fR]
def mc:Nat->zL
 |2=>[0]
 |3=>[1,0,1,0,1]
 |4=>[2,1,0,2,0,1,2,0,2,1,0,2,0,1,2,0,2,1,0,2,0,1,2]
 |_=>[]
structure Rm where
 n:Nat
 size:zL->Nat
 fit:zL->Nat->Bool
def Rm.dJ(m:Rm)(p:Nat):zL->zL->zL
 | [],_=>[]
 |c::cs,ord=>if m.fit ord (p+c)then(p+c)::m.dJ p cs (fR ord (p+c))else []
def Rm.keep(m:Rm)(ord path:zL):Nat->Nat
 |0=>0
 |i+1=>if m.size (az ord (path.take (i+1)))<m.size (az ord (path.take (m.keep ord path i)))then i+1 else m.keep ord path i
def Rm.visit(m:Rm)(w p:Nat)(ord:zL):zL×Nat:=
 let path:=m.dJ p (mc w) ord
 let k:=m.keep ord path path.length
 (path.take k,path.length+(path.length-k))
def Rm.all(m:Rm)(w:Nat)(ord:zL):Nat->zL×Nat
 |0=>([],0)
 |i+1=>let a:=m.all w ord i;let b:=m.visit w i (az ord a.1);(a.1++b.1,a.2+b.2)
def Rm.pass(m:Rm)(w:Nat)(ord:zL):zL×Nat:=m.all w ord (m.n+1-w)
theorem Rm.l7(m:Rm)(p:Nat):∀cs ord,(m.dJ p cs ord).length<=cs.length
 | [],_=>by simp[dJ]
 |c::cs,ord=>by
  rw[dJ];split
  ·have:=m.l7 p cs (fR ord (p+c));simp only[xaw];omega
  simp
theorem Rm.rI(m:Rm)(p:Nat):∀cs ord i,i<(m.dJ p cs ord).length->(m.dJ p cs ord)[i]? =(cs[i]?).map (p+ ·)/\∃c,cs[i]? =some c/\m.fit (az ord ((m.dJ p cs ord).take i)) (p+c)=true
 | [],_,i,h=>by simp[dJ]at h
 |c::cs,ord,i,h=>by
  by_cases hf:m.fit ord (p+c)=true
  ·rw[dJ,xae hf]at h⊢;cases i with
   |zero=>exact⟨by simp,c,rfl,hf⟩
   |succ i=>
    obtain⟨h1,c',h2,h3⟩:=m.rI p cs (fR ord (p+c)) i (by simpa using h);exact⟨by simpa using h1,c',by simpa using h2,by simpa[az]using h3⟩
  rw[dJ,xac hf]at h;simp at h
theorem Rm.wq(m:Rm)(p:Nat):∀cs ord c,cs[(m.dJ p cs ord).length]? =some c->m.fit (az ord (m.dJ p cs ord)) (p+c)=false
 | [],_,c,h=>by simp at h
 |c'::cs,ord,c,h=>by
  by_cases hf:m.fit ord (p+c')=true
  ·rw[dJ,xae hf]at h⊢;have:=m.wq p cs (fR ord (p+c')) c (by simpa using h);simpa[az]using this
  rw[dJ,xac hf]at h⊢;simp only[xce,xcL,xaq]at h;subst h;simpa[az]using hf
theorem Rm.DJ(m:Rm)(p:Nat){cs ord:zL}{l:Nat}(h:l∈m.dJ p cs ord):∃c∈cs,l=p+c:=by
 obtain⟨i,hi,e⟩:=List.getElem_of_mem h;obtain⟨h1,c,h2,_⟩:=m.rI p cs ord i hi;rw[xaa hi,e,h2]at h1;exact⟨c,xax h2,by simpa using h1⟩
theorem Rm.AX(m:Rm)(ord path:zL):∀i,m.keep ord path i<=i
 |0=>xaj _
 |i+1=>by rw[keep];split;omega;have:=m.AX ord path i;omega
theorem Rm.vZ(m:Rm)(ord path:zL):∀i j,j<=i->m.size (az ord (path.take (m.keep ord path i)))<=m.size (az ord (path.take j))
 |0,j,h=>by
  obtain rfl:j=0:=by omega
  exact xaj _
 |i+1,j,h=>by
  by_cases e:j=i+1
  ·subst e;rw[keep];split<;>omega
  have:=m.vZ ord path i j zO;rw[keep];split<;>omega
theorem Gx{w c:Nat}(h:c∈mc w):c+2<=w:=by
 unfold mc at h;split at h
 ·simp at h;omega
 ·simp at h;omega
 ·simp at h;omega
 simp at h
theorem LM(w:Nat):(mc w).length<=23:=by
 unfold mc;split<;>simp
theorem Rm.Mi(m:Rm){w p:Nat}{ord:zL}{l:Nat}(h:l∈(m.visit w p ord).1):l+2<=p+w:=by
 obtain⟨c,hc,rfl⟩:=m.DJ p (xcD h);have:=Gx hc;omega
theorem Rm.r6(m:Rm)(w p:Nat)(ord:zL):(m.visit w p ord).1.length<=23/\(m.visit w p ord).2<=46:=by
 have h1:=m.l7 p (mc w) ord;have h2:=LM w;have h3:=m.AX ord (m.dJ p (mc w) ord) (m.dJ p (mc w) ord).length;constructor
 ·show(List.take _ _).length<=23;rw[xbB];omega
 show _+(_-_)<=46;omega
theorem Rm.BZ(m:Rm)(w p:Nat)(ord:zL):m.size (az ord (m.visit w p ord).1)<=m.size ord:=by
 have:=m.vZ ord (m.dJ p (mc w) ord) (m.dJ p (mc w) ord).length 0 (xaM _);simpa[visit,az]using this
theorem Rm.Ts(m:Rm)(w:Nat)(ord:zL):∀i,m.size (az ord (m.all w ord i).1)<=m.size ord
 |0=>xaj _
 |i+1=>by
  have h1:=m.Ts w ord i;have h2:=m.BZ w i (az ord (m.all w ord i).1);show m.size (az ord (_++_))<=_;rw[cq];exact xbw h2 h1
theorem Rm.LX(m:Rm)(w:Nat)(ord:zL):∀i,(m.all w ord i).1.length<=23*i/\(m.all w ord i).2<=46*i
 |0=>⟨xaj _,xaj _⟩
 |i+1=>by
  have h1:=m.LX w ord i;have h2:=m.r6 w i (az ord (m.all w ord i).1);constructor
  ·show((m.all w ord i).1++(m.visit w i (az ord (m.all w ord i).1)).1).length<=_;rw[xaf];omega
  show(m.all w ord i).2+(m.visit w i (az ord (m.all w ord i).1)).2<=_;omega
theorem Rm.LW(m:Rm){w:Nat}{ord:zL}{l:Nat}:∀{i},l∈(m.all w ord i).1->l+3<=i+w
 |0,h=>by simp[all]at h
 |i+1,h=>by
  rcases xao.1 h with h|h
  ·have:=m.LW h;omega
  have:=m.Mi h;omega
theorem Rm.all_succ(m:Rm)(w:Nat)(ord:zL)(i:Nat):m.all w ord (i+1)=((m.all w ord i).1++(m.visit w i (az ord (m.all w ord i).1)).1,(m.all w ord i).2+(m.visit w i (az ord (m.all w ord i).1)).2):=rfl
end aA
set_option maxRecDepth 100000
namespace Go.Proofs
open Go Go.Sx Tryz
open aA
def At(kp:Nat)(K:Kd)(S:Nat->aA.Fn)(ord tr:zL)(C:Hp):Prop:=∃K' S' bW,cc kp K' S' ord bW tr C/\Kept K S K' S'
noncomputable def cF(K:Kd)(S:Nat->aA.Fn)(ord:zL):Nat:=sz K.n ord (K.held S)
def jc(K:Kd)(S:Nat->aA.Fn)(ord:zL)(l:Nat):Prop:=BD K.n ord l (K.held S)+2<=K.cap
section
variable {kp:Nat} {K:Kd} {S:Nat->aA.Fn} {ord tr:zL} {C:Hp}
theorem cc.bc{ah:zL}(h:cc kp K S ord ah tr C):At kp K S ord tr C:=⟨K,S,ah,h,.refl _ _⟩
theorem Dj{ah:zL}(h:cc kp K S ord ah tr C):K.used=cF K S ord+2:=by
 have h1:=KF (h.ok.size h.od);have h2:=h.ok.mid.room;unfold cF;omega
theorem rC{K':Kd}{S':Nat->aA.Fn}(h:Kept K S K' S')(ord:zL):cF K' S' ord=cF K S ord:=by
 unfold cF;rw[h.n];exact PW h.held
theorem y7{K':Kd}{S':Nat->aA.Fn}(h:Kept K S K' S')(ord:zL)(l:Nat):jc K' S' ord l↔jc K S ord l:=by
 unfold jc;rw[h.n,h.cap,Mq h.held]
theorem At.len(h:At kp K S ord tr C):ord.length=K.n:=by
 obtain⟨K',S',bW,h,hk⟩:=h;rw[<-hk.n];exact h.od.len
theorem gu(h:At kp K S ord tr C):cF K S ord<=1048574:=by
 obtain⟨K',S',bW,h,hk⟩:=h;rw[<-rC hk];have:=Dj h;have:=h.ok.mid.cap;omega
theorem At.lB(h:At kp K S ord tr C):K.n<=64:=by
 obtain⟨K',S',bW,h,hk⟩:=h;obtain⟨b,_,hO⟩:=h.rep;rw[<-hk.n];exact hO.lB
theorem cE(h:At kp K S ord tr C):Rd zQ 140 #[ptr kp] C (· =iv ((cF K S ord:Nat):Int)):=by
 obtain⟨K',S',bW,h,hk⟩:=h;have hs:=Dj h;have hc:=h.ok.mid.cap;refine(Vr h.rep zO zO).mono ?_;rintro v H ⟨rfl,rfl⟩;exact⟨rfl,by rw[hs,rC hk];rfl⟩
theorem rU(h:At kp K S ord tr C):Rd zQ 271 #[ptr kp] C (· =iv ((tr.length:Nat):Int)):=by
 obtain⟨K',S',bW,h,hk⟩:=h;exact Nm h.rep
theorem m4(h:At kp K S ord tr C):Rd zQ 185 #[ptr kp] C (· =iv ((K.n:Nat):Int)):=by
 obtain⟨K',S',bW,h,hk⟩:=h;rw[<-hk.n];exact gM h.rep
theorem Tm(h:At kp K S ord tr C):Fc zQ 65 #[ptr kp] C (λr H=>∃N,H=N++C/\aO 3 .i64 r (iw ord) N):=by
 obtain⟨K',S',bW,h,hk⟩:=h;exact y3 h.rep
theorem uO(h:At kp K S ord tr C){l:Nat}(hl:l+1<K.n)(eM:tr.length<17592186044416)(hf:jc K S ord l):Fc zQ 151 #[ptr kp,iv (l:Int)] C (λr C'=>r=iv 0/\At kp K S (fR ord l) (tr++[l]) C'):=by
 obtain⟨K',S',bW,h,hk⟩:=h;refine(LF h (by rw[hk.n];exact hl) eM).mono ?_;rintro v C' (⟨_,rfl,K2,S2,Yv,h2,rG⟩|⟨hno,_,_⟩)
 ·exact⟨rfl,K2,S2,Yv,h2,hk.trans rG⟩
 have:=(y7 hk ord l).2 hf;unfold jc at this;omega
theorem m5(h:At kp K S ord tr C){l:Nat}(hl:l+1<K.n)(eM:tr.length<17592186044416)(hf:¬jc K S ord l):Rd zQ 151 #[ptr kp,iv (l:Int)] C (· =iv 9):=by
 obtain⟨K',S',bW,h,hk⟩:=h;refine(LF h (by rw[hk.n];exact hl) eM).mono ?_;rintro v C' (⟨Rv,_⟩|⟨hno,rfl,rfl⟩)
 ·exact absurd ((y7 hk ord l).1 Rv) hf
 exact⟨rfl,rfl⟩
theorem Bt{l:Nat}(h:At kp K S ord (tr++[l]) C)(eM:tr.length<17592186044416):Fc zQ 338 #[ptr kp] C (λr C'=>r=.tuple #[iv (l:Int),iv 0]/\At kp K S (fR ord l) tr C'):=by
 obtain⟨K',S',bW,h,hk⟩:=h;refine(Uk h eM).mono ?_;rintro v C' ⟨rfl,_,K2,S2,Yv,h2,rG⟩;exact⟨rfl,K2,S2,Yv,h2,hk.trans rG⟩
theorem X5(h:At kp K S ord tr C){l:Nat}(hl:l+1<K.n)(eM:tr.length<17592186044416)(hf:jc K S ord l):Fc zQ 272 #[ptr kp,iv (l:Int)] C (λr C'=>
   r=.tuple #[.agg #[iv (l:Int),iv ((cF K S ord:Nat):Int),iv ((cF K S (fR ord l):Nat):Int)],iv 0]/\At kp K S (fR ord l) (tr++[l]) C'):=by
 refine aE λg=>xB λb1 _=>?_;refine aa.eq (cE h) (Build.mk (cs:=[iv (l:Int),iv ((cF K S ord:Nat):Int),iv 0]) zK λb6 _=>?_);refine St.q ?_;refine aa.fq (uO h hl eM hf) ?_;rintro v C' ⟨rfl,h'⟩;refine ae.cL (Br.F (aa.eq (cE h') (ai.mk (St.one (by exact .head _) rfl zI rfl ?_))));refine ay.q ?_;refine St.q ?_;refine ay.q ?_;exact aM.mk (.skip .tail) ⟨rfl,h'⟩
theorem X6(h:At kp K S ord tr C){l:Nat}(hl:l+1<K.n)(eM:tr.length<17592186044416)(hf:¬jc K S ord l):Rd zQ 272 #[ptr kp,iv (l:Int)] C (· =.tuple #[.agg #[iv 0,iv 0,iv 0],iv 9]):=by
 refine aE λg=>xB λb1 _=>?_;refine aa.eq (cE h) (Build.mk (cs:=[iv (l:Int),iv ((cF K S ord:Nat):Int),iv 0]) zK λb6 _=>?_);refine St.q ?_;refine aa.eq (m5 h hl eM hf) (ae.cL (Br.T (Build.mk (cs:=[iv 0,iv 0,iv 0]) zK (St.q ?_))));refine ay.q ?_;exact bg.mk (.skip .tail) rfl
theorem LR{path:zL}(h:At kp K S (az ord path) (tr++path) C)(hp:∀l∈path,l+1<K.n){k:Nat}(hk:k<=path.length)(eM:(tr++path).length<17592186044416):Fc zQ 273 #[ptr kp,iv ((tr.length+k:Nat):Int)] C (λr C'=>
   r=.tuple #[iv ((path.length-k:Nat):Int),iv 0]/\At kp K S (az ord (path.take k)) (tr++path.take k) C'):=by
 have hlen:=h.len;rw[fQ]at hlen;rw[xaf]at eM;refine aE λg=>II (ae.aH (Br.no ?_));intro J2 BQ;refine ae.lss ?_;rw[xal zO];refine Split.go rfl (aa.eq (rU h) (ae.gtr ?_));rw[xal (by rw[xaf];omega)];refine aL.mk (JE.mk (BQ _ _ λgs=>Br.no ?_));refine⟨λvs H=>∃m,m<=path.length/\k<=m/\vs=[iv ((path.length-m:Nat):Int)]/\At kp K S (az ord (path.take m)) (tr++path.take m) H,λvs _=>path.length-bJ vs 0,JE.mk ⟨path.length,xaj _,hk,by simp,by simpa using h⟩,?_⟩;rintro w H ⟨m,hm,hkm,hw,BO⟩ gs;simp only[xau,xa1]at hw;subst hw;refine aa.eq (rU BO) (ae.ny (Br.dec (λhlt=>?_) (λhlt=>?_)))
 ·rw[xaf,xbB]at hlt;obtain⟨m,rfl⟩:∃m',m=m'+1:=⟨m-1,by omega⟩;have e:path.take (m+1)=path.take m++[path[m]]:=by rw[xbo,xaa zO];rfl
  rw[e,<-xai,gA]at BO;refine aa.fq (Bt BO zP) ?_;rintro v C' ⟨rfl,h'⟩;rw[qS (by rw[fQ,hlen];exact hp _ (xaB _))]at h';refine ae.inc (aC.of (.refl _) ⟨m,by omega,by omega,by rw[show path.length-(m+1)+1=path.length-m by omega],h'⟩ ?_);show path.length-(((path.length-(m+1)+1:Nat):Int).toNat)<path.length-(((path.length-(m+1):Nat):Int).toNat);omega
 rw[xaf,xbB]at hlt;obtain rfl:m=k:=by omega
 exact aM.here ⟨rfl,BO⟩
end
theorem Gy{w:Nat}(hw:2<=w/\w<=4):Fc zQ 269 #[iv (w:Int)] [] (λv H=>∃s,v=.tuple #[s,iv 0]/\aO 3 .i64 s (iw (mc w)) H):=by
 refine aE λg=>IL ?_;obtain rfl|rfl|rfl:w=2\/w=3\/w=4:=by omega
 ·refine ae.ik (Br.T (au.int (e:=3) zK zK zK λbx=>?_));exact aM.here ⟨_,rfl,aO.made [0]⟩
 ·refine ae.ik (Br.F (ae.ik (Br.T (⟨ax .i64 (iw (mc 3)),3,1,iv 0,by kernel_rfl,by kernel_rfl,by kernel_rfl,by decide,by kernel_rfl,λbx _=>?_⟩))));exact aM.here ⟨_,rfl,aO.made (iw (mc 3))⟩
 refine ae.ik (Br.F (ae.ik (Br.F (ae.ik (Br.T (⟨ax .i64 (iw (mc 4)),3,1,iv 0,by kernel_rfl,by kernel_rfl,by kernel_rfl,by decide,by kernel_rfl,λbx _=>?_⟩))))));exact aM.here ⟨_,rfl,aO.made (iw (mc 4))⟩
end Go.Proofs
namespace Go.Sx
open Go
section
variable {P:Program} {g:Gh} {H:Hp}
theorem iZ.nat{len size b o j:Nat}{kd:IntKind}{k:zV->Prop}(h1:j<len)(h:k (.pointer (some ⟨b,o+j*size,none⟩))):iZ len size (.pointer (some ⟨b,o,none⟩)) (.int kd (j:Int)) k:=
 ⟨b,o,kd,(j:Int),rfl,rfl,by omega,by omega,by simpa using h⟩
theorem jI.adm{o:Oper}{ρ:Operand->zV}{k:zV->Prop}{t e:TypeId}{q kd:IntKind}{n j:Nat}{x i:Operand}{l:List Int}{z:Int}(ho:o.op=.index t x i)(hx:ρ x=.agg (ax q l))(hi:ρ i=.int kd (j:Int))
 (ht:P.underlying t=some (.array n e))(hu:P.underlying e=some (.int q))(hz:dG P e=some 1)(hj:j<n)(hl:l[j]? =some z)(hk:k (.int q z)):jI P g o ρ H k:=by
 obtain⟨inf,afE,hs⟩:=bE hz;refine⟨_,λw _=>?_,hk⟩;have hp:=q5 (P:=P) hu hl w;have R4:(0:Int)<=(j:Int)/\(j:Int)<(n:Int):=by omega
 simp only[execOp,ho,Instr.index,hx,hi,asIntOf,Sem.run_bind,Sem.run_pure,Result.andThen_ok,run_underlying ht,run_sizeOf afE,hs,xae R4,xbe,xbU,hp]
end
end Go.Sx
namespace aA
open ak
def clr(m v:Nat):Nat:=if m.testBit v then m^^^2^v else m
def rest(m:Nat)(ord:zL):Nat->Nat
 |0=>m
 |k+1=>clr (rest m ord k) (ord.getD k 0)
section
variable {n m o:Nat} {ord:zL} {F:Fn->Prop}
theorem getD_inj(hn:ord.Nodup){i j:Nat}(hi:i<ord.length)(hj:j<ord.length)(e:ord.getD i 0=ord.getD j 0):i=j:=by
 rw[xar,xar,xaa hi,xaa hj]at e;exact(List.getElem_inj hn).1 e
theorem PY{l:Nat}(hl:l+1<ord.length):(fR ord l).Perm ord:=by
 unfold fR;have e1:ord=ord.take l++ord.getD l 0::ord.getD (l+1) 0::ord.drop (l+2):=by
  conv=>lhs;rw[<-xbr l ord]
  congr 1;rw[xbs zO,xbs zO];simp[List.getD,xaa (show l<ord.length by omega),xaa hl]
 have ht:(ord.take l).length=l:=by simp;omega
 have e2:(ord.set l (ord.getD (l+1) 0)).set (l+1) (ord.getD l 0)=ord.take l++ord.getD (l+1) 0::ord.getD l 0::ord.drop (l+2):=by
  generalize hx:ord.getD l 0=x at*;generalize hy:ord.getD (l+1) 0=y at*
  conv=>lhs;rw[e1]
  rw[xcB _ _ zO,ht,xc8,xcy,xcB _ _ zO,ht,Nat.add_sub_cancel_left,xee,xcy]
 rw[e2]
 conv=>rhs;rw[e1]
 exact xbY _ (List.Perm.swap _ _ _)
theorem lf:∀{path:zL} {ord:zL},(∀l∈path,l+1<ord.length)->(az ord path).Perm ord
 | [],_,_=>.refl _
 |l::r,ord,h=>by
  show(az (fR ord l) r).Perm ord;have h1:=h l zI;exact(lf λx hx=>by rw[mF];exact h x (by simp[hx])).trans (PY h1)
end
def flat(n s:Nat):Rm:=⟨n,λ_=>s,λ_ _=>true⟩
end aA
namespace aA
def GB(i:Nat):Nat->zL
 |0=>[]
 |j+1=>if i<=j then j::GB i j else []
theorem Bn{i j:Nat}(h:j<=i):GB i j=[]:=by
 cases j with
 |zero=>rfl
 |succ j=>rw[GB,xac zO]
theorem rT{i j:Nat}(h:i<=j):GB i (j+1)=j::GB i j:=by rw[GB,xae h]
theorem LN{i l:Nat}:∀{j},l∈GB i j->i<=l/\l<j
 |0,h=>by simp[GB]at h
 |j+1,h=>by
  by_cases e:i<=j
  ·rw[rT e]at h;rcases xak.1 h with rfl|h
   ·omega
   have:=LN h;omega
  rw[Bn zO]at h;simp at h
theorem Bm(i:Nat):∀j,(GB i j).length=j-i
 |0=>by simp[GB]
 |j+1=>by
  by_cases e:i<=j
  ·rw[rT e,xaw,Bm i j];omega
  rw[Bn zO];simp;omega
theorem LO{i k:Nat}:∀{j:Nat} {a:zL},i<=j->j<a.length->(k<=i->(az a (GB i j)).getD k 0=if k=i then a.getD j 0 else a.getD k 0)
 |0,a,hi,hj,hk=>by
  obtain rfl:i=0:=by omega
  obtain rfl:k=0:=by omega
  simp[GB,az]
 |j+1,a,hi,hj,hk=>by
  by_cases e:i<=j
  ·rw[rT e];show(az (fR a j) (GB i j)).getD k 0=_;rw[LO (j:=j) e (by rw[mF];omega) hk,fx zO,fx zO];by_cases h:k=i
   ·subst h;simp
   rw[xac h,xac h,xac zO,xac zO]
  obtain rfl:i=j+1:=by omega
  rw[Bn (xaj _)];show a.getD k 0=_;split
  ·rename_i h;rw[h]
  rfl
def plc(p:zL)(x:Nat):Nat:=p.idxOf x
def ef(p q:zL):Nat->zL
 |0=>[]
 |i+1=>ef p q i++GB i (plc (az p (ef p q i)) (q.getD i 0))
def path(p q:zL):zL:=ef p q q.length
theorem QE{p:zL}{x:Nat}(h:x∈p):plc p x<p.length:=List.idxOf_lt_length_iff.2 h
theorem KV{p:zL}{x:Nat}(h:x∈p):p.getD (plc p x) 0=x:=by
 have h1:=QE h;rw[xar,xaa h1];show p[p.idxOf x]=x;exact List.getElem_idxOf h1
section
variable {p q:zL}
theorem jT(hq:q.Nodup)(hp:p.Perm q):∀i,i<=q.length->(∀l∈ef p q i,l+1<p.length)/\(∀k,k<i->(az p (ef p q i)).getD k 0=q.getD k 0)/\(i<q.length->i<=plc (az p (ef p q i)) (q.getD i 0)/\plc (az p (ef p q i)) (q.getD i 0)<p.length)
 |i,hi=>by
  have hlen:=hp.length_eq;have base:(∀l∈ef p q i,l+1<p.length)/\(∀k,k<i->(az p (ef p q i)).getD k 0=q.getD k 0):=by
   cases i with
   |zero=>exact⟨λl hl=>by simp[ef]at hl,λk hk=>absurd hk (xcS _)⟩
   |succ i=>
    obtain⟨h1,h2,h3⟩:=jT hq hp i zO;obtain⟨h4,h5⟩:=h3 zO;have hm:q.getD i 0∈az p (ef p q i):=by
     have:q.getD i 0∈q:=by rw[xar,xaa (show i<q.length by omega)];exact xaB _
     exact((lf h1).trans hp).mem_iff.2 this
    refine⟨λl hl=>?_,λk hk=>?_⟩
    ·rcases xao.1 hl with hl|hl
     ·exact h1 l hl
     have:=LN hl;omega
    rw[ef,cq,LO h4 (by rw[fQ];exact h5) zO];split
    ·rename_i e;subst e;exact KV hm
    exact h2 k zO
  refine⟨base.1,base.2,λhlt=>?_⟩;have hm:q.getD i 0∈az p (ef p q i):=by
   have:q.getD i 0∈q:=by rw[xar,xaa hlt];exact xaB _
   exact((lf base.1).trans hp).mem_iff.2 this
  have h5:=QE hm;rw[fQ]at h5;refine⟨?_,h5⟩;refine xaK λuk=>?_;have:=base.2 _ (Nat.lt_of_not_le uk);rw[KV hm]at this;have:=getD_inj hq hlt zO this;omega
theorem AN(hq:q.Nodup)(hp:p.Perm q):az p (path p q)=q/\∀l∈path p q,l+1<p.length:=by
 obtain⟨h1,h2,_⟩:=jT hq hp q.length (xaj _);refine⟨DU (by rw[fQ];exact hp.length_eq) λi hi=>h2 i ?_,h1⟩;rw[fQ,hp.length_eq]at hi;exact hi
theorem sB(hq:q.Nodup)(hp:p.Perm q):∀i,i<=q.length->(ef p q i).length<=i*p.length
 |0,_=>by simp[ef]
 |i+1,hi=>by
  have:=sB hq hp i zO;obtain⟨_,_,h3⟩:=jT hq hp i zO;rw[ef,xaf,Bm,xbq];have:=(h3 zO).2;omega
end
end aA
namespace aA
open ak
section
variable {n l:Nat} {ord:zL} {F G:Fn->Prop} {f c:Fn}
theorem zn:∀l g,fs ord (λg=>F g\/G g) l g↔fs ord F l g\/fs ord G l g
 |0,g=>xcT
 |l+1,g=>by
  constructor
  ·rintro⟨f,hf,b,rfl⟩;rcases(zn l f).1 hf with h|h
   ·exact .inl ⟨f,h,b,rfl⟩
   exact .inr ⟨f,h,b,rfl⟩
  rintro(⟨f,hf,b,rfl⟩|⟨f,hf,b,rfl⟩)
  ·exact⟨f,(zn l f).2 (.inl hf),b,rfl⟩
  exact⟨f,(zn l f).2 (.inr hf),b,rfl⟩
theorem CY(g:Fn):aG n ord (λg=>F g\/G g) g↔aG n ord F g\/aG n ord G g:=by
 constructor
 ·rintro⟨l,hl,hf,hh⟩;rcases(zn l g).1 hf with h|h
  ·exact .inl ⟨l,hl,h,hh⟩
  exact .inr ⟨l,hl,h,hh⟩
 rintro(⟨l,hl,hf,hh⟩|⟨l,hl,hf,hh⟩)
 ·exact⟨l,hl,(zn l g).2 (.inl hf),hh⟩
 exact⟨l,hl,(zn l g).2 (.inr hf),hh⟩
theorem cK{v:Nat}(h:¬cC f v)(x:Nat)(b:Bool):f (aB x v b)=f x:=by
 have h0:f (aB x v false)=f (aB x v true):=xaK λhne=>h ⟨x,hne⟩;have h1:=iu x v
 conv=>rhs;rw[<-h1]
 cases b<;>cases x.testBit v<;>simp[h0]
theorem Bd(hi:∀j,j<l->¬cC f (ord.getD j 0)):∀k,k<=l->fs ord (λg=>g=f) k f
 |0,_=>rfl
 |k+1,hk=>⟨f,Bd hi k zO,false,funext λx=>(cK (hi k zO) x false).symm⟩
theorem uI(hi:∀j,j<l->¬cC f (ord.getD j 0)):∀k,k<=l->∀g,fs ord (λg=>g=f) k g->g=f
 |0,_,g,h=>h
 |k+1,hk,g,h=>by
  obtain⟨f',hf,b,rfl⟩:=h;obtain rfl:=uI hi k zO f' hf;exact funext λx=>cK (hi k zO) x b
theorem jK(hi:∀j,j<l->¬cC f (ord.getD j 0)){b:Bool}(hc:c=λx=>f (aB x (ord.getD l 0) b)):
  (∀j,j<l+1->¬cC c (ord.getD j 0))/\∀g,aG n ord (λg=>g=c) g->aG n ord (λg=>g=f) g:=by
 have h1:fs ord (λg=>g=f) (l+1) c:=⟨f,Bd hi l (xaj _),b,hc⟩;have h2:∀j,j<l+1->¬cC c (ord.getD j 0):=λj hj=>wx (l+1) c h1 j hj;refine⟨h2,?_⟩;rintro g ⟨m,hm,hf,hh⟩;by_cases e:m<l+1
 ·obtain rfl:=uI h2 m zO g hf;exact absurd hh (h2 m e)
 have key:∀d g,fs ord (λg=>g=c) (l+1+d) g->fs ord (λg=>g=f) (l+1+d) g:=λd=>by
  induction d with
  |zero=>intro g hg;obtain rfl:=uI h2 (l+1) (xaj _) g hg;exact h1
  |succ d ih=>rintro g ⟨f',RU,b',rfl⟩;exact⟨f',ih f' RU,b',rfl⟩
 obtain⟨d,rfl⟩:∃d,m=l+1+d:=⟨m-(l+1),by omega⟩;exact⟨_,hm,key d g hf,hh⟩
theorem oF(hi:∀j,j<l->¬cC f (ord.getD j 0))(hl:l<n)(hh:cC f (ord.getD l 0)):aG n ord (λg=>g=f) f:=⟨l,hl,Bd hi l (xaj _),hh⟩
end
section
variable {K:Kd} {S:Nat->Fn} {ah:Nat->Nat} {ord:zL}
theorem Ok.below(h:Ok K S ah)(ho:Ord K.n ah ord){r l:Nat}(hr:live K.N r)(hl:l<=K.n)(hi:∀j,j<l->¬cC (S r) (ord.getD j 0)):l<=dep K.n ah K.N r:=by
 cases e:K.N r with
 |none=>rw[aU e];exact hl
 |some d=>
  rw[an e];refine xaK λhlt=>?_;have fk:ah d.v<l:=Nat.lt_of_not_le hlt;have:=hi _ fk;rw[ho.of h.lv (h.mid.var e)]at this;exact this (gm h.wf h.lv h.mid.int e)
theorem Ok.roomFor(h:Ok K S ah)(ho:Ord K.n ah ord){U:Fn->Prop}{k:Nat}(hk:pE U k)(hfit:k+2<=K.cap)(hU:∀g,aG K.n ord (K.held S) g->U g){d:Nd}
 (hlo:live K.N d.lo)(hhi:live K.N d.hi)(hne:d.lo≠d.hi)(hv:d.v<K.n)(hlt:ah d.v<dep K.n ah K.N d.lo/\ah d.v<dep K.n ah K.N d.hi)(hg:U (ite S d))(hT:K.T d=none):K.used<K.cap:=by
 have hs:=h.size ho;have hu:=h.mid.room;obtain⟨l1,a1,a2,a3⟩:=hs;have YY:ite S d∉l1:=λhm=>by
  obtain⟨r,e,hr,he⟩:=(nQ h.wf h.lv ho h.mid.int (λr hr=>.inr (h.mid.held r hr)) h.reach (ite S d)).1 ((a3 _).2 hm);have hTd:¬K.N r=some d:=λhN=>by
   have:=(h.mid.j9 d r).2 ⟨hN,λx=>x⟩;rw[hT]at this;cases this
  apply hTd;have RB:S r=ite S d:=he.symm;have Rw:e.v=d.v:=by
   have e1:=h.lv.lt e.v (h.mid.var hr);have e2:=h.lv.lt d.v hv;rcases xcJ (ah e.v) (ah d.v)with hh|hh|hh
   ·exfalso;obtain⟨z,hz⟩:=gm h.wf h.lv h.mid.int hr;rw[RB]at hz;apply hz;unfold ite;have i1:=h.wf.bN h.lv h.mid.int hlo (h.mid.var hr) zO;have i2:=h.wf.bN h.lv h.mid.int hhi (h.mid.var hr) zO;have Ga:d.v≠e.v:=λpL=>by rw[pL]at hh;omega
    simp only[aj,xac Ga,i1,i2]
   ·exact h.lv.inj _ _ (h.mid.var hr) hv hh
   exfalso;have hx:=h.wf.bN h.lv h.mid.int (r:=r) (.inr ⟨e,hr⟩) hv (by rw[an hr];exact hh);apply hne;refine h.wf.same h.lv h.mid.int hlo hhi λx=>?_;have i1:=h.wf.bN h.lv h.mid.int hlo hv hlt.1;have i2:=h.wf.bN h.lv h.mid.int hhi hv hlt.2;have q1:=hx x false;have q2:=hx x true;rw[RB]at q1 q2;have q3:=q1.trans q2.symm;unfold ite at q3;simp only[aj,xa6,i1,i2,xaS,xa2]at q3;exact q3
  have kJ:∀(b:Bool) x,S (if b then e.hi else e.lo) x=S (if b then d.hi else d.lo) x:=λb x=>by
   rw[<-h.wf.child h.lv h.mid.int hr x b,RB,Rw];have i1:=h.wf.bN h.lv h.mid.int hlo hv hlt.1;have i2:=h.wf.bN h.lv h.mid.int hhi hv hlt.2;unfold ite;rw[aj,xae rfl,i1,i2];cases b<;>rfl
  have e1:e.lo=d.lo:=h.wf.same h.lv h.mid.int (h.mid.lo hr) hlo λx=>kJ false x;have e2:e.hi=d.hi:=h.wf.same h.lv h.mid.int (h.mid.hi hr) hhi λx=>kJ true x;have hed:∀a b:Nd,a.v=b.v->a.lo=b.lo->a.hi=b.hi->a=b:=λa b h1 h2 h3=>by
   cases a;cases b;cases h1;cases h2;cases h3;rfl
  rw[hr,hed e d Rw e1 e2]
 obtain⟨l2,b1,b2,b3⟩:=hk;have:=cu (l:=ite S d::l1) (l':=l2) (xaV.2 ⟨YY,a1⟩) λg XB=>by
  rcases xak.1 XB with rfl|XB
  ·exact(b3 _).1 hg
  exact(b3 _).1 (hU g ((a3 g).2 XB))
 rw[xaw]at this;omega
end
end aA
namespace aA
open ak
def dW(N:eA)(v:Nat)(b:Bool)(r:Nat):Nat:=match N r with
 |some d=>if d.v=v then(if b then d.hi else d.lo)else r
 |none=>r
def iX(N:eA)(v:Nat)(b:Bool)(q:zL):zL:=q.map (dW N v b)
structure uy(n:Nat)(ah:Nat->Nat)(N:eA)(q:zL)(v:Nat):Prop where
 lt:v<n
 ex:∃r∈q,∃d,N r=some d/\d.v=v
 le:∀r∈q,ah v<=dep n ah N r
inductive Tree(n:Nat)(ah:Nat->Nat)(N:eA):zL->Nat->Prop
 |leaf {q:zL} (h:∀r∈q,N r=none):Tree n ah N q 0
 |node {q:zL} {v a b:Nat} (h:uy n ah N q v) (ha:Tree n ah N (iX N v false q) a) (hb:Tree n ah N (iX N v true q) b):Tree n ah N q (a+b+1)
def uv(t:Bool->Bool->Bool->Bool)(S:Nat->Fn)(q:zL):Fn:=λx=>t (S (q.getD 0 0) x) (S (q.getD 1 0) x) (S (q.getD 2 0) x)
section
variable {n:Nat} {ah:Nat->Nat} {N:eA} {S:Nat->Fn} {q:zL} {v:Nat}
theorem uy.uniq(hl:j5 n ah){u:Nat}(h:uy n ah N q v)(h':uy n ah N q u):v=u:=by
 obtain⟨r,hr,d,hd,rfl⟩:=h.ex;obtain⟨s,hs,e,he,rfl⟩:=h'.ex;have a:=h.le s hs;have b:=h'.le r hr;rw[an he]at a;rw[an hd]at b;exact hl.inj _ _ h.lt h'.lt zO
theorem gi(h:WF n ah N)(hl:j5 n ah)(hi:Interp N S){r:Nat}(hr:live N r)(hv:v<n)(hle:ah v<=dep n ah N r)(b:Bool):
  (∀x,S (dW N v b r) x=S r (aB x v b))/\live N (dW N v b r)/\ah v+1<=dep n ah N (dW N v b r):=by
 have hlt:=hl.lt v hv;unfold dW;cases e:N r with
 |none=>
  simp only;refine⟨λx=>?_,hr,by rw[aU e];omega⟩;exact(h.bN hl hi hr hv (by rw[aU e];exact hlt) x b).symm
 |some d=>
  simp only;rw[an e]at hle;by_cases ev:d.v=v
  ·rw[xae ev];subst ev;refine⟨λx=>(h.child hl hi e x b).symm,?_,?_⟩
   ·cases b
    ·exact(h.lo e).1
    exact(h.hi e).1
   cases b
   ·exact(h.lo e).2
   exact(h.hi e).2
  rw[xac ev];have hne:ah v≠ah d.v:=λe2=>ev (hl.inj _ _ (h.var e) hv e2.symm);refine⟨λx=>(h.bN hl hi hr hv (by rw[an e];omega) x b).symm,hr,by rw[an e];omega⟩
theorem SW(b:Bool):(iX N v b q).length=q.length:=by simp[iX]
theorem SX{b:Bool}{i:Nat}(hi:i<q.length):(iX N v b q).getD i 0=dW N v b (q.getD i 0):=by
 simp[iX,List.getD,xaa hi]
theorem o9(h:WF n ah N)(hl:j5 n ah)(hi:Interp N S)(hq:∀r∈q,live N r)(ht:uy n ah N q v)(b:Bool):
  (∀r∈iX N v b q,live N r)/\(∀r∈iX N v b q,ah v+1<=dep n ah N r):=by
 constructor
 ·intro r hr;obtain⟨s,hs,rfl⟩:=xam.1 hr;exact(gi h hl hi (hq s hs) ht.lt (ht.le s hs) b).2.1
 intro r hr;obtain⟨s,hs,rfl⟩:=xam.1 hr;exact(gi h hl hi (hq s hs) ht.lt (ht.le s hs) b).2.2
theorem LG(h:WF n ah N)(hl:j5 n ah)(hi:Interp N S)(h3:q.length=3)(hq:∀r∈q,live N r)(ht:uy n ah N q v)(t:Bool->Bool->Bool->Bool)(b:Bool):uv t S (iX N v b q)=λx=>uv t S q (aB x v b):=by
 funext x
 have key:∀i,i<3->S ((iX N v b q).getD i 0) x=S (q.getD i 0) (aB x v b):=λi Zf=>by
  have hi':i<q.length:=by omega
  rw[SX hi'];have hm:q.getD i 0∈q:=by rw[xar,xaa hi'];exact xaB _
  exact(gi h hl hi (hq _ hm) ht.lt (ht.le _ hm) b).1 x
 unfold uv;rw[key 0 zO,key 1 zO,key 2 zO]
theorem zu(h:WF n ah N)(hl:j5 n ah)(hi:Interp N S){ord:zL}(ho:Ord n ah ord)(h3:q.length=3)(hq:∀r∈q,live N r){l:Nat}(BL:l<=n)(hle:∀r∈q,l<=dep n ah N r)(t:Bool->Bool->Bool->Bool):∀j,j<l->¬cC (uv t S q) (ord.getD j 0):=by
 rintro j hj ⟨x,hx⟩;apply hx;obtain⟨o1,o2⟩:=ho.bc j zO;have key:∀i,i<3->∀b,S (q.getD i 0) (aB x (ord.getD j 0) b)=S (q.getD i 0) x:=λi Zf b=>by
  have hi':i<q.length:=by omega
  have hm:q.getD i 0∈q:=by rw[xar,xaa hi'];exact xaB _
  exact h.bN hl hi (hq _ hm) o1 (by rw[o2];exact xaP hj (hle _ hm)) x b
 unfold uv;simp only[key 0 zO,key 1 zO,key 2 zO]
theorem NP(hi:Interp N S)(h3:q.length=3)(hq:∀r∈q,r<2)(t:Bool->Bool->Bool->Bool)(x:Nat):uv t S q x=t (decide (q.getD 0 0=1)) (decide (q.getD 1 0=1)) (decide (q.getD 2 0=1)):=by
 have key:∀i,i<3->S (q.getD i 0) x=decide (q.getD i 0=1):=λi Zf=>by
  have hi':i<q.length:=by omega
  have hm:q.getD i 0∈q:=by rw[xar,xaa hi'];exact xaB _
  have:=hq _ hm;have h2:q.getD i 0=0\/q.getD i 0=1:=by omega
  rcases h2 with e|e<;>rw[e]
  ·rw[hi.zero];rfl
  rw[hi.one];rfl
 unfold uv;rw[key 0 zO,key 1 zO,key 2 zO]
theorem PT(h:WF n ah N):∀{q:zL},(∃r∈q,∃d,N r=some d)->(hl:j5 n ah)->∃v,uy n ah N q v
 | [],he,_=>by obtain⟨r,hr,_⟩:=he;cases hr
 |s::q,he,hl=>by
  by_cases hq:∃r∈q,∃d,N r=some d
  ·obtain⟨v,hv⟩:=PT h hq hl;cases es:N s with
   |none=>
    refine⟨v,hv.lt,?_,λr hr=>?_⟩
    ·obtain⟨r,hr,x⟩:=hv.ex;exact⟨r,by simp[hr],x⟩
    rcases xak.1 hr with rfl|hr
    ·rw[aU es];exact xb7 (hl.lt v hv.lt)
    exact hv.le r hr
   |some d=>
    by_cases hlt:ah d.v<=ah v
    ·refine⟨d.v,h.var es,⟨s,by simp,d,es,rfl⟩,λr hr=>?_⟩;rcases xak.1 hr with rfl|hr
     ·rw[an es];exact xaj _
     exact xbw hlt (hv.le r hr)
    refine⟨v,hv.lt,?_,λr hr=>?_⟩
    ·obtain⟨r,hr,x⟩:=hv.ex;exact⟨r,by simp[hr],x⟩
    rcases xak.1 hr with rfl|hr
    ·rw[an es];omega
    exact hv.le r hr
  obtain⟨r,hr,d,hd⟩:=he;rcases xak.1 hr with rfl|hr
  ·refine⟨d.v,h.var hd,⟨r,by simp,d,hd,rfl⟩,λs hs=>?_⟩;rcases xak.1 hs with rfl|hs
   ·rw[an hd];exact xaj _
   have:N s=none:=by
    cases e:N s with
    |none=>rfl
    |some d'=>exact absurd ⟨s,hs,d',e⟩ hq
   rw[aU this];exact xb7 (hl.lt _ (h.var hd))
  exact absurd ⟨r,hr,d,hd⟩ hq
theorem Uo(h:WF n ah N)(hl:j5 n ah)(hi:Interp N S):∀(k l:Nat) (q:zL),n-l<=k->l<=n->(∀r∈q,live N r)->(∀r∈q,l<=dep n ah N r)->∃c,Tree n ah N q c/\c+1<=2^(n-l):=by
 intro k;induction k with
 |zero=>
  intro l q hk BL hq hd;refine⟨0,.leaf λr hr=>?_,xeg⟩;cases e:N r with
  |none=>rfl
  |some d=>have:=hd r hr;rw[an e]at this;have:=hl.lt _ (h.var e);omega
 |succ k ih=>
  intro l q hk BL hq hd;by_cases he:∃r∈q,∃d,N r=some d
  ·obtain⟨v,hv⟩:=PT h he hl;have hlv:=hl.lt v hv.lt;have ni:l<=ah v:=by
    obtain⟨r,hr,d,dN,rfl⟩:=hv.ex;have:=hd r hr;rwa [an dN]at this
   obtain⟨f1,f2⟩:=o9 (S:=S) h hl hi hq hv false;obtain⟨t1,t2⟩:=o9 (S:=S) h hl hi hq hv true;obtain⟨a,ha,qu⟩:=ih (ah v+1) _ zO hlv f1 f2;obtain⟨b,hb,tF⟩:=ih (ah v+1) _ zO hlv t1 t2;refine⟨a+b+1,.node hv ha hb,?_⟩;have e1:2^(n-ah v)=2*2^(n-(ah v+1)):=by
    rw[show n-ah v=(n-(ah v+1))+1 by omega,xd2,xck]
   have e2:2^(n-ah v)<=2^(n-l):=xaz zD zO;omega
  refine⟨0,.leaf λr hr=>?_,xeg⟩;cases e:N r with
  |none=>rfl
  |some d=>exact absurd ⟨r,hr,d,e⟩ he
def mO(N:eA)(v:Nat)(b:Bool)(q:zL)(i:Nat):zL:=(iX N v b q).take i++q.drop i
theorem C9{b:Bool}{i:Nat}(hi:i<=q.length):(mO N v b q i).length=q.length:=by simp[mO,iX];omega
theorem yN(b:Bool):mO N v b q 0=q:=by simp[mO]
theorem QX(b:Bool):mO N v b q q.length=iX N v b q:=by
 unfold mO;rw[xcv (by rw[SW];exact xaj _),xet,xaL]
theorem sD{b:Bool}{i r:Nat}(hr:q[i]? =some r):(mO N v b q i).set i (dW N v b r)=mO N v b q (i+1):=by
 have hi:=(xah.1 hr).1;have he:=(xah.1 hr).2;have hl:((iX N v b q).take i).length=i:=by simp[iX];omega
 have hc:(iX N v b q)[i]? =some (dW N v b r):=by simp[iX,hr]
 unfold mO;rw[xcB _ _ zO,hl,xc8,xbs hi,xcy,xbo,hc,xai];rfl
theorem yO{b:Bool}{i r:Nat}(hr:q[i]? =some r)(h:dW N v b r=r):mO N v b q (i+1)=mO N v b q i:=by
 rw[<-sD hr,h];have hi:=(xah.1 hr).1;have he:=(xah.1 hr).2;have hl:((iX N v b q).take i).length=i:=by simp[iX];omega
 unfold mO;rw[xcB _ _ zO,hl,xc8,xbs hi,xcy,he]
end
end aA
set_option maxRecDepth 100000
namespace Go.Proofs
open Go Go.Sx Tryz
section
open aA
noncomputable instance {K:Kd}{S:Nat->aA.Fn}{ord:zL}{l:Nat}:Decidable (jc K S ord l):=Nat.decLe _ _
noncomputable def rm(K:Kd)(S:Nat->aA.Fn):Rm:=⟨K.n,cF K S,λord l=>decide (jc K S ord l)⟩
theorem qe{K:Kd}{S:Nat->aA.Fn}{ord:zL}{l:Nat}:(rm K S).fit ord l=true↔jc K S ord l:=by
 show decide (jc K S ord l)=true↔_;exact decide_eq_true_iff
def Box(kp b1 me:Nat)(cs:zL)(B:Hp):Prop:=∃vc Cc,B=(b1,.cells #[ptr kp] 85 zZ)::(me,.cells #[vc] 43 zZ)::Cc/\aO 3 .i64 vc (iw cs) Cc
section
variable {kp b1 me w p:Nat} {K:Kd} {S:Nat->aA.Fn} {ord tr:zL} {B C:Hp}
theorem PG(hB:Box kp b1 me (mc w) B)(h:At kp K S ord tr C)(hp:p+w<=K.n)(eM:tr.length<17454747090944):
  Fc zQ 270 #[iv (p:Int),ptr b1,ptr me] (B++C) (λv H=>v=iv ((((rm K S).visit w p ord).2:Nat):Int)/\∃C',H=B++C'/\At kp K S (az ord ((rm K S).visit w p ord).1) (tr++((rm K S).visit w p ord).1) C'):=by
 obtain⟨vc,Cc,rfl,hc⟩:=hB;have hn:=h.lB;have hlen:=h.len;have fN:=LM w
 let m:=rm K S
 let path:=m.dJ p (mc w) ord
 have ze:path.length<=(mc w).length:=m.l7 p _ _;have Pj:∀l∈path,l+1<K.n:=λl hl=>by
  obtain⟨c,hc,rfl⟩:=m.DJ p hl;have:=Gx hc;omega
 let P0:Hp->Hp:=λX=>(b1,.cells #[ptr kp] 85 zZ)::(me,.cells #[vc] 43 zZ)::(Cc++X)
 refine aE λg=>IK ?_;rw[xaO,xaO];refine DR.self (Ld.q ?_);refine Ld.q ?_;refine aa.eq (rU h) (⟨.refl _,?_⟩);refine aa.eq (cE h) (⟨.refl _,?_⟩);intro J8 hJ8;have fin:∀C2,At kp K S (az ord path) (tr++path) C2->J8 [iv ((m.keep ord path path.length:Nat):Int),iv ((path.length:Nat):Int)] (P0 C2):=λC2 h2=>by
  refine hJ8 _ _ _ λgs=>?_;refine Ld.q ?_;have hk:=m.AX ord path path.length;refine ae.fH (aa.fq (LR h2 Pj hk (by rw[xaf];omega)) ?_);rintro v C' ⟨rfl,h3⟩;exact Ext.two (ae.fH (aM.here ⟨rfl,C',by simp only[xaO],h3⟩))
 refine Ld.q ?_;refine hc.bP ?_;rw[aq];refine⟨λvs H=>∃i C2,i<=path.length/\vs=[iv ((cF K S (az ord (path.take (m.keep ord path i))):Nat):Int),iv ((m.keep ord path i:Nat):Int),iv (i:Int),iv (i:Int)]/\H=P0 C2/\At kp K S (az ord (path.take i)) (tr++path.take i) C2,
  λvs _=>(mc w).length-bJ vs 3,JE.mk ⟨0,C,xaM _,rfl,rfl,by simpa[az]using h⟩,?_⟩
 rintro w26 w27 w28 w29 H ⟨i,C2,hi,hw,rfl,h2⟩ gs;simp only[xau,xa1]at hw;obtain⟨rfl,rfl,rfl,rfl⟩:=hw;refine ae.eZ (Br.dec (λhlt=>?_) (λhlt=>?_));rotate_left
 ·obtain rfl:i=path.length:=by omega
  rw[xba]at h2;exact JE.mk (fin C2 h2)
 intro J31 Sq;have pM:(mc w)[i]? =some (mc w)[i]:=xaa hlt;have Gd:(mc w)[i]+2<=w:=Gx (xaB _);refine hc.ld (x:=(((mc w)[i]:Nat):Int)) (by rw[bH hlt,List.getD,pM];rfl) (bG.sub (.cons (.cons .left))) (Ld.q ?_);refine ae.fH ?_;by_cases A4:i=path.length
 ·-- no room
  subst A4;rw[xba]at h2;have hno:¬jc K S (az ord path) (p+(mc w)[path.length]):=λhf=>by
   have:=m.wq p (mc w) ord _ pM;have h9:=qe.2 hf;rw[show(rm K S).fit (az ord path) (p+(mc w)[path.length])=false from this]at h9;cases h9
  refine aa.eq (X6 h2 zO (by rw[xaf];omega) hno) (Ext.two λb46 _=>(St.q ?_));exact ae.cL (Br.T (JE.of .tail (fin C2 h2)))
 have RO:i<path.length:=by omega
 obtain⟨e1,c',e2,hf⟩:=m.rI p (mc w) ord i RO;rw[pM]at e1 e2;cases e2;have Rv:jc K S (az ord (path.take i)) (p+(mc w)[i]):=qe.1 hf;have nv:path.take (i+1)=path.take i++[p+(mc w)[i]]:=by
  rw[xbo,show path[i]? =some (p+(mc w)[i])from e1];rfl
 refine aa.fq (X5 h2 zO (by rw[xaf,xbB];omega) Rv) ?_;rintro v C3 ⟨rfl,h3⟩;rw[<-gA,xai,<-nv]at h3;refine Ext.two λb46 _=>(St.q ?_);refine ae.cL (Br.F (ae.inc (Ld.f ?_)));rw[<-gA,<-nv];refine ae.eZ (Br.dec (λuk=>?_) (λuk=>?_))
 ·have hk:m.keep ord path (i+1)=i+1:=by rw[Rm.keep];exact xae uk
  refine ai.mk (Ld.mk (v:=iv ((cF K S (az ord (path.take (i+1))):Nat):Int)) (by exact .head _) rfl ?_);refine JE.mk (Sq _ _ _ _ λgs=>?_);refine ae.inc (aC.of .tail ⟨i+1,C3,RO,by rw[hk],rfl,h3⟩ ?_);show(mc w).length-(((i+1:Nat):Int).toNat)<(mc w).length-(((i:Nat):Int).toNat);omega
 have hk:m.keep ord path (i+1)=m.keep ord path i:=by rw[Rm.keep];exact xac uk
 refine JE.mk (Sq _ _ _ _ λgs=>?_);refine ae.inc (aC.of .tail ⟨i+1,C3,RO,by rw[hk],rfl,h3⟩ ?_);show(mc w).length-(((i+1:Nat):Int).toNat)<(mc w).length-(((i:Nat):Int).toNat);omega
end
end
section
open aA
def rep(b a s:Nat):zV:=.agg #[iv (b:Int),iv (a:Int),iv (s:Int),.bool false]
def mJ(b1 me b a s:Nat):Array zV:=#[.func (.func 270) #[] #[ptr b1,ptr me],iv (b:Int),iv (a:Int),iv (s:Int),.bool false]
def Pass(pp kp w b a s:Nat)(B:Hp):Prop:=∃b1 me B',B=(pp,.cells (mJ b1 me b a s) 252 zZ)::B'/\Box kp b1 me (mc w) B'
section
variable {pp kp w p bf af sw:Nat} {K:Kd} {S:Nat->aA.Fn} {ord tr:zL} {B C:Hp}
theorem Mg(kp:Nat)(w:Int)(C:Hp):Rd zQ 189 #[ptr kp,iv w] C (· =iv (if w<2\/4<w then 1 else 0)):=by
 refine aE λg=>Jx (ae.aH (Br.no (ae.lss (dc.or (decide (4<w)) (λ_=>ae.gtr ⟨rfl,rfl⟩) zI λgs=>?_))));rw[<-xa7];exact Br.dec (λh=>bg.mk (.refl _) (by rw[xae h])) (λh=>bg.mk (.refl _) (by rw[xac h]))
theorem Ti(h:At kp K S ord tr C)(hw:2<=w/\w<=4):Fc zQ 190 #[ptr kp,iv (w:Int)] C (λv H=>∃pp B,v=ptr pp/\H=B++C/\Pass pp kp w (cF K S ord) (cF K S ord) 0 B):=by
 refine aE λg=>Jw λb1 _=>?_;refine DR.self (Ld.q ?_);refine Ld.q ?_;refine aa.eq (cE h) (⟨.refl _,?_⟩);refine aa.eq (cE h) (⟨.refl _,?_⟩);refine Build.mk (cs:=[iv ((cF K S ord:Nat):Int),iv ((cF K S ord:Nat):Int),iv 0,.bool false]) zK (Build.mk (cs:=[.nilFunc,iv ((cF K S ord:Nat):Int),iv ((cF K S ord:Nat):Int),iv 0,.bool false]) zK λT6 _=>?_);refine⟨.tail,?_⟩;refine aa.fn hnew (Gy hw) ?_;rintro v Cc ⟨s,rfl,hc⟩;obtain⟨sa,sl,sc,rfl⟩:∃a l c,s=Value.slice a l c:=by obtain⟨a,c,h⟩:=aV.len hc;exact⟨a,_,c,h⟩
 refine Ext.two λme _=>(St.one (c':=#[.slice sa sl sc]) (by exact .head _) rfl zI rfl ?_);refine Nil.ptr (ai.mk (St.one (c':=mJ b1 me (cF K S ord) (cF K S ord) 0) (by repeat (first|exact c6.head _|apply c6.tail|apply c6.ca)) rfl (by simp[Value.cells]) rfl ?_));refine aM.mk (nD:=((T6,.cells (mJ b1 me (cF K S ord) (cF K S ord) 0) 252 zZ)::(b1,.cells #[ptr kp] 85 zZ)::(me,.cells #[.slice sa sl sc] 43 zZ)::Cc)++C) (.perm ?_) ⟨T6,_,rfl,rfl,b1,me,_,rfl,_,Cc,rfl,hc⟩;refine(List.Perm.cons _ (xaT.trans (List.Perm.cons _ xaT))).trans ?_;refine(List.Perm.swap _ _ _).trans (List.Perm.cons _ (List.Perm.swap _ _ _))
theorem adb(hB:Pass pp kp w bf af sw B)(h:At kp K S ord tr C)(hp:p+w<=K.n)(eM:tr.length<17454747090944)(hs:sw<4611686018427387904):
  Fc zQ 274 #[ptr pp,ptr kp,iv (p:Int)] (B++C) (λv H=>v=.tuple #[]/\∃B' C',H=B'++C'/\Pass pp kp w bf (cF K S (az ord ((rm K S).visit w p ord).1)) (sw+((rm K S).visit w p ord).2) B'/\At kp K S (az ord ((rm K S).visit w p ord).1) (tr++((rm K S).visit w p ord).1) C'):=by
 obtain⟨b1,me,B',rfl,hb⟩:=hB;have hv:=((rm K S).r6 w p ord).2;refine aE λg=>IG (DR.of (R:=[(pp,.cells (mJ b1 me bf af sw) 252 zZ)]) (.cons .nil) (Nil.ptr (ai.mk (Ld.f ?_))));refine Ld.n ?_;refine aF.of rfl zK (aa.fq (args:=#[iv (p:Int),ptr b1,ptr me]) (PG hb h hp eM) ?_);rintro v H ⟨rfl,C',rfl,h'⟩;refine⟨.cons .nil,?_⟩;refine ae.fH (Nil.ptr (ai.mk (ai.mk (St.one (c':=mJ b1 me bf af (sw+((rm K S).visit w p ord).2)) (by exact .head _) rfl (by simp[mJ]) rfl ?_))));refine aa.eq (cE h') (Nil.ptr (ai.mk (ai.mk (St.one (c':=mJ b1 me bf (cF K S (az ord ((rm K S).visit w p ord).1)) (sw+((rm K S).visit w p ord).2)) (by exact .head _) rfl (by simp[mJ]) rfl ?_))));exact aM.here ⟨rfl,_::B',C',rfl,⟨b1,me,B',rfl,hb⟩,h'⟩
theorem Ud(hB:Pass pp kp w bf (cF K S ord) sw B)(h:At kp K S ord tr C)(hw:2<=w/\w<=4)(eM:tr.length<17317308137472)(hs:sw<2305843009213693952):
  Fc zQ 191 #[ptr pp,ptr kp,iv (w:Int)] (B++C) (λv H=>v=.tuple #[]/\∃B' C',H=B'++C'/\Pass pp kp w bf (cF K S (az ord ((rm K S).pass w ord).1)) (sw+((rm K S).pass w ord).2) B'/\At kp K S (az ord ((rm K S).pass w ord).1) (tr++((rm K S).pass w ord).1) C'):=by
 have hn:=h.lB;refine aE λg=>Jv ?_;refine⟨λvs H=>∃i B' C',i<=K.n+1-w/\vs=[iv ((i:Nat):Int)]/\H=B'++C'/\Pass pp kp w bf (cF K S (az ord ((rm K S).all w ord i).1)) (sw+((rm K S).all w ord i).2) B'/\At kp K S (az ord ((rm K S).all w ord i).1) (tr++((rm K S).all w ord i).1) C',
  λvs _=>K.n+1-bJ vs 0,JE.mk ⟨0,B,C,xaM _,rfl,rfl,by simpa[Rm.all,az]using hB,by simpa[Rm.all,az]using h⟩,?_⟩
 rintro w5 H ⟨i,B',C',hi,⟨⟩,rfl,hp,ha⟩ gs;have V5:=(rm K S).LX w ord i;refine ae.fH (aa.eq (m4 ha) (ae.BH (Br.dec (λhle=>?_) (λhle=>?_))))
 ·refine aa.fq (adb hp ha zO (by rw[xaf];omega) zO) ?_;rintro v H ⟨rfl,B2,C2,rfl,lY,qu⟩;rw[<-cq,xai,xcV]at*;refine ae.inc (aC.of (.refl _) ⟨i+1,B2,C2,by omega,rfl,rfl,by rw[Rm.all_succ];exact lY,by rw[Rm.all_succ];exact qu⟩ ?_);show K.n+1-(((i+1:Nat):Int).toNat)<K.n+1-(((i:Nat):Int).toNat);omega
 obtain rfl:i=K.n+1-w:=by omega
 exact aM.here ⟨rfl,B',C',rfl,hp,ha⟩
end
section
variable {pp kp w p bf af sw:Nat} {K:Kd} {S:Nat->aA.Fn} {ord tr:zL} {B C:Hp}
theorem WM(h:At kp K S ord tr C)(hw:2<=w/\w<=4)(eM:tr.length<17317308137472):
  Fc zQ 137 #[ptr kp,iv (w:Int)] C (λv H=>v=.tuple #[rep (cF K S ord) (cF K S (az ord ((rm K S).pass w ord).1)) ((rm K S).pass w ord).2,iv 0]/\At kp K S (az ord ((rm K S).pass w ord).1) (tr++((rm K S).pass w ord).1) H):=by
 have hn:=h.lB;refine aE λg=>JW λb1 _=>?_;refine aa.eq (Mg kp w C) ?_;rw[xac zO];refine ae.cL (Br.F (aa.fq (Ti h hw) ?_));rintro v H ⟨pp,B,rfl,rfl,hB⟩;refine aa.fq (Ud hB h hw eM zO) ?_;rintro v H ⟨rfl,B',C',rfl,hB',h'⟩;rw[xa3]at hB';obtain⟨x1,x18,B2,rfl,hb⟩:=hB';refine Nil.ptr (ai.mk (ay.mk (vs:=#[iv ((cF K S ord:Nat):Int),iv ((cF K S (az ord ((rm K S).pass w ord).1):Nat):Int),iv ((((rm K S).pass w ord).2:Nat):Int),.bool false]) (by exact .tail _ (.head _)) (by simp[mJ]) rfl ?_));refine St.q ?_;refine ay.q ?_;exact aM.mk (.skip .right) ⟨rfl,h'⟩
end
theorem bH{ws:zL}{i:Nat}(h:i<ws.length):(iw ws)[i]? =some ((ws.getD i 0:Nat):Int):=by
 rw[cP (w:=ws.getD i 0)];rw[xar,xaa h];rfl
def abk(n:Nat)(p:List Int):Prop:=p.length=n/\∀v:Nat,v<n->p.count (v:Int)=1
instance (n:Nat)(p:List Int):Decidable (abk n p):=by unfold abk;infer_instance
theorem Rs{p:List Int}{x:Int}{i:Nat}(h:x∉p.take i)(hi:i<p.length)(he:p[i]=x):p.idxOf x=i:=by
 have e:p=p.take i++p[i]::p.drop (i+1):=by
  conv=>lhs;rw[<-xbr i p]
  rw[xbs hi]
 conv=>lhs;rw[e]
 rw[List.idxOf_append,xac h,he,List.idxOf_cons_self,xbB];omega
def tQ(p:List Int):Prop:=∀v:Nat,v<p.length->(v:Int)∈p
theorem wZ{p:zL}{n:Nat}(hp:p.Perm (List.range n)):tQ (iw p):=λv hv=>by
 rw[aq,hp.length_eq,xaJ]at hv;exact xam.2 ⟨v,hp.mem_iff.2 (xaN.2 hv),rfl⟩
theorem QY{q:zL}{x:Nat}:(x:Int)∈iw q↔x∈q:=by
 unfold iw;rw[xam];exact⟨λ⟨y,hy,e⟩=>by rw[<-Int.ofNat.inj e];exact hy,λh=>⟨x,h,rfl⟩⟩
theorem YH(q:zL)(x:Nat):(iw q).idxOf (x:Int)=q.idxOf x:=by
 induction q with
 |nil=>rfl
 |cons y q ih=>
  show(((y:Nat):Int)::iw q).idxOf (x:Int)=_;rw[List.idxOf_cons,List.idxOf_cons,ih];have:(((y:Nat):Int)==(x:Int))=(y==x):=by
   rw[xbS];simp[xex]
  rw[this]
theorem Bh(a k:Nat):decide ((a>>>k)%2=1)=a.testBit k:=by
 cases hb:a.testBit k
 ·rw[xal];rw[ak.LP,hb];simp
 rw[xan];rw[ak.LP,hb]
theorem Sz{ord:zL}{F G:aA.Fn->Prop}(h:∀g,F g->G g):∀l g,fs ord F l g->fs ord G l g
 |0,g,hg=>h g hg
 |l+1,g,⟨f,hf,b,e⟩=>⟨f,Sz h l f hf,b,e⟩
theorem cH{n:Nat}{ord:zL}{F G:aA.Fn->Prop}(h:∀g,F g->G g){g:aA.Fn}(hg:aG n ord F g):aG n ord G g:=let ⟨l,a,b,c⟩:=hg;⟨l,a,Sz h l g b,c⟩
structure kP(K:Kd)(S:Nat->aA.Fn)(K':Kd)(S':Nat->aA.Fn)(f:aA.Fn)(r:Nat):Prop where
 n:K'.n=K.n
 cap:K'.cap=K.cap
 N:∀s d,K.N s=some d->K'.N s=some d
 fn:∀s,live K.N s->S' s=S s
 live:live K'.N r
 is:S' r=f
 hold:∀s,K'.hold s=K.hold s+if s=r/\2<=r then 1 else 0
theorem ct{N N':eA}(h:∀s d,N s=some d->N' s=some d){s:Nat}(hs:live N s):live N' s:=by
 rcases hs with hs|⟨d,hd⟩
 ·exact .inl hs
 exact .inr ⟨d,h s d hd⟩
theorem jW{K K5:Kd}{S S5:Nat->aA.Fn}{ah:Nat->Nat}(hK:Ok K S ah)(Lv:Ok K5 S5 ah)(hold:∀s,K.hold s≠0->K5.hold s≠0)(h3:∀s d d',K.N s=some d->K5.N s=some d'->d'=d):
  ∀(k s:Nat) (d:Nd),K.N s=some d->ah d.v<=k->K5.N s=some d:=by
 intro k;induction k with
 |zero=>
  intro s d hd hl;have fin:live K5.N s->K5.N s=some d:=λhs=>by
   rcases hs with hs|⟨d',dN⟩
   ·have:=(hK.mid.two hd).1;omega
   rw[dN,h3 s d d' hd dN]
  rcases hK.reach s d hd with h|⟨p,e,hp,he⟩
  ·exact fin (.inr (Lv.mid.held s (hold s h)))
  have h1:=hK.wf.lo hp;have h2:=hK.wf.hi hp;rcases he with rfl|rfl
  ·have:=h1.2;rw[an hd]at this;omega
  have:=h2.2;rw[an hd]at this;omega
 |succ k ih=>
  intro s d hd hl;have fin:live K5.N s->K5.N s=some d:=λhs=>by
   rcases hs with hs|⟨d',dN⟩
   ·have:=(hK.mid.two hd).1;omega
   rw[dN,h3 s d d' hd dN]
  rcases hK.reach s d hd with h|⟨p,e,hp,he⟩
  ·exact fin (.inr (Lv.mid.held s (hold s h)))
  have h1:=hK.wf.lo hp;have h2:=hK.wf.hi hp;rcases he with rfl|rfl
  ·have:=h1.2;rw[an hd]at this;exact fin (Lv.mid.lo (ih p e hp zO))
  have:=h2.2;rw[an hd]at this;exact fin (Lv.mid.hi (ih p e hp zO))
theorem kP.held{K K':Kd}{S S':Nat->aA.Fn}{f:aA.Fn}{r:Nat}(h:kP K S K' S' f r)(hm:∀s,K.hold s≠0->aA.live K.N s)(g:aA.Fn)(hg:K'.held S' g):K.held S g\/g=f:=by
 obtain⟨s,hs,rfl⟩:=hg;by_cases h0:K.hold s=0
 ·right;have:=h.hold s;have hs':K'.hold s≠0:=hs;rw[h0]at this;by_cases e:s=r/\2<=r
  ·rw[e.1];exact h.is
  rw[xac e]at this;omega
 exact .inl ⟨s,h0,h.fn s (hm s h0)⟩
end
end Go.Proofs
namespace aA
open ak
section
variable {K:Kd} {S:Nat->Fn} {ah:Nat->Nat}
theorem Ok.U5(h:Ok K S ah){d e:Nd}{r:Nat}
 (hlo:live K.N d.lo)(hhi:live K.N d.hi)(hne:d.lo≠d.hi)(hv:d.v<K.n)(hlt:ah d.v<dep K.n ah K.N d.lo/\ah d.v<dep K.n ah K.N d.hi)(hr:K.N r=some e)(RB:S r=ite S d):e=d:=by
 have Rw:e.v=d.v:=by
  have e1:=h.lv.lt e.v (h.mid.var hr);have e2:=h.lv.lt d.v hv;rcases xcJ (ah e.v) (ah d.v)with hh|hh|hh
  ·exfalso;obtain⟨z,hz⟩:=gm h.wf h.lv h.mid.int hr;rw[RB]at hz;apply hz;unfold ite;have i1:=h.wf.bN h.lv h.mid.int hlo (h.mid.var hr) zO;have i2:=h.wf.bN h.lv h.mid.int hhi (h.mid.var hr) zO;have Ga:d.v≠e.v:=λpL=>by rw[pL]at hh;omega
   simp only[aj,xac Ga,i1,i2]
  ·exact h.lv.inj _ _ (h.mid.var hr) hv hh
  exfalso;have hx:=h.wf.bN h.lv h.mid.int (r:=r) (.inr ⟨e,hr⟩) hv (by rw[an hr];exact hh);apply hne;refine h.wf.same h.lv h.mid.int hlo hhi λx=>?_;have i1:=h.wf.bN h.lv h.mid.int hlo hv hlt.1;have i2:=h.wf.bN h.lv h.mid.int hhi hv hlt.2;have q1:=hx x false;have q2:=hx x true;rw[RB]at q1 q2;have q3:=q1.trans q2.symm;unfold ite at q3;simp only[aj,xa6,i1,i2,xaS,xa2]at q3;exact q3
 have kJ:∀(b:Bool) x,S (if b then e.hi else e.lo) x=S (if b then d.hi else d.lo) x:=λb x=>by
  rw[<-h.wf.child h.lv h.mid.int hr x b,RB,Rw];have i1:=h.wf.bN h.lv h.mid.int hlo hv hlt.1;have i2:=h.wf.bN h.lv h.mid.int hhi hv hlt.2;unfold ite;rw[aj,xae rfl,i1,i2];cases b<;>rfl
 have e1:e.lo=d.lo:=h.wf.same h.lv h.mid.int (h.mid.lo hr) hlo λx=>kJ false x;have e2:e.hi=d.hi:=h.wf.same h.lv h.mid.int (h.mid.hi hr) hhi λx=>kJ true x;have hed:∀a b:Nd,a.v=b.v->a.lo=b.lo->a.hi=b.hi->a=b:=λa b h1 h2 h3=>by
  cases a;cases b;cases h1;cases h2;cases h3;rfl
 exact hed e d Rw e1 e2
end
end aA
set_option maxRecDepth 100000
namespace Go.Proofs
open Go Go.Sx Tryz
section
open aA
def gy(bw kp:Nat)(vl vm:zV):Nat×Obj:=(bw,.cells #[ptr kp,vl,vm] 305 zZ)
abbrev Q3:=Nat×Nat×Nat
def l3(q:Q3):zL:=[q.1,q.2.1,q.2.2]
def kq(q:Q3):zV:=.agg (ax .u32 (iw (l3 q)))
theorem Vv{a b:zL}(h:iw a=iw b):a=b:=by
 induction a generalizing b with
 |nil=>cases b with
  |nil=>rfl
  |cons y b=>simp[iw]at h
 |cons x a ih=>cases b with
  |nil=>simp[iw]at h
  |cons y b=>
   simp only[iw,xay,xau]at h;rw[Int.ofNat.inj h.1,ih h.2]
theorem YA{a b:Q3}(h:l3 a=l3 b):a=b:=by
 obtain⟨a1,a2,a3⟩:=a;obtain⟨b1,b2,b3⟩:=b;simp[l3]at h;rw[h.1,h.2.1,h.2.2]
theorem vW(a b:Q3):Bz zQ 236 (kq a) (kq b) (decide (a=b)):=by
 have:=Bz.array (P:=zQ) (t:=236) (e:=110) (q:=.u32) (n:=3) zK zK zK (iw (l3 a)) (iw (l3 b)) rfl rfl;have e:decide (iw (l3 a)=iw (l3 b))=decide (a=b):=xcm.2 ⟨λh=>YA (Vv h),λh=>by rw[h]⟩;rw[e]at this;exact this
theorem qs(a:Q3):mr zQ 236 (kq a):=mr.array (P:=zQ) (t:=236) (e:=110) (q:=.u32) (n:=3) zK zK zK _ rfl
theorem AW(a:Q3):Instr.sameBits 10000 (kq a) (kq a)=true:=kQ 9998 λx hx=>.inl (by simp[ax]at hx;obtain⟨n,_,rfl⟩:=hx;exact⟨_,_,rfl⟩)
section
variable {kp bw:Nat} {vl vm:zV} {K:Kd} {S:Nat->aA.Fn} {ord ah tr:zL} {C:Hp}
theorem Ob{H:Hp}{r:List zV}{K:zV->Hp->Prop}(hl:r.length=3)(h:∀b,K (.slice (some ⟨b,0,none⟩) 1 1) ((b,.cells r.toArray 226 zZ)::H)):au zQ 309 1 [(0,.agg r.toArray)] H K:=
 au.one (r:=r) (e:=226) (k:=3) (z:=.agg #[iv 0,.int .u32 0,.int .u32 0]) zK zK zK zD hl h
theorem z7{X Y:Hp}(h:cS kp K ord ah tr C)(q:Q3)(hq:∀r∈l3 q,r<4294967296):
  Fc zQ 253 #[ptr bw,kq q] (gy bw kp vl vm::(X++(Y++C))) (λv H=>∃CN,H=CN++(gy bw kp vl vm::(X++(Y++C)))/\aV 226 3 v ((l3 q).map (got K.N)) CN):=by
 have hlen:(l3 q).length=3:=rfl;refine aE λg=>I1 λb1 _=>?_;refine ay.q ?_;refine⟨λvs H=>∃(i:Nat) (u:zV) (CN:Hp),vs=[u,iv (i:Int)]/\i<=3/\H=CN++((b1,.cells (ax .u32 (iw (l3 q))) 236 zZ)::(gy bw kp vl vm::(X++(Y++C))))/\aV 226 3 u (((l3 q).take i).map (got K.N)) CN,λvs _=>3-bJ vs 1,
  JE.mk ⟨0,_,[],rfl,by omega,rfl,aV.nil _ _⟩,?_⟩
 rintro w8 w9 H ⟨i,u,CN,⟨⟩,hi,rfl,hN⟩ gs;refine ae.eZ (b:=3) (Br.dec (λhlt=>?_) (λhlt=>?_))
 ·have fk:i<(l3 q).length:=hlt;obtain⟨r,hr⟩:∃r,(l3 q)[i]? =some r:=⟨_,xaa fk⟩;have YR:=hq r (xax hr);refine jI.adm (t:=236) (e:=110) (q:=.u32) (x:=.tmp 10) (i:=.tmp 11) (l:=iw (l3 q)) (z:=(r:Int)) (kd:=.i64) (n:=3) (j:=i) zK rfl rfl zK zK zK hlt (cP hr) ?_;refine Ld.n ?_;refine aa.eq (args:=#[ptr kp,u32 r]) (iT h YR) (Ext.two λBV _=>(St.whole (r:=got K.N r) (by exact .head _) rfl (aQ _ _).1 (aQ _ _).2 ?_));refine ay.whole (r:=got K.N r) (by exact .head _) (aQ _ _).1 ?_;refine Ob (aQ _ _).1 λbx=>?_;refine hN.pC (r:=got K.N r) (.cons (.cons .left)) (by exact .head _) (aQ _ _).1 (aQ _ _).2 ⟨[iv 0,.int .u32 0,.int .u32 0],rfl,rfl⟩ zP zP λv' C' ho=>?_;refine ae.inc (aC.of (.skip .tail) ⟨i+1,v',C',rfl,by omega,rfl,?_⟩ (by simp only[bJ];omega));rw[xbo,hr,xaE];exact ho
 obtain rfl:i=3:=by omega
 rw[xcv (by rw[hlen];exact xaj _)]at hN;exact aM.mk (.cU .tail _) ⟨CN,rfl,hN⟩
theorem LS{n:Nat}{rZ:Nat->Nat}{N:eA}{B:Hp}{vn:zV}{lvl:zL}(hw:gy bw kp vl vm∈B)(hl:dk .i64 B vl (iw lvl))(ni:lvl.length=n)(hlv:∀v,v<n->lvl.getD v 0=rZ v)(q:Q3)(hn:Sl 3 B vn ((l3 q).map (got N)))
 (h:WF n rZ N)(hL:j5 n rZ)(hq:∀r∈l3 q,live N r)(sL:n<=64):
  Rd zQ 254 #[ptr bw,vn] B (λr=>((∀s∈l3 q,N s=none)/\r=iv (-1))\/∃v,uy n rZ N (l3 q) v/\r=iv (v:Int)):=by
 have hlen:(l3 q).length=3:=rfl;refine aE λg=>I0 (hn.bP ?_);rw[xav,hlen];refine⟨λvs H=>∃(i:Nat) (w:Int),vs=[iv w,iv (i:Int)]/\i<=3/\H=B/\(((∀s∈(l3 q).take i,N s=none)/\w= -1)\/∃v:Nat,uy n rZ N ((l3 q).take i) v/\w=(v:Int)),λvs _=>3-bJ vs 1,
  JE.mk ⟨0, -1,rfl,by omega,rfl,.inl ⟨by simp,rfl⟩⟩,?_⟩
 rintro w6 w7 H ⟨i,w,⟨⟩,hi,rfl,hw6⟩ gs;refine ae.eZ (b:=3) (Br.dec (λhlt=>?_) (λhlt=>?_))
 ·intro J hJ;have fk:i<(l3 q).length:=hlt;obtain⟨r,hr⟩:∃r,(l3 q)[i]? =some r:=⟨_,xaa fk⟩;have nv:(l3 q).take (i+1)=(l3 q).take i++[r]:=by rw[xbo,hr];rfl
  have fin:∀(w':Int) (Z:Hp),((∀s∈(l3 q).take (i+1),N s=none)/\w'= -1)\/(∃v:Nat,uy n rZ N ((l3 q).take (i+1)) v/\w'=(v:Int))->J [iv w'] (Z++H):=λw' Z h'=>hJ _ _ λgs=>by
   exact ae.inc (aC.of .right ⟨i+1,w',rfl,by omega,rfl,h'⟩ (by simp only[bJ];omega))
  have hrow:((l3 q).map (got N))[i]? =some (got N r):=by rw[xat,hr];rfl
  refine av.sl hn hrow λp hp=>?_;refine ay.at hp (aQ _ _).1 zD (λ_ h=>h) ?_;intro r4 _;refine St.whole (r:=got N r) (by exact .head _) rfl (aQ _ _).1 (aQ _ _).2 ?_;have hlr:=hq r (xax hr);cases hN:N r with
  |none=>
   have qt:r<2:=by rcases hlr with h2|⟨d,hd⟩;exact h2;rw[hN]at hd;cases hd
   have eg:got N r=[iv (-1),u32 r,u32 r]:=fG qt;rw[eg];refine Ld.f ?_;refine ae.geq (dc.mk false (λh=>by simp at h) (λ_=>rfl) λgs=>Br.no ?_);refine JE.mk (fin w [_] ?_);rcases hw6 with⟨h1,h2⟩|⟨v,h1,h2⟩
   ·refine .inl ⟨λs hs=>?_,h2⟩;rw[nv,xao,xaG]at hs;rcases hs with hs|rfl
    ·exact h1 s hs
    exact hN
   refine .inr ⟨v,⟨h1.lt,?_,λs hs=>?_⟩,h2⟩
   ·obtain⟨s,hs,x⟩:=h1.ex;exact⟨s,by rw[nv];exact xad _ hs,x⟩
   rw[nv,xao,xaG]at hs;rcases hs with hs|rfl
   ·exact h1.le s hs
   rw[aU hN];exact xb7 (hL.lt v h1.lt)
  |some d=>
   have h2:=h.two hN;have kY:=h.var hN;have eg:got N r=bu d:=dV hN h2;rw[eg];refine Ld.f ?_;refine ae.geq ?_;rw[xan zO];have B8:(∀s∈(l3 q).take i,rZ d.v<=dep n rZ N s)->∃v:Nat,uy n rZ N ((l3 q).take (i+1)) v/\(d.v:Int)=(v:Int):=λhle=>by
    refine⟨d.v,⟨kY,⟨r,by rw[nv];simp,d,hN,rfl⟩,λs hs=>?_⟩,rfl⟩;rw[nv,xao,xaG]at hs;rcases hs with hs|rfl
    ·exact hle s hs
    rw[an hN];exact xaj _
   rcases hw6 with⟨h1,rfl⟩|⟨v,h1,rfl⟩
   ·refine dc.and true (λ_=>?_) rfl λgs=>Br.yes ?_
    ·exact ae.lss (dc.mk true (λh=>by simp at h) (λ_=>rfl) λgs=>⟨rfl,rfl⟩)
    refine Ld.f ?_;refine JE.mk (fin (d.v:Int) [_] (.inr (B8 λs hs=>?_)));rw[aU (h1 s hs)];exact xb7 (hL.lt _ kY)
   have g1:(iw lvl)[d.v]? =some ((rZ d.v:Nat):Int):=by rw[<-hlv d.v kY];exact bH zO
   have g2:(iw lvl)[v]? =some ((rZ v:Nat):Int):=by rw[<-hlv v h1.lt];exact bH (by have:=h1.lt;omega)
   refine dc.and (decide (rZ d.v<rZ v)) (λ_=>?_) rfl λgs=>?_
   ·refine ae.lss ?_;rw[xal zO];refine dc.or (decide (rZ d.v<rZ v)) (λ_=>?_) rfl λgs=>⟨rfl,by simp⟩;refine Ld.v (.tail _ hw) ?_;refine Ld.f ?_;refine hl.ld g1 (λ_ h=>.tail _ h) (Ld.v (.tail _ hw) ?_);exact hl.ld g2 (λ_ h=>.tail _ h) (ae.eZ ⟨rfl,rfl⟩)
   rw[xcn];refine Br.dec (λuk=>?_) (λuk=>?_)
   ·refine Ld.f ?_;refine JE.mk (fin (d.v:Int) [_] (.inr (B8 λs hs=>?_)));have:=h1.le s hs;omega
   refine JE.mk (fin (v:Int) [_] (.inr ⟨v,⟨h1.lt,?_,λs hs=>?_⟩,rfl⟩))
   ·obtain⟨s,hs,x⟩:=h1.ex;exact⟨s,by rw[nv];exact xad _ hs,x⟩
   rw[nv,xao,xaG]at hs;rcases hs with hs|rfl
   ·exact h1.le s hs
   rw[an hN];omega
 obtain rfl:i=3:=by omega
 rw[xcv (by rw[hlen];exact xaj _)]at hw6;refine bg.mk (.refl _) ?_;rcases hw6 with⟨h1,rfl⟩|⟨v,h1,rfl⟩
 ·exact .inl ⟨h1,rfl⟩
 exact .inr ⟨v,h1,rfl⟩
theorem Nn(h:cc kp K S ord ah tr C){v lo hi:Nat}(hv:v<K.n)(hlo:live K.N lo)(hhi:live K.N hi)(hlt:lv ah v<dep K.n (lv ah) K.N lo/\lv ah v<dep K.n (lv ah) K.N hi):
  Rd zQ 323 #[ptr kp,iv (v:Int),u32 lo,u32 hi] C (· =if lo=hi then .tuple #[u32 lo,.bool true]else .tuple #[u32 ((K.T ⟨v,lo,hi⟩).getD 0),.bool (K.T ⟨v,lo,hi⟩).isSome]):=by
 have afA:=h.bL hlo;have afK:=h.bL hhi;have Dz:=bX.2 hlo;have qK:=bX.2 hhi;have hfe:pQ K ah (v:Int) lo hi=0:=by
  unfold pQ;rw[xac zO,xac (by rw[Dz,qK];simp),xac];rintro⟨hne,hmin⟩;simp only[xbe,lv]at hmin hlt;omega
 refine aE λg=>H7 λJ hJ=>?_;refine ae.aH (Split.go rfl (aa.eq (LD h.rep (v:Int) zO zO (λr d hd=>⟨h.ok.mid.var hd,(h.ok.mid.two hd).1⟩)) ?_));rw[hfe];refine ae.cL (aL.mk (JE.mk (hJ _ _ λgs=>?_)));rw[xal zI];refine Br.no (aa.rq (KL h.rep (lo:=lo) (hi:=hi) hv) ?_);rintro w hw;subst hw;by_cases he:lo=hi
 ·rw[xae he];exact Ext.mk rfl (Ext.mk rfl (bg.mk (.refl _) rfl))
 rw[xac he];exact Ext.mk rfl (Ext.mk rfl (bg.mk (.refl _) rfl))
theorem vY(h:cc kp K S ord ah tr C){v lo hi r:Nat}(hv:v<K.n)(hlo:live K.N lo)(hhi:live K.N hi)(hlt:lv ah v<dep K.n (lv ah) K.N lo/\lv ah v<dep K.n (lv ah) K.N hi)(hr:live K.N r)(h2:2<=r)(hS:S r=ite S ⟨v,lo,hi⟩):
  Rd zQ 323 #[ptr kp,iv (v:Int),u32 lo,u32 hi] C (· =.tuple #[u32 r,.bool true]):=by
 refine(Nn h hv hlo hhi hlt).mono ?_;rintro w H ⟨e,rfl⟩;refine⟨e,?_⟩;by_cases he:lo=hi
 ·subst he;rw[xae rfl,h.ok.wf.same h.ok.lv h.ok.mid.int hr hlo λx=>by rw[hS];unfold aA.ite;split<;>rfl]
 rw[xac he];obtain⟨d,hd⟩:∃d,K.N r=some d:=by
  rcases hr with h3|h3
  ·omega
  exact h3
 have hdd:d=⟨v,lo,hi⟩:=h.ok.U5 (d:=⟨v,lo,hi⟩) hlo hhi he hv hlt hd hS;subst hdd;rw[(h.ok.mid.j9 _ r).2 ⟨hd,λe=>e⟩];rfl
theorem GO(r v:Nat)(B:Hp):Rd zQ 255 #[ptr bw,iv (v:Int),u32 r,u32 r] B (· =.tuple #[u32 r,iv 0]):=by
 exact aE λg=>xD (ae.ik (Br.T (bg.mk (.refl _) rfl)))
theorem Tq{CM X:Hp}{made:zL}(h:cc kp K S ord ah tr C){v lo hi:Nat}(hv:v<K.n)(hlo:live K.N lo)(hhi:live K.N hi)(hne:lo≠hi)(hlt:lv ah v<dep K.n (lv ah) K.N lo/\lv ah v<dep K.n (lv ah) K.N hi)
 (hM:aO 110 .u32 vm (iw made) CM)(hlen:made.length<=1099511627776):
  Fc zQ 255 #[ptr bw,iv (v:Int),u32 lo,u32 hi] (gy bw kp vl vm::(X++(CM++C))) (λw H=>
   (∃r K' S' C' X3 CM',w=.tuple #[u32 r,iv 0]/\H=gy bw kp vl X3::(X++(CM'++C'))/\cc kp K' S' ord ah [] C'/\pT K S K' S' (ite S ⟨v,lo,hi⟩) r/\aO 110 .u32 X3 (iw (made++[r])) CM')\/
   (w=.tuple #[u32 0,iv 9]/\H=gy bw kp vl vm::(X++(CM++C))/\K.cap<=K.used/\K.T ⟨v,lo,hi⟩=none)\/
   (∃r,w=.tuple #[u32 r,iv 0]/\H=gy bw kp vl vm::(X++(CM++C))/\live K.N r/\2<=r/\K.hold r=65535/\S r=ite S ⟨v,lo,hi⟩)):=by
 refine aE λg=>xD (ae.eR (Br.SO hne (Ld.n ?_)));refine aa.fq (AT h hv hlo hhi (.inr hlt)) ?_;rintro w C' (⟨r,K',S',rfl,dh,mk⟩|⟨r,rfl,rfl,hlr,Pv,hfull,Gj⟩|⟨rfl,rfl,hcap,_,hT⟩)
 ·refine Ext.two λJ hJ=>(ae.ik (Br.T (Ld.n ?_)));refine au.int (e:=110) zK zK zK λbx=>?_;refine hM.pC (x:=(r:Int)) (.cons (.cons (.app .left))) (by exact .head _) (by rw[aq];omega) (by rw[aq];omega) λX3 CM' Zz=>?_;have h1:=Zz.one;refine Nil.ptr (ai.mk (St.one (by exact .tail (.head _)) h1 zI rfl ?_));refine aM.mk .tail (.inl ⟨r,K',S',C',X3,CM',rfl,rfl,dh,mk,?_⟩);rw[cg];exact Zz
 ·refine Ext.two λJ hJ=>(ae.ik (Br.F (ae.ik (Br.T (Ld.n ?_)))));exact aa.eq (vY h hv hlo hhi hlt hlr Pv Gj) (Ext.mk rfl (Ext.mk rfl (Br.yes (aM.here (.inr (.inr ⟨r,rfl,rfl,hlr,Pv,hfull,Gj⟩))))))
 exact Ext.two λJ hJ=>(ae.ik (Br.F (ae.ik (Br.F (JE.mk (hJ _ λgs=>aM.here (.inr (.inl ⟨rfl,rfl,hcap,hT⟩))))))))
end
end
section
open aA
structure kV(K0:Kd)(S0:Nat->aA.Fn)(U:aA.Fn->Prop)(ord:zL)(K:Kd)(S:Nat->aA.Fn)(made:zL):Prop where
 n:K.n=K0.n
 cap:K.cap=K0.cap
 N:∀s d,K0.N s=some d->K.N s=some d
 fn:∀s,live K0.N s->S s=S0 s
 hold:∀s,K.hold s=K0.hold s+made.count s
 two:∀s∈made,2<=s
 U:∀g,aG K0.n ord (K.held S) g->U g
theorem kV.refl{K0:Kd}{S0:Nat->aA.Fn}{U:aA.Fn->Prop}{ord:zL}(h:∀g,aG K0.n ord (K0.held S0) g->U g):kV K0 S0 U ord K0 S0 []:=⟨rfl,rfl,λ_ _ h=>h,λ_ _=>rfl,λs=>by simp,by simp,h⟩
def Fits(U:aA.Fn->Prop)(cap:Nat):Prop:=∃ku,pE U ku/\ku+2<=cap
section
variable {kp:Nat} {K0 K:Kd} {S0 S:Nat->aA.Fn} {U:aA.Fn->Prop} {ord ah tr:zL} {made:zL} {C:Hp}
theorem kV.iB(h:kV K0 S0 U ord K S made)(hK:cc kp K S ord ah tr C){s:Nat}(hs:s∈made):live K.N s:=by
 refine .inr (hK.ok.mid.held s ?_);rw[h.hold];have:=xbK.2 hs;omega
theorem yZ{b:Nat}:∀(m:Nat) (l:zL),(∀x∈l,x<m)->(∀x,l.count x<=b)->l.length<=m*b
 |0,l,h1,_=>by
  cases l with
  |nil=>simp
  |cons x l=>exact absurd (h1 x (xbI ..)) (xcS _)
 |m+1,l,h1,h2=>by
  have ih:=yZ m (l.filter λx=> !(x==m)) (λx hx=>by
   obtain⟨hx,hne⟩:=xbT.1 hx;have:=h1 x hx;have:x≠m:=by simpa using hne
   omega) (λx=>xbw (List.filter_sublist.count_le x) (h2 x))
  have e:=List.length_eq_countP_add_countP (λx=>x==m) (l:=l);have h3:=h2 m;rw[List.count]at h3;rw[List.countP_eq_length_filter (l:=l) (p:=λa=>decide ¬(a==m)=true)]at e;rw[xbq];have e2:(l.filter λa=>decide ¬(a==m)=true)=l.filter λx=> !(x==m):=xdn λx _=>by cases x==m<;>rfl
  rw[e2]at e;omega
theorem kV.rj(h:kV K0 S0 U ord K S made)(hK:cc kp K S ord ah tr C):made.length<=1048576*65535:=
 yZ _ _ (λx hx=>by
  have hc:=xbK.2 hx;have:=h.hold x;obtain⟨d,hd⟩:=hK.ok.mid.held x zO;have:=(hK.ok.mid.two hd).2;have:=hK.ok.mid.cap;omega) (λx=>by have:=h.hold x;have:=hK.ok.mid.mx x;omega)
theorem kV.full(h:kV K0 S0 U ord K S made){r:Nat}(hr:K.hold r=65535):r∈made\/K0.hold r=65535:=by
 by_cases hm:r∈made
 ·exact .inl hm
 have:=h.hold r;rw[xdI.2 hm]at this;exact .inr zO
theorem kV.live(h:kV K0 S0 U ord K S made){s:Nat}(hs:live K0.N s):live K.N s:=ct h.N hs
theorem kV.step(h:kV K0 S0 U ord K S made)(hK:cc kp K S ord ah tr C){K':Kd}{S':Nat->aA.Fn}{f:aA.Fn}{r:Nat}(m:pT K S K' S' f r)(h2:2<=r)(hU:∀g,aG K0.n ord (λg=>g=f) g->U g):kV K0 S0 U ord K' S' (made++[r]):=by
 refine⟨m.n.trans h.n,m.cap.trans h.cap,λs d hd=>m.N s d (h.N s d hd),λs hs=>(m.fn s (h.live hs)).trans (h.fn s hs),λs=>?_,λs hs=>?_,λg hg=>?_⟩
 ·rw[m.hold,xbf,xcG,h.hold];by_cases e:s=r
  ·subst e;simp[h2];omega
  have:(r==s)=false:=by simpa using λe'=>e e'.symm
  simp[e,this]
 ·rcases xao.1 hs with hs|hs
  ·exact h.two s hs
  simp at hs;subst hs;exact h2
 have mw:∀g,K'.held S' g->K.held S g\/g=f:=by
  rintro g ⟨s,hs,rfl⟩;have hs':K'.hold s≠0:=hs;rw[m.hold]at hs';by_cases e:s=r/\2<=r
  ·right;rw[e.1];exact m.is
  rw[xac e]at hs';exact .inl ⟨s,hs',m.fn s (.inr (hK.ok.mid.held s hs'))⟩
 rcases(CY g).1 (cH mw hg)with h1|h1
 ·exact h.U g h1
 exact hU g h1
end
def Bl(g8 b1 b5 r4:Nat):zV:=.func (.func 252) #[] #[ptr g8,ptr b1,ptr b5,ptr r4]
structure By(fv:zV)(LB:Hp)(t:Bool->Bool->Bool->Bool):Prop where
 is:∃f first cap,fv=.func (.func f) first cap/\aT zQ f=true/\∀x y z:Bool,Rd zQ f (first++ #[.bool x,.bool y,.bool z]++cap) LB (· =.bool (t x y z))
def adu(K0:Kd)(S0 S:Nat->aA.Fn)(t:Bool->Bool->Bool->Bool)(made:zL)(m:List (Q3×Nat)):Prop:=∀y∈m,S y.2=uv t S0 (l3 y.1)/\(y.2<2\/y.2∈made\/K0.hold y.2=65535)
section
variable {kp g8 b1 b5 r4 bm bw:Nat} {vl fv:zV} {LB CL:Hp} {lvl:zL} {K0:Kd} {S0:Nat->aA.Fn} {U:aA.Fn->Prop} {ord ah:zL} {t:Bool->Bool->Bool->Bool}
abbrev XM(g8 b1 b5 r4 bm bw kp:Nat)(fv vl vm:zV)(LB CL CM C:Hp)(es:Array MapEntry)(ck:Nat):Hp:=
 (g8,.cells #[.map (some bm)] 307 zZ)::(b1,.cells #[ptr bw] 231 zZ)::(b5,.cells #[fv] 237 zZ)::(r4,.cells #[Bl g8 b1 b5 r4] 308 zZ)::
 (LB++((bm,.map es ck)::(gy bw kp vl vm::(CL++(CM++C)))))
structure Stp(kp:Nat)(K0:Kd)(S0:Nat->aA.Fn)(U:aA.Fn->Prop)(ord ah X8:zL)(t:Bool->Bool->Bool->Bool)(K:Kd)(S:Nat->aA.Fn)(made:zL)(es:Array MapEntry)(ck:Nat)(vm:zV)(CM C:Hp):Prop where
 ks:∃tr,cc kp K S ord ah tr C/\(tr=[]\/(tr=X8/\made=[]))
 cW:kV K0 S0 U ord K S made
 mde:aO 110 .u32 vm (iw made) CM
 kn:∃m,aD kq Pb es ck m/\adu K0 S0 S t made m
structure gx(K:Kd)(S:Nat->aA.Fn)(made:zL)(K':Kd)(S':Nat->aA.Fn)(made':zL)(c:Nat):Prop where
 N:∀s d,K.N s=some d->K'.N s=some d
 fn:∀s,live K.N s->S' s=S s
 ext:∃ext,made'=made++ext/\ext.length<=c
theorem gx.refl{K:Kd}{S:Nat->aA.Fn}{made:zL}{c:Nat}:gx K S made K S made c:=⟨λ_ _ h=>h,λ_ _=>rfl,[],by simp,xaM _⟩
section
variable {K K' K2:Kd} {S S' S2:Nat->aA.Fn} {made made' fT:zL} {c c':Nat}
theorem gx.Mf(h:gx K S made K' S' made' c)(hc:c<=c'):gx K S made K' S' made' c':=⟨h.N,h.fn,let ⟨e,h1,h2⟩:=h.ext;⟨e,h1,by omega⟩⟩
theorem gx.mem{s:Nat}(h:gx K S made K' S' made' c)(hs:s∈made):s∈made':=by
 obtain⟨e,rfl,_⟩:=h.ext;exact xad _ hs
theorem gx.count(h:gx K S made K' S' made' c)(s:Nat):made'.count s<=made.count s+c/\made'.length<=made.length+c:=by
 obtain⟨e,rfl,he⟩:=h.ext;have:=List.count_le_length (a:=s) (l:=e);rw[xbf,xaf];omega
theorem gx.trans(h:gx K S made K' S' made' c)(h':gx K' S' made' K2 S2 fT c'):gx K S made K2 S2 fT (c+c'):=by
 obtain⟨e,rfl,he⟩:=h.ext;obtain⟨e',rfl,he'⟩:=h'.ext;exact⟨λs d hd=>h'.N s d (h.N s d hd),λs hs=>(h'.fn s (ct h.N hs)).trans (h.fn s hs),e++e',by rw[xai],by rw[xaf];omega⟩
end
theorem nR{κ β:Type}[DecidableEq κ]{m:List (κ×β)}{k:κ}{x:β}{y:κ×β}(h:y∈dX m k x):y=(k,x)\/y∈m:=by
 unfold dX at h;split at h
 ·obtain⟨z,hz,rfl⟩:=xam.1 h;split
  ·exact .inl rfl
  exact .inr hz
 rcases xao.1 h with h|h
 ·exact .inr h
 simp at h;exact .inl h
def CB(N:eA)(v:Nat)(b:Bool)(q:Q3):Q3:=(dW N v b q.1,dW N v b q.2.1,dW N v b q.2.2)
theorem Vo(N:eA)(v:Nat)(b:Bool)(q:Q3):l3 (CB N v b q)=iX N v b (l3 q):=rfl
theorem n6{N N':eA}(hN:∀s d,N s=some d->N' s=some d)(h2:∀r,r<2->N r=none)(oZ:∀r,r<2->N' r=none){r:Nat}(hr:live N r):got N' r=got N r:=by
 rcases hr with hr|⟨d,hd⟩
 ·rw[fG hr,fG hr]
 by_cases h:r<2
 ·rw[h2 r h]at hd;cases hd
 rw[dV hd zO,dV (hN r d hd) zO]
def Ans(kp g8 b1 b5 r4 bm bw:Nat)(fv vl:zV)(LB CL:Hp)(K0:Kd)(S0:Nat->aA.Fn)(U:aA.Fn->Prop)(ord ah X8:zL)(t:Bool->Bool->Bool->Bool)(ql:zL)(c:Nat)(K:Kd)(S:Nat->aA.Fn)(made:zL)(r:zV)(H:Hp):Prop:=
 ∃K' S' made' es' bB X3 CM' C',H=XM g8 b1 b5 r4 bm bw kp fv vl X3 LB CL CM' C' es' bB/\Stp kp K0 S0 U ord ah X8 t K' S' made' es' bB X3 CM' C'/\gx K S made K' S' made' c/\
   ((∃x:Nat,r=.tuple #[u32 x,iv 0]/\S' x=uv t S0 ql/\(x<2\/x∈made'\/K0.hold x=65535))\/(r=.tuple #[u32 0,iv 9]/\¬Fits U K0.cap))
theorem ZF(fN:aT zQ 252=true)(EH:By fv LB t)(XL:aO 3 .i64 vl (iw lvl) CL)(ni:lvl.length=K0.n)(hlv:∀v,v<K0.n->lvl.getD v 0=lv ah v)(sL:K0.n<=64)(kZ:WF K0.n (lv ah) K0.N)(pz:Interp K0.N S0)(jM:j5 K0.n (lv ah))(Pt:∀r,live K0.N r->r<4294967296)(hh0:∀s,K0.hold s=65535->live K0.N s){X8:zL}:
  ∀(ql:zL) (c:Nat),Tree K0.n (lv ah) K0.N ql c->∀(q:Q3),l3 q=ql->∀(K:Kd) (S:Nat->aA.Fn) (made:zL) (es:Array MapEntry) (ck:Nat) (vm:zV) (CM C:Hp),Stp kp K0 S0 U ord ah X8 t K S made es ck vm CM C->
  (∀r∈ql,live K0.N r)->(∀g,aG K0.n ord (λg=>g=uv t S0 ql) g->U g)->
  Fc zQ 252 #[kq q,ptr g8,ptr b1,ptr b5,ptr r4] (XM g8 b1 b5 r4 bm bw kp fv vl vm LB CL CM C es ck) (λr H=>Ans kp g8 b1 b5 r4 bm bw fv vl LB CL K0 S0 U ord ah X8 t ql c K S made r H):=by
 have hc0:∀r,r<2->K0.N r=none:=λr hr=>kZ.const hr;intro ql c hT;induction hT with
 | @leaf ql hnone=>
  intro q hq K S made es ck vm CM C hS fM hU g;subst hq;obtain⟨tr,hK,eM⟩:=hS.ks;obtain⟨m,hE,hkn⟩:=hS.kn;have Ls:∀r,r<2->K.N r=none:=λr hr=>hK.ok.wf.const hr;refine xE (R:=aM _) ?_;unfold L252;intro bq _;refine Ld.q ?_;refine ay.q ?_;have x7:(bm,Obj.map es ck)∈(bq,Obj.cells (ax .u32 (iw (l3 q))) 236 zZ)::XM g8 b1 b5 r4 bm bw kp fv vl vm LB CL CM C es ck:=.tail _ (.tail _ (.tail _ (.tail _ (.tail _ (xab _ (.head _))))));cases hg:aJ m q with
  |some x=>
   refine aD.F5 (ke:=kq) (k:=q) vW qs hE x7 hg ?_;rintro v rfl;obtain⟨h1,h2⟩:=hkn _ ((dS hE.nd).1 hg);exact Ext.mk rfl (Ext.mk rfl (Br.yes (aM.mk .tail ⟨K,S,made,es,ck,vm,CM,C,rfl,hS,.refl,.inl ⟨x,rfl,h1,h2⟩⟩)))
  |none=>
   refine aD.vN (ke:=kq) (k:=q) vW qs hE x7 hg ?_;refine Ext.mk rfl (Ext.mk rfl (Br.no (Ld.q ?_)));refine ay.q ?_;refine aa.fq (args:=#[ptr bw,kq q]) (z7 hK.rep q (λr hr=>Pt r (fM r hr))) ?_;rintro vn H ⟨CN,rfl,hN⟩;have eN:(l3 q).map (got K.N)=(l3 q).map (got K0.N):=xbg λr hr=>n6 hS.cW.N hc0 Ls (fM r hr);rw[eN]at hN;refine Ld.q ?_;refine aa.rq (LS (bw:=bw) (kp:=kp) (vl:=vl) (vm:=vm) (lvl:=lvl) (n:=K0.n) (rZ:=lv ah) (N:=K0.N) (.tail _ (.tail _ (.tail _ (.tail _ (.tail _ (xab _ (.tail _ (xab _ (.head _))))))))) (XL.ints.mono λ_ h=>.tail _ (.tail _ (.tail _ (.tail _ (.tail _ (xab _ (.tail _ (xab _ (.tail _ (xad _ h)))))))))) ni hlv q ((Sl.q6 hN zD).mono λ_ h=>.tail _ (.tail _ (.tail _ (.tail _ (.tail _ (xab _ (.tail _ (xad _ h)))))))) kZ jM fM sL) ?_;rintro w (⟨_,rfl⟩|⟨v,hv,rfl⟩);rotate_left
   ·obtain⟨s,hs,d,hd,_⟩:=hv.ex;rw[hnone s hs]at hd;cases hd
   refine ae.lss (Br.T ?_);have Nz:∀r∈l3 q,r<2:=λr hr=>by
    rcases fM r hr with h|⟨d,hd⟩
    ·exact h
    rw[hnone r hr]at hd;cases hd
   obtain⟨f,first,cap,RT,hfc,hL⟩:=EH.is;refine Ld.q ?_;refine iZ.nat (j:=0) zD (Ld.q ?_);refine ae.eR (b:=1) (iZ.nat (j:=1) zD (Ld.q ?_));refine ae.eR (b:=1) (iZ.nat (j:=2) zD (Ld.q ?_));refine ae.eR (b:=1) (aF.of RT hfc ?_);refine aa.eq (hL _ _ _) ?_;have Ga:=λx=>NP pz (q:=l3 q) rfl Nz t x;have hint:=hK.ok.mid.int;have XC:aN ((bq,Obj.cells (ax .u32 (iw (l3 q))) 236 zZ)::(g8,.cells #[.map (some bm)] 307 zZ)::(b1,.cells #[ptr bw] 231 zZ)::(b5,.cells #[fv] 237 zZ)::(r4,.cells #[Bl g8 b1 b5 r4] 308 zZ)::(LB++((bm,.map es ck)::(CN++(gy bw kp vl vm::(CL++(CM++C))))))) (XM g8 b1 b5 r4 bm bw kp fv vl vm LB CL CM C es ck):=
    .skip (.cons (.cons (.cons (.cons (.cU (.cons .right) _)))))
   refine Br.mk (λhb=>?_) (λhb=>?_)
   ·refine aM.mk XC ⟨K,S,made,es,ck,vm,CM,C,rfl,hS,.refl,.inl ⟨1,rfl,funext λx=>?_,.inl zO⟩⟩;rw[hint.one,Ga x];exact hb.symm
   refine aM.mk XC ⟨K,S,made,es,ck,vm,CM,C,rfl,hS,.refl,.inl ⟨0,rfl,funext λx=>?_,.inl zO⟩⟩;rw[hint.zero,Ga x];exact hb.symm
 | @node ql v a b hv ha hb iha ihb=>
  intro q hq K S made es ck vm CM C hS fM hU g;subst hq;obtain⟨tr,hK,eM⟩:=hS.ks;obtain⟨m,hE,hkn⟩:=hS.kn;have Ls:∀r,r<2->K.N r=none:=λr hr=>hK.ok.wf.const hr;refine xE (R:=aM _) ?_;unfold L252;intro bq _;refine Ld.q ?_;refine ay.q ?_;have x7:(bm,Obj.map es ck)∈(bq,Obj.cells (ax .u32 (iw (l3 q))) 236 zZ)::XM g8 b1 b5 r4 bm bw kp fv vl vm LB CL CM C es ck:=.tail _ (.tail _ (.tail _ (.tail _ (.tail _ (xab _ (.head _))))));cases hg:aJ m q with
  |some x=>
   refine aD.F5 (ke:=kq) (k:=q) vW qs hE x7 hg ?_;rintro v rfl;obtain⟨h1,h2⟩:=hkn _ ((dS hE.nd).1 hg);exact Ext.mk rfl (Ext.mk rfl (Br.yes (aM.mk .tail ⟨K,S,made,es,ck,vm,CM,C,rfl,hS,.refl,.inl ⟨x,rfl,h1,h2⟩⟩)))
  |none=>
  refine aD.vN (ke:=kq) (k:=q) vW qs hE x7 hg ?_;refine Ext.mk rfl (Ext.mk rfl (Br.no (Ld.q ?_)));refine ay.q ?_;refine aa.fq (args:=#[ptr bw,kq q]) (z7 hK.rep q (λr hr=>Pt r (fM r hr))) ?_;rintro vn H ⟨CN,rfl,hN⟩;have eN:(l3 q).map (got K.N)=(l3 q).map (got K0.N):=xbg λr hr=>n6 hS.cW.N hc0 Ls (fM r hr);rw[eN]at hN;refine Ld.q ?_;refine aa.rq (LS (bw:=bw) (kp:=kp) (vl:=vl) (vm:=vm) (lvl:=lvl) (n:=K0.n) (rZ:=lv ah) (N:=K0.N) (.tail _ (.tail _ (.tail _ (.tail _ (.tail _ (xab _ (.tail _ (xab _ (.head _))))))))) (XL.ints.mono λ_ h=>.tail _ (.tail _ (.tail _ (.tail _ (.tail _ (xab _ (.tail _ (xab _ (.tail _ (xad _ h)))))))))) ni hlv q ((Sl.q6 hN zD).mono λ_ h=>.tail _ (.tail _ (.tail _ (.tail _ (.tail _ (xab _ (.tail _ (xad _ h)))))))) kZ jM fM sL) ?_;rintro w (⟨aI,_⟩|⟨v',nX,rfl⟩)
  ·obtain⟨s,hs,d,hd,_⟩:=hv.ex;rw[aI s hs]at hd;cases hd
  obtain rfl:v'=v:=nX.uniq jM hv;refine ae.lss (Br.F (DR.of (R:=[(bq,Obj.cells (ax .u32 (iw (l3 q))) 236 zZ)]) (aN.left (A:=[_])) (ay.q ?_)));refine ay.q ?_;intro b31 _ XR _ F35;have hone:∀x∈(iw (l3 q)).map λn=>Value.int .u32 n,x.oneCell'=true:=λx hx=>by obtain⟨n,_,rfl⟩:=xam.1 hx;rfl
  refine St.p hone ?_;refine⟨.skip (.skip (aN.left (A:=[_]))),?_⟩;intro F37;refine St.p hone ?_;refine hN.bP ?_;rw[xav];refine⟨λvs H=>∃i:Nat,vs=[iv (i:Int)]/\i<=3/\H=(XR,.cells (ax .u32 (iw (mO K0.N v' true (l3 q) i))) 236 zZ)::(b31,.cells (ax .u32 (iw (mO K0.N v' false (l3 q) i))) 236 zZ)::
    (bq,Obj.cells (ax .u32 (iw (l3 q))) 236 zZ)::(g8,.cells #[.map (some bm)] 307 zZ)::(b1,.cells #[ptr bw] 231 zZ)::(b5,.cells #[fv] 237 zZ)::(r4,.cells #[Bl g8 b1 b5 r4] 308 zZ)::(LB++((bm,.map es ck)::(CN++(gy bw kp vl vm::(CL++(CM++C)))))),
   λvs _=>3-bJ vs 0,JE.mk ⟨0,rfl,by omega,by rw[yN,yN];rfl⟩,?_⟩
  rintro w44 H ⟨i,hvs,hi,rfl⟩ gs;simp only[xau,xa1]at hvs;subst hvs;have hl3:(l3 q).length=3:=rfl;refine ae.eZ (b:=3) (Br.dec (λhlt=>?_) (λhlt=>?_))
  ·-- a part of the question
   intro J hJ;obtain⟨r,hr⟩:∃r,(l3 q)[i]? =some r:=⟨_,xaa (show i<(l3 q).length from hlt)⟩;have hlr:=fM r (xax hr);have hrow:((l3 q).map (got K0.N))[i]? =some (got K0.N r):=by rw[xat,hr];rfl
   refine av.sl (Sl.q6 hN zD) hrow λp hp=>?_;refine ay.at hp (aQ _ _).1 zD (λ_ h=>.tail _ (.tail _ (.tail _ (.tail _ (.tail _ (.tail _ (.tail _ (xab _ (.tail _ (xad _ h)))))))))) ?_;intro b52 _;refine St.whole (r:=got K0.N r) (by exact .head _) rfl (aQ _ _).1 (aQ _ _).2 ?_;have stay:dW K0.N v' false r=r->dW K0.N v' true r=r->∀Z:Hp,JE J [] (Z++((XR,.cells (ax .u32 (iw (mO K0.N v' true (l3 q) i))) 236 zZ)::(b31,.cells (ax .u32 (iw (mO K0.N v' false (l3 q) i))) 236 zZ)::
    (bq,Obj.cells (ax .u32 (iw (l3 q))) 236 zZ)::(g8,.cells #[.map (some bm)] 307 zZ)::(b1,.cells #[ptr bw] 231 zZ)::(b5,.cells #[fv] 237 zZ)::(r4,.cells #[Bl g8 b1 b5 r4] 308 zZ)::(LB++((bm,.map es ck)::(CN++(gy bw kp vl vm::(CL++(CM++C)))))))):=λe1 e2 Z=>by
    refine JE.of .right (hJ _ λgs=>?_);exact ae.inc (aC.of (.refl _) ⟨i+1,rfl,by omega,by rw[yO hr e1,yO hr e2]⟩ (by simp only[bJ];omega))
   cases Zx:K0.N r with
   |none=>
    have qt:r<2:=by rcases hlr with h2|⟨d,hd⟩;exact h2;rw[Zx]at hd;cases hd
    rw[fG qt];refine Ld.f ?_;refine ae.ik (Br.F ?_);have ec:∀b,dW K0.N v' b r=r:=λb=>by unfold dW;rw[Zx]
    exact stay (ec false) (ec true) [_]
   |some d=>
    have h2:=kZ.two Zx;rw[dV Zx h2];refine Ld.f ?_;refine ae.eR (Br.dec (λkY=>?_) (λkY=>?_))
    ·refine DR.of (R:=[(b52,Obj.cells (bu d).toArray 226 zZ)]) (aN.left (A:=[_])) (Ld.f ?_);refine Ld.f ?_;have elo:dW K0.N v' false r=d.lo:=by unfold dW;rw[Zx];simp[kY]
     have ehi:dW K0.N v' true r=d.hi:=by unfold dW;rw[Zx];simp[kY]
     refine iZ.nat hlt ?_;refine St.ints (l:=iw (mO K0.N v' false (l3 q) i)) (x:=(d.lo:Int)) (by exact .tail (.tail (.head _))) (by rw[aq,C9 zO];omega) ?_;refine⟨aN.left (A:=[_]),?_⟩;refine iZ.nat hlt ?_;refine St.ints (l:=iw (mO K0.N v' true (l3 q) i)) (x:=(d.hi:Int)) (by exact .tail (.head _)) (by rw[aq,C9 zO];omega) ?_;rw[fi,fi,<-elo,<-ehi,sD hr,sD hr];refine JE.of .tail (hJ _ λgs=>?_);exact ae.inc (aC.of (.refl _) ⟨i+1,rfl,by omega,rfl⟩ (by simp only[bJ];omega))
    have ec:∀b,dW K0.N v' b r=r:=λb=>by unfold dW;rw[Zx];simp[kY]
    exact stay (ec false) (ec true) [_]
  obtain rfl:i=3:=by omega
  have em:∀b,mO K0.N v' b (l3 q) 3=l3 (CB K0.N v' b q):=λb=>by rw[Vo,<-QX];rfl
  rw[em,em];obtain⟨f1,f2⟩:=o9 (S:=S0) kZ jM pz fM hv false;obtain⟨t1,t2⟩:=o9 (S:=S0) kZ jM pz fM hv true;have ec:∀b,uv t S0 (iX K0.N v' b (l3 q))=λx=>uv t S0 (l3 q) (ak.aB x v' b):=λb=>LG kZ jM pz rfl fM hv t b;have mU:Ord K0.n (lv ah) ord:=by rw[<-hS.cW.n];exact hK.od
  have fk:=jM.lt v' hv.lt;have Ns:=mU.of jM hv.lt;have sN:=zu kZ jM pz mU (q:=l3 q) rfl fM (xb7 fk) hv.le t;obtain⟨i1,P3⟩:=jK (n:=K0.n) (ord:=ord) (c:=uv t S0 (iX K0.N v' false (l3 q))) sN (b:=false) (by rw[Ns];exact ec false);obtain⟨i2,P2⟩:=jK (n:=K0.n) (ord:=ord) (c:=uv t S0 (iX K0.N v' true (l3 q))) sN (b:=true) (by rw[Ns];exact ec true);refine Ld.q ?_;refine ay.q ?_;refine aF.of rfl fN ?_;refine aa.pre (H':=(XR,.cells (ax .u32 (iw (l3 (CB K0.N v' true q)))) 236 zZ)::(b31,.cells (ax .u32 (iw (l3 (CB K0.N v' false q)))) 236 zZ)::(bq,Obj.cells (ax .u32 (iw (l3 q))) 236 zZ)::XM g8 b1 b5 r4 bm bw kp fv vl vm LB CL CM C es ck) (.cons (.cons (.cons (.cons (.cons (.cons (.cons (.cU (.cons .right) _)))))))) ?_;refine aa.fq (args:=#[kq (CB K0.N v' false q),ptr g8,ptr b1,ptr b5,ptr r4]) (iha (CB K0.N v' false q) rfl K S made es ck vm CM C hS f1 (λg hg=>hU g (P3 g hg))) ?_;rintro w H ⟨K1,S1,yV,kx,jN,vm1,CM1,C1,rfl,EG,Wh,Sc⟩;rcases Sc with⟨x1,rfl,hx1,uj⟩|⟨rfl,hno⟩;rotate_left
  ·exact Ext.mk rfl (Ext.mk rfl (ae.cL (Br.T (aM.mk (.skip (.skip .tail)) ⟨K1,S1,yV,kx,jN,vm1,CM1,C1,rfl,EG,Wh.Mf zO,.inr ⟨rfl,hno⟩⟩))))
  refine Ext.mk rfl (Ext.mk rfl (ae.cL (Br.F (Ld.q ?_))));refine ay.q ?_;refine aF.of rfl fN ?_;have hc1:=λs=>Wh.count s;have hh1:∀s,K1.hold s<=K.hold s+a:=λs=>by rw[EG.cW.hold,hS.cW.hold];have:=(hc1 s).1;omega
  refine aa.fq (args:=#[kq (CB K0.N v' true q),ptr g8,ptr b1,ptr b5,ptr r4]) (ihb (CB K0.N v' true q) rfl K1 S1 yV kx jN vm1 CM1 C1 EG t1 (λg hg=>hU g (P2 g hg))) ?_;rintro w H ⟨K2,S2,fT,gR,iF,vm2,CM2,C2,rfl,jD,n5,Sc⟩;have yb:=Wh.trans n5;rcases Sc with⟨x2,rfl,FX,lZ⟩|⟨rfl,hno⟩;rotate_left
  ·exact Ext.mk rfl (Ext.mk rfl (ae.cL (Br.T (aM.mk (.skip (.skip .tail)) ⟨K2,S2,fT,gR,iF,vm2,CM2,C2,rfl,jD,yb.Mf zO,.inr ⟨rfl,hno⟩⟩))))
  refine Ext.mk rfl (Ext.mk rfl (ae.cL (Br.F (Ld.q ?_))));obtain⟨W7,eW,VD⟩:=EG.ks;obtain⟨BE,dm,ug⟩:=jD.ks;have ab1:=dm.ok.mid.int;have l11:live K1.N x1:=by rcases uj with h|h|h;exact .inl h;exact EG.cW.iB eW h;exact EG.cW.live (hh0 _ h)
  have e1:S2 x1=uv t S0 (iX K0.N v' false (l3 q)):=(n5.fn x1 l11).trans hx1;have l1:live K2.N x1:=by rcases uj with h|h|h;exact .inl h;exact jD.cW.iB dm (n5.mem h);exact jD.cW.live (hh0 _ h)
  have l2:live K2.N x2:=by rcases lZ with h|h|h;exact .inl h;exact jD.cW.iB dm h;exact jD.cW.live (hh0 _ h)
  have n2:=jD.cW.n;have sM:ite S2 ⟨v',x1,x2⟩=uv t S0 (l3 q):=by
   funext x
   unfold aA.ite;rw[e1,FX,ec,ec]
   conv=>rhs;rw[<-ak.iu x v']
   simp only;cases x.testBit v'<;>rfl
  obtain⟨m2,sO,VT⟩:=jD.kn;have hkl:∀y∈m2,live K2.N y.2:=λy hy=>by
   rcases(VT y hy).2 with h|h|h
   ·exact .inl h
   ·exact jD.cW.iB dm h
   exact jD.cW.live (hh0 _ h)
  by_cases hx:x1=x2
  ·subst hx;refine aa.eq (GO x1 v' _) (Ext.two λJ hJ=>(ae.ik (Br.T (Ld.q ?_))));refine ay.q ?_;refine aD.Mr (ke:=kq) (k:=q) (vr:=Pb) (x:=x1) vW qs AW sO rfl λes' bB he=>⟨_,.tail (.tail (.tail (.tail (.tail (.tail (.tail ((c6.head _).ca LB))))))),?_⟩;refine JE.mk (hJ _ λgs=>?_);have hr:S2 x1=uv t S0 (l3 q):=by
    rw[<-sM]
    funext x
    unfold aA.ite;split<;>rfl
   have v9:x1<2\/x1∈fT\/K0.hold x1=65535:=lZ;exact aM.mk (.skip (.skip .tail)) ⟨K2,S2,fT,es',bB,vm2,CM2,C2,rfl,⟨jD.ks,jD.cW,jD.mde,_,he,λy hy=>(nR hy).elim (λe=>by rw[e];exact⟨hr,v9⟩) (λhy=>VT y hy)⟩,yb.Mf zO,.inl ⟨x1,rfl,hr,v9⟩⟩
  have zh:cC (uv t S0 (l3 q)) (ord.getD (lv ah v') 0):=by
   rw[Ns];refine xaK λhno=>hx ?_;refine dm.ok.wf.same dm.ok.lv ab1 l1 l2 λx=>?_;rw[e1,FX,ec,ec];exact(cK hno x false).trans (cK hno x true).symm
  have b1':=dm.ok.below dm.od (l:=lv ah v'+1) l1 zO (by rw[e1];exact i1);have b2':=dm.ok.below dm.od (l:=lv ah v'+1) l2 zO (by rw[FX];exact i2);have Sh:∀g,aG K0.n ord (λg=>g=ite S2 ⟨v',x1,x2⟩) g->U g:=by rw[sM];exact hU
  refine aa.fq (args:=#[ptr bw,iv (v':Int),u32 x1,u32 x2]) (Tq dm (v:=v') (by rw[n2];exact hv.lt) l1 l2 hx ⟨by omega,by omega⟩ jD.mde (by have:=jD.cW.rj dm;omega)) ?_;rintro w H (⟨r,K3,S3,C3,vm3,CM3,rfl,rfl,kj,mk,Wd⟩|⟨rfl,rfl,Zm,hT⟩|⟨r,rfl,rfl,hlr,Pv,hfull,Gj⟩)
  ·refine Ext.two λJ hJ=>(ae.ik (Br.T (Ld.q ?_)));refine ay.q ?_;refine aD.Mr (ke:=kq) (k:=q) (vr:=Pb) (x:=r) vW qs AW sO rfl λes' bB he=>⟨_,.tail (.tail (.tail (.tail (.tail (.tail (.tail ((c6.head _).ca LB))))))),?_⟩;refine JE.mk (hJ _ λgs=>?_);have hr:S3 r=uv t S0 (l3 q):=mk.is.trans sM;have qt:2<=r:=xc6 λh=>by
    obtain⟨x,hx⟩:=zh;apply hx;rw[<-hr];have Zf:=kj.ok.mid.int;have:r=0\/r=1:=by omega
    rcases this with rfl|rfl
    ·rw[Zf.zero,Zf.zero]
    rw[Zf.one,Zf.one]
   have j8:=jD.cW.step dm mk qt Sh;have EI:gx K2 S2 fT K3 S3 (fT++[r]) 1:=⟨mk.N,mk.fn,[r],rfl,xaj _⟩;have v9:r<2\/r∈fT++[r]\/K0.hold r=65535:=.inr (.inl zI);refine aM.mk (.skip (.skip .tail)) ⟨K3,S3,fT++[r],es',bB,vm3,CM3,C3,rfl,⟨⟨[],kj,.inl rfl⟩,j8,Wd,_,he,λy hy=>(nR hy).elim (λe=>by rw[e];exact⟨hr,v9⟩) (λhy=>?_)⟩,(yb.trans EI).Mf zO,.inl ⟨r,rfl,hr,v9⟩⟩;obtain⟨k1,k2⟩:=VT y hy;exact⟨by rw[EI.fn y.2 (hkl y hy),k1],k2.imp id (Or.imp EI.mem id)⟩
  ·refine Ext.two λJ hJ=>(ae.ik (Br.F (JE.mk (hJ _ λgs=>?_))));refine aM.mk (.skip (.skip .tail)) ⟨K2,S2,fT,gR,iF,vm2,CM2,C2,rfl,jD,yb.Mf zO,.inr ⟨rfl,?_⟩⟩;rintro⟨ku,RM,hfit⟩;have:=dm.ok.roomFor dm.od RM (by rw[jD.cW.cap];exact hfit) (by rw[n2];exact jD.cW.U) (d:=⟨v',x1,x2⟩) l1 l2 hx (by rw[n2];exact hv.lt) ⟨by show lv ah v'<dep K2.n (lv ah) K2.N x1;omega,by show lv ah v'<dep K2.n (lv ah) K2.N x2;omega⟩ (Sh _ (by rw[sM];exact oF sN fk zh)) hT;omega
  refine Ext.two λJ hJ=>(ae.ik (Br.T (Ld.q ?_)));refine ay.q ?_;refine aD.Mr (ke:=kq) (k:=q) (vr:=Pb) (x:=r) vW qs AW sO rfl λes' bB he=>⟨_,.tail (.tail (.tail (.tail (.tail (.tail (.tail ((c6.head _).ca LB))))))),?_⟩;refine JE.mk (hJ _ λgs=>?_);have hr:S2 r=uv t S0 (l3 q):=Gj.trans sM;have v9:r<2\/r∈fT\/K0.hold r=65535:=.inr (jD.cW.full hfull);exact aM.mk (.skip (.skip .tail)) ⟨K2,S2,fT,es',bB,vm2,CM2,C2,rfl,⟨jD.ks,jD.cW,jD.mde,_,he,λy hy=>(nR hy).elim (λe=>by rw[e];exact⟨hr,v9⟩) (λhy=>VT y hy)⟩,yb.Mf zO,.inl ⟨r,rfl,hr,v9⟩⟩
end
section
variable {kp bw:Nat} {vl vm:zV} {K:Kd} {S:Nat->aA.Fn} {ord ah tr:zL} {C:Hp}
theorem Ab{Y:Hp}{vr:zV}{refs:zL}(hK:cc kp K S ord ah tr C)(hr:dk .u32 Y vr (iw refs))(hl:∀r∈refs,live K.N r)(cD:refs.length<=1048576):
  Fc zQ 177 #[ptr kp,vr] (Y++C) (λw H=>∃bw vl CL lvl,w=.tuple #[ptr bw,iv 0]/\H=gy bw kp vl (.slice none 0 0)::(CL++(Y++C))/\aO 3 .i64 vl (iw lvl) CL/\lvl.length=K.n/\∀v,v<K.n->lvl.getD v 0=lv ah v):=by
 have hn:K.n<=64:=hK.bc.lB;have mU:=hK.od;refine aE λg=>JJ (ae.aH (Br.no (hr.bP ?_)));rw[aq];refine⟨λvs H=>∃i:Nat,vs=[iv (i:Int)]/\i<=refs.length/\H=Y++C,λvs _=>refs.length-bJ vs 0,JE.mk ⟨0,rfl,xaM _,rfl⟩,?_⟩;rintro w7 H ⟨i,⟨⟩,hi,rfl⟩ gs;refine ae.eZ (Br.dec (λhlt=>?_) (λhlt=>?_))
 ·have hlr:=hl _ (xaB hlt);refine hr.ld (n:=((refs[i]:Nat):Int)) (cP (xaa hlt)) (λ_ h=>xad _ h) ?_;refine aa.eq (args:=#[ptr kp,u32 refs[i]]) (iT hK.rep (by have:=hK.bL hlr;omega)) ?_;rw[bX.2 hlr];refine Ext.two λb15 _=>(St.whole (r:=got K.N refs[i]) (by exact .head _) rfl (aQ _ _).1 (aQ _ _).2 ?_);exact ae.cL (Br.F (ae.inc (aC.of .tail ⟨i+1,rfl,hlt,rfl⟩ (by simp only[bJ];omega))))
 refine aa.eq (gM hK.rep) (cV.ints zO zO λbl=>?_);refine Build.mk (cs:=[ptr kp,.slice (some ⟨bl,0,none⟩) K.n K.n,.slice none 0 0]) zK λbw _=>?_;refine aa.fq (y3 hK.rep) ?_;rintro vo H ⟨N,rfl,ho⟩;refine ho.bP ?_;rw[aq,mU.len];have hz:List.replicate K.n (0:Int)=iw (List.replicate K.n 0):=by simp[iw]
 have hm:=aO.made (T:=3) (kd:=.i64) (b:=bl) (iw (List.replicate K.n 0));rw[aq,xdV]at hm;rw[hz];generalize hvl:Value.slice (some ⟨bl,0,none⟩) K.n K.n=vl at*;refine⟨λvs H=>∃(i:Nat) (L:zL) (CL:Hp),vs=[iv (i:Int)]/\i<=K.n/\H=gy bw kp vl (.slice none 0 0)::(CL++(Y++(N++C)))/\aO 3 .i64 vl (iw L) CL/\L.length=K.n/\∀j,j<i->L.getD (ord.getD j 0) 0=j,λvs _=>K.n-bJ vs 0,
  JE.mk ⟨0,_,_,rfl,xaM _,rfl,hm,by simp,λj hj=>absurd hj (xcS _)⟩,?_⟩
 rintro w34 H ⟨i,L,CL,⟨⟩,hi,rfl,hL,hLl,hLo⟩ gs;refine ae.eZ (Br.dec (λhlt=>?_) (λhlt=>?_))
 ·have oX:=(mU.bc i hlt).1;refine ho.ld (x:=((ord.getD i 0:Nat):Int)) (bH (by rw[mU.len];exact hlt)) (λ_ h=>.tail _ (xab _ (xab _ (xad _ h)))) (Ld.n ?_);refine hL.nt (x:=(i:Int)) (.cons .left) (by rw[aq];omega) λCL' hL'=>?_;rw[fi]at hL';refine ae.inc (aC.mk ⟨i+1,L.set (ord.getD i 0) i,CL',rfl,hlt,rfl,hL',by simp[hLl],λj hj=>?_⟩ (by simp only[bJ];omega));by_cases e:j=i
  ·subst e;rw[xar,xbJ zO];rfl
  have hj':j<i:=by omega
  have hne:ord.getD i 0≠ord.getD j 0:=λh=>by
   have a:=(mU.bc i hlt).2;have b:=(mU.bc j zO).2;rw[h,b]at a;exact e a
  rw[xar,xbH hne,<-xar,hLo j hj']
 obtain rfl:i=K.n:=by omega
 refine aM.mk (.cons (.cU (.cU .right _) _)) ⟨bw,vl,CL,L,rfl,rfl,hL,hLl,λv hv=>?_⟩;have h1:=hLo (lv ah v) (hK.ok.lv.lt v hv);rwa [mU.of hK.ok.lv hv]at h1
structure L6(K K':Kd)(made:zL)(x:Nat)(ok:Bool):Prop where
 n:K'.n=K.n
 cap:K'.cap=K.cap
 N:∀s d,K'.N s=some d->K.N s=some d
 hold:∀s,K'.hold s+made.count s=K.hold s+if ok=true/\s=x/\2<=x then 1 else 0
theorem WN{X CM:Hp}{made:zL}{x:Nat}{ok fu:Bool}(hK:cc kp K S ord ah tr C)(hM:aO 110 .u32 vm (iw made) CM)(hc:∀s,made.count s<=K.hold s)(h2:∀s∈made,2<=s)(Pt:∀s∈made,s<4294967296)(hx:ok=true->((x<2\/x∈made)↔fu=false))(cD:made.length<=1099511627776):
  Fc zQ 251 #[ptr bw,u32 x,iv (if ok then 0 else 9)] (gy bw kp vl vm::(X++(CM++C))) (λw H=>∃K' C' cT,w=.tuple #[u32 (if ok&& !fu then x else 0),iv (if ok then(if fu then 8 else 0)else 9)]/\H=gy bw kp vl (.slice none 0 0)::(X++(CM++C'))/\cc kp K' S ord ah cT C'/\(cT=[]\/(cT=tr/\((ok&& !fu)=true->made≠[])))/\L6 K K' made x (ok&& !fu)):=by
 refine aE λg=>I2 (ae.eR (b:=0) (dc.or (decide (x=1)) (λ_=>ae.eR (b:=1) ⟨rfl,rfl⟩) zI λgs=>?_));rw[<-xa7];refine Ld.n (hM.bP ?_);rw[aq];refine⟨λvs H=>∃(i:Nat) (Ki:Kd) (Ci:Hp) (W6:zL) (kept:Bool),vs=[.bool kept,iv (i:Int)]/\i<=made.length/\H=gy bw kp vl vm::(X++(CM++Ci))/\cc kp Ki S ord ah W6 Ci/\(W6=[]\/W6=tr)/\Ki.n=K.n/\Ki.cap=K.cap/\(∀s d,Ki.N s=some d->K.N s=some d)/\
   (∀s,Ki.hold s+(made.take i).count s=K.hold s+if kept=true/\s=x/\2<=x then 1 else 0)/\(x<2->kept=true)/\(kept=true->x<2\/(ok=true/\x∈made.take i))/\(ok=true->x∈made.take i->kept=true),λvs _=>made.length-bJ vs 1,
  JE.mk ⟨0,K,C,tr,_,rfl,xaM _,rfl,hK,.inr rfl,rfl,rfl,λ_ _ h=>h,λs=>?_,λh=>xan zO,λh=>.inl (by have:=xca h;omega),λ_ h=>by simp at h⟩,?_⟩
 ·rw[xdM,xdK,xac (λh=>by have:=xca h.1;omega)]
 rintro w13 w14 H ⟨i,Ki,Ci,W6,kept,⟨⟩,hi,rfl,hKi,VC,hn,hcap,hN,hh,uo,rG,pK⟩ gs;refine ae.eZ (Br.dec (λhlt=>?_) (λhlt=>?_))
 ·intro J hJ;have nv:made.take (i+1)=made.take i++[made[i]]:=xaZ hlt;have hfm:made[i]∈made:=xaB hlt;have l6:(made.take i).count made[i]+1<=made.count made[i]:=by
   have h1:=(xdO (i+1) made).count_le made[i];rw[nv,xbf,List.count_singleton_self]at h1;exact h1
  refine hM.ld (x:=((made[i]:Nat):Int)) (cP (xaa hlt)) (λ_ h=>.tail _ (xab _ (xad _ h))) ?_;generalize hf:made[i]=f at*;refine ae.eR (dc.and (!kept) (λ_=>Un.not ⟨rfl,rfl⟩) zI λgs=>?_);refine dc.and ok (λ_=>ae.ik ⟨rfl,by cases ok<;>rfl⟩) zI λgs=>?_;refine Br.mk (λhb=>?_) (λhb=>?_)
  ·simp only[xaH,xaI,xbF]at hb;obtain⟨⟨rfl,hkf⟩,hok⟩:=hb;refine JE.mk (hJ _ _ λgs=>?_);refine ae.inc (aC.mk ⟨i+1,Ki,Ci,W6,true,rfl,hlt,rfl,hKi,VC,hn,hcap,hN,λs=>?_,λ_=>rfl,λ_=>.inr ⟨hok,by rw[nv];simp⟩,λ_ _=>rfl⟩ (by simp only[bJ];omega));have h0:=hh s;rw[nv,xbf,xcG];rw[xac (λh=>by rw[hkf]at h;cases h.1)]at h0;by_cases e:s=f
   ·subst e;have:=h2 s hfm;simp[this];omega
   have:(f==s)=false:=by simpa using λe'=>e e'.symm
   simp[e,this];omega
  refine Ld.n ?_;have hhf:Ki.hold f≠0:=by
   have h0:=hh f;have:=hc f;split at h0<;>omega
  refine aa.fq (args:=#[ptr kp,u32 f]) (mY hKi (r:=f) (Pt f hfm) (λ_=>hhf)) ?_;rintro w C2 ⟨rfl,K2,dm,f2⟩;refine JE.mk (hJ _ _ λgs=>?_);refine ae.inc (aC.mk ⟨i+1,K2,C2,[],kept,rfl,hlt,rfl,dm,.inl rfl,f2.n.trans hn,f2.cap.trans hcap,λs d hd=>hN s d (f2.N s d hd),λs=>?_,uo,λh=>(rG h).imp id (λh=>⟨h.1,by rw[nv];exact xad _ h.2⟩),λh1 h3=>?_⟩ (by simp only[bJ];omega))
  ·have h0:=hh s;rw[f2.hold,nv,xbf,xcG];by_cases e:s=f
   ·subst e;have:=h2 s hfm;simp[this];omega
   have:(f==s)=false:=by simpa using λe'=>e e'.symm
   simp[e,this];omega
  rw[nv,xao,xaG]at h3;rcases h3 with h3|h3
  ·exact pK h1 h3
  subst h3;cases hkk:kept
  ·rw[hkk,h1]at hb;simp at hb
  rfl
 obtain rfl:i=made.length:=by omega
 rw[xba]at hh rG pK;refine Nil.ptr (ai.mk (St.one (by exact .head _) rfl zI rfl ?_));intro J hJ;refine ae.cL ?_;cases ok with
 |false=>
  refine Br.T ?_;have hE:L6 K Ki made x false:=⟨hn,hcap,hN,λs=>by
   have h0:=hh s;rw[xac (λh=>by cases h.1)];rw[xac (λh=>by
    rcases rG h.1 with h3|h3
    ·omega
    cases h3.1)]at h0
   exact h0⟩
  refine aM.here ⟨Ki,Ci,W6,?_,rfl,hKi,VC.imp id λh=>⟨h,λh=>by cases h⟩,hE⟩;rfl
 |true=>
  have hx:=hx rfl;cases fu with
  |true=>
   have hkf:kept=false:=by
    cases hkk:kept
    ·rfl
    have:(true=false):=hx.1 ((rG hkk).imp id λh=>h.2);cases this
   refine Br.F ?_;rw[hkf];refine Un.not (Br.yes (aM.here ⟨Ki,Ci,W6,rfl,rfl,hKi,VC.imp id λh=>⟨h,λh=>by cases h⟩,⟨hn,hcap,hN,λs=>?_⟩⟩));have h0:=hh s;rw[hkf]at h0;rw[xac (λh=>by cases h.1)]at h0⊢;exact h0
  |false=>
  have hx:=hx.2 rfl;have DA:kept=true:=by
   rcases hx with h|h
   ·exact uo h
   exact pK rfl h
  refine Br.F ?_;rw[DA];refine Un.not (Br.no ?_);have hE:∀K3:Kd,K3.n=Ki.n->K3.cap=Ki.cap->K3.N=Ki.N->(∀s,K3.hold s=Ki.hold s)->L6 K K3 made x true:=λK3 a1 a2 a3 a4=>⟨a1.trans hn,a2.trans hcap,by rw[a3];exact hN,λs=>by rw[a4,hh s,DA]⟩;refine ae.eR (b:=0) (dc.or (decide (x=1)) (λ_=>ae.eR (b:=1) ⟨rfl,rfl⟩) zI λgs=>?_);rw[<-xa7];refine Br.dec (λNz=>?_) (λNz=>?_)
  ·refine Ld.n ?_;refine aa.fq (mQ hKi (r:=x) (.inl zO) (λh=>by omega)) ?_;rintro w C3 ⟨rfl,K3,kj,mo⟩;refine JE.mk (hJ _ λgs=>aM.here ⟨K3,C3,[],by simp,rfl,kj,.inl rfl,hE K3 mo.n mo.cap mo.N λs=>?_⟩);rw[mo.hold,xac zO]
  refine JE.mk (hJ _ λgs=>aM.here ⟨Ki,Ci,W6,by simp,rfl,hKi,VC.imp id λh=>⟨h,λ_ hm=>?_⟩,hE Ki rfl rfl rfl λ_=>rfl⟩);rcases hx with h|h
  ·omega
  rw[hm]at h;cases h
end
theorem aa3{α:Type}(a b c d e f g h:α)(L R:List α):(a::b::c::d::e::f::g::h::(L++R)).Perm (g::d::e::b::h::f::a::(L++c::R)):=by
 classical
 rw[xcs];intro x;simp only[xbf,xb3];omega
def Z9(kp:Nat)(K:Kd)(S:Nat->aA.Fn)(ord ah tr:zL)(f:aA.Fn)(w:zV)(H:Hp):Prop:=
 (∃x K' S',w=.tuple #[u32 x,iv 0]/\cc kp K' S' ord ah [] H/\kP K S K' S' f x)\/
 (w=.tuple #[u32 0,iv 9]/\(∃K' S' cT,cc kp K' S' ord ah cT H/\(cT=[]\/cT=tr)/\Kept K S K' S')/\¬Fits (aG K.n ord (λg=>K.held S g\/g=f)) K.cap)
def j6(kp:Nat)(K:Kd)(S:Nat->aA.Fn)(ord ah tr:zL)(f:aA.Fn)(w:zV)(H:Hp):Prop:=
 Z9 kp K S ord ah tr f w H\/(w=.tuple #[u32 0,iv 8]/\(∃K' S' cT,cc kp K' S' ord ah cT H/\(cT=[]\/cT=tr)/\Kept K S K' S')/\∃r,2<=r/\K.hold r=65535/\S r=f)
section
variable {kp bw:Nat} {vl fv:zV} {K:Kd} {S:Nat->aA.Fn} {ord ah tr lvl:zL} {LB CL C:Hp} {t:Bool->Bool->Bool->Bool}
theorem LU(hK:cc kp K S ord ah tr C)(EH:By fv LB t)(XL:aO 3 .i64 vl (iw lvl) CL)(ni:lvl.length=K.n)(hlv:∀v,v<K.n->lvl.getD v 0=lv ah v)(q:Q3)(hq:∀r∈l3 q,live K.N r){c:Nat}(hT:Tree K.n (lv ah) K.N (l3 q) c):
  Fc zQ 178 #[ptr bw,kq q,fv] (LB++(gy bw kp vl (.slice none 0 0)::(CL++C))) (j6 kp K S ord ah tr (uv t S (l3 q))):=by
 have hrb:aT zQ 252=true:=by kernel_rfl
 obtain⟨fl,agJ,alB,RT,hfr⟩:=EH.is;refine aE λg=>JI λb1 _ b3 _ b5 _ b7 _ b9 _ bm _ g8 _=>?_;refine St.one (by exact .head _) rfl zI rfl ?_;intro r4 _;refine St.one (by exact .head _) rfl zI rfl ?_;refine Ld.q ?_;refine ay.q ?_;refine aF.of rfl hrb (aa.pre (H':=(b9,.cells #[iv 0] 27 zZ)::(b7,.cells #[.int .u32 0] 110 zZ)::XM g8 b1 b5 r4 bm bw kp fv vl (.slice none 0 0) LB CL [] C #[] 0) ?_ ?_)
 ·rw[RT];exact(aN.perm (aa3 _ _ _ _ _ _ _ _ _ _)).trans .tail
 have mU:=hK.od;have kZ:=hK.ok.wf;have jM:=hK.ok.lv;have pz:=hK.ok.mid.int;have hS:Stp kp K S (aG K.n ord (λg=>K.held S g\/g=uv t S (l3 q))) ord ah tr t K S [] #[] 0 (.slice none 0 0) [] C:=
  ⟨⟨tr,hK,.inr ⟨rfl,rfl⟩⟩,.refl λg hg=>cH (λg h=>.inl h) hg,aO.nil,[],aD.empty,λy hy=>by cases hy⟩
 refine aa.fq (args:=#[kq q,ptr g8,ptr b1,ptr b5,ptr r4]) (ZF hrb EH XL ni hlv hK.bc.lB kZ pz jM (λr hr=>by have:=hK.bL hr;omega) (λs hs=>.inr (hK.ok.mid.held s zO)) (X8:=tr) (l3 q) c hT q rfl K S [] #[] 0 (.slice none 0 0) [] C hS hq (λg hg=>cH (λg h=>.inr h) hg)) ?_;rintro w H ⟨K1,S1,made,es,ck,vm,CM,C1,rfl,EG,hA,Sc⟩;obtain⟨W7,eW,VD⟩:=EG.ks;have j8:=EG.cW;have hmx:=j8.rj eW;have afv:∀s∈made,s<4294967296:=λs hs=>by have:=eW.bL (j8.iB eW hs);omega
 have hmc:∀s,made.count s<=K1.hold s:=λs=>by rw[j8.hold];omega
 have fin:∀(x:Nat) (ok fu:Bool),w=.tuple #[u32 (if ok then x else 0),iv (if ok then 0 else 9)]->(ok=true->((x<2\/x∈made)↔fu=false))->(∀K2 C2 BE,cc kp K2 S1 ord ah BE C2->(BE=[]\/(BE=W7/\((ok&& !fu)=true->made≠[])))->L6 K1 K2 made (if ok then x else 0) (ok&& !fu)->j6 kp K S ord ah tr (uv t S (l3 q)) (.tuple #[u32 (if ok&& !fu then(if ok then x else 0)else 0),iv (if ok then(if fu then 8 else 0)else 9)]) C2)->(ok=false->x=0)->
   Ext 0 w λv23=>Ext 1 w λv24=>St 1 ((b9,.cells #[iv 0] 27 zZ)::(b7,.cells #[.int .u32 0] 110 zZ)::XM g8 b1 b5 r4 bm bw kp fv vl vm LB CL CM C1 es ck) (ptr b7) v23 λH25=>St 1 H25 (ptr b9) v24 λH26=>
   j7 zQ g 250 #[ptr b1,ptr b7,ptr b9] H26 λH27=>Ld H27 (ptr b7) λv28=>Ld H27 (ptr b9) λv29=>aM (j6 kp K S ord ah tr (uv t S (l3 q))) (.returned (.tuple #[v28,v29])) H27:=by
  intro x ok fu hw hx hd h0;subst hw;refine Ext.two (St.one (by exact .tail (.head _)) rfl zI rfl ?_);refine St.one (by exact .head _) rfl zI rfl ?_;refine Et (R:=_) ?_;unfold L250;refine Ld.q ?_;refine Ld.q ?_;refine Ld.q ?_;refine aa.fq (WN (X:=CL) (x:=if ok then x else 0) (ok:=ok) (fu:=fu) eW EG.mde hmc j8.two afv (λh=>by rw[xae h];exact hx h) zO) ?_;rintro w H ⟨K2,C2,BE,rfl,rfl,dm,ug,hE⟩;refine Ext.two (St.one (by exact .tail (.head _)) rfl zI rfl ?_);refine St.one (by exact .head _) rfl zI rfl ?_;refine⟨⟨_,rfl⟩,?_⟩;refine Ld.q ?_;refine Ld.q ?_;exact aM.mk (.skip (.skip (.skip (.skip (.skip (.skip (aN.right.trans (.skip (.skip (aN.right.trans .right)))))))))) (hd K2 C2 BE dm ug hE)
 have rE:∀s,K.hold s≠0->live K.N s:=λs hs=>.inr (hK.ok.mid.held s hs);rcases Sc with⟨x,rfl,hx,hxm⟩|⟨rfl,hno⟩
 ·by_cases hxk:x<2\/x∈made;rotate_left
  ·have FX:2<=x:=by omega
   have hfull:K.hold x=65535:=by
    rcases hxm with h|h|h
    ·exact absurd (.inl h) hxk
    ·exact absurd (.inr h) hxk
    exact h
   refine fin x true true rfl (λ_=>⟨λh=>absurd h hxk,λh=>by cases h⟩) (λK2 C2 BE dm ug hE=>.inr ⟨rfl,⟨K2,S1,BE,dm,?_,?_⟩,x,FX,hfull,?_⟩) (λh=>by cases h)
   ·rcases ug with h|⟨h,_⟩
    ·exact .inl h
    rcases VD with h2|⟨h2,_⟩
    ·exact .inl (h.trans h2)
    exact .inr (h.trans h2)
   ·have fU:∀s,K2.hold s=K.hold s:=λs=>by
     have a:=hE.hold s;have b:=j8.hold s;rw[xac (λh=>by cases h.1)]at a;omega
    refine⟨hE.n.trans j8.n,hE.cap.trans j8.cap,fU,λg=>?_,λr hr=>j8.fn r (rE r hr)⟩;constructor
    ·rintro⟨s,hs,rfl⟩;have hs':K.hold s≠0:=by rw[<-fU];exact hs
     exact⟨s,hs',j8.fn s (rE s hs')⟩
    rintro⟨s,hs,rfl⟩;exact⟨s,by show K2.hold s≠0;rw[fU];exact hs,(j8.fn s (rE s hs)).symm⟩
   rw[<-hx];exact(j8.fn x (rE x zO)).symm
  refine fin x true false rfl (λ_=>⟨λ_=>rfl,λ_=>hxk⟩) (λK2 C2 BE dm ug hE=>.inl (.inl ⟨x,K2,S1,rfl,?_,?_⟩)) (λh=>by cases h)
  ·have:BE=[]:=by
    rcases ug with h|⟨h,h'⟩
    ·exact h
    rcases VD with h2|⟨_,h2⟩
    ·rw[h,h2]
    exact absurd h2 (h' rfl)
   rw[this]at dm;exact dm
  have fU:∀s,K2.hold s=K.hold s+if s=x/\2<=x then 1 else 0:=λs=>by
   have a:=hE.hold s;have b:=j8.hold s;simp only[xcp,xdS,xa6,xcW]at a;omega
  have hl:live K2.N x:=by
   by_cases h2:x<2
   ·exact .inl h2
   refine .inr (dm.ok.mid.held x ?_);rw[fU,xae ⟨rfl,by omega⟩];omega
  exact⟨hE.n.trans j8.n,hE.cap.trans j8.cap,λs d hs=>jW hK.ok dm.ok (λs h=>by rw[fU];omega) (λs d d' h h'=>by
   have a:=hE.N s d' h';rw[j8.N s d h]at a;exact(xbm a).symm) _ s d hs (xaj _),λs hs=>j8.fn s hs,hl,hx,fU⟩
 refine fin 0 false false rfl (λh=>by cases h) (λK2 C2 BE dm ug hE=>.inl (.inr ⟨rfl,⟨K2,S1,BE,dm,?_,?_⟩,hno⟩)) (λ_=>rfl)
 ·rcases ug with h|⟨h,_⟩
  ·exact .inl h
  rcases VD with h2|⟨h2,_⟩
  ·exact .inl (h.trans h2)
  exact .inr (h.trans h2)
 have fU:∀s,K2.hold s=K.hold s:=λs=>by
  have a:=hE.hold s;have b:=j8.hold s;rw[xac (λh=>by cases h.1)]at a;omega
 refine⟨hE.n.trans j8.n,hE.cap.trans j8.cap,fU,λg=>?_,λr hr=>j8.fn r (rE r hr)⟩;constructor
 ·rintro⟨s,hs,rfl⟩;have hs':K.hold s≠0:=by rw[<-fU];exact hs
  exact⟨s,hs',j8.fn s (rE s hs')⟩
 rintro⟨s,hs,rfl⟩;exact⟨s,by show K2.hold s≠0;rw[fU];exact hs,(j8.fn s (rE s hs)).symm⟩
end
end
end Go.Proofs
namespace Go.Sx
open Go
section
variable {P:Program} {g:Gh}
theorem Build.three{t e:TypeId}{q:IntKind}{x y z:Int}{K:zV->Prop}(ht:P.underlying t=some (.array 3 e))(hz:dG P e=some 1)(h0:fK P t=some (.agg (ax q [0,0,0])))(h:K (.agg (ax q [x,y,z]))):
  Build P t [(0,.int q x),(1,.int q y),(2,.int q z)] K:=by
 refine⟨_,λw=>?_,h⟩;obtain⟨i,hi,hs⟩:=bE hz;obtain⟨i0,F8,Xp⟩:=cG h0;simp only[Instr.build,Sem.run_bind,dQ F8 Xp,Result.andThen_ok,run_underlying ht,run_sizeOf hi,hs];simp[Instr.fill,Value.cells,ax]
theorem Build.aaT{t e:TypeId}{q:IntKind}{x y:Int}{K:zV->Prop}(ht:P.underlying t=some (.array 3 e))(hz:dG P e=some 1)(h0:fK P t=some (.agg (ax q [0,0,0])))(h:K (.agg (ax q [x,y,0]))):
  Build P t [(0,.int q x),(1,.int q y)] K:=by
 refine⟨_,λw=>?_,h⟩;obtain⟨i,hi,hs⟩:=bE hz;obtain⟨i0,F8,Xp⟩:=cG h0;simp only[Instr.build,Sem.run_bind,dQ F8 Xp,Result.andThen_ok,run_underlying ht,run_sizeOf hi,hs];simp[Instr.fill,Value.cells,ax]
end
end Go.Sx
