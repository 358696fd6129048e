import Derived.Test.YtflhdclplgjbbaaGreatDoorX2
import Derived.Sort.AssemblyPlain
import Derived.Test.YtflhdclplgjbbaaGreatDoorX1
import Derived.Test.YtflhdclplgjbbaaGreatDoorProg
import Derived.RangeFuncIn
import Derived.RangeFuncLeaves
import Derived.RangeFuncRecord
import Derived.RangeFuncSeq
set_option linter.unusedVariables false
set_option linter.unusedSimpArgs false
set_option linter.unusedSectionVars false
set_option maxRecDepth 100000
namespace Go.Proofs
open Go Go.Sx Tryz
section
open aq
section
variable {kp:Nat} {K:Kd} {ord af tr:zL} {C:Hp}
theorem fy{l:zL}{r s x:Nat}(hr:r<l.length):(l.set r x).getD s 0=if s=r then x else l.getD s 0:=by
 simp only[List.getD,xbU];by_cases e:r=s
 ·subst e;simp[hr]
 rw[xad e,xad (xbp e)]
theorem sD(l:zL)(s:Nat):(l++[0]).getD s 0=l.getD s 0:=by
 simp only[List.getD,xdB];split
 ·rfl
 rename_i h;rw[xaF (by omega:l.length<=s)];cases hs:s-l.length<;>simp[hs]
def IM:Hp->Nat
 |_::(_,Obj.cells c _ _)::_=>(match c[2]? with|some (Value.slice _ n _)=>n|_=>0)
 |_=>0
theorem xp{b:qQ}{x:Nat×Obj}{n m:Nat}{a:Option Addr}{cp:Nat}(h:b.vu=.slice a m cp):IM (x::b.hp kp n)=m:=by simp[IM,qQ.hp,qQ.cells,h]
theorem DE(h:cv kp K ord af tr C){d:Nd}(hd:VS K.N d)(hv:d.v<K.n)(hT:K.T d=none)(hroom:K.used<K.cap)(hlo:d.lo<2\/d.lo<K.us.length)(hhi:d.hi<2\/d.hi<K.us.length)
 (hb:∀s,K.use s+2<2147483648):
  Fc zQ 139 #[ptr kp,nK d] C (λv C'=>∃r cN cg,v=u32 r/\K.N r=none/\2<=r/\r<K.cap/\cN.length=cg.length/\r<cN.length/\K.us.length<=cN.length/\cN.getD r 0=0/\
   (∀s,2<=s->s≠r->cN.getD s 0=K.use s+e1 (some d) s)/\(∀s,s<2->cN.getD s 0=K.use s)/\cg.getD r 0=0/\(∀s,s≠r->cg.getD s 0=K.hold s)/\
   cv kp {K with N:=up K.N r (some d),T:=nS K.T d (some r),used:=K.used+1,us:=cN,ho:=cg} ord af tr C'):=by
 have hcap:=h.cap;obtain⟨b,rfl,hO⟩:=h;have FR:=hO.ul;refine aS λg=>Cz λb1 _=>?_;refine DR.of (R:=(b1,.cells (Value.cells (nK d)) 60 zZ)::(kp,.cells (b.cells K.n) 103 zZ)::[]) (.cons (.cons .nil)) (Nil.ptr (Ld.f ?_));refine av.q ?_;refine aa.fq (Me hO.ar hd hroom) ?_;rintro v V1 ⟨r,rfl,h2,hrc,hN,har⟩;refine⟨.cons (.cons .nil),Ext.mk rfl (Ext.mk rfl ?_)⟩;refine⟨λ_ H=>∃(b':qQ) (cN cg:zL),H=(b1,.cells (Value.cells (nK d)) 60 zZ)::b'.hp kp K.n/\Sk b' {K with N:=up K.N r (some d),used:=K.used+1,us:=cN,ho:=cg} ord af tr/\
   K.us.length<=cN.length/\(∀s,cN.getD s 0=K.use s)/\∀s,cg.getD s 0=K.hold s,
  λ_ H=>r+1-IM H,JE.mk ⟨{b with CA:=V1},K.us,K.ho,rfl,{hO with ar:=har,ul:=FR},xak _,λ_=>rfl,λ_=>rfl⟩,?_⟩
 rintro H ⟨b',cN,cg,rfl,tW,hle,hu,hh⟩ gs;have Ud:=tW.ul;simp only at Ud;refine aO.q (Nil.ptr (Ld.f ?_));refine tW.us.bH ?_;rw[ag];refine ae.pN (Br.dec (λhge=>?_) (λhge=>?_))
 ·have hge:cN.length<=r:=hge;refine Nil.ptr (Ld.f ?_);refine ai.int (e:=21) zK zK zK λbx=>?_;refine tW.us.kx (.cons (.cons (.cons (.app (.app .left))))) (by exact .head _) zP zP λZP MV tE=>?_;refine Nil.ptr (ah.mk (St.one (by exact .tail (.tail (.head _))) tE.one (by simp[qQ.cells]) rfl ?_));refine Nil.ptr (Ld.f ?_);refine ai.int (e:=21) zK zK zK λby'=>?_;refine tW.ho.kx (.cons (.cons (.cons (.cons (.app (.app (.app .left))))))) (by exact .head _) zP zP λZR MA mQ=>?_;refine Nil.ptr (ah.mk (St.one (by exact .tail (.tail (.tail (.head _)))) mQ.one (by simp[qQ.cells]) rfl ?_));have e0:∀l:zL,iw l++[0]=iw (l++[0]):=λl=>by rw[bV];rfl
  rw[e0]at tE mQ;refine az.of (.skip (.skip (.refl _))) ⟨{b' with vu:=ZP,vh:=ZR,CU:=MV,CH:=MA},cN++[0],cg++[0],rfl,{tW with us:=tE,ho:=mQ,ul:=by simp at Ud⊢;omega},by simp;omega,λs=>by rw[sD,hu],λs=>by rw[sD,hh]⟩ ?_;obtain⟨a1,c1,e1⟩:=aH.len tW.us;obtain⟨a2,c2,e2⟩:=aH.len tE;have f1:=xp (b:=b') (x:=(b1,.cells (Value.cells (nK d)) 60 zZ)) (kp:=kp) (n:=K.n) e1;have f2:=xp (b:={b' with vu:=ZP,vh:=ZR,CU:=MV,CH:=MA}) (x:=(b1,.cells (Value.cells (nK d)) 60 zZ)) (kp:=kp) (n:=K.n) e2;rw[f1];refine xaR (Nat.le_of_eq (xbL (λz=>r+1-z) f2)) ?_;simp;omega
 have hge:¬cN.length<=r:=hge;have Ea:r<cN.length:=by omega
 have wu:r<cg.length:=by omega
 refine DR.of (R:=(kp,.cells (b'.cells K.n) 103 zZ)::[]) (.skip (.cons .nil)) (Nil.ptr (Ld.f ?_));refine Nil.ptr (Ld.f ?_);refine tW.us.jW (x:=0) (.cons (.cons (.app (.app .left)))) (by simpa using Ea) λMV tE=>?_;refine tW.ho.jW (x:=0) (.cons (.cons (.app (.app (.app .left))))) (by simpa using wu) λMA mQ=>?_;have e0:∀l:zL,(iw l).set r 0=iw (l.set r 0):=λl=>er l r 0;rw[e0]at tE mQ;have lor:d.lo≠r:=eP hd.lo h2 hN;have hir:d.hi≠r:=eP hd.hi h2 hN;refine Ld.f ?_;have u0:∀s,(cN.set r 0).getD s 0=if s=r then 0 else K.use s:=λs=>by rw[fy Ea];split;rfl;exact hu s
 have h0:∀s,(cg.set r 0).getD s 0=if s=r then 0 else K.hold s:=λs=>by rw[fy wu];split;rfl;exact hh s
 have cj:cv kp {K with N:=up K.N r (some d),used:=K.used+1,us:=cN.set r 0,ho:=cg.set r 0} ord af tr (({b' with CU:=MV,CH:=MA}:qQ).hp kp K.n):=⟨_,rfl,{tW with us:=tE,ho:=mQ,ul:=by simp;omega}⟩;refine aa.fq (An cj zP (by have:=hb d.lo;show(cN.set r 0).getD d.lo 0+1<_;rw[u0,xad lor];omega)) ?_;rintro v C1 ⟨rfl,bN⟩;refine Ld.f ?_;have u1:∀s,(qc {K with N:=up K.N r (some d),used:=K.used+1,us:=cN.set r 0,ho:=cg.set r 0} d.lo).getD s 0=(if s=r then 0 else K.use s)+(if 2<=s/\s=d.lo then 1 else 0):=λs=>by
  by_cases e:s=d.lo
  ·by_cases h2:2<=s
   ·rw[xae (show 2<=s/\s=d.lo from⟨h2,e⟩),e,kU zO zP];show(cN.set r 0).getD d.lo 0+1=_;rw[u0]
   rw[xad (show¬(2<=s/\s=d.lo)by omega)];unfold qc;rw[xae zO];show(cN.set r 0).getD s 0=_;rw[u0];rfl
  rw[xad (show¬(2<=s/\s=d.lo)by omega),rB e];show(cN.set r 0).getD s 0=_;rw[u0];rfl
 refine aa.fq (An bN (by rw[gH];simp;omega) (by
  have:=hb d.hi;show(qc _ d.lo).getD d.hi 0+1<_;rw[u1,xad hir];split<;>omega)) ?_
 rintro v C2 ⟨rfl,fG⟩;have adn:=fG;obtain⟨b3,rfl,hO3⟩:=fG;refine DR.self (Nil.ptr (Ld.f ?_));refine av.q ?_;refine aa.fq (DB hO3.ut hv hT) ?_;rintro v Sw ⟨rfl,Ro⟩;have u2:∀s,(qc {K with N:=up K.N r (some d),used:=K.used+1,us:=qc {K with N:=up K.N r (some d),used:=K.used+1,us:=cN.set r 0,ho:=cg.set r 0} d.lo,ho:=cg.set r 0} d.hi).getD s 0=(if s=r then 0 else K.use s)+(if 2<=s/\s=d.lo then 1 else 0)+(if 2<=s/\s=d.hi then 1 else 0):=λs=>by
  by_cases e:s=d.hi
  ·by_cases h2:2<=s
   ·rw[xae (show 2<=s/\s=d.hi from⟨h2,e⟩),e,kU zO (by rw[gH];simp;omega)];show(qc _ d.lo).getD d.hi 0+1=_;rw[u1]
   rw[xad (show¬(2<=s/\s=d.hi)by omega)];unfold qc;rw[xae zO];show(qc _ d.lo).getD s 0=_;rw[u1];rfl
  rw[xad (show¬(2<=s/\s=d.hi)by omega),rB e];show(qc _ d.lo).getD s 0=_;rw[u1];rfl
 refine aN.mk .tail ⟨r,_,_,rfl,hN,h2,hrc,?_,?_,?_,?_,?_,?_,?_,?_,{b3 with CT:=Sw},rfl,{hO3 with ut:=Ro}⟩
 ·rw[gH,gH];simp;omega
 ·rw[gH,gH];simp;omega
 ·rw[gH,gH];simp;omega
 ·rw[u2,xae rfl,xad (show¬(2<=r/\r=d.lo)by omega),xad (show¬(2<=r/\r=d.hi)by omega)]
 ·intro s Tc hne;rw[u2,xad hne,dm];have c1:(2<=s/\s=d.lo)↔d.lo=s:=⟨λh=>h.2.symm,λh=>⟨Tc,h.symm⟩⟩;have c2:(2<=s/\s=d.hi)↔d.hi=s:=⟨λh=>h.2.symm,λh=>⟨Tc,h.symm⟩⟩;simp only[c1,c2];omega
 ·intro s hs;rw[u2,xad (show¬s=r by omega),xad (show¬(2<=s/\s=d.lo)by omega),xad (show¬(2<=s/\s=d.hi)by omega)];try simp
 ·rw[h0,xae rfl]
 intro s hne;rw[h0,xad hne]
end
section
variable {kp:Nat} {K:Kd} {ord af tr:zL} {C:Hp} {S:Nat->aq.Fn}
theorem OF(B:Hp)(v:Int)(r:Nat)(kv:zV):Rd zQ 162 #[kv,iv v,u32 r,u32 r] B (· =u32 r):=by
 exact aS λg=>nO (ae.bA (Br.T (bX.mk (.refl _) rfl)))
theorem OH(h:cv kp K ord af tr C){v lo hi r:Nat}(hne:lo≠hi)(hv:v<K.n)(hT:K.T ⟨v,lo,hi⟩=some r):
  Rd zQ 162 #[ptr kp,iv (v:Int),u32 lo,u32 hi] C (· =u32 r):=by
 obtain⟨b,rfl,hO⟩:=h;refine aS λg=>nO (ae.bA (Br.OX hne (Build.mk (cs:=aY ⟨v,lo,hi⟩) zK ?_)));intro b3 _;refine St.p (λx hx=>by simp[aY,u32]at hx;rcases hx with rfl|rfl|rfl<;>rfl) ?_;refine DR.self (Nil.ptr (Ld.f ?_));refine av.q ?_;refine aa.eq (q9 (d:=⟨v,lo,hi⟩) hO.ut hv) ?_;rw[hT];exact⟨.refl _,Ext.mk rfl (Ext.mk rfl (Br.yes (bX.mk .tail rfl)))⟩
theorem OG(h:cv kp K ord af tr C){d:Nd}(hne:d.lo≠d.hi)(hd:VS K.N d)(hv:d.v<K.n)(hT:K.T d=none)(hroom:K.used<K.cap)(hlo:d.lo<2\/d.lo<K.us.length)(hhi:d.hi<2\/d.hi<K.us.length)
 (hb:∀s,K.use s+2<2147483648):
  Fc zQ 162 #[ptr kp,iv (d.v:Int),u32 d.lo,u32 d.hi] C (λv C'=>∃r cN cg,v=u32 r/\K.N r=none/\2<=r/\r<K.cap/\cN.length=cg.length/\r<cN.length/\K.us.length<=cN.length/\cN.getD r 0=0/\
   (∀s,2<=s->s≠r->cN.getD s 0=K.use s+e1 (some d) s)/\(∀s,s<2->cN.getD s 0=K.use s)/\cg.getD r 0=0/\(∀s,s≠r->cg.getD s 0=K.hold s)/\
   cv kp {K with N:=up K.N r (some d),T:=nS K.T d (some r),used:=K.used+1,us:=cN,ho:=cg} ord af tr C'):=by
 have h0:=h;obtain⟨b,rfl,hO⟩:=h;refine aS λg=>nO (ae.bA (Br.OX hne (Build.mk (cs:=aY d) zK ?_)));intro b3 _;refine St.p (λx hx=>by simp[aY,u32]at hx;rcases hx with rfl|rfl|rfl<;>rfl) ?_;refine DR.self (Nil.ptr (Ld.f ?_));refine av.q ?_;refine aa.eq (q9 (d:=d) hO.ut hv) ?_;rw[hT];refine⟨.refl _,Ext.mk rfl (Ext.mk rfl (Br.no ?_))⟩;refine av.q ?_;refine aa.fq (DE h0 hd hv hT hroom hlo hhi hb) ?_;rintro v C' ⟨r,cN,cg,rfl,hh⟩;exact aN.mk .tail ⟨r,cN,cg,rfl,hh⟩
structure ug(K' K:Kd):Prop where
 N:∀{s d},K'.N s=some d->K.N s=some d
 n:K'.n=K.n
 cap:K'.cap=K.cap
 ho:K'.ho=K.ho
 us:∀s,K'.use s<=K.use s
 idle:(∀s,K.N s=none->K.use s=0)->∀s,K'.N s=none->K'.use s=0
theorem ug.refl(K:Kd):ug K K:=⟨λh=>h,rfl,rfl,rfl,λ_=>xak _,λh=>h⟩
theorem ug.trans{A B C:Kd}(h:ug A B)(h':ug B C):ug A C:=⟨λx=>h'.N (h.N x),h.n.trans h'.n,h.cap.trans h'.cap,h.ho.trans h'.ho,λs=>xbN (h.us s) (h'.us s),λhi=>h.idle (h'.idle hi)⟩
def PL(P:Nat->Nat)(N:dA):Prop:=∀t,2<=t->0<P t->∃d,N t=some d
def fB(P0:Nat->Nat)(l:zL):Nat->Nat:=λs=>P0 s+l.count s
theorem GB{P0:Nat->Nat}{l:zL}{t:Nat}:up (fB P0 (l++[t])) t (fB P0 (l++[t]) t-1)=fB P0 l:=by
 funext s
 unfold up fB;split
 ·rename_i e;subst e;simp
 rename_i e;simp[xaX,xbB,xbp e]
theorem jV{P0:Nat->Nat}(h:cv kp K ord af tr C){r:Nat}(hm:gZ K S fZ (fB P0 [r]))(hp:Pos K)(hl:PL (fB P0 [r]) K.N)(hr:r<1048576)(hbu:∀s,K.use s<2147483648):
  Fc zQ 106 #[ptr kp,u32 r] C (λv C'=>v=.tuple #[]/\∃K',cv kp K' ord af tr C'/\gZ K' S fZ P0/\Pos K'/\PL P0 K'.N/\ug K' K):=by
 refine aS λg=>Dn (ai.int (e:=27) zK zK zK λbx=>?_);refine TZ (λk vs H=>∃(w:zV) (Ct C':Hp) (todo:zL) (K':Kd),vs=[w]/\H=Ct++C'/\aL 27 .u32 w (iw todo) Ct/\cv kp K' ord af tr C'/\gZ K' S fZ (fB P0 todo)/\Pos K'/\PL (fB P0 todo) K'.N/\ug K' K/\(∀t∈todo,t<1048576)/\k=3*K'.used+todo.length/\k<=3*K.used+1)
  _ ⟨_,[_],C,[r],K,rfl,rfl,aL.made [(r:Int)],h,hm,hp,hl,.refl K,by simpa using hr,rfl,by simp⟩ ?_
 rintro w H hJ gs;obtain⟨k,⟨w',Ct,C',todo,K',hw,rfl,ht,hK,hM,KW,Iu,m8,hT,hk,hkb⟩,hkm⟩:=hJ.open;simp only[xau,xaY]at hw;subst hw;refine ht.bH ?_;rw[ag];refine ae.kG (b:=0) (Br.dec (λhpos=>?_) (λhpos=>?_))
 ·have Wu:=hm.cap;obtain⟨pre,t,rfl⟩:∃pre t,todo=pre++[t]:=⟨todo.dropLast,todo.getLast (by intro e;simp[e]at hpos),(xc3 _).symm⟩;have htl:(pre++[t]).length=pre.length+1:=by simp
  have N8:=hT t zI;refine ht.bH ?_;rw[ag,htl];refine ae.tH (b:=1) ?_ zO ?_
  ·simp[bM];omega
  rw[xbQ];refine ht.ld (i:=pre.length) (x:=(t:Int)) (by rw[bV];simp[iw]) (aU.sub .left) (ht.cut (i:=pre.length) zI λw' ht'=>?_);have Kf:aL 27 .u32 w' (iw pre) Ct:=by
   rw[bV,xdf zI]at ht';exact ht'
  have YL:∀s∈pre,s<1048576:=λs hs=>hT s (xac _ hs);refine ae.wZ (b:=1) (Br.dec (λh1=>?_) (λh1=>?_))
  ·have hc:∀s,2<=s->fB P0 (pre++[t]) s=fB P0 pre s:=λs hs=>by
    unfold fB;rw[xaX,xbB];simp;omega
   exact mh.back (.refl _) hkm (3*K'.used+pre.length) ⟨w',Ct,C',pre,K',rfl,rfl,Kf,hK,hM.congr (λ_=>xdb) hc,KW,λs hs h0=>Iu s hs (by rw[hc s hs];exact h0),m8,YL,rfl,by simp at hk;omega⟩ (by rw[hk];simp)
  have hPt:0<fB P0 (pre++[t]) t:=by unfold fB;simp;omega
  obtain⟨d,hd⟩:=Iu t zO hPt;have hfit:=hM.fit hd;have Ul:=KW t d hd;obtain⟨b,rfl,hO⟩:=hK;refine Nil.ptr (Ld.f ?_);refine hO.us.ld (x:=((K'.use t:Nat):Int)) (bc hfit) (aU.sub (.app (.cons (.app (.app .left))))) (ae.tH (b:=1) ?_ zO ?_)
  ·have:=m8.us t;have:=hbu t;simp[bM];omega
  refine hO.us.jW (x:=((K'.use t-1:Nat):Int)) (.app (.cons (.app (.app .left)))) (by simpa using hfit) λMV tE=>?_;rw[er]at tE;have g1:∀s,(K'.us.set t (K'.use t-1)).getD s 0=if s=t then K'.use t-1 else K'.use s:=λs=>fy hfit
  have Ga:=hM.less (r:=t) (cN:=K'.us.set t (K'.use t-1)) hPt zI (by rw[g1,xae rfl];omega) (λs hs=>by rw[g1,xad hs]);rw[GB]at Ga;have Qc:Sk {b with CU:=MV} {K' with us:=K'.us.set t (K'.use t-1)} ord af tr:={hO with us:=tE,ul:=by simp;exact hO.ul};have S8:ug {K' with us:=K'.us.set t (K'.use t-1)} K:=⟨m8.N,m8.n,m8.cap,m8.ho,λs=>by
   show(K'.us.set t (K'.use t-1)).getD s 0<=_;rw[g1];have:=m8.us s;split
   ·rename_i e;subst e;omega
   ·exact this,λhi s hs=>by
   show(K'.us.set t (K'.use t-1)).getD s 0=0;have hs':K'.N s=none:=hs;rw[g1,xad (λe=>by subst e;rw[hd]at hs';cases hs')];exact m8.idle hi s hs'⟩
  have Vf:PL (fB P0 pre) K'.N:=λs hs h0=>Iu s hs (by unfold fB at h0⊢;rw[xaX];omega);refine Nil.ptr (Ld.f ?_);refine tE.ld (x:=((K'.use t-1:Nat):Int)) (by rw[<-er];simp[hfit]) (aU.sub (.app (.cons (.app (.app .left))))) ?_;refine ae.kG (b:=0) (Br.dec (λh3=>?_) (λh3=>?_))
  ·refine mh.back (.refl _) hkm (3*K'.used+pre.length) ⟨w',Ct,_,pre,_,rfl,rfl,Kf,⟨_,rfl,Qc⟩,Ga,λs e hs=>?_,Vf,S8,YL,rfl,by simp at hk;omega⟩ (by rw[hk];simp);show 0<(K'.us.set t (K'.use t-1)).getD s 0;rw[g1];split
   ·exact h3
   exact KW s e hs
  have hu0:K'.use t=1:=by omega
  have cj:cv kp {K' with us:=K'.us.set t (K'.use t-1)} ord af tr (({b with CU:=MV}:qQ).hp kp K'.n):=⟨_,rfl,Qc⟩;refine aa.eq (lF cj zO) ?_;have KZ:2<=t:=by omega
  have Yl:got K'.N t=aY d:=de hd KZ;show By _ _ _;intro b32 _;rw[Yl];refine St.p (λx hx=>by simp[aY,u32]at hx;rcases hx with rfl|rfl|rfl<;>rfl) ?_;refine DR.self (Nil.ptr (Ld.f ?_));refine av.q ?_;have YN:K'.T d=some t:=(hM.iG d t).2 ⟨hd,λh=>h⟩;refine aa.fq (uv Qc.ut (hM.var hd) YN) ?_;rintro v Sw ⟨rfl,Ro⟩;refine Nil.ptr (Ld.f ?_);refine aa.fq (Mj Qc.ar ⟨d,hd⟩ KZ) ?_;rintro v V1 ⟨rfl,har⟩;refine Ld.f ?_;refine Ld.f ?_;refine ai.JW (e:=27) zK zK zK λbz=>?_;refine Kf.zm (.cons (.cons .left)) (cR.block (l:=[(d.lo:Int),(d.hi:Int)]) (by exact .head _) zI) (by simp at hk⊢;omega) (by simp at hk⊢;omega) λw2 Ct2 D9=>?_;have e0:iw pre++[(d.lo:Int),(d.hi:Int)]=iw (pre++[d.lo,d.hi]):=by rw[bV];rfl
  rw[e0]at D9;have Wh:({K' with us:=K'.us.set t (K'.use t-1)}:Kd).use t=0:=by show(K'.us.set t (K'.use t-1)).getD t 0=0;rw[g1,xae rfl];omega
  have Ej:=Ga.free (r:=t) (d:=d) hd (λh=>h) Wh;have UT:cH K'.N t K'.cap=0:=by have:=Ga.use hd;rw[Wh]at this;exact(by have h5:cH K'.N t K'.cap+_+_=0:=this.symm;omega)
  have fU:=iB UT t (hM.two hd).2 d hd;have YS:fB P0 pre t=0:=by have:=Ga.use hd;rw[Wh]at this;omega
  have hroom:0<K'.used:=by have:=hM.room;omega
  have hlt:∀x,live K'.N x->x<1048576:=λx hx=>cj.lt hx;have kM:∀s,2<=s->fB P0 pre s+e1 (some d) s=fB P0 (pre++[d.lo,d.hi]) s:=λs _=>by
   unfold fB;rw[dm,xaX,xck,xck,xdo];simp only[xc5];omega
  refine mh.back (.skip (.skip (.refl _))) hkm (3*(K'.used-1)+(pre++[d.lo,d.hi]).length) ⟨w2,Ct2,_,pre++[d.lo,d.hi],{K' with us:=K'.us.set t (K'.use t-1),N:=up K'.N t none,T:=nS K'.T d none,used:=K'.used-1},rfl,rfl,D9,
   ⟨{b with CU:=MV,CT:=Sw,CA:=V1},rfl,{Qc with ar:=har,ut:=Ro}⟩,Ej.congr (λ_=>xdb) kM,λs e hs=>?_,λs hs h0=>?_,⟨λ{s e} hs=>?_,S8.n,S8.cap,S8.ho,S8.us,λhi s hs=>?_⟩,λs hs=>?_,rfl,by simp at hk⊢;omega⟩ (by simp at hk⊢;omega)
  ·have hne:s≠t:=λe2=>by subst e2;have mZ:up K'.N s none s=some e:=hs;rw[aD]at mZ;cases mZ
   show 0<(K'.us.set t (K'.use t-1)).getD s 0;rw[g1,xad hne];have mZ:up K'.N t none s=some e:=hs;rw[aE hne]at mZ;exact KW s e mZ
  ·have hne:s≠t:=λe2=>by
    subst e2;rw[<-kM s hs,YS]at h0;rw[dm,xad fU.1,xad fU.2]at h0;omega
   show∃e,up K'.N t none s=some e;rw[aE hne];rw[<-kM s hs]at h0;by_cases h5:0<fB P0 pre s
   ·exact Vf s hs h5
   rw[dm]at h0;have:d.lo=s\/d.hi=s:=by
    by_cases h6:d.lo=s
    ·exact .inl h6
    by_cases h7:d.hi=s
    ·exact .inr h7
    rw[xad h6,xad h7]at h0;omega
   rcases this with rfl|rfl
   ·rcases hM.lo hd with h8|h8
    ·omega
    exact h8
   rcases hM.hi hd with h8|h8
   ·omega
   exact h8
  ·have mZ:up K'.N t none s=some e:=hs;by_cases e2:s=t
   ·subst e2;rw[aD]at mZ;cases mZ
   rw[aE e2]at mZ;exact m8.N mZ
  ·have mZ:up K'.N t none s=none:=hs;show(K'.us.set t (K'.use t-1)).getD s 0=0;by_cases e2:s=t
   ·subst e2;rw[g1,xae rfl];omega
   rw[aE e2]at mZ;exact S8.idle hi s mZ
  rcases xal.1 hs with hs|hs
  ·exact YL s hs
  simp at hs;rcases hs with rfl|rfl
  ·exact hlt _ (hM.lo hd)
  exact hlt _ (hM.hi hd)
 obtain rfl:todo=[]:=xcq zO;exact aN.mk .right ⟨rfl,K',hK,hM.congr (λ_=>xdb) (λs _=>by simp[fB]),KW,λs hs h0=>Iu s hs (by simpa[fB]using h0),m8⟩
end
abbrev lv(af:zL):Nat->Nat:=λv=>af.getD v 0
section
variable {kp:Nat} {K:Kd} {ord af tr:zL} {C:Hp} {S:Nat->aq.Fn}
theorem D4(h:cv kp K ord af tr C)(v:Int):Rd zQ 168 #[ptr kp,iv v] C (· =.bool (decide (0<=v/\v<K.n))):=by
 obtain⟨b,rfl,hO⟩:=h;refine aS λg=>B7 (ae.geq (dr.and (decide (v<K.n)) (λ_=>?_) rfl λ_=>bX.mk (.refl _) (by rw[xdG])));refine Nil.ptr (Ld.f ?_);exact ae.lss ⟨rfl,rfl⟩
theorem uM(h:cv kp K ord af tr C){r:Nat}(hl:live K.N r)(hv:∀d,K.N r=some d->d.v<K.n)(Em:r<2->K.N r=none):Rd zQ 169 #[ptr kp,u32 r] C (· =iv ((dep K.n (lv af) K.N r:Nat):Int)):=by
 have h0:=h;have hr:=h.lt hl;obtain⟨b,rfl,hO⟩:=h;refine aS λg=>B6 (Nil.ptr (ah.mk (aa.eq (lF h0 zO) ?_)));intro b5 _;refine St.whole (r:=got K.N r) (by exact .head _) rfl (aF _ _).1 (aF _ _).2 ?_;by_cases h2:r<2
 ·rw[dY h2,aT (Em h2)];refine Ld.f ?_;refine ae.geq (Br.ZX zD (Nil.ptr (Ld.f ?_)));exact bX.mk .tail rfl
 obtain⟨d,hd⟩:∃d,K.N r=some d:=by rcases hl with hl|hl;omega;exact hl
 rw[de hd zO,an hd];have m0:=hv d hd;have hlen:=hO.ol.2;refine Ld.f ?_;refine ae.geq (Br.WZ zI (Nil.ptr (Ld.f ?_)));refine Ld.f ?_;exact hO.lv.ld (x:=((af.getD d.v 0:Nat):Int)) (bc zO) (aU.sub (.cons (.cons (.app (.app (.app (.app (.app .left)))))))) (bX.mk .tail rfl)
def nf(K:Kd)(af:zL)(v:Int)(lo hi:Nat):Int:=
 if¬(0<=v/\v<K.n)then 2 else if fg K.N lo=false\/fg K.N hi=false then 3 else if lo≠hi/\min (dep K.n (lv af) K.N lo) (dep K.n (lv af) K.N hi)<=af.getD v.toNat 0 then 4 else 0
theorem Er(h:cv kp K ord af tr C)(v:Int){lo hi:Nat}(hlo:lo<4294967296)(hhi:hi<4294967296)(hv:∀r d,K.N r=some d->d.v<K.n/\2<=r):
  Rd zQ 136 #[ptr kp,iv v,u32 lo,u32 hi] C (· =iv (nf K af v lo hi)):=by
 have h0:=h;have Em:∀r,r<2->K.N r=none:=λr hr=>by
  cases e:K.N r with
  |none=>rfl
  |some d=>have:=(hv r d e).2;omega
 obtain⟨b,rfl,hO⟩:=h;refine aS λg=>CD (aa.eq (D4 h0 v) (Un.not ?_));by_cases AW:0<=v/\v<K.n;rotate_left
 ·rw[xas AW];exact Br.yes (bX.mk (.refl _) (by unfold nf;rw[xae AW]))
 rw[xaA AW];apply Br.no;obtain⟨n,rfl⟩:∃n:Nat,v=n:=⟨v.toNat,by omega⟩;have hnv:n<K.n:=by omega
 intro J hJ;refine Nil.ptr (ah.mk (aa.eq (lH h0 hlo) (Un.not ?_)));by_cases uQ:fg K.N lo=true;rotate_left
 ·have Uz:fg K.N lo=false:=by simpa using uQ
  rw[Uz];exact Split.QK rfl (aB.mk (JE.mk (hJ _ _ λgs=>Br.yes (bX.mk (.refl _) (by unfold nf;rw[xad (by simpa using AW),xae (.inl Uz)])))))
 rw[uQ];refine Split.go rfl (Nil.ptr (ah.mk (aa.eq (lH h0 hhi) (Un.not ?_))));by_cases Wo:fg K.N hi=true;rotate_left
 ·have UJ:fg K.N hi=false:=by simpa using Wo
  rw[UJ];exact aB.mk (JE.mk (hJ _ _ λgs=>Br.yes (bX.mk (.refl _) (by unfold nf;rw[xad (by simpa using AW),xae (.inr UJ)]))))
 rw[Wo];refine aB.mk (JE.mk (hJ _ _ λgs=>Br.no ?_));intro J2 A4;have hE:nf K af n lo hi=if lo≠hi/\min (dep K.n (lv af) K.N lo) (dep K.n (lv af) K.N hi)<=af.getD n 0 then 4 else 0:=by
  unfold nf;rw[xad (by simpa using AW),xad (by rw[uQ,Wo];simp)];rfl
 refine DR.self (ae.nU ?_);by_cases hne:lo≠hi;rotate_left
 ·rw[xas hne];exact Br.no (JE.mk (A4 _ _ λgs=>Br.no (bX.mk (.refl _) (by rw[hE,xad (λh=>hne h.1)]))))
 rw[xaA hne];refine Br.yes (Nil.ptr (Ld.f ?_));have hlen:=hO.ol.2;refine hO.lv.ld (x:=((af.getD n 0:Nat):Int)) (bc zO) (aU.sub (.cons (.app (.app (.app (.app (.app .left))))))) λF=>?_;refine aa.eq (uM h0 (bF.1 uQ) (λd hd=>(hv _ _ hd).1) (Em _)) (⟨.refl _,?_⟩);intro F2;refine aa.eq (uM h0 (bF.1 Wo) (λd hd=>(hv _ _ hd).1) (Em _)) (⟨.refl _,?_⟩);refine⟨_,_,_,rfl,rfl,?_⟩;have hmin:(if((dep K.n (lv af) K.N hi:Nat):Int)<((dep K.n (lv af) K.N lo:Nat):Int)then((dep K.n (lv af) K.N hi:Nat):Int)else((dep K.n (lv af) K.N lo:Nat):Int))=((min (dep K.n (lv af) K.N lo) (dep K.n (lv af) K.N hi):Nat):Int):=by
  split<;>omega
 rw[hmin];refine ae.pN (aB.mk ?_);by_cases hm:min (dep K.n (lv af) K.N lo) (dep K.n (lv af) K.N hi)<=af.getD n 0
 ·rw[xaA hm];exact JE.mk (A4 _ _ λgs=>Br.yes (bX.mk (.refl _) (by rw[hE,xae ⟨hne,hm⟩])))
 rw[xas hm];exact JE.mk (A4 _ _ λgs=>Br.no (bX.mk (.refl _) (by rw[hE,xad (λh=>hm h.2)])))
theorem DK(h:cv kp K ord af tr C){v lo hi:Nat}(hv:v<K.n):
  Rd zQ 137 #[ptr kp,iv (v:Int),u32 lo,u32 hi] C (· =if lo=hi then .tuple #[u32 lo,.bool true]else .tuple #[u32 ((K.T ⟨v,lo,hi⟩).getD 0),.bool (K.T ⟨v,lo,hi⟩).isSome]):=by
 obtain⟨b,rfl,hO⟩:=h;refine aS λg=>CC (ae.bA (Br.dec (λhe=>bX.mk (.refl _) (by rw[xae he])) (λhe=>?_)));refine Nil.ptr (ah.mk (Ld.f ?_));exact Build.mk (cs:=aY ⟨v,lo,hi⟩) zK (aa.eq (q9 (d:=⟨v,lo,hi⟩) hO.ut hv) (Ext.mk rfl (Ext.mk rfl (bX.mk (.refl _) (by rw[xad he];rfl)))))
theorem si(h:cv kp K ord af tr C){r:Nat}(hr:r<4294967296)(hb:∀s,K.hold s<2147483648):Rd zQ 105 #[ptr kp,u32 r] C (· =iv ((K.hold r:Nat):Int)):=by
 obtain⟨b,rfl,hO⟩:=h;refine aS λg=>Dp (ae.bf (dr.or (decide (K.ho.length<=r)) (λ_=>?_) zI λ_=>?_))
 ·refine aO.q (Nil.ptr (ah.mk (Ld.f ?_)));refine hO.ho.bH ?_;rw[ag];exact ae.pN ⟨rfl,rfl⟩
 rw[Bool.false_or];refine Br.dec (λhge=>?_) (λhlt=>?_)
 ·refine bX.mk (.refl _) ?_;unfold Kd.hold;rw[List.getD,xaF hge];rfl
 refine Nil.ptr (ah.mk (Ld.f ?_));exact hO.ho.ld (x:=((K.hold r:Nat):Int)) (bc zO) (aU.sub (.cons (.app (.app (.app .left))))) (aO.nat (by have:=hb r;simp[bM];omega) (bX.mk (.refl _) rfl))
theorem NQ(h:cv kp K ord af tr C)(h2:2<=K.used)(hu:K.used<=1048576):Rd zQ 36 #[ptr kp] C (· =iv ((K.used-2:Nat):Int)):=by
 obtain⟨b,rfl,hO⟩:=h;refine aS λg=>HM (ae.bf (Br.no (Nil.ptr (ah.mk (Ld.f ?_)))));exact aa.eq (zj hO.ar) (ae.tH (b:=2) (by simp[bM];omega) h2 (bX.mk (.refl _) rfl))
theorem FM(h:cv kp K ord af tr C):Rd zQ 94 #[ptr kp] C (· =iv ((tr.length:Nat):Int)):=by
 obtain⟨b,rfl,hO⟩:=h;refine aS λg=>GO (ae.bf (Br.no (Nil.ptr (Ld.f ?_))));refine hO.tr.bH ?_;rw[ag];exact bX.mk (.refl _) rfl
theorem fw(h:cv kp K ord af tr C):Rd zQ 22 #[ptr kp] C (· =iv ((K.n:Nat):Int)):=by
 obtain⟨b,rfl,hO⟩:=h;refine aS λg=>H6 (ae.bf (Br.no (Nil.ptr (Ld.f ?_))));exact bX.mk (.refl _) rfl
theorem gg(h:cv kp K ord af tr C){r:Nat}(hr:r<4294967296):Rd zQ 16 #[ptr kp,u32 r] C (· =.tuple #[.agg (got K.N r).toArray,iv (if fg K.N r then 0 else 3)]):=by
 have h0:=h;obtain⟨b,rfl,hO⟩:=h;refine aS λg=>Ic λb1 _=>?_;refine ae.bf (Br.no (Nil.ptr (ah.mk (aa.eq (lH h0 hr) (Un.not ?_)))));cases hb:fg K.N r with
 |false=>
  refine Br.yes (Build.mk (cs:=[iv 0,.int .u32 0,.int .u32 0]) zK (St.q ?_));refine av.q ?_;exact bX.mk .tail (by rw[yH hb];rfl)
 |true=>
  refine Br.no (Nil.ptr (ah.mk (aa.eq (lF h0 hr) (St.whole (r:=got K.N r) (by exact .head _) rfl (aF _ _).1 (aF _ _).2 ?_))));refine av.whole (r:=got K.N r) (by exact .head _) (aF _ _).1 ?_;exact bX.mk .tail rfl
end
theorem sP{B:Hp}{v:zV}{l:List Int}(h:cR .i64 B v l)(hl:l.length<=1099511627776):Fc zQ 50 #[v] B (λr H=>∃C,H=C++B/\aL 3 .i64 r l C):=by
 refine aS λg=>Hz ?_;obtain⟨a,c,rfl,hc⟩:=h.shape;refine⟨.bool a.isNone,by simp[fD],?_⟩;refine Br.mk (λha=>?_) (λha=>?_)
 ·have:l=[]:=by
   rcases h.2 with⟨_,_,h1,h2⟩|⟨b,o,cap,cs,T,fz,h1,_⟩
   ·simpa using h2
   simp at h1;rw[h1.1]at ha;simp at ha
  subst this;exact aN.here ⟨[],rfl,aL.nil⟩
 refine ai.none (z:=iv 0) (e:=3) (k:=1) zK zK zK λb=>?_;refine(aL.made (T:=3) (kd:=.i64) (b:=b) []).zm (l2:=l) .left ((show cR .i64 B _ l from h).mono λ_ h=>.tail _ h) zP zP λv' C' ho=>?_;exact aN.here ⟨C',rfl,by simpa using ho⟩
theorem pE{kp:Nat}{K:Kd}{ord af tr:zL}{C:Hp}(h:cv kp K ord af tr C):Fc zQ 24 #[ptr kp] C (λr H=>∃N,H=N++C/\aL 3 .i64 r (iw ord) N):=by
 obtain⟨b,rfl,hO⟩:=h;refine aS λg=>HY (ae.bf (Br.no (Nil.ptr (Ld.f ?_))));refine aa.fq (sP (hO.od.ints.mono (aU.sub (.cons (.app (.app (.app (.app .left))))))) (by have:=hO.ol.1;have:=hO.Ab;simp;omega)) ?_;rintro v C' ⟨N,rfl,ho⟩;exact aN.here ⟨N,rfl,ho⟩
end
section
def vA(x r:Nat):Prop:=x<2^r/\(r=0\/2^(r-1)<=x)
theorem vA.up{x s t:Nat}(h:vA (x>>>s) t)(h0:s=0\/x>>>s≠0):vA x (s+t):=by
 rw[xa9]at h h0;have hp:=xb4 s;refine⟨?_,?_⟩
 ·have:=h.1;rw[Nat.div_lt_iff_lt_mul hp]at this;rw[xdL,xb9];exact this
 rcases h.2 with h2|h2
 ·subst h2;have:=h.1;rcases h0 with h0|h0
  ·exact .inl zO
  rw[Nat.pow_zero]at this;exact absurd (Nat.lt_one_iff.1 this) h0
 by_cases ht:t=0
 ·subst ht;rcases h0 with h0|h0
  ·exact .inl zO
  have:=h.1;rw[Nat.pow_zero]at this;exact absurd (Nat.lt_one_iff.1 this) h0
 right;have:=(Nat.le_div_iff_mul_le hp).1 h2;rw[show s+t-1=(t-1)+s by omega,xdL];exact this
theorem NM:∀y:Fin 256,∃b:UInt8, zX[y.1]? =some b/\(y.1<2^b.toNat/\(b.toNat=0\/2^(b.toNat-1)<=y.1)):=by
 have h:∀y:Fin 256,(match zX[y.1]? with|some b=>decide (y.1<2^b.toNat/\(b.toNat=0\/2^(b.toNat-1)<=y.1))|none=>false)=true:=by decide+kernel
 intro y;have:=h y;split at this
 ·rename_i b hb;exact⟨b,hb,by simpa using this⟩
 cases this
theorem JL{x:Nat}(hx:x<18446744073709551616)(B:Hp):Rd zQ 184 #[.int .u64 (x:Int)] B (λv=>∃r:Nat,vA x r/\v=iv (r:Int)):=by
 refine aS λg=>BP λJ1 Vq=>?_;have h1:∀s,s<=32->x>>>s<4294967296->(s=0\/x>>>s≠0)->J1 [.int .u64 ((x>>>s:Nat):Int),iv (s:Int)] B:=by
  intro s hs hlt h0;refine Vq _ _ _ λgs=>?_;intro J2 A4;have h2:∀s,s<=48->x>>>s<65536->(s=0\/x>>>s≠0)->J2 [.int .u64 ((x>>>s:Nat):Int),iv (s:Int)] B:=by
   intro s hs hlt h0;refine A4 _ _ _ λgs=>?_;intro J3 hJ3;have h3:∀s,s<=56->x>>>s<256->(s=0\/x>>>s≠0)->J3 [.int .u64 ((x>>>s:Nat):Int),iv (s:Int)] B:=by
    intro s hs hlt h0;refine hJ3 _ _ _ λgs=>?_;refine aO.nat (show x>>>s<256 from hlt) ?_;obtain⟨b,hb,hl⟩:=NM ⟨x>>>s,hlt⟩;refine⟨_,_,_,b,rfl,rfl,xcU _,by rw[xco];exact hb,?_⟩;have KO:b.toNat<256:=b.toNat_lt;exact aO.q (ae.fE (bX.mk (.refl _) ⟨s+b.toNat,vA.up (t:=b.toNat) hl h0,rfl⟩))
   refine ae.pN (b:=256) (Br.dec (λhge=>?_) (λhge=>JE.mk (h3 s zO zO h0)));refine ae.pg (b:=8) (by simp only[bM];omega) (ae.fE (b:=8) ?_);rw[<-xdm];have e:x>>>(s+8)=x>>>s/256:=by rw[xdm,xa9 (x>>>s) 8]
   exact JE.mk (h3 (s+8) zO zO (.inr zO))
  refine ae.pN (b:=65536) (Br.dec (λhge=>?_) (λhge=>JE.mk (h2 s zO zO h0)));refine ae.pg (b:=16) (by simp only[bM];omega) (ae.fE (b:=16) ?_);rw[<-xdm];have e:x>>>(s+16)=x>>>s/65536:=by rw[xdm,xa9 (x>>>s) 16]
  exact JE.mk (h2 (s+16) zO zO (.inr zO))
 refine ae.pN (b:=4294967296) (Br.dec (λhge=>?_) (λhge=>JE.mk (h1 0 zO zP (.inl rfl))));refine ae.pg (b:=32) (by simp only[bM];exact hx) ?_;have e:x>>>32=x/4294967296:=by rw[xa9]
 exact JE.mk (h1 32 zO zO (.inr zO))
end
end Go.Proofs
namespace Go.Sx
open Go
section
variable {P:Program} {H C:Hp} {c:Hp->Hp}
theorem aU.re(h:aU C H c)(X:Hp):aU X (c X) c:=by
 induction h with
 |here=>exact .here
 |left=>exact .left
 |cons _ ih=>exact .cons ih
 |app _ ih=>exact .app ih
def W9(vs:List zV):Nat:=match vs with
 | .int _ q::_=>(q+1).toNat
 |_=>0
theorem vC{k:IntKind}{q:Int}{r:List zV}:W9 (.int k q::r)=(q+1).toNat:=rfl
end
end Go.Sx
namespace Go.Sx
open Go
abbrev bR:=Sort.ltInt
section
variable {P:Program} {H C:Hp} {c:Hp->Hp} {T:TypeId} {kd tM k1 k2 k3 k4:IntKind} {v:zV} {d:Array Int}
def Da(T:TypeId)(kd:IntKind)(v:zV)(d:Array Int)(C:Hp):Prop:=aL T kd v d.toList C
theorem Sc(d:Array Int){i:Nat}(hi:i<d.size):d.toList[i]? =some d[i]! :=by
 rw[xba,getElem!_pos d i hi];exact xbm hi
theorem I4(d:Array Int)(i j:Nat):(Sort.swp d i j).toList=(d.toList.set i d[j]!).set j d[i]! :=by
 unfold Sort.swp;rw[Array.toList_setIfInBounds,Array.toList_setIfInBounds]
theorem Da.ld(h:Da T kd v d C)(hC:∀y∈C,y∈H){i:Nat}(hi:i<d.size){K:zV->Prop}(hk:K (.int kd d[i]!)):aj 1 v (.int tM (i:Int)) λp=>Ld H p K:=
 aL.ld h (Sc d hi) hC hk
theorem Da.Pq(h:Da T kd v d C)(hh:aU C H c){i j:Nat}(hi:i<d.size)(hj:j<d.size){B:(zV->Prop)->Prop}
 (hB:∀k:zV->Prop,k (.int k2 (i:Int))->B k){K:Hp->Prop}(hk:∀C',Da T kd v (Sort.swp d i j) C'->K (c C')):
  aj 1 v (.int k1 (j:Int)) λp1=>Ld H p1 λx=>B λu=>aj 1 v u λp2=>Ld H p2 λy=>aj 1 v (.int k3 (i:Int)) λp3=>St 1 H p3 x λH1=>aj 1 v (.int k4 (j:Int)) λp4=>St 1 H1 p4 y K:=by
 refine h.ld hh.sub hj (hB _ ?_);refine h.ld hh.sub hi ?_;refine aL.jW h hh (by rw[xbW];exact hi) λC1 h1=>?_;refine h1.jW (hh.re C1) (by rw[xbG,xbW];exact hj) λC2 h2=>?_;exact hk C2 (by unfold Da;rw[I4];exact h2)
theorem Da.swap(h:Da T kd v d C)(hh:aU C H c){i j:Nat}(hi:i<d.size)(hj:j<d.size){K:Hp->Prop}(hk:∀C',Da T kd v (Sort.swp d i j) C'->K (c C')):
  aj 1 v (.int k1 (j:Int)) λp1=>Ld H p1 λx=>aj 1 v (.int k2 (i:Int)) λp2=>Ld H p2 λy=>aj 1 v (.int k3 (i:Int)) λp3=>St 1 H p3 x λH1=>aj 1 v (.int k4 (j:Int)) λp4=>St 1 H1 p4 y K:=
 h.Pq (B:=λk=>k _) hh hi hj (λ_ h=>h) hk
end
theorem gr{d:Array Int}{n i j:Nat}(h:d.size=n):(Sort.swp d i j).size=n:=(Sort.size_swp d i j).trans h
theorem JY{a j:Nat}{e:Array Int}(h:¬a<j):Sort.insInner bR a j e=e:=by
 cases j with
 |zero=>rfl
 |succ j=>rw[Sort.insInner,xad zP]
theorem JZ{a j:Nat}{e:Array Int}(h:a<j):Sort.insInner bR a j e=if bR e[j]! e[j-1]! =true then Sort.insInner bR a (j-1) (Sort.swp e j (j-1))else e:=by
 obtain⟨j,rfl⟩:∃k,j=k+1:=⟨j-1,by omega⟩;rw[Sort.insInner,xaA h,xdu];rfl
theorem Gx{j:Nat}{e:Array Int}(h:¬1<=j):Sort.shiftDown bR j e=e:=by
 obtain rfl:j=0:=by omega
 rfl
theorem u4{j:Nat}{e:Array Int}(h:1<=j):Sort.shiftDown bR j e=if(!bR e[j]! e[j-1]!)=true then e else Sort.shiftDown bR (j-1) (Sort.swp e j (j-1)):=by
 obtain⟨j,rfl⟩:∃k,j=k+1:=⟨j-1,by omega⟩;rw[Sort.shiftDown];rfl
theorem dV{p:Int->Bool}{d:Array Int}{i j:Nat}(h:0<j):Sort.scanDown p d i j=if(decide (i<=j) &&p d[j]!)=true then Sort.scanDown p d i (j-1)else j:=by
 obtain⟨j,rfl⟩:∃k,j=k+1:=⟨j-1,by omega⟩;rw[Sort.scanDown];rfl
theorem Fk{hi f r:Nat}{d:Array Int}(h:hi<=2*r+1):Sort.siftDown bR hi f r d=d:=by
 rw[Sort.siftDown,xdU h]
theorem Nm{hi f r c:Nat}{d:Array Int}(h:2*r+1<hi)(hc:c=if(decide (2*r+1+1<hi) &&bR d[f+(2*r+1)]! d[f+(2*r+1)+1]!)=true then 2*r+2 else 2*r+1):
  Sort.siftDown bR hi f r d=if(!bR d[f+r]! d[f+c]!)=true then d else Sort.siftDown bR hi f c (Sort.swp d (f+r) (f+c)):=by
 rw[Sort.siftDown,dif_neg zO];split at hc
 ·rename_i hb;subst hc;rw[xae hb];rw[xay,xaO]at hb;split
  ·rfl
  rw[xdU hb.1]
 rename_i hb;subst hc;rw[xad hb]
theorem DG(hi f r:Nat)(d:Array Int):(Sort.siftDown bR hi f r d).size=d.size:=by
 fun_induction Sort.siftDown bR hi f r d<;>simp_all[Sort.size_swp]
end Go.Sx
set_option maxRecDepth 100000
namespace Go.Proofs
open Go Go.Sx Tryz
section
structure Tm where
 nan:Nat
 less:Nat
 yf:Nat
 Fl:Nat
 heap:Nat
 rev:Nat
 pins:Nat
 rQ:Nat
 part:Nat
 VK:Nat
 AK:Nat
 SF:Nat
 AN:Nat
 TO:Nat
 QJ:Nat
section
variable (zs:Tm)
variable {g:Gh} {a0 a1 a2 a3 a4 a5 a6 a7 a8 a9 qy qx Tl Tk Tj Ti:zV} {H:Hp} {R:Rt}
def L9000:Y1:=λ_ a b c=>lN a a λa=>rt c a b
def L9001:Y2:=λa b c d e=>jB (λf g=>rt e f g) λf=>CF a zs.nan #[b] d (λd g=>Split d true (CF a zs.nan #[c] g (λa d=>Un .not a λa=>aB vT a vF λa=>Split a false (lL b c λa=>aB vF vT a λa=>JE f [a] d) (aB vT vT undef λa=>JE f [a] d)) (cK e)) (aB vF undef vF λa=>lL b c λb=>aB a vT b λa=>JE f [a] g)) (cK e)
def L9002:Y3:=λa b c d e f=>lA c i1 λg=>yA [g] e λe g h i=>lL h d λd=>Br d (yA [h] i λd j k l=>jB (λm n=>Br m (DR n λm=>lS k i1 λo=>lS k i1 λp=>lI 1 b p m λp=>lI 1 b k m λm=>aj 1 b k λq=>St 1 n q p λp=>aj 1 b o λo=>St 1 p o m λm=>lS k i1 λo=>az d j [o] m [k] l) (lA h i1 λd=>az e g [d] n [h] i)) λd=>DR l λe=>lG k c λc=>Br c (lI 1 b k e λc=>lS k i1 λg=>lI 1 b g e λb=>∀e:Hp,
CF (a.add e) zs.less #[c,b] l (λa b=>aB vT a vF λa=>JE d [a] b) iE) (JE d [vF] l)) (rt f (.tuple #[]) i)
def L9003:Y4:=λa b c d e f g=>yA [c] f λc f h i=>oM (iv 2) h λj=>lA j i1 λj=>oG j d λk=>Br k (rt g (.tuple #[]) i) (jB (λk l=>DR l λm=>lA e h λn=>lI 1 b n m λn=>lA e k λo=>lI 1 b o m λm=>CF a zs.less #[n,m] l (λl m=>Un .not l λl=>Br l (rt g (.tuple #[]) m) (DR m λg=>lA e h λl=>lA e k λn=>lA e k λo=>lI 1 b o g λo=>lA e h λp=>lI 1 b p g λg=>aj 1 b l λl=>St 1 m l o λl=>aj 1 b n λm=>St 1 l m g λg=>az c f [k] g [h] i)) iE) λc=>jB (λf g=>Br f (lA j i1 λf=>JE c [f] g) (JE c [j] g)) λc=>DR i λf=>lA j i1 λg=>lL g d λd=>Br d (lA e j λd=>lI 1 b d f λd=>lA e j λe=>lA e i1 λe=>lI 1 b e f λb=>∀e:Hp,
CF (a.add e) zs.less #[d,b] i (λa b=>aB vT a vF λa=>JE c [a] b) iE) (JE c [vF] i))
def L9004:Y3:=λa b c d e f=>lS d c λd=>lS d i1 λg=>ae .num .quo g (iv 2) λg=>yA [g] e λe g h i=>oG h i0 λj=>Br j (CF a zs.Fl #[b,h,d,c] i (λ_ j=>lS h i1 λk=>az e g [k] j [h] i) (cK f)) (lS d i1 λd=>yA [d] i λd e g h=>oG g i0 λi=>Br i (DR h λi=>lA c g λj=>lA c g λk=>lI 1 b k i λk=>lI 1 b c i λi=>aj 1 b c λl=>St 1 h l k λk=>aj 1 b j λj=>St 1 k j i λi=>CF a zs.Fl #[b,i0,g,c] i (λ_ a=>lS g i1 λb=>az d e [b] a [g] h) (cK f)) (rt f (.tuple #[]) h))
def L9005:Y3:=λ_ a b c d e=>lS c i1 λc=>yB [b,c] d λb c d f g=>lL d f λh=>Br h (DR g λh=>lI 1 a f h λi=>lI 1 a d h λh=>aj 1 a d λj=>St 1 g j i λi=>aj 1 a f λa=>St 1 i a h λa=>lA d i1 λh=>lS f i1 λi=>az b c [h,i] a [d,f] g) (rt e (.tuple #[]) g)
def L9006:Y3:=λa b c d e f=>lA c i1 λg=>yB [g,i0] e λe g h i j=>lL i (iv 5) λk=>Br k (jB (λk l=>lA i i1 λm=>az e g [k,m] l [h,i] j) λe=>yA [h] j λg h i k=>jB (λl m=>Br l (lA i i1 λl=>az g h [l] m [i] k) (lE i d λg=>Br g (rt f vT m) (lS d c λg=>lL g (iv 50) λg=>Br g (rt f vF m) (DR m λg=>lS i i1 λh=>lS i i1 λl=>lI 1 b l g λl=>lI 1 b i g λg=>aj 1 b i λn=>St 1 m n l λl=>aj 1 b h λh=>St 1 l h g λg=>jA (λh=>lS d i λl=>oG l (iv 2) λl=>Br l (lA i i1 λl=>yA [l] h λl m n o=>lL n d λp=>Br p (DR o λp=>lI 1 b n p λq=>lS n i1 λr=>lI 1 b r p λp=>CF a zs.less #[q,p] o (λp q=>Un .not p λp=>Br p (JE e [i] q) (DR q λp=>lS n i1 λr=>lS n i1 λs=>lI 1 b s p λs=>lI 1 b n p λp=>aj 1 b n λt=>St 1 q t s λq=>aj 1 b r λr=>St 1 q r p λp=>lA n i1 λq=>az l m [q] p [n] o)) iE) (JE e [i] o)) (JE e [i] h)) λe=>lS i c λc=>oG c (iv 2) λc=>Br c (lS i i1 λc=>yA [c] g λc h l m=>oG l i1 λn=>Br n (DR m λn=>lI 1 b l n λo=>lS l i1 λp=>lI 1 b p n λn=>CF a zs.less #[o,n] m (λn o=>Un .not n λn=>Br n (JE e [] o) (DR o λn=>lS l i1 λp=>lS l i1 λq=>lI 1 b q n λq=>lI 1 b l n λn=>aj 1 b l λr=>St 1 o r q λo=>aj 1 b p λp=>St 1 o p n λn=>lS l i1 λo=>az c h [o] n [l] m)) iE) (JE e [] m)) (JE e [] g))))) λc=>DR k λe=>lL i d λd=>Br d (lI 1 b i e λd=>lS i i1 λg=>lI 1 b g e λb=>∀e:Hp,
CF (a.add e) zs.less #[d,b] k (λa b=>Un .not a λa=>aB vT a vF λa=>JE c [a] b) iE) (JE c [vF] k)) (rt f vF j)
def L9007:Y4:=λa b c d e f g=>DR f λh=>lI 1 b e h λi=>lI 1 b c h λh=>aj 1 b c λj=>St 1 f j i λf=>aj 1 b e λe=>St 1 f e h λe=>lA c i1 λf=>lS d i1 λd=>yB [f,d] e λd e f h i=>yA [f] i λj k l m=>jB (λn o=>Br n (lA l i1 λn=>az j k [n] o [l] m) (yA [h] o λj k n o=>jB (λp q=>Br p (lS n i1 λp=>az j k [p] q [n] o) (lG l n λj=>Br j (rt g l q) (DR q λg=>lI 1 b n g λj=>lI 1 b l g λg=>aj 1 b l λk=>St 1 q k j λj=>aj 1 b n λk=>St 1 j k g λg=>lA l i1 λj=>lS n i1 λk=>az d e [j,k] g [f,h] i))) λd=>DR o λe=>oQ l n λf=>Br f (lI 1 b c e λf=>lI 1 b n e λe=>∀g:Hp,
CF (a.add g) zs.less #[f,e] o (λe f=>aB vT e vF λe=>JE d [e] f) iE) (JE d [vF] o))) λd=>DR m λe=>oQ l h λf=>Br f (lI 1 b c e λc=>lI 1 b l e λb=>∀e:Hp,
CF (a.add e) zs.less #[c,b] m (λa b=>Un .not a λa=>aB vT a vF λa=>JE d [a] b) iE) (JE d [vF] m)
def L9008:Y4:=λa b c d e f g=>DR f λh=>lI 1 b e h λi=>lI 1 b c h λh=>aj 1 b c λj=>St 1 f j i λf=>aj 1 b e λe=>St 1 f e h λe=>lA c i1 λf=>lS d i1 λd=>yA [f] e λe f h i=>jB (λj k=>Br j (lA h i1 λj=>az e f [j] k [h] i) (yA [d] k λe f j k=>jB (λl m=>Br l (lS j i1 λl=>az e f [l] m [j] k) (lG h j λe=>Br e (DR m λe=>lI 1 b c e λf=>lI 1 b j e λe=>aj 1 b j λl=>St 1 m l f λf=>aj 1 b c λl=>St 1 f l e λe=>rt g (tP j vT) e) (DR m λe=>lI 1 b j e λf=>lI 1 b h e λe=>aj 1 b h λl=>St 1 m l f λf=>aj 1 b j λl=>St 1 f l e λe=>lA h i1 λf=>lS j i1 λl=>yB [f,l] e λe f l m n=>yA [l] n λo p q r=>jB (λs t=>Br s (lA q i1 λs=>az o p [s] t [q] r) (yA [m] t λo p s t=>jB (λu v=>Br u (lS s i1 λu=>az o p [u] v [s] t) (lG q s λo=>Br o (DR v λo=>lI 1 b c o λp=>lI 1 b s o λo=>aj 1 b s λu=>St 1 v u p λp=>aj 1 b c λu=>St 1 p u o λo=>rt g (tP s vF) o) (DR v λg=>lI 1 b s g λo=>lI 1 b q g λg=>aj 1 b q λp=>St 1 v p o λo=>aj 1 b s λp=>St 1 o p g λg=>lA q i1 λo=>lS s i1 λp=>az e f [o,p] g [l,m] n))) λe=>DR t λf=>oQ q s λg=>Br g (lI 1 b s f λg=>lI 1 b c f λf=>∀l:Hp,
CF (a.add l) zs.less #[g,f] t (λf g=>Un .not f λf=>aB vT f vF λf=>JE e [f] g) iE) (JE e [vF] t))) λe=>DR r λf=>oQ q m λg=>Br g (lI 1 b q f λg=>lI 1 b c f λf=>∀l:Hp,
CF (a.add l) zs.less #[g,f] r (λf g=>aB vT f vF λf=>JE e [f] g) iE) (JE e [vF] r)))) λe=>DR k λf=>oQ h j λg=>Br g (lI 1 b j f λg=>lI 1 b c f λf=>∀j:Hp,
CF (a.add j) zs.less #[g,f] k (λf g=>Un .not f λf=>aB vT f vF λf=>JE e [f] g) iE) (JE e [vF] k))) λe=>DR i λf=>oQ h d λd=>Br d (lI 1 b h f λd=>lI 1 b c f λb=>∀c:Hp,
CF (a.add c) zs.less #[d,b] i (λa b=>aB vT a vF λa=>JE e [a] b) iE) (JE e [vF] i)
def L9009:Y3:=λa b c d e f=>lS d c λd=>oG d (iv 8) λg=>Br g (aO .u64 d λg=>lQ 1 e #[(wi 0)] 298 g λg h=>CR f a 214 #[d] h λh i=>ae .num .quo d (iv 4) λj=>oM j (iv 2) λj=>lA c j λj=>lS j i1 λj=>yA [j] i λi j k l=>ae .num .quo d (iv 4) λm=>oM m (iv 2) λm=>lA c m λm=>lA m i1 λm=>oQ k m λm=>Br m (CR f a 215 #[(pt g)] l λa g=>lS h (wi 1) λh=>oA a h λa=>aO .i64 a λa=>jB (λh m=>DR m λn=>lA c h λo=>lA c h λc=>lI 1 b c n λc=>lI 1 b k n λh=>aj 1 b k λn=>St 1 m n c λc=>aj 1 b o λb=>St 1 c b h λb=>lA k i1 λc=>az i j [c] b [k] l) λb=>oG a d λc=>Br c (lS a d λc=>JE b [c] g) (JE b [a] g)) (rt f (.tuple #[]) l)) (rt f (.tuple #[]) e)
def L9010:Y4:=λa b c d e f g=>DR f λh=>lI 1 b d h λi=>lI 1 b c h λb=>CF a zs.less #[i,b] f (λa b=>Br a (Nil e λa=>Ld b a λa=>lA a i1 λa=>Nil e λe=>St 1 b e a λa=>rt g (tP d c) a) (rt g (tP c d) b)) iE
def L9011:Y5:=λa b c d e f g h=>CF a zs.AK #[b,c,d,f] g (λc d=>lX c λc g=>CF a zs.AK #[b,g,e,f] d (λd e=>lX d λd _=>CF a zs.AK #[b,c,d,f] e (λa b=>lX a λ_ a=>rt h a b) (cK h)) (cK h)) (cK h)
def L9012:Y3:=λa b c d e f=>lS c i1 λg=>lA c i1 λh=>CF a zs.SF #[b,g,c,h,d] e (λa b=>rt f a b) (cK f)
def L9013:Y3:=λa b c d e f=>lS d c λd=>lW e #[i0] 3 λe g=>ae .num .quo d (iv 4) λh=>oM h i1 λh=>lA c h λh=>ae .num .quo d (iv 4) λi=>oM i (iv 2) λi=>lA c i λi=>ae .num .quo d (iv 4) λj=>oM j (iv 3) λj=>lA c j λc=>jB (λj k=>Ld k (pt e) λl=>lE l i0 λm=>Br m (rt f (tP j i1) k) (lE l (iv 12) λl=>Br l (rt f (tP j (iv 2)) k) (rt f (tP j i0) k))) λj=>oG d (iv 8) λk=>Br k (∀k:Jt,(∀l m n:zV,∀o:Hp,(∀_:Fr,
CF a zs.SF #[b,l,m,n,(pt e)] o (λp q=>JE j [p] q) (cK f))->k [l,m,n] o)->oG d (iv 50) λd=>Br d (CF a zs.AN #[b,h,(pt e)] g (λd l=>CF a zs.AN #[b,i,(pt e)] l (λl m=>CF a zs.AN #[b,c,(pt e)] m (λa b=>JE k [d,l,a] b) (cK f)) (cK f)) (cK f)) (JE k [h,i,c] g)) (JE j [i] g)
def L9014:Y4:=λa b c d e f g=>∃(h:Jt) (i:Mt),JE h [c,d,e,vT,vT] f/\∀c d e f j:zV,∀k:Hp,h [c,d,e,f,j] k->∀_:Fr,
lS d c λl=>oQ l (iv 12) λm=>Br m (CF a zs.yf #[b,c,d] k (λ_ m=>rt g (.tuple #[]) m) (cK g)) (lE e i0 λm=>Br m (CF a zs.heap #[b,c,d] k (λ_ m=>rt g (.tuple #[]) m) (cK g)) (jB (λm n=>CF a zs.TO #[b,c,d] n (λn o=>lX n λn p=>jC (λq r s=>jA (λt=>jB (λu v=>Br u (CF a zs.rQ #[b,c,d,q] v (λu w=>az h i [u,d,m,f,j] w [c,d,e,f,j] k) (cK g)) (CF a zs.part #[b,c,d,q] v (λu v=>lX u λu w=>lS u c λx=>lS d u λy=>ae .num .quo l (iv 8) λl=>lL x y λz=>Br z (oG x l λx=>CF a zs.QJ #[b,c,u,m] v (λ_ z=>lA u i1 λA=>az h i [A,d,m,x,w] z [c,d,e,f,j] k) (cK g)) (oG y l λl=>lA u i1 λx=>CF a zs.QJ #[b,x,d,m] v (λ_ v=>az h i [c,u,m,l,w] v [c,d,e,f,j] k) (cK g))) (cK g))) λh=>DR t λi=>lG c i0 λl=>Br l (lS c i1 λl=>lI 1 b l i λl=>lI 1 b q i λi=>∀m:Hp,
CF (a.add m) zs.less #[l,i] t (λi l=>Un .not i λi=>aB vT i vF λi=>JE h [i] l) iE) (JE h [vF] t)) λh=>lU f (λi=>(lV s j i)) λi=>lU (Value.bool i) (λi=>lE r i1 λj=>(lV s j i)) λi=>Br (Value.bool i) (CF a zs.pins #[b,c,d] s (λi j=>Br i (rt g (.tuple #[]) j) (JE h [] j)) (cK g)) (JE h [] s)) λh=>lE p (iv 2) λi=>Br i (CF a zs.rev #[b,c,d] o (λ_ i=>lS d i1 λj=>lS n c λl=>lS j l λj=>JE h [j,i1] i) (cK g)) (JE h [n,p] o)) (cK g)) λh=>Un .not f λf=>Br f (CF a zs.VK #[b,c,d] k (λ_ a=>lS e i1 λb=>JE h [b] a) (cK g)) (JE h [e] k)))
end
structure EM(zs:Tm):Prop where
 nan:∀{g:Gh} {a0:zV} {H:Hp} {R:Rt},L9000 g a0 H R->aR zQ g zs.nan #[a0] H R
 less:∀{g:Gh} {a0 a1:zV} {H:Hp} {R:Rt},L9001 zs g a0 a1 H R->aR zQ g zs.less #[a0,a1] H R
 yf:∀{g:Gh} {a0 a1 a2:zV} {H:Hp} {R:Rt},L9002 zs g a0 a1 a2 H R->aR zQ g zs.yf #[a0,a1,a2] H R
 Fl:∀{g:Gh} {a0 a1 a2 a3:zV} {H:Hp} {R:Rt},L9003 zs g a0 a1 a2 a3 H R->aR zQ g zs.Fl #[a0,a1,a2,a3] H R
 heap:∀{g:Gh} {a0 a1 a2:zV} {H:Hp} {R:Rt},L9004 zs g a0 a1 a2 H R->aR zQ g zs.heap #[a0,a1,a2] H R
 rev:∀{g:Gh} {a0 a1 a2:zV} {H:Hp} {R:Rt},L9005 g a0 a1 a2 H R->aR zQ g zs.rev #[a0,a1,a2] H R
 pins:∀{g:Gh} {a0 a1 a2:zV} {H:Hp} {R:Rt},L9006 zs g a0 a1 a2 H R->aR zQ g zs.pins #[a0,a1,a2] H R
 rQ:∀{g:Gh} {a0 a1 a2 a3:zV} {H:Hp} {R:Rt},L9007 zs g a0 a1 a2 a3 H R->aR zQ g zs.rQ #[a0,a1,a2,a3] H R
 part:∀{g:Gh} {a0 a1 a2 a3:zV} {H:Hp} {R:Rt},L9008 zs g a0 a1 a2 a3 H R->aR zQ g zs.part #[a0,a1,a2,a3] H R
 VK:∀{g:Gh} {a0 a1 a2:zV} {H:Hp} {R:Rt},L9009 g a0 a1 a2 H R->aR zQ g zs.VK #[a0,a1,a2] H R
 AK:∀{g:Gh} {a0 a1 a2 a3:zV} {H:Hp} {R:Rt},L9010 zs g a0 a1 a2 a3 H R->aR zQ g zs.AK #[a0,a1,a2,a3] H R
 SF:∀{g:Gh} {a0 a1 a2 a3 a4:zV} {H:Hp} {R:Rt},L9011 zs g a0 a1 a2 a3 a4 H R->aR zQ g zs.SF #[a0,a1,a2,a3,a4] H R
 AN:∀{g:Gh} {a0 a1 a2:zV} {H:Hp} {R:Rt},L9012 zs g a0 a1 a2 H R->aR zQ g zs.AN #[a0,a1,a2] H R
 TO:∀{g:Gh} {a0 a1 a2:zV} {H:Hp} {R:Rt},L9013 zs g a0 a1 a2 H R->aR zQ g zs.TO #[a0,a1,a2] H R
 QJ:∀{g:Gh} {a0 a1 a2 a3:zV} {H:Hp} {R:Rt},L9014 zs g a0 a1 a2 a3 H R->aR zQ g zs.QJ #[a0,a1,a2,a3] H R
def zR:Tm:=⟨218,209,203,213,204,207,208,210,211,205,219,217,216,206,201⟩
theorem Tw:EM zR:=⟨λh=>eo (hn:=.e) func218 h zK,
 λh=>eo (hn:=(.n .e (.h 1 [4] [] .e .e))) func209 h zK,
 λh=>eo (hn:=(.n .e (.n (.h 0 [6] [0,1,2] (.n .e (.n (.n (.n .e (.n (.h 0 [7] [0,1,2,6] (.n (.h 1 [30] [0,1,2,6,7] (.h 1 [] [] (.h 0 [0] [] (.h 0 [1] [] (.h 0 [2] [] (.h 2 [3] [] (.h 0 [4] [] (.h 0 [5] [] (.h 0 [6] [] (.h 0 [7] [] (.h 0 [8] [] (.h 0 [9] [] (.h 0 [10] [] (.h 0 [11] [] (.h 0 [12] [] (.h 0 [13] [] (.h 0 [14] [] .e .e) .e) .e) .e) .e) .e) .e) .e) .e) .e) .e) (.h 0 [4] [] (.h 0 [5] [] (.h 0 [6] [] (.h 0 [7] [] (.h 0 [8] [] (.h 0 [9] [] (.h 0 [10] [] (.h 0 [11] [] (.h 0 [12] [] (.h 0 [13] [] (.h 3 [14] [] .e .e) .e) .e) .e) .e) .e) .e) .e) .e) .e) .e)) .e) .e) .e) .e) .e) (.n (.n (.h 0 [0,1,2,3,4,5,6,7,8,9,10,11,12,13,14,15,16,17] [] .e .e) .e) .e)) .e) .e)) .e) .e)) .e) .e))) func203 h zK,
 λh=>eo (hn:=(.n .e (.n (.h 0 [8] [0,2,3] (.n (.n .e (.n .e (.h 1 [9] [0,2,3,8] (.h 1 [36] [0,2,3,8,9] (.h 1 [] [] (.h 0 [0] [] (.h 0 [1] [] (.h 0 [2] [] (.h 0 [3] [] (.h 2 [4] [] (.h 0 [5] [] (.h 0 [6] [] (.h 0 [7] [] (.h 0 [8] [] (.h 0 [9] [] (.h 0 [10] [] (.h 0 [11] [] (.h 0 [12] [] (.h 0 [13] [] (.h 0 [14] [] (.h 0 [15] [] (.h 0 [16] [] (.h 0 [17] [] (.h 0 [18] [] (.h 0 [19] [] .e .e) .e) .e) .e) .e) .e) .e) .e) .e) .e) .e) .e) .e) .e) .e) (.h 0 [5] [] (.h 0 [6] [] (.h 0 [7] [] (.h 0 [8] [] (.h 0 [9] [] (.h 0 [10] [] (.h 0 [11] [] (.h 0 [12] [] (.h 0 [13] [] (.h 0 [14] [] (.h 0 [15] [] (.h 0 [16] [] (.h 0 [17] [] (.h 0 [18] [] (.h 3 [19] [] .e .e) .e) .e) .e) .e) .e) .e) .e) .e) .e) .e) .e) .e) .e) .e)) .e) .e) .e) .e) .e) .e) (.n (.n (.h 0 [0,1,2,3,4,5,6,7,8,9,10,11,12,13] [] .e .e) .e) (.n (.h 0 [0,1,2,3,4,5,6,7,8,9,10,11,12,13,14,15,16,17,18,19,20,21,22,23] [] .e .e) .e))))) .e) .e) .e))) func213 h zK,
 λh=>eo (hn:=(.n .e (.n .e (.n .e (.n (.n .e (.n (.h 0 [9] [0,6,7,8] .e .e) .e)) (.n .e (.n (.h 0 [10] [0,6,7] (.n .e (.n (.n (.n (.h 0 [0,1,2,3,4,5,6,7,8,9,10,11,12,13,14,15,16,17,18,19] [] .e .e) .e) .e) .e)) .e) .e))))))) func204 h zK,
 λh=>eo (hn:=(.n .e (.n .e (.n (.h 0 [6,7] [0] (.n .e (.n (.n (.h 0 [0,1,2,3,4,5,6,7,8,9,10,11,12,13,14,15] [] .e .e) .e) .e)) .e) .e)))) func207 h zK,
 λh=>eo (hn:=(.n .e (.n .e (.n (.n .e (.n (.h 0 [7,8] [0,1,2] (.n .e (.h 1 [7] [0,1,2,8] (.n (.n (.n (.h 0 [7] [0,1,2,8] (.n (.h 1 [32] [0,1,2,7,8] (.h 1 [] [] (.h 0 [0] [] (.h 0 [1] [] (.h 0 [2] [] (.h 2 [3] [] (.h 0 [4] [] (.h 0 [5] [] (.h 0 [6] [] (.h 0 [7] [] (.h 0 [8] [] (.h 0 [9] [] (.h 0 [10] [] (.h 0 [11] [] (.h 0 [12] [] (.h 0 [13] [] (.h 0 [14] [] (.h 0 [15] [] .e .e) .e) .e) .e) .e) .e) .e) .e) .e) .e) .e) .e) (.h 0 [4] [] (.h 0 [5] [] (.h 0 [6] [] (.h 0 [7] [] (.h 0 [8] [] (.h 0 [9] [] (.h 0 [10] [] (.h 0 [11] [] (.h 0 [12] [] (.h 0 [13] [] (.h 0 [14] [] (.h 3 [15] [] .e .e) .e) .e) .e) .e) .e) .e) .e) .e) .e) .e) .e)) .e) .e) .e) .e) .e) .e) .e) .e) (.n .e (.n .e (.n (.h 0 [0,1,2,3,4,5,6,7,8,9,10,11,12,13,14,15,16,17] [] .e .e) (.h 1 [] [0,1,2,7,8] (.n .e (.n (.n .e (.n (.h 0 [9] [0,1,2,7,8] (.n .e (.n (.n (.n (.n (.h 0 [0,1,2,3,4,5,6,7,8,9,10] [] .e .e) .e) (.h 0 [0,1,2,3,4,5,6,7,8,9,10,11,12,13,14,15,16,17] [] .e .e)) .e) .e)) .e) .e)) .e)) (.n .e (.n (.n .e (.n (.h 0 [10] [0,1,2,7,8] (.n .e (.n (.n (.n (.n (.h 0 [0,1,2,3,4,5,6,7,8,9,10] [] .e .e) .e) (.h 0 [0,1,2,3,4,5,6,7,8,9,10,11,12,13,14,15,16,17] [] .e .e)) .e) .e)) .e) .e)) .e))))))) .e) .e)) .e) .e)) .e)))) func208 h zK,
 λh=>eo (hn:=(.n .e (.n (.h 0 [0,1,2,3,4,5,6,7,8,9,10,11,12,13,14,15] [] .e .e) (.n .e (.n (.n (.h 0 [9,10] [0,1] (.n (.n (.n (.h 0 [9] [0,1,10] (.n (.h 1 [43] [0,1,9,10] (.h 1 [] [] (.h 0 [0] [] (.h 0 [1] [] (.h 0 [2] [] (.h 2 [3] [] (.h 0 [4] [] (.h 0 [5] [] (.h 0 [6] [] (.h 0 [7] [] (.h 0 [8] [] (.h 0 [9] [] (.h 0 [10] [] (.h 0 [11] [] (.h 0 [12] [] (.h 0 [13] [] (.h 0 [14] [] .e .e) .e) .e) .e) .e) .e) .e) .e) .e) .e) .e) (.h 0 [4] [] (.h 0 [5] [] (.h 0 [6] [] (.h 0 [7] [] (.h 0 [8] [] (.h 0 [9] [] (.h 0 [10] [] (.h 0 [11] [] (.h 0 [12] [] (.h 0 [13] [] (.h 3 [14] [] .e .e) .e) .e) .e) .e) .e) .e) .e) .e) .e) .e)) .e) .e) .e) .e) .e) .e) .e) .e) (.n (.n (.h 0 [10] [0,1,9] (.n (.h 1 [59] [0,1,9,10] (.h 1 [] [] (.h 0 [0] [] (.h 0 [1] [] (.h 0 [2] [] (.h 2 [3] [] (.h 0 [4] [] (.h 0 [5] [] (.h 0 [6] [] (.h 0 [7] [] (.h 0 [8] [] (.h 0 [9] [] (.h 0 [10] [] (.h 0 [11] [] (.h 0 [12] [] (.h 0 [13] [] .e .e) .e) .e) .e) .e) .e) .e) .e) .e) .e) (.h 0 [4] [] (.h 0 [5] [] (.h 0 [6] [] (.h 0 [7] [] (.h 0 [8] [] (.h 0 [9] [] (.h 0 [10] [] (.h 0 [11] [] (.h 0 [12] [] (.h 3 [13] [] .e .e) .e) .e) .e) .e) .e) .e) .e) .e) .e)) .e) .e) .e) .e) .e) .e) .e) .e) (.n .e (.n (.h 0 [0,1,2,3,4,5,6,7,8,9,10,11,12,13,14,15] [] .e .e) .e)))) .e) .e) .e) .e))))) func210 h zK,
 λh=>eo (hn:=(.n .e (.n (.h 0 [0,1,2,3,4,5,6,7,8,9,10,11,12,13,14,15] [] .e .e) (.n .e (.n (.n (.h 0 [10] [0,1,11] (.n (.h 1 [43] [0,1,10,11] (.h 1 [] [] (.h 0 [0] [] (.h 0 [1] [] (.h 0 [2] [] (.h 2 [3] [] (.h 0 [4] [] (.h 0 [5] [] (.h 0 [6] [] (.h 0 [7] [] (.h 0 [8] [] (.h 0 [9] [] (.h 0 [10] [] (.h 0 [11] [] (.h 0 [12] [] (.h 0 [13] [] .e .e) .e) .e) .e) .e) .e) .e) .e) .e) .e) (.h 0 [4] [] (.h 0 [5] [] (.h 0 [6] [] (.h 0 [7] [] (.h 0 [8] [] (.h 0 [9] [] (.h 0 [10] [] (.h 0 [11] [] (.h 0 [12] [] (.h 3 [13] [] .e .e) .e) .e) .e) .e) .e) .e) .e) .e) .e)) .e) .e) .e) .e) .e) .e) .e) .e) (.n (.n (.h 0 [11] [0,1,10] (.n (.h 1 [60] [0,1,10,11] (.h 1 [] [] (.h 0 [0] [] (.h 0 [1] [] (.h 0 [2] [] (.h 2 [3] [] (.h 0 [4] [] (.h 0 [5] [] (.h 0 [6] [] (.h 0 [7] [] (.h 0 [8] [] (.h 0 [9] [] (.h 0 [10] [] (.h 0 [11] [] (.h 0 [12] [] (.h 0 [13] [] (.h 0 [14] [] .e .e) .e) .e) .e) .e) .e) .e) .e) .e) .e) .e) (.h 0 [4] [] (.h 0 [5] [] (.h 0 [6] [] (.h 0 [7] [] (.h 0 [8] [] (.h 0 [9] [] (.h 0 [10] [] (.h 0 [11] [] (.h 0 [12] [] (.h 0 [13] [] (.h 3 [14] [] .e .e) .e) .e) .e) .e) .e) .e) .e) .e) .e) .e)) .e) .e) .e) .e) .e) .e) .e) .e) (.n (.n .e (.n (.n (.h 0 [0,1,2,3,4,5,6,7,8,9,10,11,12,13,14,15] [] .e .e) .e) .e)) (.n (.h 0 [0,1,2,3,4,5,6,7,8,9,10,11,12,13,14,15] [] .e .e) (.n .e (.n .e (.n (.n (.h 0 [10,11] [0,1] (.n (.n (.n (.h 0 [10] [0,1,11] (.n (.h 1 [112] [0,1,10,11] (.h 1 [] [] (.h 0 [0] [] (.h 0 [1] [] (.h 0 [2] [] (.h 2 [3] [] (.h 0 [4] [] (.h 0 [5] [] (.h 0 [6] [] (.h 0 [7] [] (.h 0 [8] [] (.h 0 [9] [] (.h 0 [10] [] (.h 0 [11] [] (.h 0 [12] [] (.h 0 [13] [] .e .e) .e) .e) .e) .e) .e) .e) .e) .e) .e) (.h 0 [4] [] (.h 0 [5] [] (.h 0 [6] [] (.h 0 [7] [] (.h 0 [8] [] (.h 0 [9] [] (.h 0 [10] [] (.h 0 [11] [] (.h 0 [12] [] (.h 3 [13] [] .e .e) .e) .e) .e) .e) .e) .e) .e) .e) .e)) .e) .e) .e) .e) .e) .e) .e) .e) (.n (.n (.h 0 [11] [0,1,10] (.n (.h 1 [129] [0,1,10,11] (.h 1 [] [] (.h 0 [0] [] (.h 0 [1] [] (.h 0 [2] [] (.h 2 [3] [] (.h 0 [4] [] (.h 0 [5] [] (.h 0 [6] [] (.h 0 [7] [] (.h 0 [8] [] (.h 0 [9] [] (.h 0 [10] [] (.h 0 [11] [] (.h 0 [12] [] (.h 0 [13] [] (.h 0 [14] [] .e .e) .e) .e) .e) .e) .e) .e) .e) .e) .e) .e) (.h 0 [4] [] (.h 0 [5] [] (.h 0 [6] [] (.h 0 [7] [] (.h 0 [8] [] (.h 0 [9] [] (.h 0 [10] [] (.h 0 [11] [] (.h 0 [12] [] (.h 0 [13] [] (.h 3 [14] [] .e .e) .e) .e) .e) .e) .e) .e) .e) .e) .e) .e)) .e) .e) .e) .e) .e) .e) .e) .e) (.n .e (.n (.h 0 [0,1,2,3,4,5,6,7,8,9,10,11,12,13,14,15] [] .e .e) .e)))) .e) .e) .e) (.n (.h 0 [0,1,2,3,4,5,6,7,8,9,10,11,12,13,14,15] [] .e .e) .e)))))))))))) func211 h zK,
 λh=>eo (hn:=(.n .e (.n .e (.n (.n .e (.n .e (.n .e (.n (.h 0 [9] [0,1,6,7,8] (.n .e (.n (.n (.n .e (.h 1 [10] [0,1,6,7,8,9] .e (.h 0 [0,1,2,3,4,5,6,7,8,9,10,11,12,13,14,15,16,17,18,19] [] .e .e))) .e) .e)) .e) .e)))) .e)))) func205 h zK,
 λh=>eo (hn:=(.n .e (.n (.n (.h 0 [0,1,2,3,4,5,6,7,8] [] .e .e) .e) .e))) func219 h zK,
 λh=>eo (hn:=.e) func217 h zK,
 λh=>eo (hn:=.e) func216 h zK,
 λh=>eo (hn:=(.n .e (.n .e (.n .e (.n .e (.n .e (.n .e (.h 1 [11] [9] (.n .e (.n (.h 1 [10,11,12] [0,9] .e .e) .e)) .e)))))))) func206 h zK,
 λh=>eo (hn:=(.n .e (.n .e (.n (.h 0 [1,2,3,8,9] [0] (.n (.n .e (.n .e (.n .e (.h 1 [3] [0,1,2,8,9,10] .e (.n .e (.h 1 [11,12] [0,1,2,3,8,9,10] .e (.h 1 [] [0,1,2,3,8,9,10,11] (.n (.h 0 [] [1] .e .e) .e) (.n (.h 1 [87] [0,1,2,3,8,9,10,11] (.h 1 [] [] (.h 0 [0] [] (.h 0 [1] [] (.h 2 [2] [] (.h 0 [3] [] (.h 0 [4] [] (.h 0 [5] [] (.h 0 [6] [] (.h 0 [7] [] (.h 0 [8] [] (.h 0 [9] [] (.h 0 [10] [] (.h 0 [11] [] (.h 0 [12] [] (.h 0 [13] [] (.h 0 [14] [] .e .e) .e) .e) .e) .e) .e) .e) .e) .e) .e) .e) .e) (.h 0 [3] [] (.h 0 [4] [] (.h 0 [5] [] (.h 0 [6] [] (.h 0 [7] [] (.h 0 [8] [] (.h 0 [9] [] (.h 0 [10] [] (.h 0 [11] [] (.h 0 [12] [] (.h 0 [13] [] (.h 3 [14] [] .e .e) .e) .e) .e) .e) .e) .e) .e) .e) .e) .e) .e)) .e) .e) .e) .e) .e)))))))) .e) .e) .e)))) func201 h zK⟩
end
section
def WS(T:TypeId)(kd:IntKind)(v:zV)(d:Array Int):zV->Hp->Prop:=λr C'=>r=.tuple #[]/\Da T kd v d C'
section
variable {v:zV} {d:Array Int} {C:Hp} {T:TypeId} {kd:IntKind} {zs:Tm} (ok:EM zs)
include ok in
theorem NF(x:Int)(B:Hp):Rd zQ zs.nan #[.int kd x] B (· =.bool false):=by
 refine aS λg=>ok.nan ?_;exact ae.dz (bX.mk (.refl _) zI)
include ok in
theorem cP(x y:Int)(B:Hp):Rd zQ zs.less #[.int kd x,.int kd y] B (· =.bool (bR x y)):=by
 refine aS λg=>ok.less ?_;intro J1 Vq;exact aa.eq (NF ok x B) (Split.QK rfl (aB.mk (ae.lss (aB.mk (JE.mk (Vq _ _ λgs=>bX.mk (.refl _) rfl))))))
include ok in
theorem uO(h:Da T kd v d C){a b:Nat}(hab:a<=b)(hb:b<=d.size)(cO:d.size<1152921504606846976):Fc zQ zs.yf #[v,iv (a:Int),iv (b:Int)] C (WS T kd v (Sort.insertionSort bR d a b)):=by
 refine aS λg=>ok.yf ?_;refine ae.inc (⟨λvs H=>∃(i:Nat) (e:Array Int),vs=[iv (i:Int)]/\a<i/\e.size=d.size/\Sort.insOuter bR a b i e=Sort.insertionSort bR d a b/\Da T kd v e H,λvs _=>d.size-bL vs 0,JE.mk ⟨a+1,d,rfl,by omega,rfl,rfl,h⟩,?_⟩);rintro w H ⟨i,e,hw,hi,hs,he,hd⟩ gs;simp only[xau,xaY]at hw;subst hw;rw[Sort.insOuter]at he;refine ae.fe (Br.dec (λhlt=>?_) (λhge=>?_));rotate_left
 ·rw[xad hge]at he;exact aN.here ⟨rfl,by rw[<-he];exact hd⟩
 rw[xae hlt]at he;refine⟨λvs H=>∃(j:Nat) (e:Array Int),vs=[iv (j:Int)]/\a<=j/\j<=i/\e.size=d.size/\Sort.insOuter bR a b (i+1) (Sort.insInner bR a j e)=Sort.insertionSort bR d a b/\Da T kd v e H,λvs _=>bL vs 0,JE.mk ⟨i,e,rfl,by omega,xak _,hs,he,hd⟩,?_⟩;clear hd he hs e;rintro w H ⟨j,e,hw,RT,Og,hs,he,hd⟩ gs;simp only[xau,xaY]at hw;subst hw;intro J hJ;have no:Sort.insInner bR a j e=e->J [.bool false] H:=λhi=>hJ _ _ λgs=>Br.no (ae.inc (az.mk ⟨i+1,e,rfl,by omega,hs,by rw[hi]at he;exact he,hd⟩ (by simp[bL];omega)));have yes:a<j->Sort.insInner bR a j e=Sort.insInner bR a (j-1) (Sort.swp e j (j-1))->J [.bool true] H:=λRT hi=>hJ _ _ λgs=>Br.yes (DR.self (ae.bP (b:=1) (ae.bP (b:=1)
  (hd.swap .here zO zO λC' cV=>ae.bP (b:=1) (az.mk ⟨j-1,_,rfl,by omega,by omega,gr hs,by rw[<-hi];exact he,cV⟩ (by simp[bL];omega))))))
 refine DR.self (ae.kG (Br.dec (λhgt=>?_) λhn=>JE.mk (no (JY hn))));refine hd.ld (λ_ h=>h) zO (ae.bP (b:=1) (hd.ld (λ_ h=>h) zO λF=>?_));refine aa.eq (cP ok _ _ _) (aB.mk ?_);have hst:=JZ (e:=e) hgt;cases hl:bR e[j]! e[j-1]!
 ·rw[hl]at hst;exact JE.mk (no hst)
 rw[hl]at hst;exact JE.mk (yes hgt hst)
include ok in
theorem Nq(h:Da T kd v d C){a b:Nat}(hab:a<b)(hb:b<=d.size)(cO:d.size<1152921504606846976):Fc zQ zs.rev #[v,iv (a:Int),iv (b:Int)] C (WS T kd v (Sort.reverseRange d a b)):=by
 refine aS λg=>ok.rev ?_;refine ae.bP (b:=1) (⟨λvs H=>∃(i j:Nat) (e:Array Int),vs=[iv (i:Int),iv (j:Int)]/\j<d.size/\e.size=d.size/\Sort.reverseLoop i j e=Sort.reverseRange d a b/\Da T kd v e H,λvs _=>bL vs 1-bL vs 0,JE.mk ⟨a,b-1,d,rfl,by omega,rfl,rfl,h⟩,?_⟩);rintro w w' H ⟨i,j,e,hw,hj,hs,he,hd⟩ gs;simp only[xau,xaY]at hw;obtain⟨rfl,rfl⟩:=hw;rw[Sort.reverseLoop]at he;refine ae.fe (Br.dec (λhlt=>?_) (λhge=>?_));rotate_left
 ·rw[xad hge]at he;exact aN.here ⟨rfl,by rw[<-he];exact hd⟩
 rw[xae hlt]at he;refine DR.self (hd.swap .here zO zO λC' cV=>?_);exact ae.inc (ae.bP (b:=1) (az.mk ⟨i+1,j-1,_,rfl,by omega,gr hs,he,cV⟩ (by simp[bL];omega)))
include ok in
theorem Jo(h:Da T kd v d C){a b:Nat}(hab:a<b)(hb:b<=d.size)(cO:d.size<1152921504606846976):Fc zQ zs.pins #[v,iv (a:Int),iv (b:Int)] C (λr C'=>r=.bool (Sort.partialInsertionSort bR d a b).2/\Da T kd v (Sort.partialInsertionSort bR d a b).1 C'):=by
 refine aS λg=>ok.pins ?_;refine ae.inc ?_;have fin:∀{e:Array Int} {t:Bool} {H:Hp},(e,t)=Sort.partialInsertionSort bR d a b->Da T kd v e H->aN (λr C'=>r=.bool (Sort.partialInsertionSort bR d a b).2/\Da T kd v (Sort.partialInsertionSort bR d a b).1 C') (.returned (.bool t)) H:=λhe hd=>by
  rw[<-he];exact aN.here ⟨rfl,hd⟩
 refine⟨λvs H=>∃(i k:Nat) (e:Array Int),vs=[iv (i:Int),iv (k:Int)]/\k<=5/\a<i/\i<=b/\e.size=d.size/\Sort.partialIns bR a b (5-k) i e=Sort.partialInsertionSort bR d a b/\Da T kd v e H,λvs _=>5-bL vs 1,JE.mk ⟨a+1,0,d,rfl,by omega,by omega,by omega,rfl,rfl,h⟩,?_⟩;rintro w w' H ⟨i0,k,e,hw,hk5,MN,uR,hs,he,hd⟩ gs;simp only[xau,xaY]at hw;obtain⟨rfl,rfl⟩:=hw;refine ae.fe (b:=5) (Br.dec (λhk=>?_) (λhk=>?_));rotate_left
 ·obtain rfl:k=5:=by omega
  exact fin he hd
 rw[show 5-k=(5-(k+1))+1 by omega,Sort.partialIns_succ]at he;intro J9 KX;refine⟨λvs H=>∃i:Nat,vs=[iv (i:Int)]/\a<i/\i<=b/\Sort.scanSorted bR e b i=Sort.scanSorted bR e b i0/\Da T kd v e H,λvs _=>b-bL vs 0,JE.mk ⟨i0,rfl,MN,uR,rfl,hd⟩,?_⟩;clear hd MN uR;rintro w H ⟨i,hw,MN,uR,hsc,hd⟩ gs;simp only[xau,xaY]at hw;subst hw;rw[<-hsc]at he;rw[Sort.scanSorted]at hsc;intro J19 Vp;have yes:i<b->(!bR e[i]! e[i-1]!)=true->J19 [.bool true] H:=λhlt hl=>Vp _ _ λgs=>Br.yes (ae.inc (az.mk ⟨i+1,rfl,by omega,by omega,by rw[<-hsc,xaA hlt,hl];rfl,hd⟩ (by simp[bL];omega)));have no:Sort.scanSorted bR e b i=i->J19 [.bool false] H:=λhi=>by
  rw[hi]at he;refine Vp _ _ λgs=>Br.no ?_;refine ae.bA (Br.dec (λhz=>?_) (λhne=>?_))
  ·rw[xae hz]at he;exact fin he hd
  rw[xad hne]at he;refine ae.bP (ae.fe (b:=50) (Br.dec (λhz=>?_) (λhz=>?_)))
  ·rw[xae hz]at he;exact fin he hd
  rw[xad hz]at he;refine DR.self (ae.bP (b:=1) (ae.bP (b:=1) (hd.swap .here zO zO λC1 KH=>?_)));have hs1:(Sort.swp e i (i-1)).size=d.size:=gr hs;generalize Sort.swp e i (i-1)=e1 at KH hs1 he;intro Sn YX;have next:∀(f:Array Int) H',f.size=d.size->f=Sort.fixUp bR b i (Sort.fixDown bR a i e1)->Da T kd v f H'->J9 [iv (i:Int)] H':=λf H' h1 h2 cV=>KX _ _ λgs=>ae.inc (az.mk ⟨i,k+1,f,rfl,by omega,MN,uR,h1,by rw[h2];exact he,cV⟩ (by simp[bL];omega))
  have tail:∀(f:Array Int) H',f.size=d.size->f=Sort.fixDown bR a i e1->Da T kd v f H'->Sn [] H':=λf H' h1 h2 cV=>by
   refine YX _ λgs=>?_;rw[<-h2]at next
   unfold Sort.fixUp at next
   refine ae.bP (ae.pN (b:=2) (Br.dec (λh2=>?_) (λh2=>JE.mk (next f _ h1 (by rw[xad h2]) cV))));rw[xae h2]at next
   refine ae.inc (⟨λvs H=>∃(j:Nat) (q:Array Int),vs=[iv (j:Int)]/\0<j/\q.size=d.size/\Sort.shiftUp bR b j q=Sort.shiftUp bR b (i+1) f/\Da T kd v q H,λvs _=>b-bL vs 0,JE.mk ⟨i+1,f,rfl,by omega,h1,rfl,cV⟩,?_⟩);rintro w H ⟨j,q,hw,hj0,Rp,hq,Ee⟩ gs;simp only[xau,xaY]at hw;subst hw;rw[Sort.shiftUp]at hq;refine ae.fe (Br.dec (λhlt=>?_) (λhge=>?_));rotate_left
   ·rw[xad hge]at hq;exact JE.mk (next q _ Rp hq Ee)
   rw[xae hlt]at hq;refine DR.self (Ee.ld (λ_ h=>h) zO (ae.bP (b:=1) (Ee.ld (λ_ h=>h) zO (aa.eq (cP ok _ _ _) (Un.not ?_)))));cases hl:bR q[j]! q[j-1]!
   ·rw[hl]at hq;exact Br.yes (JE.mk (next q _ Rp hq Ee))
   rw[hl]at hq;refine Br.no (DR.self (ae.bP (b:=1) (ae.bP (b:=1) (Ee.swap .here zO zO λC2 uU=>?_))));exact ae.inc (az.mk ⟨j+1,_,rfl,by omega,gr Rp,hq,uU⟩ (by simp[bL];omega))
  unfold Sort.fixDown at tail;refine ae.bP (ae.pN (b:=2) (Br.dec (λh2=>?_) (λh2=>JE.mk (tail e1 _ hs1 (by rw[xad h2]) KH))));rw[xae h2]at tail;refine ae.bP (b:=1) (⟨λvs H=>∃(j:Nat) (q:Array Int),vs=[iv (j:Int)]/\j<d.size/\q.size=d.size/\Sort.shiftDown bR j q=Sort.shiftDown bR (i-1) e1/\Da T kd v q H,λvs _=>bL vs 0,JE.mk ⟨i-1,e1,rfl,by omega,hs1,rfl,KH⟩,?_⟩);rintro w H ⟨j,q,hw,hj0,Rp,hq,Ee⟩ gs;simp only[xau,xaY]at hw;subst hw;refine ae.pN (b:=1) (Br.dec (λhlt=>?_) (λhge=>JE.mk (tail q _ Rp (by rw[<-hq,Gx hge]) Ee)));rw[u4 hlt]at hq;refine DR.self (Ee.ld (λ_ h=>h) zO (ae.bP (b:=1) (Ee.ld (λ_ h=>h) zO (aa.eq (cP ok _ _ _) (Un.not ?_)))));cases hl:bR q[j]! q[j-1]!
  ·rw[hl]at hq;exact Br.yes (JE.mk (tail q _ Rp hq Ee))
  rw[hl]at hq;refine Br.no (DR.self (ae.bP (b:=1) (ae.bP (b:=1) (Ee.swap .here zO zO λC2 uU=>?_))));exact ae.bP (b:=1) (az.mk ⟨j-1,_,rfl,by omega,gr Rp,hq,uU⟩ (by simp[bL];omega))
 refine DR.self (ae.fe (Br.dec (λhlt=>?_) λhge=>JE.mk (no (by rw[Sort.scanSorted,xad zP]))));refine hd.ld (λ_ h=>h) zO (ae.bP (b:=1) (hd.ld (λ_ h=>h) zO λF=>?_));refine aa.eq (cP ok _ _ _) (Un.not (aB.mk ?_));cases hl:bR e[i]! e[i-1]!
 ·exact JE.mk (yes hlt (by rw[hl];rfl))
 exact JE.mk (no (by rw[Sort.scanSorted,hl,xad zI]))
include ok in
theorem AI(h:Da T kd v d C){a b p:Nat}(hp:a<=p/\p<b)(hb:b<=d.size)(cO:d.size<1152921504606846976):Fc zQ zs.rQ #[v,iv (a:Int),iv (b:Int),iv (p:Int)] C
  (λr C'=>r=iv ((Sort.partitionEqual bR d a b p).1:Nat)/\Da T kd v (Sort.partitionEqual bR d a b p).2 C'):=by
 refine aS λg=>ok.rQ ?_;refine DR.self (h.swap .here zO zO λC1 hd=>?_);refine ae.inc (ae.bP (b:=1) (⟨λvs H=>∃(i j:Nat) (e:Array Int),vs=[iv (i:Int),iv (j:Int)]/\a<i/\i<=b/\a<=j/\j<b/\e.size=d.size/\Sort.partEqLoop bR a i j e=Sort.partitionEqual bR d a b p/\Da T kd v e H,λvs _=>b-bL vs 0,JE.mk ⟨a+1,b-1,_,rfl,by omega,by omega,by omega,by omega,gr rfl,rfl,hd⟩,?_⟩));clear hd;rintro w w' H0 ⟨i0,j0,e,hw,MN,uR,RT,UE,hs,he,hd⟩ gs;simp only[xau,xaY]at hw;obtain⟨rfl,rfl⟩:=hw;rw[Sort.partEqLoop_eq]at he;refine⟨λvs H=>∃i:Nat,vs=[iv (i:Int)]/\i0<=i/\i<=b/\Sort.scanUp (λx=> !bR e[a]! x) e j0 i=Sort.scanUp (λx=> !bR e[a]! x) e j0 i0/\Da T kd v e H,λvs _=>b-bL vs 0,JE.mk ⟨i0,rfl,xak _,uR,rfl,hd⟩,?_⟩;clear hd uR;rintro w H ⟨i,hw,RH,uR,hsc,hd⟩ gs;simp only[xau,xaY]at hw;subst hw;rw[<-hsc]at he;rw[Sort.scanUp]at hsc;intro J23 Vo;have yes:i<=j0->(!bR e[a]! e[i]!)=true->J23 [.bool true] H:=λhle hl=>Vo _ _ λgs=>Br.yes (ae.inc (az.mk ⟨i+1,rfl,by omega,by omega,by rw[<-hsc,xaA hle,hl];rfl,hd⟩ (by simp[bL];omega)));have no:Sort.scanUp (λx=> !bR e[a]! x) e j0 i=i->J23 [.bool false] H:=λhi=>by
  rw[hi]at he;refine Vo _ _ λgs=>Br.no ?_;refine⟨λvs H=>∃j:Nat,vs=[iv (j:Int)]/\a<=j/\j<b/\Sort.scanDown (λx=>bR e[a]! x) e i j=Sort.scanDown (λx=>bR e[a]! x) e i j0/\Da T kd v e H,λvs _=>bL vs 0,JE.mk ⟨j0,rfl,RT,UE,rfl,hd⟩,?_⟩;rintro w H' ⟨j,hw,YF,Yb,Oa,cV⟩ gs;simp only[xau,xaY]at hw;subst hw;rw[<-Oa]at he;intro WU OD;have EX:i<=j->bR e[a]! e[j]! =true->WU [.bool true] H':=λhle hl=>OD _ _ λgs=>Br.yes (ae.bP (b:=1) (az.mk ⟨j-1,rfl,by omega,by omega,by rw[<-Oa,dV (j:=j) zO,xaA hle,hl];rfl,cV⟩ (by simp[bL];omega)));have Pz:Sort.scanDown (λx=>bR e[a]! x) e i j=j->WU [.bool false] H':=λhj=>by
   rw[hj]at he;refine OD _ _ λgs=>Br.no ?_;refine ae.kG (Br.dec (λhgt=>?_) (λhle=>?_))
   ·rw[xae hgt]at he;exact aN.here (by rw[<-he];exact⟨rfl,cV⟩)
   rw[xad hle]at he;refine DR.self (cV.swap .here zO zO λC2 uU=>?_);exact ae.inc (ae.bP (b:=1) (az.mk ⟨i+1,j-1,_,rfl,by omega,by omega,by omega,by omega,gr hs,he,uU⟩ (by simp[bL];omega)))
  refine DR.self (ae.wZ (Br.dec (λhle=>?_) λhgt=>JE.mk (Pz ?_)));rotate_left
  ·by_cases h0:j=0
   ·subst h0;rfl
   rw[dV zO,xad zP]
  refine cV.ld (λ_ h=>h) zO ?_;refine cV.ld (λ_ h=>h) zO ?_;intro F;refine aa.eq (cP ok _ _ _) (aB.mk ?_);cases hl:bR e[a]! e[j]!
  ·exact JE.mk (Pz (by rw[dV zO,hl,xad zI]))
  exact JE.mk (EX hle hl)
 refine DR.self (ae.wZ (Br.dec (λhle=>?_) λhgt=>JE.mk (no (by rw[Sort.scanUp,xad zP]))));refine hd.ld (λ_ h=>h) zO (hd.ld (λ_ h=>h) zO λF=>?_);refine aa.eq (cP ok _ _ _) (Un.not (aB.mk ?_));cases hl:bR e[a]! e[i]!
 ·exact JE.mk (yes hle (by rw[hl];rfl))
 exact JE.mk (no (by rw[Sort.scanUp,hl,xad zI]))
end
section
variable {v:zV} {d:Array Int} {C:Hp} {T:TypeId} {kd:IntKind} {zs:Tm} (ok:EM zs)
include ok in
theorem Jr(h:Da T kd v d C){a b p:Nat}(hp:a<=p/\p<b)(hb:b<=d.size)(cO:d.size<1152921504606846976):Fc zQ zs.part #[v,iv (a:Int),iv (b:Int),iv (p:Int)] C
  (λr C'=>r=.tuple #[iv ((Sort.partition bR d a b p).1:Nat),.bool (Sort.partition bR d a b p).2.1]/\Da T kd v (Sort.partition bR d a b p).2.2 C'):=by
 obtain⟨R,hR⟩:∃R,R=Sort.partition bR d a b p:=⟨_,rfl⟩;rw[<-hR];refine aS λg=>ok.part ?_;refine DR.self (h.swap .here zO zO λC1 hd=>?_);have hs:(Sort.swp d a p).size=d.size:=gr rfl;have fin:∀{m:Nat} {t:Bool} {e:Array Int} {H:Hp},(m,t,e)=R->Da T kd v e H->aN (λr C'=>r=.tuple #[iv (R.1:Nat),.bool R.2.1]/\Da T kd v R.2.2 C') (.returned (.tuple #[iv (m:Int),.bool t])) H:=λhe hd=>by
  rw[<-he];exact aN.here ⟨rfl,hd⟩
 unfold Sort.partition at hR;simp only at hR;generalize Sort.swp d a p=e at hd hs hR;refine ae.inc (ae.bP (b:=1) (⟨λvs H=>∃i:Nat,vs=[iv (i:Int)]/\a<i/\i<=b/\Sort.scanUp (λx=>bR x e[a]!) e (b-1) i=Sort.scanUp (λx=>bR x e[a]!) e (b-1) (a+1)/\Da T kd v e H,λvs _=>b-bL vs 0,JE.mk ⟨a+1,rfl,by omega,by omega,rfl,hd⟩,?_⟩));clear hd;rintro w H ⟨i,hw,MN,uR,hsc,hd⟩ gs;simp only[xau,xaY]at hw;subst hw;rw[<-hsc]at hR;rw[Sort.scanUp]at hsc;intro Sp A5;have yes:i<b->bR e[i]! e[a]! =true->Sp [.bool true] H:=λhle hl=>A5 _ _ λgs=>Br.yes (ae.inc (az.mk ⟨i+1,rfl,by omega,by omega,by rw[<-hsc,xaA (show i<=b-1 by omega),hl];rfl,hd⟩ (by simp[bL];omega)));have no:Sort.scanUp (λx=>bR x e[a]!) e (b-1) i=i->Sp [.bool false] H:=λhi=>by
  rw[hi]at hR;refine A5 _ _ λgs=>Br.no ?_;refine⟨λvs H=>∃j:Nat,vs=[iv (j:Int)]/\a<=j/\j<b/\Sort.scanDown (λx=> !bR x e[a]!) e i j=Sort.scanDown (λx=> !bR x e[a]!) e i (b-1)/\Da T kd v e H,λvs _=>bL vs 0,JE.mk ⟨b-1,rfl,by omega,by omega,rfl,hd⟩,?_⟩;clear hd;rintro w H ⟨j,hw,RT,UE,Oa,hd⟩ gs;simp only[xau,xaY]at hw;subst hw;rw[<-Oa]at hR;intro Tq R2;have EX:i<=j->(!bR e[j]! e[a]!)=true->Tq [.bool true] H:=λhle hl=>R2 _ _ λgs=>Br.yes (ae.bP (b:=1) (az.mk ⟨j-1,rfl,by omega,by omega,by rw[<-Oa,dV (j:=j) zO,xaA hle,hl];rfl,hd⟩ (by simp[bL];omega)));have Pz:Sort.scanDown (λx=> !bR x e[a]!) e i j=j->Tq [.bool false] H:=λhj=>by
   rw[hj]at hR;refine R2 _ _ λgs=>Br.no ?_;refine ae.kG (Br.dec (λhgt=>?_) (λhle=>?_))
   ·rw[xae hgt]at hR;refine DR.self (hd.swap .here zO zO λC2 uU=>?_);exact fin hR.symm uU
   rw[xad hle]at hR;refine DR.self (hd.swap .here zO zO λC2 uU=>?_);refine ae.inc (ae.bP (b:=1) ?_);obtain⟨L,hL⟩:∃L,L=Sort.partLoop bR a (i+1) (j-1) (Sort.swp e i j):=⟨_,rfl⟩;rw[<-hL]at hR;have mZ:(Sort.swp e i j).size=d.size:=gr hs;generalize Sort.swp e i j=e0 at hL uU mZ;refine⟨λvs H=>∃(i j:Nat) (e:Array Int),vs=[iv (i:Int),iv (j:Int)]/\a<i/\i<=b/\a<=j/\j<b/\e.size=d.size/\L=Sort.partLoop bR a i j e/\Da T kd v e H,λvs _=>b-bL vs 0,JE.mk ⟨i+1,j-1,e0,rfl,by omega,by omega,by omega,by omega,mZ,hL,uU⟩,?_⟩;clear uU hd MN uR RT UE hle EX R2 Tq A5 Sp yes hL mZ hs hsc hi Oa hj;rintro w w' H0 ⟨i0,j0,e,hw,MN,uR,RT,UE,hs,he,hd⟩ gs;simp only[xau,xaY]at hw;obtain⟨rfl,rfl⟩:=hw;rw[Sort.partLoop_eq]at he;refine⟨λvs H=>∃i:Nat,vs=[iv (i:Int)]/\i0<=i/\i<=b/\Sort.scanUp (λx=>bR x e[a]!) e j0 i=Sort.scanUp (λx=>bR x e[a]!) e j0 i0/\Da T kd v e H,λvs _=>b-bL vs 0,JE.mk ⟨i0,rfl,xak _,uR,rfl,hd⟩,?_⟩;clear hd uR;rintro w H ⟨i,hw,RH,uR,hsc,hd⟩ gs;simp only[xau,xaY]at hw;subst hw;rw[<-hsc]at he;rw[Sort.scanUp]at hsc;intro J64 Vl;have yes:i<=j0->bR e[i]! e[a]! =true->J64 [.bool true] H:=λhle hl=>Vl _ _ λgs=>Br.yes (ae.inc (az.mk ⟨i+1,rfl,by omega,by omega,by rw[<-hsc,xaA hle,hl];rfl,hd⟩ (by simp[bL];omega)));have no:Sort.scanUp (λx=>bR x e[a]!) e j0 i=i->J64 [.bool false] H:=λhi=>by
    rw[hi]at he;refine Vl _ _ λgs=>Br.no ?_;refine⟨λvs H=>∃j:Nat,vs=[iv (j:Int)]/\a<=j/\j<b/\Sort.scanDown (λx=> !bR x e[a]!) e i j=Sort.scanDown (λx=> !bR x e[a]!) e i j0/\Da T kd v e H,λvs _=>bL vs 0,JE.mk ⟨j0,rfl,RT,UE,rfl,hd⟩,?_⟩;rintro w H' ⟨j,hw,YF,Yb,Oa,cV⟩ gs;simp only[xau,xaY]at hw;subst hw;rw[<-Oa]at he;intro J74 Vk;have EX:i<=j->(!bR e[j]! e[a]!)=true->J74 [.bool true] H':=λhle hl=>Vk _ _ λgs=>Br.yes (ae.bP (b:=1) (az.mk ⟨j-1,rfl,by omega,by omega,by rw[<-Oa,dV (j:=j) zO,xaA hle,hl];rfl,cV⟩ (by simp[bL];omega)));have Pz:Sort.scanDown (λx=> !bR x e[a]!) e i j=j->J74 [.bool false] H':=λhj=>by
     rw[hj]at he;refine Vk _ _ λgs=>Br.no ?_;refine ae.kG (Br.dec (λhgt=>?_) (λhle=>?_))
     ·rw[xae hgt]at he;rw[he]at hR;refine DR.self (cV.swap .here zO zO λC2 uU=>?_);exact fin hR.symm uU
     rw[xad hle]at he;refine DR.self (cV.swap .here zO zO λC2 uU=>?_);exact ae.inc (ae.bP (b:=1) (az.mk ⟨i+1,j-1,_,rfl,by omega,by omega,by omega,by omega,gr hs,he,uU⟩ (by simp[bL];omega)))
    refine DR.self (ae.wZ (Br.dec (λhle=>?_) λhgt=>JE.mk (Pz ?_)));rotate_left
    ·by_cases h0:j=0
     ·subst h0;rfl
     rw[dV zO,xad zP]
    refine cV.ld (λ_ h=>h) zO ?_;refine cV.ld (λ_ h=>h) zO ?_;intro F;refine aa.eq (cP ok _ _ _) (Un.not (aB.mk ?_));cases hl:bR e[j]! e[a]!
    ·exact JE.mk (EX hle (by rw[hl];rfl))
    exact JE.mk (Pz (by rw[dV zO,hl,xad zI]))
   refine DR.self (ae.wZ (Br.dec (λhle=>?_) λhgt=>JE.mk (no (by rw[Sort.scanUp,xad zP]))));refine hd.ld (λ_ h=>h) zO (hd.ld (λ_ h=>h) zO λF=>?_);refine aa.eq (cP ok _ _ _) (aB.mk ?_);cases hl:bR e[i]! e[a]!
   ·exact JE.mk (no (by rw[Sort.scanUp,hl,xad zI]))
   exact JE.mk (yes hle hl)
  refine DR.self (ae.wZ (Br.dec (λhle=>?_) λhgt=>JE.mk (Pz ?_)));rotate_left
  ·by_cases h0:j=0
   ·subst h0;rfl
   rw[dV zO,xad zP]
  refine hd.ld (λ_ h=>h) zO (hd.ld (λ_ h=>h) zO λF=>?_);refine aa.eq (cP ok _ _ _) (Un.not (aB.mk ?_));cases hl:bR e[j]! e[a]!
  ·exact JE.mk (EX hle (by rw[hl];rfl))
  exact JE.mk (Pz (by rw[dV zO,hl,xad zI]))
 refine DR.self (ae.wZ (Br.dec (λhle=>?_) λhgt=>JE.mk (no (by rw[Sort.scanUp,xad zP]))));refine hd.ld (λ_ h=>h) zO (hd.ld (λ_ h=>h) zO λF=>?_);refine aa.eq (cP ok _ _ _) (aB.mk ?_);cases hl:bR e[i]! e[a]!
 ·exact JE.mk (no (by rw[Sort.scanUp,hl,xad zI]))
 exact JE.mk (yes zO hl)
include ok in
theorem xA(h:Da T kd v d C){lo hi f:Nat}(hlo:lo<=d.size)(hb:f+hi<=d.size)(cO:d.size<1152921504606846976):Fc zQ zs.Fl #[v,iv (lo:Int),iv (hi:Int),iv (f:Int)] C (WS T kd v (Sort.siftDown bR hi f lo d)):=by
 refine aS λg=>ok.Fl ?_;refine⟨λvs H=>∃(i:Nat) (e:Array Int),vs=[iv (i:Int)]/\i<=d.size/\e.size=d.size/\Sort.siftDown bR hi f i e=Sort.siftDown bR hi f lo d/\Da T kd v e H,λvs _=>d.size-bL vs 0,JE.mk ⟨lo,d,rfl,hlo,rfl,rfl,h⟩,?_⟩;rintro w H ⟨r,e,hw,hr,hs,he,hd⟩ gs;simp only[xau,xaY]at hw;subst hw;refine ae.xU (a:=2) (ae.inc (ae.pN (Br.dec (λhge=>?_) (λhlt=>?_))))
 ·rw[Fk hge]at he;exact aN.here ⟨rfl,by rw[<-he];exact hd⟩
 have P3:=λc=>Nm (c:=c) (d:=e) (f:=f) (show 2*r+1<hi by omega);intro J9 KX;have go:∀c:Nat,r<c->c<hi->(c=if(decide (2*r+1+1<hi) &&bR e[f+(2*r+1)]! e[f+(2*r+1)+1]!)=true then 2*r+2 else 2*r+1)->J9 [iv (c:Int)] H:=λc hrc ac2 hc=>by
  rw[P3 c hc]at he;refine KX _ _ λgs=>?_;refine DR.self (ae.fE (hd.ld (λ_ h=>h) zO (ae.fE (hd.ld (λ_ h=>h) zO (aa.eq (cP ok _ _ _) (Un.not ?_))))));cases hl:bR e[f+r]! e[f+c]!
  ·rw[hl]at he;exact Br.yes (aN.here ⟨rfl,by rw[<-he];exact hd⟩)
  rw[hl]at he;refine Br.no (DR.self (ae.fE (ae.fE (ae.fE (hd.Pq .here (i:=f+r) (j:=f+c) (B:=λk=>ae .num .add (iv (f:Int)) (iv (r:Int)) k) zO zO (λk hk=>ae.fE hk) λC1 KH=>?_)))));exact az.mk ⟨c,_,rfl,by omega,gr hs,he,KH⟩ (by simp[bL];omega)
 intro So Vm;have stay:(decide (2*r+1+1<hi) &&bR e[f+(2*r+1)]! e[f+(2*r+1)+1]!)=false->So [.bool false] H:=λhc=>Vm _ _ λgs=>Br.no (JE.mk (go _ zO zO (by rw[hc];rfl)));refine DR.self (ae.inc (ae.fe (Br.dec (λhc=>?_) λhc=>JE.mk (stay (by rw[xas hc];rfl)))));refine ae.fE (hd.ld (λ_ h=>h) zO (ae.fE (ae.inc (hd.ld (λ_ h=>h) zO λF=>?_))));refine aa.eq (cP ok _ _ _) (aB.mk ?_);cases hl:bR e[f+(2*r+1)]! e[f+(2*r+1)+1]!
 ·exact JE.mk (stay (by rw[hl,Bool.and_false]))
 exact JE.mk (Vm _ _ λgs=>Br.yes (ae.inc (JE.mk (go _ zO hc (by rw[hl,xaA hc];rfl)))))
include ok in
theorem FU(h:Da T kd v d C){a b:Nat}(hab:a<b)(hb:b<=d.size)(cO:d.size<1152921504606846976):Fc zQ zs.heap #[v,iv (a:Int),iv (b:Int)] C (WS T kd v (Sort.heapSort bR d a b)):=by
 refine aS λg=>ok.heap ?_;obtain⟨B,hB⟩:∃B,B=Sort.heapBuild bR (b-a) a ((b-a-1) /2+1) d:=⟨_,rfl⟩;have hH:Sort.heapSort bR d a b=Sort.heapPop bR a (b-a) B:=by rw[hB];rfl
 rw[hH];refine ae.bP (ae.bP (b:=1) (ae.A9 (b:=2) (by simp[bM];omega) zO (⟨λvs H=>∃(q:Int) (e:Array Int),vs=[iv q]/\ -1<=q/\q<(b:Int) -a/\e.size=d.size/\B=Sort.heapBuild bR (b-a) a (q+1).toNat e/\Da T kd v e H,λvs _=>W9 vs,JE.mk ⟨(((b-a-1) /2:Nat):Int),d,rfl,by omega,by omega,rfl,hB,h⟩,?_⟩)));clear hB hH;rintro w H ⟨q,e,hw,XT,SJ,hs,he,hd⟩ gs;simp only[xau,xaY]at hw;subst hw;refine ae.geq (Br.dec (λh0=>?_) (λhn=>?_))
 ·obtain⟨i,rfl⟩:∃i:Nat,q=i:=⟨q.toNat,by omega⟩;rw[show((i:Int)+1).toNat=i+1 by omega,Sort.heapBuild]at he;refine aa.fq (xA ok hd zO zO zO) ?_;rintro w C1 ⟨rfl,KH⟩;exact ae.I5 (c:=(i:Int) -1) rfl zO (az.mk ⟨(i:Int) -1,_,rfl,by omega,by omega,by rw[DG];exact hs,by rw[show((i:Int) -1+1).toNat=i by omega];exact he,KH⟩ (by rw[vC,vC];omega))
 obtain rfl:q= -1:=by omega
 have he:B=e:=he;subst he;refine ae.bP (b:=1) (⟨λvs H=>∃(q:Int) (e:Array Int),vs=[iv q]/\ -1<=q/\q<(b:Int) -a/\e.size=d.size/\Sort.heapPop bR a (q+1).toNat e=Sort.heapPop bR a (b-a) B/\Da T kd v e H,λvs _=>W9 vs,JE.mk ⟨((b-a-1:Nat):Int),B,rfl,by omega,by omega,hs,by rw[show(((b-a-1:Nat):Int)+1).toNat=b-a by omega],hd⟩,?_⟩);clear hd hs hn;rintro w H ⟨q,e,hw,XT,SJ,hs,he,hd⟩ gs;simp only[xau,xaY]at hw;subst hw;refine ae.geq (Br.dec (λh0=>?_) (λhn=>?_));rotate_left
 ·obtain rfl:q= -1:=by omega
  have he:e=Sort.heapPop bR a (b-a) B:=he;exact aN.here ⟨rfl,by rw[<-he];exact hd⟩
 obtain⟨i,rfl⟩:∃i:Nat,q=i:=⟨q.toNat,by omega⟩;rw[show((i:Int)+1).toNat=i+1 by omega,Sort.heapPop]at he;refine DR.self (ae.fE (ae.fE (hd.swap .here zO zO λC1 KH=>?_)));have hs1:(Sort.swp e a (a+i)).size=d.size:=gr hs;refine aa.fq (xA ok KH (lo:=0) zO zO zO) ?_;rintro w C2 ⟨rfl,uU⟩;exact ae.I5 (c:=(i:Int) -1) rfl zO (az.mk ⟨(i:Int) -1,_,rfl,by omega,by omega,by rw[DG];exact hs1,by rw[show((i:Int) -1+1).toNat=i by omega];exact he,uU⟩ (by rw[vC,vC];omega))
end
section
variable {v:zV} {d:Array Int} {C:Hp} {T:TypeId} {kd:IntKind} {zs:Tm} (ok:EM zs)
theorem W0{a b:Nat}(ha:a<18446744073709551616)(hb:b<18446744073709551616):a^^^b<18446744073709551616:=Nat.xor_lt_two_pow (n:=64) ha hb
theorem IB(b x:Nat)(hx:x<18446744073709551616):Fc zQ 215 #[ptr b] [(b,.cells #[.int .u64 (x:Int)] 298 zZ)]
  (λr H=>∃y:Nat,y<18446744073709551616/\r=.int .u64 (y:Int)/\H=[(b,.cells #[.int .u64 (y:Int)] 298 zZ)]):=by
 refine aS λg=>BC (DR.self (Nil.ptr (Ld.q ?_)));refine Nil.ptr (Ld.q ?_);refine ae.As (b:=13) (ae.Qt hx (xaZ _ zD) ?_);have h1:=W0 hx (xaZ (x<<<13) (show 0<18446744073709551616 by decide));generalize x^^^x<<<13%18446744073709551616=x1 at h1;refine Nil.ptr (St.one (by exact .head _) rfl zI rfl ?_);refine DR.self (Nil.ptr (Ld.q ?_));refine Nil.ptr (Ld.q ?_);refine ae.pg (b:=7) h1 ?_;have h2:x1>>>7<18446744073709551616:=by rw[xa9];omega
 refine ae.Qt h1 h2 ?_;have h3:=W0 h1 h2;generalize x1^^^x1>>>7=x2 at h3;refine Nil.ptr (St.one (by exact .head _) rfl zI rfl ?_);refine DR.self (Nil.ptr (Ld.q ?_));refine Nil.ptr (Ld.q ?_);refine ae.As (b:=17) (ae.Qt h3 (xaZ _ zD) ?_);have h4:=W0 h3 (xaZ (x2<<<17) (show 0<18446744073709551616 by decide));generalize x2^^^x2<<<17%18446744073709551616=x3 at h4;refine Nil.ptr (St.one (by exact .head _) rfl zI rfl ?_);refine Nil.ptr (Ld.q ?_);exact aN.here ⟨x3,h4,rfl,rfl⟩
theorem EF{x:Nat}(hx:x<18446744073709551616)(B:Hp):Rd zQ 202 #[.int .u64 (x:Int)] B (λv=>∃r:Nat,vA x r/\v=iv (r:Int)):=by
 refine aS λg=>BE (Br.no (aa.rq (JL hx B) ?_));rintro w hw;exact bX.mk (.refl _) hw
theorem NB{x:Nat}(h0:0<x)(hx:x<1152921504606846976)(B:Hp):Rd zQ 214 #[iv (x:Int)] B (λv=>∃r:Nat,0<r/\r<=2*x/\v=.int .u64 (r:Int)):=by
 refine aS λg=>BD (aO.q (aa.rq (EF zO B) ?_));rintro w ⟨r,hr,rfl⟩;have Ea:0<r:=by
  rcases Nat.eq_zero_or_pos r with e|e
  ·subst e;have:=hr.1;omega
  exact e
 have h2:2^(r-1)<=x:=by
  rcases hr.2 with e|e
  ·omega
  exact e
 have h3:2^r=2*2^(r-1):=by
  obtain⟨k,rfl⟩:∃k,r=k+1:=⟨r-1,by omega⟩;rw[xbQ,xc4];omega
 refine ae.As (a:=1) ?_;have e:1<<<r%18446744073709551616=2^r:=by
  rw[xc8,xd5];exact xbv zO
 rw[e];exact bX.mk (.refl _) ⟨2^r,xb4 r,by omega,rfl⟩
include ok in
theorem O1(h:Da T kd v d C){a b:Nat}(hab:a<b)(hb:b<=d.size)(cO:d.size<1152921504606846976):Fc zQ zs.VK #[v,iv (a:Int),iv (b:Int)] C (λr C'=>r=.tuple #[]/\∃e,Sort.PermIn a b d e/\Da T kd v e C'):=by
 refine aS λg=>ok.VK ?_;refine ae.bP (ae.pN (b:=8) (Br.dec (λh8=>?_) (λ_=>aN.here ⟨rfl,d,Sort.permIn_refl _ _ _,h⟩)));refine aO.q λb4 _=>(St.one (by exact .head _) rfl zI rfl ?_);refine aa.rq (NB zO zO C) ?_;rintro w ⟨m,hm0,hm,rfl⟩;refine ae.A9 (b:=4) (by simp[bM];omega) zO (ae.xU (b:=2) (ae.fE (ae.bP (b:=1) ?_)));refine⟨λvs H=>∃(i x:Nat) (C':Hp) (e:Array Int),vs=[iv (i:Int)]/\a<=i/\x<18446744073709551616/\H=(b4,.cells #[.int .u64 (x:Int)] 298 zZ)::C'/\Sort.PermIn a b d e/\Da T kd v e C',λvs _=>b-bL vs 0,
  JE.mk ⟨_,b-a,C,d,rfl,by omega,by omega,rfl,Sort.permIn_refl _ _ _,h⟩,?_⟩
 rintro w H ⟨i,x,C',e,hw,MN,hx,rfl,hp,hd⟩ gs;simp only[xau,xaY]at hw;subst hw;have hs:=hp.1;refine ae.A9 (b:=4) (by simp[bM];omega) zO (ae.xU (b:=2) (ae.fE (ae.inc (ae.wZ (Br.dec (λhle=>?_) (λ_=>aN.mk .tail ⟨rfl,e,hp,hd⟩))))));refine aa.fn (.left (A:=C')) (IB b4 x hx) ?_;rintro w H' ⟨y,hy,rfl,rfl⟩;refine ae.bP (b:=1) (ae.oX (by simp[bM];omega) (by simp[bM];omega) ?_);have hand:y&&& (m-1)<m:=by have:=xcN (n:=y) (m:=m-1);omega
 generalize y&&& (m-1)=z at hand;refine aO.q λJ28 Y6=>?_;have go:∀o:Nat,o<b-a->J28 [iv (o:Int)] ([(b4,Obj.cells #[.int .u64 (y:Int)] 298 zZ)]++C'):=λo ho=>by
  refine Y6 _ _ λgs=>?_;refine DR.self (ae.fE (ae.fE (hd.swap (.cons .here) zO zO λC1 KH=>?_)));exact ae.inc (az.mk ⟨i+1,y,C1,_,rfl,by omega,hy,rfl,Sort.permIn_trans _ _ _ _ _ hp (Sort.swp_permIn _ a b i (a+o) MN zO zO zO zO),KH⟩ (by simp[bL];omega))
 refine ae.pN (Br.dec (λhge=>?_) (λhlt=>JE.mk (go z zO)));exact ae.bP (JE.mk (go _ zO))
def OQZ(b:Nat)(C:Hp)(i j:Nat):zV->Hp->Prop:=λr H=>(r=.tuple #[iv (i:Int),iv (j:Int)]\/r=.tuple #[iv (j:Int),iv (i:Int)])/\∃z:Int,H=(b,.cells #[iv z] 3 zZ)::C
include ok in
theorem rR(h:Da T kd v d C){b:Nat}{z:Int}{i j:Nat}(hi:i<d.size)(hj:j<d.size):
  Fc zQ zs.AK #[v,iv (i:Int),iv (j:Int),ptr b] ((b,.cells #[iv z] 3 zZ)::C) (OQZ b C i j):=by
 refine aS λg=>ok.AK ?_;refine DR.self (h.ld (λ_ h=>.tail _ h) hj (h.ld (λ_ h=>.tail _ h) hi (aa.eq (cP ok _ _ _) (Br.mk (λ_=>?_) (λ_=>aN.here ⟨.inl rfl,z,rfl⟩)))));refine Nil.ptr (Ld.q ?_);refine ae.add (Nil.ptr (St.one (by exact .head _) rfl zI rfl ?_));exact aN.here ⟨.inr rfl,_,rfl⟩
def MQZ(b:Nat)(C:Hp)(p:Nat->Prop):zV->Hp->Prop:=λr H=>(∃m:Nat,r=iv (m:Int)/\p m)/\∃z:Int,H=(b,.cells #[iv z] 3 zZ)::C
include ok in
theorem DZ(h:Da T kd v d C){b:Nat}{z:Int}{i j k:Nat}(hi:i<d.size)(hj:j<d.size)(hk:k<d.size):
  Fc zQ zs.SF #[v,iv (i:Int),iv (j:Int),iv (k:Int),ptr b] ((b,.cells #[iv z] 3 zZ)::C) (MQZ b C λm=>m=i\/m=j\/m=k):=by
 refine aS λg=>ok.SF ?_;refine aa.fq (rR ok h hi hj) ?_;rintro w H ⟨hw,z1,rfl⟩;obtain⟨i1,j1,rfl,hij⟩:∃i1 j1:Nat,w=.tuple #[iv (i1:Int),iv (j1:Int)]/\((i1=i/\j1=j)\/(i1=j/\j1=i)):=by
  rcases hw with rfl|rfl
  ·exact⟨i,j,rfl,.inl ⟨rfl,rfl⟩⟩
  exact⟨j,i,rfl,.inr ⟨rfl,rfl⟩⟩
 refine Ext.two (aa.fq (rR ok h (i:=j1) (j:=k) zO hk) ?_);rintro w H ⟨hw,z2,rfl⟩;obtain⟨j2,k2,rfl,Of⟩:∃j2 k2:Nat,w=.tuple #[iv (j2:Int),iv (k2:Int)]/\((j2=j1/\k2=k)\/(j2=k/\k2=j1)):=by
  rcases hw with rfl|rfl
  ·exact⟨_,_,rfl,.inl ⟨rfl,rfl⟩⟩
  exact⟨_,_,rfl,.inr ⟨rfl,rfl⟩⟩
 refine Ext.two (aa.fq (rR ok h (i:=i1) (j:=j2) zO zO) ?_);rintro w H ⟨hw,z3,rfl⟩;rcases hw with rfl|rfl
 ·exact Ext.mk rfl (Ext.mk rfl (aN.here ⟨⟨_,rfl,by omega⟩,_,rfl⟩))
 exact Ext.mk rfl (Ext.mk rfl (aN.here ⟨⟨_,rfl,by omega⟩,_,rfl⟩))
include ok in
theorem rY(h:Da T kd v d C){b:Nat}{z:Int}{i:Nat}(h0:0<i)(hi:i+1<d.size)(cO:d.size<1152921504606846976):
  Fc zQ zs.AN #[v,iv (i:Int),ptr b] ((b,.cells #[iv z] 3 zZ)::C) (MQZ b C λm=>i<=m+1/\m<=i+1):=by
 refine aS λg=>ok.AN ?_;refine ae.bP (b:=1) (ae.inc (aa.fq (DZ ok h zO zO hi) ?_));rintro w H ⟨⟨m,rfl,hm⟩,z',rfl⟩;exact aN.here ⟨⟨m,rfl,by omega⟩,z',rfl⟩
include ok in
theorem Ny(h:Da T kd v d C){a b:Nat}(hab:a<b)(hb:b<=d.size)(cO:d.size<1152921504606846976):
  Rd zQ zs.TO #[v,iv (a:Int),iv (b:Int)] C (λr=>∃(p:Nat) (q:Int),r=.tuple #[iv (p:Int),iv q]/\a<=p/\p<b):=by
 refine aS λg=>ok.TO ?_;refine ae.bP λb2 _=>(ae.A9 (b:=4) (by simp[bM];omega) zO (ae.xU (b:=1) (ae.fE (ae.A9 (b:=4) (by simp[bM];omega) zO (ae.xU (b:=2) (ae.fE (ae.A9 (b:=4) (by simp[bM];omega) zO (ae.xU (b:=3) (ae.fE ?_)))))))));intro J13 Y9;have fin:∀(p:Nat) (z:Int),a<=p->p<b->J13 [iv (p:Int)] ((b2,.cells #[iv z] 3 zZ)::C):=λp z uP pJ=>by
  refine Y9 _ _ λgs=>?_;refine Ld.q ?_;refine ae.kH (Br.dec (λ_=>bX.mk .tail ⟨p,_,rfl,uP,pJ⟩) (λ_=>?_));exact ae.kH (Br.dec (λ_=>bX.mk .tail ⟨p,_,rfl,uP,pJ⟩) (λ_=>bX.mk .tail ⟨p,_,rfl,uP,pJ⟩))
 refine ae.pN (b:=8) (Br.dec (λh8=>?_) (λ_=>JE.mk (fin _ _ zO zO)));intro J21 Y8;have three:∀(x y u:Nat) (z:Int),a<=x/\x<b->a<=y/\y<b->a<=u/\u<b->J21 [iv (x:Int),iv (y:Int),iv (u:Int)] ((b2,.cells #[iv z] 3 zZ)::C):=λx y u z hx hy hu=>by
  refine Y8 _ _ _ _ λgs=>?_;refine aa.fq (DZ ok h zO zO zO) ?_;rintro w H ⟨⟨m,rfl,hm⟩,z',rfl⟩;exact JE.mk (fin _ _ zO zO)
 refine ae.pN (b:=50) (Br.dec (λh50=>?_) (λ_=>JE.mk (three _ _ _ _ zO zO zO)));refine aa.fq (rY ok h zO zO cO) ?_;rintro w H ⟨⟨m1,rfl,MI⟩,z1,rfl⟩;refine aa.fq (rY ok h zO zO cO) ?_;rintro w H ⟨⟨m2,rfl,FZ⟩,z2,rfl⟩;refine aa.fq (rY ok h zO zO cO) ?_;rintro w H ⟨⟨m3,rfl,hm3⟩,z3,rfl⟩;exact JE.mk (three _ _ _ _ zO zO zO)
def PSZ(T:TypeId)(kd:IntKind)(v:zV)(d:Array Int)(a b:Nat):zV->Hp->Prop:=λr C'=>r=.tuple #[]/\∃e,(Sort.PermIn a b d e/\Sort.SortedIn bR a b e)/\Da T kd v e C'
include ok in
theorem NA:∀(N:Nat) {C:Hp} {d:Array Int} (h:Da T kd v d C) {a b:Nat} (hN:b-a<=N) (hab:a<=b) (hb:b<=d.size) (cO:d.size<1152921504606846976) (hB:Sort.Below bR a b d) (z:Int),Fc zQ zs.QJ #[v,iv (a:Int),iv (b:Int),iv z] C (PSZ T kd v d a b):=by
 intro N;induction N with
 |zero=>
  intro C d h a b hN hab hb cO hB z g;refine ok.QJ (R:=aN _) ?_;unfold L9014;refine⟨λvs H=>vs=[iv (a:Int),iv (b:Int),iv z,.bool true,.bool true]/\H=C,λ_ _=>0,JE.mk ⟨rfl,rfl⟩,?_⟩;rintro w1 w2 w3 w4 w5 H ⟨hw,rfl⟩ gs;simp only[xau,xaY]at hw;obtain⟨rfl,rfl,rfl,rfl,rfl⟩:=hw;refine ae.bP (ae.wZ (b:=12) (Br.T (aa.fq (uO ok h hab hb cO) ?_)));rintro w C' ⟨rfl,hd⟩;exact aN.here ⟨rfl,_,Sort.insertionSort_holds Sort.swo_ltInt d a b hab hb,hd⟩
 |succ N ih=>
  intro C d h a b hN hab hb cO hB z g;refine ok.QJ (R:=aN _) ?_;unfold L9014;obtain⟨G,hG⟩:∃G:Array Int->Prop,G=λR=>Sort.PermIn a b d R/\Sort.SortedIn bR a b R:=⟨_,rfl⟩;have fin:∀{R:Array Int} {H:Hp},G R->Da T kd v R H->aN (PSZ T kd v d a b) (.returned (.tuple #[])) H:=λhR hd=>by
   subst hG;exact aN.here ⟨rfl,_,hR,hd⟩
  refine⟨λvs H=>∃(a b:Nat) (z:Int) (t1 t2:Bool) (e:Array Int),vs=[iv (a:Int),iv (b:Int),iv z,.bool t1,.bool t2]/\b-a<=N+1/\a<=b/\b<=e.size/\e.size=d.size/\Sort.Below bR a b e/\(∀R,Sort.PermIn a b e R->Sort.SortedIn bR a b R->G R)/\Da T kd v e H,λvs _=>bL vs 1-bL vs 0,
   JE.mk ⟨a,b,z,true,true,d,rfl,hN,hab,hb,rfl,hB,by subst hG;exact λR h1 h2=>⟨h1,h2⟩,h⟩,?_⟩
  clear h hN hab hb hB hG;rintro w1 w2 w3 w4 w5 H ⟨a,b,z,t1,t2,e,hw,hN,hab,hb,hs,hB,P3,h⟩ gs;simp only[xau,xaY]at hw;obtain⟨rfl,rfl,rfl,rfl,rfl⟩:=hw;refine ae.bP (ae.wZ (b:=12) (Br.dec (λh12=>?_) (λh12=>?_)))
  ·refine aa.fq (uO ok h hab hb zO) ?_;rintro w C' ⟨rfl,hd⟩;obtain⟨q1,q2⟩:=Sort.insertionSort_holds Sort.swo_ltInt e a b hab hb;exact fin (P3 _ q1 q2) hd
  refine ae.kH (Br.dec (λ_=>?_) (λ_=>?_))
  ·refine aa.fq (FU ok h zO hb zO) ?_;rintro w C' ⟨rfl,hd⟩;obtain⟨q1,q2⟩:=Sort.heapSort_holds Sort.swo_ltInt e a b hab hb;exact fin (P3 _ q1 q2) hd
  intro Sp A5;have Z8:∀(z1:Int) H1 e1,Sort.PermIn a b e e1->Da T kd v e1 H1->Sp [iv z1] H1:=λz1 H1 e1 p1 h1=>by
   have hs1:=p1.1;refine A5 _ _ λgs=>?_;refine aa.rq (Ny ok h1 (a:=a) (b:=b) zO zO zO) ?_;rintro w ⟨p,q,rfl,uP,pJ⟩;refine Ext.two λJ25 Y7=>?_;have Z7:∀(p:Nat) (q:Int) H2 e2,a<=p->p<b->Sort.PermIn a b e e2->Da T kd v e2 H2->J25 [iv (p:Int),iv q] H2:=λp q H2 e2 uP pJ p2 h2=>by
    have mZ:=p2.1;refine Y7 _ _ _ λgs=>?_;intro J30 YZ;have Z6:∀H3 e3,Sort.PermIn a b e e3->Da T kd v e3 H3->J30 [] H3:=λH3 e3 p3 h3=>by
     have Wi:=p3.1;have WH:=hB.perm hb p3;have Wv:b<=e3.size:=by omega
     refine YZ _ λgs=>?_;intro WU OD;have Z5:∀(t:Bool),(t=true->0<a/\bR e3[a-1]! e3[p]! =false)->WU [.bool t] H3:=λt ht=>by
      refine OD _ _ λgs=>?_;refine Br.mk (λet=>?_) (λ_=>?_)
      ·obtain⟨ha0,hnl⟩:=ht et;refine aa.fq (AI ok h3 ⟨uP,pJ⟩ Wv zO) ?_;rintro w C' ⟨rfl,hd⟩;obtain⟨g1,g2,g3,g4,g5⟩:=Sort.round_eq Sort.swo_ltInt (Sort.partitionEqual_holds bR) ha0 uP pJ Wv WH hnl (mid:=(Sort.partitionEqual bR e3 a b p).1) (d4:=(Sort.partitionEqual bR e3 a b p).2) rfl;generalize (Sort.partitionEqual bR e3 a b p).1=m at*;generalize (Sort.partitionEqual bR e3 a b p).2=e4 at*;exact az.mk ⟨m,b,z1,t1,t2,e4,rfl,by omega,by omega,by omega,by omega,g4,λR r1 r2=>by
        obtain⟨q1,q2⟩:=g5 R r1 r2;exact P3 R (Sort.permIn_trans _ _ _ _ _ p3 q1) q2,hd⟩ (by simp[bL];omega)
      refine aa.fq (Jr ok h3 ⟨uP,pJ⟩ Wv zO) ?_;rintro w C' ⟨rfl,hd⟩;obtain⟨g1,g2,g3,g4,g5,g6,g7⟩:=Sort.round_part Sort.swo_ltInt (Sort.partition_holds bR) uP pJ Wv WH (mid:=(Sort.partition bR e3 a b p).1) (ap:=(Sort.partition bR e3 a b p).2.1) (d4:=(Sort.partition bR e3 a b p).2.2) rfl;generalize (Sort.partition bR e3 a b p).1=m at*;generalize (Sort.partition bR e3 a b p).2.1=t at*;generalize (Sort.partition bR e3 a b p).2.2=e4 at*;refine Ext.two (ae.bP (ae.bP (ae.A9 (b:=8) (by simp[bM];omega) zO (ae.fe (Br.dec (λ_=>?_) (λ_=>?_))))))
      ·refine ae.pN (aa.fq (ih hd (a:=a) (b:=m) zO zO zO zO g4 z1) ?_);rintro w C' ⟨rfl,e5,⟨l1,l2⟩,cV⟩;obtain⟨Zg,lP⟩:=g6 _ l1 l2;have XO:=l1.1;refine ae.inc ?_;exact az.mk ⟨m+1,b,z1,_,t,e5,rfl,by omega,by omega,by omega,by omega,Zg,λR r1 r2=>by
        obtain⟨q1,q2⟩:=lP R r1 r2;exact P3 R (Sort.permIn_trans _ _ _ _ _ p3 q1) q2,cV⟩ (by simp[bL];omega)
      refine ae.pN (ae.inc (aa.fq (ih hd (a:=m+1) (b:=b) zO zO zO zO g5 z1) ?_));rintro w C' ⟨rfl,e5,⟨l1,l2⟩,cV⟩;obtain⟨Zg,lP⟩:=g7 _ l1 l2;have XO:=l1.1;exact az.mk ⟨a,m,z1,_,t,e5,rfl,by omega,by omega,by omega,by omega,Zg,λR r1 r2=>by
       obtain⟨q1,q2⟩:=lP R r1 r2;exact P3 R (Sort.permIn_trans _ _ _ _ _ p3 q1) q2,cV⟩ (by simp[bL];omega)
     refine DR.self (ae.kG (b:=0) (Br.dec (λh0=>?_) (λ_=>JE.mk (Z5 false nofun))));refine ae.bP (b:=1) (h3.ld (λ_ h=>h) zO (h3.ld (λ_ h=>h) zO λF=>?_));exact aa.eq (cP ok _ _ _) (Un.not (aB.mk (JE.mk (Z5 _ λht=>⟨h0,by simpa using ht⟩))))
    refine dr.and t2 (λ_=>⟨rfl,rfl⟩) rfl λgs=>?_;refine dr.and (decide (q=1)) (λ_=>ae.kH ⟨rfl,rfl⟩) rfl λgs=>?_;refine Br.mk (λ_=>?_) (λ_=>JE.mk (Z6 _ _ p2 h2));refine aa.fq (Jo ok h2 zO (show b<=e2.size by omega) zO) ?_;rintro w C' ⟨rfl,hd⟩;obtain⟨q1,q2⟩:=Sort.partialInsertionSort_holds Sort.swo_ltInt e2 a b zO zO (hB.perm hb p2);exact Br.mk (λet=>fin (P3 _ (Sort.permIn_trans _ _ _ _ _ p2 q1) (q2 et)) hd) (λ_=>JE.mk (Z6 _ _ (Sort.permIn_trans _ _ _ _ _ p2 q1) hd))
   refine ae.kH (Br.dec (λ_=>?_) (λ_=>JE.mk (Z7 p q _ _ uP pJ p1 h1)));refine aa.fq (Nq ok h1 (a:=a) (b:=b) zO zO zO) ?_;rintro w C' ⟨rfl,hd⟩;exact ae.bP (b:=1) (ae.bP (ae.bP (JE.mk (Z7 _ _ _ _ zO zO (Sort.permIn_trans _ _ _ _ _ p1 (Sort.reverseRange_holds e1 a b hab zO)) hd))))
  refine Un.not (Br.mk (λ_=>?_) (λ_=>JE.mk (Z8 _ _ _ (Sort.permIn_refl _ _ _) h)));refine aa.fq (O1 ok h (a:=a) (b:=b) zO hb zO) ?_;rintro w C' ⟨rfl,e1,p1,hd⟩;exact ae.sub (JE.mk (Z8 _ _ _ p1 hd))
end
def Jb(l:List Int):List Int:=l.mergeSort λx y=>decide (x<=y)
theorem QD{d e:Array Int}(h1:Sort.PermIn 0 d.size d e)(h2:Sort.SortedIn bR 0 d.size e):e.toList=Jb d.toList:=by
 rw[Sort.sorted_unique_holds Sort.swo_ltInt (λx y h1 h2=>by simp[Sort.ltInt]at h1 h2;omega) d e h1 h2];unfold Jb;congr 1
 funext x y
 show(!decide (y<x))=decide (x<=y);rw[xcA];simp
def QE(l:zL):zL:=l.mergeSort λx y=>decide (x<=y)
theorem ur(l:zL):(QE l).Perm l:=List.mergeSort_perm _ _
theorem Nj(l:zL):(QE l).Pairwise λx y=>x<=y:=
 (List.pairwise_mergeSort (le:=λx y:Nat=>decide (x<=y)) (λa b c h1 h2=>by simp only[xaO]at*;omega) (λa b=>by simp only[xbX,xaO];omega) l).imp λh=>xbK h
theorem Ni(l:zL):Jb (iw l)=iw (QE l):=by
 refine List.Perm.eq_of_pairwise (le:=λx y:Int=>x<=y) (λa b _ _ h1 h2=>Int.le_antisymm h1 h2) ?_ ?_ ((List.mergeSort_perm _ _).trans ((ur l).map _).symm)
 ·exact(List.pairwise_mergeSort (le:=λx y:Int=>decide (x<=y)) (λa b c h1 h2=>by simp only[xaO]at*;omega) (λa b=>by simp only[xbX,xaO];omega) _).imp λh=>xbK h
 exact xb2.2 ((Nj l).imp λh=>by omega)
theorem Nk{v:zV}{C:Hp}{l:List Int}(h:aL 27 .u32 v l C)(cO:l.length<1152921504606846976):Fc zQ 198 #[v] C (λr C'=>r=.tuple #[]/\aL 27 .u32 v (Jb l) C'):=by
 refine aS λg=>BF (h.bH ?_);refine aO.q (aa.rq (EF zO C) ?_);rintro w ⟨r,_,rfl⟩;have hd:Da 27 .u32 v l.toArray C:=h;refine aa.fn .here (NA Tw l.length hd (a:=0) (b:=l.length) zO zO zI (by simpa using cO) (.inl rfl) _) ?_;rintro w C' ⟨rfl,e,⟨h1,h2⟩,cV⟩;have he:=QD (d:=l.toArray) (by simpa using h1) (by simpa using h2);exact aN.here ⟨rfl,by rw[show Jb l=e.toList from he.symm];exact cV⟩
end
end Go.Proofs
namespace Go.Sx
open Go
section
variable {P:Program} {g:Gh} {F:Fence} {n:Nat} {ops:Array Oper} {Q:Exit->Act->World->Prop} {rest:List Oper} {o:Oper} {a:Act} {fr:Fr} {w:World} {H:Hp}
abbrev z6(ds:List Deferred)(n:Nat)(a:Act)(fr:Fr):Prop:=bD ds n a fr
variable {ds:List Deferred}
theorem z6.put(h:z6 ds n a fr){d:Option Nat}(hd:c6 n d=true)(v:zV):z6 ds n (a.put d v) (bJ fr d v):=bD.put h hd v
theorem ie{v0:zV}(hF:∀f,F.fn f)(hg:o.guard=none)(iu:∀c,o.op≠.defer c)(hd:c6 n o.dst=true)(ha:z6 ds n a fr)(hw:Own g H w)(h:z9 P g o (ev fr) H (· =v0))
 (k:∀a',z6 ds n a' (bJ fr o.dst v0)->wpListIn F 0 P ops Q rest a' w):wpListIn F 0 P ops Q (o::rest) a w:=by
 refine wpListIn_plain hg λK hK=>⟨λf _=>hF f,?_⟩;rw[Oper.semAt_eq _ _ _ iu,ha.eval];obtain⟨v,hv,hr,_⟩:=mA h;rw[hr w hw];subst hv;exact hK _ _ (k _ (ha.put hd _))
theorem DF{s:Sem zV}{K:zV->Hp->Prop}(hF:∀f,F.fn f)(hg:o.guard=none)(iu:∀c,o.op≠.defer c)(hd:c6 n o.dst=true)(ha:z6 ds n a fr)(he:execOp (ev fr) o=(do pure (.value (<-s))))
 (h:∃v w' H',s.run P w=.ok v w'/\Own g H' w'/\K v H')
 (k:∀v H' w' a',K v H'->Own g H' w'->z6 ds n a' (bJ fr o.dst v)->wpListIn F 0 P ops Q rest a' w'):wpListIn F 0 P ops Q (o::rest) a w:=by
 refine wpListIn_plain hg λK hK=>⟨λf _=>hF f,?_⟩;rw[Oper.semAt_eq _ _ _ iu,ha.eval,he];obtain⟨v,w',H',hr,ho,hk⟩:=h;simp only[Sem.run_bind,hr,Result.andThen_ok,Sem.run_pure];exact hK _ _ (k v H' w' _ hk ho (ha.put hd _))
theorem Ja{s:Sem zV}{K:zV->Hp->Prop}(hF:∀f,F.fn f)(hg:o.guard=none)(iu:∀c,o.op≠.defer c)(hd:c6 n o.dst=true)(ha:z6 ds n a fr)(hw:Own g H w)(he:execOp (ev fr) o=(do pure (.value (<-s))))
 (h:MF P g o (ev fr) H K (λ_ _=>False))
 (k:∀v H' w' a',K v H'->Own g H' w'->z6 ds n a' (bJ fr o.dst v)->wpListIn F 0 P ops Q rest a' w'):wpListIn F 0 P ops Q (o::rest) a w:=by
 have h1:=rS (mH fr) h w hw;rw[he]at h1;refine DF (g:=g) (K:=K) hF hg iu hd ha he ?_ k;cases hs:s.run P w with
 |ok v w'=>
  simp only[Sem.run_bind,hs,Result.andThen_ok,Sem.run_pure,mq]at h1;obtain⟨H',ho,hk⟩:=h1;exact⟨v,w',H',rfl,ho,hk⟩
 |halt x w'=>
  simp only[Sem.run_bind,hs,Result.andThen]at h1;cases x<;>simp only[mq]at h1;obtain⟨_,_,hk⟩:=h1;exact hk.elim
theorem TH{s:Sem Unit}{K:zV->Hp->Prop}(hF:∀f,F.fn f)(hg:o.guard=none)(iu:∀c,o.op≠.defer c)(hd:c6 n o.dst=true)(ha:z6 ds n a fr)(hw:Own g H w)(he:execOp (ev fr) o=(do s;pure .skip))
 (h:MF P g o (ev fr) H K (λ_ _=>False))
 (k:∀H' w' a',K undef H'->Own g H' w'->z6 ds n a' (bJ fr o.dst undef)->wpListIn F 0 P ops Q rest a' w'):wpListIn F 0 P ops Q (o::rest) a w:=by
 have h1:=rS (mH fr) h w hw;rw[he]at h1;refine wpListIn_plain hg λK hK=>⟨λf _=>hF f,?_⟩;rw[Oper.semAt_eq _ _ _ iu,ha.eval,he];cases hs:s.run P w with
 |ok v w'=>
  simp only[Sem.run_bind,hs,Result.andThen_ok,Sem.run_pure,mq]at h1⊢;obtain⟨H',ho,hk⟩:=h1;exact hK _ _ (k H' w' _ hk ho (ha.put hd _))
 |halt x w'=>
  simp only[Sem.run_bind,hs,Result.andThen]at h1;cases x<;>simp only[mq]at h1;obtain⟨_,_,hk⟩:=h1;exact hk.elim
theorem s9{m:Nat}{args:List zV}(hl:args.length<=m):z6 [] m {tmps:=args.toArray++Array.replicate (m-args.toArray.size) undef,defers:=[]} (eX args 0):=by
 refine⟨rfl,by simp;omega,λs=>?_⟩;rw[j7,xan,xdz];simp only[xcD,xcg,xaS,xdi];by_cases hs:s<args.length
 ·simp[hs,List.getD]
 rw[xad hs,xcL];have:args.getD s undef=undef:=by simp[List.getD,xaF (xcM hs)]
 rw[this];split<;>rfl
theorem Own.putObj{g:Gh}{H H':Hp}{w:World}{b:Nat}{o o':Obj}(h:Own g H w)(u:cT b o o' H H'):Own g H' (w.putObj b o'):=by
 have hb:=h.lt u.mem;exact h.bJ u rfl rfl rfl (World.putObj_heap_same hb) λc hc=>World.putObj_heap_other hc
def ET{α:Type}(P:Program)(f:FuncId)(cap:Array zV)(B:Hp)(enc:α->zV)(N:Nat)(S:List α->Prop):Prop:=
 ∀(g:Gh) (l:Nat) (G:List α->Hp->Prop),
  (∀ss x A X W,G ss A->ss.length<N->Own g (A++X) W->YieldAt Fence.wide 0 P l #[enc x] W (λe W'=>e=.returned (.bool true)/\∃A',G (ss++[x]) A'/\Own g (A'++X) W'))->
  ∀A W,G [] A->Own g (A++B) W->CallsIn Fence.wide 0 P f (#[.func (.yield l) #[] #[]]++cap) W (λe W'=>(∃v,e=.returned v)/\∃ss A',S ss/\G ss A'/\Own g (A'++B) W')
open Classical in
noncomputable def oh(p:Nat->Prop):Nat:=if h:∃k,p k then Classical.choose (ju h)else 0
theorem AP{p:Nat->Prop}{k:Nat}(h:p k):oh p<=k:=by
 unfold oh;rw[xdU ⟨k,h⟩];exact(xcB (ju ⟨k,h⟩)).2 k h
theorem v9{p:Nat->Prop}(h:∃k,p k):p (oh p):=by
 unfold oh;rw[xdU h];exact(xcB (ju h)).1
theorem Al{c:Code}(J:Nat->Act->World->Prop){k:Nat}(h0:J k a w)
 (round:∀k a w,J k a w->c.wpIn F 0 P (Exit.then (λa' w'=>∃k',k'<k/\J k' a' w') Q) a w):(Code.loop c).wpIn F 0 P Q a w:=by
 refine wpIn_loop (λa w=>∃k,J k a w) (λa w=>oh λk=>J k a w) ⟨k,h0⟩ λa w h=>?_;refine Code.wpIn_mono (λe a' w' hq=>?_) (round _ a w (v9 h));cases e with
 |normal=>
  obtain⟨k',hlt,hj⟩:=hq;exact⟨⟨k',hj⟩,xaR (AP hj) hlt⟩
 |_=>exact hq
end
end Go.Sx
set_option maxRecDepth 100000
namespace Go.Proofs
open Go Go.Sx Tryz
section
open aq
section
variable {es:Array MapEntry} {ck b:Nat} {m:List (Nd×Nat)}
theorem E6(B:Hp):Fc zQ 196 #[.map (some b)] B
  (λv H=>∃bm,v=.func (.func 199) #[] #[ptr bm]/\H=(bm,.cells #[.map (some b)] 189 zZ)::B):=by
 refine aS λg=>BH λb1 _=>?_;exact aN.here ⟨b1,rfl,rfl⟩
noncomputable abbrev VF:Func:=Tryz.f199
def VAt(g:Gh)(bi b:Nat)(l:Nat)(es:Array MapEntry)(ck:Nat)(m:List (Nd×Nat))(G:zL->Hp->Prop)(B:Hp)(k:Nat)(a:Act)(w:World):Prop:=
 ∃(fr:Fr) (ss:zL) (A:Hp) (seen:Array Nat),z6 [] 15 a fr/\fr 0=.func (.yield l) #[] #[]/\fr 6=ptr bi/\G ss A/\Own g (A++((bi,.mapIter (some b) ck seen ck)::B)) w/\
  (ss++(cB es m seen).map Prod.snd).Perm (m.map Prod.snd)/\k=(cB es m seen).length
theorem Am{bm:Nat}{fz:Nat×Nat}(h:aM nK Im es ck m):ET zQ 199 #[ptr bm] [(bm,.cells #[.map (some b)] 189 fz),(b,.map es ck)] u32 m.length
  (λss=>ss.Perm (m.map Prod.snd)):=by
 intro g l G hY A W h0 hW;have hF:∀f,Fence.wide.fn f:=λ_=>trivial;refine callsIn_of_wp func199 rfl trivial ?_;have ha:=s9 (m:=15) (args:=[.func (.yield l) #[] #[],ptr bm]) zI;refine wpIn_seq ?_;refine wpIn_region_lit ?_;obtain⟨B,hB⟩:∃B,B=[(bm,Obj.cells #[.map (some b)] 189 fz),(b,.map es ck)]:=⟨_,rfl⟩;rw[<-hB]at hW;have MI:(bm,Obj.cells #[.map (some b)] 189 fz)∈A++B:=by rw[hB];exact xaa _ (.head _)
 have FZ:(b,Obj.map es ck)∈A++B:=by rw[hB];exact xaa _ (.tail _ (.head _))
 have hmB:∀{X:Hp},(b,Obj.map es ck)∈X++B:=by intro X;rw[hB];exact xaa _ (.tail _ (.head _))
 rw[<-hB];have e0:z9 zQ g (bY VF 0 0) (ev (eX [.func (.yield l) #[] #[],ptr bm] 0)) (A++B) (λx=>x=.map (some b))=Ld (A++B) (ptr bm) (λx=>x=.map (some b)):=by kernel_rfl
 refine ie (g:=g) (n:=15) (v0:=.map (some b)) hF rfl zC rfl ha hW (e0.mpr (Ld.mk MI rfl rfl)) λa1 Ei=>?_;refine DF (g:=g) (n:=15) (s:=Instr.range 189 (.map (some b))) (K:=λv H=>∃bi,v=ptr bi/\H=(bi,.mapIter (some b) ck #[] ck)::(A++B)) hF rfl zC rfl Ei rfl
  (Tn.run (.inr ⟨b,es,ck,rfl,FZ,λbi _=>⟨bi,rfl,rfl⟩⟩) hW (t:=189) (kt:=60) (e:=27) zK) λv H' w1 a2 hv gD Ae=>?_
 obtain⟨bi,rfl,rfl⟩:=hv;refine wpListIn_nil ?_;have qZ:Own g (A++((bi,.mapIter (some b) ck #[] ck)::B)) w1:=gD.perm (xa6).symm;clear gD Ei ha hW MI FZ;refine wpIn_block ?_;refine Al (VAt g bi b l es ck m G B) (k:=(cB es m #[]).length) ⟨_,[],A,#[],Ae,rfl,rfl,h0,qZ,by rw[nr h];exact .refl _,rfl⟩ ?_;clear Ae qZ h0 e0 A;rintro k a w ⟨fr,ss,A,seen,ha,f0,f6,hG,hw,fx,hk⟩;refine wpIn_seq ?_;refine wpIn_region_lit ?_;have e6:ev fr (.tmp 6)=ptr bi:=f6;refine DF (g:=g) (n:=15) (s:=Instr.next (ptr bi) false 0)
  (K:=λv H=>(cB es m seen=[]/\v=.tuple #[.bool false]/\H=A++((bi,.mapIter (some b) ck seen ck)::B))\/
   ∃(e:MapEntry) (x:Nd×Nat) (seen':Array Nat),v=.tuple #[.bool true,e.key,e.val]/\e.val=u32 x.2/\(cB es m seen).Perm (x::cB es m seen')/\seen'.back?=some e.born/\es.find? (·.born==e.born)=some e/\
    H=A++((bi,.mapIter (some b) ck seen' ck)::B)) hF rfl zC rfl ha ?_
  (Si.run (h.next (bi:=bi) (bm:=b) (seen:=seen) (H:=A++((bi,.mapIter (some b) ck seen ck)::B)) (xaa _ (.tail _ (by rw[hB];exact .tail _ (.head _)))) (xaa _ (.head _))
   (λe x seen' he hk hv hp hb hf=>⟨_,(cT.head _).bB A,.inr ⟨e,x,seen',rfl,hv,hp,hb,hf,rfl⟩⟩) (λhu=>.inl ⟨hu,rfl,rfl⟩)) hw) λv H' w1 a1 hv gD Ei=>?_
 ·rw[e6.symm];rfl
 rcases hv with⟨hu,rfl,rfl⟩|⟨e,x,seen',rfl,wz,hp,hbk,Ys,rfl⟩
 ·refine ie (g:=g) (n:=15) (v0:=.bool false) hF rfl zC rfl Ei gD ⟨_,_,rfl,rfl,rfl⟩ λa2 Ae=>?_;refine wpListIn_nil ?_;refine wpIn_seq ?_;refine wpIn_cond_false (by rw[Ae.eval];rfl) ?_;refine wpIn_exit ?_;simp only[Exit.then,Exit.inBlock,xa0,bodyPost];refine⟨Ae.defers,_,results_none rfl _ _ _,⟨_,rfl⟩,ss,A,?_,hG,(gD.perm xa6).tail⟩;rw[hu,xcu,xaP]at fx;exact fx
 refine ie (g:=g) (n:=15) (v0:=.bool true) hF rfl zC rfl Ei gD ⟨_,_,rfl,rfl,rfl⟩ λa2 Ae=>?_;refine wpListIn_nil ?_;refine wpIn_seq ?_;refine wpIn_cond_true (by rw[Ae.eval];rfl) ?_;refine wpIn_skip ?_;refine wpIn_block ?_;refine wpIn_seq ?_;refine wpIn_region_lit ?_;refine DF (g:=g) (n:=15) (s:=Instr.entry (ptr bi)) (K:=λv H=>v=.tuple #[e.key,e.val]/\H=A++((bi,.mapIter (some b) ck seen' ck)::B)) hF rfl zC rfl Ae ?_ ?_ λv H' w2 a3 hv qZ F8=>?_
 ·rw[e6.symm];rfl
 ·obtain⟨v,hr,hv⟩:=Il.run (P:=zQ) (k:=λv=>v=.tuple #[e.key,e.val]) ⟨bi,b,ck,seen',e.born,ck,es,e,rfl,xaa _ (.head _),hbk,xaa _ (.tail _ (by rw[hB];exact .tail _ (.head _))),Ys,rfl⟩ gD;exact⟨v,w1,_,hr,gD,hv,rfl⟩
 obtain⟨rfl,rfl⟩:=hv;refine ie (g:=g) (n:=15) (v0:=u32 x.2) hF rfl zC rfl F8 qZ ⟨_,_,rfl,rfl,wz⟩ λa4 Ow=>?_;refine ie (g:=g) (n:=15) (v0:=u32 x.2) hF rfl zC rfl Ow qZ (show u32 x.2=u32 x.2 from rfl) λa5 Ov=>?_;refine wpListIn_nil ?_;refine wpIn_seq ?_;refine wpIn_region_lit ?_;refine ie (g:=g) (n:=15) (v0:=.func (.yield l) #[] #[]) hF rfl zC rfl Ov qZ f0 λa6 Ou=>?_;refine ie (g:=g) (n:=15) (v0:=u32 x.2) hF rfl zC rfl Ou qZ (show u32 x.2=u32 x.2 from rfl) λa7 SZ=>?_;have hlen:(cB es m seen).length=(cB es m seen').length+1:=by rw[hp.length_eq];rfl
 have hlt:ss.length<m.length:=by
  have:=fx.length_eq;simp only[xai,xaz]at this⊢;omega
 obtain⟨fn,tmps,assign,body,hy,hR⟩:=hY _ x.2 A _ w2 hG hlt qZ;refine wpListIn_plain rfl λK hK=>⟨λ_ _=>trivial,?_⟩;rw[Oper.semAt_eq _ _ _ zC,SZ.eval];have hex:∀F7:Fr,F7=bJ (bJ (bJ (bJ (bJ (bJ (bJ fr (some 7) (.tuple #[.bool true,e.key,e.val])) (some 8) (.bool true)) (some 9) (.tuple #[e.key,e.val])) (some 10) (u32 x.2)) (some 4) (u32 x.2)) (some 11) (.func (.yield l) #[] #[])) (some 12) (u32 x.2)->(execOp (ev F7) (bY VF 3 2)).run zQ w2=.ok (.round l fn tmps assign body) w2:=λF7 hF7=>by
  have v11:ev F7 (.tmp 11)=.func (.yield l) #[] #[]:=by rw[hF7];rfl
  have Tx:ev F7 (.tmp 12)=u32 x.2:=by rw[hF7];rfl
  have e11:execOp (ev F7) (bY VF 3 2)=(do let d <-resolve (ev F7) {callee:=.value (.tmp 11),args:=#[.tmp 12],argTypes:=#[27]} 4;invoke d.target d.args):=rfl;rw[e11];simp[resolve,Deferred.ofValue,v11,Tx,invoke,go_sem,hy]
 refine(xbL (Oper.uponIn Fence.wide 0 zQ (bY VF 3 2) a7 K _) (hex _ rfl)).mpr ⟨λh=>(by cases h),hR.mono ?_⟩;rintro e' w3 ⟨rfl,A',R3,NX⟩;refine hK _ _ ?_;have ha8:=SZ.put (d:=some 13) rfl (.bool true);refine ie (g:=g) (n:=15) (v0:=.bool false) hF rfl zC rfl ha8 NX ⟨_,rfl,rfl⟩ λa9 ha9=>?_;refine wpListIn_nil ?_;refine wpIn_cond_false (by rw[ha9.eval];rfl) ?_;refine wpIn_skip ?_;refine⟨(cB es m seen').length,by omega,_,ss++[x.2],A',seen',ha9,f0,f6,R3,NX,?_,rfl⟩;rw[xaj];exact((hp.map Prod.snd).append_left ss).symm.trans fx
end
end
section
open aq
section
noncomputable abbrev AF:Func:=Tryz.f200
variable {f:FuncId} {cap:Array zV} {B:Hp} {N:Nat} {S:zL->Prop}
noncomputable def cJ:Code:=match AF.body with|some (.seq _ (.seq (.seq _ (.block _ (.rangeFunc _ _ c _))) _))=>c|_=>.skip
noncomputable def ew:Code:=match AF.body with|some (.seq _ (.seq (.seq _ (.block _ (.rangeFunc _ _ _ c))) _))=>c|_=>.skip
noncomputable def Pb(i:Nat):Oper:=match ew with| .block _ (.region _ ops _)=>(match ops[i]? with|some o=>o|none=>default)|_=>default
def jH(fn:FuncId)(tmps:Array zV)(assign body:Code)(D:Nat):Loop:={state:=.ready,pending:=none,fn,tmps,params:=#[7],assign,body,defers:=D}
def ZO(l D bs:Nat)(fn:FuncId)(tmps:Array zV)(assign body:Code)(ss:zL)(A:Hp):Prop:=
 ∃v C',A=(l,.loop (jH fn tmps assign body D))::(D,.deferred (some []))::(bs,.cells #[v] 37 zZ)::C'/\aL 27 .u32 v (iw ss) C'
theorem Mb{g:Gh}{l D bs:Nat}{fn:FuncId}{tmps:Array zV}{fr:Fr}(hsz:tmps.size=13)(fM:∀s,tmps.getD s undef=fr s)(f2:fr 2=ptr bs){ss:zL}{x:Nat}{A X:Hp}{W:World}
 (hG:ZO l D bs fn tmps cJ ew ss A)(hl:ss.length<1099511627776)(hW:Own g (A++X) W):
  YieldAt Fence.wide 0 zQ l #[u32 x] W (λe W'=>e=.returned (.bool true)/\∃A',ZO l D bs fn tmps cJ ew (ss++[x]) A'/\Own g (A'++X) W'):=by
 obtain⟨v,C',rfl,ho⟩:=hG;have hF:∀f,(Fence.wide.inRound l).fn f:=λ_=>trivial;have hL:W.heap[l]? =some (.loop (jH fn tmps cJ ew D)):=hW.has _ (.head _);refine⟨fn,_,cJ,ew,run_yield hL rfl,roundIn_of_wpIn trivial ?_⟩;have ha:z6 [] 13 {tmps:=tmps.setIfInBounds 7 (u32 x),defers:=[]} (bJ fr (some 7) (u32 x)):=(z6.put (a:={tmps:=tmps,defers:=[]}) (d:=some 7) ⟨rfl,hsz,fM⟩ rfl (u32 x));have ha:z6 [] 13 {tmps:=(#[7].zip #[u32 x]).foldl (λtmps (t,a)=>tmps.setIfInBounds t a) tmps,defers:=[]} (bJ fr (some 7) (u32 x)):=by simpa using ha
 change Code.wpIn _ 0 zQ (.region _ #[_] false) _ _ _;refine wpIn_region_lit ?_;refine ie (g:=g) (n:=13) (v0:=u32 x) hF rfl zC rfl ha hW rfl λa1 Ei=>?_;refine wpListIn_nil ?_;have hbr:=run_beginRound (P:=zQ) hL rfl;refine⟨_,hbr,?_⟩;have Qb:=hW.putObj (o':=.loop {jH fn tmps cJ ew D with state:=.busy}) (.head _);change Code.wpIn _ 0 zQ (.block _ (.region _ #[_,_,_,_,_] false)) _ _ _;refine wpIn_block ?_;refine wpIn_region_lit ?_;obtain⟨H1,Zb⟩:∃H1,H1=(l,Obj.loop {jH fn tmps cJ ew D with state:=.busy})::(((D,.deferred (some []))::(bs,.cells #[v] 37 zZ)::C')++X):=⟨_,rfl⟩
 replace Qb:Own g H1 (W.putObj l (.loop {jH fn tmps cJ ew D with state:=.busy})):=by rw[Zb];exact Qb
 have e0:z9 zQ g (Pb 0) (ev (bJ (bJ fr (some 7) (u32 x)) (some 5) (u32 x))) H1 (λz=>z=v)=Ld H1 (fr 2) (λz=>z=v):=by kernel_rfl
 refine ie (g:=g) (n:=13) (v0:=v) hF rfl zC rfl Ei Qb (e0.mpr (by rw[f2];exact Ld.mk (by rw[Zb];exact .tail _ (.tail _ (.head _))) rfl rfl)) λa2 Ae=>?_;refine ie (g:=g) (n:=13) (v0:=u32 x) hF rfl zC rfl Ae Qb rfl λa3 F8=>?_;have eb:∀K:zV->Hp->Prop,ai zQ 37 1 [(0,.int .u32 (x:Int))] H1 K=MF zQ g (Pb 2) (ev (bJ (bJ (bJ (bJ fr (some 7) (u32 x)) (some 5) (u32 x)) (some 8) v) (some 9) (u32 x))) H1 K (λ_ _=>False):=λK=>by kernel_rfl
 refine Ja (g:=g) (n:=13) (s:=_) (K:=λv H=>∃b,v=.slice (some ⟨b,0,none⟩) 1 1/\H=(b,.cells (au .u32 [(x:Int)]) 27 zZ)::H1) hF rfl zC rfl F8 Qb rfl
  ((eb _).mp (ai.int zK zK zK λb=>⟨b,rfl,rfl⟩)) λv1 H2 w2 a4 hv U9 Ow=>?_
 obtain⟨b,rfl,rfl⟩:=hv;have hn:(iw ss).length=ss.length:=ag ss;obtain⟨H2,hH2⟩:∃H2,H2=(b,Obj.cells (au .u32 [(x:Int)]) 27 zZ)::H1:=⟨_,rfl⟩;rw[<-hH2]at U9;refine Ja (g:=g) (n:=13) (s:=_) (K:=λv' H=>∃C2,aL 27 .u32 v' (iw (ss++[x])) C2/\H=(b,Obj.cells (au .u32 [(x:Int)]) 27 zZ)::(l,Obj.loop {jH fn tmps cJ ew D with state:=.busy})::(D,.deferred (some []))::(bs,.cells #[v] 37 zZ)::(C2++X))
  hF rfl zC rfl Ow U9 (by simp only[execOp,resolve,invoke,builtin];simp[bind,Sem.bind];rfl) ?_ λv2 H3 w3 a5 hv Ox Ov=>?_
 ·have e1:∀K:zV->Hp->Prop,App zQ 27 1 4 (.int .u32 0) H2 v (.slice (some ⟨b,0,none⟩) 1 1) K=
   MF zQ g (Pb 3) (ev (bJ (bJ (bJ (bJ (bJ fr (some 7) (u32 x)) (some 5) (u32 x)) (some 8) v) (some 9) (u32 x)) (some 10) (.slice (some ⟨b,0,none⟩) 1 1))) H2 K (λ_ _=>False):=λK=>by kernel_rfl
  refine(e1 _).mp ?_;rw[hH2,Zb];refine ho.kx (.cons (.cons (.cons (.cons .left)))) (by exact .head _) zO zO λv' C2 yo=>⟨C2,?_,rfl⟩;rw[bV];exact yo
 obtain⟨C2,yo,rfl⟩:=hv;have es:∀(H:Hp) (K:zV->Hp->Prop),St 1 H (fr 2) v2 (λH'=>K undef H')=MF zQ g (Pb 4) (ev (bJ (bJ (bJ (bJ (bJ (bJ fr (some 7) (u32 x)) (some 5) (u32 x)) (some 8) v) (some 9) (u32 x)) (some 10) (.slice (some ⟨b,0,none⟩) 1 1)) (some 11) v2)) H K (λ_ _=>False):=λH K=>by kernel_rfl
 refine TH (g:=g) (n:=13) (s:=_) (K:=λ_ H=>H=(b,Obj.cells (au .u32 [(x:Int)]) 27 zZ)::(l,Obj.loop {jH fn tmps cJ ew D with state:=.busy})::(D,.deferred (some []))::(bs,.cells #[v2] 37 zZ)::(C2++X))
  hF rfl zC rfl Ov Ox rfl ((es _ _).mp ?_) λH4 w4 a6 hv Ww Ou=>?_
 ·rw[f2];exact St.one (.tail (.tail (.tail (.head _)))) yo.one zI rfl rfl
 subst hv;refine wpListIn_nil ?_;simp only[Exit.inBlock,roundPost];refine⟨_,_,run_endRound none (Ww.has _ (.tail _ (.head _))),rfl,_,⟨v2,C2,rfl,yo⟩,?_⟩;exact(Ww.putObj (.tail (.head _))).tail
theorem GG(hg:ET zQ f cap B u32 N S)(hc:bg zQ f=true)(hN:N<=1099511627776):
  Fc zQ 200 #[.slice none 0 0,.func (.func f) #[] cap] B (λv H=>∃ss C',S ss/\H=C'++B/\aL 27 .u32 v (iw ss) C'):=by
 intro g w hw;rw[<-callsIn_wide (n:=0)];have hF:∀f,Fence.wide.fn f:=λ_=>trivial;refine callsIn_of_wp_marks func200 rfl trivial ?_;have ha:=s9 (m:=13) (args:=[.slice none 0 0,.func (.func f) #[] cap]) zI;refine wpIn_seq ?_;refine wpIn_region_lit ?_;refine Ja (g:=g) (n:=13) (s:=_) (K:=λv H=>∃bs,v=ptr bs/\H=(bs,.cells #[.slice none 0 0] 37 zZ)::B) hF rfl zC rfl ha hw rfl (λbs _=>⟨bs,rfl,rfl⟩) λv H1 w1 a1 hv gD Ei=>?_;obtain⟨bs,rfl,rfl⟩:=hv;refine ie (g:=g) (n:=13) (v0:=.slice none 0 0) hF rfl zC rfl Ei gD rfl λa2 Ae=>?_;refine wpListIn_nil ?_;refine wpIn_seq ?_;refine wpIn_seq ?_;refine wpIn_region_lit ?_;refine ie (g:=g) (n:=13) (v0:=.func (.func f) #[] cap) hF rfl zC rfl Ae gD rfl λa3 F8=>?_;refine wpListIn_nil ?_;refine wpIn_block ?_;refine wpIn_rangeFunc λfn hfn=>?_;have Ec:=(gD.alloc (.deferred (some []))).alloc (.loop (jH fn a3.tmps cJ ew w1.heap.size));have f6:a3.tmps[6]?.getD undef=.func (.func f) #[] cap:=by have:=F8.get 6;rw[xan]at this;exact this
 obtain⟨W1,Qb⟩:∃W1,W1=(w1.alloc (.deferred (some []))).alloc (.loop (jH fn a3.tmps cJ ew w1.heap.size)):=⟨_,rfl⟩;rw[<-Qb]at Ec;refine⟨w1.heap.size+1,[{target:=.collected w1.heap.size,args:=#[]}],W1,{target:=.fn (.func f) cap,args:=#[.func (.yield (w1.heap.size+1)) #[] #[]]},W1,f,#[.func (.yield (w1.heap.size+1)) #[] #[]]++cap,W1,?_,?_,λ_ _=>trivial,?_,λh=>(by cases h),?_⟩
 ·rw[Qb];exact run_enterLoop_outer fn a3.tmps #[7] _ _
 ·simp[resolve,Deferred.ofValue,f6,go_sem]
 ·simp[invoke,go_sem];exact dn hc _ _
 have hsz:(w1.alloc (.deferred (some []))).heap.size=w1.heap.size+1:=by simp
 rw[hsz]at Ec;refine CallsIn.mono (hg g (w1.heap.size+1) (ZO (w1.heap.size+1) w1.heap.size bs fn a3.tmps cJ ew) (λss x A X W hG hl hW=>Mb F8.size F8.get rfl hG zO hW) [_,_,_] W1 ⟨_,[],rfl,aL.nil⟩ Ec) ?_;rintro e W2 ⟨⟨v0,rfl⟩,ss,A',hS,⟨v,C',rfl,ho⟩,U9⟩;refine⟨none,_,run_endLoop (U9.has _ (.head _)) (by simp[jH]),?_⟩;have Ox:=U9.putObj (o':=.loop {jH fn a3.tmps cJ ew w1.heap.size with state:=.exhausted}) (.head _);simp only[Exit.then,Exit.inBlock];have Ow:z6 [{target:=.collected w1.heap.size,args:=#[]}] 13 {a3 with defers:=[{target:=.collected w1.heap.size,args:=#[]}]++a3.defers} (bJ (bJ (bJ (eX [.slice none 0 0,.func (.func f) #[] cap] 0) (some 2) (ptr bs)) (some 4) (.slice none 0 0)) (some 6) (.func (.func f) #[] cap)):=
  ⟨by rw[F8.defers];rfl,F8.size,F8.get⟩
 refine wpIn_seq ?_;refine wpIn_region_lit ?_;obtain⟨H3,Za⟩:∃H3,H3=(w1.heap.size+1,Obj.loop {jH fn a3.tmps cJ ew w1.heap.size with state:=.exhausted})::(((w1.heap.size,.deferred (some []))::(bs,.cells #[v] 37 zZ)::C')++B):=⟨_,rfl⟩
 replace Ox:Own g H3 (W2.putObj (w1.heap.size+1) (.loop {jH fn a3.tmps cJ ew w1.heap.size with state:=.exhausted})):=by rw[Za];exact Ox
 have e0:z9 zQ g (bY AF 4 0) (ev (bJ (bJ (bJ (eX [.slice none 0 0,.func (.func f) #[] cap] 0) (some 2) (ptr bs)) (some 4) (.slice none 0 0)) (some 6) (.func (.func f) #[] cap))) H3 (λz=>z=v)=Ld H3 (ptr bs) (λz=>z=v):=by kernel_rfl
 refine ie (g:=g) (n:=13) (v0:=v) hF rfl zC rfl Ow Ox (e0.mpr (Ld.mk (by rw[Za];exact .tail _ (.tail _ (.head _))) rfl rfl)) λa5 Ov=>?_;refine ie (g:=g) (n:=13) (v0:=v) hF rfl zC rfl Ov Ox rfl λa6 Ou=>?_;refine wpListIn_nil ?_;refine wpIn_ret ?_;simp only[Exit.then,bodyPostM];rw[Ou.defers];rw[Za]at Ox;refine⟨by simp,.inl ⟨w1.heap.size,_,rfl,run_takeDeferred (Ox.has _ (.tail _ (.head _))),?_⟩⟩;have Ww:=Ox.putObj (o':=.deferred none) (.tail (.head _));refine⟨_,results_tmp rfl _ _ _,C'++B,Ww.tail.tail.tail,v,C'++B,?_,.refl _,ss,C',hS,rfl,ho⟩;have:=Ou.get 4;rw[this];rfl
end
section
variable {f:FuncId} {cap:Array zV} {B:Hp} {N:Nat} {S:zL->Prop}
theorem Bf(hg:ET zQ f cap B u32 N S)(hc:bg zQ f=true)(hN:N<=1099511627776):
  Fc zQ 197 #[.func (.func f) #[] cap] B (λv H=>∃ss C',S ss/\H=C'++B/\aL 27 .u32 v (iw ss) C'):=by
 refine aS λg=>BG (aa.fq (GG hg hc hN) ?_);rintro v H h;exact aN.here h
theorem Fg(hg:ET zQ f cap B u32 N S)(hS:∀ss,S ss->ss.length<=N)(hc:bg zQ f=true)(hN:N<=1099511627776):
  Fc zQ 195 #[.func (.func f) #[] cap] B (λv H=>∃ss l C',S ss/\l.Perm ss/\H=C'++B/\aL 27 .u32 v (iw l) C'):=by
 refine aS λg=>BI (aa.fq (Bf hg hc hN) ?_);rintro v H ⟨ss,C',hs,rfl,ho⟩;have hlen:=hS ss hs;refine aa.fn (.left (A:=B)) (Nk ho (by rw[ag];omega)) ?_;rintro w C2 ⟨rfl,cg⟩;rw[Ni]at cg;exact aN.here ⟨ss,_,C2,hs,ur ss,rfl,cg⟩
end
theorem Ns{pt n v:Nat}{T:Nd->Option Nat}{C:Hp}(h:nh pt n T C)(hv:v<n)(hinj:∀d d' r,T d=some r->T d'=some r->d=d')(hb:∀d r,T d=some r->r<1048576):
  Fc zQ 188 #[ptr pt,iv (v:Int)] C (λr H=>∃w l N,r=.tuple #[w,iv 0]/\H=N++C/\aL 27 .u32 w (iw l) N/\l.Nodup/\∀r,r∈l↔∃d,T d=some r/\d.v=v):=by
 have h0:=h;obtain⟨vs,Cs,ms,rfl,hs,ho⟩:=h;obtain⟨m,hm⟩:∃m,ms[v]? =some m:=⟨_,xab (by rw[ho.len];exact hv)⟩;have he:=ho.cS v m hm;have hT:∀d:Nd,d.v=v->T d=c8 m.l d:=λd hd=>by rw[ho.T,hd,hm];rfl
 have hmem:∀d r,(d,r)∈m.l↔T d=some r/\d.v=v:=λd r=>by
  constructor
  ·intro hx;have hd:=ho.var v m hm _ hx;exact⟨by rw[hT d hd];exact(fo he.nd).2 hx,hd⟩
  rintro⟨h1,h2⟩;rw[hT d h2]at h1;exact(fo he.nd).1 h1
 have iu:(m.l.map Prod.snd).Nodup:=by
  refine xb2.2 ((xb2.1 he.nd).imp_of_mem λ{a b} ha hb' hne e=>hne ?_);have h1:=((hmem a.1 a.2).1 ha).1;have h2:=((hmem b.1 b.2).1 hb').1;rw[<-e]at h2;exact hinj _ _ _ h1 h2
 have hlen:m.l.length<=1048576:=by
  have:=bG (l':=List.range 1048576) iu λx hx=>by
   obtain⟨y,hy,rfl⟩:=xaq.1 hx;exact xaV.2 (hb _ _ ((hmem y.1 y.2).1 hy).1)
  simpa using this
 refine aS λg=>BO (aa.eq (mr h0 hv) (ae.dz (Br.F (Nil.ptr ?_))));refine ah.mk (Ld.mk zM rfl ?_);refine hs.Q9 (x:=.map (some m.b)) (by rw[xat,hm];rfl) (λ_ h=>by exact .tail _ (xac _ h)) ?_;refine aa.fq (E6 (b:=m.b) _) ?_;rintro w H ⟨bm,rfl,rfl⟩;obtain⟨X,Y,hXY⟩:=xcT (qY hm);have fx:((bm,Obj.cells #[.map (some m.b)] 189 zZ)::(pt,.cells #[vs] 188 zZ)::(Cs++FG ms)).Perm
   ([(bm,.cells #[.map (some m.b)] 189 zZ),(m.b,.map m.es m.ck)]++((pt,.cells #[vs] 188 zZ)::(Cs++(X++Y)))):=by
  rw[hXY];refine .cons _ ?_;show((pt,_)::(Cs++(X++(m.b,_)::Y))).Perm ((m.b,_)::(pt,_)::(Cs++(X++Y)));refine .trans (.cons _ ?_) (.swap _ _ _);rw[<-xaj,<-xaj];exact xa6
 refine aa.pre (.perm fx) ?_;refine aa.fq (Fg (Am he) (λss XM=>by rw[XM.length_eq,xaz];exact xak _) zK zO) ?_;rintro w H ⟨ss,l,C',XM,hl,rfl,hown⟩;have qp:l.Perm (m.l.map Prod.snd):=hl.trans XM;refine aN.mk (gp:=C'++((pt,.cells #[vs] 188 zZ)::(Cs++FG ms))) ?_ ⟨w,l,C',rfl,rfl,hown,qp.nodup_iff.2 iu,λr=>?_⟩
 ·rw[xaj];refine aG.cM ?_ C';exact(aG.perm fx.symm).trans .tail
 rw[qp.mem_iff,xaq];constructor
 ·rintro⟨y,hy,rfl⟩;exact⟨y.1,(hmem y.1 y.2).1 hy⟩
 rintro⟨d,hd⟩;exact⟨(d,r),(hmem d r).2 hd,rfl⟩
end
end Go.Proofs
namespace Go.Sx
open Go
section
variable {P:Program} {g:Gh} {H:Hp} {κ β:Type} [DecidableEq κ] {ke:κ->zV} {vr:zV->β->Prop} {es:Array MapEntry} {ck b:Nat} {m:List (κ×β)} {K:zV->Hp->Prop} {KP:List PanicEntry->Hp->Prop}
omit [DecidableEq κ] in
theorem aM.sameKey(h:aM ke vr es ck m){i:Nat}{k:κ}{x:β}(hi:m[i]? =some (k,x)):es.modify i (λe=>{e with key:=ke k})=es:=by
 apply Array.ext_getElem?;intro j;rw[xbs];split
 ·rename_i e;subst e;cases he:es[i]? with
  |none=>rfl
  |some e0=>rw[xbn,<-(h.key i e0 _ he hi).1]
 ·rfl
theorem aM.OU{o:Oper}{ρ:Operand->zV}{t kt e:TypeId}{kd:TypeDesc}{mo ko:Operand}{z:zV}{k:κ}{y0:β}(hk:∀a b,zz P kt (ke a) (ke b) (decide (a=b)))(hc:∀a,kP P kt (ke a))(hb:∀a,Instr.sameBits 10000 (ke a) (ke a)=true)
 (ho:o.op=.mapEntry t mo ko)(hm':ρ mo=.map (some b))(hk':ρ ko=ke k)(ht:P.underlying t=some (.map kt e))(yw:P.underlying kt=some kd)(U6:ct kd=true)(hzd:dG P e=some z)(hvz:vr z y0)
 (h:aM ke vr es ck m){c:Obj->Hp}(KI:∀o o',cT b o o' (c o) (c o'))
 (h1:∀es' cm v st,aM ke vr es' cm (if k∈m.map Prod.fst then m else m++[(k,y0)])->(∃e∈es'.toList,e.born=st)->K (.tuple #[v,.int .i64 (st:Int)]) (c (.map es' cm))):dF P g o ρ (c (.map es ck)) K KP:=by
 have tS:(b,Obj.map es ck)∈c (.map es ck):=(KI _ (.map es ck)).mem;obtain⟨i,hi,tT⟩:=cz hzd;refine dF.ofValue (s:=Instr.mapEntry t (.map (some b)) (ke k)) (by simp only[execOp,ho,hm',hk']) λw hw=>?_;have dX:=λb=>hc k b w;rcases h.yU hk k with⟨j,x,e0,g1,g2,g3,g4⟩|⟨g1,g2⟩
 ·have oz:=fm (P:=P) yw U6 g4 w;have hj:=(xaJ.1 g1).1;have hkey:es[j].key=ke k:=(h.key j _ _ (xbm hj) g2).1;have hmem:k∈m.map Prod.fst:=xaq.2 ⟨_,xax g2,rfl⟩;obtain⟨w',hs,hown⟩:=bC (P:=P) hw (es.modify j λe=>{e with key:=ke k}) ck (by rw[h.sameKey g2];exact KI _ (.map es ck));refine⟨.tuple #[e0.val,.int .i64 (es[j].born:Int)],w',_,?_,hown,h1 es ck e0.val es[j].born (by rw[xae hmem];exact h) ⟨es[j],by simp,rfl⟩⟩;simp[Instr.mapEntry,run_underlying ht,aP hw tS,dX,oz,hj,Instr.keyThatStays,hkey,hb k,hs,goInt]
 have oz:=fm (P:=P) yw U6 g2 w;obtain⟨w',hs,hown⟩:=bC (P:=P) hw (es.push {key:=ke k,val:=z,born:=ck}) (ck+1) (KI _ _);have FZ:=h.more (k:=k) g1 hvz;have e2:gf m k y0=m++[(k,y0)]:=by unfold gf;rw[xad g1]
 rw[e2]at FZ;refine⟨.tuple #[z,.int .i64 (ck:Int)],w',_,?_,hown,h1 _ _ z ck (by rw[xad g1];exact FZ) ⟨_,by rw[xdR];exact xaa _ (.head _),rfl⟩⟩;simp[Instr.mapEntry,run_underlying ht,aP hw tS,dX,oz,dw hi tT,hs,goInt]
omit [DecidableEq κ] in
theorem aM.Nh{o:Oper}{ρ:Operand->zV}{t:TypeId}{mo so xo:Operand}{st:Nat}(ho:o.op=.entryStore t mo so xo)(hm':ρ mo=.map (some b))(hs':ρ so=.int .i64 (st:Int))
 (h:aM ke vr es ck m)(hst:∃e∈es.toList,e.born=st)(hv:∀x,vr (ρ xo) x){c:Obj->Hp}(KI:∀o o',cT b o o' (c o) (c o'))
 (h1:∀es',aM ke vr es' ck m->K undef (c (.map es' ck))):dF P g o ρ (c (.map es ck)) K KP:=by
 have tS:(b,Obj.map es ck)∈c (.map es ck):=(KI _ (.map es ck)).mem;refine dF.pB (s:=Instr.entryStore t (.map (some b)) (.int .i64 (st:Int)) (ρ xo)) (by simp only[execOp,ho,hm',hs']) λw hw=>?_;obtain⟨i,hi⟩:∃i,es.findIdx? (λe=>(e.born:Int)==(st:Int))=some i:=by
  obtain⟨e,he,rfl⟩:=hst;rw[<-xdk,Array.findIdx?_isSome];rw[Array.any_eq_true'];exact⟨e,by simpa using he,by simp⟩
 obtain⟨w',hs,hown⟩:=bC (P:=P) hw (es.modify i λe=>{e with val:=ρ xo}) ck (KI _ _);have SV:((es.modify i λe=>{e with val:=ρ xo}).toList.map MapEntry.born)=es.toList.map MapEntry.born:=by
  apply xbo;intro j;simp only[xat,xba,xbs];split
  ·cases es[j]? <;>rfl
  rfl
 refine⟨w',_,?_,hown,h1 _ ⟨by simp[h.len],λj e x he hx=>?_,h.nd,by rw[SV];exact h.born,λe he=>?_⟩⟩
 ·simp only[Instr.entryStore,Sem.run_bind,aP hw tS,Result.andThen_ok,asInt,asIntOf,Sem.run_pure];simp only[hi,hs]
 ·rw[xbs]at he;split at he
  ·cases h0:es[j]? with
   |none=>rw[h0]at he;simp at he
   |some e0=>
    rw[h0]at he;simp only[xbn,xap]at he;subst he;exact⟨(h.key j _ _ h0 hx).1,hv _⟩
  exact h.key j _ _ he hx
 have:e.born∈(es.modify i λe=>{e with val:=ρ xo}).toList.map MapEntry.born:=xbf he;rw[SV]at this;obtain⟨e0,h1,h2⟩:=xaq.1 this;rw[<-h2];exact h.lt e0 h1
end
theorem aU.out{C H:Hp}{c:Hp->Hp}(h:aU C H c)(N:Hp):aG (c (N++C)) (N++H):=by
 obtain⟨e,F,hp⟩:=h.spec;refine .perm ((hp (N++C)).trans ?_);rw[xaj];refine xbH N ?_;have:=hp C;rw[<-e]at this;exact this.symm
end Go.Sx
set_option maxRecDepth 100000
namespace Go.Proofs
open Go Go.Sx Tryz
section
open aq
section
variable {kp:Nat} {K:Kd} {ord af tr:zL} {C:Hp} {S:Nat->aq.Fn}
def wW(N:dA)(r:Nat):Int:=match N r with|some d=>(d.v:Int)|none=> -1
theorem yI{N:dA}{r:Nat}(hl:live N r)(h2:∀d,N r=some d->2<=r):∃lo hi,got N r=[iv (wW N r),u32 lo,u32 hi]/\∀e,N r=some e->lo=e.lo/\hi=e.hi:=by
 cases h:N r with
 |some d=>
  refine⟨d.lo,d.hi,?_,λe he=>by cases he;exact⟨rfl,rfl⟩⟩;rw[de h (h2 d h)];simp[aY,wW,h]
 |none=>
  have hr:r<2:=by
   rcases hl with hl|⟨d,hd⟩
   ·exact hl
   rw[h]at hd;cases hd
  refine⟨r,r,?_,λe he=>by cases he⟩;rw[dY hr];simp[wW,h]
theorem xK(h:cv kp K ord af tr C){r:Nat}(hr:r<4294967296)(hl:live K.N r)(h2:∀d,K.N r=some d->2<=r)(y:Nat):
  Rd zQ 189 #[ptr kp,u32 r,iv (y:Int)] C (· =.tuple #[u32 (pl K.N y r),u32 (ph K.N y r)]):=by
 have h0:=h;obtain⟨b,rfl,hO⟩:=h;obtain⟨lo,hi,hg,he⟩:=yI hl h2;refine aS λg=>BN (Nil.ptr (ah.mk (aa.eq (lF h0 hr) ?_)));intro b5 _;refine St.whole (r:=got K.N r) (by exact .head _) rfl (aF _ _).1 (aF _ _).2 ?_;rw[hg];refine Ld.f ?_;refine ae.kH (Br.dec (λe=>?_) (λe=>?_))
 ·refine Ld.f ?_;refine Ld.f ?_;cases hN:K.N r with
  |none=>simp[wW,hN]at e<;>omega
  |some d=>
   obtain⟨rfl,rfl⟩:=he d hN;have hv:d.v=y:=by simp[wW,hN]at e;omega
   obtain⟨e1,e2⟩:=Nv hN hv;exact bX.mk .tail (by rw[e1,e2];rfl)
 obtain⟨e1,e2⟩:=Nw (N:=K.N) (y:=y) (r:=r) λd hd=>by simp[wW,hd]at e<;>omega
 exact bX.mk .tail (by rw[e1,e2])
def jL(c:Cx):List zV:=[u32 c.r,iv (c.d.v:Int),u32 c.d.lo,u32 c.d.hi,u32 c.ud,u32 c.uc,u32 c.qy,u32 c.qx]
theorem jG(c:Cx):∀x∈jL c,x.oneCell'=true:=by intro x hx;simp[jL,u32]at hx;rcases hx with rfl|rfl|rfl|rfl|rfl|rfl|rfl|rfl<;>rfl
structure uj(N:dA)(x y:Nat)(l:zL)(all:List Cx):Prop where
 nd:(all.map Cx.r).Nodup
 mem:∀c,c∈all↔c.r∈l/\kj N x y c.r c.d/\c=lZ N y c.r c.d
theorem uj.skip{N:dA}{x y r:Nat}{l:zL}{all:List Cx}{d:Nd}(h:uj N x y l all)(hd:N r=some d)(hn:¬kj N x y r d):uj N x y (l++[r]) all where
 nd:=h.nd
 mem:=λc=>by
  rw[h.mem,xal];constructor
  ·rintro⟨h1,h2⟩;exact⟨.inl h1,h2⟩
  rintro⟨h1|h1,h2,h3⟩
  ·exact⟨h1,h2,h3⟩
  simp at h1;have:=h2.1;rw[h1,hd]at this;cases this;rw[h1]at h2;exact absurd h2 hn
theorem uj.more{N:dA}{x y r:Nat}{l:zL}{all:List Cx}{d:Nd}(h:uj N x y l all)(hr:r∉l)(hn:kj N x y r d):uj N x y (l++[r]) (all++[lZ N y r d]) where
 nd:=by
  rw[xaG];refine xbb.2 ⟨h.nd,by simp,λa ha b hb e=>?_⟩;simp[lZ]at hb;subst e;obtain⟨c,hc,rfl⟩:=xaq.1 ha;exact hr (hb▸((h.mem c).1 hc).1)
 mem:=λc=>by
  rw[xal,h.mem,xal,xaL,xaL];constructor
  ·rintro(⟨h1,h2⟩|rfl)
   ·exact⟨.inl h1,h2⟩
   exact⟨.inr rfl,hn,rfl⟩
  rintro⟨h1|h1,h2,h3⟩
  ·exact .inl ⟨h1,h2,h3⟩
  right;have h4:=h2.1;rw[h1,hn.1]at h4;cases h4;exact h3.trans (by rw[h1])
theorem uj.all{N:dA}{x y:Nat}{l:zL}{all:List Cx}(h:uj N x y l all)(hl:∀r d,N r=some d->d.v=x->r∈l):EV N x y all where
 nd:=h.nd
 mem:=λc=>by
  rw[h.mem];exact⟨λh=>h.2,λh=>⟨hl _ _ h.1.1 h.1.2.1,h⟩⟩
theorem vV(h:cv kp K ord af tr C){r:Nat}(hl:live K.N r)(h2:∀d,K.N r=some d->2<=r){H:Hp}{c:Hp->Hp}(hh:aU C H c){g:Gh}{Q:zV->Hp->Prop}{KP:List PanicEntry->Hp->Prop}
 (hk:∀lo hi,got K.N r=[iv (wW K.N r),u32 lo,u32 hi]->(∀e,K.N r=some e->lo=e.lo/\hi=e.hi)->Q (.agg #[iv (wW K.N r),u32 lo,u32 hi]) H):aa zQ g 45 #[ptr kp,u32 r] H Q KP:=by
 have hr:=h.lt hl;obtain⟨lo,hi,hg,he⟩:=yI hl h2;refine aa.eh hh (lF h zO) ?_;have:=hk lo hi hg he;rw[hg];exact this
theorem wK(h:cv kp K ord af tr C)(hok:Ok K S (lv af)){x y:Nat}(hx:x<K.n):
  Fc zQ 160 #[ptr kp,iv (x:Int),iv (y:Int)] C (λr H=>∃all Na,H=Na++C/\aH 248 8 r (all.map jL) Na/\EV K.N x y all/\all.length<=1048576):=by
 have hcap:=h.cap;have h0:=h;obtain⟨b,hC,hO⟩:=h;have N7:∀d r,K.T d=some r↔K.N r=some d:=λd r=>by rw[hok.mid.iG];exact⟨λh=>h.1,λh=>⟨h,λx=>x⟩⟩
 have two:∀{r d},K.N r=some d->2<=r:=λhd=>(hok.mid.two hd).1;refine aS λg=>Ce ?_;rw[hC];refine Nil.ptr (ah.mk (ah.mk (Ld.q ?_)));refine aa.fq (Ns hO.ut hx (λd d' r h1 h2=>by rw[N7]at h1 h2;rw[h1]at h2;cases h2;rfl) (λd r h1=>by have:=(hok.mid.two ((N7 d r).1 h1)).2;omega)) ?_;rintro w H ⟨sl,l,Nr,rfl,rfl,AX,iu,hmem⟩;refine Ext.two (AX.bH ?_);rw[ag];have hl:∀r∈l,∃d,K.N r=some d/\d.v=x:=λr hr=>by obtain⟨d,h1,h2⟩:=(hmem r).1 hr;exact⟨d,(N7 d r).1 h1,h2⟩
 have hlen:l.length<=1048576:=by
  have:=bG (l':=List.range 1048576) iu λr hr=>by
   obtain⟨d,hd,_⟩:=hl r hr;have:=(hok.mid.two hd).2;exact xaV.2 zO
  simpa using this
 refine⟨λvs H=>∃(v:zV) (i:Nat) (all:List Cx) (Na:Hp),vs=[v,iv (i:Int)]/\H=Na++(Nr++C)/\i<=l.length/\aH 248 8 v (all.map jL) Na/\uj K.N x y (l.take i) all/\all.length<=i,
  λvs _=>l.length-bL vs 1,JE.of (aU.out (C:=b.CT) (.cons (.app .left)) Nr) ⟨_,0,[],[],rfl,by rw[hC];rfl,xaK _,aH.nil _ _,⟨by simp,by simp⟩,xak _⟩,?_⟩
 rintro w w' H ⟨v,i,all,Na,hw,rfl,hi,ho,wB,hal⟩ gs;simp only[xau,xaY]at hw;obtain⟨rfl,rfl⟩:=hw;refine ae.fe (Br.dec (λhlt=>?_) (λhge=>?_));rotate_left
 ·have:i=l.length:=by omega
  subst this;rw[xbh]at wB;refine aN.mk (gp:=Na++C) ?_ ⟨all,Na,by rw[hC],ho,wB.all λr d hd hv=>(hmem r).2 ⟨d,(N7 d r).2 hd,hv⟩,by omega⟩;exact aG.cM .right Na
 obtain⟨r,Ad⟩:∃r,l[i]? =some r:=⟨_,xab hlt⟩;have kQ:l.take (i+1)=l.take i++[r]:=by rw[xby,Ad];rfl
 have Wj:r∉l.take i:=λhm=>by
  have:(l.take (i+1)).Nodup:=iu.sublist (xdT _ _);rw[kQ]at this;exact(xbb.1 this).2.2 r hm r zI rfl
 obtain⟨d,hd,m0⟩:=hl r (xax Ad);have RN:=hok.mid.lo hd;have RO:=hok.mid.hi hd;intro Sp A5;have next:∀v' Mi To,aH 248 8 v' (Mi.map jL) To->uj K.N x y (l.take (i+1)) Mi->Mi.length<=i+1->Sp [v'] (To++(Nr++C)):=λv' Mi To h1 h2 h3=>
  A5 _ _ λgs=>ae.inc (az.mk ⟨v',i+1,Mi,To,rfl,rfl,by omega,h1,h2,h3⟩ (by simp[bL];omega))
 refine AX.ld (x:=(r:Int)) (cc Ad) (λy hy=>xaa _ (xac _ hy)) (Nil.ptr (ah.mk (vV h0 (.inr ⟨d,hd⟩) (λ_ h=>two h) (.app (.app .here)) λlo hi hg he=>?_)));obtain⟨rfl,rfl⟩:=he d hd;have hvr:wW K.N r=(x:Int):=by simp[wW,hd,m0]
 rw[hvr];intro WQ _;refine St.p (by intro z hz;simp[u32]at hz;rcases hz with rfl|rfl|rfl<;>rfl) ?_;obtain⟨H0,OE⟩:∃H0,H0=(WQ,Obj.cells #[iv (x:Int),u32 d.lo,u32 d.hi] 60 zZ)::(Na++(Nr++C)):=⟨_,rfl⟩;have hEq:((WQ,Obj.cells [Value.int .i64 (x:Int),u32 d.lo,u32 d.hi].toArray 60 zZ)::(Na++(Nr++C)))=H0:=OE.symm;rw[hEq];intro J31 Vn;have skip:¬kj K.N x y r d->J31 [.bool true] H0:=λhn=>Vn _ _ λgs=>Br.yes (JE.of (by rw[OE];exact .tail) (next w all Na ho (by rw[kQ];exact wB.skip hd hn) zO));have take:kj K.N x y r d->J31 [.bool false] H0:=λhn=>by
  refine Vn _ _ λgs=>Br.no ?_;rw[OE];refine av.q ?_;refine Build.mk (cs:=jL ⟨r,⟨x,d.lo,d.hi⟩,0,0,0,0⟩) zK λb37 _=>?_;refine St.p (jG _) ?_;refine Ld.f ?_;refine aa.eq (xK h0 (by have:=h0.lt RN;omega) RN (λ_ h=>two h) y) (Ext.two (ah.mk (St.one (by exact .head _) rfl (by simp[jL]) rfl ?_)));refine ah.mk (St.one (by exact .head _) rfl (by simp[jL]) rfl ?_);refine Ld.f ?_;refine aa.eq (xK h0 (by have:=h0.lt RO;omega) RO (λ_ h=>two h) y) (Ext.two (ah.mk (St.one (by exact .head _) rfl (by simp[jL]) rfl ?_)));refine ah.mk (St.one (by exact .head _) rfl (by simp[jL]) rfl ?_);have cV:d=⟨x,d.lo,d.hi⟩:=by cases d;simp at m0;subst m0;rfl
  have hcell:jL (lZ K.N y r d)=[u32 r,iv (x:Int),u32 d.lo,u32 d.hi,u32 (pl K.N y d.lo),u32 (ph K.N y d.lo),u32 (pl K.N y d.hi),u32 (ph K.N y d.hi)]:=by
   simp[jL,lZ,m0]
  refine av.whole (r:=jL (lZ K.N y r d)) (by rw[hcell];exact .head _) rfl ?_;refine ai.one (e:=248) (z:=.agg #[.int .u32 0,iv 0,.int .u32 0,.int .u32 0,.int .u32 0,.int .u32 0,.int .u32 0,.int .u32 0]) (k:=8) (r:=jL (lZ K.N y r d)) zK zK zK zD rfl λxb=>?_;refine ho.kx (.cons (.cons (.cons .left))) (by exact .head _) rfl (jG _) ⟨_,rfl,rfl⟩ zP zP λv' To cg=>?_;refine JE.of (.skip (.skip .tail)) (next v' (all++[lZ K.N y r d]) To (by rw[xaG];exact cg) (by rw[kQ];exact wB.more Wj hn) zP)
 refine DR.of (R:=[(WQ,Obj.cells #[iv (x:Int),u32 d.lo,u32 d.hi] 60 zZ)]) (by rw[OE];exact .left (A:=[_])) (Nil.ptr (ah.mk (Ld.f ?_)));have heR:aG H0 [(WQ,Obj.cells #[iv (x:Int),u32 d.lo,u32 d.hi] 60 zZ)]:=by rw[OE];exact .left (A:=[_])
 intro F;rw[OE];refine vV h0 RN (λ_ h=>two h) (.cons (.app (.app .here))) λlo1 UG hg1 MM=>?_;rw[<-OE];refine⟨heR,Iz.mk rfl (ae.dz (Br.dec (λhne=>?_) (λhe=>?_)))⟩
 ·refine Nil.ptr (ah.mk (Ld.f ?_));intro F2;rw[OE];refine vV h0 RO (λ_ h=>two h) (.cons (.app (.app .here))) λlo2 Ed P4 SS=>?_;rw[<-OE];refine⟨heR,Iz.mk rfl (ae.dz (aB.mk ?_))⟩;by_cases e2:wW K.N d.hi=(y:Int)
  ·rw[xas (by simpa using e2)];refine JE.mk (take ⟨hd,m0,.inr ?_⟩);cases hN:K.N d.hi with
   |none=>simp[wW,hN]at e2<;>omega
   |some f=>exact⟨f,rfl,by simp[wW,hN]at e2;omega⟩
  ·rw[xaA (by simpa using e2)];refine JE.mk (skip ?_);rintro⟨_,_,⟨f,hf,Kz⟩|⟨f,hf,Kz⟩⟩
   ·exact hne (by simp[wW,hf,Kz])
   exact e2 (by simp[wW,hf,Kz])
 have e1:wW K.N d.lo=(y:Int):=by simpa using he
 refine JE.mk (take ⟨hd,m0,.inl ?_⟩);cases hN:K.N d.lo with
 |none=>simp[wW,hN]at e1<;>omega
 |some f=>exact⟨f,rfl,by simp[wW,hN]at e1;omega⟩
end
end
section
open aq
section
def WY:zV->Int
 | .int _ z=>z
 |_=>0
abbrev W5(v:zV)(z:Int):Prop:=v=iv z
def tf(es:Array MapEntry)(ck:Nat)(ks:List Nd):Prop:=∃m:List (Nd×Int),aM nK W5 es ck m/\m.map Prod.fst=ks
theorem tf.empty:tf #[] 0 []:=⟨[],aM.empty,rfl⟩
theorem tf.of{es:Array MapEntry}{ck:Nat}{m:List (Nd×Int)}(h:aM nK (λv _=>∃z,v=iv z) es ck m):tf es ck (m.map Prod.fst):=by
 have hlen:es.toList.length=m.length:=by simpa using h.len
 have hz:((es.toList.zip m).map λp=>((p.2.1,WY p.1.val):Nd×Int)).map Prod.fst=m.map Prod.fst:=by
  rw[xcx];have:(Prod.fst∘λ(p:MapEntry×(Nd×Int))=>((p.2.1,WY p.1.val):Nd×Int))=Prod.fst∘Prod.snd:=rfl;rw[this,<-xcx,List.map_snd_zip zO]
 refine⟨_,⟨?_,λi e x he hx=>?_,by rw[hz];exact h.nd,h.born,h.lt⟩,hz⟩
 ·simp[h.len]
 have hi:=(xaJ.1 he).1;have Ed:i<m.length:=by rw[<-h.len];exact hi
 have hm:m[i]? =some m[i]:=xab Ed;obtain⟨h1,z,h2⟩:=h.key i e _ he hm;have hx':x=(m[i].1,WY e.val):=by
  have e1:es.toList[i]? =some e:=by rw[xba];exact he
  rw[xat,(List.getElem?_zip_eq_some (z:=(e,m[i]))).2 ⟨e1,hm⟩]at hx;simpa using hx.symm
 subst hx';exact⟨h1,by rw[h2];rfl⟩
theorem Own.sub{g:Gh}{H:Hp}{w:World}(h:Own g H w){y:Nat×Obj}(hy:y∈H):Own g [y] w:=by
 obtain⟨X,Y,rfl⟩:=xcT hy;exact(h.perm xa6).left (A:=[y])
noncomputable abbrev FF:Func:=Tryz.f161
theorem six{i:Nat}(hi:i<6):¬JA .any (mM FF 10) i 6:=λh=>by
 have e6:(mM FF 10)[6]? =some (bY FF 10 6):=by kernel_rfl
 have:=h _ e6;have hm:(⟨i,.phase⟩:Edge)∈(bY FF 10 6).after:=by
  have ea:(bY FF 10 6).after=#[⟨0,.data⟩,⟨5,.data⟩,⟨3,.data⟩,⟨4,.chain⟩,⟨0,.phase⟩,⟨1,.phase⟩,⟨2,.phase⟩,⟨3,.phase⟩,⟨4,.phase⟩,⟨5,.phase⟩]:=by kernel_rfl
  rw[ea];rcases i with _|_|_|_|_|_|i;all_goals first|omega|simp
 exact this _ hm rfl rfl
end
section
def EA(ops:Array Oper)(listed:Array Bool):Bool:=(List.range ops.size).all λj=>match ops[j]? with
 |some oj=> !listed.getD j true||oj.after.toList.all λe=> !Region.binds .any e||listed.getD e.on true
 |none=>true
theorem fC{ops:Array Oper}{listed:Array Bool}(h:EA ops listed=true):dU .any ops listed:=by
 intro j oj hj hl e he hb;unfold EA at h;have h1:=xc6.1 h j (xaV.2 (xaJ.1 hj).1);simp only[hj,hl,Bool.not_true,Bool.false_or]at h1;have h2:=xc6.1 h1 e (xcF.2 he);rw[hb]at h2;simpa using h2
theorem NV{g:Gh}{mb nb:Nat}{es:Array MapEntry}{ck:Nat}{ks:List Nd}{d:Nd}(hmk:tf es ck ks){c:Obj->Hp}(KI:∀o o',cT mb o o' (c o) (c o'))(UX:∀o,(nb,Obj.cells (aY d).toArray 60 zZ)∈c o){K:Hp->Prop}
 (hk:∀es' cm,tf es' cm (if d∈ks then ks else ks++[d])->K (c (.map es' cm))):
  Sh zQ g 10 (mM FF 10) [7,11] [.map (some mb),ptr nb] (c (.map es ck)) K:=by
 have hm:(mb,Obj.map es ck)∈c (.map es ck):=(KI _ (.map es ck)).mem;have hn:=UX (.map es ck);obtain⟨m,hE,rfl⟩:=hmk;intro a w hok hvs hw;simp only[xaM,xcu,xau,xaY]at hvs;obtain⟨h7,h11⟩:=hvs;obtain⟨n,X0⟩:∃n,n=a.tmps.size:=⟨_,rfl⟩;obtain⟨fr,hfr⟩:∃fr:Fr,fr=λs=>a.tmps.getD s undef:=⟨_,rfl⟩;have ha:bD a.defers n a fr:=⟨rfl,X0.symm,λs=>by rw[hfr]⟩;have f7:fr 7=.map (some mb):=by rw[hfr];exact h7
 have f11:fr 11=ptr nb:=by rw[hfr];exact h11
 rw[<-X0]at hok;have eok:gu n (mM FF 10).toList=(Nat.blt 58 n&& (Nat.blt 59 n&& (Nat.blt 60 n&& (Nat.blt 61 n&& (Nat.blt 62 n&& (Nat.blt 63 n&& (true&&true))))))):=by kernel_rfl
 rw[eok]at hok;simp only[xay,xdQ]at hok;obtain⟨k58,k59,k60,k61,k62,k63⟩:=hok;refine wp_region_any zK ?_;obtain⟨z0,SG⟩:∃z0:Int,z0=(c8 m d).getD 0:=⟨_,rfl⟩;obtain⟨S0,MO⟩:∃S0:World->Prop,S0=λw=>Own g [(nb,Obj.cells (aY d).toArray 60 zZ)] w/\(Instr.lookup 273 (.map (some mb)) (nK d) false).run zQ w=.ok (iv z0) w:=⟨_,rfl⟩;have look:∀{es':Array MapEntry} {cm:Nat} {m':List (Nd×Int)} {H':Hp} {w':World},aM nK W5 es' cm m'->(mb,Obj.map es' cm)∈H'->Own g H' w'->(c8 m' d).getD 0=z0->(Instr.lookup 273 (.map (some mb)) (nK d) false).run zQ w'=.ok (iv z0) w':=by
  intro es' cm m' H' w' h1 h2 h3 h4;have hL:iZ zQ 60 (iv 0) false H' (.map (some mb)) (nK d) (· =iv z0):=by
   cases hg:c8 m' d with
   |some z=>exact aM.F1 (ke:=nK) (k:=d) ob j4 h1 h2 hg (by rintro v rfl;rw[hg]at h4;simp at h4;rw[h4];rfl)
   |none=>exact aM.uA (ke:=nK) (k:=d) ob j4 h1 h2 hg (by rw[hg]at h4;simp at h4;rw[<-h4];rfl)
  obtain⟨v,hr,rfl⟩:=hL.run (P:=zQ) h3 (t:=273) (kt:=60) (e:=3) (kd:=.struct (Tryz.prog.fieldsOf 60)) (i:=(Tryz.prog.info? 3).get zK) zK DV rfl zK zK;exact hr
 have Rn:=hw.u3;have s0:S0 {w with drawn:=w.drawn+1}:=by rw[MO];exact⟨Own.sub Rn hn,look hE hm Rn SG.symm⟩
 have Vc:∀{o:Oper} {v:zV} (c:List PanicEntry) (a':Act) (w':World),(λ(e:Exit) (a':Act) (w':World)=>e=.normal/\a'.defers=a.defers/\a'.tmps.size=a.tmps.size/\(∀s,aQ (mM FF 10).toList s=false->a'.tmps.getD s undef=a.tmps.getD s undef)/\∃H',Own g H' w'/\K H') (.panic c) (a'.put o.dst v) w'->
   (λ(e:Exit) (a':Act) (w':World)=>e=.normal/\a'.defers=a.defers/\a'.tmps.size=a.tmps.size/\(∀s,aQ (mM FF 10).toList s=false->a'.tmps.getD s undef=a.tmps.getD s undef)/\∃H',Own g H' w'/\K H') (.panic c) a' w':=by
  rintro _ _ _ _ _ ⟨h,_⟩;cases h
 have hsel:Region.noSelect (mM FF 10)=true:=by kernel_rfl
 have hkeep:∀i,i<6->∀(j:Nat) (oj:Oper) (w w':World),(mM FF 10)[j]? =some oj->j≠i->¬mg .any (mM FF 10) i j->S0 w->(j≠6->S0 w->S0 w')->S0 w':=λi hi j oj w w' _ _ hno h0 hs=>by
  by_cases e:j=6
  ·subst e;exact absurd (λoj gE e he hb heq=>hno (.one gE he hb heq)) (six hi)
  exact hs e h0
 refine cC.any (S:=λj w w'=>j≠6->S0 w->S0 w') ?_;have hsz:(mM FF 10).size=7:=by kernel_rfl
 rw[hsz];refine cC.take (fC zK) (S0:=S0) (i:=0) (oi:=bY FF 10 0) (v:=.map (some mb)) zK hsel zK zK Vc (λ_ h _ _=>h) (hkeep 0 zD) (.inl ⟨rfl,λw hw=>?_⟩) s0 ?_
 ·rw[ha.eval];have:(execOp (ev fr) (bY FF 10 0))=pure (.value (fr 7)):=rfl
  rw[this,f7];rfl
 have Ei:=ha.put (d:=some 58) k58 (.map (some mb));change cC _ _ _ _ _ 6 _ (a.put (some 58) (.map (some mb))) _;refine cC.take (fC zK) (S0:=S0) (i:=1) (oi:=bY FF 10 1) (v:=nK d) zK hsel zK zK Vc (λ_ h _ _=>h) (hkeep 1 zD) (.inl ⟨rfl,λw hw=>?_⟩) s0 ?_
 ·rw[Ei.eval];have e:z9 zQ g (bY FF 10 1) (ev (bJ fr (some 58) (.map (some mb)))) [(nb,Obj.cells (aY d).toArray 60 zZ)] (λv=>v=nK d)=av 3 [(nb,Obj.cells (aY d).toArray 60 zZ)] (fr 11) (λv=>v=nK d):=by kernel_rfl
  obtain⟨v,rfl,hr,_⟩:=mA (e.mpr (by rw[f11];exact av.q rfl));rw[MO]at hw;exact hr _ hw.1
 have Ae:=Ei.put (d:=some 59) k59 (nK d);change cC _ _ _ _ _ 5 _ ((a.put (some 58) (.map (some mb))).put (some 59) (nK d)) _;refine cC.take (fC zK) (S0:=S0) (i:=2) (oi:=bY FF 10 2) (v:=iv z0) zK hsel zK zK Vc (λ_ h _ _=>h) (hkeep 2 zD) (.inl ⟨rfl,λw hw=>?_⟩) s0 ?_
 ·rw[Ae.eval];have e:execOp (ev (bJ (bJ fr (some 58) (.map (some mb))) (some 59) (nK d))) (bY FF 10 2)=(do pure (.value (<-Instr.lookup 273 (.map (some mb)) (nK d) false))):=rfl;rw[MO]at hw;rw[e];simp only[Sem.run_bind,hw.2,Result.andThen_ok,Sem.run_pure]
 have F8:=Ae.put (d:=some 60) k60 (iv z0);change cC _ _ _ _ _ 4 _ (((a.put (some 58) (.map (some mb))).put (some 59) (nK d)).put (some 60) (iv z0)) _;refine cC.take (fC zK) (S0:=S0) (i:=3) (oi:=bY FF 10 3) (v:=iv (IntKind.i64.wrap (z0+1))) zK hsel zK zK Vc (λ_ h _ _=>h) (hkeep 3 zD) (.inl ⟨rfl,λw hw=>?_⟩) s0 ?_
 ·rw[F8.eval];have e:z9 zQ g (bY FF 10 3) (ev (bJ (bJ (bJ fr (some 58) (.map (some mb))) (some 59) (nK d)) (some 60) (iv z0))) [(nb,Obj.cells (aY d).toArray 60 zZ)] (λv=>v=iv (IntKind.i64.wrap (z0+1)))=ae .num .add (iv z0) (iv 1) (λv=>v=iv (IntKind.i64.wrap (z0+1))):=by kernel_rfl
  obtain⟨v,rfl,hr,_⟩:=mA (e.mpr (ae.add rfl));rw[MO]at hw;exact hr _ hw.1
 have Ow:=F8.put (d:=some 61) k61 (iv (IntKind.i64.wrap (z0+1)));change cC _ _ _ _ _ 3 _ ((((a.put (some 58) (.map (some mb))).put (some 59) (nK d)).put (some 60) (iv z0)).put (some 61) (iv (IntKind.i64.wrap (z0+1)))) _;generalize (((a.put (some 58) (.map (some mb))).put (some 59) (nK d)).put (some 60) (iv z0)).put (some 61) (iv (IntKind.i64.wrap (z0+1)))=a4 at Ow;refine cC.all (rs:=[4]) zK zI λi hi=>?_;simp only[xaL]at hi;subst hi;have e4:(mM FF 10)[4]? =some (bY FF 10 4):=by kernel_rfl
 unfold wpOp;rw[e4];simp only;rw[xae (show Region.wanted (bY FF 10 4) (yielded (mM FF 10) a4.tmps)=true from rfl)];refine .inl ?_;show(bY FF 10 4).upon zQ a4 _ _ ((execOp a4.eval (bY FF 10 4)).run zQ _);rw[Ow.eval];refine mq.upon (g:=g) (KP:=λ_ _=>False) (aM.OU (K:=λv H'=>∃es' cm v0 st,aM nK W5 es' cm (if d∈m.map Prod.fst then m else m++[(d,0)])/\(∃e∈es'.toList,e.born=st)/\H'=c (.map es' cm)/\v=.tuple #[v0,iv (st:Int)])
  (t:=273) (kt:=60) (e:=3) (z:=iv 0) (k:=d) (y0:=(0:Int)) ob j4 DX (o:=bY FF 10 4) (mo:=.tmp 58) (ko:=.tmp 59) rfl rfl rfl zK DV rfl zK rfl hE KI
  (λes' cm v st h1 h2=>⟨es',cm,v,st,h1,h2,rfl,rfl⟩) _ Rn) ?_ (λ_ _ _ _ h=>h.elim)
 rintro v H1 w1 gD ⟨Ex,zc,v0,st,Ze,hst,rfl,rfl⟩;have sr:(nb,Obj.cells (aY d).toArray 60 zZ)∈c (.map Ex zc):=UX _;have MI:(mb,Obj.map Ex zc)∈c (.map Ex zc):=(KI _ (.map Ex zc)).mem;have s1:S0 w1:=by
  rw[MO];refine⟨Own.sub gD sr,look Ze MI gD ?_⟩;rw[SG];split
  ·rfl
  rename_i cV;have e1:=fK.2 cV;have e2:c8 (m++[(d,0)]) d=some 0:=(fo (by
   have:=Ze.nd;rw[xad cV]at this;exact this)).2 zI
  rw[e1,e2];rfl
 refine⟨λ_ _=>s1,?_⟩;have Ov:=Ow.put (d:=some 62) k62 (.tuple #[v0,iv (st:Int)]);change cC _ _ _ _ _ 2 _ (a4.put (some 62) (.tuple #[v0,iv (st:Int)])) _;generalize a4.put (some 62) (.tuple #[v0,iv (st:Int)])=a5 at Ov;refine cC.take (fC zK) (S0:=S0) (i:=5) (oi:=bY FF 10 5) (v:=iv (st:Int)) zK hsel zK zK Vc (λ_ h _ _=>h) (hkeep 5 zD) (.inl ⟨rfl,λw hw=>?_⟩) s1 ?_
 ·rw[Ov.eval];obtain⟨v,rfl,hr,_⟩:=mA (P:=zQ) (g:=g) (o:=bY FF 10 5) (H:=[(nb,Obj.cells (aY d).toArray 60 zZ)]) (k:=λv=>v=iv (st:Int))
   (ρ:=ev (bJ (bJ (bJ (bJ (bJ fr (some 58) (.map (some mb))) (some 59) (nK d)) (some 60) (iv z0)) (some 61) (iv (IntKind.i64.wrap (z0+1)))) (some 62) (.tuple #[v0,iv (st:Int)]))) ⟨_,_,rfl,rfl,rfl⟩
  rw[MO]at hw;exact hr _ hw.1
 have Ou:=Ov.put (d:=some 63) k63 (iv (st:Int));change cC _ _ _ _ _ 1 _ (a5.put (some 63) (iv (st:Int))) _;generalize a5.put (some 63) (iv (st:Int))=a6 at Ou;refine cC.all (rs:=[6]) zK zI λi hi=>?_;simp only[xaL]at hi;subst hi;have e6:(mM FF 10)[6]? =some (bY FF 10 6):=by kernel_rfl
 unfold wpOp;rw[e6];simp only;rw[xae (show Region.wanted (bY FF 10 6) (yielded (mM FF 10) a6.tmps)=true from rfl)];refine .inl ?_;show(bY FF 10 6).upon zQ a6 _ _ ((execOp a6.eval (bY FF 10 6)).run zQ _);rw[Ou.eval];refine mq.upon (g:=g) (KP:=λ_ _=>False) (aM.Nh (vr:=λv _=>∃z:Int,v=iv z) (K:=λ_ H'=>∃es',aM nK (λv _=>∃z:Int,v=iv z) es' zc (if d∈m.map Prod.fst then m else m++[(d,0)])/\H'=c (.map es' zc))
  (o:=bY FF 10 6) (t:=273) (mo:=.tmp 58) (so:=.tmp 63) (xo:=.tmp 61) rfl rfl rfl (Ze.mono λv z h=>⟨z,h⟩) hst (λ_=>⟨_,rfl⟩) KI
  (λes' h1=>⟨es',h1,rfl⟩) _ gD) ?_ (λ_ _ _ _ h=>h.elim)
 rintro v H2 w2 qZ ⟨Gt,MP,rfl⟩;refine⟨λh=>absurd rfl h,?_⟩;have SZ:bD a.defers n a6 _:=Ou;change cC _ _ _ _ _ 0 _ a6 _;refine cC.done zK ⟨rfl,SZ.defers,by rw[SZ.size,X0],λs hs=>?_,_,qZ,hk Gt zc ?_⟩ 0
 ·have eD:aQ (mM FF 10).toList s=(Nat.beq s 58||(Nat.beq s 59||(Nat.beq s 60||(Nat.beq s 61||(Nat.beq s 62||(Nat.beq s 63||(false||false))))))):=by kernel_rfl
  rw[eD]at hs;simp only[xaD]at hs;rw[SZ.get];simp only[bJ,hs,xam];rw[hfr]
 have:=tf.of MP;have e:(if d∈m.map Prod.fst then m else m++[(d,(0:Int))]).map Prod.fst=if d∈m.map Prod.fst then m.map Prod.fst else m.map Prod.fst++[d]:=by
  split<;>simp
 rw[e]at this;exact this
end
section
variable {kp:Nat} {K:Kd} {ord af tr:zL} {C:Hp} {S:Nat->aq.Fn}
theorem LS{H:Hp}(a b:Nd){K:zV->Hp->Prop}(h:∀x,K (.slice (some ⟨x,0,none⟩) 2 2) ((x,.cells (rows [aY a,aY b]) 60 zZ)::H)):
  ai zQ 225 2 [(0,nK a),(1,nK b)] H K:=by
 refine⟨rows [aY a,aY b],60,3,.agg #[iv 0,.int .u32 0,.int .u32 0],by kernel_rfl,by kernel_rfl,by kernel_rfl,by decide,?_,λx _=>h x⟩;have e1:Array.range (2*3)=#[0,1,2,3,4,5]:=rfl;simp[Instr.fill,Value.cells,nK,aY,e1,rows,u32]
def fQ(K:Kd)(x:Nat)(l:List Cx)(ks:List Nd)(m:List Nd):Prop:=m.Nodup/\∀k,k∈m↔((∃c∈l,k∈keys x c)\/k∈ks)/\K.T k=none/\k.lo≠k.hi
theorem fQ.step{x:Nat}{l:List Cx}{ks m:List Nd}{d:Nd}(h:fQ K x l ks m)(hd:K.T d=none/\d.lo≠d.hi):fQ K x l (ks++[d]) (if d∈m then m else m++[d]):=by
 obtain⟨h1,h2⟩:=h;constructor
 ·split
  ·exact h1
  rename_i hn;exact xbb.2 ⟨h1,by simp,λa ha b hb e=>by simp at hb;subst hb;subst e;exact hn ha⟩
 intro k;by_cases hm:d∈m
 ·rw[xae hm,h2,xal,xaL];constructor
  ·rintro⟨h3|h3,h4⟩
   ·exact⟨.inl h3,h4⟩
   exact⟨.inr (.inl h3),h4⟩
  rintro⟨h3|h3|rfl,h4⟩
  ·exact⟨.inl h3,h4⟩
  ·exact⟨.inr h3,h4⟩
  exact(h2 _).1 hm
 rw[xad hm,xal,xaL,h2,xal,xaL];constructor
 ·rintro(⟨h3|h3,h4⟩|rfl)
  ·exact⟨.inl h3,h4⟩
  ·exact⟨.inr (.inl h3),h4⟩
  exact⟨.inr (.inr rfl),hd⟩
 rintro⟨h3|h3|rfl,h4⟩
 ·exact .inl ⟨.inl h3,h4⟩
 ·exact .inl ⟨.inr h3,h4⟩
 exact .inr rfl
theorem fQ.skip{x:Nat}{l:List Cx}{ks m:List Nd}{d:Nd}(h:fQ K x l ks m)(hd:¬(K.T d=none/\d.lo≠d.hi)):fQ K x l (ks++[d]) m:=by
 obtain⟨h1,h2⟩:=h;refine⟨h1,λk=>?_⟩;rw[h2,xal,xaL];constructor
 ·rintro⟨h3|h3,h4⟩
  ·exact⟨.inl h3,h4⟩
  exact⟨.inr (.inl h3),h4⟩
 rintro⟨h3|h3|rfl,h4⟩
 ·exact⟨.inl h3,h4⟩
 ·exact⟨.inr h3,h4⟩
 exact absurd h4 hd
theorem fQ.vE{x:Nat}{l:List Cx}{c:Cx}{m:List Nd}(h:fQ K x l (keys x c) m):fQ K x (l++[c]) [] m:=by
 obtain⟨h1,h2⟩:=h;refine⟨h1,λk=>?_⟩;rw[h2];constructor
 ·rintro⟨⟨c',hc,hk⟩|h3,h4⟩
  ·exact⟨.inl ⟨c',xac _ hc,hk⟩,h4⟩
  exact⟨.inl ⟨c,by simp,h3⟩,h4⟩
 rintro⟨⟨c',hc,hk⟩|h3,h4⟩
 ·rcases xal.1 hc with hc|hc
  ·exact⟨.inl ⟨c',hc,hk⟩,h4⟩
  simp at hc;subst hc;exact⟨.inr hk,h4⟩
 cases h3
theorem Lj(h:cv kp K ord af tr C){x:Nat}(hx:x<K.n){v:zV}{all:List Cx}{Na:Hp}(ha:aH 248 8 v (all.map jL) Na)(hlen:all.length<=1048576):
  Rd zQ 161 #[ptr kp,iv (x:Int),v] (Na++C) (λr=>∃made,r=iv ((made.length:Nat):Int)/\Made K x all made):=by
 have h0:=h;obtain⟨b,hC,hO⟩:=h;refine aS λg=>Cd λmb _=>?_;refine ha.bH ?_;rw[xaz];refine⟨λvs H=>∃(i:Nat) (es:Array MapEntry) (ck:Nat) (m:List Nd),vs=[iv (i:Int)]/\H=(mb,.map es ck)::(Na++C)/\i<=all.length/\tf es ck m/\fQ K x (all.take i) [] m,
  λvs _=>all.length-bL vs 0,JE.mk ⟨0,_,_,[],rfl,rfl,xaK _,tf.empty,by simp,by simp⟩,?_⟩
 rintro w H ⟨i,es,ck,m,hw,rfl,hi,hmk,Ob⟩ gs;simp only[xau,xaY]at hw;subst hw;refine ae.fe (Br.dec (λhlt=>?_) (λhge=>?_));rotate_left
 ·have:i=all.length:=by omega
  subst this;rw[xbh]at Ob;obtain⟨m',he,rfl⟩:=hmk;refine aM.Q1 he (.head _) ?_;refine bX.mk .tail ⟨m'.map Prod.fst,by rw[xaz],Ob.1,λk=>?_⟩;rw[Ob.2];constructor
  ·rintro⟨h3|h3,h4⟩
   ·exact⟨h3,h4⟩
   cases h3
  rintro⟨h3,h4⟩;exact⟨.inl h3,h4⟩
 obtain⟨c,o8⟩:∃c,all[i]? =some c:=⟨_,xab hlt⟩;have kQ:all.take (i+1)=all.take i++[c]:=by rw[xby,o8];rfl
 refine ha.r7 (r:=jL c) (by rw[xat,o8];rfl) (λy hy=>.tail _ (xac _ hy)) ?_;intro b12 _;refine St.p (jG _) ?_;refine Ld.f ?_;refine Ld.f ?_;refine Build.mk (cs:=aY ⟨x,c.ud,c.qy⟩) zK (Ld.f ?_);refine Ld.f ?_;refine Build.mk (cs:=aY ⟨x,c.uc,c.qx⟩) zK (LS _ _ λxb=>?_);refine aX.mk ?_;refine⟨λvs H=>∃(j:Nat) (es:Array MapEntry) (ck:Nat) (m:List Nd),vs=[iv (j:Int)]/\H=(xb,.cells (rows [aY ⟨x,c.ud,c.qy⟩,aY ⟨x,c.uc,c.qx⟩]) 60 zZ)::(mb,.map es ck)::(Na++C)/\j<=2/\tf es ck m/\fQ K x (all.take i) ((keys x c).take j) m,
  λvs _=>2-bL vs 0,JE.of (.cons .tail) ⟨0,es,ck,m,rfl,rfl,xaK _,hmk,Ob⟩,?_⟩
 clear hmk Ob;rintro w H ⟨j,es,ck,m,hw,rfl,hj,hmk,Ob⟩ gs;simp only[xau,xaY]at hw;subst hw;refine ae.fe (b:=2) (Br.dec (λsu=>?_) (λhge=>?_));rotate_left
 ·have:j=2:=by omega
  subst this;refine ae.inc (az.of .tail ⟨i+1,es,ck,m,rfl,rfl,by omega,hmk,?_⟩ (by simp[bL];omega));rw[kQ];exact fQ.vE Ob
 obtain⟨d,Ee,m0⟩:∃d,(keys x c)[j]? =some d/\d.v=x:=by
  rcases j with _|_|j
  ·exact⟨_,rfl,rfl⟩
  ·exact⟨_,rfl,rfl⟩
  omega
 have htj:(keys x c).take (j+1)=(keys x c).take j++[d]:=by rw[xby,Ee];rfl
 have hrow:[aY ⟨x,c.ud,c.qy⟩,aY ⟨x,c.uc,c.qx⟩][j]? =some (aY d):=by
  have:[aY ⟨x,c.ud,c.qy⟩,aY ⟨x,c.uc,c.qx⟩]=(keys x c).map aY:=rfl;rw[this,xat,Ee];rfl
 intro J34 YY;have next:∀es' cm m' H',tf es' cm m'->fQ K x (all.take i) ((keys x c).take (j+1)) m'->aG H' ((xb,.cells (rows [aY ⟨x,c.ud,c.qy⟩,aY ⟨x,c.uc,c.qx⟩]) 60 zZ)::(mb,.map es' cm)::(Na++C))->JE J34 [] H':=λes' cm m' H' h1 h2 h3=>
  JE.mk (YY _ λgs=>ae.inc (az.of h3 ⟨j+1,es',cm,m',rfl,rfl,by omega,h1,h2⟩ (by simp[bL];omega)))
 refine aj.nat su ?_;have hmem:(xb,Obj.cells (rows [aY ⟨x,c.ud,c.qy⟩,aY ⟨x,c.uc,c.qx⟩]) 60 zZ)∈(xb,Obj.cells (rows [aY ⟨x,c.ud,c.qy⟩,aY ⟨x,c.uc,c.qx⟩]) 60 zZ)::(mb,.map es ck)::(Na++C):=.head _;refine av.row (k:=3) hmem (by simp[aY]) hrow ?_;intro b40 _;refine St.p (λz hz=>by simp[aY,u32]at hz;rcases hz with rfl|rfl|rfl<;>rfl) ?_;refine DR.self ?_;rw[hC];refine Nil.ptr (ah.mk (Ld.f ?_));refine av.q ?_;refine aa.eq (q9 (d:=d) hO.ut (by rw[m0];exact hx)) (⟨.refl _,Ext.mk rfl (Ext.mk rfl (Un.not ?_))⟩);have PX:(!(K.T d).isSome)=decide (K.T d=none):=by cases K.T d<;>simp
 rw[PX];refine dr.and (decide (d.lo≠d.hi)) (λ_=>?_) rfl λgs=>?_
 ·refine Ld.f ?_;refine Ld.f ?_;exact ae.nU ⟨rfl,rfl⟩
 rw[<-xdG];rw[<-hC];refine Br.dec (λhd=>?_) (λhd=>?_)
 ·refine NV hmk (c:=λo=>(b40,.cells (aY d).toArray 60 zZ)::(xb,.cells (rows [aY ⟨x,c.ud,c.qy⟩,aY ⟨x,c.uc,c.qx⟩]) 60 zZ)::(mb,o)::(Na++C)) (λo o'=>.tail (.tail (.head _))) (λo=>.head _) λes' cm h1 gs=>?_;exact next es' cm _ _ h1 (by rw[htj];exact Ob.step hd) .tail
 exact next es ck m _ hmk (by rw[htj];exact Ob.skip hd) .tail
end
def iI(l:List Cx):Nat->Nat:=λs=>(l.map λc=>e1 (some c.d) s).sum
theorem mz(c:Cx)(l:List Cx)(s:Nat):iI (c::l) s=e1 (some c.d) s+iI l s:=by simp[iI]
theorem Fy(c:Cx)(l:List Cx)(s:Nat):iI (l++[c]) s=iI l s+e1 (some c.d) s:=by simp[iI]
theorem VD(d:Nd)(s:Nat):e1 (some d) s<=2:=by rw[dm];split<;>split<;>omega
theorem vS(s:Nat):∀l:List Cx,iI l s<=2*l.length
 | []=>xak _
 |c::l=>by rw[mz,xar];have:=vS s l;have:=VD c.d s;omega
theorem xJ{s:Nat}:∀{l:List Cx},0<iI l s->∃c∈l,c.d.lo=s\/c.d.hi=s
 | [],h=>by simp[iI]at h
 |c::l,h=>by
  rw[mz]at h;by_cases h0:0<e1 (some c.d) s
  ·refine⟨c,by simp,?_⟩;rw[dm]at h0;by_cases h1:c.d.lo=s
   ·exact .inl h1
   by_cases h2:c.d.hi=s
   ·exact .inr h2
   simp[h1,h2]at h0
  obtain⟨c',hc,h1⟩:=xJ (s:=s) (l:=l) zO;exact⟨c',by simp[hc],h1⟩
theorem DQ{s:Nat}{c:Cx}(hs:c.d.lo=s\/c.d.hi=s):∀{l:List Cx},c∈l->0<iI l s
 |c'::l,h=>by
  rw[mz];rcases xaf.1 h with rfl|h
  ·rw[dm];rcases hs with hs|hs
   ·rw[xae hs];omega
   rw[xae hs];omega
  have:=DQ hs h;omega
def Idle(K:Kd):Prop:=∀s,K.N s=none->K.use s=0
theorem rA{K:Kd}{S:Nat->aq.Fn}{E:Nat->Prop}{P:Nat->Nat}(hm:gZ K S E P)(hi:Idle K){M:Nat}(hP:∀s,P s<=M)(s:Nat):K.use s<=2097153+M:=by
 cases h:K.N s with
 |none=>rw[hi s h];omega
 |some d=>
  rw[hm.use h];have:=yY (N:=K.N) (r:=s) K.cap;have:=hm.cap.2;have:=hP s;split<;>omega
section
variable {kp:Nat} {K K0:Kd} {ord af tr:zL} {C:Hp} {S S0:Nat->aq.Fn} {nF:Nat->Nat} {x y l:Nat} {all done rest:List Cx} {made:List Nd} {P:Nat->Nat}
theorem Le(b:TB K0 S0 nF x y l all made)(h:cv kp K ord af tr C)(ht:TI K0 S0 nF x y l made K S done rest P)(hd:∀c∈done,c∈all)(hr:∀c∈rest,c∈all){c:Cx}(hc:c∈all){k:Nd}(hk:k∈keys x c)
 (Iu:PL P K.N)(Kt:Idle K)(hP:∀s,P s<=4194304):
  Fc zQ 162 #[ptr kp,iv (k.v:Int),u32 k.lo,u32 k.hi] C (λv C'=>∃r K' S',v=u32 r/\cv kp K' ord af tr C'/\TI K0 S0 nF x y l made K' S' done rest P/\uh K0 K' nF x l r/\
   ((k.lo=k.hi/\r=k.lo)\/K'.N r=some k)/\PL P K'.N/\Idle K'/\(∀s d,K.N s=some d->K'.N s=some d)/\(∀s d,K'.N s=some d->s=r\/(K.N s=some d/\K.use s<=K'.use s))):=by
 have yq:K.n<=64:=by obtain⟨_,_,hO⟩:=h;exact hO.Ab
 have j9:=b.NI hc;have hkv:k.v=x/\qz K0 nF l k.lo/\qz K0 nF l k.hi:=by
  simp only[keys,xaf,xao,xaQ]at hk;rcases hk with rfl|rfl
  ·exact⟨rfl,j9.1.1,j9.1.2⟩
  exact⟨rfl,j9.2.1,j9.2.2⟩
 have xd:=ht.og b hd hkv.2.1;have qp:=ht.og b hd hkv.2.2;have XC:k.v<K.n:=by rw[hkv.1,ht.n];exact b.nb.xn
 by_cases he:k.lo=k.hi
 ·refine Fc.mono (by rw[<-he];exact OF C _ k.lo _) ?_;rintro v C' ⟨rfl,rfl⟩;exact⟨k.lo,K,S,rfl,h,ht,.inl hkv.2.1,.inl ⟨he,rfl⟩,Iu,Kt,λ_ _ h=>h,λs d h=>.inr ⟨h,xak _⟩⟩
 cases hT:K.T k with
 |some r=>
  obtain⟨h1,h2⟩:=ht.found b hc hk hT;refine Fc.mono (OH h he XC hT) ?_;rintro v C' ⟨rfl,rfl⟩;exact⟨r,K,S,rfl,h,ht,h2,.inr h1,Iu,Kt,λ_ _ h=>h,λs d h=>.inr ⟨h,xak _⟩⟩
 |none=>
  have hfit:∀{t:Nat},live K.N t->t<2\/t<K.us.length:=λht'=>by
   rcases ht' with ht'|⟨d,cV⟩
   ·exact .inl ht'
   exact .inr (ht.mid.fit cV)
  have hkm:=ht.J4 b hd hr hc hk he hkv.2.1 hkv.2.2 hT;refine Fc.mono (OG h (d:=k) he ⟨by omega,xd,qp⟩ XC hT (ht.fits b hkm hT) (hfit xd) (hfit qp) (λs=>by have:=rA ht.mid Kt hP s;omega)) ?_;rintro v C' ⟨r,cN,cg,rfl,hN,h2,hrc,hlen,XP,FR,u0,u1,u2,o0,o1,dc⟩;have hPr:P r=0:=by
   apply xde;intro hne;obtain⟨d,cV⟩:=Iu r h2 zO;rw[hN]at cV;cases cV
  obtain⟨g1,g2⟩:=ht.lay b hd hr hc hk he hT hN ⟨h2,hrc⟩ hlen ⟨XP,FR⟩ u0 u1 o0 o1 hPr;have hup:∀s d,K.N s=some d->up K.N r (some k) s=some d:=λs d hs=>by
   rw[aE (λe=>by rw[e,hN]at hs;cases hs)];exact hs
  refine⟨r,_,_,rfl,dc,g1,g2,.inr aD,λt KZ h0=>?_,λs hs=>?_,hup,λs d hs=>?_⟩
  ·obtain⟨d,cV⟩:=Iu t KZ h0;exact⟨d,hup t d cV⟩
  ·have hs':up K.N r (some k) s=none:=hs;have hne:s≠r:=λe=>by subst e;rw[aD]at hs';cases hs'
   rw[aE hne]at hs';show cN.getD s 0=0;by_cases Tc:2<=s
   ·rw[u1 s Tc hne,Kt s hs',dm];have a1:k.lo≠s:=λe=>by
     rcases xd with h5|⟨d,h5⟩
     ·omega
     rw[e,hs']at h5;cases h5
    have a2:k.hi≠s:=λe=>by
     rcases qp with h5|⟨d,h5⟩
     ·omega
     rw[e,hs']at h5;cases h5
    simp[a1,a2]
   rw[u2 s zO,Kt s hs']
  have hs':up K.N r (some k) s=some d:=hs;by_cases e:s=r
  ·exact .inl e
  rw[aE e]at hs';refine .inr ⟨hs',?_⟩;show K.use s<=cN.getD s 0;rw[u1 s (ht.mid.two hs').1 e];omega
theorem IL(h:cv kp K ord af tr C)(ht:TI K0 S0 nF x y l made K S done rest P)(Iu:PL P K.N)(Kt:Idle K)(hP:∀s,P s<=4194304){r:Nat}(hr:live K.N r):
  Fc zQ 163 #[ptr kp,u32 r] C (λv C'=>∃K',v=.tuple #[]/\cv kp K' ord af tr C'/\TI K0 S0 nF x y l made K' S done rest (λs=>P s+if s=r then 1 else 0)/\PL (λs=>P s+if s=r then 1 else 0) K'.N/\Idle K'/\
   K'.N=K.N/\(∀s,K.use s<=K'.use s)/\(2<=r->0<K'.use r)):=by
 have hfit:r<2\/r<K.us.length:=by
  rcases hr with hr|⟨d,hd⟩
  ·exact .inl hr
  exact .inr (ht.mid.fit hd)
 refine Fc.mono (An h hfit (by have:=rA ht.mid Kt hP r;omega)) ?_;rintro v C' ⟨rfl,dc⟩;by_cases h2:2<=r
 ·have hrd:∃d,K.N r=some d:=by
   rcases hr with hr|hr
   ·omega
   exact hr
  have hlt:r<K.us.length:=by omega
  refine⟨_,rfl,dc,(ht.use (gH r) (kU h2 hlt) (λs hs=>rB hs)).congr (λs _=>?_),λt KZ h0=>?_,λs hs=>?_,rfl,λs=>?_,λ_=>?_⟩
  ·unfold up;split
   ·rename_i e;subst e;rfl
   rfl
  ·by_cases e:t=r
   ·subst e;exact hrd
   simp[e]at h0;exact Iu t KZ h0
  ·show(qc K r).getD s 0=0;have hne:s≠r:=λe=>by
    obtain⟨d,hd⟩:=hrd;have hs':K.N s=none:=hs;rw[e,hd]at hs';cases hs'
   rw[rB hne];exact Kt s hs
  ·show K.use s<=(qc K r).getD s 0;by_cases e:s=r
   ·subst e;rw[kU h2 hlt];omega
   rw[rB e];exact xak _
  show 0<(qc K r).getD r 0;rw[kU h2 hlt];omega
 have e:qc K r=K.us:=by unfold qc;rw[xae zO]
 have eK:({K with us:=qc K r}:Kd)=K:=by rw[e]
 rw[eK]at dc;refine⟨K,rfl,dc,ht.congr (λs hs=>?_),λt KZ h0=>?_,Kt,rfl,λ_=>xak _,λh=>absurd h h2⟩
 ·rw[xad zO];rfl
 have Td:0<P t+if t=r then 1 else 0:=h0
 rw[xad zO]at Td;exact Iu t KZ Td
theorem uh.mono{K K':Kd}(h:uh K0 K nF x l y)(hm:∀s d,K.N s=some d->K'.N s=some d):uh K0 K' nF x l y:=by
 rcases h with h|⟨e,h1,h2⟩
 ·exact .inl h
 exact .inr ⟨e,hm _ _ h1,h2⟩
end
section
variable {kp:Nat} {K:Kd} {ord af tr:zL} {C:Hp} {S:Nat->aq.Fn}
structure Kept(K:Kd)(S:Nat->aq.Fn)(K':Kd)(S':Nat->aq.Fn):Prop where
 n:K'.n=K.n
 cap:K'.cap=K.cap
 hold:∀r,K'.hold r=K.hold r
 held:∀g,K'.held S' g↔K.held S g
 fn:∀r,K.hold r≠0->S' r=S r
theorem QZ{x y l:Nat}(hne:x≠y)(hx:x<af.length)(hy:y<af.length):lv ((af.set x (l+1)).set y l)=qG (lv af) x y l:=by
 funext v
 show((af.set x (l+1)).set y l).getD v 0=_;rw[fy (by simpa using hy),fy hx];unfold qG;by_cases e:v=y
 ·rw[xae e,xad (by rw[e];exact xbp hne),xae e]
 rw[xad e,xad e]
theorem Jq(c:Cx)(rest:List Cx):iI (c::rest)=fB (fB (iI rest) [c.d.hi]) [c.d.lo]:=by
 funext s
 rw[mz,dm];unfold fB;simp only[xck,xdo,xc5];omega
theorem oe{x:Nat}{all:List Cx}{made:List Nd}(h:Made K x all made):made.length<=2*all.length:=by
 have h1:=bG (l':=all.flatMap (keys x)) h.nd λk hk=>by
  obtain⟨⟨c,hc,hk'⟩,_⟩:=(h.mem k).1 hk;exact List.mem_flatMap.2 ⟨c,hc,hk'⟩
 have h2:(all.flatMap (keys x)).length=2*all.length:=by
  clear h1 h;induction all with
  |nil=>rfl
  |cons c all ih=>rw[xdS,xai,ih,xar];simp[keys];omega
 omega
theorem IS{x y l:Nat}{K1:Kd}{S1:Nat->aq.Fn}{all:List Cx}{made:List Nd}(b:TB K S (lv af) x y l all made)(h:TI K S (lv af) x y l made K1 S1 all [] (iI all))(hnew:∀r d,K.N r=none->K1.N r=some d->0<K1.use r):Pos K1:=by
 intro r d hd;cases hN:K.N r with
 |none=>exact hnew r d hN hd
 |some d0=>
  rw[h.mid.use hd];rcases b.ok.reach r d0 hN with hh|⟨p,e,hp,SL⟩
  ·have mQ:K1.hold r≠0:=by rw[h.hold];exact hh
   rw[xad mQ];omega
  by_cases hm:p∈all.map Cx.r
  ·obtain⟨c,hc,rfl⟩:=xaq.1 hm;have hcd:=(b.l7 hc).1;rw[hp]at hcd;cases hcd;have:=DQ (s:=r) SL hc;omega
  have uP:=h.old hp hm;have:cH K1.N r K1.cap≠0:=λhe=>by
   have:=iB he p (h.mid.two uP).2 e uP;rcases SL with SL|SL
   ·exact this.1 SL
   exact this.2 SL
  omega
theorem DC(h:cv kp K ord af tr C)(hok:Ok K S (lv af))(ho:Ord K.n (lv af) ord)(Kt:Idle K){l:Nat}(hl:l+1<K.n):
  Fc zQ 131 #[ptr kp,iv (l:Int)] C (λr C'=>
   (xm K.n ord l (K.held S)+2<=K.cap/\r=.bool true/\∃K' S' dK,cv kp K' (ej ord l) dK tr C'/\Ok K' S' (lv dK)/\Ord K'.n (lv dK) (ej ord l)/\Idle K'/\Kept K S K' S')\/
   (K.cap<xm K.n ord l (K.held S)+2/\r=.bool false/\C'=C)):=by
 have h0:=h;have hcap:=h.cap;obtain⟨b,hC,hO⟩:=h;have Eb:=hO.ol;have yq:=hO.Ab;have nb:=ho.nb hl;obtain⟨x,hx⟩:∃x,x=ord.getD l 0:=⟨_,rfl⟩;obtain⟨y,hy⟩:∃y,y=ord.getD (l+1) 0:=⟨_,rfl⟩;rw[<-hx,<-hy]at nb;refine aS λg=>CK ?_;have hmk:(kp,Obj.cells (b.cells K.n) 103 zZ)∈C:=by rw[hC];exact .head _
 have PW:∀z∈b.CO,z∈C:=by rw[hC];exact aU.sub (.cons (.app (.app (.app (.app .left)))))
 refine Ld.v hmk ?_;refine hO.od.ld (x:=(x:Int)) (by rw[hx];exact bc zO) PW (Ld.v hmk ?_);refine ae.inc (hO.od.ld (x:=(y:Int)) (by rw[hy];exact bc zO) PW (aa.fq (wK h0 hok nb.xn) ?_));rintro w H ⟨all,Na,rfl,aI,wB,hlen⟩;refine DR.self (Nil.ptr (ah.mk (aa.rq (Lj h0 nb.xn aI hlen) ?_)));rintro w ⟨made,rfl,Kk⟩;have hml:=oe Kk;have D8:=hok.mid.cap;have XG:=hok.mid.room;refine aa.eq (x9 h0 (m:=made.length) zO zO) ?_;have ab9:xm K.n ord l (K.held S)=K.used-2+made.length:=IK (IT hok ho hl (by rw[<-hx,<-hy];exact wB) (by rw[<-hx];exact Kk));apply Un.not;by_cases hroom:K.used+made.length<=K.cap;rotate_left
 ·rw[xas hroom];exact Br.yes (aN.mk .right (.inr ⟨by omega,rfl,rfl⟩))
 rw[xaA hroom];apply Br.no;have tb:TB K S (lv af) x y l all made:=⟨hok,nb,wB,Kk,hroom⟩;have iu:=wB.nd;have hge:∀{i:Nat} {c:Cx},all[i]? =some c->c.r∉(all.take i).map Cx.r:=λ{i c} o8 hm=>by
  have h1:(all.take (i+1)).map Cx.r=(all.take i).map Cx.r++[c.r]:=by rw[xby,o8,xaG];rfl
  have h2:((all.take (i+1)).map Cx.r).Nodup:=iu.sublist ((xdT _ _).map _);rw[h1]at h2;exact(xbb.1 h2).2.2 _ hm _ zI rfl
 have kQ:∀{i:Nat} {c:Cx},all[i]? =some c->all.take (i+1)=all.take i++[c]:=λo8=>by rw[xby,o8];rfl
 have Ws:∀{i:Nat} {c:Cx},all[i]? =some c->all.drop i=c::all.drop (i+1):=λ{i c} o8=>by
  obtain⟨hi,e⟩:=xag.1 o8;rw[xa8 hi,e]
 have RA:∀{i:Nat},∀c∈all.take i,c∈all:=λc hc=>xci hc;have hmD:∀{i:Nat},∀c∈all.drop i,c∈all:=λc hc=>List.mem_of_mem_drop hc;refine aI.bH ?_;rw[xaz];refine⟨λvs H=>∃(i:Nat) (T':Nd->Option Nat) (C1:Hp),vs=[iv (i:Int)]/\H=Na++C1/\i<=all.length/\cv kp {K with T:=T'} ord af tr C1/\gZ {K with T:=T'} S (λs=>∃c∈all.take i,s=c.r) zero'/\(∀d,T' d=none\/T' d=K.T d),
  λvs _=>all.length-bL vs 0,JE.mk ⟨0,K.T,C,rfl,rfl,xaK _,h0,hok.mid.congr (λs=>by simp[fZ]) (λ_ _=>rfl),λ_=>.inr rfl⟩,?_⟩
 rintro w H ⟨i,T',C1,hw,rfl,hi,cj,Ga,F9⟩ gs;simp only[xau,xaY]at hw;subst hw;refine ae.fe (Br.dec (λhlt=>?_) (λOi=>?_))
 ·obtain⟨c,o8⟩:∃c,all[i]? =some c:=⟨_,xab hlt⟩;have Ef:c∈all:=xax o8;obtain⟨wC,UU,hce⟩:=tb.l7 Ef;refine aI.r7 (r:=jL c) (by rw[xat,o8];rfl) (λz hz=>xac _ hz) ?_;intro WO _;refine St.p (jG _) ?_;obtain⟨b1,rfl,Qc⟩:=cj;refine DR.self (Nil.ptr (ah.mk (Ld.f ?_)));refine ah.mk (av.mk (vs:=(aY c.d).toArray) (.head _) (by simp[jL]) rfl ?_);have hTc:T' c.d=some c.r:=(Ga.iG c.d c.r).2 ⟨wC,by rintro⟨c',jN,e⟩;exact hge o8 (e▸xbf jN)⟩;refine aa.fq (uv (d:=c.d) Qc.ut (hok.mid.var wC) hTc) ?_;rintro v Sw ⟨rfl,Ro⟩;refine ae.inc (az.of .tail ⟨i+1,nS T' c.d none,_,rfl,rfl,by omega,⟨{b1 with CT:=Sw},rfl,{Qc with ut:=Ro}⟩,(Ga.Yg (r:=c.r) (d:=c.d) wC ?_).congr (λs=>?_) (λ_ _=>rfl),λd=>?_⟩ (by simp[bL];omega))
  ·rintro⟨c',jN,e⟩;exact hge o8 (e▸xbf jN)
  ·rw[kQ o8];constructor
   ·rintro(⟨c',jN,e⟩|e)
    ·exact⟨c',xac _ jN,e⟩
    exact⟨c,by simp,e⟩
   rintro⟨c',jN,e⟩;rcases xal.1 jN with jN|jN
   ·exact .inl ⟨c',jN,e⟩
   simp at jN;subst jN;exact .inr e
  unfold nS;split
  ·exact .inl rfl
  exact F9 d
 have hi':i=all.length:=by omega
 subst hi';rw[xbh]at Ga;have hTI:=tb.start Ga F9;refine aI.bH ?_;rw[xaz];refine⟨λvs H=>∃(i:Nat) (K1:Kd) (S1:Nat->aq.Fn) (C1:Hp),vs=[iv (i:Int)]/\H=Na++C1/\i<=all.length/\cv kp K1 ord af tr C1/\TI K S (lv af) x y l made K1 S1 (all.take i) (all.drop i) (iI (all.take i))/\
   PL (iI (all.take i)) K1.N/\Idle K1/\(∀r d,K.N r=none->K1.N r=some d->0<K1.use r),
  λvs _=>all.length-bL vs 0,JE.mk ⟨0,_,S,C1,rfl,rfl,xaK _,cj,hTI,λt _ h=>by simp[iI]at h,Kt,λr d h1 h2=>by rw[h1]at h2;cases h2⟩,?_⟩
 clear hTI Ga F9 cj T' C1 Oi hi;rintro w H ⟨i,K1,S1,C1,hw,rfl,hi,cj,F9,OB,Ks,P1⟩ gs;simp only[xau,xaY]at hw;subst hw;refine ae.fe (Br.dec (λhlt=>?_) (λOi=>?_))
 ·obtain⟨c,o8⟩:∃c,all[i]? =some c:=⟨_,xab hlt⟩;have Ef:c∈all:=xax o8;obtain⟨wC,UU,hce⟩:=tb.l7 Ef;rw[Ws o8]at F9;have ym:∀c'∈c::all.drop (i+1),c'∈all:=by rw[<-Ws o8];exact hmD
  have Ve:∀s,iI (all.take i) s<=2097152:=λs=>by have:=vS s (all.take i);rw[xbw]at this;omega
  refine aI.r7 (r:=jL c) (by rw[xat,o8];rfl) (λz hz=>xac _ hz) ?_;intro b53 _;refine St.p (jG _) ?_;refine DR.self (Nil.ptr (ah.mk (Ld.f ?_)));refine Ld.f ?_;refine aa.fq (Le tb cj F9 RA ym Ef (k:=⟨x,c.ud,c.qy⟩) (by simp[keys]) OB Ks (λs=>by have:=Ve s;omega)) ?_;rintro w C2 ⟨t0,K2,S2,rfl,bN,Wz,T2,g0,OA,A1,ZY,Xm⟩;refine Nil.ptr (ah.mk (aa.fq (IL bN Wz OA A1 (λs=>by have:=Ve s;omega) (Wz.oo tb RA T2)) ?_));rintro w C3 ⟨K3,rfl,fG,Wy,RX,Yj,Vi,XI,Uk⟩;have Vd:∀s,(iI (all.take i) s+if s=t0 then 1 else 0)<=2097153:=λs=>by have:=Ve s;split<;>omega
  refine DR.self (Nil.ptr (ah.mk (Ld.f ?_)));refine Ld.f ?_;refine aa.fq (Le tb fG Wy RA ym Ef (k:=⟨x,c.uc,c.qx⟩) (by simp[keys]) RX Yj (λs=>by have:=Vd s;omega)) ?_;rintro w C4 ⟨t1,K4,S4,rfl,Gb,YR,T1,g1,RW,Yi,PC,Xl⟩;refine Nil.ptr (ah.mk (aa.fq (IL Gb YR RW Yi (λs=>by have:=Vd s;omega) (YR.oo tb RA T1)) ?_));rintro w C5 ⟨K5,rfl,Ek,RU,adj,Yh,Vh,XH,Uj⟩;have PM:uh K K5 (lv af) x l t0:=uh.mono T2 (λs d hs=>by rw[Vh];exact PC s d (by rw[Vi];exact hs));have PK:uh K K5 (lv af) x l t1:=uh.mono T1 (λs d hs=>by rw[Vh];exact hs);have g0':(c.ud=c.qy/\t0=c.ud)\/K5.N t0=some ⟨x,c.ud,c.qy⟩:=by
   rcases g0 with g0|g0
   ·exact .inl g0
   exact .inr (by rw[Vh];exact PC _ _ (by rw[Vi];exact g0))
  have g1':(c.uc=c.qx/\t1=c.uc)\/K5.N t1=some ⟨x,c.uc,c.qx⟩:=by
   rcases g1 with g1|g1
   ·exact .inl g1
   exact .inr (by rw[Vh];exact g1)
  have X2:((all.take i++c::all.drop (i+1)).map Cx.r).Nodup:=by rw[<-Ws o8,xbk];exact iu
  obtain⟨hTn,YQ⟩:=RU.vE tb RA ym X2 PM PK g0' g1' (P':=iI (all.take (i+1))) (λs _=>by
   rw[kQ o8,Fy,dm ⟨y,t0,t1⟩];have OV:(if t0=s then 1 else 0)=(if s=t0 then 1 else 0:Nat):=by split<;>split<;>first|rfl|(exfalso;omega)
   have e2':(if t1=s then 1 else 0)=(if s=t1 then 1 else 0:Nat):=by split<;>split<;>first|rfl|(exfalso;omega)
   simp only[OV,e2'];omega)
  have Km:∀{t:Nat},uh K K5 (lv af) x l t->live K5.N t:=λhk=>RU.oo tb RA hk;have RP:∃e,K5.N c.r=some e:=RU.kept wC;refine Build.mk (cs:=aY ⟨y,t0,t1⟩) zK λb83 _=>?_;refine St.p (λz hz=>by simp[aY,u32]at hz;rcases hz with rfl|rfl|rfl<;>rfl) ?_;obtain⟨b5,rfl,WC⟩:=Ek;refine DR.self (Nil.ptr (ah.mk (Ld.f ?_)));refine Ld.f ?_;refine av.q ?_;have Rl:y<K5.n:=by rw[RU.n];exact nb.yn
  refine aa.fq (Pa (d:=⟨y,t0,t1⟩) WC.ar ⟨by show y<64;have:=WC.Ab;omega,Km PM,Km PK⟩ RP (tb.ok.mid.two wC).1) ?_;rintro w V1 ⟨rfl,har⟩;refine DR.self (Nil.ptr (ah.mk (Ld.f ?_)));refine av.q ?_;refine Ld.f ?_;refine aa.fq (DB (d:=⟨y,t0,t1⟩) (r:=c.r) WC.ut Rl hTn) ?_;rintro w Sw ⟨rfl,Ro⟩;refine ae.inc (az.of (.skip .tail) ⟨i+1,{K5 with N:=up K5.N c.r (some ⟨y,t0,t1⟩),T:=nS K5.T ⟨y,t0,t1⟩ (some c.r)},S4,_,rfl,rfl,by omega,⟨{b5 with CA:=V1,CT:=Sw},rfl,{WC with ar:=har,ut:=Ro}⟩,by rw[kQ o8]at YQ⊢;exact YQ,λt KZ hp=>?_,λs hs=>?_,λr d Ru hrd=>?_⟩ (by simp[bL];omega))
  ·obtain⟨c',jN,iU⟩:=xJ hp;have Yz:=RA c' jN;have KM:=(tb.l7 Yz).1;have hlv:live K.N t:=by
    rcases iU with rfl|rfl
    ·exact tb.ok.mid.lo KM
    exact tb.ok.mid.hi KM
   rcases hlv with hlv|⟨d,hd⟩
   ·omega
   exact YQ.kept hd
  ·have hs':up K5.N c.r (some ⟨y,t0,t1⟩) s=none:=hs;have hne:s≠c.r:=λe=>by subst e;rw[aD]at hs';cases hs'
   rw[aE hne]at hs';exact Yh s hs'
  have Rq:up K5.N c.r (some ⟨y,t0,t1⟩) r=some d:=hrd;have hne:r≠c.r:=λe=>by rw[e,wC]at Ru;cases Ru
  rw[aE hne,Vh]at Rq;have Iw:2<=r:=(YR.mid.two Rq).1;show 0<K5.use r;rcases Xl r d Rq with e|⟨h3,hu3⟩
  ·rw[e]at Iw⊢;exact Uj Iw
  rw[Vi]at h3;have h5:=XH r;rcases Xm r d h3 with e|⟨h1,Wh⟩
  ·rw[e]at Iw⊢h5 hu3;have:=Uk Iw;omega
  have:=P1 r d Ru h1;have:=XI r;omega
 have hi':i=all.length:=by omega
 subst hi';rw[xbh,xc9]at F9;rw[xbh]at OB;have uP:=IS tb F9 P1;refine aI.bH ?_;rw[xaz];refine⟨λvs H=>∃(i:Nat) (K2:Kd) (C2:Hp),vs=[iv (i:Int)]/\H=Na++C2/\i<=all.length/\cv kp K2 ord af tr C2/\gZ K2 S1 fZ (iI (all.drop i))/\Pos K2/\PL (iI (all.drop i)) K2.N/\ug K2 K1,
  λvs _=>all.length-bL vs 0,JE.mk ⟨0,K1,C1,rfl,rfl,xaK _,cj,F9.mid.congr (λs=>by simp[fZ]) (λ_ _=>rfl),uP,OB,.refl K1⟩,?_⟩
 clear cj OB hi Oi C1;rintro w H ⟨i,K2,C2,hw,rfl,hi,bN,Ej,pJ,OA,c9⟩ gs;simp only[xau,xaY]at hw;subst hw;refine ae.fe (Br.dec (λhlt=>?_) (λOi=>?_))
 ·obtain⟨c,o8⟩:∃c,all[i]? =some c:=⟨_,xab hlt⟩;have Ef:c∈all:=xax o8;obtain⟨wC,UU,hce⟩:=tb.l7 Ef;have Ve:∀s,iI (all.drop i) s<=2097152:=λs=>by have:=vS s (all.drop i);rw[xct]at this;omega
  have hlo:=h0.lt (hok.mid.lo wC);have hhi:=h0.lt (hok.mid.hi wC);refine aI.r7 (r:=jL c) (by rw[xat,o8];rfl) (λz hz=>xac _ hz) ?_;intro ad9 _;refine St.p (jG _) ?_;refine DR.self (Nil.ptr (ah.mk (ah.mk (Ld.f ?_))));have A1:Idle K2:=c9.idle Ks;have XJ:∀s,K2.use s<2147483648:=λs=>by have:=rA Ej A1 Ve s;omega
  rw[Ws o8,Jq]at Ej OA;refine aa.fq (jV bN Ej pJ OA hlo XJ) ?_;rintro w C3 ⟨rfl,K3,fG,OC,Uo,RX,Ko⟩;refine DR.self (Nil.ptr (ah.mk (ah.mk (Ld.f ?_))));refine aa.fq (jV fG OC Uo RX hhi (λs=>xaR (Ko.us s) (XJ s))) ?_;rintro w C4 ⟨rfl,K4,Gb,hM4,hp4,RW,RB⟩;exact ae.inc (az.of .tail ⟨i+1,K4,C4,rfl,rfl,by omega,Gb,hM4,hp4,RW,RB.trans (Ko.trans c9)⟩ (by simp[bL];omega))
 have hi':i=all.length:=by omega
 subst hi';rw[xc9]at Ej;have A1:Idle K2:=c9.idle Ks;obtain⟨f1,f2,f3⟩:=F9.fin tb (K':=K2) (Ej.congr (λ_=>xdb) (λ_ _=>rfl)) pJ (λh=>c9.N h) c9.n (λr=>by show K2.ho.getD r 0=K1.ho.getD r 0;rw[c9.ho]);have FY:K2.n=K.n:=by rw[c9.n,F9.n]
 obtain⟨b2,rfl,Vg⟩:=bN;refine DR.self (Ld.n ?_);refine Ld.n ?_;refine ae.inc (Vg.od.jW (x:=(y:Int)) (.app (.cons (.app (.app (.app (.app .left)))))) (by rw[ag];omega) λCO1 Ec=>?_);refine Ec.jW (x:=(x:Int)) (.app (.cons (.app (.app (.app (.app .left)))))) (by rw[xbG,ag];omega) λCO2 yo=>?_;refine DR.self (Ld.n ?_);refine Ld.n ?_;refine ae.inc ?_;have uQ:=Vg.ol.2;have XC:=nb.xn;have Rl:=nb.yn;refine Vg.lv.jW (x:=((l+1:Nat):Int)) (.app (.cons (.app (.app (.app (.app (.app .left))))))) (by rw[ag];omega) λCL1 xd=>?_;refine xd.jW (x:=(l:Int)) (.app (.cons (.app (.app (.app (.app (.app .left))))))) (by rw[xbG,ag];omega) λCL2 qp=>?_;rw[er,er]at yo qp;have SI:(ord.set l y).set (l+1) x=ej ord l:=by rw[hx,hy];rfl
 rw[SI]at yo;have hlv:lv ((af.set x (l+1)).set y l)=qG (lv af) x y l:=QZ nb.ne zO zO;refine aN.mk .right (.inl ⟨by omega,rfl,K2,S1,_,⟨{b2 with CO:=CO2,CL:=CL2},rfl,{Vg with od:=yo,lv:=qp,ol:=?_}⟩,by rw[hlv];exact f1,by rw[hlv,FY,hx,hy];exact Nf ho hl,A1,FY,by rw[c9.cap,F9.cap],λr=>?_,f2,f3⟩)
 ·rw[jS];simp;exact Vg.ol
 show K2.ho.getD r 0=K.hold r;rw[c9.ho];exact F9.hold r
end
structure br(kp:Nat)(K:Kd)(S:Nat->aq.Fn)(ord af tr:zL)(C:Hp):Prop where
 rep:cv kp K ord af tr C
 ok:Ok K S (lv af)
 od:Ord K.n (lv af) ord
 idle:Idle K
 tr:ue K.n K.cap (K.held S) ord tr.reverse
theorem Kept.refl(K:Kd)(S:Nat->aq.Fn):Kept K S K S:=⟨rfl,rfl,λ_=>rfl,λ_=>xdb,λ_ _=>rfl⟩
theorem Kept.trans{K K' K2:Kd}{S S' S2:Nat->aq.Fn}(h:Kept K S K' S')(h':Kept K' S' K2 S2):Kept K S K2 S2:=
 ⟨h'.n.trans h.n,h'.cap.trans h.cap,λr=>(h'.hold r).trans (h.hold r),λg=>(h'.held g).trans (h.held g),λr hr=>(h'.fn r (by rw[h.hold];exact hr)).trans (h.fn r hr)⟩
section
variable {kp:Nat} {K:Kd} {ord af tr:zL} {C:Hp} {S:Nat->aq.Fn}
theorem Eu(h:br kp K S ord af tr C){l:Nat}(hl:l+1<K.n)(ot:tr.length<17592186044416):Fc zQ 96 #[ptr kp,iv (l:Int)] C (λr C'=>
   (xm K.n ord l (K.held S)+2<=K.cap/\r=iv 0/\∃K' S' dK,br kp K' S' (ej ord l) dK (tr++[l]) C'/\Kept K S K' S')\/
   (K.cap<xm K.n ord l (K.held S)+2/\r=iv 9/\C'=C)):=by
 have h0:=h;obtain⟨b,hC,hO⟩:=h.rep;have hn:=hO.Ab;refine aS λg=>GM (ae.bf (Br.no (ae.lss (dr.or (decide ((K.n:Int) -2<l)) (λ_=>?_) zI λgs=>?_))))
 ·refine Ld.v (by rw[hC];exact .head _) ?_;exact ae.I5 (c:=(K.n:Int) -2) rfl zO (ae.gtr ⟨rfl,rfl⟩)
 rw[<-xbO];refine Br.F (aa.fq (DC h.rep h.ok h.od h.idle hl) ?_);rintro w C' (⟨hfit,rfl,K',S',dK,dc,wx,Rx,sw,ou⟩|⟨hno,rfl,rfl⟩)
 ·refine Un.not (Br.no ?_);obtain⟨b',rfl,tW⟩:=dc;refine Ld.n ?_;refine ai.int (e:=3) zK zK zK λbx=>?_;refine tW.tr.kx (.cons (.cons (.app (.app (.app (.app (.app (.app .here)))))))) (by exact .head _) (by rw[ag];omega) (by rw[ag];omega) λv' IA cg=>?_;refine Nil.ptr (ah.mk (St.one (by exact .tail (.head _)) cg.one (by simp[qQ.cells]) rfl ?_));refine aN.mk .tail (.inl ⟨hfit,rfl,K',S',dK,⟨⟨{b' with vt:=v',CR:=IA},rfl,{tW with tr:=by rw[bV];exact cg}⟩,wx,Rx,sw,?_⟩,ou⟩);rw[ou.n,ou.cap];exact(ue.Zr hO.ol.1 hl hfit h.tr).congr λg=>(ou.held g).symm
 exact Un.not (Br.yes (aN.here (.inr ⟨hno,rfl,rfl⟩)))
theorem M6{l:Nat}(h:br kp K S ord af (tr++[l]) C)(ot:tr.length<17592186044416):Fc zQ 159 #[ptr kp] C (λr C'=>
   r=.tuple #[iv (l:Int),iv 0]/\l+1<K.n/\∃K' S' dK,br kp K' S' (ej ord l) dK tr C'/\Kept K S K' S'):=by
 have h0:=h;obtain⟨b,hC,hO⟩:=h.rep;have hn:=hO.Ab;have Ue:=h.tr;rw[List.reverse_append]at Ue;obtain⟨hl,hfit,tR⟩:l+1<K.n/\xm K.n ord l (K.held S)+2<=K.cap/\ue K.n K.cap (K.held S) (ej ord l) tr.reverse:=Ue;have hmk:(kp,Obj.cells (b.cells K.n) 103 zZ)∈C:=by rw[hC];exact .head _
 refine aS λg=>Cg (ae.bf (dr.or false (λ_=>?_) rfl λgs=>Br.no ?_))
 ·refine Ld.v hmk ?_;refine hO.tr.bH (ae.kH ⟨rfl,?_⟩);rw[xas];rw[ag,xai];simp;omega
 refine Ld.v hmk ?_;refine hO.tr.bH ?_;rw[ag,xai];refine ae.bP (a:=tr.length+1) (b:=1) ?_;rw[xbQ];refine Ld.v hmk ?_;refine hO.tr.ld (i:=tr.length) (x:=(l:Int)) (by rw[bV];simp[iw]) (by rw[hC];exact aU.sub (.cons (.app (.app (.app (.app (.app (.app .here)))))))) (aa.fq (DC h.rep h.ok h.od h.idle hl) ?_);rintro w C' (⟨_,rfl,K',S',dK,dc,wx,Rx,sw,ou⟩|⟨hno,rfl,rfl⟩);rotate_left
 ·omega
 obtain⟨b',rfl,tW⟩:=dc;refine Ld.n ?_;refine tW.tr.cut (i:=tr.length) (by rw[ag];simp) λv' tQ=>?_;refine Nil.ptr (ah.mk (St.one (by exact .head _) tQ.one (by simp[qQ.cells]) rfl ?_));refine aN.here ⟨rfl,hl,K',S',dK,⟨⟨{b' with vt:=v'},rfl,{tW with tr:=by rw[bV,xdf zI]at tQ;exact tQ}⟩,wx,Rx,sw,?_⟩,ou⟩;rw[ou.n,ou.cap];exact tR.congr λg=>(ou.held g).symm
theorem br.bp(h:br kp K S ord af tr C){r:Nat}(hl:live K.N r):r<1048576:=h.rep.lt hl
theorem br.fT(h:br kp K S ord af tr C)(r:Nat):K.hold r<=65535:=h.ok.mid.mx r
theorem br.Ao(h:br kp K S ord af tr C)(r:Nat):K.use r<=2097153:=by have:=rA h.ok.mid h.idle (M:=0) (λ_=>xak _) r;omega
structure Ph(K K':Kd)(r:Nat):Prop where
 n:K'.n=K.n
 cap:K'.cap=K.cap
 used:K'.used=K.used
 N:K'.N=K.N
 hold:∀s,K'.hold s=if s=r/\2<=r then K.hold s+1 else K.hold s
theorem pF(h:br kp K S ord af tr C){r:Nat}(hl:live K.N r)(h2:2<=r)(hf:K.hold r=65535):Rd zQ 107 #[ptr kp,u32 r] C (· =iv 8):=by
 have hr:=h.bp hl;obtain⟨b,hC,hO⟩:=h.rep;have hfit:r<K.ho.length:=by
  rcases hl with hl|⟨d,hd⟩
  ·omega
  rw[<-hO.ul.1];exact h.ok.mid.fit hd
 refine aS λg=>tu (ae.bf (Br.no (Nil.ptr (ah.mk (aa.eq (lH h.rep zO) ?_)))));rw[bF.2 hl];refine Un.not (Br.no λJ7 _=>(ae.kG (b:=1) (Br.T (Nil.ptr (ah.mk (Ld.u (by rw[hC];exact .head _) ?_))))));refine hO.ho.ld (x:=((K.hold r:Nat):Int)) (bc hfit) (by rw[hC];exact aU.sub (.cons (.app (.app (.app .left))))) ?_;rw[hf];exact ae.kH (Br.T (bX.mk (.refl _) rfl))
theorem yd(h:cv kp K ord af tr C)(S7:gZ K S fZ zero')(Oh:Idle K){r:Nat}(hl:live K.N r)(hf:2<=r->K.hold r<65535):Fc zQ 107 #[ptr kp,u32 r] C (λv C'=>v=iv 0/\∃K',cv kp K' ord af [] C'/\
  gZ K' S fZ zero'/\Idle K'/\Ph K K' r/\(∀s,K.use s<=K'.use s)/\(2<=r->0<K'.use r)):=by
 have hr:=h.lt hl;have h0:=h;obtain⟨b,hC,hO⟩:=h;refine aS λg=>tu (ae.bf (Br.no (Nil.ptr (ah.mk (aa.eq (lH h0 zO) ?_)))));rw[bF.2 hl];refine Un.not (Br.no λJ7 hJ7=>?_);have fin:∀(K':Kd) C1,cv kp K' ord af tr C1->gZ K' S fZ zero'->Idle K'->Ph K K' r->(∀s,K.use s<=K'.use s)->(2<=r->0<K'.use r)->J7 [] C1:=λK' C1 dc wx sw hm hu hp=>by
  refine hJ7 _ λgs=>?_;obtain⟨b',rfl,tW⟩:=dc;refine Nil.ptr (ah.mk (St.one (by exact .head _) rfl (by simp[qQ.cells]) rfl ?_));refine aN.mk (gp:=({b' with vt:=.slice none 0 0,CR:=[]}:qQ).hp kp K'.n) ?_ ⟨rfl,K',⟨{b' with vt:=.slice none 0 0,CR:=[]},rfl,{tW with tr:=aL.nil}⟩,wx,sw,hm,hu,hp⟩;refine .cons (.cM (.cM (.cM (.cM (.cM (.cM .nil _) _) _) _) _) _)
 refine ae.kG (b:=1) (Br.dec (λh2=>?_) (λh2=>?_));rotate_left
 ·refine JE.mk (fin K C h0 S7 Oh ⟨rfl,rfl,rfl,rfl,λs=>?_⟩ (λ_=>xak _) (λh=>by omega));rw[xad zO]
 have kF:2<=r:=by omega
 have wy:=hf kF;obtain⟨d,hd⟩:∃d,K.N r=some d:=by
  rcases hl with hl|hl
  ·omega
  exact hl
 have UN:=S7.fit hd;have FR:=hO.ul;have hfit:r<K.ho.length:=by omega
 subst hC;refine Nil.ptr (ah.mk (Ld.f ?_));refine hO.ho.ld (x:=((K.hold r:Nat):Int)) (bc hfit) (aU.sub (.cons (.app (.app (.app .left))))) (ae.kH (Br.F (Nil.ptr (ah.mk (Ld.f ?_)))));refine hO.ho.ld (x:=((K.hold r:Nat):Int)) (bc hfit) (aU.sub (.cons (.app (.app (.app .left))))) (ae.inc (hO.ho.jW (x:=((K.hold r+1:Nat):Int)) (.cons (.app (.app (.app .left)))) (by rw[ag];exact hfit) λMA mQ=>?_));rw[er]at mQ;have g1:∀s,(K.ho.set r (K.hold r+1)).getD s 0=if s=r then K.hold r+1 else K.hold s:=λs=>fy hfit
 refine Nil.ptr (ah.mk (Ld.f ?_));refine mQ.ld (x:=((K.hold r+1:Nat):Int)) (by rw[bc (by simpa using hfit),g1,xae rfl]) (aU.sub (.cons (.app (.app (.app .left))))) ?_;refine ae.bA (b:=1) (Br.dec (λh3=>?_) (λh3=>?_))
 ·refine Nil.ptr (ah.mk (Ld.f ?_));refine hO.us.ld (x:=((K.use r:Nat):Int)) (bc UN) (aU.sub (.cons (.app (.app .left)))) ?_;have XJ:=rA S7 Oh (M:=0) (λ_=>xak _) r;refine ae.inc (hO.us.jW (x:=((K.use r+1:Nat):Int)) (.cons (.app (.app .left))) (by rw[ag];exact UN) λMV tE=>?_);rw[er]at tE;have g2:∀s,(K.us.set r (K.use r+1)).getD s 0=if s=r then K.use r+1 else K.use s:=λs=>fy UN
  have hM:=S7.keep (r:=r) (cN:=K.us.set r (K.use r+1)) (cg:=K.ho.set r (K.hold r+1)) ⟨d,hd⟩ wy zI (by rw[g1,xae rfl]) (λs hs=>by rw[g1,xad hs]) (by rw[g2,xae rfl,xae zO]) (λs hs=>by rw[g2,xad hs]);refine JE.mk (fin {K with us:=K.us.set r (K.use r+1),ho:=K.ho.set r (K.hold r+1)} _ ⟨{b with CU:=MV,CH:=MA},rfl,{hO with us:=tE,ho:=mQ,ul:=by simp;exact FR}⟩ hM (λs hs=>?_) ⟨rfl,rfl,rfl,rfl,λs=>?_⟩ (λs=>?_) (λ_=>?_))
  ·show(K.us.set r (K.use r+1)).getD s 0=0;have hs':K.N s=none:=hs;rw[g2,xad (λe=>by rw[e,hd]at hs';cases hs')];exact Oh s hs'
  ·show(K.ho.set r (K.hold r+1)).getD s 0=_;rw[g1];by_cases e:s=r
   ·subst e;rw[xae rfl,xae ⟨rfl,kF⟩]
   rw[xad e,xad (λh=>e h.1)]
  ·show K.use s<=(K.us.set r (K.use r+1)).getD s 0;rw[g2];split
   ·rename_i e;subst e;omega
   exact xak _
  show 0<(K.us.set r (K.use r+1)).getD r 0;rw[g2,xae rfl];omega
 have hM:=S7.keep (r:=r) (cN:=K.us) (cg:=K.ho.set r (K.hold r+1)) ⟨d,hd⟩ wy zI (by rw[g1,xae rfl]) (λs hs=>by rw[g1,xad hs]) (by show K.use r=_;rw[xad zO];rfl) (λs hs=>rfl);refine JE.mk (fin {K with ho:=K.ho.set r (K.hold r+1)} _ ⟨{b with CH:=MA},rfl,{hO with ho:=mQ,ul:=by simp;exact FR}⟩ hM Oh ⟨rfl,rfl,rfl,rfl,λs=>?_⟩ (λ_=>xak _) (λ_=>?_));rotate_left
 ·show 0<K.use r;rw[S7.use hd,xad zO];omega
 show(K.ho.set r (K.hold r+1)).getD s 0=_;rw[g1];by_cases e:s=r
 ·subst e;rw[xae rfl,xae ⟨rfl,kF⟩]
 rw[xad e,xad (λh=>e h.1)]
theorem mE(h:br kp K S ord af tr C){r:Nat}(hl:live K.N r)(hf:2<=r->K.hold r<65535):Fc zQ 107 #[ptr kp,u32 r] C (λv C'=>v=iv 0/\∃K',br kp K' S ord af [] C'/\Ph K K' r):=by
 refine(yd h.rep h.ok.mid h.idle hl hf).mono ?_;rintro v C' ⟨rfl,K',dc,WD,sw,hm,hu,hp⟩;refine⟨rfl,K',⟨dc,⟨WD,λs d hs=>?_,by rw[hm.n];exact h.ok.lv,by rw[hm.n,hm.N];exact h.ok.wf⟩,by rw[hm.n];exact h.od,sw,trivial⟩,hm⟩;rw[hm.N]at hs;exact xa2 (h.ok.pos s d hs) (hu s)
end
section
variable {kp:Nat} {K:Kd} {ord af tr:zL} {C:Hp} {S:Nat->aq.Fn}
theorem D3{K':Kd}{P:Nat->Nat}(hw:WF K.n (lv af) K.N)(hM:gZ K' S fZ P)(hN:∀{s d},K'.N s=some d->K.N s=some d)(hn:K'.n=K.n):WF K'.n (lv af) K'.N:=by
 have same:∀{t},live K'.N t->dep K'.n (lv af) K'.N t=dep K.n (lv af) K.N t:=λ{t} ht=>by
  cases e:K'.N t with
  |some f=>rw[an e,an (hN e)]
  |none=>
   have Kf:t<2:=by
    rcases ht with ht|⟨f,hf⟩
    ·exact ht
    rw[e]at hf;cases hf
   rw[aT e,aT (hw.const Kf),hn]
 refine hM.wf λ{s d} hs=>?_;rw[same (hM.lo hs),same (hM.hi hs)];exact⟨(hw.lo (hN hs)).2,(hw.hi (hN hs)).2⟩
structure tw(K K':Kd)(r:Nat):Prop where
 n:K'.n=K.n
 cap:K'.cap=K.cap
 N:∀s d,K'.N s=some d->K.N s=some d
 hold:∀s,K'.hold s=if s=r/\2<=r then K.hold s-1 else K.hold s
theorem VE(h:br kp K S ord af tr C){r:Nat}(hr:r<4294967296)(h2:2<=r)(h0:K.hold r=0):Rd zQ 61 #[ptr kp,u32 r] C (· =iv 3):=by
 refine aS λg=>vw (ae.bf (Br.no ?_));intro J2 _;refine ae.kG (b:=1) (Br.T (aa.eq (si h.rep hr (λs=>by have:=h.fT s;omega)) ?_));rw[h0];exact ae.kH (Br.T (bX.mk (.refl _) rfl))
theorem ki(h:br kp K S ord af tr C){r:Nat}(hr:r<4294967296)(hh:2<=r->K.hold r≠0):Fc zQ 61 #[ptr kp,u32 r] C (λv C'=>v=iv 0/\∃K',br kp K' S ord af [] C'/\tw K K' r):=by
 have h0:=h;obtain⟨b,hC,hO⟩:=h.rep;refine aS λg=>vw (ae.bf (Br.no ?_));intro J2 A4;have fin:∀(K':Kd) C1,cv kp K' ord af tr C1->Ok K' S (lv af)->Idle K'->tw K K' r->J2 [] C1:=λK' C1 dc wx sw hm=>by
  refine A4 _ λgs=>?_;obtain⟨b',rfl,tW⟩:=dc;refine Nil.ptr (ah.mk (St.one (by exact .head _) rfl (by simp[qQ.cells]) rfl ?_));have jD:Ord K'.n (lv af) ord:=by rw[hm.n];exact h.od
  refine aN.mk (gp:=({b' with vt:=.slice none 0 0,CR:=[]}:qQ).hp kp K'.n) ?_ ⟨rfl,K',⟨⟨{b' with vt:=.slice none 0 0,CR:=[]},rfl,{tW with tr:=aL.nil}⟩,wx,jD,sw,trivial⟩,hm⟩;refine .cons (.cM (.cM (.cM (.cM (.cM (.cM .nil _) _) _) _) _) _)
 refine ae.kG (b:=1) (Br.dec (λh2=>?_) (λh2=>?_));rotate_left
 ·exact JE.mk (fin K C h.rep h.ok h.idle ⟨rfl,rfl,λ_ _ h=>h,λs=>by rw[xad zO]⟩)
 have kF:2<=r:=by omega
 have mQ:=hh kF;obtain⟨d,hd⟩:=h.ok.mid.held r mQ;have UN:=h.ok.mid.fit hd;have FR:=hO.ul;have hfit:r<K.ho.length:=by omega
 have hle:=h.fT r;refine aa.eq (si h.rep hr (λs=>by have:=h.fT s;omega)) (ae.kH (Br.F ?_));subst hC;refine Nil.ptr (ah.mk (Ld.f ?_));refine hO.ho.ld (x:=((K.hold r:Nat):Int)) (bc hfit) (aU.sub (.cons (.app (.app (.app .left))))) (ae.bP (b:=1) (hO.ho.jW (x:=((K.hold r-1:Nat):Int)) (.cons (.app (.app (.app .left)))) (by rw[ag];exact hfit) λMA RI=>?_));rw[er]at RI;have g1:∀s,(K.ho.set r (K.hold r-1)).getD s 0=if s=r then K.hold r-1 else K.hold s:=λs=>fy hfit
 have hM:=h.ok.mid.drop (r:=r) (cg:=K.ho.set r (K.hold r-1)) zO zI (by rw[g1,xae rfl];omega) (λs hs=>by rw[g1,xad hs]);have cj:cv kp {K with ho:=K.ho.set r (K.hold r-1)} ord af tr (({b with CH:=MA}:qQ).hp kp K.n):=⟨_,rfl,{hO with ho:=RI,ul:=by simp;exact FR}⟩;have UI:∀s,(K.ho.set r (K.hold r-1)).getD s 0=if s=r/\2<=r then K.hold s-1 else K.hold s:=λs=>by
  rw[g1];by_cases e:s=r
  ·subst e;rw[xae rfl,xae ⟨rfl,kF⟩]
  rw[xad e,xad (λh=>e h.1)]
 refine Nil.ptr (ah.mk (Ld.f ?_));refine RI.ld (x:=((K.hold r-1:Nat):Int)) (by rw[bc (by simpa using hfit),g1,xae rfl]) (aU.sub (.cons (.app (.app (.app .left))))) (ae.bA (b:=0) (Br.dec (λh3=>?_) (λh3=>?_)));rotate_left
 ·rw[xad zO]at hM;exact JE.mk (fin {K with ho:=K.ho.set r (K.hold r-1)} _ cj ⟨hM,h.ok.pos,h.ok.lv,h.ok.wf⟩ h.idle ⟨rfl,rfl,λ_ _ h=>h,UI⟩)
 rw[xae zO]at hM;refine Nil.ptr (ah.mk ?_);have Ej:gZ {K with ho:=K.ho.set r (K.hold r-1)} S fZ (fB zero' [r]):=hM.congr (λ_=>xdb) λs _=>by
  unfold up fB zero';by_cases e:s=r
  ·subst e;simp
  simp[e,xbp e]
 refine aa.fq (jV (P0:=zero') cj Ej h.ok.pos (λt KZ h0=>?_) (h.bp (.inr ⟨d,hd⟩)) (λs=>by have:=h.Ao s;show K.use s<_;omega)) ?_
 ·by_cases e:t=r
  ·subst e;exact⟨d,hd⟩
  have Td:0<zero' t+[r].count t:=h0;simp[zero',xbp e]at Td
 rintro w C2 ⟨rfl,K2,bN,OC,Uo,_,c9⟩;refine JE.mk (fin K2 _ bN ⟨OC,Uo,by rw[c9.n];exact h.ok.lv,D3 h.ok.wf OC (λh=>c9.N h) c9.n⟩ (c9.idle h.idle) ⟨c9.n,c9.cap,λs e hs=>c9.N hs,λs=>?_⟩);show K2.ho.getD s 0=_;rw[c9.ho];exact UI s
structure nj(K:Kd)(S:Nat->aq.Fn)(K':Kd)(S':Nat->aq.Fn)(f:aq.Fn)(r:Nat):Prop where
 n:K'.n=K.n
 cap:K'.cap=K.cap
 used:K'.used<=K.used+1
 N:∀s d,K.N s=some d->K'.N s=some d
 fn:∀s,live K.N s->S' s=S s
 live:live K'.N r
 is:S' r=f
 hold:∀s,K'.hold s=if s=r/\2<=r then K.hold s+1 else K.hold s
theorem vY(h:br kp K S ord af tr C){v lo hi:Nat}(hv:v<K.n)(hlo:live K.N lo)(hhi:live K.N hi)(hlt:lo=hi\/(lv af v<dep K.n (lv af) K.N lo/\lv af v<dep K.n (lv af) K.N hi)):
  Fc zQ 108 #[ptr kp,iv (v:Int),u32 lo,u32 hi] C (λw C'=>
   (∃r K' S',w=.tuple #[u32 r,iv 0]/\br kp K' S' ord af [] C'/\nj K S K' S' (ite S ⟨v,lo,hi⟩) r)\/
   (∃r,w=.tuple #[u32 0,iv 8]/\C'=C/\live K.N r/\2<=r/\K.hold r=65535/\S r=ite S ⟨v,lo,hi⟩)\/
   (w=.tuple #[u32 0,iv 9]/\C'=C/\K.cap<=K.used/\lo≠hi/\K.T ⟨v,lo,hi⟩=none)):=by
 have h0:=h;have X7:=h.bp hlo;have Yk:=h.bp hhi;have xd:=bF.2 hlo;have qp:=bF.2 hhi;have Yt:nf K af (v:Int) lo hi=0:=by
  unfold nf;rw[xad zO,xad (by rw[xd,qp];simp),xad];rintro⟨hne,hmin⟩;rcases hlt with e|⟨a,b⟩
  ·exact hne e
  simp only[xco,lv]at hmin a b;omega
 refine aS λg=>Dm (ae.bf (Br.no (aa.eq (Er h.rep (v:Int) zO zO (λr d hd=>⟨h.ok.mid.var hd,(h.ok.mid.two hd).1⟩)) ?_)));rw[Yt];refine ae.dz (Br.F (aa.rq (DK h.rep (lo:=lo) (hi:=hi) hv) ?_));rintro w hw;have there:∀(J9:List zV->Hp->Prop),(∀V3:zV,∀VX:Hp,(∀adK:Fr,aa zQ g 107 #[ptr kp,V3] VX (λV5 Tu=>ae .num .neq V5 (Value.int .i64 0) λv15=>Br v15
   (aN (λw C'=>(∃r K' S',w=.tuple #[u32 r,iv 0]/\br kp K' S' ord af [] C'/\nj K S K' S' (ite S ⟨v,lo,hi⟩) r)\/
   (∃r,w=.tuple #[u32 0,iv 8]/\C'=C/\live K.N r/\2<=r/\K.hold r=65535/\S r=ite S ⟨v,lo,hi⟩)\/
   (w=.tuple #[u32 0,iv 9]/\C'=C/\K.cap<=K.used/\lo≠hi/\K.T ⟨v,lo,hi⟩=none)) (.returned (.tuple #[(Value.int .u32 0),V5])) Tu) (aN (λw C'=>(∃r K' S',w=.tuple #[u32 r,iv 0]/\br kp K' S' ord af [] C'/\nj K S K' S' (ite S ⟨v,lo,hi⟩) r)\/
   (∃r,w=.tuple #[u32 0,iv 8]/\C'=C/\live K.N r/\2<=r/\K.hold r=65535/\S r=ite S ⟨v,lo,hi⟩)\/
   (w=.tuple #[u32 0,iv 9]/\C'=C/\K.cap<=K.used/\lo≠hi/\K.T ⟨v,lo,hi⟩=none)) (.returned (.tuple #[V3,(Value.int .i64 0)])) Tu)) (cK (aN (λw C'=>(∃r K' S',w=.tuple #[u32 r,iv 0]/\br kp K' S' ord af [] C'/\nj K S K' S' (ite S ⟨v,lo,hi⟩) r)\/
   (∃r,w=.tuple #[u32 0,iv 8]/\C'=C/\live K.N r/\2<=r/\K.hold r=65535/\S r=ite S ⟨v,lo,hi⟩)\/
   (w=.tuple #[u32 0,iv 9]/\C'=C/\K.cap<=K.used/\lo≠hi/\K.T ⟨v,lo,hi⟩=none)))))->J9 [V3] VX)->
   ∀r,live K.N r->S r=ite S ⟨v,lo,hi⟩->J9 [u32 r] C:=λJ9 KX r hr hS=>by
  refine KX _ _ λgs=>?_;by_cases hf:2<=r/\K.hold r=65535
  ·exact aa.eq (pF h hr hf.1 hf.2) (ae.dz (Br.T (aN.here (.inr (.inl ⟨r,rfl,rfl,hr,hf.1,hf.2,hS⟩)))))
  refine aa.fq (mE h hr (λh2=>by have:=h.fT r;omega)) ?_;rintro w C' ⟨rfl,K',dc,hm⟩;refine ae.dz (Br.F (aN.here (.inl ⟨r,K',S,rfl,dc,⟨hm.n,hm.cap,by rw[hm.used];omega,λs d hs=>by rw[hm.N];exact hs,λ_ _=>rfl,by rw[hm.N];exact hr,hS,hm.hold⟩⟩)))
 by_cases he:lo=hi
 ·rw[xae he]at hw;subst hw;refine Ext.two λJ9 KX=>(Un.not (Br.no (JE.mk (there J9 KX lo hlo ?_))))
  funext z
  unfold aq.ite;simp[he]
 rw[xad he]at hw;have gv:lv af v<dep K.n (lv af) K.N lo/\lv af v<dep K.n (lv af) K.N hi:=by
  rcases hlt with e|e
  ·exact absurd e he
  exact e
 obtain⟨o,ho⟩:∃o,o=K.T ⟨v,lo,hi⟩:=⟨_,rfl⟩;cases o with
 |some r=>
  have hT:K.T ⟨v,lo,hi⟩=some r:=ho.symm;rw[hT]at hw;subst hw;refine Ext.two λJ9 KX=>?_;have hN:=((h.ok.mid.iG _ r).1 hT).1;refine Un.not (Br.no (JE.mk (there J9 KX r (.inr ⟨_,hN⟩) ?_)))
  funext z
  rw[h.ok.mid.int.node hN];rfl
 |none=>
  have hT:K.T ⟨v,lo,hi⟩=none:=ho.symm;rw[hT]at hw;subst hw;refine Ext.two λJ9 KX=>(Un.not (Br.yes (Nil.ptr (ah.mk ?_))));have hcap:=h.ok.mid.cap;refine aa.eq (x9 h.rep (m:=1) zO zO) (Un.not ?_);by_cases hroom:K.used+1<=K.cap;rotate_left
  ·rw[xas hroom];exact Br.yes (aN.here (.inr (.inr ⟨rfl,rfl,by omega,he,hT⟩)))
  rw[xaA hroom];refine Br.no (Nil.ptr (ah.mk (Build.mk (cs:=aY ⟨v,lo,hi⟩) zK ?_)));have hfit:∀{t:Nat},live K.N t->t<2\/t<K.us.length:=λht'=>by
   rcases ht' with ht'|⟨d,cV⟩
   ·exact .inl ht'
   exact .inr (h.ok.mid.fit cV)
  have yq:K.n<=64:=by obtain⟨_,_,hO⟩:=h.rep;exact hO.Ab
  refine aa.fq (DE h.rep (d:=⟨v,lo,hi⟩) ⟨by show v<64;omega,hlo,hhi⟩ hv hT zO (hfit hlo) (hfit hhi) (λs=>by have:=h.Ao s;omega)) ?_;rintro w C1 ⟨r,cN,cg,rfl,hN,h2,hrc,hlen,XP,FR,u0,u1,u2,o0,o1,cj⟩;have Ga:=h.ok.mid.lay (r:=r) (d:=⟨v,lo,hi⟩) hN ⟨h2,hrc⟩ hv he hlo hhi hT (λh=>h) rfl zO hlen ⟨XP,FR⟩ u0 u1 o0 o1;have YT:∀s d,K.N s=some d->up K.N r (some ⟨v,lo,hi⟩) s=some d:=λs d hs=>by rw[aE (λe=>by rw[e,hN]at hs;cases hs)];exact hs
  have hne:∀{t:Nat},live K.N t->t≠r:=λht=>eP ht h2 hN;have Ks:Idle {K with N:=up K.N r (some ⟨v,lo,hi⟩),T:=nS K.T ⟨v,lo,hi⟩ (some r),used:=K.used+1,us:=cN,ho:=cg}:=λs hs=>by
   have hs':up K.N r (some ⟨v,lo,hi⟩) s=none:=hs;have Kg:s≠r:=λe=>by subst e;rw[aD]at hs';cases hs'
   rw[aE Kg]at hs';show cN.getD s 0=0;by_cases Tc:2<=s
   ·rw[u1 s Tc Kg,h.idle s hs',dm];have a1:lo≠s:=λe=>by
     rcases hlo with h5|⟨d,h5⟩
     ·omega
     rw[e,hs']at h5;cases h5
    have a2:hi≠s:=λe=>by
     rcases hhi with h5|⟨d,h5⟩
     ·omega
     rw[e,hs']at h5;cases h5
    simp[a1,a2]
   rw[u2 s zO,h.idle s hs']
  refine JE.mk (KX _ _ λgs=>?_);refine aa.fq (yd cj Ga Ks (r:=r) (.inr ⟨_,aD⟩) (λ_=>by show cg.getD r 0<65535;rw[o0];omega)) ?_;rintro w C2 ⟨rfl,K2,bN,Ej,A1,hm,hu,hp⟩;refine ae.dz (Br.F ?_);have FY:K2.n=K.n:=hm.n;have RZ:K2.N=up K.N r (some ⟨v,lo,hi⟩):=hm.N;have hpos:Pos K2:=λs d hs=>by
   by_cases e:s=r
   ·rw[e];exact hp h2
   rw[RZ,aE e]at hs;have h3:=hu s;have h4:({K with N:=up K.N r (some ⟨v,lo,hi⟩),T:=nS K.T ⟨v,lo,hi⟩ (some r),used:=K.used+1,us:=cN,ho:=cg}:Kd).use s=cN.getD s 0:=rfl;rw[h4,u1 s (h.ok.mid.two hs).1 e]at h3;have:=h.ok.pos s d hs;omega
  have wA:∀{t:Nat},live K.N t->dep K2.n (lv af) K2.N t=dep K.n (lv af) K.N t:=λ{t} ht=>by
   rw[RZ,FY];unfold dep;rw[aE (hne ht)]
  have XD:WF K2.n (lv af) K2.N:=Ej.wf λ{s d} hs=>by
   rw[RZ]at hs;by_cases e:s=r
   ·rw[e,aD]at hs;cases hs;rw[wA hlo,wA hhi];exact gv
   rw[aE e]at hs;rw[wA (h.ok.wf.lo hs).1,wA (h.ok.wf.hi hs).1];exact⟨(h.ok.wf.lo hs).2,(h.ok.wf.hi hs).2⟩
  have hS:∀s,live K.N s->up S r (ite S ⟨v,lo,hi⟩) s=S s:=λs hs=>aE (hne hs);refine aN.here (.inl ⟨r,K2,up S r (ite S ⟨v,lo,hi⟩),rfl,⟨bN,⟨Ej,hpos,by rw[FY];exact h.ok.lv,XD⟩,by rw[FY];exact h.od,A1,trivial⟩,⟨FY,hm.cap,by rw[hm.used];exact xak _,λs d hs=>by rw[RZ];exact YT s d hs,hS,.inr ⟨_,by rw[RZ];exact aD⟩,aD,λs=>?_⟩⟩);rw[hm.hold];show(if s=r/\2<=r then cg.getD s 0+1 else cg.getD s 0)=_;by_cases e:s=r
  ·subst e;rw[xae ⟨rfl,h2⟩,xae ⟨rfl,h2⟩,o0];have:K.hold s=0:=by
    apply xde;intro hne;obtain⟨d,hd⟩:=h.ok.mid.held s hne;rw[hN]at hd;cases hd
   omega
  rw[xad (λh=>e h.1),xad (λh=>e h.1),o1 s e]
end
theorem hnew{H:Hp}:aU [] H (λX=>X++H):=aU.left
theorem Ka{n:Nat}(hn:n<=64):Fc zQ 117 #[iv (n:Int)] [] (λv H=>aL 3 .i64 v (iw (List.range n)) H):=by
 refine aS λg=>Dd (cW.ints zO zO λb=>?_);have h0:aL 3 .i64 (.slice (some ⟨b,0,none⟩) n n) (List.replicate n 0) [(b,.cells (au .i64 (List.replicate n 0)) 3 zZ)]:=by
  have:=aL.made (T:=3) (kd:=.i64) (b:=b) (List.replicate n (0:Int));rw[xcz]at this;exact this
 refine⟨λvs H=>∃j:Nat,vs=[iv (j:Int)]/\j<=n/\aL 3 .i64 (.slice (some ⟨b,0,none⟩) n n) (iw (List.range j)++List.replicate (n-j) 0) H,λvs _=>n-bL vs 0,JE.mk ⟨0,rfl,by omega,by simpa[iw]using h0⟩,?_⟩;rintro w H ⟨j,hw,hj,hs⟩ gs;simp only[xau,xaY]at hw;subst hw;refine ae.fe (Br.dec (λhlt=>?_) (λhlt=>?_))
 ·refine hs.jW (x:=(j:Int)) .here zP λC' hs'=>?_;refine ae.inc ?_;have e:(iw (List.range j)++List.replicate (n-j) 0).set j (j:Int)=iw (List.range (j+1))++List.replicate (n-(j+1)) 0:=by
   rw[xbZ _ _ zI];rw[show n-j=(n-(j+1))+1 by omega,xcO,xcC,bV];simp[iw]
  rw[e]at hs';exact az.of (.refl _) ⟨j+1,rfl,by omega,hs'⟩ (by show n-(((j+1:Nat):Int).toNat)<n-(((j:Nat):Int).toNat);omega)
 obtain rfl:j=n:=by omega
 exact aN.here (by simpa using hs)
theorem yh{n:Nat}(hn:n<=64):Fc zQ 78 #[iv (n:Int)] [] (λv H=>∃s,v=.tuple #[s,iv 0]/\aL 3 .i64 s (iw (List.range n)) H):=by
 refine aS λg=>G5 (ae.lss ?_);rw[xas zO];refine dr.or false (λ_=>ae.gtr ⟨rfl,by rw[xas zO]⟩) rfl λ_=>Br.no ?_;refine aa.fq (Ka hn) ?_;intro s H hs;exact aN.here ⟨s,rfl,hs⟩
def K0(n cap:Nat):Kd:=⟨n,cap,2,λ_=>none,λ_=>none,[],[]⟩
def S0:Nat->aq.Fn:=λr _=>decide (r=1)
theorem lz{n v:Nat}(hv:v<n):lv (List.range n) v=v:=by
 show(List.range n).getD v 0=v;simp[List.getD,hv]
theorem VV{n cap:Nat}(hc:2<=cap/\cap<=1048576):Ok (K0 n cap) S0 (lv (List.range n)):=by
 have c0:∀k,kO (λ_=>none) k=0:=λk=>by induction k with|zero=>rfl|succ k ih=>rw[kO,ih];rfl
 have hm:gZ (K0 n cap) S0 fZ zero':={
  two:=λh=>nomatch h
  var:=λh=>nomatch h
  ne:=λh=>nomatch h
  lo:=λh=>nomatch h
  hi:=λh=>nomatch h
  int:=⟨λ_=>rfl,λ_=>rfl,λh=>nomatch h⟩
  iG:=λd r=>⟨λh=>(nomatch h),λh=>nomatch h.1⟩
  use:=λh=>nomatch h
  len:=rfl
  fit:=λh=>nomatch h
  held:=λr h=>absurd (by simp[Kd.hold,K0]) h
  mx:=λr=>by simp[Kd.hold,K0]
  room:=by show 2=2+kO (λ_=>none) _;rw[c0]
  cap:=hc}
 refine⟨hm,λr d h=>(nomatch h),⟨λv hv=>?_,λu v hu hv h=>?_⟩,⟨λh=>(nomatch h),λh=>(nomatch h),λh=>(nomatch h),λh=>(nomatch h),λh=>(nomatch h),λh=>(nomatch h)⟩⟩
 ·have tQ:v<n:=hv;rw[lz tQ];exact hv
 have tE:u<n:=hu;have tQ:v<n:=hv;rwa [lz tE,lz tQ]at h
theorem xS{pt n cap:Nat}{CT:Hp}(hu:nh pt n (λ_=>none) CT)(hc:2<=cap/\cap<=1048576):Fc zQ 80 #[iv (cap:Int),ptr pt] CT (λv H=>∃pa CA,v=.tuple #[.agg #[ptr pa,ptr pt,.slice none 0 0,.slice none 0 0],iv 0]/\gk pa cap 2 (λ_=>none) CA/\H=CA++CT):=by
 refine aS λg=>G3 λb1 _=>?_;refine aa.fn hnew (Pc hc) ?_;rintro v C ⟨pa,rfl,hA⟩;refine Ext.two (Build.mk (cs:=[ptr pa,ptr pt,.slice none 0 0,.slice none 0 0]) zK (St.q ?_));refine av.q ?_;exact aN.mk (.cM .tail _) ⟨pa,C,rfl,hA,rfl⟩
theorem QW{n cap:Nat}(hn:1<=n/\n<=64)(hc:2<=cap/\cap<=1048576):Fc zQ 34 #[iv (n:Int),iv (cap:Int)] [] (λv C=>∃kp,v=.tuple #[ptr kp,iv 0]/\br kp (K0 n cap) S0 (List.range n) (List.range n) [] C):=by
 refine aS λg=>HO (aa.fq (yh hn.2) ?_);rintro v CO ⟨s,rfl,hO⟩;obtain⟨sa,sl,sc,hse⟩:∃a l c,s=Value.slice a l c:=by obtain⟨a,c,h⟩:=aH.len hO;exact⟨a,_,c,h⟩
 refine Ext.two (ae.dz (dr.or false (λ_=>ae.lss ⟨rfl,by rw[xas zO]⟩) rfl λgs=>?_));refine dr.or false (λ_=>ae.lss ⟨rfl,by rw[xas zO]⟩) rfl λgs=>?_;refine dr.or false (λ_=>ae.gtr ⟨rfl,by rw[xas zO]⟩) rfl λgs=>Br.no ?_;refine aa.fn hnew (MZ hn) ?_;rintro v CT ⟨pt,rfl,hT⟩;refine Ext.two (ae.dz (Br.no (aa.fq (xS hT hc) ?_)));rintro v H ⟨pa,CA,rfl,hA,rfl⟩;refine Ext.two λb24 _=>(St.q ?_);refine ae.dz (Br.no (DR.self (av.q ?_)));refine aa.fq (sP (hO.ints.mono λ_ h=>h) zP) ?_;rintro v H ⟨CL,rfl,hL⟩;obtain⟨la,ll,lc,hle⟩:∃a l c,v=Value.slice a l c:=by obtain⟨a,c,h⟩:=aH.len hL;exact⟨a,_,c,h⟩
 refine⟨(.cons (.cM .right _)),?_⟩;subst hse hle;refine Build.mk (cs:=[ptr pa,ptr pt,.slice none 0 0,.slice none 0 0,iv (n:Int),.slice sa sl sc,.slice la ll lc,.slice none 0 0]) zK λAi _=>?_;refine⟨(.skip (.cons (.cM .right _))),?_⟩
 let kb:qQ:=⟨pa,pt,.slice none 0 0,.slice none 0 0,.slice sa sl sc,.slice la ll lc,.slice none 0 0,CA,CT,[],[],CO,CL,[]⟩
 refine aN.mk (gp:=kb.hp Ai n) ?_ ⟨Ai,rfl,⟨kb,rfl,⟨hA,hT,aL.nil,aL.nil,hO,hL,aL.nil,⟨rfl,by simp[K0]⟩,hn.2,by simp[K0]⟩⟩,VV hc,⟨by simp[K0],λl hl=>?_⟩,λs _=>by simp[Kd.use,K0],trivial⟩
 ·refine .cons (.skip ((aG.assoc).trans ?_));show aG (CA++(CT++(CL++CO))) (CA++(CT++([]++([]++(CO++(CL++[]))))));simp only[xaW,xaP];exact .cM (.cM (.perm xbi) _) _
 have hl':l<n:=hl;have e:(List.range n).getD l 0=l:=lz hl';rw[e];exact⟨hl,lz hl'⟩
end
end Go.Proofs
namespace aq
def cw(ord path:zL):zL:=path.foldl ej ord
theorem pe{ord path:zL}{l:Nat}:cw ord (path++[l])=ej (cw ord path) l:=by simp[cw]
theorem I2{ord path q:zL}:cw ord (path++q)=cw (cw ord path) q:=by simp[cw]
theorem fX{ord:zL}:∀{path:zL},(cw ord path).length=ord.length:=by
 intro path;unfold cw;induction path generalizing ord with
 |nil=>rfl
 |cons l r ih=>rw[xdD,ih];simp[ej]
structure Rm where
 n:Nat
 size:zL->Nat
 fit:zL->Nat->Bool
def Rm.goes(m:Rm)(p:Nat):zL->zL->zL
 | [],_=>[]
 |c::cs,ord=>if m.fit ord (p+c)then(p+c)::m.goes p cs (ej ord (p+c))else []
theorem Rm.yK(m:Rm)(p:Nat):∀cs ord,(m.goes p cs ord).length<=cs.length
 | [],_=>by simp[goes]
 |c::cs,ord=>by
  rw[goes];split
  ·have:=m.yK p cs (ej ord (p+c));simp only[xar];omega
  simp
theorem Rm.yL(m:Rm)(p:Nat):∀cs ord i,i<(m.goes p cs ord).length->(m.goes p cs ord)[i]? =(cs[i]?).map (p+ ·)/\∃c,cs[i]? =some c/\m.fit (cw ord ((m.goes p cs ord).take i)) (p+c)=true
 | [],_,i,h=>by simp[goes]at h
 |c::cs,ord,i,h=>by
  by_cases hf:m.fit ord (p+c)=true
  ·rw[goes,xae hf]at h⊢;cases i with
   |zero=>exact⟨by simp,c,rfl,hf⟩
   |succ i=>
    obtain⟨h1,c',h2,h3⟩:=m.yL p cs (ej ord (p+c)) i (by simpa using h);exact⟨by simpa using h1,c',by simpa using h2,by simpa[cw]using h3⟩
  rw[goes,xad hf]at h;simp at h
theorem Rm.yM(m:Rm)(p:Nat):∀cs ord c,cs[(m.goes p cs ord).length]? =some c->m.fit (cw ord (m.goes p cs ord)) (p+c)=false
 | [],_,c,h=>by simp at h
 |c'::cs,ord,c,h=>by
  by_cases hf:m.fit ord (p+c')=true
  ·rw[goes,xae hf]at h⊢;have:=m.yM p cs (ej ord (p+c')) c (by simpa using h);simpa[cw]using this
  rw[goes,xad hf]at h⊢;simp only[xbe,xbR,xap]at h;subst h;simpa[cw]using hf
end aq
set_option maxRecDepth 100000
namespace Go.Proofs
open Go Go.Sx Tryz
open aq
def At(kp:Nat)(K:Kd)(S:Nat->aq.Fn)(ord tr:zL)(C:Hp):Prop:=∃K' S' dK,br kp K' S' ord dK tr C/\Kept K S K' S'
noncomputable def ksz(K:Kd)(S:Nat->aq.Fn)(ord:zL):Nat:=sz K.n ord (K.held S)
def mN(K:Kd)(S:Nat->aq.Fn)(ord:zL)(l:Nat):Prop:=xm K.n ord l (K.held S)+2<=K.cap
section
variable {kp:Nat} {K:Kd} {S:Nat->aq.Fn} {ord tr:zL} {C:Hp}
theorem br.at'{af:zL}(h:br kp K S ord af tr C):At kp K S ord tr C:=⟨K,S,af,h,.refl _ _⟩
theorem uL{K':Kd}{S':Nat->aq.Fn}(h:Kept K S K' S')(ord:zL)(l:Nat):mN K' S' ord l↔mN K S ord l:=by
 unfold mN;rw[h.n,h.cap,E7 h.held]
theorem At.len(h:At kp K S ord tr C):ord.length=K.n:=by
 obtain⟨K',S',dK,h,hk⟩:=h;rw[<-hk.n];exact h.od.len
theorem At.Ab(h:At kp K S ord tr C):K.n<=64:=by
 obtain⟨K',S',dK,h,hk⟩:=h;obtain⟨b,_,hO⟩:=h.rep;rw[<-hk.n];exact hO.Ab
theorem sU(h:At kp K S ord tr C):Rd zQ 94 #[ptr kp] C (· =iv ((tr.length:Nat):Int)):=by
 obtain⟨K',S',dK,h,hk⟩:=h;exact FM h.rep
theorem O6(h:At kp K S ord tr C):Rd zQ 22 #[ptr kp] C (· =iv ((K.n:Nat):Int)):=by
 obtain⟨K',S',dK,h,hk⟩:=h;rw[<-hk.n];exact fw h.rep
theorem L1(h:At kp K S ord tr C):Fc zQ 24 #[ptr kp] C (λr H=>∃N,H=N++C/\aL 3 .i64 r (iw ord) N):=by
 obtain⟨K',S',dK,h,hk⟩:=h;exact pE h.rep
theorem O8(h:At kp K S ord tr C){l:Nat}(hl:l+1<K.n)(ot:tr.length<17592186044416)(hf:mN K S ord l):Fc zQ 96 #[ptr kp,iv (l:Int)] C (λr C'=>r=iv 0/\At kp K S (ej ord l) (tr++[l]) C'):=by
 obtain⟨K',S',dK,h,hk⟩:=h;refine(Eu h (by rw[hk.n];exact hl) ot).mono ?_;rintro v C' (⟨_,rfl,K2,S2,Q0,h2,q7⟩|⟨hno,_,_⟩)
 ·exact⟨rfl,K2,S2,Q0,h2,hk.trans q7⟩
 have:=(uL hk ord l).2 hf;unfold mN at this;omega
theorem Bt(h:At kp K S ord tr C){l:Nat}(hl:l+1<K.n)(ot:tr.length<17592186044416)(hf:¬mN K S ord l):Rd zQ 96 #[ptr kp,iv (l:Int)] C (· =iv 9):=by
 obtain⟨K',S',dK,h,hk⟩:=h;refine(Eu h (by rw[hk.n];exact hl) ot).mono ?_;rintro v C' (⟨XB,_⟩|⟨hno,rfl,rfl⟩)
 ·exact absurd ((uL hk ord l).1 XB) hf
 exact⟨rfl,rfl⟩
theorem O7{l:Nat}(h:At kp K S ord (tr++[l]) C)(ot:tr.length<17592186044416):Fc zQ 159 #[ptr kp] C (λr C'=>r=.tuple #[iv (l:Int),iv 0]/\At kp K S (ej ord l) tr C'):=by
 obtain⟨K',S',dK,h,hk⟩:=h;refine(M6 h ot).mono ?_;rintro v C' ⟨rfl,_,K2,S2,Q0,h2,q7⟩;exact⟨rfl,K2,S2,Q0,h2,hk.trans q7⟩
theorem O3{path:zL}(h:At kp K S (cw ord path) (tr++path) C)(hp:∀l∈path,l+1<K.n){k:Nat}(hk:k<=path.length)(ot:(tr++path).length<17592186044416):Fc zQ 130 #[ptr kp,iv ((tr.length+k:Nat):Int)] C (λr C'=>
   r=.tuple #[iv ((path.length-k:Nat):Int),iv 0]/\At kp K S (cw ord (path.take k)) (tr++path.take k) C'):=by
 have hlen:=h.len;rw[fX]at hlen;rw[xai]at ot;refine aS λg=>CQ (ae.bf (Br.no ?_));intro J2 A4;refine ae.lss ?_;rw[xas zO];refine Split.go rfl (aa.eq (sU h) (ae.gtr ?_));rw[xas (by rw[xai];omega)];refine aB.mk (JE.mk (A4 _ _ λgs=>Br.no ?_));refine⟨λvs H=>∃m,m<=path.length/\k<=m/\vs=[iv ((path.length-m:Nat):Int)]/\At kp K S (cw ord (path.take m)) (tr++path.take m) H,λvs _=>path.length-bL vs 0,JE.mk ⟨path.length,xak _,hk,by simp,by simpa using h⟩,?_⟩;rintro w H ⟨m,hm,hkm,hw,SY⟩ gs;simp only[xau,xaY]at hw;subst hw;refine aa.eq (sU SY) (ae.kG (Br.dec (λhlt=>?_) (λhlt=>?_)))
 ·rw[xai,xbw]at hlt;obtain⟨m,rfl⟩:∃m',m=m'+1:=⟨m-1,by omega⟩;have e:path.take (m+1)=path.take m++[path[m]]:=by rw[xby,xab zO];rfl
  rw[e,<-xaj,pe]at SY;refine aa.fq (O7 SY zP) ?_;rintro v C' ⟨rfl,h'⟩;rw[vJ (by rw[fX,hlen];exact hp _ (xaB _))]at h';refine ae.inc (az.of (.refl _) ⟨m,by omega,by omega,by rw[show path.length-(m+1)+1=path.length-m by omega],h'⟩ ?_);show path.length-(((path.length-(m+1)+1:Nat):Int).toNat)<path.length-(((path.length-(m+1):Nat):Int).toNat);omega
 rw[xai,xbw]at hlt;obtain rfl:m=k:=by omega
 exact aN.here ⟨rfl,SY⟩
end
end Go.Proofs
namespace Go.Sx
open Go
section
variable {P:Program} {g:Gh} {H:Hp}
theorem gm.nat{len size b o j:Nat}{kd:IntKind}{k:zV->Prop}(h1:j<len)(h:k (.pointer (some ⟨b,o+j*size,none⟩))):gm len size (.pointer (some ⟨b,o,none⟩)) (.int kd (j:Int)) k:=
 ⟨b,o,kd,(j:Int),rfl,rfl,by omega,by omega,by simpa using h⟩
theorem bS.VN{o:Oper}{ρ:Operand->zV}{k:zV->Prop}{t e:TypeId}{q kd:IntKind}{n j:Nat}{x i:Operand}{l:List Int}{z:Int}(ho:o.op=.index t x i)(hx:ρ x=.agg (au q l))(hi:ρ i=.int kd (j:Int))
 (ht:P.underlying t=some (.array n e))(hu:P.underlying e=some (.int q))(hz:cy P e=some 1)(hj:j<n)(hl:l[j]? =some z)(hk:k (.int q z)):bS P g o ρ H k:=by
 obtain⟨inf,Ye,hs⟩:=aV hz;refine⟨_,λw _=>?_,hk⟩;have hp:=oa (P:=P) hu hl w;have KJ:(0:Int)<=(j:Int)/\(j:Int)<(n:Int):=by omega
 simp only[execOp,ho,Instr.index,hx,hi,asIntOf,Sem.run_bind,Sem.run_pure,Result.andThen_ok,run_underlying ht,run_sizeOf Ye,hs,xae KJ,xco,xb6,hp]
end
end Go.Sx
namespace aq
open ax
def clr(m v:Nat):Nat:=if m.testBit v then m^^^2^v else m
def rest(m:Nat)(ord:zL):Nat->Nat
 |0=>m
 |k+1=>clr (rest m ord k) (ord.getD k 0)
section
variable {n m o:Nat} {ord:zL} {F:Fn->Prop}
theorem getD_inj(hn:ord.Nodup){i j:Nat}(hi:i<ord.length)(hj:j<ord.length)(e:ord.getD i 0=ord.getD j 0):i=j:=by
 rw[xah,xah,xab hi,xab hj]at e;exact(List.getElem_inj hn).1 e
theorem I3{l:Nat}(hl:l+1<ord.length):(ej ord l).Perm ord:=by
 unfold ej;have e1:ord=ord.take l++ord.getD l 0::ord.getD (l+1) 0::ord.drop (l+2):=by
  conv=>lhs;rw[<-xbk l ord]
  congr 1;rw[xa8 zO,xa8 zO];simp[List.getD,xab (show l<ord.length by omega),xab hl]
 have ht:(ord.take l).length=l:=by simp;omega
 have e2:(ord.set l (ord.getD (l+1) 0)).set (l+1) (ord.getD l 0)=ord.take l++ord.getD (l+1) 0::ord.getD l 0::ord.drop (l+2):=by
  generalize hx:ord.getD l 0=x at*;generalize hy:ord.getD (l+1) 0=y at*
  conv=>lhs;rw[e1]
  rw[xbZ _ _ zO,ht,xbT,xcv,xbZ _ _ zO,ht,Nat.add_sub_cancel_left,List.set_cons_succ,xcv]
 rw[e2]
 conv=>rhs;rw[e1]
 exact xbH _ (List.Perm.swap _ _ _)
theorem jo:∀{path:zL} {ord:zL},(∀l∈path,l+1<ord.length)->(cw ord path).Perm ord
 | [],_,_=>.refl _
 |l::r,ord,h=>by
  show(cw (ej ord l) r).Perm ord;have h1:=h l zI;exact(jo λx hx=>by rw[jS];exact h x (by simp[hx])).trans (I3 h1)
end
def flat(n s:Nat):Rm:=⟨n,λ_=>s,λ_ _=>true⟩
end aq
namespace aq
def Bl(i:Nat):Nat->zL
 |0=>[]
 |j+1=>if i<=j then j::Bl i j else []
theorem wQ{i j:Nat}(h:j<=i):Bl i j=[]:=by
 cases j with
 |zero=>rfl
 |succ j=>rw[Bl,xad zO]
theorem oS{i j:Nat}(h:i<=j):Bl i (j+1)=j::Bl i j:=by rw[Bl,xae h]
theorem EC{i l:Nat}:∀{j},l∈Bl i j->i<=l/\l<j
 |0,h=>by simp[Bl]at h
 |j+1,h=>by
  by_cases e:i<=j
  ·rw[oS e]at h;rcases xaf.1 h with rfl|h
   ·omega
   have:=EC h;omega
  rw[wQ zO]at h;simp at h
theorem ED(i:Nat):∀j,(Bl i j).length=j-i
 |0=>by simp[Bl]
 |j+1=>by
  by_cases e:i<=j
  ·rw[oS e,xar,ED i j];omega
  rw[wQ zO];simp;omega
theorem EE{i k:Nat}:∀{j:Nat} {a:zL},i<=j->j<a.length->(k<=i->(cw a (Bl i j)).getD k 0=if k=i then a.getD j 0 else a.getD k 0)
 |0,a,hi,hj,hk=>by
  obtain rfl:i=0:=by omega
  obtain rfl:k=0:=by omega
  simp[Bl,cw]
 |j+1,a,hi,hj,hk=>by
  by_cases e:i<=j
  ·rw[oS e];show(cw (ej a j) (Bl i j)).getD k 0=_;rw[EE (j:=j) e (by rw[jS];omega) hk,dH zO,dH zO];by_cases h:k=i
   ·subst h;simp
   rw[xad h,xad h,xad zO,xad zO]
  obtain rfl:i=j+1:=by omega
  rw[wQ (xak _)];show a.getD k 0=_;split
  ·rename_i h;rw[h]
  rfl
def SB(p:zL)(x:Nat):Nat:=p.idxOf x
def ei(p q:zL):Nat->zL
 |0=>[]
 |i+1=>ei p q i++Bl i (SB (cw p (ei p q i)) (q.getD i 0))
def path(p q:zL):zL:=ei p q q.length
theorem Jl{p:zL}{x:Nat}(h:x∈p):SB p x<p.length:=List.idxOf_lt_length_iff.2 h
theorem DO{p:zL}{x:Nat}(h:x∈p):p.getD (SB p x) 0=x:=by
 have h1:=Jl h;rw[xah,xab h1];show p[p.idxOf x]=x;exact List.getElem_idxOf h1
section
variable {p q:zL}
theorem jY(hq:q.Nodup)(hp:p.Perm q):∀i,i<=q.length->(∀l∈ei p q i,l+1<p.length)/\(∀k,k<i->(cw p (ei p q i)).getD k 0=q.getD k 0)/\(i<q.length->i<=SB (cw p (ei p q i)) (q.getD i 0)/\SB (cw p (ei p q i)) (q.getD i 0)<p.length)
 |i,hi=>by
  have hlen:=hp.length_eq;have base:(∀l∈ei p q i,l+1<p.length)/\(∀k,k<i->(cw p (ei p q i)).getD k 0=q.getD k 0):=by
   cases i with
   |zero=>exact⟨λl hl=>by simp[ei]at hl,λk hk=>absurd hk (xcg _)⟩
   |succ i=>
    obtain⟨h1,h2,h3⟩:=jY hq hp i zO;obtain⟨h4,h5⟩:=h3 zO;have hm:q.getD i 0∈cw p (ei p q i):=by
     have:q.getD i 0∈q:=by rw[xah,xab (show i<q.length by omega)];exact xaB _
     exact((jo h1).trans hp).mem_iff.2 this
    refine⟨λl hl=>?_,λk hk=>?_⟩
    ·rcases xal.1 hl with hl|hl
     ·exact h1 l hl
     have:=EC hl;omega
    rw[ei,I2,EE h4 (by rw[fX];exact h5) zO];split
    ·rename_i e;subst e;exact DO hm
    exact h2 k zO
  refine⟨base.1,base.2,λhlt=>?_⟩;have hm:q.getD i 0∈cw p (ei p q i):=by
   have:q.getD i 0∈q:=by rw[xah,xab hlt];exact xaB _
   exact((jo base.1).trans hp).mem_iff.2 this
  have h5:=Jl hm;rw[fX]at h5;refine⟨?_,h5⟩;refine xaI λsu=>?_;have:=base.2 _ (Nat.lt_of_not_le su);rw[DO hm]at this;have:=getD_inj hq hlt zO this;omega
theorem DS(hq:q.Nodup)(hp:p.Perm q):cw p (path p q)=q/\∀l∈path p q,l+1<p.length:=by
 obtain⟨h1,h2,_⟩:=jY hq hp q.length (xak _);refine⟨yW (by rw[fX];exact hp.length_eq) λi hi=>h2 i ?_,h1⟩;rw[fX,hp.length_eq]at hi;exact hi
theorem pA(hq:q.Nodup)(hp:p.Perm q):∀i,i<=q.length->(ei p q i).length<=i*p.length
 |0,_=>by simp[ei]
 |i+1,hi=>by
  have:=pA hq hp i zO;obtain⟨_,_,h3⟩:=jY hq hp i zO;rw[ei,xai,ED,xbr];have:=(h3 zO).2;omega
end
end aq
namespace aq
open ax
section
variable {n l:Nat} {ord:zL} {F G:Fn->Prop} {f c:Fn}
theorem uW:∀l g,fs ord (λg=>F g\/G g) l g↔fs ord F l g\/fs ord G l g
 |0,g=>xdb
 |l+1,g=>by
  constructor
  ·rintro⟨f,hf,b,rfl⟩;rcases(uW l f).1 hf with h|h
   ·exact .inl ⟨f,h,b,rfl⟩
   exact .inr ⟨f,h,b,rfl⟩
  rintro(⟨f,hf,b,rfl⟩|⟨f,hf,b,rfl⟩)
  ·exact⟨f,(uW l f).2 (.inl hf),b,rfl⟩
  exact⟨f,(uW l f).2 (.inr hf),b,rfl⟩
theorem ik(g:Fn):aA n ord (λg=>F g\/G g) g↔aA n ord F g\/aA n ord G g:=by
 constructor
 ·rintro⟨l,hl,hf,hh⟩;rcases(uW l g).1 hf with h|h
  ·exact .inl ⟨l,hl,h,hh⟩
  exact .inr ⟨l,hl,h,hh⟩
 rintro(⟨l,hl,hf,hh⟩|⟨l,hl,hf,hh⟩)
 ·exact⟨l,hl,(uW l g).2 (.inl hf),hh⟩
 exact⟨l,hl,(uW l g).2 (.inr hf),hh⟩
theorem bT{v:Nat}(h:¬cF f v)(x:Nat)(b:Bool):f (ay x v b)=f x:=by
 have h0:f (ay x v false)=f (ay x v true):=xaI λhne=>h ⟨x,hne⟩;have h1:=jr x v
 conv=>rhs;rw[<-h1]
 cases b<;>cases x.testBit v<;>simp[h0]
theorem wE(hi:∀j,j<l->¬cF f (ord.getD j 0)):∀k,k<=l->fs ord (λg=>g=f) k f
 |0,_=>rfl
 |k+1,hk=>⟨f,wE hi k zO,false,funext λx=>(bT (hi k zO) x false).symm⟩
theorem oD(hi:∀j,j<l->¬cF f (ord.getD j 0)):∀k,k<=l->∀g,fs ord (λg=>g=f) k g->g=f
 |0,_,g,h=>h
 |k+1,hk,g,h=>by
  obtain⟨f',hf,b,rfl⟩:=h;obtain rfl:=oD hi k zO f' hf;exact funext λx=>bT (hi k zO) x b
theorem gU(hi:∀j,j<l->¬cF f (ord.getD j 0)){b:Bool}(hc:c=λx=>f (ay x (ord.getD l 0) b)):
  (∀j,j<l+1->¬cF c (ord.getD j 0))/\∀g,aA n ord (λg=>g=c) g->aA n ord (λg=>g=f) g:=by
 have h1:fs ord (λg=>g=f) (l+1) c:=⟨f,wE hi l (xak _),b,hc⟩;have h2:∀j,j<l+1->¬cF c (ord.getD j 0):=λj hj=>oE (l+1) c h1 j hj;refine⟨h2,?_⟩;rintro g ⟨m,hm,hf,hh⟩;by_cases e:m<l+1
 ·obtain rfl:=oD h2 m zO g hf;exact absurd hh (h2 m e)
 have key:∀d g,fs ord (λg=>g=c) (l+1+d) g->fs ord (λg=>g=f) (l+1+d) g:=λd=>by
  induction d with
  |zero=>intro g hg;obtain rfl:=oD h2 (l+1) (xak _) g hg;exact h1
  |succ d ih=>rintro g ⟨f',wy,b',rfl⟩;exact⟨f',ih f' wy,b',rfl⟩
 obtain⟨d,rfl⟩:∃d,m=l+1+d:=⟨m-(l+1),by omega⟩;exact⟨_,hm,key d g hf,hh⟩
theorem mw(hi:∀j,j<l->¬cF f (ord.getD j 0))(hl:l<n)(hh:cF f (ord.getD l 0)):aA n ord (λg=>g=f) f:=⟨l,hl,wE hi l (xak _),hh⟩
end
section
variable {K:Kd} {S:Nat->Fn} {af:Nat->Nat} {ord:zL}
theorem Ok.below(h:Ok K S af)(ho:Ord K.n af ord){r l:Nat}(hr:live K.N r)(hl:l<=K.n)(hi:∀j,j<l->¬cF (S r) (ord.getD j 0)):l<=dep K.n af K.N r:=by
 cases e:K.N r with
 |none=>rw[aT e];exact hl
 |some d=>
  rw[an e];refine xaI λhlt=>?_;have gv:af d.v<l:=Nat.lt_of_not_le hlt;have:=hi _ gv;rw[ho.of h.lv (h.mid.var e)]at this;exact this (iq h.wf h.lv h.mid.int e)
theorem Ok.roomFor(h:Ok K S af)(ho:Ord K.n af ord){U:Fn->Prop}{k:Nat}(hk:qS U k)(hfit:k+2<=K.cap)(hU:∀g,aA K.n ord (K.held S) g->U g){d:Nd}
 (hlo:live K.N d.lo)(hhi:live K.N d.hi)(hne:d.lo≠d.hi)(hv:d.v<K.n)(hlt:af d.v<dep K.n af K.N d.lo/\af d.v<dep K.n af K.N d.hi)(hg:U (ite S d))(hT:K.T d=none):K.used<K.cap:=by
 have hs:=h.size ho;have hu:=h.mid.room;obtain⟨l1,a1,a2,a3⟩:=hs;have Ry:ite S d∉l1:=λhm=>by
  obtain⟨r,e,hr,he⟩:=(k7 h.wf h.lv ho h.mid.int (λr hr=>.inr (h.mid.held r hr)) h.reach (ite S d)).1 ((a3 _).2 hm);have YN:¬K.N r=some d:=λhN=>by
   have:=(h.mid.iG d r).2 ⟨hN,λx=>x⟩;rw[hT]at this;cases this
  apply YN;have Kg:S r=ite S d:=he.symm;have Kb:e.v=d.v:=by
   have e1:=h.lv.lt e.v (h.mid.var hr);have e2:=h.lv.lt d.v hv;rcases xc0 (af e.v) (af d.v)with hh|hh|hh
   ·exfalso;obtain⟨z,hz⟩:=iq h.wf h.lv h.mid.int hr;rw[Kg]at hz;apply hz;unfold ite;have i1:=h.wf.bu h.lv h.mid.int hlo (h.mid.var hr) zO;have i2:=h.wf.bu h.lv h.mid.int hhi (h.mid.var hr) zO;have wz:d.v≠e.v:=λmQ=>by rw[mQ]at hh;omega
    simp only[ak,xad wz,i1,i2]
   ·exact h.lv.inj _ _ (h.mid.var hr) hv hh
   exfalso;have hx:=h.wf.bu h.lv h.mid.int (r:=r) (.inr ⟨e,hr⟩) hv (by rw[an hr];exact hh);apply hne;refine h.wf.same h.lv h.mid.int hlo hhi λx=>?_;have i1:=h.wf.bu h.lv h.mid.int hlo hv hlt.1;have i2:=h.wf.bu h.lv h.mid.int hhi hv hlt.2;have q1:=hx x false;have q2:=hx x true;rw[Kg]at q1 q2;have q3:=q1.trans q2.symm;unfold ite at q3;simp only[ak,xa0,i1,i2,xaE,xaS]at q3;exact q3
  have iU:∀(b:Bool) x,S (if b then e.hi else e.lo) x=S (if b then d.hi else d.lo) x:=λb x=>by
   rw[<-h.wf.child h.lv h.mid.int hr x b,Kg,Kb];have i1:=h.wf.bu h.lv h.mid.int hlo hv hlt.1;have i2:=h.wf.bu h.lv h.mid.int hhi hv hlt.2;unfold ite;rw[ak,xae rfl,i1,i2];cases b<;>rfl
  have e1:e.lo=d.lo:=h.wf.same h.lv h.mid.int (h.mid.lo hr) hlo λx=>iU false x;have e2:e.hi=d.hi:=h.wf.same h.lv h.mid.int (h.mid.hi hr) hhi λx=>iU true x;have UT:∀a b:Nd,a.v=b.v->a.lo=b.lo->a.hi=b.hi->a=b:=λa b h1 h2 h3=>by
   cases a;cases b;cases h1;cases h2;cases h3;rfl
  rw[hr,UT e d Kb e1 e2]
 obtain⟨l2,b1,b2,b3⟩:=hk;have:=bG (l:=ite S d::l1) (l':=l2) (xbd.2 ⟨Ry,a1⟩) λg RK=>by
  rcases xaf.1 RK with rfl|RK
  ·exact(b3 _).1 hg
  exact(b3 _).1 (hU g ((a3 g).2 RK))
 rw[xar]at this;omega
end
end aq
namespace aq
open ax
def dg(N:dA)(v:Nat)(b:Bool)(r:Nat):Nat:=match N r with
 |some d=>if d.v=v then(if b then d.hi else d.lo)else r
 |none=>r
def gj(N:dA)(v:Nat)(b:Bool)(q:zL):zL:=q.map (dg N v b)
structure qO(n:Nat)(af:Nat->Nat)(N:dA)(q:zL)(v:Nat):Prop where
 lt:v<n
 ex:∃r∈q,∃d,N r=some d/\d.v=v
 le:∀r∈q,af v<=dep n af N r
inductive Tree(n:Nat)(af:Nat->Nat)(N:dA):zL->Nat->Prop
 |leaf {q:zL} (h:∀r∈q,N r=none):Tree n af N q 0
 |node {q:zL} {v a b:Nat} (h:qO n af N q v) (ha:Tree n af N (gj N v false q) a) (hb:Tree n af N (gj N v true q) b):Tree n af N q (a+b+1)
def qN(t:Bool->Bool->Bool->Bool)(S:Nat->Fn)(q:zL):Fn:=λx=>t (S (q.getD 0 0) x) (S (q.getD 1 0) x) (S (q.getD 2 0) x)
section
variable {n:Nat} {af:Nat->Nat} {N:dA} {S:Nat->Fn} {q:zL} {v:Nat}
theorem qO.uniq(hl:jI n af){u:Nat}(h:qO n af N q v)(h':qO n af N q u):v=u:=by
 obtain⟨r,hr,d,hd,rfl⟩:=h.ex;obtain⟨s,hs,e,he,rfl⟩:=h'.ex;have a:=h.le s hs;have b:=h'.le r hr;rw[an he]at a;rw[an hd]at b;exact hl.inj _ _ h.lt h'.lt zO
theorem gQ(h:WF n af N)(hl:jI n af)(hi:Interp N S){r:Nat}(hr:live N r)(hv:v<n)(hle:af v<=dep n af N r)(b:Bool):
  (∀x,S (dg N v b r) x=S r (ay x v b))/\live N (dg N v b r)/\af v+1<=dep n af N (dg N v b r):=by
 have hlt:=hl.lt v hv;unfold dg;cases e:N r with
 |none=>
  simp only;refine⟨λx=>?_,hr,by rw[aT e];omega⟩;exact(h.bu hl hi hr hv (by rw[aT e];exact hlt) x b).symm
 |some d=>
  simp only;rw[an e]at hle;by_cases ev:d.v=v
  ·rw[xae ev];subst ev;refine⟨λx=>(h.child hl hi e x b).symm,?_,?_⟩
   ·cases b
    ·exact(h.lo e).1
    exact(h.hi e).1
   cases b
   ·exact(h.lo e).2
   exact(h.hi e).2
  rw[xad ev];have hne:af v≠af d.v:=λe2=>ev (hl.inj _ _ (h.var e) hv e2.symm);refine⟨λx=>(h.bu hl hi hr hv (by rw[an e];omega) x b).symm,hr,by rw[an e];omega⟩
theorem LJ(b:Bool):(gj N v b q).length=q.length:=by simp[gj]
theorem LK{b:Bool}{i:Nat}(hi:i<q.length):(gj N v b q).getD i 0=dg N v b (q.getD i 0):=by
 simp[gj,List.getD,xab hi]
theorem mK(h:WF n af N)(hl:jI n af)(hi:Interp N S)(hq:∀r∈q,live N r)(ht:qO n af N q v)(b:Bool):
  (∀r∈gj N v b q,live N r)/\(∀r∈gj N v b q,af v+1<=dep n af N r):=by
 constructor
 ·intro r hr;obtain⟨s,hs,rfl⟩:=xaq.1 hr;exact(gQ h hl hi (hq s hs) ht.lt (ht.le s hs) b).2.1
 intro r hr;obtain⟨s,hs,rfl⟩:=xaq.1 hr;exact(gQ h hl hi (hq s hs) ht.lt (ht.le s hs) b).2.2
theorem Ew(h:WF n af N)(hl:jI n af)(hi:Interp N S)(h3:q.length=3)(hq:∀r∈q,live N r)(ht:qO n af N q v)(t:Bool->Bool->Bool->Bool)(b:Bool):qN t S (gj N v b q)=λx=>qN t S q (ay x v b):=by
 funext x
 have key:∀i,i<3->S ((gj N v b q).getD i 0) x=S (q.getD i 0) (ay x v b):=λi RG=>by
  have hi':i<q.length:=by omega
  rw[LK hi'];have hm:q.getD i 0∈q:=by rw[xah,xab hi'];exact xaB _
  exact(gQ h hl hi (hq _ hm) ht.lt (ht.le _ hm) b).1 x
 unfold qN;rw[key 0 zO,key 1 zO,key 2 zO]
theorem uY(h:WF n af N)(hl:jI n af)(hi:Interp N S){ord:zL}(ho:Ord n af ord)(h3:q.length=3)(hq:∀r∈q,live N r){l:Nat}(Kl:l<=n)(hle:∀r∈q,l<=dep n af N r)(t:Bool->Bool->Bool->Bool):∀j,j<l->¬cF (qN t S q) (ord.getD j 0):=by
 rintro j hj ⟨x,hx⟩;apply hx;obtain⟨o1,o2⟩:=ho.at' j zO;have key:∀i,i<3->∀b,S (q.getD i 0) (ay x (ord.getD j 0) b)=S (q.getD i 0) x:=λi RG b=>by
  have hi':i<q.length:=by omega
  have hm:q.getD i 0∈q:=by rw[xah,xab hi'];exact xaB _
  exact h.bu hl hi (hq _ hm) o1 (by rw[o2];exact xa2 hj (hle _ hm)) x b
 unfold qN;simp only[key 0 zO,key 1 zO,key 2 zO]
theorem Gs(hi:Interp N S)(h3:q.length=3)(hq:∀r∈q,r<2)(t:Bool->Bool->Bool->Bool)(x:Nat):qN t S q x=t (decide (q.getD 0 0=1)) (decide (q.getD 1 0=1)) (decide (q.getD 2 0=1)):=by
 have key:∀i,i<3->S (q.getD i 0) x=decide (q.getD i 0=1):=λi RG=>by
  have hi':i<q.length:=by omega
  have hm:q.getD i 0∈q:=by rw[xah,xab hi'];exact xaB _
  have:=hq _ hm;have h2:q.getD i 0=0\/q.getD i 0=1:=by omega
  rcases h2 with e|e<;>rw[e]
  ·rw[hi.zero];rfl
  rw[hi.one];rfl
 unfold qN;rw[key 0 zO,key 1 zO,key 2 zO]
theorem IV(h:WF n af N):∀{q:zL},(∃r∈q,∃d,N r=some d)->(hl:jI n af)->∃v,qO n af N q v
 | [],he,_=>by obtain⟨r,hr,_⟩:=he;cases hr
 |s::q,he,hl=>by
  by_cases hq:∃r∈q,∃d,N r=some d
  ·obtain⟨v,hv⟩:=IV h hq hl;cases es:N s with
   |none=>
    refine⟨v,hv.lt,?_,λr hr=>?_⟩
    ·obtain⟨r,hr,x⟩:=hv.ex;exact⟨r,by simp[hr],x⟩
    rcases xaf.1 hr with rfl|hr
    ·rw[aT es];exact xb8 (hl.lt v hv.lt)
    exact hv.le r hr
   |some d=>
    by_cases hlt:af d.v<=af v
    ·refine⟨d.v,h.var es,⟨s,by simp,d,es,rfl⟩,λr hr=>?_⟩;rcases xaf.1 hr with rfl|hr
     ·rw[an es];exact xak _
     exact xbN hlt (hv.le r hr)
    refine⟨v,hv.lt,?_,λr hr=>?_⟩
    ·obtain⟨r,hr,x⟩:=hv.ex;exact⟨r,by simp[hr],x⟩
    rcases xaf.1 hr with rfl|hr
    ·rw[an es];omega
    exact hv.le r hr
  obtain⟨r,hr,d,hd⟩:=he;rcases xaf.1 hr with rfl|hr
  ·refine⟨d.v,h.var hd,⟨r,by simp,d,hd,rfl⟩,λs hs=>?_⟩;rcases xaf.1 hs with rfl|hs
   ·rw[an hd];exact xak _
   have:N s=none:=by
    cases e:N s with
    |none=>rfl
    |some d'=>exact absurd ⟨s,hs,d',e⟩ hq
   rw[aT this];exact xb8 (hl.lt _ (h.var hd))
  exact absurd ⟨r,hr,d,hd⟩ hq
theorem M8(h:WF n af N)(hl:jI n af)(hi:Interp N S):∀(k l:Nat) (q:zL),n-l<=k->l<=n->(∀r∈q,live N r)->(∀r∈q,l<=dep n af N r)->∃c,Tree n af N q c/\c+1<=2^(n-l):=by
 intro k;induction k with
 |zero=>
  intro l q hk Kl hq hd;refine⟨0,.leaf λr hr=>?_,xbE⟩;cases e:N r with
  |none=>rfl
  |some d=>have:=hd r hr;rw[an e]at this;have:=hl.lt _ (h.var e);omega
 |succ k ih=>
  intro l q hk Kl hq hd;by_cases he:∃r∈q,∃d,N r=some d
  ·obtain⟨v,hv⟩:=IV h he hl;have hlv:=hl.lt v hv.lt;have uQ:l<=af v:=by
    obtain⟨r,hr,d,cV,rfl⟩:=hv.ex;have:=hd r hr;rwa [an cV]at this
   obtain⟨f1,f2⟩:=mK (S:=S) h hl hi hq hv false;obtain⟨t1,t2⟩:=mK (S:=S) h hl hi hq hv true;obtain⟨a,ha,Ae⟩:=ih (af v+1) _ zO hlv f1 f2;obtain⟨b,hb,hb2⟩:=ih (af v+1) _ zO hlv t1 t2;refine⟨a+b+1,.node hv ha hb,?_⟩;have e1:2^(n-af v)=2*2^(n-(af v+1)):=by
    rw[show n-af v=(n-(af v+1))+1 by omega,xc4,xb9]
   have e2:2^(n-af v)<=2^(n-l):=xav zD zO;omega
  refine⟨0,.leaf λr hr=>?_,xbE⟩;cases e:N r with
  |none=>rfl
  |some d=>exact absurd ⟨r,hr,d,e⟩ he
def j5(N:dA)(v:Nat)(b:Bool)(q:zL)(i:Nat):zL:=(gj N v b q).take i++q.drop i
theorem xV{b:Bool}{i:Nat}(hi:i<=q.length):(j5 N v b q i).length=q.length:=by simp[j5,gj];omega
theorem uy(b:Bool):j5 N v b q 0=q:=by simp[j5]
theorem JG(b:Bool):j5 N v b q q.length=gj N v b q:=by
 unfold j5;rw[xcZ (by rw[LJ];exact xak _),xc9,xaP]
theorem pD{b:Bool}{i r:Nat}(hr:q[i]? =some r):(j5 N v b q i).set i (dg N v b r)=j5 N v b q (i+1):=by
 have hi:=(xag.1 hr).1;have he:=(xag.1 hr).2;have hl:((gj N v b q).take i).length=i:=by simp[gj];omega
 have hc:(gj N v b q)[i]? =some (dg N v b r):=by simp[gj,hr]
 unfold j5;rw[xbZ _ _ zO,hl,xbT,xa8 hi,xcv,xby,hc,xaj];rfl
theorem uz{b:Bool}{i r:Nat}(hr:q[i]? =some r)(h:dg N v b r=r):j5 N v b q (i+1)=j5 N v b q i:=by
 rw[<-pD hr,h];have hi:=(xag.1 hr).1;have he:=(xag.1 hr).2;have hl:((gj N v b q).take i).length=i:=by simp[gj];omega
 unfold j5;rw[xbZ _ _ zO,hl,xbT,xa8 hi,xcv,he]
end
end aq
set_option maxRecDepth 100000
namespace Go.Proofs
open Go Go.Sx Tryz
section
open aq
noncomputable instance {K:Kd}{S:Nat->aq.Fn}{ord:zL}{l:Nat}:Decidable (mN K S ord l):=Nat.decLe _ _
noncomputable def rm(K:Kd)(S:Nat->aq.Fn):Rm:=⟨K.n,ksz K S,λord l=>decide (mN K S ord l)⟩
theorem Ay{K:Kd}{S:Nat->aq.Fn}{ord:zL}{l:Nat}:(rm K S).fit ord l=true↔mN K S ord l:=by
 show decide (mN K S ord l)=true↔_;exact decide_eq_true_iff
end
section
open aq
def rep(b a s:Nat):zV:=.agg #[iv (b:Int),iv (a:Int),iv (s:Int),.bool false]
end
end Go.Proofs
namespace aq
open ax
section
variable {n v:Nat} {bs:List Bool} {lo hi ws:zL}
theorem Lt(h:∀v,v<n->¬cF (eB n ws) v)(x:Nat):eB n ws x=eB n ws 0:=by
 have key:∀k,k<=n->eB n ws (x%2^k)=eB n ws 0:=λk=>by
  induction k with
  |zero=>intro _;rw[show x%2^0=0 from xd6 x]
  |succ k ih=>
   intro hk;rw[<-ih zO];have e:x%2^(k+1)=ay (x%2^k) k (x.testBit k):=by
    apply xa3;intro i;rw[ak,xa5,xa5];by_cases e:i=k
    ·subst e;simp
    rw[xad e];congr 1;exact xdZ.2 zO
   rw[e,bT (h k zO)]
 have:=key n (xak _);rw[<-this];unfold eB;rw[Nat.mod_mod]
end
end aq
set_option maxRecDepth 100000
namespace Go.Proofs
open Go Go.Sx Tryz
section
open aq
theorem bc{ws:zL}{i:Nat}(h:i<ws.length):(iw ws)[i]? =some ((ws.getD i 0:Nat):Int):=by
 rw[cc (w:=ws.getD i 0)];rw[xah,xab h];rfl
def T4(n:Nat)(p:List Int):Prop:=p.length=n/\∀v:Nat,v<n->p.count (v:Int)=1
instance (n:Nat)(p:List Int):Decidable (T4 n p):=by unfold T4;infer_instance
theorem J5{p:List Int}{x:Int}{i:Nat}(h:x∉p.take i)(hi:i<p.length)(he:p[i]=x):p.idxOf x=i:=by
 have e:p=p.take i++p[i]::p.drop (i+1):=by
  conv=>lhs;rw[<-xbk i p]
  rw[xa8 hi]
 conv=>lhs;rw[e]
 rw[List.idxOf_append,xad h,he,List.idxOf_cons_self,xbw];omega
def me(p:List Int):Prop:=∀v:Nat,v<p.length->(v:Int)∈p
theorem s8{p:zL}{n:Nat}(hp:p.Perm (List.range n)):me (iw p):=λv hv=>by
 rw[ag,hp.length_eq,xaT]at hv;exact xaq.2 ⟨v,hp.mem_iff.2 (xaV.2 hv),rfl⟩
theorem QY{q:zL}{x:Nat}:(x:Int)∈iw q↔x∈q:=by
 unfold iw;rw[xaq];exact⟨λ⟨y,hy,e⟩=>by rw[<-Int.ofNat.inj e];exact hy,λh=>⟨x,h,rfl⟩⟩
theorem Rk(q:zL)(x:Nat):(iw q).idxOf (x:Int)=q.idxOf x:=by
 induction q with
 |nil=>rfl
 |cons y q ih=>
  show(((y:Nat):Int)::iw q).idxOf (x:Int)=_;rw[List.idxOf_cons,List.idxOf_cons,ih];have:(((y:Nat):Int)==(x:Int))=(y==x):=by
   rw[xcA];simp[xd3]
  rw[this]
end
section
open aq
section
variable {n:Nat} {ord:zL} {L:ax.Fs}
theorem wJ:∀k,(cur n ord L k).length<=2^k*L.length
 |0=>by rw[cur,Nat.pow_zero,xd5];exact E9 L
 |k+1=>by
  have h1:=Lc n (ord.getD k 0) (cur n ord L k);have h2:=wJ k;rw[cur,xc4,xb9 (2^k) 2,Nat.mul_assoc];omega
end
theorem Li{ord:zL}{F G:aq.Fn->Prop}(h:∀g,F g->G g):∀l g,fs ord F l g->fs ord G l g
 |0,g,hg=>h g hg
 |l+1,g,⟨f,hf,b,e⟩=>⟨f,Li h l f hf,b,e⟩
theorem aJ{n:Nat}{ord:zL}{F G:aq.Fn->Prop}(h:∀g,F g->G g){g:aq.Fn}(hg:aA n ord F g):aA n ord G g:=let ⟨l,a,b,c⟩:=hg;⟨l,a,Li h l g b,c⟩
structure dS(K:Kd)(S:Nat->aq.Fn)(K':Kd)(S':Nat->aq.Fn)(f:aq.Fn)(r:Nat):Prop where
 n:K'.n=K.n
 cap:K'.cap=K.cap
 N:∀s d,K.N s=some d->K'.N s=some d
 fn:∀s,live K.N s->S' s=S s
 live:live K'.N r
 is:S' r=f
 hold:∀s,K'.hold s=K.hold s+if s=r/\2<=r then 1 else 0
theorem aW{N N':dA}(h:∀s d,N s=some d->N' s=some d){s:Nat}(hs:live N s):live N' s:=by
 rcases hs with hs|⟨d,hd⟩
 ·exact .inl hs
 exact .inr ⟨d,h s d hd⟩
theorem ir{K K5:Kd}{S S5:Nat->aq.Fn}{af:Nat->Nat}(hK:Ok K S af)(Ek:Ok K5 S5 af)(hold:∀s,K.hold s≠0->K5.hold s≠0)(h3:∀s d d',K.N s=some d->K5.N s=some d'->d'=d):
  ∀(k s:Nat) (d:Nd),K.N s=some d->af d.v<=k->K5.N s=some d:=by
 intro k;induction k with
 |zero=>
  intro s d hd hl;have fin:live K5.N s->K5.N s=some d:=λhs=>by
   rcases hs with hs|⟨d',cV⟩
   ·have:=(hK.mid.two hd).1;omega
   rw[cV,h3 s d d' hd cV]
  rcases hK.reach s d hd with h|⟨p,e,hp,he⟩
  ·exact fin (.inr (Ek.mid.held s (hold s h)))
  have h1:=hK.wf.lo hp;have h2:=hK.wf.hi hp;rcases he with rfl|rfl
  ·have:=h1.2;rw[an hd]at this;omega
  have:=h2.2;rw[an hd]at this;omega
 |succ k ih=>
  intro s d hd hl;have fin:live K5.N s->K5.N s=some d:=λhs=>by
   rcases hs with hs|⟨d',cV⟩
   ·have:=(hK.mid.two hd).1;omega
   rw[cV,h3 s d d' hd cV]
  rcases hK.reach s d hd with h|⟨p,e,hp,he⟩
  ·exact fin (.inr (Ek.mid.held s (hold s h)))
  have h1:=hK.wf.lo hp;have h2:=hK.wf.hi hp;rcases he with rfl|rfl
  ·have:=h1.2;rw[an hd]at this;exact fin (Ek.mid.lo (ih p e hp zO))
  have:=h2.2;rw[an hd]at this;exact fin (Ek.mid.hi (ih p e hp zO))
theorem dS.held{K K':Kd}{S S':Nat->aq.Fn}{f:aq.Fn}{r:Nat}(h:dS K S K' S' f r)(hm:∀s,K.hold s≠0->aq.live K.N s)(g:aq.Fn)(hg:K'.held S' g):K.held S g\/g=f:=by
 obtain⟨s,hs,rfl⟩:=hg;by_cases h0:K.hold s=0
 ·right;have:=h.hold s;have hs':K'.hold s≠0:=hs;rw[h0]at this;by_cases e:s=r/\2<=r
  ·rw[e.1];exact h.is
  rw[xad e]at this;omega
 exact .inl ⟨s,h0,h.fn s (hm s h0)⟩
end
end Go.Proofs
namespace aq
open ax
section
variable {K:Kd} {S:Nat->Fn} {af:Nat->Nat}
theorem Ok.NC(h:Ok K S af){d e:Nd}{r:Nat}
 (hlo:live K.N d.lo)(hhi:live K.N d.hi)(hne:d.lo≠d.hi)(hv:d.v<K.n)(hlt:af d.v<dep K.n af K.N d.lo/\af d.v<dep K.n af K.N d.hi)(hr:K.N r=some e)(Kg:S r=ite S d):e=d:=by
 have Kb:e.v=d.v:=by
  have e1:=h.lv.lt e.v (h.mid.var hr);have e2:=h.lv.lt d.v hv;rcases xc0 (af e.v) (af d.v)with hh|hh|hh
  ·exfalso;obtain⟨z,hz⟩:=iq h.wf h.lv h.mid.int hr;rw[Kg]at hz;apply hz;unfold ite;have i1:=h.wf.bu h.lv h.mid.int hlo (h.mid.var hr) zO;have i2:=h.wf.bu h.lv h.mid.int hhi (h.mid.var hr) zO;have wz:d.v≠e.v:=λmQ=>by rw[mQ]at hh;omega
   simp only[ak,xad wz,i1,i2]
  ·exact h.lv.inj _ _ (h.mid.var hr) hv hh
  exfalso;have hx:=h.wf.bu h.lv h.mid.int (r:=r) (.inr ⟨e,hr⟩) hv (by rw[an hr];exact hh);apply hne;refine h.wf.same h.lv h.mid.int hlo hhi λx=>?_;have i1:=h.wf.bu h.lv h.mid.int hlo hv hlt.1;have i2:=h.wf.bu h.lv h.mid.int hhi hv hlt.2;have q1:=hx x false;have q2:=hx x true;rw[Kg]at q1 q2;have q3:=q1.trans q2.symm;unfold ite at q3;simp only[ak,xa0,i1,i2,xaE,xaS]at q3;exact q3
 have iU:∀(b:Bool) x,S (if b then e.hi else e.lo) x=S (if b then d.hi else d.lo) x:=λb x=>by
  rw[<-h.wf.child h.lv h.mid.int hr x b,Kg,Kb];have i1:=h.wf.bu h.lv h.mid.int hlo hv hlt.1;have i2:=h.wf.bu h.lv h.mid.int hhi hv hlt.2;unfold ite;rw[ak,xae rfl,i1,i2];cases b<;>rfl
 have e1:e.lo=d.lo:=h.wf.same h.lv h.mid.int (h.mid.lo hr) hlo λx=>iU false x;have e2:e.hi=d.hi:=h.wf.same h.lv h.mid.int (h.mid.hi hr) hhi λx=>iU true x;have UT:∀a b:Nd,a.v=b.v->a.lo=b.lo->a.hi=b.hi->a=b:=λa b h1 h2 h3=>by
  cases a;cases b;cases h1;cases h2;cases h3;rfl
 exact UT e d Kb e1 e2
end
end aq
set_option maxRecDepth 100000
namespace Go.Proofs
open Go Go.Sx Tryz
section
open aq
def eZ(bw kp:Nat)(vl vm:zV):Nat×Obj:=(bw,.cells #[ptr kp,vl,vm] 221 zZ)
abbrev Q3:=Nat×Nat×Nat
def l3(q:Q3):zL:=[q.1,q.2.1,q.2.2]
def kq(q:Q3):zV:=.agg (au .u32 (iw (l3 q)))
theorem NT{a b:zL}(h:iw a=iw b):a=b:=by
 induction a generalizing b with
 |nil=>cases b with
  |nil=>rfl
  |cons y b=>simp[iw]at h
 |cons x a ih=>cases b with
  |nil=>simp[iw]at h
  |cons y b=>
   simp only[iw,xaM,xau]at h;rw[Int.ofNat.inj h.1,ih h.2]
theorem Rb{a b:Q3}(h:l3 a=l3 b):a=b:=by
 obtain⟨a1,a2,a3⟩:=a;obtain⟨b1,b2,b3⟩:=b;simp[l3]at h;rw[h.1,h.2.1,h.2.2]
theorem sg(a b:Q3):zz zQ 181 (kq a) (kq b) (decide (a=b)):=by
 have:=zz.array (P:=zQ) (t:=181) (e:=27) (q:=.u32) (n:=3) zK zK zK (iw (l3 a)) (iw (l3 b)) rfl rfl;have e:decide (iw (l3 a)=iw (l3 b))=decide (a=b):=xdZ.2 ⟨λh=>Rb (NT h),λh=>by rw[h]⟩;rw[e]at this;exact this
theorem nG(a:Q3):kP zQ 181 (kq a):=kP.array (P:=zQ) (t:=181) (e:=27) (q:=.u32) (n:=3) zK zK zK _ rfl
theorem we(a:Q3):Instr.sameBits 10000 (kq a) (kq a)=true:=ja 9998 λx hx=>.inl (by simp[au]at hx;obtain⟨n,_,rfl⟩:=hx;exact⟨_,_,rfl⟩)
section
variable {kp bw:Nat} {vl vm:zV} {K:Kd} {S:Nat->aq.Fn} {ord af tr:zL} {C:Hp}
theorem GC{H:Hp}{r:List zV}{K:zV->Hp->Prop}(hl:r.length=3)(h:∀b,K (.slice (some ⟨b,0,none⟩) 1 1) ((b,.cells r.toArray 60 zZ)::H)):ai zQ 225 1 [(0,.agg r.toArray)] H K:=
 ai.one (r:=r) (e:=60) (k:=3) (z:=.agg #[iv 0,.int .u32 0,.int .u32 0]) zK zK zK zD hl h
theorem vi{X Y:Hp}(h:cv kp K ord af tr C)(q:Q3)(hq:∀r∈l3 q,r<4294967296):
  Fc zQ 143 #[ptr bw,kq q] (eZ bw kp vl vm::(X++(Y++C))) (λv H=>∃CN,H=CN++(eZ bw kp vl vm::(X++(Y++C)))/\aH 60 3 v ((l3 q).map (got K.N)) CN):=by
 have hlen:(l3 q).length=3:=rfl;refine aS λg=>Cw λb1 _=>?_;refine av.q ?_;refine⟨λvs H=>∃(i:Nat) (u:zV) (CN:Hp),vs=[u,iv (i:Int)]/\i<=3/\H=CN++((b1,.cells (au .u32 (iw (l3 q))) 181 zZ)::(eZ bw kp vl vm::(X++(Y++C))))/\aH 60 3 u (((l3 q).take i).map (got K.N)) CN,λvs _=>3-bL vs 1,
  JE.mk ⟨0,_,[],rfl,by omega,rfl,aH.nil _ _⟩,?_⟩
 rintro w8 w9 H ⟨i,u,CN,⟨⟩,hi,rfl,hN⟩ gs;refine ae.fe (b:=3) (Br.dec (λhlt=>?_) (λhlt=>?_))
 ·have gv:i<(l3 q).length:=hlt;obtain⟨r,hr⟩:∃r,(l3 q)[i]? =some r:=⟨_,xab gv⟩;have Rr:=hq r (xax hr);refine bS.VN (t:=181) (e:=27) (q:=.u32) (x:=.tmp 10) (i:=.tmp 11) (l:=iw (l3 q)) (z:=(r:Int)) (kd:=.i64) (n:=3) (j:=i) zK rfl rfl zK zK zK hlt (cc hr) ?_;refine Ld.n ?_;refine aa.eq (args:=#[ptr kp,u32 r]) (gg h Rr) (Ext.two λxh _=>(St.whole (r:=got K.N r) (by exact .head _) rfl (aF _ _).1 (aF _ _).2 ?_));refine av.whole (r:=got K.N r) (by exact .head _) (aF _ _).1 ?_;refine GC (aF _ _).1 λbx=>?_;refine hN.kx (r:=got K.N r) (.cons (.cons .left)) (by exact .head _) (aF _ _).1 (aF _ _).2 ⟨[iv 0,.int .u32 0,.int .u32 0],rfl,rfl⟩ zP zP λv' C' ho=>?_;refine ae.inc (az.of (.skip .tail) ⟨i+1,v',C',rfl,by omega,rfl,?_⟩ (by simp only[bL];omega));rw[xby,hr,xaG];exact ho
 obtain rfl:i=3:=by omega
 rw[xcZ (by rw[hlen];exact xak _)]at hN;exact aN.mk (.cM .tail _) ⟨CN,rfl,hN⟩
theorem EH{n:Nat}{nF:Nat->Nat}{N:dA}{B:Hp}{vn:zV}{lvl:zL}(hw:eZ bw kp vl vm∈B)(hl:cR .i64 B vl (iw lvl))(uQ:lvl.length=n)(hlv:∀v,v<n->lvl.getD v 0=nF v)(q:Q3)(hn:Sl 3 B vn ((l3 q).map (got N)))
 (h:WF n nF N)(hL:jI n nF)(hq:∀r∈l3 q,live N r)(yq:n<=64):
  Rd zQ 144 #[ptr bw,vn] B (λr=>((∀s∈l3 q,N s=none)/\r=iv (-1))\/∃v,qO n nF N (l3 q) v/\r=iv (v:Int)):=by
 have hlen:(l3 q).length=3:=rfl;refine aS λg=>Cv (hn.bH ?_);rw[xaz,hlen];refine⟨λvs H=>∃(i:Nat) (w:Int),vs=[iv w,iv (i:Int)]/\i<=3/\H=B/\(((∀s∈(l3 q).take i,N s=none)/\w= -1)\/∃v:Nat,qO n nF N ((l3 q).take i) v/\w=(v:Int)),λvs _=>3-bL vs 1,
  JE.mk ⟨0, -1,rfl,by omega,rfl,.inl ⟨by simp,rfl⟩⟩,?_⟩
 rintro w6 w7 H ⟨i,w,⟨⟩,hi,rfl,PU⟩ gs;refine ae.fe (b:=3) (Br.dec (λhlt=>?_) (λhlt=>?_))
 ·intro J hJ;have gv:i<(l3 q).length:=hlt;obtain⟨r,hr⟩:∃r,(l3 q)[i]? =some r:=⟨_,xab gv⟩;have kQ:(l3 q).take (i+1)=(l3 q).take i++[r]:=by rw[xby,hr];rfl
  have fin:∀(w':Int) (Z:Hp),((∀s∈(l3 q).take (i+1),N s=none)/\w'= -1)\/(∃v:Nat,qO n nF N ((l3 q).take (i+1)) v/\w'=(v:Int))->J [iv w'] (Z++H):=λw' Z h'=>hJ _ _ λgs=>by
   exact ae.inc (az.of .right ⟨i+1,w',rfl,by omega,rfl,h'⟩ (by simp only[bL];omega))
  have hrow:((l3 q).map (got N))[i]? =some (got N r):=by rw[xat,hr];rfl
  refine aj.sl hn hrow λp hp=>?_;refine av.at hp (aF _ _).1 zD (λ_ h=>h) ?_;intro pV _;refine St.whole (r:=got N r) (by exact .head _) rfl (aF _ _).1 (aF _ _).2 ?_;have hlr:=hq r (xax hr);cases hN:N r with
  |none=>
   have wu:r<2:=by rcases hlr with h2|⟨d,hd⟩;exact h2;rw[hN]at hd;cases hd
   have eg:got N r=[iv (-1),u32 r,u32 r]:=dY wu;rw[eg];refine Ld.f ?_;refine ae.geq (dr.mk false (λh=>by simp at h) (λ_=>rfl) λgs=>Br.no ?_);refine JE.mk (fin w [_] ?_);rcases PU with⟨h1,h2⟩|⟨v,h1,h2⟩
   ·refine .inl ⟨λs hs=>?_,h2⟩;rw[kQ,xal,xaL]at hs;rcases hs with hs|rfl
    ·exact h1 s hs
    exact hN
   refine .inr ⟨v,⟨h1.lt,?_,λs hs=>?_⟩,h2⟩
   ·obtain⟨s,hs,x⟩:=h1.ex;exact⟨s,by rw[kQ];exact xac _ hs,x⟩
   rw[kQ,xal,xaL]at hs;rcases hs with hs|rfl
   ·exact h1.le s hs
   rw[aT hN];exact xb8 (hL.lt v h1.lt)
  |some d=>
   have h2:=h.two hN;have m0:=h.var hN;have eg:got N r=aY d:=de hN h2;rw[eg];refine Ld.f ?_;refine ae.geq ?_;rw[xaA zO];have xx:(∀s∈(l3 q).take i,nF d.v<=dep n nF N s)->∃v:Nat,qO n nF N ((l3 q).take (i+1)) v/\(d.v:Int)=(v:Int):=λhle=>by
    refine⟨d.v,⟨m0,⟨r,by rw[kQ];simp,d,hN,rfl⟩,λs hs=>?_⟩,rfl⟩;rw[kQ,xal,xaL]at hs;rcases hs with hs|rfl
    ·exact hle s hs
    rw[an hN];exact xak _
   rcases PU with⟨h1,rfl⟩|⟨v,h1,rfl⟩
   ·refine dr.and true (λ_=>?_) rfl λgs=>Br.yes ?_
    ·exact ae.lss (dr.mk true (λh=>by simp at h) (λ_=>rfl) λgs=>⟨rfl,rfl⟩)
    refine Ld.f ?_;refine JE.mk (fin (d.v:Int) [_] (.inr (xx λs hs=>?_)));rw[aT (h1 s hs)];exact xb8 (hL.lt _ m0)
   have g1:(iw lvl)[d.v]? =some ((nF d.v:Nat):Int):=by rw[<-hlv d.v m0];exact bc zO
   have g2:(iw lvl)[v]? =some ((nF v:Nat):Int):=by rw[<-hlv v h1.lt];exact bc (by have:=h1.lt;omega)
   refine dr.and (decide (nF d.v<nF v)) (λ_=>?_) rfl λgs=>?_
   ·refine ae.lss ?_;rw[xas zO];refine dr.or (decide (nF d.v<nF v)) (λ_=>?_) rfl λgs=>⟨rfl,by simp⟩;refine Ld.v (.tail _ hw) ?_;refine Ld.f ?_;refine hl.ld g1 (λ_ h=>.tail _ h) (Ld.v (.tail _ hw) ?_);exact hl.ld g2 (λ_ h=>.tail _ h) (ae.fe ⟨rfl,rfl⟩)
   rw[xdu];refine Br.dec (λsu=>?_) (λsu=>?_)
   ·refine Ld.f ?_;refine JE.mk (fin (d.v:Int) [_] (.inr (xx λs hs=>?_)));have:=h1.le s hs;omega
   refine JE.mk (fin (v:Int) [_] (.inr ⟨v,⟨h1.lt,?_,λs hs=>?_⟩,rfl⟩))
   ·obtain⟨s,hs,x⟩:=h1.ex;exact⟨s,by rw[kQ];exact xac _ hs,x⟩
   rw[kQ,xal,xaL]at hs;rcases hs with hs|rfl
   ·exact h1.le s hs
   rw[an hN];omega
 obtain rfl:i=3:=by omega
 rw[xcZ (by rw[hlen];exact xak _)]at PU;refine bX.mk (.refl _) ?_;rcases PU with⟨h1,rfl⟩|⟨v,h1,rfl⟩
 ·exact .inl ⟨h1,rfl⟩
 exact .inr ⟨v,h1,rfl⟩
theorem FP(h:br kp K S ord af tr C){v lo hi:Nat}(hv:v<K.n)(hlo:live K.N lo)(hhi:live K.N hi)(hlt:lv af v<dep K.n (lv af) K.N lo/\lv af v<dep K.n (lv af) K.N hi):
  Rd zQ 172 #[ptr kp,iv (v:Int),u32 lo,u32 hi] C (· =if lo=hi then .tuple #[u32 lo,.bool true]else .tuple #[u32 ((K.T ⟨v,lo,hi⟩).getD 0),.bool (K.T ⟨v,lo,hi⟩).isSome]):=by
 have X7:=h.bp hlo;have Yk:=h.bp hhi;have xd:=bF.2 hlo;have qp:=bF.2 hhi;have Yt:nf K af (v:Int) lo hi=0:=by
  unfold nf;rw[xad zO,xad (by rw[xd,qp];simp),xad];rintro⟨hne,hmin⟩;simp only[xco,lv]at hmin hlt;omega
 refine aS λg=>BY λJ hJ=>?_;refine ae.bf (Split.go rfl (aa.eq (Er h.rep (v:Int) zO zO (λr d hd=>⟨h.ok.mid.var hd,(h.ok.mid.two hd).1⟩)) ?_));rw[Yt];refine ae.dz (aB.mk (JE.mk (hJ _ _ λgs=>?_)));rw[xas zI];refine Br.no (aa.rq (DK h.rep (lo:=lo) (hi:=hi) hv) ?_);rintro w hw;subst hw;by_cases he:lo=hi
 ·rw[xae he];exact Ext.mk rfl (Ext.mk rfl (bX.mk (.refl _) rfl))
 rw[xad he];exact Ext.mk rfl (Ext.mk rfl (bX.mk (.refl _) rfl))
theorem sj(h:br kp K S ord af tr C){v lo hi r:Nat}(hv:v<K.n)(hlo:live K.N lo)(hhi:live K.N hi)(hlt:lv af v<dep K.n (lv af) K.N lo/\lv af v<dep K.n (lv af) K.N hi)(hr:live K.N r)(h2:2<=r)(hS:S r=ite S ⟨v,lo,hi⟩):
  Rd zQ 172 #[ptr kp,iv (v:Int),u32 lo,u32 hi] C (· =.tuple #[u32 r,.bool true]):=by
 refine(FP h hv hlo hhi hlt).mono ?_;rintro w H ⟨e,rfl⟩;refine⟨e,?_⟩;by_cases he:lo=hi
 ·subst he;rw[xae rfl,h.ok.wf.same h.ok.lv h.ok.mid.int hr hlo λx=>by rw[hS];unfold aq.ite;split<;>rfl]
 rw[xad he];obtain⟨d,hd⟩:∃d,K.N r=some d:=by
  rcases hr with h3|h3
  ·omega
  exact h3
 have hdd:d=⟨v,lo,hi⟩:=h.ok.NC (d:=⟨v,lo,hi⟩) hlo hhi he hv hlt hd hS;subst hdd;rw[(h.ok.mid.iG _ r).2 ⟨hd,λe=>e⟩];rfl
theorem Bv(r v:Nat)(B:Hp):Rd zQ 145 #[ptr bw,iv (v:Int),u32 r,u32 r] B (· =.tuple #[u32 r,iv 0]):=by
 exact aS λg=>tq (ae.kH (Br.T (bX.mk (.refl _) rfl)))
theorem Mc{CM X:Hp}{made:zL}(h:br kp K S ord af tr C){v lo hi:Nat}(hv:v<K.n)(hlo:live K.N lo)(hhi:live K.N hi)(hne:lo≠hi)(hlt:lv af v<dep K.n (lv af) K.N lo/\lv af v<dep K.n (lv af) K.N hi)
 (hM:aL 27 .u32 vm (iw made) CM)(hlen:made.length<=1099511627776):
  Fc zQ 145 #[ptr bw,iv (v:Int),u32 lo,u32 hi] (eZ bw kp vl vm::(X++(CM++C))) (λw H=>
   (∃r K' S' C' Qx Sy,w=.tuple #[u32 r,iv 0]/\H=eZ bw kp vl Qx::(X++(Sy++C'))/\br kp K' S' ord af [] C'/\nj K S K' S' (ite S ⟨v,lo,hi⟩) r/\aL 27 .u32 Qx (iw (made++[r])) Sy)\/
   (w=.tuple #[u32 0,iv 9]/\H=eZ bw kp vl vm::(X++(CM++C))/\K.cap<=K.used/\K.T ⟨v,lo,hi⟩=none)\/
   (∃r,w=.tuple #[u32 r,iv 0]/\H=eZ bw kp vl vm::(X++(CM++C))/\live K.N r/\2<=r/\K.hold r=65535/\S r=ite S ⟨v,lo,hi⟩)):=by
 refine aS λg=>tq (ae.bA (Br.OX hne (Ld.n ?_)));refine aa.fq (vY h hv hlo hhi (.inr hlt)) ?_;rintro w C' (⟨r,K',S',rfl,dc,mk⟩|⟨r,rfl,rfl,hlr,Iw,hfull,yD⟩|⟨rfl,rfl,hcap,_,hT⟩)
 ·refine Ext.two λJ hJ=>(ae.kH (Br.T (Ld.n ?_)));refine ai.int (e:=27) zK zK zK λbx=>?_;refine hM.kx (x:=(r:Int)) (.cons (.cons (.app .left))) (by exact .head _) (by rw[ag];omega) (by rw[ag];omega) λQx Sy WD=>?_;have h1:=WD.one;refine Nil.ptr (ah.mk (St.one (by exact .tail (.head _)) h1 zI rfl ?_));refine aN.mk .tail (.inl ⟨r,K',S',C',Qx,Sy,rfl,rfl,dc,mk,?_⟩);rw[bV];exact WD
 ·refine Ext.two λJ hJ=>(ae.kH (Br.F (ae.kH (Br.T (Ld.n ?_)))));exact aa.eq (sj h hv hlo hhi hlt hlr Iw yD) (Ext.mk rfl (Ext.mk rfl (Br.yes (aN.here (.inr (.inr ⟨r,rfl,rfl,hlr,Iw,hfull,yD⟩))))))
 exact Ext.two λJ hJ=>(ae.kH (Br.F (ae.kH (Br.F (JE.mk (hJ _ λgs=>aN.here (.inr (.inl ⟨rfl,rfl,hcap,hT⟩))))))))
end
end
section
open aq
structure ji(K0:Kd)(S0:Nat->aq.Fn)(U:aq.Fn->Prop)(ord:zL)(K:Kd)(S:Nat->aq.Fn)(made:zL):Prop where
 n:K.n=K0.n
 cap:K.cap=K0.cap
 N:∀s d,K0.N s=some d->K.N s=some d
 fn:∀s,live K0.N s->S s=S0 s
 hold:∀s,K.hold s=K0.hold s+made.count s
 two:∀s∈made,2<=s
 U:∀g,aA K0.n ord (K.held S) g->U g
theorem ji.refl{K0:Kd}{S0:Nat->aq.Fn}{U:aq.Fn->Prop}{ord:zL}(h:∀g,aA K0.n ord (K0.held S0) g->U g):ji K0 S0 U ord K0 S0 []:=⟨rfl,rfl,λ_ _ h=>h,λ_ _=>rfl,λs=>by simp,by simp,h⟩
def Fits(U:aq.Fn->Prop)(cap:Nat):Prop:=∃ku,qS U ku/\ku+2<=cap
section
variable {kp:Nat} {K0 K:Kd} {S0 S:Nat->aq.Fn} {U:aq.Fn->Prop} {ord af tr:zL} {made:zL} {C:Hp}
theorem ji.fL(h:ji K0 S0 U ord K S made)(hK:br kp K S ord af tr C){s:Nat}(hs:s∈made):live K.N s:=by
 refine .inr (hK.ok.mid.held s ?_);rw[h.hold];have:=xce.2 hs;omega
theorem uI{b:Nat}:∀(m:Nat) (l:zL),(∀x∈l,x<m)->(∀x,l.count x<=b)->l.length<=m*b
 |0,l,h1,_=>by
  cases l with
  |nil=>simp
  |cons x l=>exact absurd (h1 x (xbq ..)) (xcg _)
 |m+1,l,h1,h2=>by
  have ih:=uI m (l.filter λx=> !(x==m)) (λx hx=>by
   obtain⟨hx,hne⟩:=xcj.1 hx;have:=h1 x hx;have:x≠m:=by simpa using hne
   omega) (λx=>xbN (List.filter_sublist.count_le x) (h2 x))
  have e:=List.length_eq_countP_add_countP (λx=>x==m) (l:=l);have h3:=h2 m;rw[List.count]at h3;rw[List.countP_eq_length_filter (l:=l) (p:=λa=>decide ¬(a==m)=true)]at e;rw[xbr];have e2:(l.filter λa=>decide ¬(a==m)=true)=l.filter λx=> !(x==m):=List.filter_congr λx _=>by cases x==m<;>rfl
  rw[e2]at e;omega
theorem ji.oe(h:ji K0 S0 U ord K S made)(hK:br kp K S ord af tr C):made.length<=1048576*65535:=
 uI _ _ (λx hx=>by
  have hc:=xce.2 hx;have:=h.hold x;obtain⟨d,hd⟩:=hK.ok.mid.held x zO;have:=(hK.ok.mid.two hd).2;have:=hK.ok.mid.cap;omega) (λx=>by have:=h.hold x;have:=hK.ok.mid.mx x;omega)
theorem ji.full(h:ji K0 S0 U ord K S made){r:Nat}(hr:K.hold r=65535):r∈made\/K0.hold r=65535:=by
 by_cases hm:r∈made
 ·exact .inl hm
 have:=h.hold r;rw[xdO.2 hm]at this;exact .inr zO
theorem ji.live(h:ji K0 S0 U ord K S made){s:Nat}(hs:live K0.N s):live K.N s:=aW h.N hs
theorem ji.step(h:ji K0 S0 U ord K S made)(hK:br kp K S ord af tr C){K':Kd}{S':Nat->aq.Fn}{f:aq.Fn}{r:Nat}(m:nj K S K' S' f r)(h2:2<=r)(hU:∀g,aA K0.n ord (λg=>g=f) g->U g):ji K0 S0 U ord K' S' (made++[r]):=by
 refine⟨m.n.trans h.n,m.cap.trans h.cap,λs d hd=>m.N s d (h.N s d hd),λs hs=>(m.fn s (h.live hs)).trans (h.fn s hs),λs=>?_,λs hs=>?_,λg hg=>?_⟩
 ·rw[m.hold,xaX,xbB,h.hold];by_cases e:s=r
  ·subst e;simp[h2];omega
  have:(r==s)=false:=by simpa using λe'=>e e'.symm
  simp[e,this]
 ·rcases xal.1 hs with hs|hs
  ·exact h.two s hs
  simp at hs;subst hs;exact h2
 have jM:∀g,K'.held S' g->K.held S g\/g=f:=by
  rintro g ⟨s,hs,rfl⟩;have hs':K'.hold s≠0:=hs;rw[m.hold]at hs';by_cases e:s=r/\2<=r
  ·right;rw[e.1];exact m.is
  rw[xad e]at hs';exact .inl ⟨s,hs',m.fn s (.inr (hK.ok.mid.held s hs'))⟩
 rcases(ik g).1 (aJ jM hg)with h1|h1
 ·exact h.U g h1
 exact hU g h1
end
def wO(gz b1 b5 pV:Nat):zV:=.func (.func 142) #[] #[ptr gz,ptr b1,ptr b5,ptr pV]
structure wT(fv:zV)(LB:Hp)(t:Bool->Bool->Bool->Bool):Prop where
 is:∃f first cap,fv=.func (.func f) first cap/\bg zQ f=true/\∀x y z:Bool,Rd zQ f (first++ #[.bool x,.bool y,.bool z]++cap) LB (· =.bool (t x y z))
def VT(K0:Kd)(S0 S:Nat->aq.Fn)(t:Bool->Bool->Bool->Bool)(made:zL)(m:List (Q3×Nat)):Prop:=∀y∈m,S y.2=qN t S0 (l3 y.1)/\(y.2<2\/y.2∈made\/K0.hold y.2=65535)
section
variable {kp gz b1 b5 pV bm bw:Nat} {vl fv:zV} {LB CL:Hp} {lvl:zL} {K0:Kd} {S0:Nat->aq.Fn} {U:aq.Fn->Prop} {ord af:zL} {t:Bool->Bool->Bool->Bool}
abbrev Qj(gz b1 b5 pV bm bw kp:Nat)(fv vl vm:zV)(LB CL CM C:Hp)(es:Array MapEntry)(ck:Nat):Hp:=
 (gz,.cells #[.map (some bm)] 223 zZ)::(b1,.cells #[ptr bw] 176 zZ)::(b5,.cells #[fv] 183 zZ)::(pV,.cells #[wO gz b1 b5 pV] 224 zZ)::
 (LB++((bm,.map es ck)::(eZ bw kp vl vm::(CL++(CM++C)))))
structure ZF(kp:Nat)(K0:Kd)(S0:Nat->aq.Fn)(U:aq.Fn->Prop)(ord af Qz:zL)(t:Bool->Bool->Bool->Bool)(K:Kd)(S:Nat->aq.Fn)(made:zL)(es:Array MapEntry)(ck:Nat)(vm:zV)(CM C:Hp):Prop where
 ks:∃tr,br kp K S ord af tr C/\(tr=[]\/(tr=Qz/\made=[]))
 cA:ji K0 S0 U ord K S made
 Wa:aL 27 .u32 vm (iw made) CM
 kn:∃m,aM kq Im es ck m/\VT K0 S0 S t made m
structure eY(K:Kd)(S:Nat->aq.Fn)(made:zL)(K':Kd)(S':Nat->aq.Fn)(made':zL)(c:Nat):Prop where
 N:∀s d,K.N s=some d->K'.N s=some d
 fn:∀s,live K.N s->S' s=S s
 ext:∃ext,made'=made++ext/\ext.length<=c
theorem eY.refl{K:Kd}{S:Nat->aq.Fn}{made:zL}{c:Nat}:eY K S made K S made c:=⟨λ_ _ h=>h,λ_ _=>rfl,[],by simp,xaK _⟩
section
variable {K K' K2:Kd} {S S' S2:Nat->aq.Fn} {made made' eJ:zL} {c c':Nat}
theorem eY.E4(h:eY K S made K' S' made' c)(hc:c<=c'):eY K S made K' S' made' c':=⟨h.N,h.fn,let ⟨e,h1,h2⟩:=h.ext;⟨e,h1,by omega⟩⟩
theorem eY.mem{s:Nat}(h:eY K S made K' S' made' c)(hs:s∈made):s∈made':=by
 obtain⟨e,rfl,_⟩:=h.ext;exact xac _ hs
theorem eY.count(h:eY K S made K' S' made' c)(s:Nat):made'.count s<=made.count s+c/\made'.length<=made.length+c:=by
 obtain⟨e,rfl,he⟩:=h.ext;have:=xda (a:=s) (l:=e);rw[xaX,xai];omega
theorem eY.trans(h:eY K S made K' S' made' c)(h':eY K' S' made' K2 S2 eJ c'):eY K S made K2 S2 eJ (c+c'):=by
 obtain⟨e,rfl,he⟩:=h.ext;obtain⟨e',rfl,he'⟩:=h'.ext;exact⟨λs d hd=>h'.N s d (h.N s d hd),λs hs=>(h'.fn s (aW h.N hs)).trans (h.fn s hs),e++e',by rw[xaj],by rw[xai];omega⟩
end
theorem k9{κ β:Type}[DecidableEq κ]{m:List (κ×β)}{k:κ}{x:β}{y:κ×β}(h:y∈gf m k x):y=(k,x)\/y∈m:=by
 unfold gf at h;split at h
 ·obtain⟨z,hz,rfl⟩:=xaq.1 h;split
  ·exact .inl rfl
  exact .inr hz
 rcases xal.1 h with h|h
 ·exact .inr h
 simp at h;exact .inl h
def xH(N:dA)(v:Nat)(b:Bool)(q:Q3):Q3:=(dg N v b q.1,dg N v b q.2.1,dg N v b q.2.2)
theorem NO(N:dA)(v:Nat)(b:Bool)(q:Q3):l3 (xH N v b q)=gj N v b (l3 q):=rfl
theorem lT{N N':dA}(hN:∀s d,N s=some d->N' s=some d)(h2:∀r,r<2->N r=none)(kF:∀r,r<2->N' r=none){r:Nat}(hr:live N r):got N' r=got N r:=by
 rcases hr with hr|⟨d,hd⟩
 ·rw[dY hr,dY hr]
 by_cases h:r<2
 ·rw[h2 r h]at hd;cases hd
 rw[de hd zO,de (hN r d hd) zO]
def Ans(kp gz b1 b5 pV bm bw:Nat)(fv vl:zV)(LB CL:Hp)(K0:Kd)(S0:Nat->aq.Fn)(U:aq.Fn->Prop)(ord af Qz:zL)(t:Bool->Bool->Bool->Bool)(ql:zL)(c:Nat)(K:Kd)(S:Nat->aq.Fn)(made:zL)(r:zV)(H:Hp):Prop:=
 ∃K' S' made' es' cm Qx Sy C',H=Qj gz b1 b5 pV bm bw kp fv vl Qx LB CL Sy C' es' cm/\ZF kp K0 S0 U ord af Qz t K' S' made' es' cm Qx Sy C'/\eY K S made K' S' made' c/\
   ((∃x:Nat,r=.tuple #[u32 x,iv 0]/\S' x=qN t S0 ql/\(x<2\/x∈made'\/K0.hold x=65535))\/(r=.tuple #[u32 0,iv 9]/\¬Fits U K0.cap))
theorem R5(fU:bg zQ 142=true)(WG:wT fv LB t)(Qg:aL 3 .i64 vl (iw lvl) CL)(uQ:lvl.length=K0.n)(hlv:∀v,v<K0.n->lvl.getD v 0=lv af v)(yq:K0.n<=64)(jj:WF K0.n (lv af) K0.N)(mS:Interp K0.N S0)(jd:jI K0.n (lv af))(MS:∀r,live K0.N r->r<4294967296)(Wp:∀s,K0.hold s=65535->live K0.N s){Qz:zL}:
  ∀(ql:zL) (c:Nat),Tree K0.n (lv af) K0.N ql c->∀(q:Q3),l3 q=ql->∀(K:Kd) (S:Nat->aq.Fn) (made:zL) (es:Array MapEntry) (ck:Nat) (vm:zV) (CM C:Hp),ZF kp K0 S0 U ord af Qz t K S made es ck vm CM C->
  (∀r∈ql,live K0.N r)->(∀g,aA K0.n ord (λg=>g=qN t S0 ql) g->U g)->
  Fc zQ 142 #[kq q,ptr gz,ptr b1,ptr b5,ptr pV] (Qj gz b1 b5 pV bm bw kp fv vl vm LB CL CM C es ck) (λr H=>Ans kp gz b1 b5 pV bm bw fv vl LB CL K0 S0 U ord af Qz t ql c K S made r H):=by
 have hc0:∀r,r<2->K0.N r=none:=λr hr=>jj.const hr;intro ql c hT;induction hT with
 | @leaf ql hnone=>
  intro q hq K S made es ck vm CM C hS fJ hU g;subst hq;obtain⟨tr,hK,ot⟩:=hS.ks;obtain⟨m,hE,hkn⟩:=hS.kn;have Eg:∀r,r<2->K.N r=none:=λr hr=>hK.ok.wf.const hr;refine tt (R:=aN _) ?_;unfold L142;intro bq _;refine Ld.q ?_;refine av.q ?_;have tS:(bm,Obj.map es ck)∈(bq,Obj.cells (au .u32 (iw (l3 q))) 181 zZ)::Qj gz b1 b5 pV bm bw kp fv vl vm LB CL CM C es ck:=.tail _ (.tail _ (.tail _ (.tail _ (.tail _ (xaa _ (.head _))))));cases hg:c8 m q with
  |some x=>
   refine aM.F1 (ke:=kq) (k:=q) sg nG hE tS hg ?_;rintro v rfl;obtain⟨h1,h2⟩:=hkn _ ((fo hE.nd).1 hg);exact Ext.mk rfl (Ext.mk rfl (Br.yes (aN.mk .tail ⟨K,S,made,es,ck,vm,CM,C,rfl,hS,.refl,.inl ⟨x,rfl,h1,h2⟩⟩)))
  |none=>
   refine aM.uA (ke:=kq) (k:=q) sg nG hE tS hg ?_;refine Ext.mk rfl (Ext.mk rfl (Br.no (Ld.q ?_)));refine av.q ?_;refine aa.fq (args:=#[ptr bw,kq q]) (vi hK.rep q (λr hr=>MS r (fJ r hr))) ?_;rintro vn H ⟨CN,rfl,hN⟩;have eN:(l3 q).map (got K.N)=(l3 q).map (got K0.N):=xbV λr hr=>lT hS.cA.N hc0 Eg (fJ r hr);rw[eN]at hN;refine Ld.q ?_;refine aa.rq (EH (bw:=bw) (kp:=kp) (vl:=vl) (vm:=vm) (lvl:=lvl) (n:=K0.n) (nF:=lv af) (N:=K0.N) (.tail _ (.tail _ (.tail _ (.tail _ (.tail _ (xaa _ (.tail _ (xaa _ (.head _))))))))) (Qg.ints.mono λ_ h=>.tail _ (.tail _ (.tail _ (.tail _ (.tail _ (xaa _ (.tail _ (xaa _ (.tail _ (xac _ h)))))))))) uQ hlv q ((Sl.iO hN zD).mono λ_ h=>.tail _ (.tail _ (.tail _ (.tail _ (.tail _ (xaa _ (.tail _ (xac _ h)))))))) jj jd fJ yq) ?_;rintro w (⟨_,rfl⟩|⟨v,hv,rfl⟩);rotate_left
   ·obtain⟨s,hs,d,hd,_⟩:=hv.ex;rw[hnone s hs]at hd;cases hd
   refine ae.lss (Br.T ?_);have F5:∀r∈l3 q,r<2:=λr hr=>by
    rcases fJ r hr with h|⟨d,hd⟩
    ·exact h
    rw[hnone r hr]at hd;cases hd
   obtain⟨f,first,cap,Kz,hfc,hL⟩:=WG.is;refine Ld.q ?_;refine gm.nat (j:=0) zD (Ld.q ?_);refine ae.bA (b:=1) (gm.nat (j:=1) zD (Ld.q ?_));refine ae.bA (b:=1) (gm.nat (j:=2) zD (Ld.q ?_));refine ae.bA (b:=1) (bQ.of Kz hfc ?_);refine aa.eq (hL _ _ _) ?_;have wz:=λx=>Gs mS (q:=l3 q) rfl F5 t x;have hint:=hK.ok.mid.int;have P5:aG ((bq,Obj.cells (au .u32 (iw (l3 q))) 181 zZ)::(gz,.cells #[.map (some bm)] 223 zZ)::(b1,.cells #[ptr bw] 176 zZ)::(b5,.cells #[fv] 183 zZ)::(pV,.cells #[wO gz b1 b5 pV] 224 zZ)::(LB++((bm,.map es ck)::(CN++(eZ bw kp vl vm::(CL++(CM++C))))))) (Qj gz b1 b5 pV bm bw kp fv vl vm LB CL CM C es ck):=
    .skip (.cons (.cons (.cons (.cons (.cM (.cons .right) _)))))
   refine Br.mk (λhb=>?_) (λhb=>?_)
   ·refine aN.mk P5 ⟨K,S,made,es,ck,vm,CM,C,rfl,hS,.refl,.inl ⟨1,rfl,funext λx=>?_,.inl zO⟩⟩;rw[hint.one,wz x];exact hb.symm
   refine aN.mk P5 ⟨K,S,made,es,ck,vm,CM,C,rfl,hS,.refl,.inl ⟨0,rfl,funext λx=>?_,.inl zO⟩⟩;rw[hint.zero,wz x];exact hb.symm
 | @node ql v a b hv ha hb iha ihb=>
  intro q hq K S made es ck vm CM C hS fJ hU g;subst hq;obtain⟨tr,hK,ot⟩:=hS.ks;obtain⟨m,hE,hkn⟩:=hS.kn;have Eg:∀r,r<2->K.N r=none:=λr hr=>hK.ok.wf.const hr;refine tt (R:=aN _) ?_;unfold L142;intro bq _;refine Ld.q ?_;refine av.q ?_;have tS:(bm,Obj.map es ck)∈(bq,Obj.cells (au .u32 (iw (l3 q))) 181 zZ)::Qj gz b1 b5 pV bm bw kp fv vl vm LB CL CM C es ck:=.tail _ (.tail _ (.tail _ (.tail _ (.tail _ (xaa _ (.head _))))));cases hg:c8 m q with
  |some x=>
   refine aM.F1 (ke:=kq) (k:=q) sg nG hE tS hg ?_;rintro v rfl;obtain⟨h1,h2⟩:=hkn _ ((fo hE.nd).1 hg);exact Ext.mk rfl (Ext.mk rfl (Br.yes (aN.mk .tail ⟨K,S,made,es,ck,vm,CM,C,rfl,hS,.refl,.inl ⟨x,rfl,h1,h2⟩⟩)))
  |none=>
  refine aM.uA (ke:=kq) (k:=q) sg nG hE tS hg ?_;refine Ext.mk rfl (Ext.mk rfl (Br.no (Ld.q ?_)));refine av.q ?_;refine aa.fq (args:=#[ptr bw,kq q]) (vi hK.rep q (λr hr=>MS r (fJ r hr))) ?_;rintro vn H ⟨CN,rfl,hN⟩;have eN:(l3 q).map (got K.N)=(l3 q).map (got K0.N):=xbV λr hr=>lT hS.cA.N hc0 Eg (fJ r hr);rw[eN]at hN;refine Ld.q ?_;refine aa.rq (EH (bw:=bw) (kp:=kp) (vl:=vl) (vm:=vm) (lvl:=lvl) (n:=K0.n) (nF:=lv af) (N:=K0.N) (.tail _ (.tail _ (.tail _ (.tail _ (.tail _ (xaa _ (.tail _ (xaa _ (.head _))))))))) (Qg.ints.mono λ_ h=>.tail _ (.tail _ (.tail _ (.tail _ (.tail _ (xaa _ (.tail _ (xaa _ (.tail _ (xac _ h)))))))))) uQ hlv q ((Sl.iO hN zD).mono λ_ h=>.tail _ (.tail _ (.tail _ (.tail _ (.tail _ (xaa _ (.tail _ (xac _ h)))))))) jj jd fJ yq) ?_;rintro w (⟨aI,_⟩|⟨v',tQ,rfl⟩)
  ·obtain⟨s,hs,d,hd,_⟩:=hv.ex;rw[aI s hs]at hd;cases hd
  obtain rfl:v'=v:=tQ.uniq jd hv;refine ae.lss (Br.F (DR.of (R:=[(bq,Obj.cells (au .u32 (iw (l3 q))) 181 zZ)]) (aG.left (A:=[_])) (av.q ?_)));refine av.q ?_;intro WO _ Ai _ F35;have hone:∀x∈(iw (l3 q)).map λn=>Value.int .u32 n,x.oneCell'=true:=λx hx=>by obtain⟨n,_,rfl⟩:=xaq.1 hx;rfl
  refine St.p hone ?_;refine⟨.skip (.skip (aG.left (A:=[_]))),?_⟩;intro F37;refine St.p hone ?_;refine hN.bH ?_;rw[xaz];refine⟨λvs H=>∃i:Nat,vs=[iv (i:Int)]/\i<=3/\H=(Ai,.cells (au .u32 (iw (j5 K0.N v' true (l3 q) i))) 181 zZ)::(WO,.cells (au .u32 (iw (j5 K0.N v' false (l3 q) i))) 181 zZ)::
    (bq,Obj.cells (au .u32 (iw (l3 q))) 181 zZ)::(gz,.cells #[.map (some bm)] 223 zZ)::(b1,.cells #[ptr bw] 176 zZ)::(b5,.cells #[fv] 183 zZ)::(pV,.cells #[wO gz b1 b5 pV] 224 zZ)::(LB++((bm,.map es ck)::(CN++(eZ bw kp vl vm::(CL++(CM++C)))))),
   λvs _=>3-bL vs 0,JE.mk ⟨0,rfl,by omega,by rw[uy,uy];rfl⟩,?_⟩
  rintro w44 H ⟨i,hvs,hi,rfl⟩ gs;simp only[xau,xaY]at hvs;subst hvs;have X8:(l3 q).length=3:=rfl;refine ae.fe (b:=3) (Br.dec (λhlt=>?_) (λhlt=>?_))
  ·-- a part of the question
   intro J hJ;obtain⟨r,hr⟩:∃r,(l3 q)[i]? =some r:=⟨_,xab (show i<(l3 q).length from hlt)⟩;have hlr:=fJ r (xax hr);have hrow:((l3 q).map (got K0.N))[i]? =some (got K0.N r):=by rw[xat,hr];rfl
   refine aj.sl (Sl.iO hN zD) hrow λp hp=>?_;refine av.at hp (aF _ _).1 zD (λ_ h=>.tail _ (.tail _ (.tail _ (.tail _ (.tail _ (.tail _ (.tail _ (xaa _ (.tail _ (xac _ h)))))))))) ?_;intro b52 _;refine St.whole (r:=got K0.N r) (by exact .head _) rfl (aF _ _).1 (aF _ _).2 ?_;have stay:dg K0.N v' false r=r->dg K0.N v' true r=r->∀Z:Hp,JE J [] (Z++((Ai,.cells (au .u32 (iw (j5 K0.N v' true (l3 q) i))) 181 zZ)::(WO,.cells (au .u32 (iw (j5 K0.N v' false (l3 q) i))) 181 zZ)::
    (bq,Obj.cells (au .u32 (iw (l3 q))) 181 zZ)::(gz,.cells #[.map (some bm)] 223 zZ)::(b1,.cells #[ptr bw] 176 zZ)::(b5,.cells #[fv] 183 zZ)::(pV,.cells #[wO gz b1 b5 pV] 224 zZ)::(LB++((bm,.map es ck)::(CN++(eZ bw kp vl vm::(CL++(CM++C)))))))):=λe1 e2 Z=>by
    refine JE.of .right (hJ _ λgs=>?_);exact ae.inc (az.of (.refl _) ⟨i+1,rfl,by omega,by rw[uz hr e1,uz hr e2]⟩ (by simp only[bL];omega))
   cases RY:K0.N r with
   |none=>
    have wu:r<2:=by rcases hlr with h2|⟨d,hd⟩;exact h2;rw[RY]at hd;cases hd
    rw[dY wu];refine Ld.f ?_;refine ae.kH (Br.F ?_);have ec:∀b,dg K0.N v' b r=r:=λb=>by unfold dg;rw[RY]
    exact stay (ec false) (ec true) [_]
   |some d=>
    have h2:=jj.two RY;rw[de RY h2];refine Ld.f ?_;refine ae.bA (Br.dec (λm0=>?_) (λm0=>?_))
    ·refine DR.of (R:=[(b52,Obj.cells (aY d).toArray 60 zZ)]) (aG.left (A:=[_])) (Ld.f ?_);refine Ld.f ?_;have elo:dg K0.N v' false r=d.lo:=by unfold dg;rw[RY];simp[m0]
     have ehi:dg K0.N v' true r=d.hi:=by unfold dg;rw[RY];simp[m0]
     refine gm.nat hlt ?_;refine St.ints (l:=iw (j5 K0.N v' false (l3 q) i)) (x:=(d.lo:Int)) (by exact .tail (.tail (.head _))) (by rw[ag,xV zO];omega) ?_;refine⟨aG.left (A:=[_]),?_⟩;refine gm.nat hlt ?_;refine St.ints (l:=iw (j5 K0.N v' true (l3 q) i)) (x:=(d.hi:Int)) (by exact .tail (.head _)) (by rw[ag,xV zO];omega) ?_;rw[er,er,<-elo,<-ehi,pD hr,pD hr];refine JE.of .tail (hJ _ λgs=>?_);exact ae.inc (az.of (.refl _) ⟨i+1,rfl,by omega,rfl⟩ (by simp only[bL];omega))
    have ec:∀b,dg K0.N v' b r=r:=λb=>by unfold dg;rw[RY];simp[m0]
    exact stay (ec false) (ec true) [_]
  obtain rfl:i=3:=by omega
  have em:∀b,j5 K0.N v' b (l3 q) 3=l3 (xH K0.N v' b q):=λb=>by rw[NO,<-JG];rfl
  rw[em,em];obtain⟨f1,f2⟩:=mK (S:=S0) jj jd mS fJ hv false;obtain⟨t1,t2⟩:=mK (S:=S0) jj jd mS fJ hv true;have ec:∀b,qN t S0 (gj K0.N v' b (l3 q))=λx=>qN t S0 (l3 q) (ax.ay x v' b):=λb=>Ew jj jd mS rfl fJ hv t b;have jD:Ord K0.n (lv af) ord:=by rw[<-hS.cA.n];exact hK.od
  have gv:=jd.lt v' hv.lt;have FW:=jD.of jd hv.lt;have pL:=uY jj jd mS jD (q:=l3 q) rfl fJ (xb8 gv) hv.le t;obtain⟨i1,I7⟩:=gU (n:=K0.n) (ord:=ord) (c:=qN t S0 (gj K0.N v' false (l3 q))) pL (b:=false) (by rw[FW];exact ec false);obtain⟨i2,I6⟩:=gU (n:=K0.n) (ord:=ord) (c:=qN t S0 (gj K0.N v' true (l3 q))) pL (b:=true) (by rw[FW];exact ec true);refine Ld.q ?_;refine av.q ?_;refine bQ.of rfl fU ?_;refine aa.pre (H':=(Ai,.cells (au .u32 (iw (l3 (xH K0.N v' true q)))) 181 zZ)::(WO,.cells (au .u32 (iw (l3 (xH K0.N v' false q)))) 181 zZ)::(bq,Obj.cells (au .u32 (iw (l3 q))) 181 zZ)::Qj gz b1 b5 pV bm bw kp fv vl vm LB CL CM C es ck) (.cons (.cons (.cons (.cons (.cons (.cons (.cons (.cM (.cons .right) _)))))))) ?_;refine aa.fq (args:=#[kq (xH K0.N v' false q),ptr gz,ptr b1,ptr b5,ptr pV]) (iha (xH K0.N v' false q) rfl K S made es ck vm CM C hS f1 (λg hg=>hU g (I7 g hg))) ?_;rintro w H ⟨K1,S1,uF,Ex,zc,ZQ,CM1,C1,rfl,Af,MR,KQ⟩;rcases KQ with⟨x1,rfl,wo,MI⟩|⟨rfl,hno⟩;rotate_left
  ·exact Ext.mk rfl (Ext.mk rfl (ae.dz (Br.T (aN.mk (.skip (.skip .tail)) ⟨K1,S1,uF,Ex,zc,ZQ,CM1,C1,rfl,Af,MR.E4 zO,.inr ⟨rfl,hno⟩⟩))))
  refine Ext.mk rfl (Ext.mk rfl (ae.dz (Br.F (Ld.q ?_))));refine av.q ?_;refine bQ.of rfl fU ?_;have Wu:=λs=>MR.count s;have tU:∀s,K1.hold s<=K.hold s+a:=λs=>by rw[Af.cA.hold,hS.cA.hold];have:=(Wu s).1;omega
  refine aa.fq (args:=#[kq (xH K0.N v' true q),ptr gz,ptr b1,ptr b5,ptr pV]) (ihb (xH K0.N v' true q) rfl K1 S1 uF Ex zc ZQ CM1 C1 Af t1 (λg hg=>hU g (I6 g hg))) ?_;rintro w H ⟨K2,S2,eJ,Gt,LP,V4,WX,C2,rfl,gP,KY,KQ⟩;have tX:=MR.trans KY;rcases KQ with⟨x2,rfl,AV,FZ⟩|⟨rfl,hno⟩;rotate_left
  ·exact Ext.mk rfl (Ext.mk rfl (ae.dz (Br.T (aN.mk (.skip (.skip .tail)) ⟨K2,S2,eJ,Gt,LP,V4,WX,C2,rfl,gP,tX.E4 zO,.inr ⟨rfl,hno⟩⟩))))
  refine Ext.mk rfl (Ext.mk rfl (ae.dz (Br.F (Ld.q ?_))));obtain⟨IU,cj,N6⟩:=Af.ks;obtain⟨nT,bN,tR⟩:=gP.ks;have UF:=bN.ok.mid.int;have Xv:live K1.N x1:=by rcases MI with h|h|h;exact .inl h;exact Af.cA.fL cj h;exact Af.cA.live (Wp _ h)
  have e1:S2 x1=qN t S0 (gj K0.N v' false (l3 q)):=(KY.fn x1 Xv).trans wo;have l1:live K2.N x1:=by rcases MI with h|h|h;exact .inl h;exact gP.cA.fL bN (KY.mem h);exact gP.cA.live (Wp _ h)
  have l2:live K2.N x2:=by rcases FZ with h|h|h;exact .inl h;exact gP.cA.fL bN h;exact gP.cA.live (Wp _ h)
  have n2:=gP.cA.n;have pK:ite S2 ⟨v',x1,x2⟩=qN t S0 (l3 q):=by
   funext x
   unfold aq.ite;rw[e1,AV,ec,ec]
   conv=>rhs;rw[<-ax.jr x v']
   simp only;cases x.testBit v'<;>rfl
  obtain⟨m2,MP,Oc⟩:=gP.kn;have X9:∀y∈m2,live K2.N y.2:=λy hy=>by
   rcases(Oc y hy).2 with h|h|h
   ·exact .inl h
   ·exact gP.cA.fL bN h
   exact gP.cA.live (Wp _ h)
  by_cases hx:x1=x2
  ·subst hx;refine aa.eq (Bv x1 v' _) (Ext.two λJ hJ=>(ae.kH (Br.T (Ld.q ?_))));refine av.q ?_;refine aM.IN (ke:=kq) (k:=q) (vr:=Im) (x:=x1) sg nG we MP rfl λes' cm he=>⟨_,.tail (.tail (.tail (.tail (.tail (.tail (.tail ((cT.head _).bB LB))))))),?_⟩;refine JE.mk (hJ _ λgs=>?_);have hr:S2 x1=qN t S0 (l3 q):=by
    rw[<-pK]
    funext x
    unfold aq.ite;split<;>rfl
   have PZ:x1<2\/x1∈eJ\/K0.hold x1=65535:=FZ;exact aN.mk (.skip (.skip .tail)) ⟨K2,S2,eJ,es',cm,V4,WX,C2,rfl,⟨gP.ks,gP.cA,gP.Wa,_,he,λy hy=>(k9 hy).elim (λe=>by rw[e];exact⟨hr,PZ⟩) (λhy=>Oc y hy)⟩,tX.E4 zO,.inl ⟨x1,rfl,hr,PZ⟩⟩
  have uS:cF (qN t S0 (l3 q)) (ord.getD (lv af v') 0):=by
   rw[FW];refine xaI λhno=>hx ?_;refine bN.ok.wf.same bN.ok.lv UF l1 l2 λx=>?_;rw[e1,AV,ec,ec];exact(bT hno x false).trans (bT hno x true).symm
  have b1':=bN.ok.below bN.od (l:=lv af v'+1) l1 zO (by rw[e1];exact i1);have b2':=bN.ok.below bN.od (l:=lv af v'+1) l2 zO (by rw[AV];exact i2);have KT:∀g,aA K0.n ord (λg=>g=ite S2 ⟨v',x1,x2⟩) g->U g:=by rw[pK];exact hU
  refine aa.fq (args:=#[ptr bw,iv (v':Int),u32 x1,u32 x2]) (Mc bN (v:=v') (by rw[n2];exact hv.lt) l1 l2 hx ⟨by omega,by omega⟩ gP.Wa (by have:=gP.cA.oe bN;omega)) ?_;rintro w H (⟨r,K3,S3,C3,vm3,CM3,rfl,rfl,fG,mk,OC⟩|⟨rfl,rfl,RP,hT⟩|⟨r,rfl,rfl,hlr,Iw,hfull,yD⟩)
  ·refine Ext.two λJ hJ=>(ae.kH (Br.T (Ld.q ?_)));refine av.q ?_;refine aM.IN (ke:=kq) (k:=q) (vr:=Im) (x:=r) sg nG we MP rfl λes' cm he=>⟨_,.tail (.tail (.tail (.tail (.tail (.tail (.tail ((cT.head _).bB LB))))))),?_⟩;refine JE.mk (hJ _ λgs=>?_);have hr:S3 r=qN t S0 (l3 q):=mk.is.trans pK;have wu:2<=r:=xcM λh=>by
    obtain⟨x,hx⟩:=uS;apply hx;rw[<-hr];have RG:=fG.ok.mid.int;have:r=0\/r=1:=by omega
    rcases this with rfl|rfl
    ·rw[RG.zero,RG.zero]
    rw[RG.one,RG.one]
   have iR:=gP.cA.step bN mk wu KT;have Gd:eY K2 S2 eJ K3 S3 (eJ++[r]) 1:=⟨mk.N,mk.fn,[r],rfl,xak _⟩;have PZ:r<2\/r∈eJ++[r]\/K0.hold r=65535:=.inr (.inl zI);refine aN.mk (.skip (.skip .tail)) ⟨K3,S3,eJ++[r],es',cm,vm3,CM3,C3,rfl,⟨⟨[],fG,.inl rfl⟩,iR,OC,_,he,λy hy=>(k9 hy).elim (λe=>by rw[e];exact⟨hr,PZ⟩) (λhy=>?_)⟩,(tX.trans Gd).E4 zO,.inl ⟨r,rfl,hr,PZ⟩⟩;obtain⟨k1,k2⟩:=Oc y hy;exact⟨by rw[Gd.fn y.2 (X9 y hy),k1],k2.imp id (Or.imp Gd.mem id)⟩
  ·refine Ext.two λJ hJ=>(ae.kH (Br.F (JE.mk (hJ _ λgs=>?_))));refine aN.mk (.skip (.skip .tail)) ⟨K2,S2,eJ,Gt,LP,V4,WX,C2,rfl,gP,tX.E4 zO,.inr ⟨rfl,?_⟩⟩;rintro⟨ku,Kq,hfit⟩;have:=bN.ok.roomFor bN.od Kq (by rw[gP.cA.cap];exact hfit) (by rw[n2];exact gP.cA.U) (d:=⟨v',x1,x2⟩) l1 l2 hx (by rw[n2];exact hv.lt) ⟨by show lv af v'<dep K2.n (lv af) K2.N x1;omega,by show lv af v'<dep K2.n (lv af) K2.N x2;omega⟩ (KT _ (by rw[pK];exact mw pL gv uS)) hT;omega
  refine Ext.two λJ hJ=>(ae.kH (Br.T (Ld.q ?_)));refine av.q ?_;refine aM.IN (ke:=kq) (k:=q) (vr:=Im) (x:=r) sg nG we MP rfl λes' cm he=>⟨_,.tail (.tail (.tail (.tail (.tail (.tail (.tail ((cT.head _).bB LB))))))),?_⟩;refine JE.mk (hJ _ λgs=>?_);have hr:S2 r=qN t S0 (l3 q):=yD.trans pK;have PZ:r<2\/r∈eJ\/K0.hold r=65535:=.inr (gP.cA.full hfull);exact aN.mk (.skip (.skip .tail)) ⟨K2,S2,eJ,es',cm,V4,WX,C2,rfl,⟨gP.ks,gP.cA,gP.Wa,_,he,λy hy=>(k9 hy).elim (λe=>by rw[e];exact⟨hr,PZ⟩) (λhy=>Oc y hy)⟩,tX.E4 zO,.inl ⟨r,rfl,hr,PZ⟩⟩
end
section
variable {kp bw:Nat} {vl vm:zV} {K:Kd} {S:Nat->aq.Fn} {ord af tr:zL} {C:Hp}
theorem vp{Y:Hp}{vr:zV}{refs:zL}(hK:br kp K S ord af tr C)(hr:cR .u32 Y vr (iw refs))(hl:∀r∈refs,live K.N r)(cO:refs.length<=1048576):
  Fc zQ 109 #[ptr kp,vr] (Y++C) (λw H=>∃bw vl CL lvl,w=.tuple #[ptr bw,iv 0]/\H=eZ bw kp vl (.slice none 0 0)::(CL++(Y++C))/\aL 3 .i64 vl (iw lvl) CL/\lvl.length=K.n/\∀v,v<K.n->lvl.getD v 0=lv af v):=by
 have hn:K.n<=64:=hK.at'.Ab;have jD:=hK.od;refine aS λg=>Dl (ae.bf (Br.no (hr.bH ?_)));rw[ag];refine⟨λvs H=>∃i:Nat,vs=[iv (i:Int)]/\i<=refs.length/\H=Y++C,λvs _=>refs.length-bL vs 0,JE.mk ⟨0,rfl,xaK _,rfl⟩,?_⟩;rintro w7 H ⟨i,⟨⟩,hi,rfl⟩ gs;refine ae.fe (Br.dec (λhlt=>?_) (λhlt=>?_))
 ·have hlr:=hl _ (xaB hlt);refine hr.ld (n:=((refs[i]:Nat):Int)) (cc (xab hlt)) (λ_ h=>xac _ h) ?_;refine aa.eq (args:=#[ptr kp,u32 refs[i]]) (gg hK.rep (by have:=hK.bp hlr;omega)) ?_;rw[bF.2 hlr];refine Ext.two λb15 _=>(St.whole (r:=got K.N refs[i]) (by exact .head _) rfl (aF _ _).1 (aF _ _).2 ?_);exact ae.dz (Br.F (ae.inc (az.of .tail ⟨i+1,rfl,hlt,rfl⟩ (by simp only[bL];omega))))
 refine aa.eq (fw hK.rep) (cW.ints zO zO λbl=>?_);refine Build.mk (cs:=[ptr kp,.slice (some ⟨bl,0,none⟩) K.n K.n,.slice none 0 0]) zK λbw _=>?_;refine aa.fq (pE hK.rep) ?_;rintro vo H ⟨N,rfl,ho⟩;refine ho.bH ?_;rw[ag,jD.len];have hz:List.replicate K.n (0:Int)=iw (List.replicate K.n 0):=by simp[iw]
 have hm:=aL.made (T:=3) (kd:=.i64) (b:=bl) (iw (List.replicate K.n 0));rw[ag,xcz]at hm;rw[hz];generalize hvl:Value.slice (some ⟨bl,0,none⟩) K.n K.n=vl at*;refine⟨λvs H=>∃(i:Nat) (L:zL) (CL:Hp),vs=[iv (i:Int)]/\i<=K.n/\H=eZ bw kp vl (.slice none 0 0)::(CL++(Y++(N++C)))/\aL 3 .i64 vl (iw L) CL/\L.length=K.n/\∀j,j<i->L.getD (ord.getD j 0) 0=j,λvs _=>K.n-bL vs 0,
  JE.mk ⟨0,_,_,rfl,xaK _,rfl,hm,by simp,λj hj=>absurd hj (xcg _)⟩,?_⟩
 rintro w34 H ⟨i,L,CL,⟨⟩,hi,rfl,hL,YW,hLo⟩ gs;refine ae.fe (Br.dec (λhlt=>?_) (λhlt=>?_))
 ·have mF:=(jD.at' i hlt).1;refine ho.ld (x:=((ord.getD i 0:Nat):Int)) (bc (by rw[jD.len];exact hlt)) (λ_ h=>.tail _ (xaa _ (xaa _ (xac _ h)))) (Ld.n ?_);refine hL.jW (x:=(i:Int)) (.cons .left) (by rw[ag];omega) λVZ Qd=>?_;rw[er]at Qd;refine ae.inc (az.mk ⟨i+1,L.set (ord.getD i 0) i,VZ,rfl,hlt,rfl,Qd,by simp[YW],λj hj=>?_⟩ (by simp only[bL];omega));by_cases e:j=i
  ·subst e;rw[xah,xbD zO];rfl
  have hj':j<i:=by omega
  have hne:ord.getD i 0≠ord.getD j 0:=λh=>by
   have a:=(jD.at' i hlt).2;have b:=(jD.at' j zO).2;rw[h,b]at a;exact e a
  rw[xah,xbA hne,<-xah,hLo j hj']
 obtain rfl:i=K.n:=by omega
 refine aN.mk (.cons (.cM (.cM .right _) _)) ⟨bw,vl,CL,L,rfl,rfl,hL,YW,λv hv=>?_⟩;have h1:=hLo (lv af v) (hK.ok.lv.lt v hv);rwa [jD.of hK.ok.lv hv]at h1
structure EU(K K':Kd)(made:zL)(x:Nat)(ok:Bool):Prop where
 n:K'.n=K.n
 cap:K'.cap=K.cap
 N:∀s d,K'.N s=some d->K.N s=some d
 hold:∀s,K'.hold s+made.count s=K.hold s+if ok=true/\s=x/\2<=x then 1 else 0
theorem Pd{X CM:Hp}{made:zL}{x:Nat}{ok fu:Bool}(hK:br kp K S ord af tr C)(hM:aL 27 .u32 vm (iw made) CM)(hc:∀s,made.count s<=K.hold s)(h2:∀s∈made,2<=s)(MS:∀s∈made,s<4294967296)(hx:ok=true->((x<2\/x∈made)↔fu=false))(cO:made.length<=1099511627776):
  Fc zQ 141 #[ptr bw,u32 x,iv (if ok then 0 else 9)] (eZ bw kp vl vm::(X++(CM++C))) (λw H=>∃K' C' di,w=.tuple #[u32 (if ok&& !fu then x else 0),iv (if ok then(if fu then 8 else 0)else 9)]/\H=eZ bw kp vl (.slice none 0 0)::(X++(CM++C'))/\br kp K' S ord af di C'/\(di=[]\/(di=tr/\((ok&& !fu)=true->made≠[])))/\EU K K' made x (ok&& !fu)):=by
 refine aS λg=>Cy (ae.bA (b:=0) (dr.or (decide (x=1)) (λ_=>ae.bA (b:=1) ⟨rfl,rfl⟩) zI λgs=>?_));rw[<-xbO];refine Ld.n (hM.bH ?_);rw[ag];refine⟨λvs H=>∃(i:Nat) (Ki:Kd) (Ci:Hp) (Pp:zL) (kept:Bool),vs=[.bool kept,iv (i:Int)]/\i<=made.length/\H=eZ bw kp vl vm::(X++(CM++Ci))/\br kp Ki S ord af Pp Ci/\(Pp=[]\/Pp=tr)/\Ki.n=K.n/\Ki.cap=K.cap/\(∀s d,Ki.N s=some d->K.N s=some d)/\
   (∀s,Ki.hold s+(made.take i).count s=K.hold s+if kept=true/\s=x/\2<=x then 1 else 0)/\(x<2->kept=true)/\(kept=true->x<2\/(ok=true/\x∈made.take i))/\(ok=true->x∈made.take i->kept=true),λvs _=>made.length-bL vs 1,
  JE.mk ⟨0,K,C,tr,_,rfl,xaK _,rfl,hK,.inr rfl,rfl,rfl,λ_ _ h=>h,λs=>?_,λh=>xaA zO,λh=>.inl (by have:=xbK h;omega),λ_ h=>by simp at h⟩,?_⟩
 ·rw[List.take_zero,xdo,xad (λh=>by have:=xbK h.1;omega)]
 rintro W3 w14 H ⟨i,Ki,Ci,Pp,kept,⟨⟩,hi,rfl,Ta,NZ,hn,hcap,hN,hh,iT,q7,nW⟩ gs;refine ae.fe (Br.dec (λhlt=>?_) (λhlt=>?_))
 ·intro J hJ;have kQ:made.take (i+1)=made.take i++[made[i]]:=xa7 hlt;have Yq:made[i]∈made:=xaB hlt;have kM:(made.take i).count made[i]+1<=made.count made[i]:=by
   have h1:=(xdT (i+1) made).count_le made[i];rw[kQ,xaX,List.count_singleton_self]at h1;exact h1
  refine hM.ld (x:=((made[i]:Nat):Int)) (cc (xab hlt)) (λ_ h=>.tail _ (xaa _ (xac _ h))) ?_;generalize hf:made[i]=f at*;refine ae.bA (dr.and (!kept) (λ_=>Un.not ⟨rfl,rfl⟩) zI λgs=>?_);refine dr.and ok (λ_=>ae.kH ⟨rfl,by cases ok<;>rfl⟩) zI λgs=>?_;refine Br.mk (λhb=>?_) (λhb=>?_)
  ·simp only[xay,xaO,xbx]at hb;obtain⟨⟨rfl,Wl⟩,hok⟩:=hb;refine JE.mk (hJ _ _ λgs=>?_);refine ae.inc (az.mk ⟨i+1,Ki,Ci,Pp,true,rfl,hlt,rfl,Ta,NZ,hn,hcap,hN,λs=>?_,λ_=>rfl,λ_=>.inr ⟨hok,by rw[kQ];simp⟩,λ_ _=>rfl⟩ (by simp only[bL];omega));have h0:=hh s;rw[kQ,xaX,xbB];rw[xad (λh=>by rw[Wl]at h;cases h.1)]at h0;by_cases e:s=f
   ·subst e;have:=h2 s Yq;simp[this];omega
   have:(f==s)=false:=by simpa using λe'=>e e'.symm
   simp[e,this];omega
  refine Ld.n ?_;have hhf:Ki.hold f≠0:=by
   have h0:=hh f;have:=hc f;split at h0<;>omega
  refine aa.fq (args:=#[ptr kp,u32 f]) (ki Ta (r:=f) (MS f Yq) (λ_=>hhf)) ?_;rintro w C2 ⟨rfl,K2,bN,f2⟩;refine JE.mk (hJ _ _ λgs=>?_);refine ae.inc (az.mk ⟨i+1,K2,C2,[],kept,rfl,hlt,rfl,bN,.inl rfl,f2.n.trans hn,f2.cap.trans hcap,λs d hd=>hN s d (f2.N s d hd),λs=>?_,iT,λh=>(q7 h).imp id (λh=>⟨h.1,by rw[kQ];exact xac _ h.2⟩),λh1 h3=>?_⟩ (by simp only[bL];omega))
  ·have h0:=hh s;rw[f2.hold,kQ,xaX,xbB];by_cases e:s=f
   ·subst e;have:=h2 s Yq;simp[this];omega
   have:(f==s)=false:=by simpa using λe'=>e e'.symm
   simp[e,this];omega
  rw[kQ,xal,xaL]at h3;rcases h3 with h3|h3
  ·exact nW h1 h3
  subst h3;cases hkk:kept
  ·rw[hkk,h1]at hb;simp at hb
  rfl
 obtain rfl:i=made.length:=by omega
 rw[xbh]at hh q7 nW;refine Nil.ptr (ah.mk (St.one (by exact .head _) rfl zI rfl ?_));intro J hJ;refine ae.dz ?_;cases ok with
 |false=>
  refine Br.T ?_;have hE:EU K Ki made x false:=⟨hn,hcap,hN,λs=>by
   have h0:=hh s;rw[xad (λh=>by cases h.1)];rw[xad (λh=>by
    rcases q7 h.1 with h3|h3
    ·omega
    cases h3.1)]at h0
   exact h0⟩
  refine aN.here ⟨Ki,Ci,Pp,?_,rfl,Ta,NZ.imp id λh=>⟨h,λh=>by cases h⟩,hE⟩;rfl
 |true=>
  have hx:=hx rfl;cases fu with
  |true=>
   have Wl:kept=false:=by
    cases hkk:kept
    ·rfl
    have:(true=false):=hx.1 ((q7 hkk).imp id λh=>h.2);cases this
   refine Br.F ?_;rw[Wl];refine Un.not (Br.yes (aN.here ⟨Ki,Ci,Pp,rfl,rfl,Ta,NZ.imp id λh=>⟨h,λh=>by cases h⟩,⟨hn,hcap,hN,λs=>?_⟩⟩));have h0:=hh s;rw[Wl]at h0;rw[xad (λh=>by cases h.1)]at h0⊢;exact h0
  |false=>
  have hx:=hx.2 rfl;have yw:kept=true:=by
   rcases hx with h|h
   ·exact iT h
   exact nW rfl h
  refine Br.F ?_;rw[yw];refine Un.not (Br.no ?_);have hE:∀K3:Kd,K3.n=Ki.n->K3.cap=Ki.cap->K3.N=Ki.N->(∀s,K3.hold s=Ki.hold s)->EU K K3 made x true:=λK3 a1 a2 a3 a4=>⟨a1.trans hn,a2.trans hcap,by rw[a3];exact hN,λs=>by rw[a4,hh s,yw]⟩;refine ae.bA (b:=0) (dr.or (decide (x=1)) (λ_=>ae.bA (b:=1) ⟨rfl,rfl⟩) zI λgs=>?_);rw[<-xbO];refine Br.dec (λF5=>?_) (λF5=>?_)
  ·refine Ld.n ?_;refine aa.fq (mE Ta (r:=x) (.inl zO) (λh=>by omega)) ?_;rintro w C3 ⟨rfl,K3,fG,mo⟩;refine JE.mk (hJ _ λgs=>aN.here ⟨K3,C3,[],by simp,rfl,fG,.inl rfl,hE K3 mo.n mo.cap mo.N λs=>?_⟩);rw[mo.hold,xad zO]
  refine JE.mk (hJ _ λgs=>aN.here ⟨Ki,Ci,Pp,by simp,rfl,Ta,NZ.imp id λh=>⟨h,λ_ hm=>?_⟩,hE Ki rfl rfl rfl λ_=>rfl⟩);rcases hx with h|h
  ·omega
  rw[hm]at h;cases h
end
theorem TQ{α:Type}(a b c d e f g h:α)(L R:List α):(a::b::c::d::e::f::g::h::(L++R)).Perm (g::d::e::b::h::f::a::(L++c::R)):=by
 classical
 rw[xcQ];intro x;simp only[xaX,xck];omega
def kA(kp:Nat)(K:Kd)(S:Nat->aq.Fn)(ord af tr:zL)(f:aq.Fn)(w:zV)(H:Hp):Prop:=
 (∃x K' S',w=.tuple #[u32 x,iv 0]/\br kp K' S' ord af [] H/\dS K S K' S' f x)\/
 (w=.tuple #[u32 0,iv 9]/\(∃K' S' di,br kp K' S' ord af di H/\(di=[]\/di=tr)/\Kept K S K' S')/\¬Fits (aA K.n ord (λg=>K.held S g\/g=f)) K.cap)
def kK(kp:Nat)(K:Kd)(S:Nat->aq.Fn)(ord af tr:zL)(f:aq.Fn)(w:zV)(H:Hp):Prop:=
 kA kp K S ord af tr f w H\/(w=.tuple #[u32 0,iv 8]/\(∃K' S' di,br kp K' S' ord af di H/\(di=[]\/di=tr)/\Kept K S K' S')/\∃r,2<=r/\K.hold r=65535/\S r=f)
theorem kK.small{kp:Nat}{K:Kd}{S:Nat->aq.Fn}{ord af tr:zL}{f:aq.Fn}{w:zV}{H:Hp}(h:kK kp K S ord af tr f w H)(hB:∀s,K.hold s<65535):kA kp K S ord af tr f w H:=by
 rcases h with h|⟨_,_,r,_,h,_⟩
 ·exact h
 have:=hB r;omega
section
variable {kp bw:Nat} {vl fv:zV} {K:Kd} {S:Nat->aq.Fn} {ord af tr lvl:zL} {LB CL C:Hp} {t:Bool->Bool->Bool->Bool}
theorem EI(hK:br kp K S ord af tr C)(WG:wT fv LB t)(Qg:aL 3 .i64 vl (iw lvl) CL)(uQ:lvl.length=K.n)(hlv:∀v,v<K.n->lvl.getD v 0=lv af v)(q:Q3)(hq:∀r∈l3 q,live K.N r){c:Nat}(hT:Tree K.n (lv af) K.N (l3 q) c):
  Fc zQ 110 #[ptr bw,kq q,fv] (LB++(eZ bw kp vl (.slice none 0 0)::(CL++C))) (kK kp K S ord af tr (qN t S (l3 q))):=by
 have hrb:bg zQ 142=true:=by kernel_rfl
 obtain⟨fl,Zq,adQ,Kz,hfr⟩:=WG.is;refine aS λg=>Dk λb1 _ b3 _ b5 _ b7 _ b9 _ bm _ gz _=>?_;refine St.one (by exact .head _) rfl zI rfl ?_;intro pV _;refine St.one (by exact .head _) rfl zI rfl ?_;refine Ld.q ?_;refine av.q ?_;refine bQ.of rfl hrb (aa.pre (H':=(b9,.cells #[iv 0] 33 zZ)::(b7,.cells #[.int .u32 0] 27 zZ)::Qj gz b1 b5 pV bm bw kp fv vl (.slice none 0 0) LB CL [] C #[] 0) ?_ ?_)
 ·rw[Kz];exact(aG.perm (TQ _ _ _ _ _ _ _ _ _ _)).trans .tail
 have jD:=hK.od;have jj:=hK.ok.wf;have jd:=hK.ok.lv;have mS:=hK.ok.mid.int;have hS:ZF kp K S (aA K.n ord (λg=>K.held S g\/g=qN t S (l3 q))) ord af tr t K S [] #[] 0 (.slice none 0 0) [] C:=
  ⟨⟨tr,hK,.inr ⟨rfl,rfl⟩⟩,.refl λg hg=>aJ (λg h=>.inl h) hg,aL.nil,[],aM.empty,λy hy=>by cases hy⟩
 refine aa.fq (args:=#[kq q,ptr gz,ptr b1,ptr b5,ptr pV]) (R5 hrb WG Qg uQ hlv hK.at'.Ab jj mS jd (λr hr=>by have:=hK.bp hr;omega) (λs hs=>.inr (hK.ok.mid.held s zO)) (Qz:=tr) (l3 q) c hT q rfl K S [] #[] 0 (.slice none 0 0) [] C hS hq (λg hg=>aJ (λg h=>.inr h) hg)) ?_;rintro w H ⟨K1,S1,made,es,ck,vm,CM,C1,rfl,Af,hA,KQ⟩;obtain⟨IU,cj,N6⟩:=Af.ks;have iR:=Af.cA;have hmx:=iR.oe cj;have X3:∀s∈made,s<4294967296:=λs hs=>by have:=cj.bp (iR.fL cj hs);omega
 have hmc:∀s,made.count s<=K1.hold s:=λs=>by rw[iR.hold];omega
 have fin:∀(x:Nat) (ok fu:Bool),w=.tuple #[u32 (if ok then x else 0),iv (if ok then 0 else 9)]->(ok=true->((x<2\/x∈made)↔fu=false))->(∀K2 C2 nT,br kp K2 S1 ord af nT C2->(nT=[]\/(nT=IU/\((ok&& !fu)=true->made≠[])))->EU K1 K2 made (if ok then x else 0) (ok&& !fu)->kK kp K S ord af tr (qN t S (l3 q)) (.tuple #[u32 (if ok&& !fu then(if ok then x else 0)else 0),iv (if ok then(if fu then 8 else 0)else 9)]) C2)->(ok=false->x=0)->
   Ext 0 w λW7=>Ext 1 w λZS=>St 1 ((b9,.cells #[iv 0] 33 zZ)::(b7,.cells #[.int .u32 0] 27 zZ)::Qj gz b1 b5 pV bm bw kp fv vl vm LB CL CM C1 es ck) (ptr b7) W7 λZJ=>St 1 ZJ (ptr b9) ZS λH26=>
   dL zQ g 140 #[ptr b1,ptr b7,ptr b9] H26 λZI=>Ld ZI (ptr b7) λv28=>Ld ZI (ptr b9) λv29=>aN (kK kp K S ord af tr (qN t S (l3 q))) (.returned (.tuple #[v28,v29])) ZI:=by
  intro x ok fu hw hx hd h0;subst hw;refine Ext.two (St.one (by exact .tail (.head _)) rfl zI rfl ?_);refine St.one (by exact .head _) rfl zI rfl ?_;refine zy (R:=_) ?_;unfold L140;refine Ld.q ?_;refine Ld.q ?_;refine Ld.q ?_;refine aa.fq (Pd (X:=CL) (x:=if ok then x else 0) (ok:=ok) (fu:=fu) cj Af.Wa hmc iR.two X3 (λh=>by rw[xae h];exact hx h) zO) ?_;rintro w H ⟨K2,C2,nT,rfl,rfl,bN,tR,hE⟩;refine Ext.two (St.one (by exact .tail (.head _)) rfl zI rfl ?_);refine St.one (by exact .head _) rfl zI rfl ?_;refine⟨⟨_,rfl⟩,?_⟩;refine Ld.q ?_;refine Ld.q ?_;exact aN.mk (.skip (.skip (.skip (.skip (.skip (.skip (aG.right.trans (.skip (.skip (aG.right.trans .right)))))))))) (hd K2 C2 nT bN tR hE)
 have nV:∀s,K.hold s≠0->live K.N s:=λs hs=>.inr (hK.ok.mid.held s hs);rcases KQ with⟨x,rfl,hx,Ub⟩|⟨rfl,hno⟩
 ·by_cases Wd:x<2\/x∈made;rotate_left
  ·have AV:2<=x:=by omega
   have hfull:K.hold x=65535:=by
    rcases Ub with h|h|h
    ·exact absurd (.inl h) Wd
    ·exact absurd (.inr h) Wd
    exact h
   refine fin x true true rfl (λ_=>⟨λh=>absurd h Wd,λh=>by cases h⟩) (λK2 C2 nT bN tR hE=>.inr ⟨rfl,⟨K2,S1,nT,bN,?_,?_⟩,x,AV,hfull,?_⟩) (λh=>by cases h)
   ·rcases tR with h|⟨h,_⟩
    ·exact .inl h
    rcases N6 with h2|⟨h2,_⟩
    ·exact .inl (h.trans h2)
    exact .inr (h.trans h2)
   ·have eL:∀s,K2.hold s=K.hold s:=λs=>by
     have a:=hE.hold s;have b:=iR.hold s;rw[xad (λh=>by cases h.1)]at a;omega
    refine⟨hE.n.trans iR.n,hE.cap.trans iR.cap,eL,λg=>?_,λr hr=>iR.fn r (nV r hr)⟩;constructor
    ·rintro⟨s,hs,rfl⟩;have hs':K.hold s≠0:=by rw[<-eL];exact hs
     exact⟨s,hs',iR.fn s (nV s hs')⟩
    rintro⟨s,hs,rfl⟩;exact⟨s,by show K2.hold s≠0;rw[eL];exact hs,(iR.fn s (nV s hs)).symm⟩
   rw[<-hx];exact(iR.fn x (nV x zO)).symm
  refine fin x true false rfl (λ_=>⟨λ_=>rfl,λ_=>Wd⟩) (λK2 C2 nT bN tR hE=>.inl (.inl ⟨x,K2,S1,rfl,?_,?_⟩)) (λh=>by cases h)
  ·have:nT=[]:=by
    rcases tR with h|⟨h,h'⟩
    ·exact h
    rcases N6 with h2|⟨_,h2⟩
    ·rw[h,h2]
    exact absurd h2 (h' rfl)
   rw[this]at bN;exact bN
  have eL:∀s,K2.hold s=K.hold s+if s=x/\2<=x then 1 else 0:=λs=>by
   have a:=hE.hold s;have b:=iR.hold s;simp only[Bool.not_false,xdQ,xa0,xb1]at a;omega
  have hl:live K2.N x:=by
   by_cases h2:x<2
   ·exact .inl h2
   refine .inr (bN.ok.mid.held x ?_);rw[eL,xae ⟨rfl,by omega⟩];omega
  exact⟨hE.n.trans iR.n,hE.cap.trans iR.cap,λs d hs=>ir hK.ok bN.ok (λs h=>by rw[eL];omega) (λs d d' h h'=>by
   have a:=hE.N s d' h';rw[iR.N s d h]at a;exact(xbt a).symm) _ s d hs (xak _),λs hs=>iR.fn s hs,hl,hx,eL⟩
 refine fin 0 false false rfl (λh=>by cases h) (λK2 C2 nT bN tR hE=>.inl (.inr ⟨rfl,⟨K2,S1,nT,bN,?_,?_⟩,hno⟩)) (λ_=>rfl)
 ·rcases tR with h|⟨h,_⟩
  ·exact .inl h
  rcases N6 with h2|⟨h2,_⟩
  ·exact .inl (h.trans h2)
  exact .inr (h.trans h2)
 have eL:∀s,K2.hold s=K.hold s:=λs=>by
  have a:=hE.hold s;have b:=iR.hold s;rw[xad (λh=>by cases h.1)]at a;omega
 refine⟨hE.n.trans iR.n,hE.cap.trans iR.cap,eL,λg=>?_,λr hr=>iR.fn r (nV r hr)⟩;constructor
 ·rintro⟨s,hs,rfl⟩;have hs':K.hold s≠0:=by rw[<-eL];exact hs
  exact⟨s,hs',iR.fn s (nV s hs')⟩
 rintro⟨s,hs,rfl⟩;exact⟨s,by show K2.hold s≠0;rw[eL];exact hs,(iR.fn s (nV s hs)).symm⟩
end
end
end Go.Proofs
namespace Go.Sx
open Go
section
variable {P:Program} {g:Gh}
theorem Build.three{t e:TypeId}{q:IntKind}{x y z:Int}{K:zV->Prop}(ht:P.underlying t=some (.array 3 e))(hz:cy P e=some 1)(h0:dG P t=some (.agg (au q [0,0,0])))(h:K (.agg (au q [x,y,z]))):
  Build P t [(0,.int q x),(1,.int q y),(2,.int q z)] K:=by
 refine⟨_,λw=>?_,h⟩;obtain⟨i,hi,hs⟩:=aV hz;obtain⟨i0,RH,SG⟩:=cz h0;simp only[Instr.build,Sem.run_bind,dw RH SG,Result.andThen_ok,run_underlying ht,run_sizeOf hi,hs];simp[Instr.fill,Value.cells,au]
theorem Build.Tz{t e:TypeId}{q:IntKind}{x y:Int}{K:zV->Prop}(ht:P.underlying t=some (.array 3 e))(hz:cy P e=some 1)(h0:dG P t=some (.agg (au q [0,0,0])))(h:K (.agg (au q [x,y,0]))):
  Build P t [(0,.int q x),(1,.int q y)] K:=by
 refine⟨_,λw=>?_,h⟩;obtain⟨i,hi,hs⟩:=aV hz;obtain⟨i0,RH,SG⟩:=cz h0;simp only[Instr.build,Sem.run_bind,dw RH SG,Result.andThen_ok,run_underlying ht,run_sizeOf hi,hs];simp[Instr.fill,Value.cells,au]
end
end Go.Sx
